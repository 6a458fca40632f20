/- A part of the proofs about the chapter of the vaults; it states no condition of its own. -/
import Derived.Test.YtijcmgfblpokhaaB45
import Derived.Laws.Cover3
set_option linter.unusedVariables false
set_option linter.unusedSimpArgs false
/- Copies that may be nil, on values. (Vm) -/
namespace Go.Proofs.Ytijcmgfblpokhaa.Vm
open Go Go.Proofs
theorem run_eql_nil {P : Program} (w : World) (t e : TypeId) (a : Option Addr) (l c : Nat) (h : P.underlying t = some (.slice e)) : (binOp .eql t (.slice a l c) (.slice none 0 0)).run P w = .ok (.bool a.isNone) w := by
  simp only [binOp]
  simp [run_equal_slice_nil w t e a l c h]
/-- a slice is compared with nil -/
theorem W_niltest {cx : Cx} {e : Env} {M : Mem} {D : List Nat} {Q : PQ} {id d0 d1 x k t yt et ty0 ty1 : Nat} {p0 p1 : String} {af0 af1 : Array Edge} {xs : List (List PV)} (ht : Try.prog.underlying t = some (.slice et)) (hx : get e x = .p (.sl k xs)) (h0 : d0 < cx.nt) (h1 : d1 < cx.nt)
    (h : ∀ b, (b = true → xs = []) → Q .normal ((d1, vb b) :: (d0, .p (.sl k xs)) :: e) M D) :
    WCode Try.prog cx (.region id #[{ dst := some d0, op := .move (.tmp x), type := ty0, pos := p0, after := af0, guard := none }, { dst := some d1, op := .binOp .eql t (.tmp d0) (.const (.slice none 0 0)) yt, type := ty1, pos := p1, after := af1, guard := none }] false) e M D Q := by
  intro G w K a hs
  refine wpIn_region ?_
  show wpOpsIn (fence (cx.rd.bind K)) 0 Try.prog _ _ (List.range' 0 2) a w
  simp only [List.range'_succ, List.range'_zero, wpOpsIn, List.getElem?_toArray, List.getElem?_cons_zero, List.getElem?_cons_succ, Region.wanted, if_true]
  refine wop_ok (T := T) (o := { dst := some d0, op := .move (.tmp x), type := ty0, pos := p0, after := af0, guard := none }) T_ok hs.fr hs.inv (Qv := fun v M' => v = .p (.sl k xs) ∧ M' = M) (by show _ ∧ _; exact ⟨hx, rfl⟩) ?_
  rintro rv v w' K' M' ⟨rfl, rfl⟩ hr hc hE hI
  obtain ⟨hf', hd'⟩ := put_ok (hs.fr.ext hE) (dst := some d0) (e' := (d0, .p (.sl k xs)) :: e) (by simp [vput, nat_blt, h0]) hr hc
  have hr0 := (hf'.ev (.tmp d0)).1
  rw [show ev ((d0, .p (.sl k xs)) :: e) (.tmp d0) = .p (.sl k xs) by simp [ev, get_cons]] at hr0
  refine ⟨fun _ _ => trivial, ?_⟩
  rw [Oper.semAt_eq _ _ _ (fun c hc => by cases hc)]
  generalize hv : (a.put (some d0) rv).eval (.tmp d0) = v0 at hr0
  cases hr0 with
  | p _ _ hp =>
  cases hp with
  | sl A c _ b off _ f q1 q2 q3 q4 q5 q6 q7 =>
  have hrun : (execOp (a.put (some d0) rv).eval { dst := some d1, op := .binOp .eql t (.tmp d0) (.const (.slice none 0 0)) yt, type := ty1, pos := p1, after := af1, guard := none }).run Try.prog w' = .ok (.value (.bool A.isNone)) w' := by
    simp only [execOp]
    rw [hv]
    have h9 := run_eql_nil (P := Try.prog) w' t et A xs.length c ht
    exact run_bind_ok h9
  rw [hrun]
  have hb : A.isNone = true → xs = [] := fun hn => by
    cases xs with
    | nil => rfl
    | cons y ys =>
      rw [q4 (by simp)] at hn
      cases hn
  obtain ⟨hf2, hd2⟩ := put_ok (dst := some d1) (e' := (d1, vb A.isNone) :: (d0, .p (.sl k xs)) :: e) (rv := .bool A.isNone) hf' (by simp [vput, nat_blt, h1]) (.p _ _ (.bool _)) (fun r hr => by simp [refs] at hr)
  exact ⟨_, M', K', D, h _ hb, trivial, ⟨hf2, by rw [hd2, hd']; exact df_ext hE hs.df, hI, (rd_ext hE hs.rd).1⟩, hE⟩
theorem clone_v (k : Nat) (l : List (List PV)) (M : Mem) (hk : k = 3 ∨ l = []) (hl : l.length ≤ 1000000) : VC Try.prog 67 [.p (.sl k l)] M (fun r M' => M' = ⟨M.H ++ [.clm l.length 3], M.lg⟩ ∧ r = .so M.H.length 3 l) := by
  have q1 : (l.length * 24 ≤ 140737488355328) = True := eq_true (by omega)
  have q2 : (decide (k = 3) || l.isEmpty) = true := by rcases hk with rfl | rfl <;> simp
  refine VC_keep T_ok (f := 67) (fn := Try.f67) (by kernel_rfl) rfl Try.ntmps67 (by rfl) (by rfl) ?_
  ((repeat refine W_seq ?_); refine W_region0 T_ok ?_)
  simp (maxSteps := 1000000) only [VL, VM, ↓Gd_none, ↓Gd_t, ↓Gd_f, reduceIte, reduceCtorEq, Int.reduceLE, Int.reduceLT, Int.reduceToNat, Int.reduceNeg, Nat.reduceLT, Nat.reduceEqDiff, Nat.reduceAdd, Nat.reduceSub, Nat.reduceMul, Nat.reduceLeDiff]
  (repeat refine W_seq ?_)
  refine W_niltest (k := k) (xs := l) (et := 59) Try.underlying38 rfl (by decide) (by decide) ?_
  intro b hb
  simp only [thenQ]
  cases b
  · ((repeat refine W_seq ?_); refine W_cond (b := false) (by first | rfl | simp only [ev, get_cons, Nat.reduceEqDiff, if_true, if_false, reduceIte]) (fun h => by cases h) (fun _ => ?_))
    ((repeat refine W_seq ?_); refine W_skip ?_)
    simp (maxSteps := 1000000) only [VL, VM, ↓Gd_none, ↓Gd_t, ↓Gd_f, reduceIte, reduceCtorEq, Int.reduceLE, Int.reduceLT, Int.reduceToNat, Int.reduceNeg, Nat.reduceLT, Nat.reduceEqDiff, Nat.reduceAdd, Nat.reduceSub, Nat.reduceMul, Nat.reduceLeDiff]
    ((repeat refine W_seq ?_); refine W_region0 T_ok ?_)
    simp (maxSteps := 1000000) only [VL, VM, ↓Gd_none, ↓Gd_t, ↓Gd_f, reduceIte, reduceCtorEq, Int.reduceLE, Int.reduceLT, Int.reduceToNat, Int.reduceNeg, Nat.reduceLT, Nat.reduceEqDiff, Nat.reduceAdd, Nat.reduceSub, Nat.reduceMul, Nat.reduceLeDiff, q1, q2]
    (repeat refine W_seq ?_)
    exact W_ret ⟨.inr rfl, rfl, [.so M.H.length 3 l], rfl, rfl, rfl⟩
  · have := hb rfl
    subst this
    ((repeat refine W_seq ?_); refine W_cond (b := true) (by first | rfl | simp only [ev, get_cons, Nat.reduceEqDiff, if_true, if_false, reduceIte]) (fun _ => ?_) (fun h => by cases h))
    ((repeat refine W_seq ?_); refine W_region0 T_ok ?_)
    simp (maxSteps := 1000000) only [VL, VM, ↓Gd_none, ↓Gd_t, ↓Gd_f, reduceIte, reduceCtorEq, Int.reduceLE, Int.reduceLT, Int.reduceToNat, Int.reduceNeg, Nat.reduceLT, Nat.reduceEqDiff, Nat.reduceAdd, Nat.reduceSub, Nat.reduceMul, Nat.reduceLeDiff]
    refine W_tok (t := 2) (k := 3) rfl ?_
    (repeat refine W_seq ?_)
    exact W_ret ⟨.inr rfl, rfl, [.so M.H.length 3 []], rfl, rfl, rfl⟩
end Go.Proofs.Ytijcmgfblpokhaa.Vm
