/- A part of the proofs about the chapter of the vaults; it states no condition of its own. -/
import Derived.Test.YtijcmgfblpokhaaB41
import Derived.Test.YtijcmgfblpokhaaB43
import Derived.Test.YtijcmgfblpokhaaB45
import Derived.Test.YtijcmgfblpokhaaB47
import Derived.Test.YtijcmgfblpokhaaB50
import Derived.Test.YtijcmgfblpokhaaB51
set_option linter.unusedVariables false
set_option linter.unusedSimpArgs false
/- The reference's loads, verdicts and what is allowed, on values. (Vm) -/
namespace Go.Proofs.Ytijcmgfblpokhaa.Vm
open Go Go.Proofs
end Go.Proofs.Ytijcmgfblpokhaa.Vm

/- Halls that are copied, compared, and looked at, on values. (Vm) -/
namespace Go.Proofs.Ytijcmgfblpokhaa.Vm
open Go Go.Proofs
end Go.Proofs.Ytijcmgfblpokhaa.Vm

/- Halls that are copied, on values. (Vm) -/
namespace Go.Proofs.Ytijcmgfblpokhaa.Vm
open Go Go.Proofs
theorem addLg_X (id : Nat) (rs : List Nat) (lg : List (Nat × Nat)) : ∃ X, addLg id rs lg = lg ++ X ∧ ∀ e ∈ X, e.1 = id := by
  unfold addLg
  split
  · exact ⟨[], by simp, by simp⟩
  · refine ⟨_, rfl, fun e he => ?_⟩
    obtain ⟨r, _, rfl⟩ := List.mem_map.1 he
    rfl
end Go.Proofs.Ytijcmgfblpokhaa.Vm

/- Lists of halls and layouts, on values. (Vm) -/
namespace Go.Proofs.Ytijcmgfblpokhaa.Vm
open Go Go.Proofs
end Go.Proofs.Ytijcmgfblpokhaa.Vm

/- Ranges over the places of a hall. (Vm) -/
namespace Go.Proofs.Ytijcmgfblpokhaa.Vm
open Go Go.Proofs
/-- the end of a function with a range in it -/
def ownK (T : Tab) (fn : Func) (M : Mem) (Q : VV → Mem → Prop) : PQ := fun ex e M' D => (ex = .normal ∨ ex = .ret) ∧ (∃ X, M'.lg = M.lg ++ X ∧ ∀ e ∈ X, M.H.length ≤ e.1) ∧ ∃ H1 L, vkill M.H.length D M'.H = some (H1 ++ L) ∧ H1.length = M.H.length ∧ ∃ vs, vresL T e ⟨H1 ++ L, M'.lg⟩ fn.results.toList = some vs ∧ ∃ r, frz M.H.length (H1 ++ L) (vtup vs) = r ∧ (∀ x ∈ refs r, x < M.H.length) ∧ Q r ⟨H1, M.lg⟩
theorem VC_ownK {P : Program} {T : Tab} (hT : TabOk P T) {f : Nat} {fn : Func} {c : Code} {nt : Nat} {args : List VV} {M : Mem} {Q : VV → Mem → Prop} (hf : T.fn f = some fn) (hb : fn.body = some c) (hnt : fn.ntmps = nt) (hn : Nat.ble args.length nt = true) (hk : T.keeps f = false)
    (h : WCode P ⟨f, none, nt⟩ c (zipEnv 0 args) M [] (ownK T fn M Q)) :
    VC P f args M Q := by
  subst hnt
  refine VC_fn hT hf hb (Nat.le_of_ble_eq_true hn) fun hlg => h.mono ?_
  rintro ex e M' D ⟨hex, ⟨X, hl, hX⟩, H1, L, hH, hlen, vs, h1, r, hr, h2, h3⟩
  have key : retQ T f M.H.length fn Q .ret e M' D := by
    simp only [retQ, hH]
    have hM : ({ M' with H := H1 ++ L } : Mem) = ⟨H1 ++ L, M'.lg⟩ := rfl
    rw [hM, h1]
    simp only
    have q1 : M'.lg.filter (fun e => Nat.blt e.1 M.H.length) = M.lg := by
      rw [hl, List.filter_append, List.filter_eq_self.2 fun e he => by rw [Nat.blt_eq]; exact (hlg e he).1, List.filter_eq_nil_iff.2 fun e he => by rw [Nat.blt_eq]; have := hX e he; omega, List.append_nil]
    have q2 : (M.lg.all fun e => Nat.blt e.2 M.H.length) = true := List.all_eq_true.2 fun e he => by rw [Nat.blt_eq]; exact (hlg e he).2
    have q3 : ((refs r).all (Nat.blt · M.H.length)) = true := List.all_eq_true.2 fun x hx => by rw [Nat.blt_eq]; exact h2 x hx
    have q4 : (H1 ++ L).take M.H.length = H1 := by rw [← hlen]; simp
    unfold vfinish
    simp only
    rw [hk, q1, hr, q2, q3, q4]
    exact h3
  rcases hex with rfl | rfl
  · exact key
  · exact key
theorem vkill_one {H L : List VObj} {j : Nat} (h : L[j]? = some .dfr) : vkill H.length [H.length + j] (H ++ L) = some (H ++ L.set j .dead) := by
  have h1 : Nat.ble H.length (H.length + j) = true := by rw [Nat.ble_eq]; omega
  simp only [vkill, h1, cond_true, hget, h, hset]
/-- the end, where memory is as it was, but for marks -/
theorem ownK_ret {T : Tab} {fn : Func} {M : Mem} {L L' : List VObj} {X : List (Nat × Nat)} {D : List Nat} {Q : VV → Mem → Prop} {e : Env} {vs : List VV} (hX : ∀ e ∈ X, M.H.length ≤ e.1) (hD : vkill M.H.length D (M.H ++ L) = some (M.H ++ L')) (h1 : vresL T e ⟨M.H ++ L', M.lg ++ X⟩ fn.results.toList = some vs) (h3 : Q (frz M.H.length (M.H ++ L') (vtup vs)) M) (h2 : refs (frz M.H.length (M.H ++ L') (vtup vs)) = []) : ownK T fn M Q .ret e ⟨M.H ++ L, M.lg ++ X⟩ D :=
  ⟨.inr rfl, ⟨X, rfl, hX⟩, M.H, L', hD, rfl, vs, h1, _, rfl, by simp [h2], h3⟩
theorem ownK_ret0 {T : Tab} {fn : Func} {M : Mem} {L : List VObj} {Q : VV → Mem → Prop} {e : Env} {vs : List VV} (h1 : vresL T e ⟨M.H ++ L, M.lg⟩ fn.results.toList = some vs) (h3 : Q (frz M.H.length (M.H ++ L) (vtup vs)) M) (h2 : refs (frz M.H.length (M.H ++ L) (vtup vs)) = []) : ownK T fn M Q .ret e ⟨M.H ++ L, M.lg⟩ [] :=
  ⟨.inr rfl, ⟨[], by simp, by simp⟩, M.H, L, rfl, rfl, vs, h1, _, rfl, by simp [h2], h3⟩
theorem rowsOf_get {n wd y x : Nat} (hy : y < n) (hx : x < wd) : (rowsOf n wd)[y * wd + x]? = some ⟨(x : Int), (y : Int)⟩ := by
  induction n with
  | zero => omega
  | succ n ih =>
    rw [rowsOf_succ]
    rcases Nat.lt_or_ge y n with h | h
    · have : y * wd + wd ≤ n * wd := by
        have := Nat.mul_le_mul_right wd (show y + 1 ≤ n by omega)
        rwa [Nat.succ_mul] at this
      rw [List.getElem?_append_left (by rw [rowsOf_len]; omega)]
      exact ih h
    · obtain rfl : y = n := by omega
      rw [List.getElem?_append_right (by rw [rowsOf_len]; omega), rowsOf_len, Nat.add_sub_cancel_left]
      simp [rowOf, hx]
/-- vault.places: a function value -/
theorem placesF_v (h : Ha) (M : Mem) : VC Try.prog 63 [hallV h] M (fun r M' => M' = ⟨M.H ++ [.obj (hallC h)], M.lg⟩ ∧ r = .fn (.func 87) [] [.ptr M.H.length 0]) := by
  refine VC_esc T_ok (f := 63) (fn := Try.f63) (by kernel_rfl) rfl Try.ntmps63 (by rfl) (by rfl) ?_
  ((repeat refine W_seq ?_); refine W_region0 T_ok ?_)
  simp (maxSteps := 1000000) only [VL, VM, ↓Gd_none, ↓Gd_t, ↓Gd_f, reduceIte, reduceCtorEq, Int.reduceLE, Int.reduceLT, Int.reduceToNat, Int.reduceNeg, Nat.reduceLT, Nat.reduceEqDiff, Nat.reduceAdd, Nat.reduceSub, Nat.reduceMul, Nat.reduceLeDiff]
  ((repeat refine W_seq ?_); refine W_region0 T_ok ?_)
  simp (maxSteps := 1000000) only [VL, VM, ↓Gd_none, ↓Gd_t, ↓Gd_f, reduceIte, reduceCtorEq, Int.reduceLE, Int.reduceLT, Int.reduceToNat, Int.reduceNeg, Nat.reduceLT, Nat.reduceEqDiff, Nat.reduceAdd, Nat.reduceSub, Nat.reduceMul, Nat.reduceLeDiff]
  (repeat refine W_seq ?_)
  refine W_ret ⟨.inr rfl, rfl, [.fn (.func 87) [] [.ptr M.H.length 0]], rfl, ⟨M.H.length, by simp [vtup, frz, frzL, refs, refsL], Nat.le_refl _⟩, rfl, rfl⟩
/-- places: what is yielded, place by place -/
theorem places1_v (h : Ha) (wd dp : Nat) (hw : h.wide = wd) (hd : h.deep = dp) (w6 : wd ≤ 1000) (d4 : dp ≤ 1000) (id k : Nat) (M : Mem) {σ : Type} (A : σ → List VObj) (good : Nat → σ → Prop) (s0 : σ) (h0 : good 0 s0) (hA : ∀ s, (A s).length = M.H.length) (hM : M.H = A s0) (hk : ∀ s, (A s)[k]? = some (.obj (hallC h)))
    (round : ∀ i c s junk, (rowsOf dp wd)[i]? = some c → good i s → VCall Try.prog (.yl id) [plV c] ⟨A s ++ junk, M.lg⟩ (fun r M' => r = vb true ∧ ∃ s' junk', M' = ⟨A s' ++ junk', M.lg⟩ ∧ good (i + 1) s')) :
    VC Try.prog 87 [.yl id, .ptr k 0] M (fun r M' => ∃ s, M' = ⟨A s, M.lg⟩ ∧ good (dp * wd) s) := by
  have hkl : ∀ s (junk : List VObj), (A s ++ junk)[k]? = some (.obj (hallC h)) := fun s junk => app_get (hk s) junk
  refine VC_ownK T_ok (f := 87) (fn := Try.f87) (by kernel_rfl) rfl Try.ntmps87 (by rfl) (by rfl) ?_
  obtain ⟨H, lg⟩ := M
  simp only at hM hA round
  subst hM
  have hk0 := hk s0
  ((repeat refine W_seq ?_); refine W_region0 T_ok ?_)
  simp (maxSteps := 1000000) only [VL, VM, ↓Gd_none, ↓Gd_t, ↓Gd_f, reduceIte, reduceCtorEq, Int.reduceLE, Int.reduceLT, Int.reduceToNat, Int.reduceNeg, Nat.reduceLT, Nat.reduceEqDiff, Nat.reduceAdd, Nat.reduceSub, Nat.reduceMul, Nat.reduceLeDiff, hk0, hd]
  ((repeat refine W_seq ?_); refine W_block ?_; (repeat refine W_seq ?_)); refine W_loopS (fun s : Nat × σ × List VObj => [(0, .yl id), (1, .ptr k 0), (6, vi dp), (7, vi s.1)]) (fun s => ⟨A s.2.1 ++ s.2.2, lg⟩) (fun s => dp - s.1) (fun s => s.1 ≤ dp ∧ good (s.1 * wd) s.2.1) (0, s0, []) ⟨Nat.zero_le _, by simpa using h0⟩ ⟨rfl, rfl, rfl, rfl, trivial⟩ (by simp) ?_
  rintro ⟨y, s, junk⟩ ⟨hy, hg⟩
  simp only at hy hg
  have y1 : -9223372036854775808 ≤ (y : Int) + 1 ∧ (y : Int) + 1 < 9223372036854775808 := by omega
  ((repeat refine W_seq ?_); refine W_region0 T_ok ?_)
  rcases Nat.lt_or_ge y dp with hlt | hge
  rotate_left
  · have k2 : ((y : Int) < (dp : Int)) = False := eq_false (by omega)
    obtain rfl : y = dp := by omega
    simp (maxSteps := 1000000) only [VL, VM, ↓Gd_none, ↓Gd_t, ↓Gd_f, reduceIte, reduceCtorEq, Int.reduceLE, Int.reduceLT, Int.reduceToNat, Int.reduceNeg, Nat.reduceLT, Nat.reduceEqDiff, Nat.reduceAdd, Nat.reduceSub, Nat.reduceMul, Nat.reduceLeDiff, k2]
    ((repeat refine W_seq ?_); refine W_cond (b := false) (by first | rfl | simp only [ev, get_cons, Nat.reduceEqDiff, if_true, if_false, reduceIte]) (fun h => by cases h) (fun _ => ?_))
    ((repeat refine W_seq ?_); refine W_exit ?_)
    simp (maxSteps := 1000000) only [VL, VM, ↓Gd_none, ↓Gd_t, ↓Gd_f, reduceIte, reduceCtorEq, Int.reduceLE, Int.reduceLT, Int.reduceToNat, Int.reduceNeg, Nat.reduceLT, Nat.reduceEqDiff, Nat.reduceAdd, Nat.reduceSub, Nat.reduceMul, Nat.reduceLeDiff]
    exact ⟨.inl rfl, ⟨[], by simp, by simp⟩, A s, junk, rfl, hA s, [], rfl, _, rfl, by simp [vtup, frz, frzL, refs, refsL], s, rfl, hg⟩
  have k2 : ((y : Int) < (dp : Int)) = True := eq_true (by omega)
  simp (maxSteps := 1000000) only [VL, VM, ↓Gd_none, ↓Gd_t, ↓Gd_f, reduceIte, reduceCtorEq, Int.reduceLE, Int.reduceLT, Int.reduceToNat, Int.reduceNeg, Nat.reduceLT, Nat.reduceEqDiff, Nat.reduceAdd, Nat.reduceSub, Nat.reduceMul, Nat.reduceLeDiff, k2]
  ((repeat refine W_seq ?_); refine W_cond (b := true) (by first | rfl | simp only [ev, get_cons, Nat.reduceEqDiff, if_true, if_false, reduceIte]) (fun _ => ?_) (fun h => by cases h))
  ((repeat refine W_seq ?_); refine W_skip ?_)
  simp (maxSteps := 1000000) only [VL, VM, ↓Gd_none, ↓Gd_t, ↓Gd_f, reduceIte, reduceCtorEq, Int.reduceLE, Int.reduceLT, Int.reduceToNat, Int.reduceNeg, Nat.reduceLT, Nat.reduceEqDiff, Nat.reduceAdd, Nat.reduceSub, Nat.reduceMul, Nat.reduceLeDiff]
  ((repeat refine W_seq ?_); refine W_block ?_)
  ((repeat refine W_seq ?_); refine W_region0 T_ok ?_)
  simp (maxSteps := 1000000) only [VL, VM, ↓Gd_none, ↓Gd_t, ↓Gd_f, reduceIte, reduceCtorEq, Int.reduceLE, Int.reduceLT, Int.reduceToNat, Int.reduceNeg, Nat.reduceLT, Nat.reduceEqDiff, Nat.reduceAdd, Nat.reduceSub, Nat.reduceMul, Nat.reduceLeDiff]
  ((repeat refine W_seq ?_); refine W_region0 T_ok ?_)
  simp (maxSteps := 1000000) only [VL, VM, ↓Gd_none, ↓Gd_t, ↓Gd_f, reduceIte, reduceCtorEq, Int.reduceLE, Int.reduceLT, Int.reduceToNat, Int.reduceNeg, Nat.reduceLT, Nat.reduceEqDiff, Nat.reduceAdd, Nat.reduceSub, Nat.reduceMul, Nat.reduceLeDiff, hkl, hw]
  ((repeat refine W_seq ?_); refine W_block ?_; (repeat refine W_seq ?_)); refine W_loopS (fun s : Nat × σ × List VObj => [(0, .yl id), (1, .ptr k 0), (3, vi y), (6, vi dp), (7, vi y), (11, vi wd), (12, vi s.1)]) (fun s => ⟨A s.2.1 ++ s.2.2, lg⟩) (fun s => wd - s.1) (fun s => s.1 ≤ wd ∧ good (y * wd + s.1) s.2.1) (0, s, junk) ⟨Nat.zero_le _, by simpa using hg⟩ ⟨rfl, rfl, rfl, rfl, rfl, rfl, rfl, trivial⟩ rfl ?_
  rintro ⟨x, s, junk⟩ ⟨hx, hg⟩
  simp only at hx hg
  have x1 : -9223372036854775808 ≤ (x : Int) + 1 ∧ (x : Int) + 1 < 9223372036854775808 := by omega
  ((repeat refine W_seq ?_); refine W_region0 T_ok ?_)
  rcases Nat.lt_or_ge x wd with hlx | hgx
  rotate_left
  · have k3 : ((x : Int) < (wd : Int)) = False := eq_false (by omega)
    obtain rfl : x = wd := by omega
    simp (maxSteps := 1000000) only [VL, VM, ↓Gd_none, ↓Gd_t, ↓Gd_f, reduceIte, reduceCtorEq, Int.reduceLE, Int.reduceLT, Int.reduceToNat, Int.reduceNeg, Nat.reduceLT, Nat.reduceEqDiff, Nat.reduceAdd, Nat.reduceSub, Nat.reduceMul, Nat.reduceLeDiff, k3]
    ((repeat refine W_seq ?_); refine W_cond (b := false) (by first | rfl | simp only [ev, get_cons, Nat.reduceEqDiff, if_true, if_false, reduceIte]) (fun h => by cases h) (fun _ => ?_))
    ((repeat refine W_seq ?_); refine W_exit ?_)
    simp (maxSteps := 1000000) only [VL, VM, ↓Gd_none, ↓Gd_t, ↓Gd_f, reduceIte, reduceCtorEq, Int.reduceLE, Int.reduceLT, Int.reduceToNat, Int.reduceNeg, Nat.reduceLT, Nat.reduceEqDiff, Nat.reduceAdd, Nat.reduceSub, Nat.reduceMul, Nat.reduceLeDiff]
    ((repeat refine W_seq ?_); refine W_region0 T_ok ?_)
    simp (maxSteps := 1000000) only [VL, VM, ↓Gd_none, ↓Gd_t, ↓Gd_f, reduceIte, reduceCtorEq, Int.reduceLE, Int.reduceLT, Int.reduceToNat, Int.reduceNeg, Nat.reduceLT, Nat.reduceEqDiff, Nat.reduceAdd, Nat.reduceSub, Nat.reduceMul, Nat.reduceLeDiff, y1]
    refine LoopK.mk (y + 1, s, junk) (by simp only; omega) ⟨by simp only; omega, by simp only [Nat.succ_mul]; exact hg⟩ ⟨rfl, rfl, rfl, rfl, trivial⟩ rfl
  have k3 : ((x : Int) < (wd : Int)) = True := eq_true (by omega)
  simp (maxSteps := 1000000) only [VL, VM, ↓Gd_none, ↓Gd_t, ↓Gd_f, reduceIte, reduceCtorEq, Int.reduceLE, Int.reduceLT, Int.reduceToNat, Int.reduceNeg, Nat.reduceLT, Nat.reduceEqDiff, Nat.reduceAdd, Nat.reduceSub, Nat.reduceMul, Nat.reduceLeDiff, k3]
  ((repeat refine W_seq ?_); refine W_cond (b := true) (by first | rfl | simp only [ev, get_cons, Nat.reduceEqDiff, if_true, if_false, reduceIte]) (fun _ => ?_) (fun h => by cases h))
  ((repeat refine W_seq ?_); refine W_skip ?_)
  simp (maxSteps := 1000000) only [VL, VM, ↓Gd_none, ↓Gd_t, ↓Gd_f, reduceIte, reduceCtorEq, Int.reduceLE, Int.reduceLT, Int.reduceToNat, Int.reduceNeg, Nat.reduceLT, Nat.reduceEqDiff, Nat.reduceAdd, Nat.reduceSub, Nat.reduceMul, Nat.reduceLeDiff]
  ((repeat refine W_seq ?_); refine W_block ?_)
  ((repeat refine W_seq ?_); refine W_region0 T_ok ?_)
  simp (maxSteps := 1000000) only [VL, VM, ↓Gd_none, ↓Gd_t, ↓Gd_f, reduceIte, reduceCtorEq, Int.reduceLE, Int.reduceLT, Int.reduceToNat, Int.reduceNeg, Nat.reduceLT, Nat.reduceEqDiff, Nat.reduceAdd, Nat.reduceSub, Nat.reduceMul, Nat.reduceLeDiff]
  ((repeat refine W_seq ?_); refine W_region0 T_ok ?_)
  simp (maxSteps := 1000000) only [VL, VM, ↓Gd_none, ↓Gd_t, ↓Gd_f, reduceIte, reduceCtorEq, Int.reduceLE, Int.reduceLT, Int.reduceToNat, Int.reduceNeg, Nat.reduceLT, Nat.reduceEqDiff, Nat.reduceAdd, Nat.reduceSub, Nat.reduceMul, Nat.reduceLeDiff]
  refine (round (y * wd + x) ⟨x, y⟩ s junk (rowsOf_get hlt hlx) hg).mono ?_
  rintro _ _ ⟨rfl, s', junk', rfl, hg'⟩
  simp (maxSteps := 1000000) only [VL, VM, ↓Gd_none, ↓Gd_t, ↓Gd_f, reduceIte, reduceCtorEq, Int.reduceLE, Int.reduceLT, Int.reduceToNat, Int.reduceNeg, Nat.reduceLT, Nat.reduceEqDiff, Nat.reduceAdd, Nat.reduceSub, Nat.reduceMul, Nat.reduceLeDiff]
  ((repeat refine W_seq ?_); refine W_cond (b := false) (by first | rfl | simp only [ev, get_cons, Nat.reduceEqDiff, if_true, if_false, reduceIte]) (fun h => by cases h) (fun _ => ?_))
  ((repeat refine W_seq ?_); refine W_skip ?_)
  simp (maxSteps := 1000000) only [VL, VM, ↓Gd_none, ↓Gd_t, ↓Gd_f, reduceIte, reduceCtorEq, Int.reduceLE, Int.reduceLT, Int.reduceToNat, Int.reduceNeg, Nat.reduceLT, Nat.reduceEqDiff, Nat.reduceAdd, Nat.reduceSub, Nat.reduceMul, Nat.reduceLeDiff]
  ((repeat refine W_seq ?_); refine W_region0 T_ok ?_)
  simp (maxSteps := 1000000) only [VL, VM, ↓Gd_none, ↓Gd_t, ↓Gd_f, reduceIte, reduceCtorEq, Int.reduceLE, Int.reduceLT, Int.reduceToNat, Int.reduceNeg, Nat.reduceLT, Nat.reduceEqDiff, Nat.reduceAdd, Nat.reduceSub, Nat.reduceMul, Nat.reduceLeDiff, x1]
  refine LoopK.mk (x + 1, s', junk') (by simp only; omega) ⟨by simp only; omega, by simp only; exact hg'⟩ ⟨rfl, rfl, rfl, rfl, rfl, rfl, rfl, trivial⟩ rfl
theorem get_prune_mem {vs : List Nat} {e : Env} {t : Nat} (h : t ∈ vs) : get (prune vs e) t = get e t := by
  unfold prune
  induction vs with
  | nil => cases h
  | cons v vs ih =>
    simp only [List.map_cons, get_cons]
    by_cases h' : t = v
    · rw [if_pos h', h']
    · rw [if_neg h']
      exact ih (by rcases List.mem_cons.1 h with h | h; exact absurd h h'; exact h)
theorem Sub_prune {vs : List Nat} {e : Env} : ∀ {E : Env}, Sub E e → (E.map Prod.fst).all (fun t => vs.contains t) = true → Sub E (prune vs e)
  | [], _, _ => trivial
  | (k, v) :: r, h, hv => by
    simp only [List.map_cons, List.all_cons, Bool.and_eq_true, List.contains_iff_mem] at hv
    exact ⟨(get_prune_mem hv.1).trans h.1, Sub_prune h.2 hv.2⟩
/-- **a range over the places of a hall** -/
theorem W_places {cx : Cx} {e : Env} {M : Mem} {D : List Nat} {Q : PQ} {g : Operand} {p : Nat} {assign body : Code} (hrd : cx.rd = none) {k : Nat} (hg : ev e g = .fn (.func 87) [] [.ptr k 0]) (h : Ha) {wd dp : Nat} (hw : h.wide = wd) (hd : h.deep = dp) (w6 : wd ≤ 1000) (d4 : dp ≤ 1000)
    {σ : Type} (E : Env) (A : σ → List VObj) (good : Nat → σ → Prop) (s0 : σ) (h0 : good 0 s0) (hA : ∀ s, (A s).length = M.H.length) (hM : M.H = A s0) (hk : ∀ s, (A s)[k]? = some (.obj (hallC h))) (hp : Nat.blt p cx.nt = true) (hE : Sub E e) (hv : (E.map Prod.fst).all (fun t => (T.vars cx.fid).contains t) = true)
    (round : ∀ (o o' : VObj) i c s junk, (rowsOf dp wd)[i]? = some c → good i s → WCode Try.prog ⟨cx.fid, some (M.H.length + 1), cx.nt⟩ assign ((p, plV c) :: E) ⟨A s ++ .dfr :: o :: junk, M.lg⟩ []
      (fun ex e' M' D' => ex = .normal ∧ ∃ junk', M' = ⟨A s ++ .dfr :: o :: junk', M.lg⟩ ∧ WCode Try.prog ⟨cx.fid, some (M.H.length + 1), cx.nt⟩ body e' ⟨A s ++ .dfr :: o' :: junk', M.lg⟩ D'
        (fun ex e2 M2 D2 => ex = .normal ∧ ∃ s' junk2, M2 = ⟨A s' ++ .dfr :: o' :: junk2, M.lg⟩ ∧ good (i + 1) s')))
    (fin : ∀ (o : VObj) s, good (dp * wd) s → Q .normal e ⟨A s ++ [.dfr, o], M.lg⟩ (M.H.length :: D)) : WCode Try.prog cx (.rangeFunc g #[p] assign body) e M D Q := by
  obtain ⟨H, lg⟩ := M
  simp only at hA hM round fin
  subst hM
  obtain ⟨Lp, hLp⟩ : ∃ Lp, Lp = mkLoop T cx e #[p] assign body (A s0).length := ⟨_, rfl⟩
  have hget : ∀ (s : σ) (x y : VObj) (junk : List VObj), (A s ++ x :: y :: junk)[(A s0).length + 1]? = some y := fun s x y junk => by
    rw [← hA s, List.getElem?_append_right (by omega)]; simp
  have hset : ∀ (s : σ) (x y z : VObj) (junk : List VObj), (A s ++ x :: y :: junk).set ((A s0).length + 1) z = A s ++ x :: z :: junk := fun s x y z junk => by
    rw [← hA s, List.set_append_right _ _ (by omega)]; simp
  refine W_range T_ok (f := 87) (fn := Try.f87) hrd hg (by kernel_rfl) ?_
  rw [← hLp]
  have hst : (Mem.push (Mem.push ⟨A s0, lg⟩ .dfr) (.lp Lp)) = ⟨A s0 ++ [.dfr, .lp Lp], lg⟩ := by simp [Mem.push]
  rw [hst]
  have hargs : (([] ++ [VV.yl ((A s0).length + 1)] ++ [VV.ptr k 0]).map (sarg T 87)) = [.yl ((A s0).length + 1), .ptr k 0] := by
    have hkf : T.keeps 87 = false := by rfl
    simp [sarg, hkf, strip1]
  show VC Try.prog 87 (([] ++ [VV.yl ((A s0).length + 1)] ++ [VV.ptr k 0]).map (sarg T 87)) _ _
  rw [hargs]
  refine (places1_v h wd dp hw hd w6 d4 ((A s0).length + 1) k ⟨A s0 ++ [.dfr, .lp Lp], lg⟩ (fun s => A s ++ [.dfr, .lp Lp]) good s0 h0 (fun s => by simp [hA]) rfl (fun s => app_get (hk s) _) ?_).mono ?_
  · intro i c s junk hi hgd
    have hm : (A s ++ [.dfr, .lp Lp]) ++ junk = A s ++ .dfr :: .lp Lp :: junk := by simp
    rw [hm]
    refine V_yield (L := Lp) (e0 := (p, plV c) :: prune (T.vars cx.fid) e) (hget s _ _ _) (by rw [hLp]; simp [mkLoop, vputs, hp]) ?_
    have f1 : Lp.fid = cx.fid := by rw [hLp]; rfl
    have f2 : Lp.nt = cx.nt := by rw [hLp]; rfl
    have f3 : Lp.assign = assign := by rw [hLp]; rfl
    have f4 : Lp.body = body := by rw [hLp]; rfl
    rw [f1, f2, f3, f4]
    refine (WCode.weak (round (.lp Lp) (.lp (Lp.with .busy none)) i c s junk hi hgd) ?_).mono ?_
    · intro t
      rw [get_cons, get_cons]
      by_cases ht : t = p
      · rw [if_pos ht, if_pos ht]; exact .inl rfl
      · rw [if_neg ht, if_neg ht]; exact (Sub_prune hE hv).ok t
    · rintro ex e' M' D' ⟨rfl, junk', rfl, hb⟩
      refine ⟨Lp, hget s _ _ _, by rw [hLp]; rfl, ?_⟩
      simp only [Mem.loop, hset]
      have hpd : Lp.pend = none := by rw [hLp]; rfl
      rw [hpd]
      refine hb.mono ?_
      rintro ex e2 M2 D2 ⟨rfl, s', junk2, rfl, hg'⟩
      refine ⟨Lp.with .busy none, hget s' _ _ _, ?_⟩
      simp only [Mem.loop, hset]
      have hback : ∀ L : LoopV, L.st = .ready → L.pend = none → (L.with .busy none).with .ready none = L := fun L h1 h2 => by
        cases L
        simp only at h1 h2
        subst h1 h2
        rfl
      rw [hback Lp (by rw [hLp]; rfl) hpd]
      exact ⟨by trivial, s', junk2, by simp, hg'⟩
  · rintro r M' ⟨s, rfl, hgd⟩
    refine ⟨Lp, hget s _ _ _, by rw [hLp]; rfl, ?_⟩
    have hpd : Lp.pend = none := by rw [hLp]; rfl
    simp only [Mem.loop, hset, hpd]
    exact fin _ s hgd
end Go.Proofs.Ytijcmgfblpokhaa.Vm
