/- A part of the proofs about the chapter of the doors; it states no condition of its own. -/
import Derived.Test.YtmagiabapakhcaaB25
set_option linter.unusedVariables false
set_option linter.unusedSimpArgs false
/- A machine on values: regions whose order is drawn: the rule of code. -/
namespace Go.Proofs.Ytmagiabapakhcaa.Vm
open Go

/-- the variables that come up in a region -/
def zerosOf (T : Tab) : List Oper → Option (List VObj)
  | [] => some []
  | o :: r => match o.op with
    | .alloc t => match T.ty t, zerosOf T r with
      | some y, some zs => some (.obj (y.zero.map ofValue) :: zs)
      | _, _ => none
    | _ => zerosOf T r

section
variable {P : Program} {T : Tab} {G : Ghost} {w : World} {K : Nat → Option Nat} {M : Mem}
theorem virt_aux : ∀ (zs : List VObj) (M : Mem) (K : Nat → Option Nat), Inv G w K M → (∀ o ∈ zs, ∃ cs, o = .obj cs ∧ ∀ c ∈ cs, refs c = []) →
    ∃ K', Ext w K M.H w K' (M.H ++ zs) ∧ Inv G w K' { M with H := M.H ++ zs } ∧ (∀ i, i < M.H.length → K' i = K i) ∧ ∀ i, M.H.length ≤ i → i < (M.H ++ zs).length → K' i = none
  | [], M, K, hI, _ => ⟨K, by simpa using Ext.refl w K M.H, by simpa using hI, fun _ _ => rfl, fun i h1 h2 => by simp at h2; omega⟩
  | o :: zs, M, K, hI, h => by
    obtain ⟨cs, rfl, hcs⟩ := h o (by simp)
    obtain ⟨e1, i1⟩ := step_new hI (Calm.refl w) (fun b _ => rfl) (.obj cs) none (by simp) (fun c hc r hr => by rw [hcs c hc] at hr; cases hr) (fun _ => by intro b hb; cases hb)
    obtain ⟨K', h1, h2, h3, h4⟩ := virt_aux zs (M.push (.obj cs)) _ i1 fun o' ho' => h o' (by simp [ho'])
    have hl : (M.push (.obj cs)).H = M.H ++ [.obj cs] := rfl
    rw [hl, List.append_assoc, List.singleton_append] at h1 h2 h4
    refine ⟨K', e1.trans h1, h2, fun i hi => ?_, fun i hi hlt => ?_⟩
    · rw [h3 i (by simp [hl]; omega), upd_ne _ _ (by omega)]
    · rcases Nat.eq_or_lt_of_le hi with e | e
      · subst e
        rw [h3 _ (by simp [hl]), upd_same]
      · exact h4 i (by simp; omega) hlt
theorem zerosOf_ok : ∀ {l : List Oper} {zs : List VObj}, zerosOf T l = some zs → ∀ o ∈ zs, ∃ cs, o = .obj cs ∧ ∀ c ∈ cs, refs c = []
  | [], zs, h, o, ho => by cases h; simp at ho
  | x :: r, zs, h, o, ho => by
    unfold zerosOf at h
    split at h
    · split at h
      · rename_i y zs' hy hz
        cases h
        rcases List.mem_cons.1 ho with rfl | ho
        · refine ⟨_, rfl, fun c hc => ?_⟩
          obtain ⟨v, _, rfl⟩ := List.mem_map.1 hc
          exact ofValue_refs v
        · exact zerosOf_ok hz o ho
      · cases h
    · exact zerosOf_ok h o ho

/-- **a region whose order is drawn** -/
theorem W_draw_g (hT : TabOk P T) {f : Env → Env} (hf : ∀ e t, get (f e) t = get e t ∨ get (f e) t = .any) {cx : Cx} {e : Env} {D : List Nat} {Q : PQ} {id : Nat} {ops : Array Oper} {infs : List Info} {zs : List VObj} (hp : planOk ops infs = true) (hz : zerosOf T ops.toList = some zs)
    (h : WDraw P T cx.nt ops ops.toList infs e M.H.length { M with H := M.H ++ zs } [] [] fun e' M' => Q .normal (f e') M' D) : WCode P cx (.region id ops true) e M D Q := by
  intro G w K a hs
  simp only [planOk, Bool.and_eq_true] at hp
  obtain ⟨⟨hpl, hch⟩, hnd⟩ := hp
  have hpm := preAll_ok (ops := ops) ops.toList [] (fun j => by simp) (fun k j h => by simp at h)
  have hedge : ∀ (l : List Oper) (infs : List Info) (i k : Nat), (∀ j, l[j]? = ops[i + j]?) → plansOk ops (preAll ops.toList []) (eIdx ops) i k l infs = true → ∀ (j : Nat) (o : Oper), i ≤ j → ops[j]? = some o → j < i + l.length → ∀ ed ∈ o.after, Region.binds .any ed = true → ed.on < j := by
    intro l
    induction l with
    | nil => intro infs i k _ _ j o h1 _ h2; simp at h2; omega
    | cons x l ih =>
      intro infs i k hl hpl j o h1 ho h2 ed he hb
      cases infs with
      | nil => simp [plansOk] at hpl
      | cons inf infs =>
        simp only [plansOk, Bool.and_eq_true] at hpl
        rcases Nat.eq_or_lt_of_le h1 with e | e
        · subst e
          have hx : ops[i]? = some x := by simpa using (hl 0).symm
          rw [ho] at hx
          cases hx
          exact (opPlan_ok hpm hpl.1).edge ed he hb
        · refine ih infs (i + 1) _ (fun j => ?_) hpl.2 j o e ho (by simp at h2; omega) ed he hb
          have := hl (j + 1)
          simpa [Nat.add_assoc, Nat.add_comm 1 j] using this
  have hpre : ∀ i j, i < ops.size → Pre ops j i → j < i := by
    intro i j hi hp
    induction hp with
    | edge ho he hb => exact hedge ops.toList infs 0 0 (fun j => by simp) hpl _ _ (Nat.zero_le _) ho (by simpa using hi) _ he hb
    | trans _ _ ih1 ih2 =>
      have h2 := ih2 hi
      exact Nat.lt_trans (ih1 (Nat.lt_trans h2 hi)) h2
  obtain ⟨vals, mems, er, lo, hi, b, aid, e', hO⟩ := WDraw_out (P := P) (T := T) (nt := cx.nt) (ops := ops) (e00 := e) (n0 := M.H.length) (E := eIdx ops) hpm hpre rfl ops.toList infs 0 0 e M.H.length [] [] (fun _ => .any) (fun _ => { M with H := M.H ++ zs }) (fun _ => []) (fun _ => 0) (fun _ => 0) (fun _ => false) (fun _ => 0)
    (fun j => by simp) (by simp) hpl (Nat.le_refl _) rfl (fun j h => absurd h (Nat.not_lt_zero _)) (fun t => .inr ⟨fun j o h => absurd h (Nat.not_lt_zero _), rfl⟩) h
  have hof : ∀ (i : Nat) (o : Oper), ops[i]? = some o → OpF P T cx.nt ops e M.H.length (eIdx ops) vals mems er lo hi b aid i o := fun i o ho => hO.facts i o (Nat.zero_le _) ho
  have hd : DOk P T cx.nt ops e M.H.length (eIdx ops) vals mems er lo hi b aid := by
    refine ⟨eIdx_nodup ops, fun x hx => ?_, chainOk_ok hpm hch, hpre, fun i o d ho => (hof i o ho).dst d, fun i j o o' d hi hj => nodupB_ok hnd i j o o' d (by simpa using hi) (by simpa using hj), fun i o t ho => (hof i o ho).ers t, fun i o ho => (hof i o ho).los, fun i o ho => (hof i o ho).his,
      fun i o ho => (hof i o ho).guard, fun i o ho => (hof i o ho).skip, fun i o ho => (hof i o ho).op, fun i j o o' hi hj hA hA' hb hb' he => ?_⟩
    · obtain ⟨o, h1, _⟩ := eIdx_mem.1 hx
      exact (Array.getElem?_eq_some_iff.1 h1).1
    · rcases Nat.lt_trichotomy i j with h | h | h
      · have := hO.aids2 i j o o' (Nat.zero_le _) h hi hj hA hA' hb hb'; omega
      · exact h
      · have := hO.aids2 j i o' o (Nat.zero_le _) h hj hi hA' hA hb' hb; omega
  have hm0 : mems 0 = { M with H := M.H ++ zs } := hO.amem 0 (Nat.le_refl _)
  obtain ⟨e1, i1⟩ := step_made (w' := { w with drawn := w.drawn + 1 }) hs.inv ⟨rfl, rfl, rfl, Nat.le_refl _⟩ (fun b _ => rfl)
  obtain ⟨K', e2, i2, k1, k2⟩ := virt_aux zs M K i1 (zerosOf_ok hz)
  have e3 := e1.trans e2
  have hfr : FrOk { w with drawn := w.drawn + 1 } K' (mems 0) cx.nt a.tmps e := by rw [hm0]; exact hs.fr.ext (M' := { M with H := M.H ++ zs }) e3
  refine wpIn_region_any hT.mixed ?_
  refine draw_any (G := G) (w0 := w) (K0 := K) (H0 := M.H) (D0 := a.defers) hT hd rfl ?_ ops.size _ 0 a _ K' ?_ ?_
  · intro a2 w2 K2 hst
    have hfin : ∀ t, RepV w2 K2 (mems (eIdx ops).length).H (a2.tmps.getD t undef) (get e' t) ∧ Cl (mems (eIdx ops).length).H.length (get e' t) := by
      intro t
      have hall : ∀ j, j < ops.size → (Array.replicate ops.size true).getD j false = true := fun j hj => by simp [hj]
      rcases hO.env t with ⟨j, o, h1, h2, h3, h4⟩ | ⟨h1, h2⟩
      · rw [h4]; exact hst.f1 j o t (hall j h1) h2 h3
      · rw [h2]; exact hst.f2 t fun j o _ ho => h1 j o (Array.getElem?_eq_some_iff.1 ho).1 ho
    refine ⟨f e', mems (eIdx ops).length, K2, D, hO.fin, trivial, ⟨FrOk.weak ⟨hst.ts, fun t => (hfin t).1, fun t => (hfin t).2⟩ (hf e'), ?_, hst.inv, (rd_ext hst.ext hs.rd).1⟩, hst.ext⟩
    rw [hst.df]
    exact df_ext hst.ext hs.df
  · have hno : ∀ j, (Array.replicate ops.size false).getD j false = false := fun j => by
      by_cases hj : j < ops.size <;> simp [hj]
    refine ⟨by simp, fun i j h => ?_, fun j x _ => ?_, Nat.zero_le _, hs.fr.size, fun j o d h => ?_, fun t _ => ⟨hfr.rep t, hfr.cl t⟩, by rw [hm0]; exact i2, by rw [hm0]; exact e3, fun i o ho hA hb _ => ?_, rfl⟩
    · rw [hno] at h; cases h
    · rw [hno]; simp
    · rw [hno] at h; cases h
    · rcases hd.op i o ho hb with ⟨t, y, _, _, _, _, q5, q6⟩ | ⟨q, _⟩ | ⟨q, _⟩
      · have := q6 0 (Nat.zero_le _) (Nat.zero_le _)
        rw [hm0] at this
        exact k2 _ q5 (List.getElem?_eq_some_iff.1 this).1
      · rw [hA] at q; cases q
      · rw [hA] at q; cases q
  · refine Nat.le_trans (List.countP_le_length) (by simp)
theorem W_draw0 (hT : TabOk P T) {cx : Cx} {e : Env} {D : List Nat} {Q : PQ} {id : Nat} {ops : Array Oper} {infs : List Info} {zs : List VObj} (hp : planOk ops infs = true) (hz : zerosOf T ops.toList = some zs)
    (h : WDraw P T cx.nt ops ops.toList infs e M.H.length { M with H := M.H ++ zs } [] [] fun e' M' => Q .normal e' M' D) : WCode P cx (.region id ops true) e M D Q := W_draw_g (f := fun e => e) hT (fun _ _ => .inl rfl) hp hz h
end
end Go.Proofs.Ytmagiabapakhcaa.Vm
