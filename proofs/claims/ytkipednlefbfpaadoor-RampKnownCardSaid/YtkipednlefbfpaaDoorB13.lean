/- A part of the proofs about the chapter of the ramps; it states no condition of its own. -/
import Derived.Test.YtkipednlefbfpaaDoorB12
import Derived.Test.YtkipednlefbfpaaDoorRows
set_option linter.unusedVariables false
set_option linter.unusedSimpArgs false
/- A machine on values: slices of our own whose rows hold values; buffers that are frozen; calls that touch nothing of ours. -/
namespace Go.Proofs.YtkipednlefbfpaaDoor.Vm
open Go

theorem flat_lenV {α : Type} {ke : Nat} : ∀ {ys : List (List α)}, (∀ x ∈ ys, x.length = ke) → ys.flatten.length = ys.length * ke
 | [], _ => by simp
 | x :: ys, h => by
  rw [List.flatten_cons, List.length_append, h x (List.mem_cons_self ..), flat_lenV fun y hy => h y (List.mem_cons_of_mem _ hy), List.length_cons, Nat.succ_mul, Nat.add_comm]
theorem flat_get {α : Type} {k : Nat} : ∀ {ys : List (List α)}, (∀ x ∈ ys, x.length = k) → ∀ {i : Nat} {x : List α}, ys[i]? = some x → ∀ {j : Nat}, j < k → ys.flatten[i * k + j]? = x[j]?
 | [], _, i, x, h, j, hj => by simp at h
 | y :: ys, hk, 0, x, h, j, hj => by
  have hy := hk y (List.mem_cons_self ..)
  cases h
  rw [List.flatten_cons, Nat.zero_mul, Nat.zero_add, List.getElem?_append_left (by rw [hy]; exact hj)]
 | y :: ys, hk, i + 1, x, h, j, hj => by
  have hy := hk y (List.mem_cons_self ..)
  rw [List.flatten_cons, List.getElem?_append_right (by rw [hy, Nat.succ_mul]; omega), hy, show (i + 1) * k + j - k = i * k + j by rw [Nat.succ_mul]; omega]
  exact flat_get (fun z hz => hk z (List.mem_cons_of_mem _ hz)) h hj
section
variable {P : Program} {T : Tab} {cx : Cx} {e : Env} {M : Mem} {D : List Nat} {Q : PQ} {c : Code}
theorem W_frz1 {id n k o j : Nat} {xs : List (List PV)} {cs : List VV} (h1 : M.H[id]? = some (.obj (xs.flatten.map .p))) (h3 : M.H[o]? = some (.obj cs)) (h4 : cs[j]? = some (.bf id 0 n k)) (hk : ∀ x ∈ xs, x.length = k) (hn : xs.length = n) (hne : o ≠ id)
  (h : WCode P cx c e ⟨(M.H.set id .dead).set o (.obj (cs.set j (.p (.sl k xs)))), M.lg⟩ D Q) : WCode P cx c e M D Q := by
 intro G w K a hs
 have i1 := hs.inv
 have hil := (List.getElem?_eq_some_iff.1 h1).1
 have hol := (List.getElem?_eq_some_iff.1 h3).1
 obtain ⟨H2, hH2⟩ : ∃ H2, H2 = (M.H.set id .dead).set o (.obj (cs.set j (.p (.sl k xs)))) := ⟨_, rfl⟩
 rw [← hH2] at h
 have hl2 : H2.length = M.H.length := by rw [hH2]; simp
 have hs2 : ∀ i x, H2[i]? = some x → (i = o ∧ x = .obj (cs.set j (.p (.sl k xs)))) ∨ (i = id ∧ x = .dead) ∨ (i ≠ o ∧ i ≠ id ∧ M.H[i]? = some x) := fun i x hx => by
  rw [hH2] at hx
  rcases set_get hx with ⟨rfl, rfl, _⟩ | ⟨a1, a2⟩
  ·exact .inl ⟨rfl, rfl⟩
  ·rcases set_get a2 with ⟨rfl, rfl, _⟩ | ⟨b1, b2⟩
   ·exact .inr (.inl ⟨rfl, rfl⟩)
   ·exact .inr (.inr ⟨a1, b1, b2⟩)
 have hE : Ext w K M.H w K H2 := by
  refine ⟨Nat.le_refl _, Szp.refl _, fun b q _ him i ob hi hb => ?_, fun _ _ _ _ => rfl, fun i x hi => ?_⟩
  ·rcases hs2 i ob hi with ⟨rfl, rfl⟩ | ⟨rfl, rfl⟩ | ⟨_, _, h2⟩
   ·rcases him i _ h3 hb with e2 | ⟨m, k', e2, _⟩
    ·exact e2.elim
    ·cases e2
   ·exact .inl trivial
   ·exact him i ob h2 hb
  ·by_cases ho : i = o
   ·subst ho
    rw [h3] at hi
    cases hi
    exact ⟨_, by rw [hH2, List.getElem?_set_self (by simp; exact hol)], fun _ _ e => VObj.noConfusion e, rfl⟩
   ·by_cases hid : i = id
    ·subst hid
     rw [h1] at hi
     cases hi
     exact ⟨.dead, by rw [hH2, List.getElem?_set_ne (Ne.symm ho), List.getElem?_set_self hil], fun _ _ e => VObj.noConfusion e, rfl⟩
    ·exact ⟨x, by rw [hH2, List.getElem?_set_ne (Ne.symm ho), List.getElem?_set_ne (Ne.symm hid)]; exact hi, objLe_same rfl fun b _ => rfl⟩
 have key : ∀ v, RepV w K M.H v (.bf id 0 n k) → RepV w K H2 v (.p (.sl k xs)) := by
  intro v hv
  cases hv with
  | bf _ _ _ _ b cc A hK hnc hc hm hA hz =>
   by_cases hn0 : n = 0
   ·subst hn0
    obtain rfl := List.length_eq_zero_iff.1 hn
    exact .p _ _ (.sl A cc k 0 0 [] (fun _ _ => undef) (by simp) hm (by simp) (by simp) (by simp) (by simp) (by simp))
   obtain ⟨vs, t, q1, q2, q3⟩ := i1.obj id _ h1 _ (hK hn0)
   have hfl := flat_lenV hk
   have hcell : ∀ i x l u, xs[i]? = some x → x[l]? = some u → ∃ v, vs[i * k + l]? = some v ∧ RepP w (Im K M.H) v u := by
    intro i x l u hx hu
    have hx1 := hk x (List.mem_of_getElem? hx)
    have hi' := (List.getElem?_eq_some_iff.1 hx).1
    have hl' := (List.getElem?_eq_some_iff.1 hu).1
    have hat : xs.flatten[i * k + l]? = some u := by
     have := flat_get (k := k) hk hx (show l < k by omega)
     rw [this]; exact hu
    have hc1 : (xs.flatten.map VV.p)[i * k + l]? = some (.p u) := by rw [List.getElem?_map, hat]; rfl
    have hlt : i * k + l < vs.size := by
     have := (List.getElem?_eq_some_iff.1 hc1).1
     omega
    have hv := Array.getElem?_eq_getElem hlt
    generalize vs[i * k + l] = v at hv
    refine ⟨v, hv, ?_⟩
    obtain ⟨r1, _⟩ := q3 _ _ _ hv hc1
    cases r1 with
    | p _ _ h => exact h
   have him : ∀ q, Im K H2 b q := by
    intro q i ob hob hKi
    have hi := (List.getElem?_eq_some_iff.1 hob).1
    by_cases hgo : ob = .gone
    ·subst hgo; exact .inl trivial
    have hg1 : M.H[i]? ≠ some .gone := by
     rcases hs2 i ob hob with ⟨rfl, rfl⟩ | ⟨rfl, rfl⟩ | ⟨_, _, h2⟩
     ·rw [h3]; simp
     ·rw [h1]; simp
     ·rw [h2]; simpa using hgo
    have := i1.inj i id b (by omega) hil hg1 (by rw [h1]; simp) hKi (hK hn0)
    subst this
    rcases hs2 i ob hob with ⟨e1, _⟩ | ⟨_, rfl⟩ | ⟨_, h5, _⟩
    ·exact absurd e1.symm hne
    ·exact .inl trivial
    ·exact absurd rfl h5
   have hkey : RepV w K H2 (.slice A xs.length cc) (.p (.sl k xs)) := by
    refine .p _ _ (.sl A cc k b 0 xs (fun i l => vs.getD (i * k + l) undef) (by omega) hm hk (fun _ => hA hn0) (fun i x l u hx hu => him _) (fun i x l u hx hu => ?_) fun i x l u hx hu => ?_)
    ·obtain ⟨v, hv, _⟩ := hcell i x l u hx hu
     simp only [World.cell?, q1, Nat.zero_add]
     simp [hv]
    ·obtain ⟨v, hv, hP⟩ := hcell i x l u hx hu
     have : vs.getD (i * k + l) undef = v := by simp [hv]
     rw [this]
     exact hP.of_ext hE
   rw [hn] at hkey
   exact hkey
 have hI2 : Inv G w K { H := H2, lg := M.lg } := by
  refine ⟨i1.os, i1.tape, i1.output, i1.size, i1.gB, i1.old, inj_set i1 hl2 (fun i hg => by
   by_cases e1 : i = id
   ·rw [e1, h1]; simp
   ·by_cases e2 : i = o
    ·rw [e2, h3]; simp
    ·rw [hH2, List.getElem?_set_ne (fun h => e2 h.symm), List.getElem?_set_ne (fun h => e1 h.symm)] at hg
     exact hg), fun i b hi => i1.blk i b (by simpa [hl2] using hi), fun i x hi => ?_, fun i x hi cc hcc r hr => ?_, fun en hen => ?_, fun i L hi => ?_⟩
  ·rcases hs2 i x hi with ⟨rfl, rfl⟩ | ⟨rfl, rfl⟩ | ⟨_, _, h2⟩
   ·intro b hb
    obtain ⟨vs, t, q1, q2, q3⟩ := i1.obj i _ h3 b hb
    refine ⟨vs, t, q1, by simpa using q2, fun l v cv hv hcv => ?_⟩
    rw [List.getElem?_set] at hcv
    by_cases hj : j = l
    ·subst hj
     have hlt := (List.getElem?_eq_some_iff.1 h4).1
     rw [if_pos rfl, if_pos hlt] at hcv
     cases hcv
     obtain ⟨r1, r2⟩ := q3 j v _ hv h4
     exact ⟨key v r1, r2⟩
    ·rw [if_neg hj] at hcv
     obtain ⟨r1, r2⟩ := q3 l v cv hv hcv
     exact ⟨r1.ext hE (i1.content h3 cv (by simp only [contents]; exact List.mem_of_getElem? hcv)), r2⟩
   ·exact trivial
   ·exact (i1.obj i x h2).ext hE (fun _ _ => rfl) (i1.content h2)
  ·simp only [hl2]
   rcases hs2 i x hi with ⟨rfl, rfl⟩ | ⟨rfl, rfl⟩ | ⟨_, _, h2⟩
   ·simp only [contents] at hcc
    rcases List.mem_or_eq_of_mem_set hcc with hm | rfl
    ·exact i1.cl i _ h3 cc (by simp only [contents]; exact hm) r hr
    ·simp [refs] at hr
   ·simp [contents] at hcc
   ·exact i1.cl i x h2 cc hcc r hr
  ·simp only [hl2]
   exact i1.lg en hen
  ·rcases hs2 i _ hi with ⟨rfl, e2⟩ | ⟨rfl, e2⟩ | ⟨_, _, h2⟩
   ·cases e2
   ·cases e2
   ·exact i1.lpd i L h2
 have hs3 : StOk cx G w K { H := H2, lg := M.lg } a e D := ⟨hs.fr.ext (M' := { H := H2, lg := M.lg }) hE, df_ext (M' := { H := H2, lg := M.lg }) hE hs.df, hI2, (rd_ext (M' := { H := H2, lg := M.lg }) hE hs.rd).1⟩
 have h2 := h G w _ a hs3
 exact wpIn_mono h2 fun ex a' w' ⟨e', M', K', D', q1, q2, q3, q4⟩ => ⟨e', M', K', D', q1, q2, q3, hE.trans q4⟩
end
def pureV : VV → Bool
 | .p _ => true
 | .agg cs => cs.all fun c => match c with | .p _ => true | _ => false
 | _ => false
theorem RepV.pure {w : World} {K K' : Nat → Option Nat} {H H' : List VObj} {v : Value} {x : VV} (h : RepV w K H v x) (hx : pureV x = true) (him : ∀ b o, Im K' H' b o) : RepV w K' H' v x := by
 have hP : ∀ {v : Value} {y : PV}, RepP w (Im K H) v y → RepP w (Im K' H') v y := fun h => h.ext fun b o _ _ => ⟨him b o, rfl⟩
 cases h with
 | p v y h => exact .p _ _ (hP h)
 | agg vs cs hs h1 h =>
  refine .agg vs cs hs h1 fun i v c a b => ?_
  have hc := List.all_eq_true.1 hx c (List.mem_of_getElem? b)
  have hr := h i v c a b
  cases hr with
  | p v y h => exact .p _ _ (hP h)
  | _ => cases hc
 | _ => cases hx
end Go.Proofs.YtkipednlefbfpaaDoor.Vm

/- Yards and plans as plain data. -/
namespace Go.Proofs.YtkipednlefbfpaaDoor
structure Sp where
 lo : Int
 hi : Int
 deriving DecidableEq
structure Ra where
 open_ : Int
 shut : Int
 bears : Int
 deriving DecidableEq
structure Ct where
 from_ : Int
 until_ : Int
 takes : Sp
 grams : Int
 ramps : List Int
 deriving DecidableEq
structure Ya where
 ramps : List Ra
 carts : List Ct
 sweep : Int
 deriving DecidableEq
structure St where
 ramp : Int
 from_ : Int
 deriving DecidableEq
def inR (n lo hi : Int) : Bool := decide (lo ≤ n) && decide (n ≤ hi)
theorem inR_true {n lo hi : Int} : inR n lo hi = true ↔ lo ≤ n ∧ n ≤ hi := by simp [inR]
end Go.Proofs.YtkipednlefbfpaaDoor
