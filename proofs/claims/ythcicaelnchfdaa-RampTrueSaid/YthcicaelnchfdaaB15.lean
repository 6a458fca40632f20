/- A part of the proofs about the chapter of the ramps; it states no condition of its own. -/
import Derived.Test.YthcicaelnchfdaaB12
import Derived.Test.YthcicaelnchfdaaB13
import Derived.Test.YthcicaelnchfdaaB14
import Derived.Maps.RangeRun
set_option linter.unusedVariables false
set_option linter.unusedSimpArgs false
/- The machine on values at work: regions whose continuation is kept out of sight. -/
namespace Go.Proofs.Ythcicaelnchfdaa.Vm
open Go Go.Proofs
section
variable {P : Program} {T : Tab} {cx : Cx} {e : Env} {M : Mem} {D : List Nat} {Q : PQ}
theorem QV : type_of% (And.intro (@thenQ.eq_1) (And.intro (@thenQ.eq_2) (And.intro (@blockQ.eq_1) (@blockQ.eq_2)))) := And.intro (@thenQ.eq_1) (And.intro (@thenQ.eq_2) (And.intro (@blockQ.eq_1) (@blockQ.eq_2)))
theorem W_regionE (hT : TabOk P T) {id : Nat} {ops : Array Oper} (h : ∀ Kn : Env → Mem → Prop, (∀ e' M', Kn e' M' = Q .normal e' M' D) → WOps P T cx.nt ops ops.toList e M Kn) : WCode P cx (.region id ops false) e M D Q := W_region0 hT (h _ fun _ _ => rfl)
theorem W_drawE (hT : TabOk P T) {id : Nat} {ops : Array Oper} (zs : List VObj) (hz : zerosOf T ops.toList = some zs) (hp : planOk ops (mkPlan ops) = true)
  (h : ∀ Kn : Env → Mem → Prop, (∀ e' M', Kn e' M' = Q .normal e' M' D) → WDraw P T cx.nt ops ops.toList (mkPlan ops) e M.H.length { M with H := M.H ++ zs } [] [] Kn) : WCode P cx (.region id ops true) e M D Q := W_drawP hT zs hz hp (h _ fun _ _ => rfl)
end
end Go.Proofs.Ythcicaelnchfdaa.Vm

/- A buffer that a temporary leads to is written no more: it dies, and the temporary is read as plain data. (Vm) -/
namespace Go.Proofs.Ythcicaelnchfdaa.Vm
open Go Go.Proofs
section
variable {P : Program} {T : Tab} {cx : Cx} {e : Env} {M : Mem} {D : List Nat} {Q : PQ} {c : Code}
theorem W_frzT {id n k t : Nat} {xs : List (List PV)} (h1 : M.H[id]? = some (.obj (xs.flatten.map .p))) (ht : get e t = .bf id 0 n k) (hk : ∀ x ∈ xs, x.length = k) (hn : xs.length = n)
  (h : WCode P cx c ((t, .p (.sl k xs)) :: e) ⟨M.H.set id .dead, M.lg⟩ D Q) : WCode P cx c e M D Q := by
 intro G w K a hs
 have i1 := hs.inv
 have hil := (List.getElem?_eq_some_iff.1 h1).1
 obtain ⟨H2, hH2⟩ : ∃ H2, H2 = M.H.set id .dead := ⟨_, rfl⟩
 rw [← hH2] at h
 have hl2 : H2.length = M.H.length := by rw [hH2]; simp
 have hs2 : ∀ i x, H2[i]? = some x → (i = id ∧ x = .dead) ∨ (i ≠ id ∧ M.H[i]? = some x) := fun i x hx => by
  rw [hH2] at hx
  rcases set_get hx with ⟨rfl, rfl, _⟩ | ⟨b1, b2⟩
  ·exact .inl ⟨rfl, rfl⟩
  ·exact .inr ⟨b1, b2⟩
 have hE : Ext w K M.H w K H2 := by
  refine ⟨Nat.le_refl _, Szp.refl _, fun b q _ him i ob hi hb => ?_, fun _ _ _ _ => rfl, fun i x hi => ?_⟩
  ·rcases hs2 i ob hi with ⟨rfl, rfl⟩ | ⟨_, h2⟩
   ·exact .inl trivial
   ·exact him i ob h2 hb
  ·by_cases hid : i = id
   ·subst hid
    rw [h1] at hi
    cases hi
    exact ⟨.dead, by rw [hH2, List.getElem?_set_self hil], fun _ _ e => VObj.noConfusion e, rfl⟩
   ·exact ⟨x, by rw [hH2, List.getElem?_set_ne (Ne.symm hid)]; exact hi, objLe_same rfl fun b _ => rfl⟩
 have key : ∀ v, RepV w K M.H v (.bf id 0 n k) → RepV w K H2 v (.p (.sl k xs)) := by
  intro v hv
  cases hv with
  | bf _ _ _ _ b cc A hK hnc hc hm hA hz =>
   by_cases hn0 : n = 0
   ·subst hn0
    obtain rfl := List.length_eq_zero_iff.1 hn
    exact .p _ _ (.sl A cc k 0 0 [] (fun _ _ => undef) (by simp) hm (by simp) (by simp) (by simp) (by simp) (by simp))
   obtain ⟨vs, t, q1, q2, q3⟩ := i1.obj id _ h1 _ (hK hn0)
   have hfl := flat_lenV hk
   have hcell : ∀ i x l u, xs[i]? = some x → x[l]? = some u → ∃ v, vs[i * k + l]? = some v ∧ RepP w (Im K M.H) v u := by
    intro i x l u hx hu
    have hx1 := hk x (List.mem_of_getElem? hx)
    have hi' := (List.getElem?_eq_some_iff.1 hx).1
    have hl' := (List.getElem?_eq_some_iff.1 hu).1
    have hat : xs.flatten[i * k + l]? = some u := by
     have := flat_get (k := k) hk hx (show l < k by omega)
     rw [this]; exact hu
    have hc1 : (xs.flatten.map VV.p)[i * k + l]? = some (.p u) := by rw [List.getElem?_map, hat]; rfl
    have hlt : i * k + l < vs.size := by
     have := (List.getElem?_eq_some_iff.1 hc1).1
     omega
    have hv := Array.getElem?_eq_getElem hlt
    generalize vs[i * k + l] = v at hv
    refine ⟨v, hv, ?_⟩
    obtain ⟨r1, _⟩ := q3 _ _ _ hv hc1
    cases r1 with
    | p _ _ h => exact h
   have him : ∀ q, Im K H2 b q := by
    intro q i ob hob hKi
    have hi := (List.getElem?_eq_some_iff.1 hob).1
    by_cases hgo : ob = .gone
    ·subst hgo; exact .inl trivial
    have hg1 : M.H[i]? ≠ some .gone := by
     rcases hs2 i ob hob with ⟨rfl, rfl⟩ | ⟨_, h2⟩
     ·rw [h1]; simp
     ·rw [h2]; simpa using hgo
    have := i1.inj i id b (by omega) hil hg1 (by rw [h1]; simp) hKi (hK hn0)
    subst this
    rcases hs2 i ob hob with ⟨_, rfl⟩ | ⟨h5, _⟩
    ·exact .inl trivial
    ·exact absurd rfl h5
   have hkey : RepV w K H2 (.slice A xs.length cc) (.p (.sl k xs)) := by
    refine .p _ _ (.sl A cc k b 0 xs (fun i l => vs.getD (i * k + l) undef) (by omega) hm hk (fun _ => hA hn0) (fun i x l u hx hu => him _) (fun i x l u hx hu => ?_) fun i x l u hx hu => ?_)
    ·obtain ⟨v, hv, _⟩ := hcell i x l u hx hu
     simp only [World.cell?, q1, Nat.zero_add]
     simp [hv]
    ·obtain ⟨v, hv, hP⟩ := hcell i x l u hx hu
     have : vs.getD (i * k + l) undef = v := by simp [hv]
     rw [this]
     exact hP.of_ext hE
   rw [hn] at hkey
   exact hkey
 have hI2 : Inv G w K { H := H2, lg := M.lg } := by
  refine ⟨i1.os, i1.tape, i1.output, i1.size, i1.gB, i1.old, inj_set i1 hl2 (fun i hg => by
   by_cases e1 : i = id
   ·rw [e1, h1]; simp
   ·rw [hH2, List.getElem?_set_ne (fun h => e1 h.symm)] at hg
    exact hg), fun i b hi => i1.blk i b (by simpa [hl2] using hi), fun i x hi => ?_, fun i x hi cc hcc r hr => ?_, fun en hen => ?_, fun i L hi => ?_⟩
  ·rcases hs2 i x hi with ⟨rfl, rfl⟩ | ⟨_, h2⟩
   ·exact trivial
   ·exact (i1.obj i x h2).ext hE (fun _ _ => rfl) (i1.content h2)
  ·simp only [hl2]
   rcases hs2 i x hi with ⟨rfl, rfl⟩ | ⟨_, h2⟩
   ·simp [contents] at hcc
   ·exact i1.cl i x h2 cc hcc r hr
  ·simp only [hl2]
   exact i1.lg en hen
  ·rcases hs2 i _ hi with ⟨rfl, e2⟩ | ⟨_, h2⟩
   ·cases e2
   ·exact i1.lpd i L h2
 have hf0 := hs.fr.ext (M' := { H := H2, lg := M.lg }) hE
 have hf2 : FrOk w K { H := H2, lg := M.lg } cx.nt a.tmps ((t, .p (.sl k xs)) :: e) := by
  refine ⟨hf0.size, fun t' => ?_, fun t' => ?_⟩
  ·rw [get_cons]
   by_cases h1 : t' = t
   ·subst h1
    rw [if_pos rfl]
    have := hs.fr.rep t'
    rw [ht] at this
    exact key _ this
   ·rw [if_neg h1]; exact hf0.rep t'
  ·rw [get_cons]
   by_cases h1 : t' = t
   ·rw [if_pos h1]
    intro r hr
    simp [refs] at hr
   ·rw [if_neg h1]; exact hf0.cl t'
 have hs3 : StOk cx G w K { H := H2, lg := M.lg } a ((t, .p (.sl k xs)) :: e) D := ⟨hf2, df_ext (M' := { H := H2, lg := M.lg }) hE hs.df, hI2, (rd_ext (M' := { H := H2, lg := M.lg }) hE hs.rd).1⟩
 have h2 := h G w _ a hs3
 exact wpIn_mono h2 fun ex a' w' ⟨e', M', K', D', q1, q2, q3, q4⟩ => ⟨e', M', K', D', q1, q2, q3, hE.trans q4⟩
end
end Go.Proofs.Ythcicaelnchfdaa.Vm

/- Temporaries known in another way; nil slices read as plain data. (Vm) -/
namespace Go.Proofs.Ythcicaelnchfdaa.Vm
open Go Go.Proofs
section
variable {P : Program} {T : Tab} {cx : Cx} {e : Env} {M : Mem} {D : List Nat} {Q : PQ} {c : Code}
theorem W_know {t : Nat} {x y : VV} (ht : get e t = x) (hr : ∀ r ∈ refs y, r ∈ refs x) (hk : ∀ w K v, RepV w K M.H v x → RepV w K M.H v y) (h : WCode P cx c ((t, y) :: e) M D Q) : WCode P cx c e M D Q := by
 intro G w K a hs
 have hf2 : FrOk w K M cx.nt a.tmps ((t, y) :: e) := by
  refine ⟨hs.fr.size, fun t' => ?_, fun t' => ?_⟩
  ·rw [get_cons]
   by_cases h1 : t' = t
   ·subst h1
    rw [if_pos rfl]
    have := hs.fr.rep t'
    rw [ht] at this
    exact hk _ _ _ this
   ·rw [if_neg h1]; exact hs.fr.rep t'
  ·rw [get_cons]
   by_cases h1 : t' = t
   ·subst h1
    rw [if_pos rfl]
    intro r hr'
    have := hs.fr.cl t'
    rw [ht] at this
    exact this r (hr r hr')
   ·rw [if_neg h1]; exact hs.fr.cl t'
 exact h G w K a ⟨hf2, hs.df, hs.inv, hs.rd⟩
theorem sf_nil {w : World} {K : Nat → Option Nat} {H : List VObj} {v : Value} {k k0 : Nat} (h : RepV w K H v (.sf k0 [])) : RepV w K H v (.p (.sl k [])) := by
 cases h with
 | sf A _ _ h0 => exact .p _ _ (.sl A 0 k 0 0 [] (fun _ _ => undef) (Nat.le_refl _) (by simp [maxLen]) (fun x hx => by cases hx) (fun hx => absurd rfl hx) (fun i x j u hx => by simp at hx) (fun i x j u hx => by simp at hx) (fun i x j u hx => by simp at hx))
theorem W_nil {t k k0 : Nat} (ht : get e t = .sf k0 []) (h : WCode P cx c ((t, .p (.sl k [])) :: e) M D Q) : WCode P cx c e M D Q := W_know ht (fun r hr => by simp [refs] at hr) (fun _ _ _ => sf_nil) h
end
end Go.Proofs.Ythcicaelnchfdaa.Vm

/- A second table, in which copies of lists are buffers of their own. (Vm) -/
namespace Go.Proofs.Ythcicaelnchfdaa.Vm
open Go Go.Proofs
def ownT2 (T : Tab) (o k : Nat → Bool) : Tab := { T with own := o, keeps := k }
section
variable {P : Program} {T : Tab} {o k : Nat → Bool}
theorem ownT2_ok (h : TabOk P T) : TabOk P (ownT2 T o k) := ⟨h.ty, h.fn, h.mixed⟩
theorem ownT2_ty : (ownT2 T o k).ty = T.ty := rfl
theorem ownT2_fn : (ownT2 T o k).fn = T.fn := rfl
theorem ownT2_bin : vbin (ownT2 T o k) = vbin T := rfl
theorem ownT2_own : (ownT2 T o k).own = o := rfl
theorem ownT2_keeps : (ownT2 T o k).keeps = k := rfl
end
def ownO (t : Nat) : Bool := Nat.beq t 26 || Nat.beq t 37
noncomputable def TO : Tab := ownT2 T ownO keepsB
theorem TO_ok : TabOk Try.prog TO := ownT2_ok T_ok
theorem xO_ty : TO.ty = T.ty := ownT2_ty
theorem xO_fn : TO.fn = T.fn := ownT2_fn
theorem xO_bin : vbin TO = vbin T ∧ TO.ownS = T.ownS := ⟨ownT2_bin, rfl⟩
theorem xO_oi : TO.own 26 = true := by rw [TO, ownT2_own]; rfl
theorem xO_oc : TO.own 37 = true := by rw [TO, ownT2_own]; rfl
theorem xO_ok : TO.own 23 = false ∧ TO.own 22 = false := by rw [TO, ownT2_own]; exact ⟨rfl, rfl⟩
theorem flat_ints : ∀ xs : List Int, List.map VV.p (List.map intP xs).flatten = xs.map vi
 | [] => rfl
 | x :: xs => by simp [flat_ints xs]
def stC (l : List St) : List VV := (l.map fun s => [vi s.ramp, vi s.from_]).flatten
theorem stC_cons (s : St) (l : List St) : stC (s :: l) = vi s.ramp :: vi s.from_ :: stC l := by simp [stC]
theorem flat_sts : ∀ l : List St, List.map VV.p (List.map stP l).flatten = stC l
 | [] => rfl
 | s :: l => by
  have := flat_sts l
  simp only [List.map_cons, List.flatten_cons, List.map_append, this]
  rfl
theorem stC_len : ∀ l : List St, (stC l).length = l.length * 2
 | [] => rfl
 | s :: l => by rw [stC_cons]; simp [stC_len l]; omega
theorem stC_set : ∀ (l : List St) (i : Nat) (s : St), i < l.length → splice (stC l) (i * 2) [vi s.ramp, vi s.from_] = stC (l.set i s)
 | [], i, s, h => by simp at h
 | x :: l, 0, s, h => by simp [splice, stC_cons]
 | x :: l, i + 1, s, h => by
  have ih := stC_set l i s (by simpa using h)
  rw [List.set_cons_succ, stC_cons, stC_cons, ← ih]
  have e : (i + 1) * 2 = i * 2 + 2 := by omega
  simp only [splice, e, List.length_cons, List.length_nil]
  have e2 : i * 2 + 2 + (0 + 1 + 1) = (i * 2 + (0 + 1 + 1)) + 1 + 1 := by omega
  rw [e2, List.drop_succ_cons, List.drop_succ_cons]
  have e3 : i * 2 + 2 = i * 2 + 1 + 1 := by omega
  rw [e3, List.take_succ_cons, List.take_succ_cons]
  rfl
theorem ints_set (l : List Int) (i : Nat) (x : Int) (h : i < l.length) : splice (l.map vi) i [vi x] = (l.set i x).map vi := by
 simp only [splice, List.length_cons, List.length_nil]
 rw [List.map_set, List.set_eq_take_append_cons_drop, if_pos (by simpa using h)]
 simp
end Go.Proofs.Ythcicaelnchfdaa.Vm

/- A buffer that is handed to a function that only reads: it dies, and the argument is plain data. (Vm) -/
namespace Go.Proofs.Ythcicaelnchfdaa.Vm
open Go Go.Proofs
theorem frz_core {G : Ghost} {w : World} {K : Nat → Option Nat} {M : Mem} {id n k : Nat} {xs : List (List PV)} (i1 : Inv G w K M) (h1 : M.H[id]? = some (.obj (xs.flatten.map .p))) (hk : ∀ x ∈ xs, x.length = k) (hn : xs.length = n) :
  Ext w K M.H w K (M.H.set id .dead) ∧ (∀ v, RepV w K M.H v (.bf id 0 n k) → RepV w K (M.H.set id .dead) v (.p (.sl k xs))) ∧ Inv G w K ⟨M.H.set id .dead, M.lg⟩ := by
 have hil := (List.getElem?_eq_some_iff.1 h1).1
 obtain ⟨H2, hH2⟩ : ∃ H2, H2 = M.H.set id .dead := ⟨_, rfl⟩
 have hl2 : H2.length = M.H.length := by rw [hH2]; simp
 have hs2 : ∀ i x, H2[i]? = some x → (i = id ∧ x = .dead) ∨ (i ≠ id ∧ M.H[i]? = some x) := fun i x hx => by
  rw [hH2] at hx
  rcases set_get hx with ⟨rfl, rfl, _⟩ | ⟨b1, b2⟩
  ·exact .inl ⟨rfl, rfl⟩
  ·exact .inr ⟨b1, b2⟩
 have hE : Ext w K M.H w K H2 := by
  refine ⟨Nat.le_refl _, Szp.refl _, fun b q _ him i ob hi hb => ?_, fun _ _ _ _ => rfl, fun i x hi => ?_⟩
  ·rcases hs2 i ob hi with ⟨rfl, rfl⟩ | ⟨_, h2⟩
   ·exact .inl trivial
   ·exact him i ob h2 hb
  ·by_cases hid : i = id
   ·subst hid
    rw [h1] at hi
    cases hi
    exact ⟨.dead, by rw [hH2, List.getElem?_set_self hil], fun _ _ e => VObj.noConfusion e, rfl⟩
   ·exact ⟨x, by rw [hH2, List.getElem?_set_ne (Ne.symm hid)]; exact hi, objLe_same rfl fun b _ => rfl⟩
 have key : ∀ v, RepV w K M.H v (.bf id 0 n k) → RepV w K H2 v (.p (.sl k xs)) := by
  intro v hv
  cases hv with
  | bf _ _ _ _ b cc A hK hnc hc hm hA hz =>
   by_cases hn0 : n = 0
   ·subst hn0
    obtain rfl := List.length_eq_zero_iff.1 hn
    exact .p _ _ (.sl A cc k 0 0 [] (fun _ _ => undef) (by simp) hm (by simp) (by simp) (by simp) (by simp) (by simp))
   obtain ⟨vs, t, q1, q2, q3⟩ := i1.obj id _ h1 _ (hK hn0)
   have hfl := flat_lenV hk
   have hcell : ∀ i x l u, xs[i]? = some x → x[l]? = some u → ∃ v, vs[i * k + l]? = some v ∧ RepP w (Im K M.H) v u := by
    intro i x l u hx hu
    have hx1 := hk x (List.mem_of_getElem? hx)
    have hi' := (List.getElem?_eq_some_iff.1 hx).1
    have hl' := (List.getElem?_eq_some_iff.1 hu).1
    have hat : xs.flatten[i * k + l]? = some u := by
     have := flat_get (k := k) hk hx (show l < k by omega)
     rw [this]; exact hu
    have hc1 : (xs.flatten.map VV.p)[i * k + l]? = some (.p u) := by rw [List.getElem?_map, hat]; rfl
    have hlt : i * k + l < vs.size := by
     have := (List.getElem?_eq_some_iff.1 hc1).1
     omega
    have hv := Array.getElem?_eq_getElem hlt
    generalize vs[i * k + l] = v at hv
    refine ⟨v, hv, ?_⟩
    obtain ⟨r1, _⟩ := q3 _ _ _ hv hc1
    cases r1 with
    | p _ _ h => exact h
   have him : ∀ q, Im K H2 b q := by
    intro q i ob hob hKi
    have hi := (List.getElem?_eq_some_iff.1 hob).1
    by_cases hgo : ob = .gone
    ·subst hgo; exact .inl trivial
    have hg1 : M.H[i]? ≠ some .gone := by
     rcases hs2 i ob hob with ⟨rfl, rfl⟩ | ⟨_, h2⟩
     ·rw [h1]; simp
     ·rw [h2]; simpa using hgo
    have := i1.inj i id b (by omega) hil hg1 (by rw [h1]; simp) hKi (hK hn0)
    subst this
    rcases hs2 i ob hob with ⟨_, rfl⟩ | ⟨h5, _⟩
    ·exact .inl trivial
    ·exact absurd rfl h5
   have hkey : RepV w K H2 (.slice A xs.length cc) (.p (.sl k xs)) := by
    refine .p _ _ (.sl A cc k b 0 xs (fun i l => vs.getD (i * k + l) undef) (by omega) hm hk (fun _ => hA hn0) (fun i x l u hx hu => him _) (fun i x l u hx hu => ?_) fun i x l u hx hu => ?_)
    ·obtain ⟨v, hv, _⟩ := hcell i x l u hx hu
     simp only [World.cell?, q1, Nat.zero_add]
     simp [hv]
    ·obtain ⟨v, hv, hP⟩ := hcell i x l u hx hu
     have : vs.getD (i * k + l) undef = v := by simp [hv]
     rw [this]
     exact hP.of_ext hE
   rw [hn] at hkey
   exact hkey
 have hI2 : Inv G w K { H := H2, lg := M.lg } := by
  refine ⟨i1.os, i1.tape, i1.output, i1.size, i1.gB, i1.old, inj_set i1 hl2 (fun i hg => by
   by_cases e1 : i = id
   ·rw [e1, h1]; simp
   ·rw [hH2, List.getElem?_set_ne (fun h => e1 h.symm)] at hg
    exact hg), fun i b hi => i1.blk i b (by simpa [hl2] using hi), fun i x hi => ?_, fun i x hi cc hcc r hr => ?_, fun en hen => ?_, fun i L hi => ?_⟩
  ·rcases hs2 i x hi with ⟨rfl, rfl⟩ | ⟨_, h2⟩
   ·exact trivial
   ·exact (i1.obj i x h2).ext hE (fun _ _ => rfl) (i1.content h2)
  ·simp only [hl2]
   rcases hs2 i x hi with ⟨rfl, rfl⟩ | ⟨_, h2⟩
   ·simp [contents] at hcc
   ·exact i1.cl i x h2 cc hcc r hr
  ·simp only [hl2]
   exact i1.lg en hen
  ·rcases hs2 i _ hi with ⟨rfl, e2⟩ | ⟨_, h2⟩
   ·cases e2
   ·exact i1.lpd i L h2
 rw [← hH2]
 exact ⟨hE, key, hI2⟩
theorem VC_frzA {P : Program} {f id n k : Nat} {xs : List (List PV)} {us vs : List VV} {M : Mem} {Q : VV → Mem → Prop} (h1 : M.H[id]? = some (.obj (xs.flatten.map .p))) (hk : ∀ x ∈ xs, x.length = k) (hn : xs.length = n)
  (h : VC P f (us ++ .p (.sl k xs) :: vs) ⟨M.H.set id .dead, M.lg⟩ Q) : VC P f (us ++ .bf id 0 n k :: vs) M Q := by
 intro G w K rargs hI ha
 obtain ⟨hE, key, hI2⟩ := frz_core hI h1 hk hn
 obtain ⟨hr, hc⟩ := ha
 have hget : ∀ (z : VV) (i : Nat), i ≠ us.length → (us ++ z :: vs)[i]? = (us ++ VV.bf id 0 n k :: vs)[i]? := fun z i hi => by
  rcases Nat.lt_or_ge i us.length with hlt | hge
  ·rw [List.getElem?_append_left hlt, List.getElem?_append_left hlt]
  ·rw [List.getElem?_append_right hge, List.getElem?_append_right hge, show i - us.length = (i - us.length - 1) + 1 by omega]
   rfl
 have hus : ∀ z : VV, (us ++ z :: vs)[us.length]? = some z := fun z => by
  rw [List.getElem?_append_right (Nat.le_refl _), Nat.sub_self]; rfl
 have hargs : ArgsOk w K ⟨M.H.set id .dead, M.lg⟩ rargs (us ++ .p (.sl k xs) :: vs) := by
  refine ⟨⟨by have := hr.1; simpa using this, fun i a b hx hy => ?_⟩, fun a hm => ?_⟩
  ·by_cases hi : i = us.length
   ·subst hi
    rw [hus] at hy
    cases hy
    exact key _ (hr.2 _ a _ hx (hus _))
   ·rw [hget _ i hi] at hy
    exact (hr.2 i a b hx hy).ext hE (hc b (List.mem_of_getElem? hy))
  ·have hl : (M.H.set id .dead).length = M.H.length := by simp
   show Cl (M.H.set id .dead).length a
   rw [hl]
   rcases List.mem_append.1 hm with hm | hm
   ·exact hc a (List.mem_append_left _ hm)
   ·rcases List.mem_cons.1 hm with rfl | hm
    ·intro r hr'
     simp [refs] at hr'
    ·exact hc a (List.mem_append_right _ (List.mem_cons_of_mem _ hm))
 refine (h G w K rargs hI2 hargs).mono ?_
 rintro e' w' ⟨rv, r, K', M', rfl, hq, q1, q2, q3, q4⟩
 exact ⟨rv, r, K', M', rfl, hq, q1, q2, hE.trans q3, q4⟩
end Go.Proofs.Ythcicaelnchfdaa.Vm

/- A call whose result leads to an object of plain data: the object is read only from then on. (Vm) -/
namespace Go.Proofs.Ythcicaelnchfdaa.Vm
open Go Go.Proofs
theorem im_take {K : Nat → Option Nat} {H : List VObj} {n b o : Nat} (h : Im K H b o) : Im K (H.take n) b o := fun i ob hi hk => h i ob (by
 rw [List.getElem?_take] at hi
 split at hi
 ·exact hi
 ·cases hi) hk
theorem ptr_ip {G : Ghost} {w : World} {K : Nat → Option Nat} {M : Mem} (hI : Inv G w K M) {n id : Nat} {cs : List PV} {v : Value} (hn : n ≤ id) (ho : M.H[id]? = some (.obj (cs.map .p))) (h : RepV w K M.H v (.ptr id 0)) : RepV w K (M.H.take n) v (.ip cs) := by
 cases h with
 | ptr _ _ b hK hnc =>
  obtain ⟨vs, t, q1, q2, q3⟩ := hI.obj id _ ho _ hK
  rw [List.length_map] at q2
  have hil := (List.getElem?_eq_some_iff.1 ho).1
  have him : ∀ o, Im K (M.H.take n) b o := fun o i ob hi hKi => by
   rw [List.getElem?_take] at hi
   split at hi
   ·rename_i hlt
    by_cases hg : ob = .gone
    ·subst hg; exact .inl trivial
    ·have hi' := (List.getElem?_eq_some_iff.1 hi).1
     have := hI.inj i id b hi' hil (by rw [hi]; simpa using hg) (by rw [ho]; simp) hKi hK
     omega
   ·cases hi
  have hcell : ∀ j u, cs[j]? = some u → ∃ x, vs[j]? = some x ∧ RepP w (Im K M.H) x u := fun j u hu => by
   have hj := (List.getElem?_eq_some_iff.1 hu).1
   have hv := Array.getElem?_eq_getElem (show j < vs.size by omega)
   generalize vs[j] = x at hv
   refine ⟨x, hv, ?_⟩
   obtain ⟨r1, _⟩ := q3 j x (.p u) hv (by rw [List.getElem?_map, hu]; rfl)
   cases r1 with
   | p _ _ h => exact h
  refine .ip cs b 0 (fun j => vs.getD j undef) (fun j u hu => him _) (fun j u hu => ?_) (fun j u hu => ?_)
  ·obtain ⟨x, hx, _⟩ := hcell j u hu
   simp only [World.cell?, q1, Nat.zero_add]
   simp [hx]
  ·obtain ⟨x, hx, hp⟩ := hcell j u hu
   have : vs.getD j undef = x := by simp [hx]
   rw [this]
   exact hp.ext fun b o _ hi => ⟨im_take hi, rfl⟩
theorem VC_cutP {P : Program} {f : Nat} {args : List VV} {M : Mem} {Q Q' : VV → Mem → Prop} (h : VC P f args M Q) (hq : (∀ e ∈ M.lg, e.1 < M.H.length ∧ e.2 < M.H.length) → ∀ r M', Q r M' → ∃ id cs lg', r = .ptr id 0 ∧ M.H.length ≤ id ∧ M'.H[id]? = some (.obj (cs.map .p)) ∧ (∀ e ∈ M'.lg, e.1 < M.H.length → e.2 < M.H.length ∧ e ∈ lg') ∧ (∀ e ∈ lg', e.1 < M.H.length ∧ e.2 < M.H.length) ∧ Q' (.ip cs) ⟨M'.H.take M.H.length, lg'⟩) : VC P f args M Q' := by
 intro G w K rargs hI ha
 refine (h G w K rargs hI ha).mono ?_
 intro e w'
 rintro ⟨rv, r, K', M', he, hQ, h1, h2, h3, h4⟩
 obtain ⟨id, cs, lg', rfl, g1, g2, g3, g4, g5⟩ := hq hI.lg r M' hQ
 refine ⟨rv, _, K', _, he, g5, ptr_ip h4 g1 g2 h1, fun q hq => by simp [refs] at hq, ?_, inv_take h4 (by have := (List.getElem?_eq_some_iff.1 g2).1; omega) g3 g4⟩
 refine h3.keep (keep_take _) (Nat.le_refl _) fun i hi => ⟨?_, rfl, fun _ _ _ => rfl⟩
 rw [List.getElem?_take_of_lt (by omega)]
theorem VC_ipq {f : Nat} {fn : Func} {c : Code} {nt : Nat} {args : List VV} {M : Mem} {cs : List PV} (hf : T.fn f = some fn) (hb : fn.body = some c) (hnt : fn.ntmps = nt) (hn : Nat.ble args.length nt = true) (hk : T.keeps f = false)
  (h : WCode Try.prog ⟨f, none, nt⟩ c (zipEnv 0 args) M [] (fun ex e M' D => (ex = .normal ∨ ex = .ret) ∧ D = [] ∧ ∃ id L, vresL T e M' fn.results.toList = some [.ptr id 0] ∧ M.H.length ≤ id ∧ M'.H = M.H ++ L ∧ M'.lg = M.lg ∧ M'.H[id]? = some (.obj (cs.map .p)))) : VC Try.prog f args M (fun r M' => M' = M ∧ r = .ip cs) := by
 refine VC_cutP (Q := fun r M' => ∃ id L, r = .ptr id 0 ∧ M.H.length ≤ id ∧ M'.H = M.H ++ L ∧ M'.lg = M.lg ∧ M'.H[id]? = some (.obj (cs.map .p))) (VC_esc T_ok hf hb hnt hn hk (h.mono ?_)) ?_
 ·rintro ex e M' D ⟨h1, h2, id, L, h3, h4, h5, h6, h7⟩
  exact ⟨h1, h2, _, h3, ⟨id, by simp [vtup, frz, refs], h4⟩, id, L, rfl, h4, h5, h6, h7⟩
 ·rintro hlg r M' ⟨id, L, rfl, h4, h5, h6, h7⟩
  refine ⟨id, cs, M.lg, rfl, h4, h7, fun e he h => ?_, hlg, ?_, rfl⟩
  ·rw [h6] at he
   exact ⟨(hlg e he).2, he⟩
  ·rw [h5]; simp
end Go.Proofs.Ythcicaelnchfdaa.Vm

/- A scope through which the run goes without a jump. (Vm) -/
namespace Go.Proofs.Ythcicaelnchfdaa.Vm
open Go Go.Proofs
section
variable {P : Program} {b : Frame} {a : Act} {k : List Item} {cs : List Frame} {w : World}
theorem stepR_scope {c : Code} : step P (lone (b.atR a (.code (.scope c) :: k)) cs w) = .next (lone (b.atR a (.code c :: .inScope c :: k)) cs w) :=
 step_lone_go (by simp [stepG, stepG.exec, Frame.atR])
theorem stepR_inScope {c : Code} : step P (lone (b.atR a (.inScope c :: k)) cs w) = .next (lone (b.atR a k) cs w) :=
 step_lone_go (by simp [stepG, stepG.exec, Frame.atR])
end
theorem wpIn_scope {F : Fence} {n : Nat} {P : Program} {Q : Exit → Act → World → Prop} {a : Act} {w : World} {c : Code} (hQ : ∀ l a w, ¬ Q (.goto l) a w) (h : c.wpIn F n P Q a w) : (Code.scope c).wpIn F n P Q a w := by
 intro b k cs hro hb hr
 have h0 : (lone (b.atR a (.code (.scope c) :: k)) cs w).fenced P F := fenced_calm hb hr rfl
 obtain ⟨e, a₁, w₁, hq, harr⟩ := h b (.inScope c :: k) cs hro hb hr
 cases e with
 | normal => exact ⟨.normal, a₁, w₁, hq, .head h0 stepR_scope (StepsIn.trans harr (.one (fenced_calm hb hr rfl) stepR_inScope))⟩
 | exit id =>
  have hx : exitTo id (.inScope c :: k) = exitTo id k := by simp [exitTo]
  exact ⟨.exit id, a₁, w₁, hq, fun k' hk => .head h0 stepR_scope (harr.1 k' (by rw [hx]; exact hk)),
   fun hr' hk => let ⟨k₁, h1, h2⟩ := harr.2 hr' (by rw [hx]; exact hk); ⟨k₁, h1, .head h0 stepR_scope h2⟩⟩
 | goto l => exact absurd hq (hQ l _ _)
 | ret => exact ⟨_, a₁, w₁, hq, .of_steps (.one h0 stepR_scope) harr⟩
 | panic ch => exact ⟨_, a₁, w₁, hq, .of_steps (.one h0 stepR_scope) harr⟩
 | outgrown => exact ⟨_, a₁, w₁, hq, .of_steps (.one h0 stepR_scope) harr⟩
theorem W_scope {P : Program} {cx : Cx} {e : Env} {M : Mem} {D : List Nat} {Q : PQ} {c : Code} (h : WCode P cx c e M D Q) : WCode P cx (.scope c) e M D Q := fun G w K a hs =>
 wpIn_scope (fun l a w ⟨_, _, _, _, _, hx, _⟩ => hx.elim) (h G w K a hs)
theorem W_then {P : Program} {cx : Cx} {e : Env} {M : Mem} {D : List Nat} {Q : PQ} {c : Code} {Kn : Env → Mem → List Nat → Prop} (E : Env) (M1 : Mem) (h1 : WCode P cx c e M D (fun ex e' M' D' => ex = .normal ∧ D' = D ∧ M' = M1 ∧ Sub E e')) (h2 : WCode P cx .skip E M1 D (fun _ _ _ _ => True) → ∀ e', Sub E e' → Kn e' M1 D) : WCode P cx c e M D (thenQ Kn Q) :=
 h1.mono (by rintro ex e' M' D' ⟨rfl, rfl, rfl, hS⟩; exact h2 (W_skip trivial) e' hS)
theorem W_thenC {P : Program} {cx : Cx} {e : Env} {M : Mem} {D : List Nat} {Q Q' : PQ} {c c' : Code} (E : Env) (M1 : Mem) (h1 : WCode P cx c e M D (fun ex e' M' D' => ex = .normal ∧ D' = D ∧ M' = M1 ∧ Sub E e')) (h2 : WCode P cx c' E M1 D Q') : WCode P cx c e M D (thenQ (fun e' M' D' => WCode P cx c' e' M' D' Q') Q) :=
 W_then E M1 h1 fun _ _ hS => h2.weak hS.ok
end Go.Proofs.Ythcicaelnchfdaa.Vm

/- A range over a map, whatever the order. (Vm) -/
namespace Go.Proofs.Ythcicaelnchfdaa.Vm
open Go Go.Proofs
open Go.ChangeMaps Go.MapKept
theorem raw_op {P : Program} {r : Option Nat} {o : Oper} {a : Act} {w w' : World} {rv : Value} {next : Act → World → Prop} {Q : Exit → Act → World → Prop} (hd : ∀ c, o.op ≠ .defer c) (h : (execOp a.eval o).run P w = .ok (.value rv) w') (hn : next (a.put o.dst rv) w') : o.wpIn (fence r) 0 P a w next Q := by
 refine ⟨fun _ _ => trivial, ?_⟩
 rw [Oper.semAt_eq _ _ _ hd, h]
 exact hn
section
variable {P : Program} {ρ : Operand → Value} {o : Oper} {w w' : World} {rv v : Value}
theorem exec_range {t : TypeId} {m : Operand} (ho : o.op = .range t m) (hm : ρ m = v) (h : (Instr.range t v).run P w = .ok rv w') : (execOp ρ o).run P w = .ok (.value rv) w' := by
 unfold execOp
 simp only [ho, hm]
 simp [h]
theorem exec_next {m : Operand} (ho : o.op = .next m false) (hm : ρ m = v) (h : (Instr.next v false o.type).run P w = .ok rv w') : (execOp ρ o).run P w = .ok (.value rv) w' := by
 unfold execOp
 simp only [ho, hm]
 simp [h]
theorem exec_entry {m : Operand} (ho : o.op = .entry m) (hm : ρ m = v) (h : (Instr.entry v).run P w = .ok rv w') : (execOp ρ o).run P w = .ok (.value rv) w' := by
 unfold execOp
 simp only [ho, hm]
 simp [h]
end
theorem iter_keep {G : Ghost} {w w1 : World} {K : Nat → Option Nat} {M : Mem} {it r : Nat} {bm : Option Nat} {since c0 : Nat} {seen seen' : Array Nat} {c1 : Nat} (hI : Inv G w K M) (hit : M.H[it]? = some .dead) (hK : K it = some r) (hr : w.heap[r]? = some (.mapIter bm since seen c0)) (hw1 : w1 = w ∨ w1 = w.drew) :
  (∀ b, b ≠ r → (setBlock w1 r (.mapIter bm since seen' c1)).heap[b]? = w.heap[b]?) ∧ (setBlock w1 r (.mapIter bm since seen' c1)).heap[r]? = some (.mapIter bm since seen' c1) ∧ (setBlock w1 r (.mapIter bm since seen' c1)).heap.size = w.heap.size ∧
  Keep (fun _ => True) w K M.H (setBlock w1 r (.mapIter bm since seen' c1)) K M.H ∧ (∀ i o, M.H[i]? = some o → o ≠ .gone → i ≠ it → ∀ b, K i = some b → b ≠ r) ∧ (G.B ≤ r → Inv G (setBlock w1 r (.mapIter bm since seen' c1)) K M) := by
 have hheap : w1.heap = w.heap := by rcases hw1 with rfl | rfl <;> rfl
 have hos : w1.os = w.os ∧ w1.tape = w.tape ∧ w1.output = w.output := by rcases hw1 with rfl | rfl <;> exact ⟨rfl, rfl, rfl⟩
 have hr1 : w1.heap[r]? = some (.mapIter bm since seen c0) := by rw [hheap]; exact hr
 have hset := MapKept.heap_set (o' := .mapIter bm since seen' c1) hr1
 obtain ⟨w2, hw2⟩ : ∃ w2, w2 = setBlock w1 r (.mapIter bm since seen' c1) := ⟨_, rfl⟩
 have h2 : w2.heap = w1.heap.setIfInBounds r (.mapIter bm since seen' c1) := by rw [hw2]; rfl
 rw [← hw2]
 have hoth : ∀ b, b ≠ r → w2.heap[b]? = w.heap[b]? := fun b hb => by rw [h2, hset.2 b hb, hheap]
 have hsame : w2.heap[r]? = some (.mapIter bm since seen' c1) := by rw [h2]; exact hset.1
 have hsz : w2.heap.size = w.heap.size := by rw [h2, Array.size_setIfInBounds, hheap]
 have hitl := (List.getElem?_eq_some_iff.1 hit).1
 have hne : ∀ i o, M.H[i]? = some o → o ≠ .gone → i ≠ it → ∀ b, K i = some b → b ≠ r := fun i o ho hg hi b hb e => by
  subst e
  exact hi (hI.inj i it b (List.getElem?_eq_some_iff.1 ho).1 hitl (by rw [ho]; simpa using hg) (by rw [hit]; simp) hb hK)
 have hcell : ∀ b o, w2.cell? ⟨b, o, none⟩ = w.cell? ⟨b, o, none⟩ := fun b o => by
  by_cases e : b = r
  ·subst e
   simp only [World.cell?, hsame, hr]
  ·simp only [World.cell?, hoth b e]
 have hkeep : Keep (fun _ => True) w K M.H w2 K M.H := by
  refine ⟨fun b vs t z hb => ⟨vs, ?_, rfl⟩, fun b o _ him => ⟨him, hcell b o⟩, fun i _ hn => ⟨fun _ h => h, hn⟩, fun i m k _ hm => ⟨m, hm, Nat.le_refl _, fun _ => ⟨rfl, fun b hb => ?_⟩⟩⟩
  ·rw [hoth b (fun e => by subst e; rw [hr] at hb; cases hb)]; exact hb
  ·exact hoth b (hne i _ hm (by simp) (fun e => by subst e; rw [hit] at hm; cases hm) b hb)
 refine ⟨hoth, hsame, hsz, hkeep, hne, fun hB => ?_⟩
 have hos2 : w2.os = w.os ∧ w2.tape = w.tape ∧ w2.output = w.output := by rw [hw2]; exact hos
 refine ⟨hos2.1.trans hI.os, hos2.2.1.trans hI.tape, hos2.2.2.trans hI.output, by rw [hsz]; exact hI.size, by rw [hsz]; exact hI.gB, fun b h1 h2 => ?_, hI.inj, fun i b hi hb => by rw [hsz]; exact hI.blk i b hi hb, fun i o ho => ?_, hI.cl, hI.lg, hI.lpd⟩
 ·rw [hoth b (fun e => by subst e; omega)]
  exact hI.old b h1 h2
 ·by_cases hi : i = it
  ·subst hi
   rw [hit] at ho
   cases ho
   exact trivial
  ·refine (hI.obj i o ho).keepg hkeep (fun hg b hb => hoth b (hne i o ho hg hi b hb)) (fun _ _ _ _ => trivial) (fun L e => ⟨trivial, ?_⟩)
   subst e
   obtain ⟨_, _, _, _, _, _, _, _, _, _, _, _, _, hlt, _⟩ := hI.obj i _ ho
   exact hlt
theorem FrOk.keepT {w w' : World} {K K' : Nat → Option Nat} {M : Mem} {nt : Nat} {tmps : Array Value} {e : Env} (h : FrOk w K M nt tmps e) (hk : Keep (fun _ => True) w K M.H w' K' M.H) : FrOk w' K' M nt tmps e :=
 ⟨h.size, fun t => (h.rep t).keep hk fun _ _ => trivial, h.cl⟩
theorem dead_map {G : Ghost} {w : World} {K : Nat → Option Nat} {M : Mem} {id : Nat} {sh : KSh} {es : List (List Int × VV)} (i1 : Inv G w K M) (h1 : M.H[id]? = some (.mpo sh es)) : Ext w K M.H w K (M.H.set id .dead) ∧ Inv G w K ⟨M.H.set id .dead, M.lg⟩ := by
 have hil := (List.getElem?_eq_some_iff.1 h1).1
 obtain ⟨H2, hH2⟩ : ∃ H2, H2 = M.H.set id .dead := ⟨_, rfl⟩
 have hl2 : H2.length = M.H.length := by rw [hH2]; simp
 have hs2 : ∀ i x, H2[i]? = some x → (i = id ∧ x = .dead) ∨ (i ≠ id ∧ M.H[i]? = some x) := fun i x hx => by
  rw [hH2] at hx
  rcases set_get hx with ⟨rfl, rfl, _⟩ | ⟨b1, b2⟩
  ·exact .inl ⟨rfl, rfl⟩
  ·exact .inr ⟨b1, b2⟩
 have hE : Ext w K M.H w K H2 := by
  refine ⟨Nat.le_refl _, Szp.refl _, fun b q _ him i ob hi hb => ?_, fun _ _ _ _ => rfl, fun i x hi => ?_⟩
  ·rcases hs2 i ob hi with ⟨rfl, rfl⟩ | ⟨_, h2⟩
   ·exact .inl trivial
   ·exact him i ob h2 hb
  ·by_cases hid : i = id
   ·subst hid
    rw [h1] at hi
    cases hi
    exact ⟨.dead, by rw [hH2, List.getElem?_set_self hil], fun _ _ e => VObj.noConfusion e, rfl⟩
   ·exact ⟨x, by rw [hH2, List.getElem?_set_ne (Ne.symm hid)]; exact hi, objLe_same rfl fun b _ => rfl⟩
 have hI2 : Inv G w K { H := H2, lg := M.lg } := by
  refine ⟨i1.os, i1.tape, i1.output, i1.size, i1.gB, i1.old, inj_set i1 hl2 (fun i hg => by
   by_cases e1 : i = id
   ·rw [e1, h1]; simp
   ·rw [hH2, List.getElem?_set_ne (fun h => e1 h.symm)] at hg
    exact hg), fun i b hi => i1.blk i b (by simpa [hl2] using hi), fun i x hi => ?_, fun i x hi cc hcc r hr => ?_, fun en hen => ?_, fun i L hi => ?_⟩
  ·rcases hs2 i x hi with ⟨rfl, rfl⟩ | ⟨_, h2⟩
   ·exact trivial
   ·exact (i1.obj i x h2).ext hE (fun _ _ => rfl) (i1.content h2)
  ·simp only [hl2]
   rcases hs2 i x hi with ⟨rfl, rfl⟩ | ⟨_, h2⟩
   ·simp [contents] at hcc
   ·exact i1.cl i x h2 cc hcc r hr
  ·simp only [hl2]
   exact i1.lg en hen
  ·rcases hs2 i _ hi with ⟨rfl, e2⟩ | ⟨_, h2⟩
   ·cases e2
   ·exact i1.lpd i L h2
 rw [← hH2]
 exact ⟨hE, hI2⟩
theorem wpOps_cons {F : Fence} {n : Nat} {P : Program} {ops : Array Oper} {Q : Exit → Act → World → Prop} {i : Nat} {rest : List Nat} {o : Oper} {a : Act} {w : World} (ho : ops[i]? = some o) (hg : o.guard = none) (h : o.wpIn F n P a w (wpOpsIn F n P ops Q rest) Q) : wpOpsIn F n P ops Q (i :: rest) a w := by
 rw [wpOpsIn]
 simp only [ho]
 rw [if_pos (by simp [Region.wanted, hg])]
 exact h
theorem put_eval {a : Act} {d : Nat} {v : Value} (h : d < a.tmps.size) : (a.put (some d) v).eval (.tmp d) = v := by
 simp [Act.put, Act.eval, h]
theorem putA_size {a : Act} {d : Option Nat} {v : Value} : (a.put d v).tmps.size = a.tmps.size := by
 cases d <;> simp [Act.put]
theorem putA_dfr {a : Act} {d : Option Nat} {v : Value} : (a.put d v).defers = a.defers := by
 cases d <;> rfl
theorem dead_stay {w w' : World} {K K' : Nat → Option Nat} {H H' : List VObj} (h : Ext w K H w' K' H') {i b : Nat} (hi : H[i]? = some .dead) (hK : K i = some b) : w'.heap[b]? = w.heap[b]? ∧ K' i = some b := by
 obtain ⟨o', _, _, h2, h3⟩ := h.obj i _ hi
 exact ⟨h3 b hK, h2.trans hK⟩
theorem Sub_push {E e : Env} {t : Nat} {v : VV} (h : Sub E e) (hE : ∀ p ∈ E, p.1 ≠ t) : Sub E ((t, v) :: e) := by
 induction E with
 | nil => trivial
 | cons p E ih =>
  obtain ⟨k, u⟩ := p
  refine ⟨?_, ih h.2 fun p hp => hE p (by simp [hp])⟩
  rw [get_cons, if_neg (hE (k, u) (by simp))]
  exact h.1
section
variable {P : Program} {T : Tab}
variable {i2 i3 i4 b0 b1 t8 t9 t10 t11 t12 tm : Nat} {x : Operand} {ty1 ty2 ty3 ty4 ty5 : TypeId} {p1 p2 p3 p4 p5 : String} {af1 af2 af3 af4 af5 : Array Edge}
theorem W_mapRange {σ : Type} (hT : TabOk P T) {fid nt : Nat} {e : Env} {M : Mem} {Q : PQ} {ops4 : Array Oper} {rest4 : List Oper} {body : Code} {id : Nat} {kk : IntKind} {es : List (List Int × VV)} {tk te : TypeId}
  (h4 : ops4.toList = { dst := some t12, op := .entry (.tmp t9), type := ty5, pos := p5, after := af5, guard := none } :: rest4)
  (hx : ev e x = .mp id) (hid : M.H[id]? = some (.mpo (.int kk) es)) (hks : ∀ p ∈ es, ∃ n, p.1 = [n]) (hty : P.underlying tm = some (.map tk te))
  (ht : t8 < nt ∧ t9 < nt ∧ t10 < nt ∧ t11 < nt ∧ t12 < nt ∧ t9 ≠ t8 ∧ t9 ≠ t10 ∧ t9 ≠ t11)
  (E : σ → Env) (N : σ → Mem) (good : σ → List (List Int × VV) → Prop) (s0 : σ) (h0 : good s0 []) (hE0 : Sub (E s0) ((t9, .ptr M.H.length 0) :: (t8, .mp id) :: e)) (hN0 : N s0 = ⟨M.H.set id .dead ++ [.dead], M.lg⟩)
  (hE9 : ∀ s, get (E s) t9 = .ptr M.H.length 0) (hEk : ∀ s, ∀ p ∈ E s, p.1 ≠ t10 ∧ p.1 ≠ t11 ∧ p.1 ≠ t12) (hNd : ∀ s vis, good s vis → (N s).H[id]? = some .dead ∧ (N s).H[M.H.length]? = some .dead)
  (hend : ∀ s vis, vis.Perm es → good s vis → ∀ e', Sub (E s) e' → Q .normal e' (N s) [])
  (hround : ∀ s vis n v rest, (vis ++ ([n], v) :: rest).Perm es → good s vis → WOps P T nt ops4 rest4 ((t12, .tup [.p (.int kk n), v]) :: E s) (N s) fun e' M' => WCode P ⟨fid, none, nt⟩ body e' M' [] fun ex e' M' D' => ex = .normal ∧ D' = [] ∧ ∃ s', good s' (vis ++ [([n], v)]) ∧ Sub (E s') e' ∧ M' = N s') :
  WCode P ⟨fid, none, nt⟩ (.seq (.region i2 #[{ dst := some t8, op := .move x, type := ty1, pos := p1, after := af1, guard := none }, { dst := some t9, op := .range tm (.tmp t8), type := ty2, pos := p2, after := af2, guard := none }] false)
   (.block b0 (.loop (.seq (.region i3 #[{ dst := some t10, op := .next (.tmp t9) false, type := ty3, pos := p3, after := af3, guard := none }, { dst := some t11, op := .extract (.tmp t10) 0, type := ty4, pos := p4, after := af4, guard := none }] false)
    (.seq (.cond (.tmp t11) .skip (.exit b0)) (.block b1 (.seq (.region i4 ops4 false) body))))))) e M [] Q := by
 intro G w K a hs
 obtain ⟨ht8, ht9, ht10, ht11, ht12, n98, n910, n911⟩ := ht
 have hI := hs.inv
 have hsz := hs.fr.size
 simp only at hsz
 have hev := (hs.fr.ev x).1
 rw [hx] at hev
 generalize hax : a.eval x = av at hev
 cases hev with
 | mp _ b hKb hnc =>
 obtain ⟨b', ents, clock, e1, h1, h2, hst, h3⟩ := hI.obj id _ hid
 rw [hKb] at e1
 cases e1
 show Code.wpIn (fence none) 0 P _ _ a w
 refine wpIn_seq (wpIn_region ?_)
 show wpOpsIn (fence none) 0 P _ _ [0, 1] a w
 refine wpOps_cons rfl rfl (raw_op (rv := .map (some b)) (w' := w) (fun c hc => by simp at hc) (by simp [execOp, hax]) ?_)
 have hsz1 : (a.put (some t8) (.map (some b))).tmps.size = nt := by rw [putA_size]; exact hsz
 refine wpOps_cons rfl rfl (raw_op (rv := .pointer (some ⟨w.heap.size, 0, none⟩)) (w' := w.alloc (.mapIter (some b) clock #[] clock)) (fun c hc => by simp at hc) (exec_range rfl (put_eval (by omega)) (run_range_map (P := P) w tm tk te b ents clock hty h1)) ?_)
 rw [wpOpsIn]
 show Code.wpIn (fence none) 0 P _ _ _ _
 -- where the loop begins
 obtain ⟨hEa, hIa⟩ := dead_map hI hid
 obtain ⟨r, hrr⟩ : ∃ r, r = w.heap.size := ⟨_, rfl⟩
 obtain ⟨it, hit⟩ : ∃ it, it = M.H.length := ⟨_, rfl⟩
 have hla : (M.H.set id .dead).length = it := by rw [hit]; simp
 have hidl : id < it := by rw [hit]; exact (List.getElem?_eq_some_iff.1 hid).1
 obtain ⟨w1, hw1⟩ : ∃ w1, w1 = w.alloc (.mapIter (some b) clock #[] clock) := ⟨_, rfl⟩
 have hal := MapKept.heap_alloc w (.mapIter (some b) clock #[] clock)
 have hIb := step_new hIa (w' := w1) (by rw [hw1]; exact ⟨rfl, rfl, rfl, by show w.heap.size ≤ (w.heap.push _).size; simp⟩) (fun b hb => by rw [hw1]; exact hal.2 b hb) .dead (some r) (fun b hb => by cases hb; rw [hrr, hw1]; exact ⟨Nat.le_refl _, by show _ < (w.heap.push _).size; simp⟩) (by simp [contents]) (fun _ => trivial)
 obtain ⟨hEb, hIb⟩ := hIb
 simp only [Mem.push, hla] at hEb hIb
 have hE1 : Ext w K M.H w1 (upd K it (some r)) (M.H.set id .dead ++ [.dead]) := hEa.trans hEb
 have hB : G.B ≤ r := by rw [hrr]; exact hI.gB
 have hr0 : w1.heap[r]? = some (.mapIter (some b) clock #[] clock) := by rw [hrr, hw1]; exact hal.1
 have hblt : b < w.heap.size := (Array.getElem?_eq_some_iff.1 h1).1
 have hb0 : w1.heap[b]? = some (.map ents clock) := by rw [hw1, hal.2 b hblt]; exact h1
 have hbr : b ≠ r := by omega
 have hfr1 := hs.fr.ext (M' := ⟨M.H.set id .dead ++ [.dead], M.lg⟩) hE1
 have hfr2 : FrOk w1 (upd K it (some r)) ⟨M.H.set id .dead ++ [.dead], M.lg⟩ nt ((a.put (some t8) (.map (some b))).put (some t9) (.pointer (some ⟨w.heap.size, 0, none⟩))).tmps ((t9, .ptr it 0) :: (t8, .mp id) :: e) := by
  refine FrOk.put (FrOk.put hfr1 ht8 (.mp id b (by rw [upd_ne _ _ (by omega)]; exact hKb) (fun m k hm => ?_)) (fun q hq => by simp [refs] at hq; subst hq; simp; omega)) ht9 (.ptr it 0 w.heap.size (by rw [upd_same, hrr]) (fun m k hm => ?_)) (fun q hq => by simp [refs] at hq; subst hq; simp; omega)
  ·simp only at hm
   rw [List.getElem?_append_left (by rw [hla]; exact hidl), List.getElem?_set_self (by omega)] at hm
   cases hm
  ·simp only at hm
   rw [← hla, List.getElem?_append_right (Nat.le_refl _), Nat.sub_self] at hm
   cases hm
 have hst1 : StOk ⟨fid, none, nt⟩ G w1 (upd K it (some r)) (N s0) ((a.put (some t8) (.map (some b))).put (some t9) (.pointer (some ⟨w.heap.size, 0, none⟩))) ((t9, .ptr it 0) :: (t8, .mp id) :: e) [] := by
  rw [hN0]
  refine ⟨hfr2, ?_, hIb, fun _ h => by cases h⟩
  rw [putA_dfr, putA_dfr]
  exact df_ext (M' := ⟨M.H.set id .dead ++ [.dead], M.lg⟩) hE1 hs.df
 rw [← hw1]
 rw [← hit] at hE0 hE9 hNd
 -- the list of entries with what they stand for
 obtain ⟨Z, hZ⟩ : ∃ Z, Z = ents.toList.zip es := ⟨_, rfl⟩
 have hZ2 : Z.map (·.2) = es := by rw [hZ]; exact List.map_snd_zip (by simp [h2])
 have hZ1 : Z.map (·.1) = ents.toList := by rw [hZ]; exact List.map_fst_zip (by simp [h2])
 have hZm : ∀ z ∈ Z, z.1.key = keyVal (.int kk) z.2.1 ∧ RepV w K M.H z.1.val z.2.2 ∧ Cl M.H.length z.2.2 ∧ z.1 ∈ ents.toList ∧ z.2 ∈ es := fun z hz => by
  rw [hZ] at hz
  obtain ⟨i, hi⟩ := List.getElem?_of_mem hz
  rw [List.getElem?_zip_eq_some] at hi
  obtain ⟨q1, _, q3⟩ := h3 i z.1 z.2.1 z.2.2 (by simpa using hi.1) hi.2
  exact ⟨q1, q3, hI.content hid z.2.2 (List.mem_map.2 ⟨z.2, List.mem_of_getElem? hi.2, rfl⟩), List.mem_of_getElem? hi.1, List.mem_of_getElem? hi.2⟩
 have hnd : (Z.map fun z => z.1.born).Nodup := by
  have := hst.2
  rw [← hZ1, List.map_map] at this
  exact this
 let J : Nat → Act → World → Prop := fun n a1 w1 => ∃ (s : σ) (Zv Zr : List (MapEntry × (List Int × VV))) (e1 : Env) (K1 : Nat → Option Nat) (seen : Array Nat), n = Zr.length ∧ (Zv ++ Zr).Perm Z ∧ seen.toList = Zv.map (fun z => z.1.born) ∧ Sub (E s) e1 ∧ good s (Zv.map (·.2)) ∧ StOk ⟨fid, none, nt⟩ G w1 K1 (N s) a1 e1 [] ∧ Ext w K M.H w1 K1 (N s).H ∧ K1 it = some r ∧ K1 id = some b ∧ w1.heap[r]? = some (.mapIter (some b) clock seen clock) ∧ w1.heap[b]? = some (.map ents clock)
 refine wpIn_block (wpIn_loop (fun a' w' => ∃ n, J n a' w') (fun a' w' => leastOf fun n => J n a' w') ⟨_, s0, [], Z, _, _, #[], rfl, by simp, rfl, hE0, h0, hst1, by rw [hN0]; exact hE1, upd_same _ _ _, by rw [upd_ne _ _ (by omega)]; exact hKb, hr0, hb0⟩ ?_)
 rintro a1 w2 ⟨n1, hn1⟩
 obtain ⟨⟨s, Zv, Zr, e1, K1, seen, hnn, hperm, hseen, hS, hg, hst2, hE2, hKit, hKid, hr2, hb2⟩, hleast⟩ := leastOf_spec (p := fun n => J n a1 w2) hn1
 obtain ⟨hd1, hd2⟩ := hNd s _ hg
 have hI2 := hst2.inv
 have hfr2 := hst2.fr
 have hsz2 := hfr2.size
 simp only at hsz2
 -- the iterator's temp
 have hg9 : get e1 t9 = .ptr it 0 := by
  rcases hS.ok t9 with h | h
  ·rw [← h, hE9 s]
  ·rw [hE9 s] at h; cases h
 have hv9 : a1.eval (.tmp t9) = .pointer (some ⟨r, 0, none⟩) := by
  have h := (hfr2.ev (.tmp t9)).1
  simp only [ev, hg9] at h
  generalize a1.eval (.tmp t9) = v9 at h
  cases h with
  | ptr _ _ b9 hb9 _ =>
   rw [hKit] at hb9
   cases hb9; rfl
 have hold : ∀ z ∈ ents.toList, z.born < clock := hst.1
 refine wpIn_seq (wpIn_region ?_)
 show wpOpsIn (fence none) 0 P _ _ [0, 1] a1 w2
 rcases run_next_at (P := P) w2 ty3 r b clock clock seen ents clock hr2 hb2 hold (Nat.le_refl _) with ⟨hz, hrun⟩ | ⟨en, hen, w3, hw3, hrun⟩
 ·-- nothing is left
  refine wpOps_cons rfl rfl (raw_op (rv := .tuple #[.bool false]) (w' := w2) (fun c hc => by simp at hc) (exec_next rfl hv9 hrun) ?_)
  have hZr : Zr = [] := by
   cases Zr with
   | nil => rfl
   | cons z Zr =>
    have hz2 : z ∈ Z := hperm.subset (by simp)
    have := all_seen ents seen hz z.1 (hZm z hz2).2.2.2.1
    rw [Array.contains_eq_mem, decide_eq_true_eq, ← Array.mem_toList_iff, hseen] at this
    have hn2 := (hperm.map (fun z => z.1.born)).nodup_iff.2 hnd
    rw [List.map_append, List.map_cons, List.nodup_append] at hn2
    exact absurd rfl (hn2.2.2 _ this _ (by simp))
  subst hZr
  rw [List.append_nil] at hperm
  have hfr3 : FrOk w2 K1 (N s) nt (a1.put (some t10) (.tuple #[.bool false])).tmps ((t10, .tup [.p (.bool false)]) :: e1) := hfr2.put ht10 (.tup _ _ rfl fun i v c hv hc => by
   rcases i with _ | i
   ·simp at hv hc; subst hv hc; exact .p _ _ (.bool false)
   ·simp at hv) (fun q hq => by simp [refs, refsL] at hq)
  have := wops_ok hT (r := none) (nt := nt) (all := #[{ dst := some t10, op := .next (.tmp t9) false, type := ty3, pos := p3, after := af3, guard := none }, { dst := some t11, op := .extract (.tmp t10) 0, type := ty4, pos := p4, after := af4, guard := none }]) (G := G) (Q := Exit.then (fun a' w' => Code.wpIn (fence none) 0 P (.seq (.cond (.tmp t11) .skip (.exit b0)) (.block b1 (.seq (.region i4 ops4 false) body))) (Exit.then (fun a' w' => (∃ n, J n a' w') ∧ leastOf (fun n => J n a' w') < leastOf (fun n => J n a1 w2)) (Exit.inBlock b0 (WPost ⟨fid, none, nt⟩ G w K M Q))) a' w') (Exit.then (fun a' w' => (∃ n, J n a' w') ∧ leastOf (fun n => J n a' w') < leastOf (fun n => J n a1 w2)) (Exit.inBlock b0 (WPost ⟨fid, none, nt⟩ G w K M Q))))
   [{ dst := some t11, op := .extract (.tmp t10) 0, type := ty4, pos := p4, after := af4, guard := none }] 1 w2 K1 (N s) _ _ (fun e' M' => e' = (t11, .p (.bool false)) :: (t10, .tup [.p (.bool false)]) :: e1 ∧ M' = N s) (fun j => by
    rcases j with _ | j
    ·rfl
    ·simp; omega) hfr3 hI2 (by rw [S_extract]; simp [ev, get_cons, S_nil, ht11, extV, Put_some]) ?_
  ·exact this
  ·rintro e' M' a' w' K' ⟨rfl, rfl⟩ hf3 hd3 hi3 hE3
   refine wpIn_seq (wpIn_cond_false (by
    have := (hf3.ev (.tmp t11)).1
    simp only [ev, get_cons, if_true] at this
    exact rep_bool this) (wpIn_exit ?_))
   simp only [Exit.then, Exit.inBlock, if_true]
   refine ⟨_, N s, K', [], hend s _ ?_ hg ((t11, .p (.bool false)) :: (t10, .tup [.p (.bool false)]) :: e1) ?_, trivial, ⟨hf3, ?_, hi3, fun _ h => by cases h⟩, hE2.trans hE3⟩
   ·have := hperm.map (·.2)
    rw [hZ2] at this
    exact this
   ·exact Sub_push (Sub_push hS fun p hp => (hEk s p hp).1) fun p hp => (hEk s p hp).2.1
   ·rw [hd3, putA_dfr]
    exact df_ext hE3 hst2.df
 ·-- an entry
  obtain ⟨henm, hens⟩ := mem_left hen
  obtain ⟨z, hzZ, hz1⟩ : ∃ z ∈ Z, z.1 = en := by
   rw [← hZ1] at henm
   exact List.mem_map.1 henm
  have hzr : z ∈ Zr := by
   rcases List.mem_append.1 (hperm.symm.subset hzZ) with h | h
   ·have : en.born ∈ seen.toList := by rw [hseen, ← hz1]; exact List.mem_map.2 ⟨z, h, rfl⟩
    rw [Array.contains_eq_mem, decide_eq_false_iff_not, ← Array.mem_toList_iff] at hens
    exact absurd this hens
   ·exact h
  obtain ⟨A, B, hAB⟩ := List.append_of_mem hzr
  obtain ⟨zk, zrep, zcl, _, zes⟩ := hZm z hzZ
  obtain ⟨nk, hnk⟩ := hks z.2 zes
  rw [hnk] at zk
  have zk' : en.key = .int kk nk := by rw [← hz1]; exact zk
  obtain ⟨hoth, hsame, hsz4, hkeep, hne, hInv⟩ := iter_keep (seen' := seen.push en.born) (c1 := clock) hI2 hd2 hKit hr2 hw3
  generalize setBlock w3 r (.mapIter (some b) clock (seen.push en.born) clock) = w4 at hrun hoth hsame hsz4 hkeep hInv
  have hI4 := hInv hB
  have hE4 : Ext w K M.H w4 K1 (N s).H := hE2.keep hkeep (by omega) fun i hi => ⟨rfl, rfl, fun hg b' hb' => by
   cases ho : (N s).H[i]? with
   | none =>
    have := hE2.len
    rw [List.getElem?_eq_none_iff] at ho
    omega
   | some o => exact hoth b' (hne i o ho (fun e => hg (by rw [ho, e])) (by omega) b' hb')⟩
  have hb4 : w4.heap[b]? = some (.map ents clock) := by rw [hoth b hbr]; exact hb2
  have hvrep : RepV w4 K1 (N s).H en.val z.2.2 := by
   have := zrep.ext hE2 zcl
   rw [hz1] at this
   exact this.keep hkeep fun _ _ => trivial
  have hvcl : Cl (N s).H.length z.2.2 := zcl.mono hE2.len
  refine wpOps_cons rfl rfl (raw_op (rv := .tuple #[.bool true, en.key, en.val]) (w' := w4) (fun c hc => by simp at hc) (exec_next rfl hv9 hrun) ?_)
  have hfr4 : FrOk w4 K1 (N s) nt (a1.put (some t10) (.tuple #[.bool true, en.key, en.val])).tmps ((t10, .tup [.p (.bool true), .p (.int kk nk), z.2.2]) :: e1) := (hfr2.keepT hkeep).put ht10 (.tup _ _ rfl fun i v c hv hc => by
   rcases i with _ | _ | _ | i
   ·simp at hv hc; subst hv hc; exact .p _ _ (.bool true)
   ·simp at hv hc; subst hv hc; rw [zk']; exact .p _ _ (.int kk nk)
   ·simp at hv hc; subst hv hc; exact hvrep
   ·simp at hv) (fun q hq => by simp [refs, refsL] at hq; exact hvcl q hq)
  have := wops_ok hT (r := none) (nt := nt) (all := #[{ dst := some t10, op := .next (.tmp t9) false, type := ty3, pos := p3, after := af3, guard := none }, { dst := some t11, op := .extract (.tmp t10) 0, type := ty4, pos := p4, after := af4, guard := none }]) (G := G) (Q := Exit.then (fun a' w' => Code.wpIn (fence none) 0 P (.seq (.cond (.tmp t11) .skip (.exit b0)) (.block b1 (.seq (.region i4 ops4 false) body))) (Exit.then (fun a' w' => (∃ n, J n a' w') ∧ leastOf (fun n => J n a' w') < leastOf (fun n => J n a1 w2)) (Exit.inBlock b0 (WPost ⟨fid, none, nt⟩ G w K M Q))) a' w') (Exit.then (fun a' w' => (∃ n, J n a' w') ∧ leastOf (fun n => J n a' w') < leastOf (fun n => J n a1 w2)) (Exit.inBlock b0 (WPost ⟨fid, none, nt⟩ G w K M Q))))
   [{ dst := some t11, op := .extract (.tmp t10) 0, type := ty4, pos := p4, after := af4, guard := none }] 1 w4 K1 (N s) _ _ (fun e' M' => e' = (t11, .p (.bool true)) :: (t10, .tup [.p (.bool true), .p (.int kk nk), z.2.2]) :: e1 ∧ M' = N s) (fun j => by
    rcases j with _ | j
    ·rfl
    ·simp; omega) hfr4 hI4 (by rw [S_extract]; simp [ev, get_cons, S_nil, ht11, extV, Put_some]) ?_
  ·exact this
  ·rintro e' M' a5 w5 K5 ⟨rfl, rfl⟩ hf5 hd5 hi5 hE5
   obtain ⟨hr5, hKit5⟩ := dead_stay hE5 hd2 hKit
   obtain ⟨hb5, hKid5⟩ := dead_stay hE5 hd1 hKid
   rw [hsame] at hr5
   rw [hb4] at hb5
   have hS5 : Sub (E s) ((t11, VV.p (.bool true)) :: (t10, .tup [.p (.bool true), .p (.int kk nk), z.2.2]) :: e1) := Sub_push (Sub_push hS fun p hp => (hEk s p hp).1) fun p hp => (hEk s p hp).2.1
   refine wpIn_seq (wpIn_cond_true (by
    have := (hf5.ev (.tmp t11)).1
    simp only [ev, get_cons, if_true] at this
    exact rep_bool this) (wpIn_skip ?_))
   show Code.wpIn (fence none) 0 P _ _ _ _
   refine wpIn_block (wpIn_seq (wpIn_region ?_))
   have hv95 : a5.eval (.tmp t9) = .pointer (some ⟨r, 0, none⟩) := by
    have h := (hf5.ev (.tmp t9)).1
    simp only [ev, get_cons, if_neg n911, if_neg n910, hg9] at h
    generalize a5.eval (.tmp t9) = v9 at h
    cases h with
    | ptr _ _ b9 hb9 _ =>
     rw [hKit5] at hb9
     cases hb9; rfl
   have hsize : ops4.size = rest4.length + 1 := by
    rw [← Array.length_toList, h4]; rfl
   rw [List.range_eq_range', hsize, List.range'_succ]
   refine wpOps_cons (o := { dst := some t12, op := .entry (.tmp t9), type := ty5, pos := p5, after := af5, guard := none }) (by rw [← Array.getElem?_toList, h4]; rfl) rfl (raw_op (rv := .tuple #[en.key, en.val]) (w' := w5) (fun c hc => by simp at hc) (exec_entry rfl hv95 (run_entry_at (P := P) w5 r b clock seen ents clock en hr5 hb5 henm hst.2)) ?_)
   have hvrep5 : RepV w5 K5 (N s).H en.val z.2.2 := hvrep.ext hE5 hvcl
   have hf6 : FrOk w5 K5 (N s) nt (a5.put (some t12) (.tuple #[en.key, en.val])).tmps ((t12, .tup [.p (.int kk nk), z.2.2]) :: (t11, .p (.bool true)) :: (t10, .tup [.p (.bool true), .p (.int kk nk), z.2.2]) :: e1) := hf5.put ht12 (.tup _ _ rfl fun i v c hv hc => by
    rcases i with _ | _ | i
    ·simp at hv hc; subst hv hc; rw [zk']; exact .p _ _ (.int kk nk)
    ·simp at hv hc; subst hv hc; exact hvrep5
    ·simp at hv) (fun q hq => by simp [refs, refsL] at hq; exact hvcl q hq)
   have hf7 : FrOk w5 K5 (N s) nt (a5.put (some t12) (.tuple #[en.key, en.val])).tmps ((t12, .tup [.p (.int kk nk), z.2.2]) :: E s) := hf6.weak fun t => by
    rw [get_cons, get_cons]
    by_cases e : t = t12
    ·rw [if_pos e, if_pos e]; exact .inl rfl
    ·rw [if_neg e, if_neg e]; exact hS5.ok t
   have hperm2 : ((Zv ++ [z]) ++ (A ++ B)).Perm Z := by
    rw [hAB] at hperm
    refine List.Perm.trans ?_ hperm
    rw [List.append_assoc]
    exact List.Perm.append_left Zv (List.perm_middle (a := z) (l₁ := A) (l₂ := B)).symm
   have hperm3 : (Zv.map (·.2) ++ ([nk], z.2.2) :: (A ++ B).map (·.2)).Perm es := by
    have := hperm2.map (·.2)
    rw [hZ2, List.map_append, List.map_append, List.append_assoc] at this
    have e : z.2 = ([nk], z.2.2) := by rw [← hnk]
    simpa [← e] using this
   have hro := hround s _ nk z.2.2 _ hperm3 hg
   refine wops_ok hT (r := none) (nt := nt) (all := ops4) (G := G) rest4 1 w5 K5 (N s) _ _ _ (fun j => by
    rw [← Array.getElem?_toList, h4, Nat.add_comm, List.getElem?_cons_succ]) hf7 hi5 hro ?_
   intro e8 M8 a8 w8 K8 hbody hf8 hd8 hi8 hE8
   have hst8 : StOk ⟨fid, none, nt⟩ G w8 K8 M8 a8 e8 [] := ⟨hf8, by
    rw [hd8, putA_dfr, hd5, putA_dfr]
    have h1 := df_ext (hE2) hs.df
    have h2 : PW (fun (d : Deferred) (id : Nat) => ∃ b, K1 id = some b ∧ d = { target := .collected b, args := #[] } ∧ (N s).H[id]? = some .dfr) a1.defers [] := hst2.df
    exact df_ext (M' := M8) hE8 (df_ext (M' := N s) hE5 h2), hi8, fun _ h => by cases h⟩
   have hb8 := hbody G w8 K8 a8 hst8
   refine wpIn_mono hb8 ?_
   rintro ex a9 w9 ⟨e9, M9, K9, D9, ⟨rfl, rfl, s', hg', hS', rfl⟩, _, hst9, hE9'⟩
   have hEall := (hE4.trans hE5).trans (hE8.trans hE9')
   obtain ⟨hr8, hKit8⟩ := dead_stay (hE5.trans (hE8.trans hE9')) hd2 hKit
   obtain ⟨hb9, hKid9⟩ := dead_stay (hE5.trans (hE8.trans hE9')) hd1 hKid
   rw [hsame] at hr8
   rw [hb4] at hb9
   have hJ : J (A ++ B).length a9 w9 := ⟨s', Zv ++ [z], A ++ B, e9, K9, seen.push en.born, rfl, hperm2, by rw [Array.toList_push, hseen, List.map_append, ← hz1]; rfl, hS', by
    have e : z.2 = ([nk], z.2.2) := by rw [← hnk]
    rw [List.map_append]
    simpa [← e] using hg', hst9, hEall, hKit8, hKid9, hr8, hb9⟩
   refine ⟨⟨_, hJ⟩, ?_⟩
   have hle := (leastOf_spec (p := fun n => J n a9 w9) hJ).2
   have : (A ++ B).length < Zr.length := by rw [hAB]; simp
   show leastOf (fun n => J n a9 w9) < leastOf (fun n => J n a1 w2)
   omega
end
end Go.Proofs.Ythcicaelnchfdaa.Vm
