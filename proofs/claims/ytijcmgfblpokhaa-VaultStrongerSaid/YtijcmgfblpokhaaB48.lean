/- A part of the proofs about the chapter of the vaults; it states no condition of its own. -/
import Derived.Test.YtijcmgfblpokhaaB41
import Derived.Test.YtijcmgfblpokhaaB47
set_option linter.unusedVariables false
set_option linter.unusedSimpArgs false
/- A call on its own, and the same call among other objects. (Vm) -/
namespace Go.Proofs.Ytijcmgfblpokhaa.Vm
open Go Go.Proofs
/-- values that lead to no object -/
def flatV : VV → Bool
  | .p _ => true
  | .agg cs => cs.all fun c => match c with
    | .p _ => true
    | _ => false
  | _ => false
theorem rep_alone {w : World} {K : Nat → Option Nat} {H : List VObj} {v : Value} {x : VV} (hf : flatV x = true) (h : RepV w K H v x) : RepV w (fun _ => none) [] v x := by
  have hI : ∀ b o, b < w.heap.size → Im K H b o → Im (fun _ => none) [] b o ∧ w.cell? ⟨b, o, none⟩ = w.cell? ⟨b, o, none⟩ := fun b o _ _ => ⟨fun i ob hi _ => by simp at hi, rfl⟩
  cases h with
  | p v x h => exact .p v x (h.ext hI)
  | agg vs cs hs h1 h2 =>
    refine .agg vs cs hs h1 fun i v c hv hc => ?_
    have h3 := h2 i v c hv hc
    simp only [flatV, List.all_eq_true] at hf
    have h4 := hf c (List.mem_of_getElem? hc)
    cases h3 with
    | p v x h => exact .p v x (h.ext hI)
    | _ => cases h4
  | _ => cases hf
def flatP : PV → Bool
  | .sl _ _ => false
  | _ => true
theorem repP_flat {w : World} {I I' : Nat → Nat → Prop} {v : Value} {x : PV} (hf : flatP x = true) (h : RepP w I v x) : RepP w I' v x := by
  cases h with
  | int k n => exact .int k n
  | bool b => exact .bool b
  | str s => exact .str s
  | nilp => exact .nilp
  | nilm => exact .nilm
  | nilf => exact .nilf
  | sl => cases hf
/-- what a call yields on its own, it yields among other objects: results without slices -/
theorem alone_flat {f : Nat} {args : List VV} {v : PV} {M1 : Mem} (hv : VC Try.prog f args ⟨[], []⟩ (eqQ (.p v) M1)) (ha : ∀ a ∈ args, flatV a = true) (hf : flatP v = true) (M : Mem) : VC Try.prog f args M (eqQ (.p v) M) := by
  intro G w K rargs hI hA
  have hI0 : Inv ⟨w.heap.size, w, fun _ => False⟩ w (fun _ => none) ⟨[], []⟩ := ⟨rfl, rfl, rfl, Nat.le_refl _, Nat.le_refl _, fun _ _ _ => rfl, fun i j b hi => by simp at hi, fun i b hi => by simp at hi, fun i o hi => by simp at hi, fun i o hi => by simp at hi, fun e he => by simp at he, fun i L hi => by simp at hi⟩
  have hA0 : ArgsOk w (fun _ => none) ⟨[], []⟩ rargs args := ⟨⟨hA.rep.1, fun i a b h1 h2 => rep_alone (ha b (List.mem_of_getElem? h2)) (hA.rep.2 i a b h1 h2)⟩, fun a ham r hr => by
    have h1 := ha a ham
    cases a with
    | p x => simp [refs] at hr
    | agg cs =>
      simp only [refs] at hr
      obtain ⟨c, hc, hr⟩ := mem_refsL.1 hr
      simp only [flatV, List.all_eq_true] at h1
      have h2 := h1 c hc
      cases c with
      | p x => simp [refs] at hr
      | _ => cases h2
    | _ => cases h1⟩
  refine CallsIn.mono (hv _ w _ rargs hI0 hA0) ?_
  rintro e w' ⟨rv, r, K', M', rfl, ⟨rfl, rfl⟩, hr, hc, hE, hI'⟩
  obtain ⟨e1, i1⟩ := step_made (w' := w') hI ⟨hI'.os, hI'.tape, hI'.output, hI'.size⟩ (fun b hb => hI'.old b hb (fun h => h))
  cases hr with
  | p _ _ hp => exact ⟨rv, .p v, K, M, rfl, ⟨rfl, rfl⟩, .p _ _ (repP_flat hf hp), fun r hr => by simp [refs] at hr, e1, i1⟩
/-- the same, of a fresh slice of plain data -/
theorem alone_so {f : Nat} {args : List VV} {id k : Nat} {xs : List (List PV)} {M1 : Mem} (hv : VC Try.prog f args ⟨[], []⟩ (eqQ (.so id k xs) M1)) (ha : ∀ a ∈ args, flatV a = true) (hc : M1.H[id]? = some (.clm xs.length k)) (hf : ∀ x ∈ xs, ∀ u ∈ x, flatP u = true) (M : Mem) : VC Try.prog f args M (eqQ (.p (.sl k xs)) M) := by
  intro G w K rargs hI hA
  have hI0 : Inv ⟨w.heap.size, w, fun _ => False⟩ w (fun _ => none) ⟨[], []⟩ := ⟨rfl, rfl, rfl, Nat.le_refl _, Nat.le_refl _, fun _ _ _ => rfl, fun i j b hi => by simp at hi, fun i b hi => by simp at hi, fun i o hi => by simp at hi, fun i o hi => by simp at hi, fun e he => by simp at he, fun i L hi => by simp at hi⟩
  have hA0 : ArgsOk w (fun _ => none) ⟨[], []⟩ rargs args := ⟨⟨hA.rep.1, fun i a b h1 h2 => rep_alone (ha b (List.mem_of_getElem? h2)) (hA.rep.2 i a b h1 h2)⟩, fun a ham r hr => by
    have h1 := ha a ham
    cases a with
    | p x => simp [refs] at hr
    | agg cs =>
      simp only [refs] at hr
      obtain ⟨c, hc, hr⟩ := mem_refsL.1 hr
      simp only [flatV, List.all_eq_true] at h1
      have h2 := h1 c hc
      cases c with
      | p x => simp [refs] at hr
      | _ => cases h2
    | _ => cases h1⟩
  refine CallsIn.mono (hv _ w _ rargs hI0 hA0) ?_
  rintro e w' ⟨rv, r, K', M', rfl, ⟨rfl, rfl⟩, hr, hcl, hE, hI'⟩
  obtain ⟨e1, i1⟩ := step_made (w' := w') hI ⟨hI'.os, hI'.tape, hI'.output, hI'.size⟩ (fun b hb => hI'.old b hb (fun h => h))
  refine ⟨rv, .p (.sl k xs), K, M, rfl, ⟨rfl, rfl⟩, ?_, fun r hr => by simp [refs] at hr, e1, i1⟩
  cases hr with
  | so _ _ _ _ hp ht =>
  obtain ⟨_, h2⟩ := ht _ _ hc
  obtain ⟨_, h3⟩ := h2 rfl
  refine .p _ _ ?_
  cases hp with
  | sl A c _ b off _ g q1 q2 q3 q4 q5 q6 q7 =>
  refine .sl A c k b off xs g q1 q2 q3 q4 (fun i x j u hx hu => ?_) q6 (fun i x j u hx hu => repP_flat (hf x (List.mem_of_getElem? hx) u (List.mem_of_getElem? hu)) (q7 i x j u hx hu))
  rcases h3 with ⟨b', c', vs, t, hb', hv', hw', _⟩ | ⟨_, h0, _⟩
  · have hne : xs ≠ [] := fun e => by rw [e] at hx; simp at hx
    have hA' := q4 hne
    have hlen : (M'.H).length > id := (List.getElem?_eq_some_iff.1 hc).1
    have hbB := (hI'.blk id b' hlen hb').2
    rcases hbB with hbB | hbB
    · intro i ob hi hK
      have hlt := (hI.blk i b (List.getElem?_eq_some_iff.1 hi).1 hK).1
      cases hv'
      cases hA'
      simp only at hbB
      omega
    · exact hbB.elim
  · have : xs = [] := List.eq_nil_of_length_eq_zero h0
    subst this
    simp at hx
/-- the same, of the nil slice -/
theorem alone_sf {f : Nat} {args : List VV} {k : Nat} {M1 : Mem} (hv : VC Try.prog f args ⟨[], []⟩ (eqQ (.sf k []) M1)) (ha : ∀ a ∈ args, flatV a = true) (M : Mem) : VC Try.prog f args M (eqQ (.p (.sl k [])) M) := by
  intro G w K rargs hI hA
  have hI0 : Inv ⟨w.heap.size, w, fun _ => False⟩ w (fun _ => none) ⟨[], []⟩ := ⟨rfl, rfl, rfl, Nat.le_refl _, Nat.le_refl _, fun _ _ _ => rfl, fun i j b hi => by simp at hi, fun i b hi => by simp at hi, fun i o hi => by simp at hi, fun i o hi => by simp at hi, fun e he => by simp at he, fun i L hi => by simp at hi⟩
  have hA0 : ArgsOk w (fun _ => none) ⟨[], []⟩ rargs args := ⟨⟨hA.rep.1, fun i a b h1 h2 => rep_alone (ha b (List.mem_of_getElem? h2)) (hA.rep.2 i a b h1 h2)⟩, fun a ham r hr => by
    have h1 := ha a ham
    cases a with
    | p x => simp [refs] at hr
    | agg cs =>
      simp only [refs] at hr
      obtain ⟨c, hc, hr⟩ := mem_refsL.1 hr
      simp only [flatV, List.all_eq_true] at h1
      have h2 := h1 c hc
      cases c with
      | p x => simp [refs] at hr
      | _ => cases h2
    | _ => cases h1⟩
  refine CallsIn.mono (hv _ w _ rargs hI0 hA0) ?_
  rintro e w' ⟨rv, r, K', M', rfl, ⟨rfl, rfl⟩, hr, hcl, hE, hI'⟩
  obtain ⟨e1, i1⟩ := step_made (w' := w') hI ⟨hI'.os, hI'.tape, hI'.output, hI'.size⟩ (fun b hb => hI'.old b hb (fun h => h))
  refine ⟨rv, .p (.sl k []), K, M, rfl, ⟨rfl, rfl⟩, ?_, fun r hr => by simp [refs] at hr, e1, i1⟩
  cases hr with
  | sf A _ _ hp =>
  exact .p _ _ (.sl A 0 k 0 0 [] (fun _ _ => .bool false) (Nat.le_refl _) (Nat.zero_le _) (fun x hx => by cases hx) (fun h => absurd rfl h) (fun i x j u hx => by simp at hx) (fun i x j u hx => by simp at hx) (fun i x j u hx => by simp at hx))
/-- a run on its own, taken among other objects -/
noncomputable def isoP (n : Nat) (f : Nat) (args : List VV) : Option VV :=
  bif args.all flatV then (match (evalsC T 100000 prim0 n).call f args ⟨[], []⟩ with
    | some (.so id k xs, M1) => (match M1.H[id]? with
      | some (.clm m k') => bif Nat.beq m xs.length && (Nat.beq k' k && xs.all fun x => x.all flatP) then some (.p (.sl k xs)) else none
      | _ => none)
    | some (.sf k [], _) => some (.p (.sl k []))
    | some (.p v, _) => bif flatP v then some (.p v) else none
    | _ => none)
  else none
theorem isoP_ok {n f : Nat} {args : List VV} {r : VV} (h : isoP n f args = some r) (M : Mem) : VC Try.prog f args M (eqQ r M) := by
  unfold isoP at h
  cases ha : args.all flatV with
  | false => rw [ha] at h; cases h
  | true =>
  rw [ha] at h
  rw [List.all_eq_true] at ha
  simp only [cond_true] at h
  split at h
  · rename_i id k xs M1 he
    split at h
    · rename_i m k' hm
      cases hb : Nat.beq m xs.length && (Nat.beq k' k && xs.all fun x => x.all flatP) with
      | false => rw [hb] at h; cases h
      | true =>
        rw [hb] at h
        cases h
        rw [Bool.and_eq_true, Bool.and_eq_true, List.all_eq_true] at hb
        obtain ⟨b1, b2, b3⟩ := hb
        have b1 := Nat.eq_of_beq_eq_true b1
        have b2 := Nat.eq_of_beq_eq_true b2
        subst b1 b2
        exact alone_so (closed_run T_ok prim0_ok he) ha hm (fun x hx u hu => List.all_eq_true.1 (b3 x hx) u hu) M
    · cases h
  · rename_i k M1 he
    cases h
    exact alone_sf (closed_run T_ok prim0_ok he) ha M
  · rename_i v M1 he
    cases hb : flatP v with
    | false => rw [hb] at h; cases h
    | true =>
      rw [hb] at h
      cases h
      exact alone_flat (closed_run T_ok prim0_ok he) ha hb M
  · cases h
noncomputable def primA : CallT := fun f args M =>
  bif Nat.beq f 66 then (match isoP 12 f args with
    | some r => some (r, M)
    | none => none)
  else bif Nat.beq f 67 then (match args with
    | [.p (.sl k xs)] => bif (Nat.beq k 3 || xs.isEmpty) && Nat.ble xs.length 1000000 then some (.so M.H.length 3 xs, ⟨M.H ++ [.clm xs.length 3], M.lg⟩) else none
    | _ => none)
  else prim0 f args M
theorem primA_ok (f : Nat) (args : List VV) (M : Mem) (r : VV) (M' : Mem) (e : primA f args M = some (r, M')) : VC Try.prog f args M (eqQ r M') := by
  unfold primA at e
  cases h1 : Nat.beq f 66 with
  | true =>
    rw [h1] at e
    simp only [cond_true] at e
    split at e
    · rename_i r' hr
      cases e
      exact isoP_ok hr M
    · cases e
  | false =>
  rw [h1] at e
  simp only [cond_false] at e
  cases h2 : Nat.beq f 67 with
  | true =>
    have := Nat.eq_of_beq_eq_true h2
    subst this
    rw [h2] at e
    simp only [cond_true] at e
    split at e
    · rename_i k xs
      cases hb : (Nat.beq k 3 || xs.isEmpty) && Nat.ble xs.length 1000000 with
      | false => rw [hb] at e; cases e
      | true =>
        rw [hb] at e
        cases e
        rw [Bool.and_eq_true, Bool.or_eq_true, Nat.ble_eq, List.isEmpty_iff] at hb
        refine (clone_v k xs M (hb.1.imp (fun h => Nat.eq_of_beq_eq_true h) id) hb.2).mono fun r M' ⟨q1, q2⟩ => ⟨q2, q1⟩
    · cases e
  | false =>
  rw [h2] at e
  exact prim0_ok f args M r M' e
end Go.Proofs.Ytijcmgfblpokhaa.Vm

/- The examples that every statement of the vaults looks at. (Vm) -/
namespace Go.Proofs.Ytijcmgfblpokhaa.Vm
open Go Go.Proofs
theorem awake_run : (evalsC T 100000 primA 40).call 15 [] ⟨[], []⟩ = some (vb true, ⟨[], []⟩) := by kernel_rfl
theorem awake_v (M : Mem) : VC Try.prog 15 [] M (fun r M' => M' = M ∧ r = vb true) :=
  (alone_flat (closed_run T_ok primA_ok awake_run) (fun a h => by cases h) rfl M).mono fun r M' ⟨q1, q2⟩ => ⟨q2, q1⟩
end Go.Proofs.Ytijcmgfblpokhaa.Vm
