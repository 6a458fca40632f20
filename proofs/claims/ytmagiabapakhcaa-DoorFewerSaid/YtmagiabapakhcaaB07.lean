/- A part of the proofs about the chapter of the doors; it states no condition of its own. -/
import Derived.Test.YtmagiabapakhcaaB06
import Derived.Laws.CopyRow
set_option linter.unusedVariables false
set_option linter.unusedSimpArgs false
/- A machine on values: its operations are true, part 4: structs, literals, addresses. -/
namespace Go.Proofs.Ytmagiabapakhcaa.Vm
open Go
section
variable {P : Program} {T : Tab} {G : Ghost} {w : World} {K : Nat → Option Nat} {M M' : Mem} {H : List VObj}

theorem run_mapM_list {α β : Type} (g : α → Sem β) (h : α → β) : ∀ (l : List α), (∀ x ∈ l, (g x).run P w = .ok (h x) w) → (l.mapM g).run P w = .ok (l.map h) w
  | [], _ => by simp
  | x :: l, hx => by
    have h1 := hx x (by simp)
    have h2 := run_mapM_list g h l fun y hy => hx y (by simp [hy])
    simp [h1, h2]
theorem run_mapM {α β : Type} (g : α → Sem β) (h : α → β) (l : Array α) (hx : ∀ x ∈ l.toList, (g x).run P w = .ok (h x) w) : (l.mapM g).run P w = .ok (l.map h) w := by
  rw [Array.mapM_eq_mapM_toList]
  simp only [Sem.run_map, run_mapM_list g h l.toList hx, Result.andThen_ok]
  congr 1
  exact Array.ext' (by simp)

theorem fold_set (off : Nat) : ∀ (l : List Value) (k : Nat) (cells : Array Value), off + k + l.length ≤ cells.size →
    ((l.zipIdx k).foldl (fun (cs : Array Value) (p : Value × Nat) => cs.setIfInBounds (off + p.2) p.1) cells).toList = cells.toList.take (off + k) ++ l ++ cells.toList.drop (off + k + l.length)
  | [], k, cells, _ => by simp
  | v :: l, k, cells, h => by
    simp only [List.zipIdx_cons, List.foldl_cons]
    rw [fold_set off l (k + 1) (cells.setIfInBounds (off + k) v) (by simp at h ⊢; omega)]
    have e := list_seg_step cells.toList (off + k) v l (by simp at h ⊢; omega)
    simp only [Array.toList_setIfInBounds, List.length_cons]
    simpa [Nat.add_assoc, Nat.add_comm 1] using e
abbrev RC (w : World) (K : Nat → Option Nat) (H : List VObj) : Value → VV → Prop := fun u c => RepV w K H u c ∧ isOne u = true
theorem strip_all {us : List Value} {cs : List VV} (h : PW (RC w K H) us cs) : PW (RC w K H) us (cs.map strip1) :=
  ⟨by simp [h.1], fun i a b ha hb => by
    rw [List.getElem?_map] at hb
    obtain ⟨c, hc, rfl⟩ := Option.map_eq_some_iff.1 hb
    exact ⟨strip1_ok (h.2 i a c ha hc).1, (h.2 i a c ha hc).2⟩⟩
theorem fill_ok {place : Nat → Option (Nat × Nat)} : ∀ (ps : List (Nat × Value)) (qs : List (Nat × VV)) (cells : Array Value) (cs cs' : List VV), PW (fun p q => p.1 = q.1 ∧ RepV w K H p.2 q.2) ps qs → PW (RC w K H) cells.toList cs →
    vfill place cs qs = some cs' → ∃ cells', Instr.fill place cells ps = some cells' ∧ PW (RC w K H) cells'.toList cs'
  | [], qs, cells, cs, cs', hp, hc, h => by
    have : qs = [] := List.eq_nil_of_length_eq_zero (by have := hp.1; simpa using this.symm)
    subst this
    simp only [vfill, Option.some.injEq] at h
    subst h
    exact ⟨cells, rfl, hc⟩
  | (i, rv) :: ps, [], cells, cs, cs', hp, hc, h => by have := hp.1; simp at this
  | (i, rv) :: ps, (j, v) :: qs, cells, cs, cs', hp, hc, h => by
    obtain ⟨hij, hv⟩ := hp.2 0 _ _ rfl rfl
    simp only at hij hv
    subst hij
    have hp' : PW (fun (p : Nat × Value) (q : Nat × VV) => p.1 = q.1 ∧ RepV w K H p.2 q.2) ps qs := ⟨by have := hp.1; simpa using this, fun k a b ha hb => hp.2 (k + 1) a b (by simpa using ha) (by simpa using hb)⟩
    simp only [vfill] at h
    cases hpl : place i with
    | none => rw [hpl] at h; cases h
    | some os =>
      obtain ⟨off, size⟩ := os
      rw [hpl] at h
      simp only at h
      cases hb : (Nat.beq (cellsOf v).length size && Nat.ble (off + size) cs.length && (cellsOf v).all isCell) with
      | false => rw [hb] at h; cases h
      | true =>
        rw [hb] at h
        simp only [cond_true] at h
        simp only [Bool.and_eq_true] at hb
        obtain ⟨⟨h1, h2⟩, h3⟩ := hb
        have hlen : (cellsOf v).length = size := Nat.eq_of_beq_eq_true h1
        have hfit : off + size ≤ cs.length := Nat.le_of_ble_eq_true h2
        obtain ⟨hrs, hrc⟩ := cells_rep hv h3
        have hcl := hc.1
        simp at hcl
        have hPW := strip_all (PW.of_arr hrs hrc)
        have hnew : PW (RC w K H) (rv.cells.zipIdx.foldl (fun (cs : Array Value) (p : Value × Nat) => cs.setIfInBounds (off + p.2) p.1) cells).toList (splice cs off ((cellsOf v).map strip1)) := by
          have e := fold_set off rv.cells.toList 0 cells (by simp; omega)
          have e2 : rv.cells.zipIdx.foldl (fun (cs : Array Value) (p : Value × Nat) => cs.setIfInBounds (off + p.2) p.1) cells = (rv.cells.toList.zipIdx 0).foldl (fun (cs : Array Value) (p : Value × Nat) => cs.setIfInBounds (off + p.2) p.1) cells := by
            rw [← Array.foldl_toList]
            simp
          rw [e2, e]
          unfold splice
          have := ((hc.take off).append hPW).append (hc.drop (off + rv.cells.toList.length))
          simp only [Nat.add_zero]
          rwa [show ((cellsOf v).map strip1).length = rv.cells.toList.length from by simp [hrs]]
        obtain ⟨cells', hf, hr⟩ := fill_ok ps qs _ _ _ hp' hnew h
        refine ⟨cells', ?_, hr⟩
        simp only [Instr.fill, hpl]
        rw [if_neg (by simp; omega)]
        exact hf
theorem fill_cl {n : Nat} {place : Nat → Option (Nat × Nat)} : ∀ (qs : List (Nat × VV)) (cs cs' : List VV), (∀ q ∈ qs, Cl n q.2) → (∀ c ∈ cs, Cl n c) → vfill place cs qs = some cs' → ∀ c ∈ cs', Cl n c
  | [], cs, cs', _, hc, h => by simp only [vfill, Option.some.injEq] at h; subst h; exact hc
  | (j, v) :: qs, cs, cs', hq, hc, h => by
    simp only [vfill] at h
    cases hpl : place j with
    | none => rw [hpl] at h; cases h
    | some os =>
      obtain ⟨off, size⟩ := os
      rw [hpl] at h
      simp only at h
      cases hb : (Nat.beq (cellsOf v).length size && Nat.ble (off + size) cs.length && (cellsOf v).all isCell) with
      | false => rw [hb] at h; cases h
      | true =>
        rw [hb] at h
        simp only [cond_true] at h
        refine fill_cl qs _ cs' (fun q hh => hq q (by simp [hh])) (fun c hcc => ?_) h
        simp only [splice, List.mem_append] at hcc
        rcases hcc with (h | h) | h
        · exact hc c (List.mem_of_mem_take h)
        · obtain ⟨c0, h0, rfl⟩ := List.mem_map.1 h
          exact strip1_cl (cl_cells (hq (j, v) (by simp)) c0 h0)
        · exact hc c (List.mem_of_mem_drop h)

theorem agg_of_PW {us : Array Value} {cs : List VV} (h : PW (RC w K H) us.toList cs) : RepV w K H (.agg us) (.agg cs) :=
  .agg us cs (by have := h.1; simpa using this) (fun i v hv => by
    have hl := (Array.getElem?_eq_some_iff.1 hv).1
    have := h.1
    simp at this
    exact (h.2 i v (cs[i]'(by omega)) (by simpa using hv) (List.getElem?_eq_getElem _)).2) fun i v c hv hc => (h.2 i v c (by simpa using hv) hc).1
theorem zero_PW {t : Nat} {y : Ty} (h : TyOk P t y) : PW (RC w K H) y.z.cells.toList (y.zero.map ofValue) := by
  rw [zero_cells h]
  exact PW.of_arr (by simp) (zero_rep h)

theorem parts_PW {ps : Array (Nat × Operand)} {ρ : Operand → Value} {ρv : Operand → VV} (hρ : ∀ x, RepV w K H (ρ x) (ρv x)) :
    PW (fun (p : Nat × Value) (q : Nat × VV) => p.1 = q.1 ∧ RepV w K H p.2 q.2) (ps.map fun (i, x) => (i, ρ x)).toList (ps.toList.map fun p => (p.1, ρv p.2)) :=
  ⟨by simp, fun i a b ha hb => by
    simp only [Array.toList_map, List.getElem?_map] at ha hb
    obtain ⟨p, hp, rfl⟩ := Option.map_eq_some_iff.1 ha
    rw [hp] at hb
    simp only [Option.map_some, Option.some.injEq] at hb
    subst hb
    exact ⟨rfl, hρ _⟩⟩

theorem vbuild_ok (hT : TabOk P T) {t : Nat} {ps : Array (Nat × Operand)} {ρ : Operand → Value} {ρv : Operand → VV} {v : VV} (hρ : ∀ x, RepV w K H (ρ x) (ρv x)) (hc : ∀ x, Cl H.length (ρv x))
    (h : vbuild T t (ps.toList.map fun p => (p.1, ρv p.2)) = some v) : ∃ rv, (Instr.build t (ps.map fun (i, x) => (i, ρ x))).run P w = .ok rv w ∧ RepV w K H rv v ∧ Cl H.length v := by
  unfold vbuild at h
  cases hy : T.ty t with
  | none => rw [hy] at h; cases h
  | some y =>
    have hY := hT.ty t y hy
    have hz := run_zero' (P := P) (w := w) hY
    have hzp := zero_PW (w := w) (K := K) (H := H) hY
    have hps := parts_PW (ps := ps) hρ
    have hqc : ∀ q ∈ (ps.toList.map fun p => (p.1, ρv p.2)), Cl H.length q.2 := fun q hq => by
      obtain ⟨p, _, rfl⟩ := List.mem_map.1 hq
      exact hc _
    have hzc : ∀ c ∈ y.zero.map ofValue, Cl H.length c := fun c hcc => by
      obtain ⟨v, _, rfl⟩ := List.mem_map.1 hcc
      exact ofValue_cl _ _
    rw [hy] at h
    obtain ⟨d, size, zero, agg, cmp⟩ := y
    cases d with
    | struct fs =>
      simp only at h hzp hzc
      obtain ⟨cs', hf, rfl⟩ := Option.map_eq_some_iff.1 h
      obtain ⟨fields, hu, hlen, hfs⟩ := hY.d
      obtain ⟨cells', h1, h2⟩ := fill_ok (place := placesOf fs) _ _ _ _ _ hps hzp hf
      refine ⟨.agg cells', ?_, agg_of_PW h2, cl_agg.2 (fill_cl _ _ _ hqc hzc hf)⟩
      let g : Field → Nat × Nat := fun f => (f.offset, ((P.info? f.type).map (·.size)).getD 0)
      have hg : ∀ f ∈ fields.toList, (do pure (f.offset, ← sizeOf f.type) : Sem (Nat × Nat)).run P w = .ok (g f) w := fun f hf => by
        obtain ⟨j, hj, rfl⟩ := List.getElem_of_mem hf
        simp at hj
        obtain ⟨i, hi, _, _⟩ := hfs j fields[j] (Array.getElem?_eq_getElem hj)
        simp only [Array.getElem_toList]
        simp [sizeOf, typeInfo, hi, g]
      have hplaces : (fun i => (fields.map g)[i]?) = placesOf fs := by
        funext j
        simp only [placesOf, Array.getElem?_map]
        cases hfj : fields[j]? with
        | none =>
          have : fields.size ≤ j := by simpa using hfj
          simp only [Option.map_none]
          exact (List.getElem?_eq_none (by omega)).symm
        | some f =>
          obtain ⟨i, hi, h3, _⟩ := hfs j f hfj
          simp [g, hi, h3]
      simp only [Instr.build, Sem.run_bind, hz, Result.andThen_ok, run_underlying hu, run_mapM _ g fields hg, hplaces, h1, Sem.run_pure]
    | arr n e ke =>
      simp only at h hzp hzc
      obtain ⟨cs', hf, rfl⟩ := Option.map_eq_some_iff.1 h
      obtain ⟨hu, i, hi, hik⟩ := hY.d
      obtain ⟨cells', h1, h2⟩ := fill_ok (place := fun i => some (i * ke, ke)) _ _ _ _ _ hps hzp hf
      refine ⟨.agg cells', ?_, agg_of_PW h2, cl_agg.2 (fill_cl _ _ _ hqc hzc hf)⟩
      simp only [Instr.build, Sem.run_bind, hz, Result.andThen_ok, run_underlying hu, sizeOf, typeInfo, program, Sem.run, hi, Sem.run_pure, hik, h1]
    | _ => cases h
end
end Go.Proofs.Ytmagiabapakhcaa.Vm
