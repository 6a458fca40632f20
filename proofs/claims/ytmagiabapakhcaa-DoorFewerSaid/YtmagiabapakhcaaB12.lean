/- A part of the proofs about the chapter of the doors; it states no condition of its own. -/
import Derived.Test.YtmagiabapakhcaaB11
set_option linter.unusedVariables false
set_option linter.unusedSimpArgs false
/- A machine on values: its operations are true: a map's store; and all of them together. -/
namespace Go.Proofs.Ytmagiabapakhcaa.Vm
open Go
section
variable {P : Program} {T : Tab} {G : Ghost} {w : World} {K : Nat → Option Nat} {M M' : Mem} {H : List VObj}

theorem vmapUpdate_ok (hT : TabOk P T) (hI : Inv G w K M) {t : Nat} {x k v : VV} {rx rk rv : Value} (h : vmapUpdate T t x k v M = some M') (hx : RepV w K M.H rx x) (hk : RepV w K M.H rk k) (hv : RepV w K M.H rv v) (hcv : Cl M.H.length v) :
    ∃ w', (Instr.mapUpdate t rx rk rv).run P w = .ok () w' ∧ Ext w K M.H w' K M'.H ∧ Inv G w' K M' := by
  unfold vmapUpdate at h
  split at h
  · rename_i kt e size zero agg cmp id hty
    have hd : P.underlying t = some (.map kt e) := (hT.ty _ _ hty).d
    split at h
    · rename_i ky hky
      split at h
      · rename_i ks sh es hks ho
        by_cases hsh : sh = shOf ky
        · subst hsh
          simp only [if_true, Option.some.injEq] at h
          subst h
          cases hx with
          | mp _ b hK hn =>
            obtain ⟨b', ents, clock, e1, h1, h2, h3⟩ := hI.obj id _ ho
            rw [hK] at e1
            cases e1
            have he : Ents w K M.H (shOf ky) ents.toList es := PW.of_arr' h2 h3
            obtain ⟨hck, hfind, hkv, hlen, hbits⟩ := run_find hT hky hks hk he
            have hg : (getObj b).run P w = .ok (.map ents clock) w := MapKept.run_getObj_map h1
            have hblt := hI.lt ho hK
            -- the new entries
            have key : ∃ ents' clock', (Instr.mapUpdate t (.map (some b)) rk rv).run P w = .ok () { w with heap := w.heap.setIfInBounds b (.map ents' clock') } ∧ PW (fun (e : MapEntry) (p : List Int × VV) => e.key = keyVal (shOf ky) p.1 ∧ p.1.length = (shOf ky).len ∧ RepV w K M.H e.val p.2) ents'.toList (assocSet ks v es) := by
              rw [assocSet_aidx]
              cases ha : aidx ks es with
              | none =>
                rw [ha] at hfind
                simp only [Option.bind_none] at hfind
                have hs := MapKept.run_setObj_map (P := P) (.map (ents.push { key := rk, val := rv, born := clock }) (clock + 1)) h1
                refine ⟨ents.push { key := rk, val := rv, born := clock }, clock + 1, ?_, ?_⟩
                · simp [Instr.mapUpdate, run_underlying hd, hg, hck, hfind, hs]
                · rw [Array.toList_push]
                  exact PW.append he ⟨rfl, fun i a c ha hc => by
                    cases i with
                    | zero => simp at ha hc; subst ha hc; exact ⟨hkv, hlen, hv⟩
                    | succ i => simp at ha⟩
              | some j =>
                obtain ⟨u, hu⟩ := aidx_spec ha
                have hjl := (List.getElem?_eq_some_iff.1 hu).1
                have hjl' : j < ents.size := by omega
                have hej : ents[j]? = some ents[j] := Array.getElem?_eq_getElem hjl'
                have hlj : ents.toList[j]? = some ents[j] := by simp [hjl']
                rw [ha] at hfind
                simp only [Option.bind_some, hlj, Option.map_some] at hfind
                obtain ⟨hk1, hk2, _⟩ := h3 j _ _ _ hej hu
                have hkeq : ents[j].key = rk := by rw [hk1, hkv]
                have hstay : (Instr.keyThatStays rk rk).run P w = .ok rk w := by simp [Instr.keyThatStays, hbits]
                have hs := MapKept.run_setObj_map (P := P) (.map (ents.modify j fun e => { e with key := rk, val := rv }) clock) h1
                refine ⟨ents.modify j fun e => { e with key := rk, val := rv }, clock, ?_, ?_⟩
                · simp [Instr.mapUpdate, run_underlying hd, hg, hck, hfind, hej, hkeq, hstay, hs]
                · refine ⟨by simp [h2], fun i a c hai hci => ?_⟩
                  simp only [Array.getElem?_toList, Array.getElem?_modify] at hai
                  rw [List.getElem?_set] at hci
                  by_cases e : j = i
                  · subst e
                    rw [if_pos rfl, if_pos hjl] at hci
                    rw [if_pos rfl, hej] at hai
                    simp only [Option.map_some, Option.some.injEq] at hai hci
                    subst hai hci
                    exact ⟨hkv, hlen, hv⟩
                  · rw [if_neg e] at hai hci
                    exact h3 i a c.1 c.2 hai hci
            obtain ⟨ents', clock', hrun, hpw⟩ := key
            have hset := MapKept.heap_set (o' := .map ents' clock') h1
            have hcnew : ∀ p ∈ assocSet ks v es, ∀ r ∈ refs p.2, r < M.H.length ∧ (r ≤ id ∨ (id, r) ∈ addLg id (refs v) M.lg) := by
              have hnew : ∀ r ∈ refs v, r < M.H.length ∧ (r ≤ id ∨ (id, r) ∈ addLg id (refs v) M.lg) := fun r hr => by
                refine ⟨hcv r hr, ?_⟩
                rcases Nat.lt_or_ge id r with hlt | hge
                · exact .inr (addLg_new hr hlt)
                · exact .inl hge
              have hold : ∀ p ∈ es, ∀ r ∈ refs p.2, r < M.H.length ∧ (r ≤ id ∨ (id, r) ∈ addLg id (refs v) M.lg) := fun p hp r hr => by
                obtain ⟨a1, a2⟩ := hI.cl id _ ho p.2 (List.mem_map.2 ⟨p, hp, rfl⟩) r hr
                exact ⟨a1, a2.imp_right addLg_old⟩
              intro p hp
              rw [assocSet_aidx] at hp
              split at hp
              · rcases List.mem_or_eq_of_mem_set hp with h | rfl
                · exact hold p h
                · exact hnew
              · rcases List.mem_append.1 hp with h | h
                · exact hold p h
                · simp at h; subst h; exact hnew
            refine ⟨_, hrun, ?_⟩
            refine step_set hI (w' := { w with heap := w.heap.setIfInBounds b (.map ents' clock') }) ⟨rfl, rfl, rfl, by simp⟩ ho hK (fun _ _ e => VObj.noConfusion e) (fun e => e) (fun e => VObj.noConfusion e) (fun _ e => VObj.noConfusion e) (fun _ _ e => VObj.noConfusion e) (fun b' _ hne => hset.2 b' hne) (fun v1 t1 z1 e1 => (by rw [h1] at e1; cases e1)) _ ?_ (fun e he => addLg_old he) ?_ ?_
            · intro c hc r hr
              simp only [contents] at hc
              obtain ⟨p, hp, rfl⟩ := List.mem_map.1 hc
              exact hcnew p hp r hr
            · intro e he
              rcases addLg_mem he with h | ⟨h1, h2⟩
              · exact hI.lg e h
              · exact ⟨by rw [h1]; exact (List.getElem?_eq_some_iff.1 ho).1, hcv _ h2⟩
            · intro hE
              refine ⟨b, ents', clock', rfl, hset.1, by have := hpw.1; simpa using this, fun i a ks' u hai hci => ?_⟩
              obtain ⟨q1, q2, q3⟩ := hpw.2 i a _ (by simpa using hai) hci
              exact ⟨q1, q2, q3.ext hE fun r hr => (hcnew _ (List.mem_of_getElem? hci) r hr).1⟩
        · simp only [hsh, if_false] at h
          cases h
      · cases h
    · cases h
  · cases h

theorem opt_rep {ρ : Operand → Value} {ρv : Operand → VV} (hρ : ∀ x, RepV w K H (ρ x) (ρv x)) (o : Option Operand) : (o.map ρ = none ∧ o.map ρv = none) ∨ ∃ v x, o.map ρ = some v ∧ o.map ρv = some x ∧ RepV w K H v x := by
  cases o with
  | none => exact .inl ⟨rfl, rfl⟩
  | some x => exact .inr ⟨_, _, rfl, rfl, hρ x⟩
theorem undef_rep : RepV w K H undef (.tup []) := .tup #[] [] rfl (by simp)
theorem undef_cl (n : Nat) : Cl n (.tup []) := fun r hr => by simp [refs, refsL] at hr

theorem OpOk.val (hI : Inv G w K M) {sem : Sem Value} {v : VV} (h : ∃ rv, sem.run P w = .ok rv w ∧ RepV w K M.H rv v ∧ Cl M.H.length v) : OpOk P G (do pure (.value (← sem))) w K M v M := by
  obtain ⟨rv, h1, h2, h3⟩ := h
  exact OpOk.same hI (by simp [h1]) h2 h3
theorem OpOk.val2 {sem : Sem Value} {v : VV} (h : ∃ rv w' K', sem.run P w = .ok rv w' ∧ RepV w' K' M'.H rv v ∧ Cl M'.H.length v ∧ Ext w K M.H w' K' M'.H ∧ Inv G w' K' M') : OpOk P G (do pure (.value (← sem))) w K M v M' := by
  obtain ⟨rv, w', K', h1, h2, h3, h4, h5⟩ := h
  exact ⟨_, rv, w', K', by simp [h1], .inl rfl, h2, h3, h4, h5⟩

theorem vop_ok (hT : TabOk P T) (hI : Inv G w K M) {o : Oper} {ρ : Operand → Value} {ρv : Operand → VV} {v : VV} (hρ : ∀ x, RepV w K M.H (ρ x) (ρv x)) (hc : ∀ x, Cl M.H.length (ρv x)) (h : vop T o.op ρv M = some (v, M')) :
    OpOk P G (execOp ρ o) w K M v M' := by
  obtain ⟨dst, op, type, pos, after, guard⟩ := o
  simp only at h
  unfold execOp
  unfold vop at h
  simp only
  split at h
  case h_1 x => cases h; exact OpOk.same hI rfl (hρ x) (hc x)
  case h_2 x => cases h; exact OpOk.same hI rfl (hρ x) (hc x)
  case h_3 c a b =>
    split at h
    · rename_i t ht
      cases h
      have := rep_bool (by have := hρ c; rwa [ht] at this)
      refine OpOk.same hI (rv := if t then ρ a else ρ b) (by simp [asBool, this]) ?_ ?_
      · cases t <;> simp [hρ]
      · cases t <;> simp [hc]
    · cases h
  case h_4 e =>
    split at h
    · rename_i y hy
      cases h
      have hY := hT.ty _ _ hy
      have hz := run_zero' (P := P) (w := w) hY
      have hnew := heap_alloc_new w (.cells y.z.cells e)
      obtain ⟨hE, hI'⟩ := step_new hI (w' := w.alloc (.cells y.z.cells e)) ⟨rfl, rfl, rfl, by show w.heap.size ≤ (w.heap.push _).size; simp⟩ (fun b hb => heap_alloc_old w _ b hb) (.obj (y.zero.map ofValue)) (some w.heap.size)
        (fun b hb => by cases hb; exact ⟨Nat.le_refl _, by show _ < (w.heap.push _).size; simp⟩)
        (fun c hcc => by obtain ⟨v, _, rfl⟩ := List.mem_map.1 hcc; exact ofValue_cl _ _)
        (fun hE b1 hb1 => by cases hb1; exact ⟨_, e, hnew, by rw [zero_cells hY]; simp, fun i u c hu hcc => by rw [zero_cells hY] at hu; exact zero_rep hY i u c hu hcc⟩)
      refine OpOk.val2 ⟨.pointer (some ⟨w.heap.size, 0, none⟩), w.alloc (.cells y.z.cells e), _, by simp [Instr.alloc, hz, newVar, newRow], .ptr _ _ _ (upd_same _ _ _) (fun a b hab => ?_), fun r hr => ?_, hE, hI'⟩
      · simp only [Mem.push, List.getElem?_append_right (Nat.le_refl _), Nat.sub_self, List.getElem?_cons_zero] at hab
        cases hab
      · simp [refs] at hr
        simp [Mem.push, hr]
    · cases h
  case h_5 e x =>
    cases hb : (cellsOf (ρv x)).all isCell with
    | false => rw [hb] at h; cases h
    | true =>
      rw [hb] at h
      cases h
      obtain ⟨hrs, hrc⟩ := cells_rep (hρ x) hb
      have hnew := heap_alloc_new w (.cells (ρ x).cells e)
      obtain ⟨hE, hI'⟩ := step_new hI (w' := w.alloc (.cells (ρ x).cells e)) ⟨rfl, rfl, rfl, by show w.heap.size ≤ (w.heap.push _).size; simp⟩ (fun b hb => heap_alloc_old w _ b hb) (.obj (cellsOf (ρv x))) (some w.heap.size)
        (fun b hb => by cases hb; exact ⟨Nat.le_refl _, by show _ < (w.heap.push _).size; simp⟩)
        (fun c hcc => (cl_cells (hc x) c hcc).mono (by omega))
        (fun hE b1 hb1 => by cases hb1; exact ⟨_, e, hnew, Nat.le_of_eq hrs.symm, fun i u c hu hcc => ⟨(hrc i u c hu hcc).1.ext hE (cl_cells (hc x) c (List.mem_of_getElem? hcc)), (hrc i u c hu hcc).2⟩⟩)
      refine OpOk.val2 ⟨.pointer (some ⟨w.heap.size, 0, none⟩), w.alloc (.cells (ρ x).cells e), _, by simp [Instr.box, newVar, newRow], .ptr _ _ _ (upd_same _ _ _) (fun a b hab => ?_), fun r hr => ?_, hE, hI'⟩
      · simp only [Mem.push, List.getElem?_append_right (Nat.le_refl _), Nat.sub_self, List.getElem?_cons_zero] at hab
        cases hab
      · simp [refs] at hr
        simp [Mem.push, hr]
  case h_6 t parts =>
    obtain ⟨u, h1, h2⟩ := Option.map_eq_some_iff.1 h
    cases h2
    exact OpOk.val hI (vbuild_ok hT hρ hc h1)
  case h_7 t n parts =>
    obtain ⟨u, h1, h2⟩ := Option.map_eq_some_iff.1 h
    cases h2
    obtain ⟨rv, w', f1, f2, f3, f4, f5⟩ := vbuildSlice_ok hT hI hρ hc h1
    exact OpOk.val2 ⟨rv, w', K, f1, f2, f3, f4, f5⟩
  case h_8 t a =>
    obtain ⟨u, h1, h2⟩ := Option.map_eq_some_iff.1 h
    cases h2
    exact OpOk.val hI (vload_ok hT hI h1 (hρ a) (hc a))
  case h_9 t a x =>
    obtain ⟨u, h1, h2⟩ := Option.map_eq_some_iff.1 h
    cases h2
    obtain ⟨w', f1, f2, f3⟩ := vstore_ok hT hI h1 (hρ a) (hρ x) (hc x)
    exact ⟨.skip, undef, w', K, by simp [f1], .inr ⟨rfl, rfl⟩, undef_rep, undef_cl _, f2, f3⟩
  case h_10 x =>
    have hx := hρ x
    generalize hg : ρ x = rx at hx
    split at h
    · rename_i id off hh
      cases h
      rw [hh] at hx
      cases hx with
      | ptr _ _ b h1 h2 => exact OpOk.same hI (rv := .pointer (some ⟨b, off, none⟩)) (by simp [hg]) (.ptr _ _ b h1 h2) (by rw [← hh]; exact hc x)
    · rename_i cs hh
      cases h
      rw [hh] at hx
      cases hx with
      | ip _ b off f h1 h2 h3 => exact OpOk.same hI (rv := .pointer (some ⟨b, off, none⟩)) (by simp [hg]) (.ip _ b off f h1 h2 h3) (by rw [← hh]; exact hc x)
    · rename_i cs hh
      cases h
      rw [hh] at hx
      cases hx with
      | iv _ b off f h1 h2 h3 h4 => exact OpOk.same hI (rv := .pointer (some ⟨b, off, none⟩)) (by simp [hg]) (.iv _ b off f h1 h2 h3 h4) (by rw [← hh]; exact hc x)
    · cases h
  case h_11 op t x y yt =>
    obtain ⟨u, h1, h2⟩ := Option.map_eq_some_iff.1 h
    cases h2
    exact OpOk.val hI (vbin_ok hT h1 (hρ x) (hρ y))
  case h_12 op t x =>
    obtain ⟨u, h1, h2⟩ := Option.map_eq_some_iff.1 h
    cases h2
    exact OpOk.val hI (vun_ok h1 (hρ x))
  case h_13 s d x =>
    obtain ⟨u, h1, h2⟩ := Option.map_eq_some_iff.1 h
    cases h2
    exact OpOk.val hI (vconvert_ok hT h1 (hρ x))
  case h_14 f first caps =>
    cases hb : ((first.toList.map ρv).all isCell && (caps.toList.map ρv).all isCell) with
    | false => rw [hb] at h; cases h
    | true =>
      rw [hb] at h
      cases h
      have arr : ∀ (as : Array Operand) (i : Nat) (v : Value) (c : VV), (as.map ρ)[i]? = some v → (as.toList.map ρv)[i]? = some c → RepV w K M.H v c := by
        intro as i v c hv hcc
        simp only [Array.getElem?_map] at hv
        obtain ⟨x, hx, rfl⟩ := Option.map_eq_some_iff.1 hv
        rw [List.getElem?_map] at hcc
        have : as.toList[i]? = some x := by simpa using hx
        rw [this] at hcc
        cases hcc
        exact hρ x
      refine OpOk.val hI ⟨.func f (first.map ρ) (caps.map ρ), by simp [Instr.makeFunc], .fn f _ _ _ _ (by simp) (by simp) (arr first) (arr caps), fun r hr => ?_⟩
      simp only [refs, List.mem_append] at hr
      rcases hr with hr | hr <;>
      · obtain ⟨c, h1, h2⟩ := mem_refsL.1 hr
        obtain ⟨x, _, rfl⟩ := List.mem_map.1 h1
        exact hc x r h2
  case h_15 t =>
    split at h
    · rename_i kt e size zero agg cmp hty
      split at h
      · rename_i ky hky
        cases h
        have hnew := heap_alloc_new w (.map #[] 0)
        obtain ⟨hE, hI'⟩ := step_new hI (w' := w.alloc (.map #[] 0)) ⟨rfl, rfl, rfl, by show w.heap.size ≤ (w.heap.push _).size; simp⟩ (fun b hb => heap_alloc_old w _ b hb) (.mpo (shOf ky) []) (some w.heap.size)
          (fun b hb => by cases hb; exact ⟨Nat.le_refl _, by show _ < (w.heap.push _).size; simp⟩) (by simp [contents])
          (fun hE => ⟨w.heap.size, #[], 0, rfl, hnew, rfl, fun i e ks v h => by simp at h⟩)
        refine OpOk.val2 ⟨.map (some w.heap.size), w.alloc (.map #[] 0), _, by simp [Instr.makeMap], .mp _ _ (upd_same _ _ _) (fun a b hab => ?_), fun r hr => ?_, hE, hI'⟩
        · simp only [Mem.push, List.getElem?_append_right (Nat.le_refl _), Nat.sub_self, List.getElem?_cons_zero] at hab
          cases hab
        · simp [refs] at hr
          simp [Mem.push, hr]
      · cases h
    · cases h
  case h_16 t l c => exact OpOk.val2 (vmakeSlice_ok hT hI h (hρ l) (hρ c))
  case h_17 t x lo hi =>
    obtain ⟨u, h1, h2⟩ := Option.map_eq_some_iff.1 h
    cases h2
    exact OpOk.val hI (vslice_ok hT h1 (hρ x) (hc x) (opt_rep hρ lo) (opt_rep hρ hi))
  case h_18 t x f =>
    obtain ⟨u, h1, h2⟩ := Option.map_eq_some_iff.1 h
    cases h2
    exact OpOk.val hI (vfieldAddr_ok hT h1 (hρ x) (hc x))
  case h_19 t x i =>
    obtain ⟨u, h1, h2⟩ := Option.map_eq_some_iff.1 h
    cases h2
    exact OpOk.val hI (vindexAddr_ok hT h1 (hρ x) (hρ i) (hc x))
  case h_20 t x i =>
    obtain ⟨u, h1, h2⟩ := Option.map_eq_some_iff.1 h
    cases h2
    exact OpOk.val hI (vindex_ok hT h1 (hρ x) (hρ i) (hc x))
  case h_21 t x k ok =>
    obtain ⟨u, h1, h2⟩ := Option.map_eq_some_iff.1 h
    cases h2
    exact OpOk.val hI (vlookup_ok hT hI h1 (hρ x) (hρ k))
  case h_22 t m k x =>
    obtain ⟨u, h1, h2⟩ := Option.map_eq_some_iff.1 h
    cases h2
    obtain ⟨w', f1, f2, f3⟩ := vmapUpdate_ok hT hI h1 (hρ m) (hρ k) (hρ x) (hc x)
    exact ⟨.skip, undef, w', K, by simp [f1], .inr ⟨rfl, rfl⟩, undef_rep, undef_cl _, f2, f3⟩
  case h_23 t i =>
    have hx := hρ t
    generalize hg : ρ t = rx at hx
    split at h
    · rename_i vs hh
      obtain ⟨u, h1, h2⟩ := Option.map_eq_some_iff.1 h
      cases h2
      rw [hh] at hx
      cases hx with
      | tup us _ hs hr =>
        have hlt := (List.getElem?_eq_some_iff.1 h1).1
        have hu : us[i]? = some (us[i]'(by omega)) := Array.getElem?_eq_getElem _
        refine OpOk.val hI ⟨_, by simp [hg, Instr.extract, hu], hr i _ _ hu h1, ?_⟩
        exact cl_tup.1 (by rw [← hh]; exact hc t) _ (List.mem_of_getElem? h1)
    · cases h
  case h_24 s x t t' =>
    by_cases ht : t = t'
    · subst ht
      simp only [if_true] at h
      obtain ⟨rv, w', K', f1, f2, f3, f4, f5⟩ := vappend_ok (ty := type) hT hI h (hρ s) (hρ x) (hc s) (hc x)
      exact ⟨.value rv, rv, w', K', by simp [resolve, invoke, builtin, f1], .inl rfl, f2, f3, f4, f5⟩
    · simp only [ht, if_false] at h
      cases h
  case h_25 x t =>
    obtain ⟨u, h1, h2⟩ := Option.map_eq_some_iff.1 h
    cases h2
    obtain ⟨rv, f1, f2, f3⟩ := vlen_ok (ty := type) hT hI h1 (hρ x)
    exact OpOk.same hI (rv := rv) (by simp [resolve, invoke, builtin, f1]) f2 f3
  case h_26 x r _ =>
    obtain ⟨u, h1, h2⟩ := Option.map_eq_some_iff.1 h
    cases h2
    obtain ⟨rv, f1, f2, f3⟩ := vexts_ok (P := P) true (r.map ρv) (r.map ρ) _ _ _ ⟨by simp, fun i a b ha hb => by
      rw [List.getElem?_map] at ha hb
      obtain ⟨x, hx, rfl⟩ := Option.map_eq_some_iff.1 ha
      rw [hx] at hb
      cases hb
      exact hρ x⟩ (hρ x) (hc x) h1
    exact OpOk.same hI (rv := rv) (by simp only [cond_true] at f1; simp [resolve, invoke, builtin, Builtin.max_, f1]) f2 f3
  case h_27 x r _ =>
    obtain ⟨u, h1, h2⟩ := Option.map_eq_some_iff.1 h
    cases h2
    obtain ⟨rv, f1, f2, f3⟩ := vexts_ok (P := P) false (r.map ρv) (r.map ρ) _ _ _ ⟨by simp, fun i a b ha hb => by
      rw [List.getElem?_map] at ha hb
      obtain ⟨x, hx, rfl⟩ := Option.map_eq_some_iff.1 ha
      rw [hx] at hb
      cases hb
      exact hρ x⟩ (hρ x) (hc x) h1
    exact OpOk.same hI (rv := rv) (by simp only [cond_false] at f1; simp [resolve, invoke, builtin, Builtin.min_, f1]) f2 f3
  case h_28 => cases h
end
end Go.Proofs.Ytmagiabapakhcaa.Vm
