/- A part of the proofs about the chapter of the vaults; it states no condition of its own. -/
import Derived.Test.YtnjgdlmddlinaaaDoorB05
set_option linter.unusedVariables false
set_option linter.unusedSimpArgs false
/- A machine on values: a slice that is built as a buffer of our own. -/
namespace Go.Proofs.YtnjgdlmddlinaaaDoor.Vm
open Go Go.Proofs
variable {P : Program} {T : Tab} {G : Ghost} {w : World} {K : Nat → Option Nat} {M M' : Mem}
theorem flatC_at {k : Nat} : ∀ {vs : List VV} {u : Nat} {c : VV}, (∀ v ∈ vs, (cellsOf v).length = k) → (vs.flatMap cellsOf)[u]? = some c → ∃ i v j, vs[i]? = some v ∧ (cellsOf v)[j]? = some c ∧ u = i * k + j
 | [], u, c, _, h => by simp at h
 | v :: vs, u, c, hk, h => by
  have hv := hk v (by simp)
  rw [List.flatMap_cons] at h
  rcases Nat.lt_or_ge u k with hlt | hge
  ·rw [List.getElem?_append_left (by omega)] at h
   exact ⟨0, v, u, rfl, h, by omega⟩
  ·rw [List.getElem?_append_right (by omega), hv] at h
   obtain ⟨i, v', j, h1, h2, h3⟩ := flatC_at (fun v hv => hk v (by simp [hv])) h
   refine ⟨i + 1, v', j, h1, h2, ?_⟩
   rw [Nat.succ_mul]
   omega
theorem flatC_len {k : Nat} : ∀ {vs : List VV}, (∀ v ∈ vs, (cellsOf v).length = k) → (vs.flatMap cellsOf).length = vs.length * k
 | [], _ => by simp
 | v :: vs, hk => by
  rw [List.flatMap_cons, List.length_append, hk v (by simp), flatC_len fun v hv => hk v (by simp [hv]), List.length_cons, Nat.succ_mul, Nat.add_comm]
theorem vbuildOwn_ok (hT : TabOk P T) (hI : Inv G w K M) {t n : Nat} {ps : Array (Nat × Operand)} {ρ : Operand → Value} {ρv : Operand → VV} {v : VV} (hρ : ∀ x, RepV w K M.H (ρ x) (ρv x)) (hc : ∀ x, Cl M.H.length (ρv x))
  (h : vbuildOwn T t n (ps.toList.map fun p => (p.1, ρv p.2)) M = some (v, M')) :
  ∃ rv w' K', (Instr.buildSlice t n (ps.map fun (i, x) => (i, ρ x))).run P w = .ok rv w' ∧ RepV w' K' M'.H rv v ∧ Cl M'.H.length v ∧ Ext w K M.H w' K' M'.H ∧ Inv G w' K' M' := by
 unfold vbuildOwn at h
 split at h
 ·rename_i e ke be size zero agg cmp vs hty ho
  have hd : TdOk P t (.slice e ke be) := (hT.ty _ _ hty).d
  obtain ⟨hu, i, z, hi, hik, hib, hz, hzs, hk, hbe⟩ := hd
  cases hb : (Nat.beq vs.length n && Nat.ble (n * ke) 16777216 && vs.all (fun v => Nat.beq (cellsOf v).length ke && (cellsOf v).all isCell) && Nat.ble 1 n) with
  | false => rw [hb] at h; cases h
  | true =>
   rw [hb] at h
   simp only [cond_true] at h
   simp only [Bool.and_eq_true, List.all_eq_true] at hb
   obtain ⟨⟨⟨b1, b2⟩, b3⟩, b4⟩ := hb
   have hn1 : 1 ≤ n := Nat.le_of_ble_eq_true b4
   have hn := Nat.eq_of_beq_eq_true b1
   have hsz : n * ke ≤ 16777216 := Nat.le_of_ble_eq_true b2
   have hv : ∀ v ∈ vs, (cellsOf v).length = ke ∧ (cellsOf v).all isCell = true := fun v hv => ⟨Nat.eq_of_beq_eq_true (b3 v hv).1, List.all_eq_true.2 (b3 v hv).2⟩
   have hps := parts_PW (ps := ps) hρ
   have main : ∀ cells0 : Array Value, cells0.size = n * ke → ∃ cells', Instr.fill (fun i => some (i * ke, ke)) cells0 (ps.map fun (i, x) => (i, ρ x)).toList = some cells' ∧ cells'.size = n * ke ∧
     ∀ (i : Nat) (v : VV) (j : Nat) (c : VV), vs[i]? = some v → (cellsOf v)[j]? = some c → j < ke ∧ ∃ r, cells'.toList[i * ke + j]? = some r ∧ RepV w K M.H r c ∧ isOne r = true := by
    intro cells0 h0
    obtain ⟨cells', f1, f2, f3, f4⟩ := fill_seq ke _ _ vs 0 cells0 ho hps hv (by rw [Nat.zero_add, hn, h0]; exact Nat.le_refl _)
    have : cells'.toList = (ps.map fun (i, x) => (i, ρ x)).toList.flatMap (·.2.cells.toList) := by
     rw [f2, Nat.zero_mul, List.take_zero, List.nil_append, List.drop_of_length_le (by simp [h0, hn]), List.append_nil]
    refine ⟨cells', f1, ?_, ?_⟩
    ·rw [← Array.length_toList, this, f3, hn]
    ·rw [this]; exact f4
   have hrun : ∃ cells', (Instr.buildSlice t n (ps.map fun (i, x) => (i, ρ x))).run P w = .ok (.slice (some ⟨w.heap.size, 0, none⟩) n n) (w.alloc (.cells cells' e)) ∧ cells'.size = n * ke ∧
     ∀ (i : Nat) (v : VV) (j : Nat) (c : VV), vs[i]? = some v → (cellsOf v)[j]? = some c → j < ke ∧ ∃ r, cells'.toList[i * ke + j]? = some r ∧ RepV w K M.H r c ∧ isOne r = true := by
    by_cases h0 : n * ke = 0
    ·obtain ⟨cells', f1, f2, f3⟩ := main #[] (by simp [h0])
     refine ⟨cells', ?_, f2, f3⟩
     have hlt : ¬ 16777216 < n * ke := by omega
     have hn0 : n = 0 := by rcases Nat.mul_eq_zero.1 h0 with h | h <;> omega
     subst hn0
     simp [Instr.buildSlice, run_underlying hu, sizeOf, typeInfo, hi, hik, newRow, Array.range_zero']
     have f1' : Instr.fill (fun i => some (i * ke, ke)) #[] (List.map (fun x => (x.fst, ρ x.snd)) ps.toList) = some cells' := by simpa using f1
     rw [f1']
     simp [newObj, Sem.run, World.alloc_eq]
    ·obtain ⟨cells', f1, f2, f3⟩ := main ((Array.range (n * ke)).map (z.cells[· % z.cells.size]!)) (by simp)
     refine ⟨cells', ?_, f2, f3⟩
     have hlt : ¬ 16777216 < n * ke := by omega
     simp only [Instr.buildSlice, Sem.run_bind, run_underlying hu, Result.andThen_ok, sizeOf, typeInfo, program, Sem.run, hi, Sem.run_pure, hik, zeroValue, hz]
     rw [if_neg (by omega)]
     simp only [Sem.run_bind, Sem.run_pure, Result.andThen_ok, h0, if_false, program, Sem.run, hi, hz, f1, newRow]
     simp
   obtain ⟨cells', hrun, hcs, hrow⟩ := hrun
   cases h
   have hb1 : ∀ b, b < w.heap.size → (w.alloc (.cells cells' e)).heap[b]? = w.heap[b]? := fun b hb => heap_alloc_old w (.cells cells' e) b hb
   have hnew : (w.alloc (.cells cells' e)).heap[w.heap.size]? = some (.cells cells' e (0, 0)) := heap_alloc_new w (.cells cells' e)
   have hvs : ∀ v ∈ vs, Cl M.H.length v := by
    have : ∀ (i0 : Nat) (qs : List (Nat × VV)) (vs : List VV), inOrder i0 qs = some vs → ∀ v ∈ vs, ∃ q ∈ qs, q.2 = v := by
     intro i0 qs
     induction qs generalizing i0 with
     | nil => intro vs h v hv; simp [inOrder] at h; subst h; cases hv
     | cons q qs ih =>
      intro vs h v hv
      obtain ⟨j, u⟩ := q
      simp only [inOrder] at h
      cases hb : Nat.beq i0 j with
      | false => rw [hb] at h; cases h
      | true =>
       rw [hb] at h
       simp only [cond_true] at h
       obtain ⟨vs', h1, rfl⟩ := Option.map_eq_some_iff.1 h
       rcases List.mem_cons.1 hv with rfl | hv
       ·exact ⟨(j, v), by simp, rfl⟩
       ·obtain ⟨q, hq, e⟩ := ih _ vs' h1 v hv
        exact ⟨q, by simp [hq], e⟩
    intro v hv
    obtain ⟨q, hq, rfl⟩ := this _ _ _ ho v hv
    obtain ⟨p, _, rfl⟩ := List.mem_map.1 hq
    exact hc _
   have hvk : ∀ v ∈ vs, (cellsOf v).length = ke := fun v h => (hv v h).1
   have hcl : ∀ c ∈ vs.flatMap cellsOf, Cl M.H.length c := fun c hcc => by
    obtain ⟨v, h1, h2⟩ := List.mem_flatMap.1 hcc
    exact cl_cells (hvs v h1) c h2
   obtain ⟨hE, hI'⟩ := step_new hI (w' := w.alloc (.cells cells' e)) ⟨rfl, rfl, rfl, by show w.heap.size ≤ (w.heap.push _).size; simp⟩ hb1 (.obj (vs.flatMap cellsOf)) (some w.heap.size)
    (fun b hb => by cases hb; exact ⟨Nat.le_refl _, by show _ < (w.heap.push _).size; simp⟩)
    (fun c hcc => (hcl c hcc).mono (by omega))
    (fun hE b1 hb1 => by
      cases hb1
      refine ⟨_, e, hnew, by rw [flatC_len hvk, hn, hcs]; exact Nat.le_refl _, fun i u c hu hcc => ?_⟩
      obtain ⟨i', v, j, h1, h2, rfl⟩ := flatC_at hvk hcc
      obtain ⟨_, r, g2, g3, g4⟩ := hrow i' v j c h1 h2
      rw [Array.getElem?_toList, hu] at g2
      cases g2
      exact ⟨g3.ext hE (hcl c (List.mem_of_getElem? hcc)), g4⟩)
   have hlen : n ≤ maxLen := by
    unfold maxLen
    have : n ≤ n * ke := Nat.le_mul_of_pos_right _ hk
    omega
   refine ⟨_, _, _, hrun, .bf _ _ _ _ _ _ _ (fun _ => upd_same _ _ _) (fun a b hab => ?_) (Nat.le_refl _) hlen (fun _ => rfl) (fun _ => ⟨_, _, _, hnew, by rw [hcs]; omega⟩), fun r hr => ?_, hE, hI'⟩
   ·simp only [Mem.push, List.getElem?_append_right (Nat.le_refl _), Nat.sub_self, List.getElem?_cons_zero] at hab
    cases hab
   ·simp [refs] at hr
    simp [Mem.push, hr]
 ·cases h
end Go.Proofs.YtnjgdlmddlinaaaDoor.Vm

/- A machine on values: its operations are true: a map's store; and all of them together. -/
namespace Go.Proofs.YtnjgdlmddlinaaaDoor.Vm
open Go
section
variable {P : Program} {T : Tab} {G : Ghost} {w : World} {K : Nat → Option Nat} {M M' : Mem} {H : List VObj}

theorem vmapUpdate_ok (hT : TabOk P T) (hI : Inv G w K M) {t : Nat} {x k v : VV} {rx rk rv : Value} (h : vmapUpdate T t x k v M = some M') (hx : RepV w K M.H rx x) (hk : RepV w K M.H rk k) (hv : RepV w K M.H rv v) (hcv : Cl M.H.length v) :
  ∃ w', (Instr.mapUpdate t rx rk rv).run P w = .ok () w' ∧ Ext w K M.H w' K M'.H ∧ Inv G w' K M' := by
 unfold vmapUpdate at h
 split at h
 ·rename_i kt e size zero agg cmp id hty
  have hd : P.underlying t = some (.map kt e) := (hT.ty _ _ hty).d
  split at h
  ·rename_i ky hky
   split at h
   ·rename_i ks sh es hks ho
    by_cases hsh : sh = shOf ky
    ·subst hsh
     simp only [if_true, Option.some.injEq] at h
     subst h
     cases hx with
     | mp _ b hK hn =>
      obtain ⟨b', ents, clock, e1, h1, h2, hst, h3⟩ := hI.obj id _ ho
      rw [hK] at e1
      cases e1
      have he : Ents w K M.H (shOf ky) ents.toList es := PW.of_arr' h2 h3
      obtain ⟨hck, hfind, hkv, hlen, hbits⟩ := run_find hT hky hks hk he
      have hg : (getObj b).run P w = .ok (.map ents clock) w := MapKept.run_getObj_map h1
      have hblt := hI.lt ho hK
      -- the new entries
      have key : ∃ ents' clock', (Instr.mapUpdate t (.map (some b)) rk rv).run P w = .ok () { w with heap := w.heap.setIfInBounds b (.map ents' clock') } ∧ Stm ents' clock' ∧ PW (fun (e : MapEntry) (p : List Int × VV) => e.key = keyVal (shOf ky) p.1 ∧ p.1.length = (shOf ky).len ∧ RepV w K M.H e.val p.2) ents'.toList (assocSet ks v es) := by
       rw [assocSet_aidx]
       cases ha : aidx ks es with
       | none =>
        rw [ha] at hfind
        simp only [Option.bind_none] at hfind
        have hs := MapKept.run_setObj_map (P := P) (.map (ents.push { key := rk, val := rv, born := clock }) (clock + 1)) h1
        refine ⟨ents.push { key := rk, val := rv, born := clock }, clock + 1, ?_, ?_, ?_⟩
        ·simp [Instr.mapUpdate, run_underlying hd, hg, hck, hfind, hs]
        ·refine ⟨fun x hx => ?_, ?_⟩
         ·rw [Array.toList_push, List.mem_append, List.mem_singleton] at hx
          rcases hx with hx | rfl
          ·exact Nat.lt_succ_of_lt (hst.1 x hx)
          ·exact Nat.lt_succ_self _
         ·rw [Array.toList_push, List.map_append, List.nodup_append]
          refine ⟨hst.2, by simp, fun a ha b hb hab => ?_⟩
          obtain ⟨x, hx, rfl⟩ := List.mem_map.1 ha
          simp only [List.map_cons, List.map_nil, List.mem_singleton] at hb
          have := hst.1 x hx
          omega
        ·rw [Array.toList_push]
         exact PW.append he ⟨rfl, fun i a c ha hc => by
          cases i with
          | zero => simp at ha hc; subst ha hc; exact ⟨hkv, hlen, hv⟩
          | succ i => simp at ha⟩
       | some j =>
        obtain ⟨u, hu⟩ := aidx_spec ha
        have hjl := (List.getElem?_eq_some_iff.1 hu).1
        have hjl' : j < ents.size := by omega
        have hej : ents[j]? = some ents[j] := Array.getElem?_eq_getElem hjl'
        have hlj : ents.toList[j]? = some ents[j] := by simp [hjl']
        rw [ha] at hfind
        simp only [Option.bind_some, hlj, Option.map_some] at hfind
        obtain ⟨hk1, hk2, _⟩ := h3 j _ _ _ hej hu
        have hkeq : ents[j].key = rk := by rw [hk1, hkv]
        have hstay : (Instr.keyThatStays rk rk).run P w = .ok rk w := by simp [Instr.keyThatStays, hbits]
        have hs := MapKept.run_setObj_map (P := P) (.map (ents.modify j fun e => { e with key := rk, val := rv }) clock) h1
        refine ⟨ents.modify j fun e => { e with key := rk, val := rv }, clock, ?_, ?_, ?_⟩
        ·simp [Instr.mapUpdate, run_underlying hd, hg, hck, hfind, hej, hkeq, hstay, hs]
        ·have hbm : ((ents.modify j fun e => { e with key := rk, val := rv }).toList.map (·.born)) = ents.toList.map (·.born) := by
          apply List.ext_getElem?
          intro i
          rw [List.getElem?_map, List.getElem?_map]
          simp only [Array.getElem?_toList, Array.getElem?_modify]
          by_cases e : j = i
          ·rw [if_pos e]
           cases ents[i]? <;> rfl
          ·rw [if_neg e]
         refine ⟨fun x hx => ?_, by rw [hbm]; exact hst.2⟩
         have : x.born ∈ ents.toList.map (·.born) := by rw [← hbm]; exact List.mem_map.2 ⟨x, hx, rfl⟩
         obtain ⟨z, hz, hze⟩ := List.mem_map.1 this
         rw [← hze]; exact hst.1 z hz
        ·refine ⟨by simp [h2], fun i a c hai hci => ?_⟩
         simp only [Array.getElem?_toList, Array.getElem?_modify] at hai
         rw [List.getElem?_set] at hci
         by_cases e : j = i
         ·subst e
          rw [if_pos rfl, if_pos hjl] at hci
          rw [if_pos rfl, hej] at hai
          simp only [Option.map_some, Option.some.injEq] at hai hci
          subst hai hci
          exact ⟨hkv, hlen, hv⟩
         ·rw [if_neg e] at hai hci
          exact h3 i a c.1 c.2 hai hci
      obtain ⟨ents', clock', hrun, hst', hpw⟩ := key
      have hset := MapKept.heap_set (o' := .map ents' clock') h1
      have hcnew : ∀ p ∈ assocSet ks v es, ∀ r ∈ refs p.2, r < M.H.length ∧ (r ≤ id ∨ (id, r) ∈ addLg id (refs v) M.lg) := by
       have hnew : ∀ r ∈ refs v, r < M.H.length ∧ (r ≤ id ∨ (id, r) ∈ addLg id (refs v) M.lg) := fun r hr => by
        refine ⟨hcv r hr, ?_⟩
        rcases Nat.lt_or_ge id r with hlt | hge
        ·exact .inr (addLg_new hr hlt)
        ·exact .inl hge
       have hold : ∀ p ∈ es, ∀ r ∈ refs p.2, r < M.H.length ∧ (r ≤ id ∨ (id, r) ∈ addLg id (refs v) M.lg) := fun p hp r hr => by
        obtain ⟨a1, a2⟩ := hI.cl id _ ho p.2 (List.mem_map.2 ⟨p, hp, rfl⟩) r hr
        exact ⟨a1, a2.imp_right addLg_old⟩
       intro p hp
       rw [assocSet_aidx] at hp
       split at hp
       ·rcases List.mem_or_eq_of_mem_set hp with h | rfl
        ·exact hold p h
        ·exact hnew
       ·rcases List.mem_append.1 hp with h | h
        ·exact hold p h
        ·simp at h; subst h; exact hnew
      refine ⟨_, hrun, ?_⟩
      refine step_set hI (w' := { w with heap := w.heap.setIfInBounds b (.map ents' clock') }) ⟨rfl, rfl, rfl, by simp⟩ ho hK (fun _ _ e => VObj.noConfusion e) (fun e => e) (fun e => VObj.noConfusion e) (fun _ e => VObj.noConfusion e) (fun _ _ e => VObj.noConfusion e) (fun b' _ hne => hset.2 b' hne) (fun v1 t1 z1 e1 => (by rw [h1] at e1; cases e1)) _ ?_ (fun e he => addLg_old he) ?_ ?_
      ·intro c hc r hr
       simp only [contents] at hc
       obtain ⟨p, hp, rfl⟩ := List.mem_map.1 hc
       exact hcnew p hp r hr
      ·intro e he
       rcases addLg_mem he with h | ⟨h1, h2⟩
       ·exact hI.lg e h
       ·exact ⟨by rw [h1]; exact (List.getElem?_eq_some_iff.1 ho).1, hcv _ h2⟩
      ·intro hE
       refine ⟨b, ents', clock', rfl, hset.1, by have := hpw.1; simpa using this, hst', fun i a ks' u hai hci => ?_⟩
       obtain ⟨q1, q2, q3⟩ := hpw.2 i a _ (by simpa using hai) hci
       exact ⟨q1, q2, q3.ext hE fun r hr => (hcnew _ (List.mem_of_getElem? hci) r hr).1⟩
    ·simp only [hsh, if_false] at h
     cases h
   ·cases h
  ·cases h
 ·cases h

theorem opt_rep {ρ : Operand → Value} {ρv : Operand → VV} (hρ : ∀ x, RepV w K H (ρ x) (ρv x)) (o : Option Operand) : (o.map ρ = none ∧ o.map ρv = none) ∨ ∃ v x, o.map ρ = some v ∧ o.map ρv = some x ∧ RepV w K H v x := by
 cases o with
 | none => exact .inl ⟨rfl, rfl⟩
 | some x => exact .inr ⟨_, _, rfl, rfl, hρ x⟩
theorem undef_rep : RepV w K H undef (.tup []) := .tup #[] [] rfl (by simp)
theorem undef_cl (n : Nat) : Cl n (.tup []) := fun r hr => by simp [refs, refsL] at hr

theorem OpOk.val (hI : Inv G w K M) {sem : Sem Value} {v : VV} (h : ∃ rv, sem.run P w = .ok rv w ∧ RepV w K M.H rv v ∧ Cl M.H.length v) : OpOk P G (do pure (.value (← sem))) w K M v M := by
 obtain ⟨rv, h1, h2, h3⟩ := h
 exact OpOk.same hI (by simp [h1]) h2 h3
theorem OpOk.val2 {sem : Sem Value} {v : VV} (h : ∃ rv w' K', sem.run P w = .ok rv w' ∧ RepV w' K' M'.H rv v ∧ Cl M'.H.length v ∧ Ext w K M.H w' K' M'.H ∧ Inv G w' K' M') : OpOk P G (do pure (.value (← sem))) w K M v M' := by
 obtain ⟨rv, w', K', h1, h2, h3, h4, h5⟩ := h
 exact ⟨_, rv, w', K', by simp [h1], .inl rfl, h2, h3, h4, h5⟩

theorem vop_ok (hT : TabOk P T) (hI : Inv G w K M) {o : Oper} {ρ : Operand → Value} {ρv : Operand → VV} {v : VV} (hρ : ∀ x, RepV w K M.H (ρ x) (ρv x)) (hc : ∀ x, Cl M.H.length (ρv x)) (hnil : ρ (.const .nilIface) = .nilIface) (h : vop T o.op ρv M = some (v, M')) :
  OpOk P G (execOp ρ o) w K M v M' := by
 obtain ⟨dst, op, type, pos, after, guard⟩ := o
 simp only at h
 unfold execOp
 unfold vop at h
 simp only
 split at h
 case h_1 x => cases h; exact OpOk.same hI rfl (hρ x) (hc x)
 case h_2 x => cases h; exact OpOk.same hI rfl (hρ x) (hc x)
 case h_3 c a b =>
  split at h
  ·rename_i t ht
   cases h
   have := rep_bool (by have := hρ c; rwa [ht] at this)
   refine OpOk.same hI (rv := if t then ρ a else ρ b) (by simp [asBool, this]) ?_ ?_
   ·cases t <;> simp [hρ]
   ·cases t <;> simp [hc]
  ·cases h
 case h_4 e =>
  split at h
  ·rename_i y hy
   cases h
   have hY := hT.ty _ _ hy
   have hz := run_zero' (P := P) (w := w) hY
   have hnew := heap_alloc_new w (.cells y.z.cells e)
   obtain ⟨hE, hI'⟩ := step_new hI (w' := w.alloc (.cells y.z.cells e)) ⟨rfl, rfl, rfl, by show w.heap.size ≤ (w.heap.push _).size; simp⟩ (fun b hb => heap_alloc_old w _ b hb) (.obj (y.zero.map ofValue)) (some w.heap.size)
    (fun b hb => by cases hb; exact ⟨Nat.le_refl _, by show _ < (w.heap.push _).size; simp⟩)
    (fun c hcc => by obtain ⟨v, _, rfl⟩ := List.mem_map.1 hcc; exact ofValue_cl _ _)
    (fun hE b1 hb1 => by cases hb1; exact ⟨_, e, hnew, by rw [zero_cells hY]; simp, fun i u c hu hcc => by rw [zero_cells hY] at hu; exact zero_rep hY i u c hu hcc⟩)
   refine OpOk.val2 ⟨.pointer (some ⟨w.heap.size, 0, none⟩), w.alloc (.cells y.z.cells e), _, by simp [Instr.alloc, hz, newVar, newRow], .ptr _ _ _ (upd_same _ _ _) (fun a b hab => ?_), fun r hr => ?_, hE, hI'⟩
   ·simp only [Mem.push, List.getElem?_append_right (Nat.le_refl _), Nat.sub_self, List.getElem?_cons_zero] at hab
    cases hab
   ·simp [refs] at hr
    simp [Mem.push, hr]
  ·cases h
 case h_5 e x =>
  cases hb : (cellsOf (ρv x)).all isCell with
  | false => rw [hb] at h; cases h
  | true =>
   rw [hb] at h
   cases h
   obtain ⟨hrs, hrc⟩ := cells_rep (hρ x) hb
   have hnew := heap_alloc_new w (.cells (ρ x).cells e)
   obtain ⟨hE, hI'⟩ := step_new hI (w' := w.alloc (.cells (ρ x).cells e)) ⟨rfl, rfl, rfl, by show w.heap.size ≤ (w.heap.push _).size; simp⟩ (fun b hb => heap_alloc_old w _ b hb) (.obj (cellsOf (ρv x))) (some w.heap.size)
    (fun b hb => by cases hb; exact ⟨Nat.le_refl _, by show _ < (w.heap.push _).size; simp⟩)
    (fun c hcc => (cl_cells (hc x) c hcc).mono (by omega))
    (fun hE b1 hb1 => by cases hb1; exact ⟨_, e, hnew, Nat.le_of_eq hrs.symm, fun i u c hu hcc => ⟨(hrc i u c hu hcc).1.ext hE (cl_cells (hc x) c (List.mem_of_getElem? hcc)), (hrc i u c hu hcc).2⟩⟩)
   refine OpOk.val2 ⟨.pointer (some ⟨w.heap.size, 0, none⟩), w.alloc (.cells (ρ x).cells e), _, by simp [Instr.box, newVar, newRow], .ptr _ _ _ (upd_same _ _ _) (fun a b hab => ?_), fun r hr => ?_, hE, hI'⟩
   ·simp only [Mem.push, List.getElem?_append_right (Nat.le_refl _), Nat.sub_self, List.getElem?_cons_zero] at hab
    cases hab
   ·simp [refs] at hr
    simp [Mem.push, hr]
 case h_6 t parts =>
  obtain ⟨u, h1, h2⟩ := Option.map_eq_some_iff.1 h
  cases h2
  exact OpOk.val hI (vbuild_ok hT hρ hc h1)
 case h_7 t n parts =>
  cases hos : T.ownS t n with
  | true =>
  rw [hos, cond_true] at h
  exact OpOk.val2 (vbuildOwn_ok hT hI hρ hc h)
  | false =>
  rw [hos, cond_false] at h
  obtain ⟨u, h1, h2⟩ := Option.map_eq_some_iff.1 h
  cases h2
  obtain ⟨rv, w', f1, f2, f3, f4, f5⟩ := vbuildSlice_ok hT hI hρ hc h1
  exact OpOk.val2 ⟨rv, w', K, f1, f2, f3, f4, f5⟩
 case h_8 t a =>
  obtain ⟨u, h1, h2⟩ := Option.map_eq_some_iff.1 h
  cases h2
  exact OpOk.val hI (vload_ok hT hI h1 (hρ a) (hc a))
 case h_9 t a x =>
  obtain ⟨u, h1, h2⟩ := Option.map_eq_some_iff.1 h
  cases h2
  obtain ⟨w', f1, f2, f3⟩ := vstore_ok hT hI h1 (hρ a) (hρ x) (hc x)
  exact ⟨.skip, undef, w', K, by simp [f1], .inr ⟨rfl, rfl⟩, undef_rep, undef_cl _, f2, f3⟩
 case h_10 x =>
  have hx := hρ x
  generalize hg : ρ x = rx at hx
  split at h
  ·rename_i id off hh
   cases h
   rw [hh] at hx
   cases hx with
   | ptr _ _ b h1 h2 => exact OpOk.same hI (rv := .pointer (some ⟨b, off, none⟩)) (by simp [hg]) (.ptr _ _ b h1 h2) (by rw [← hh]; exact hc x)
  ·rename_i cs hh
   cases h
   rw [hh] at hx
   cases hx with
   | ip _ b off f h1 h2 h3 => exact OpOk.same hI (rv := .pointer (some ⟨b, off, none⟩)) (by simp [hg]) (.ip _ b off f h1 h2 h3) (by rw [← hh]; exact hc x)
  ·rename_i cs hh
   cases h
   rw [hh] at hx
   cases hx with
   | iv _ b off f h1 h2 h3 h4 => exact OpOk.same hI (rv := .pointer (some ⟨b, off, none⟩)) (by simp [hg]) (.iv _ b off f h1 h2 h3 h4) (by rw [← hh]; exact hc x)
  ·cases h
 case h_11 op t x y yt =>
  obtain ⟨u, h1, h2⟩ := Option.map_eq_some_iff.1 h
  cases h2
  exact OpOk.val hI (vbinK_ok hT h1 (hρ x) (hρ y) (fun e => by subst e; exact hnil))
 case h_12 op t x =>
  obtain ⟨u, h1, h2⟩ := Option.map_eq_some_iff.1 h
  cases h2
  exact OpOk.val hI (vun_ok h1 (hρ x))
 case h_13 s d x =>
  obtain ⟨u, h1, h2⟩ := Option.map_eq_some_iff.1 h
  cases h2
  exact OpOk.val hI (vconvert_ok hT h1 (hρ x))
 case h_14 f first caps =>
  cases hb : ((first.toList.map ρv).all isCell && (caps.toList.map ρv).all isCell) with
  | false => rw [hb] at h; cases h
  | true =>
   rw [hb] at h
   cases h
   have arr : ∀ (as : Array Operand) (i : Nat) (v : Value) (c : VV), (as.map ρ)[i]? = some v → (as.toList.map ρv)[i]? = some c → RepV w K M.H v c := by
    intro as i v c hv hcc
    simp only [Array.getElem?_map] at hv
    obtain ⟨x, hx, rfl⟩ := Option.map_eq_some_iff.1 hv
    rw [List.getElem?_map] at hcc
    have : as.toList[i]? = some x := by simpa using hx
    rw [this] at hcc
    cases hcc
    exact hρ x
   refine OpOk.val hI ⟨.func f (first.map ρ) (caps.map ρ), by simp [Instr.makeFunc], .fn f _ _ _ _ (by simp) (by simp) (arr first) (arr caps), fun r hr => ?_⟩
   simp only [refs, List.mem_append] at hr
   rcases hr with hr | hr <;>
   ·obtain ⟨c, h1, h2⟩ := mem_refsL.1 hr
    obtain ⟨x, _, rfl⟩ := List.mem_map.1 h1
    exact hc x r h2
 case h_15 t =>
  split at h
  ·rename_i kt e size zero agg cmp hty
   split at h
   ·rename_i ky hky
    cases h
    have hnew := heap_alloc_new w (.map #[] 0)
    obtain ⟨hE, hI'⟩ := step_new hI (w' := w.alloc (.map #[] 0)) ⟨rfl, rfl, rfl, by show w.heap.size ≤ (w.heap.push _).size; simp⟩ (fun b hb => heap_alloc_old w _ b hb) (.mpo (shOf ky) []) (some w.heap.size)
     (fun b hb => by cases hb; exact ⟨Nat.le_refl _, by show _ < (w.heap.push _).size; simp⟩) (by simp [contents])
     (fun hE => ⟨w.heap.size, #[], 0, rfl, hnew, rfl, ⟨by simp, by simp⟩, fun i e ks v h => by simp at h⟩)
    refine OpOk.val2 ⟨.map (some w.heap.size), w.alloc (.map #[] 0), _, by simp [Instr.makeMap], .mp _ _ (upd_same _ _ _) (fun a b hab => ?_), fun r hr => ?_, hE, hI'⟩
    ·simp only [Mem.push, List.getElem?_append_right (Nat.le_refl _), Nat.sub_self, List.getElem?_cons_zero] at hab
     cases hab
    ·simp [refs] at hr
     simp [Mem.push, hr]
   ·cases h
  ·cases h
 case h_16 t l c => exact OpOk.val2 (vmakeSlice_ok hT hI h (hρ l) (hρ c))
 case h_17 t x lo hi =>
  obtain ⟨u, h1, h2⟩ := Option.map_eq_some_iff.1 h
  cases h2
  exact OpOk.val hI (vslice_ok hT h1 (hρ x) (hc x) (opt_rep hρ lo) (opt_rep hρ hi))
 case h_18 t x f =>
  obtain ⟨u, h1, h2⟩ := Option.map_eq_some_iff.1 h
  cases h2
  exact OpOk.val hI (vfieldAddr_ok hT h1 (hρ x) (hc x))
 case h_19 t x i =>
  obtain ⟨u, h1, h2⟩ := Option.map_eq_some_iff.1 h
  cases h2
  exact OpOk.val hI (vindexAddr_ok hT h1 (hρ x) (hρ i) (hc x))
 case h_20 t x i =>
  obtain ⟨u, h1, h2⟩ := Option.map_eq_some_iff.1 h
  cases h2
  exact OpOk.val hI (vindex_ok hT h1 (hρ x) (hρ i) (hc x))
 case h_21 t x k ok =>
  obtain ⟨u, h1, h2⟩ := Option.map_eq_some_iff.1 h
  cases h2
  exact OpOk.val hI (vlookup_ok hT hI h1 (hρ x) (hρ k))
 case h_22 t m k x =>
  obtain ⟨u, h1, h2⟩ := Option.map_eq_some_iff.1 h
  cases h2
  obtain ⟨w', f1, f2, f3⟩ := vmapUpdate_ok hT hI h1 (hρ m) (hρ k) (hρ x) (hc x)
  exact ⟨.skip, undef, w', K, by simp [f1], .inr ⟨rfl, rfl⟩, undef_rep, undef_cl _, f2, f3⟩
 case h_23 t i =>
  have hx := hρ t
  generalize hg : ρ t = rx at hx
  split at h
  ·rename_i vs hh
   obtain ⟨u, h1, h2⟩ := Option.map_eq_some_iff.1 h
   cases h2
   rw [hh] at hx
   cases hx with
   | tup us _ hs hr =>
    have hlt := (List.getElem?_eq_some_iff.1 h1).1
    have hu : us[i]? = some (us[i]'(by omega)) := Array.getElem?_eq_getElem _
    refine OpOk.val hI ⟨_, by simp [hg, Instr.extract, hu], hr i _ _ hu h1, ?_⟩
    exact cl_tup.1 (by rw [← hh]; exact hc t) _ (List.mem_of_getElem? h1)
  ·cases h
 case h_24 s x t t' =>
  by_cases ht : t = t'
  ·subst ht
   simp only [if_true] at h
   obtain ⟨rv, w', K', f1, f2, f3, f4, f5⟩ := vappend_ok (ty := type) hT hI h (hρ s) (hρ x) (hc s) (hc x)
   exact ⟨.value rv, rv, w', K', by simp [resolve, invoke, builtin, f1], .inl rfl, f2, f3, f4, f5⟩
  ·simp only [ht, if_false] at h
   cases h
 case h_25 x t =>
  obtain ⟨u, h1, h2⟩ := Option.map_eq_some_iff.1 h
  cases h2
  obtain ⟨rv, f1, f2, f3⟩ := vlen_ok (ty := type) hT hI h1 (hρ x)
  exact OpOk.same hI (rv := rv) (by simp [resolve, invoke, builtin, f1]) f2 f3
 case h_26 x r _ =>
  obtain ⟨u, h1, h2⟩ := Option.map_eq_some_iff.1 h
  cases h2
  obtain ⟨rv, f1, f2, f3⟩ := vexts_ok (P := P) true (r.map ρv) (r.map ρ) _ _ _ ⟨by simp, fun i a b ha hb => by
   rw [List.getElem?_map] at ha hb
   obtain ⟨x, hx, rfl⟩ := Option.map_eq_some_iff.1 ha
   rw [hx] at hb
   cases hb
   exact hρ x⟩ (hρ x) (hc x) h1
  exact OpOk.same hI (rv := rv) (by simp only [cond_true] at f1; simp [resolve, invoke, builtin, Builtin.max_, f1]) f2 f3
 case h_27 x r _ =>
  obtain ⟨u, h1, h2⟩ := Option.map_eq_some_iff.1 h
  cases h2
  obtain ⟨rv, f1, f2, f3⟩ := vexts_ok (P := P) false (r.map ρv) (r.map ρ) _ _ _ ⟨by simp, fun i a b ha hb => by
   rw [List.getElem?_map] at ha hb
   obtain ⟨x, hx, rfl⟩ := Option.map_eq_some_iff.1 ha
   rw [hx] at hb
   cases hb
   exact hρ x⟩ (hρ x) (hc x) h1
  exact OpOk.same hI (rv := rv) (by simp only [cond_false] at f1; simp [resolve, invoke, builtin, Builtin.min_, f1]) f2 f3
 case h_28 => cases h
end
end Go.Proofs.YtnjgdlmddlinaaaDoor.Vm

/- A machine on values: calls, and regions that have one order. -/
namespace Go.Proofs.YtnjgdlmddlinaaaDoor.Vm
open Go

def fence (r : Option Nat) : Fence := { Fence.wide with round := r }
structure FrOk (w : World) (K : Nat → Option Nat) (M : Mem) (nt : Nat) (tmps : Array Value) (e : Env) : Prop where
 size : tmps.size = nt
 rep : ∀ t, RepV w K M.H (tmps.getD t undef) (get e t)
 cl : ∀ t, Cl M.H.length (get e t)
theorem FrOk.ext {w w' : World} {K K' : Nat → Option Nat} {M M' : Mem} {nt : Nat} {tmps : Array Value} {e : Env} (h : FrOk w K M nt tmps e) (he : Ext w K M.H w' K' M'.H) : FrOk w' K' M' nt tmps e :=
 ⟨h.size, fun t => (h.rep t).ext he (h.cl t), fun t => (h.cl t).mono he.len⟩
theorem get_cons (d : Nat) (v : VV) (e : Env) (t : Nat) : get ((d, v) :: e) t = if t = d then v else get e t := by
 simp only [get]
 by_cases h : t = d
 ·subst h
  simp
 ·have : Nat.beq t d = false := by
   cases hb : Nat.beq t d with
   | false => rfl
   | true => exact absurd (Nat.eq_of_beq_eq_true hb) h
  simp [h, this]
theorem FrOk.put {w : World} {K : Nat → Option Nat} {M : Mem} {nt d : Nat} {tmps : Array Value} {e : Env} {rv : Value} {v : VV} (h : FrOk w K M nt tmps e) (hd : d < nt) (hr : RepV w K M.H rv v) (hc : Cl M.H.length v) :
  FrOk w K M nt (tmps.setIfInBounds d rv) ((d, v) :: e) := by
 refine ⟨by simp [h.size], fun t => ?_, fun t => ?_⟩
 ·rw [get_cons]
  by_cases ht : t = d
  ·subst ht
   have : t < tmps.size := by rw [h.size]; exact hd
   simpa [Array.getElem?_setIfInBounds_self_of_lt, this] using hr
  ·rw [if_neg ht]
   have := h.rep t
   simpa [Array.getElem?_setIfInBounds_ne (Ne.symm ht)] using this
 ·rw [get_cons]
  by_cases ht : t = d
  ·rw [if_pos ht]; exact hc
  ·rw [if_neg ht]; exact h.cl t
theorem FrOk.ev {w : World} {K : Nat → Option Nat} {M : Mem} {nt : Nat} {a : Act} {e : Env} (h : FrOk w K M nt a.tmps e) (x : Operand) : RepV w K M.H (a.eval x) (ev e x) ∧ Cl M.H.length (ev e x) := by
 cases x with
 | tmp t => exact ⟨h.rep t, h.cl t⟩
 | const v => exact ⟨ofValue_ok v, ofValue_cl _ v⟩
 | global g => exact ⟨.any _, cl_any _⟩
 | func f => exact ⟨.fn _ #[] #[] [] [] rfl rfl (by simp) (by simp), fun r hr => by simp [Vm.ev, refs, refsL] at hr⟩

section
variable (P : Program) (T : Tab)

def Post (G : Ghost) (w : World) (K : Nat → Option Nat) (M : Mem) (Q : VV → Mem → Prop) (e : Ending) (w' : World) : Prop :=
 ∃ rv r K' M', e = .returned rv ∧ Q r M' ∧ RepV w' K' M'.H rv r ∧ Cl M'.H.length r ∧ Ext w K M.H w' K' M'.H ∧ Inv G w' K' M'
def Enters (w : World) : Next → (Ending → World → Prop) → Prop
 | .enter f args, R => CallsIn Fence.wide 0 P f args w R
 | .round l f tmps assign body, R => RoundIn Fence.wide 0 P l f tmps assign body w R
 | _, _ => False
structure ArgsOk (w : World) (K : Nat → Option Nat) (M : Mem) (rargs : Array Value) (args : List VV) : Prop where
 rep : PW (RepV w K M.H) rargs.toList args
 cl : ∀ a ∈ args, Cl M.H.length a
def VC (f : Nat) (args : List VV) (M : Mem) (Q : VV → Mem → Prop) : Prop :=
 ∀ (G : Ghost) (w : World) (K : Nat → Option Nat) (rargs : Array Value), Inv G w K M → ArgsOk w K M rargs args → CallsIn Fence.wide 0 P f rargs w (Post G w K M Q)
def VCall (fv : VV) (args : List VV) (M : Mem) (Q : VV → Mem → Prop) : Prop :=
 ∀ (G : Ghost) (w : World) (K : Nat → Option Nat) (rf : Value) (rargs : Array Value), Inv G w K M → RepV w K M.H rf fv → Cl M.H.length fv → ArgsOk w K M rargs args →
  ∃ nx, (do let d ← Deferred.ofValue rf rargs; invoke d.target d.args : Sem Next).run P w = .ok nx w ∧ Enters P w nx (Post G w K M Q)

variable {P T}
theorem Post.mono {G : Ghost} {w : World} {K : Nat → Option Nat} {M : Mem} {Q Q' : VV → Mem → Prop} (h : ∀ r M', Q r M' → Q' r M') {e : Ending} {w' : World} (hp : Post G w K M Q e w') : Post G w K M Q' e w' := by
 obtain ⟨rv, r, K', M', h1, h2, h3⟩ := hp
 exact ⟨rv, r, K', M', h1, h _ _ h2, h3⟩
theorem VC.mono {f : Nat} {args : List VV} {M : Mem} {Q Q' : VV → Mem → Prop} (hv : VC P f args M Q) (h : ∀ r M', Q r M' → Q' r M') : VC P f args M Q' :=
 fun G w K rargs hI ha => (hv G w K rargs hI ha).mono fun _ _ => Post.mono h
theorem Enters.mono {w : World} {nx : Next} {R R' : Ending → World → Prop} (h : Enters P w nx R) (hr : ∀ e w', R e w' → R' e w') : Enters P w nx R' := by
 cases nx <;> first | exact CallsIn.mono h hr | exact RoundIn.mono h hr | exact h.elim
theorem VCall.mono {fv : VV} {args : List VV} {M : Mem} {Q Q' : VV → Mem → Prop} (hv : VCall P fv args M Q) (h : ∀ r M', Q r M' → Q' r M') : VCall P fv args M Q' := fun G w K rf rargs hI hf hc ha => by
 obtain ⟨nx, h1, h2⟩ := hv G w K rf rargs hI hf hc ha
 exact ⟨nx, h1, h2.mono fun _ _ => Post.mono h⟩

def sarg (T : Tab) (f : Nat) (v : VV) : VV := bif T.keeps f then v else strip1 v
theorem sarg_ok {w : World} {K : Nat → Option Nat} {H : List VObj} {f : Nat} {v : Value} {x : VV} (h : RepV w K H v x) : RepV w K H v (sarg T f x) := by
 unfold sarg
 cases T.keeps f with
 | true => exact h
 | false => exact strip1_ok h
theorem sarg_cl {n f : Nat} {x : VV} (h : Cl n x) : Cl n (sarg T f x) := by
 unfold sarg
 cases T.keeps f with
 | true => exact h
 | false => exact strip1_cl h
theorem VCall_fn (hT : TabOk P T) {f : Nat} {fn : Func} {first caps args : List VV} {M : Mem} {Q : VV → Mem → Prop} (hf : T.fn f = some fn) (h : VC P f ((first ++ args ++ caps).map (sarg T f)) M Q) : VCall P (.fn (.func f) first caps) args M Q := by
 intro G w K rf rargs hI hrf hcf ha
 obtain ⟨hfn, hname, hbody⟩ := hT.fn f fn hf
 cases hrf with
 | fn _ us vs _ _ h1 h2 h3 h4 =>
  refine ⟨.enter f (us ++ rargs ++ vs), ?_, ?_⟩
  ·have hname' : fn.name ≠ "runtime.NumGoroutine" := by simpa using hname
   have hbody' : fn.body ≠ none := by intro h; simp [h] at hbody
   simp [Deferred.ofValue, invoke, callFunc, program, Sem.run, hfn, hname', hbody']
  ·refine h G w K _ hI ⟨?_, fun a hh => ?_⟩
   ·have p : PW (RepV w K M.H) (us ++ rargs ++ vs).toList (first ++ args ++ caps) := by
     simp only [Array.toList_append]
     exact ((PW.of_arr h1 h3).append ha.rep).append (PW.of_arr h2 h4)
    refine ⟨by simpa using p.1, fun i a b hx hy => ?_⟩
    rw [List.getElem?_map] at hy
    obtain ⟨c, hc, rfl⟩ := Option.map_eq_some_iff.1 hy
    exact sarg_ok (p.2 i a c hx hc)
   ·obtain ⟨c, hc, rfl⟩ := List.mem_map.1 hh
    refine sarg_cl ?_
    rcases List.mem_append.1 hc with hc | hc
    ·rcases List.mem_append.1 hc with hc | hc
     ·exact fun r hr => hcf r (by simp only [refs, List.mem_append]; exact .inl (mem_refsL.2 ⟨c, hc, hr⟩))
     ·exact ha.cl c hc
    ·exact fun r hr => hcf r (by simp only [refs, List.mem_append]; exact .inr (mem_refsL.2 ⟨c, hc, hr⟩))
end

section
variable (P : Program) (T : Tab)
def vput (nt : Nat) (dst : Option Nat) (v : VV) (e : Env) : Option Env :=
 match dst with
 | none => some e
 | some d => bif Nat.blt d nt then some ((d, v) :: e) else none
def vwanted (all : Array Oper) (o : Oper) (e : Env) : Option Bool :=
 match o.guard with
 | none => some true
 | some (j, want) =>
  match (all[j]?).bind (·.dst) with
  | some d => match get e d with
   | .p (.bool b) => some (b == want)
   | .tup [] => some false
   | _ => none
  | none => none
def WOp (o : Oper) (e : Env) (M : Mem) (Q : VV → Mem → Prop) : Prop :=
 match o.op with
 | .call { callee := .value f, args, .. } => VCall P (ev e f) (args.toList.map (ev e)) M Q
 | op => match vop T op (ev e) M with
  | some (v, M') => Q v M'
  | none => False
def WOps (nt : Nat) (all : Array Oper) : List Oper → Env → Mem → (Env → Mem → Prop) → Prop
 | [], e, M, Kn => Kn e M
 | o :: r, e, M, Kn =>
  match vwanted all o e with
  | none => False
  | some b => (b = true → WOp P T o e M fun v M' => match vput nt o.dst v e with
    | some e' => WOps nt all r e' M' Kn
    | none => False) ∧
   (b = false → match vput nt o.dst (.tup []) e with
     | some e' => WOps nt all r e' M Kn
     | none => False)
 
variable {P T}
theorem wanted_ok {w : World} {K : Nat → Option Nat} {M : Mem} {nt : Nat} {a : Act} {e : Env} {all : Array Oper} {o : Oper} {b : Bool} (h : FrOk w K M nt a.tmps e) (hw : vwanted all o e = some b) : Region.wanted o (yielded all a.tmps) = b := by
 unfold vwanted at hw
 unfold Region.wanted
 split at hw
 ·rename_i hg
  cases hw
  simp [hg]
 ·rename_i j want hg
  simp only [hg]
  split at hw
  ·rename_i d hd
   have hr := h.rep d
   unfold yielded
   rw [hd]
   simp only [Option.bind_some]
   split at hw
   ·rename_i b' hb
    cases hw
    rw [hb] at hr
    have := rep_bool hr
    cases hx : a.tmps[d]? with
    | none => simp [hx, undef] at this
    | some x =>
     simp [hx] at this
     subst this
     simp
   ·rename_i hb
    cases hw
    rw [hb] at hr
    generalize hu : a.tmps.getD d undef = u at hr
    cases hr with
    | tup vs _ hs _ =>
     cases hx : a.tmps[d]? with
     | none => simp
     | some x =>
      simp [hx] at hu
      subst hu
      simp
   ·cases hw
  ·cases hw
theorem put_ok {w : World} {K : Nat → Option Nat} {M : Mem} {nt : Nat} {a : Act} {e e' : Env} {dst : Option Nat} {rv : Value} {v : VV} (h : FrOk w K M nt a.tmps e) (hp : vput nt dst v e = some e') (hr : RepV w K M.H rv v) (hc : Cl M.H.length v) :
  FrOk w K M nt (a.put dst rv).tmps e' ∧ (a.put dst rv).defers = a.defers := by
 unfold vput at hp
 cases dst with
 | none => cases hp; exact ⟨h, rfl⟩
 | some d =>
  simp only at hp
  cases hb : Nat.blt d nt with
  | false => rw [hb] at hp; cases hp
  | true =>
   rw [hb] at hp
   cases hp
   exact ⟨h.put (by simpa [Nat.blt_eq] using hb) hr hc, rfl⟩

theorem wop_ok (hT : TabOk P T) {r : Option Nat} {G : Ghost} {w : World} {K : Nat → Option Nat} {M : Mem} {nt : Nat} {a : Act} {e : Env} {o : Oper} {Qv : VV → Mem → Prop} {next : Act → World → Prop} {Q : Exit → Act → World → Prop}
  (hf : FrOk w K M nt a.tmps e) (hI : Inv G w K M) (h : WOp P T o e M Qv)
  (hn : ∀ rv v w' K' M', Qv v M' → RepV w' K' M'.H rv v → Cl M'.H.length v → Ext w K M.H w' K' M'.H → Inv G w' K' M' → next (a.put o.dst rv) w') : o.wpIn (fence r) 0 P a w next Q := by
 refine ⟨fun _ _ => trivial, ?_⟩
 unfold WOp at h
 split at h
 ·rename_i f args types hop
  rw [Oper.semAt_eq _ _ _ (fun c hc => by rw [hop] at hc; cases hc)]
  have hrun : (execOp a.eval o).run P w = (do let d ← Deferred.ofValue (a.eval f) (args.map a.eval); invoke d.target d.args : Sem Next).run P w := by
   unfold execOp
   simp only [hop, resolve]
  obtain ⟨nx, h1, h2⟩ := h G w K (a.eval f) (args.map a.eval) hI (hf.ev f).1 (hf.ev f).2 ⟨⟨by simp, fun i x y hx hy => by
   simp only [Array.toList_map, List.getElem?_map] at hx hy
   obtain ⟨z, hz, rfl⟩ := Option.map_eq_some_iff.1 hx
   rw [hz] at hy
   cases hy
   exact (hf.ev z).1⟩, fun x hx => by obtain ⟨z, _, rfl⟩ := List.mem_map.1 hx; exact (hf.ev z).2⟩
  rw [hrun, h1]
  cases nx <;> first | exact h2.elim | skip
  ·refine ⟨by simp [fence, Fence.wide], ?_⟩
   refine CallsIn.mono (show CallsIn (fence r) 0 P _ _ w _ from h2) ?_
   rintro e w' ⟨rv, v, K', M', rfl, hq, h3, h4, h5, h6⟩
   exact hn rv v w' K' M' hq h3 h4 h5 h6
  ·refine ⟨by simp [fence, Fence.wide], ?_⟩
   refine RoundIn.mono (show RoundIn (fence r) 0 P _ _ _ _ _ w _ from h2) ?_
   rintro e w' ⟨rv, v, K', M', rfl, hq, h3, h4, h5, h6⟩
   exact hn rv v w' K' M' hq h3 h4 h5 h6
 ·rename_i hnc
  split at h
  ·rename_i v M' hv
   rw [Oper.semAt_eq _ _ _ (fun c hc => by rw [hc] at hv; simp [vop] at hv)]
   obtain ⟨nx, rv, w', K', h1, h2, h3, h4, h5, h6⟩ := vop_ok (o := o) hT hI (fun x => (hf.ev x).1) (fun x => (hf.ev x).2) rfl hv
   rw [h1]
   rcases h2 with rfl | ⟨rfl, rfl⟩
   ·exact hn rv v w' K' M' h h3 h4 h5 h6
   ·exact hn undef v w' K' M' h h3 h4 h5 h6
  ·cases h

theorem wops_ok (hT : TabOk P T) {r : Option Nat} {nt : Nat} {all : Array Oper} {G : Ghost} {Q : Exit → Act → World → Prop} : ∀ (ops : List Oper) (i0 : Nat) (w : World) (K : Nat → Option Nat) (M : Mem) (a : Act) (e : Env) (Kn : Env → Mem → Prop), (∀ j, ops[j]? = all[i0 + j]?) →
  FrOk w K M nt a.tmps e → Inv G w K M → WOps P T nt all ops e M Kn →
  (∀ e' M' a' w' K', Kn e' M' → FrOk w' K' M' nt a'.tmps e' → a'.defers = a.defers → Inv G w' K' M' → Ext w K M.H w' K' M'.H → Q .normal a' w') → wpOpsIn (fence r) 0 P all Q (List.range' i0 ops.length) a w
 | [], i0, w, K, M, a, e, Kn, _, hf, hI, h, hk => hk e M a w K h hf rfl hI (Ext.refl _ _ _)
 | o :: ops, i0, w, K, M, a, e, Kn, hops, hf, hI, h, hk => by
  have ho : all[i0]? = some o := by simpa using (hops 0).symm
  have hrest : ∀ j, ops[j]? = all[i0 + 1 + j]? := fun j => by
   have := hops (j + 1)
   simpa [Nat.add_assoc, Nat.add_comm 1 j] using this
  simp only [WOps] at h
  simp only [List.length_cons, List.range'_succ, wpOpsIn, ho]
  cases hwt : vwanted all o e with
  | none => rw [hwt] at h; cases h
  | some b =>
   rw [hwt] at h
   rw [wanted_ok hf hwt]
   cases b with
   | true =>
    simp only [if_true]
    refine wop_ok hT hf hI (h.1 rfl) fun rv v w' K' M' hq hr hc hE hI' => ?_
    split at hq
    ·rename_i e' he'
     obtain ⟨hf', hd⟩ := put_ok (hf.ext hE) he' hr hc
     exact wops_ok hT ops (i0 + 1) w' K' M' _ e' Kn hrest hf' hI' hq fun e2 M2 a2 w2 K2 h1 h2 h3 h4 h5 => hk e2 M2 a2 w2 K2 h1 h2 (h3.trans hd) h4 (hE.trans h5)
    ·cases hq
   | false =>
    simp only [Bool.false_eq_true, if_false]
    have h2 := h.2 rfl
    refine ⟨fun _ _ => trivial, ?_⟩
    split at h2
    ·rename_i e' he'
     obtain ⟨hf', hd⟩ := put_ok (rv := undef) hf he' undef_rep (undef_cl _)
     exact wops_ok hT ops (i0 + 1) w K M _ e' Kn hrest hf' hI h2 fun e2 M2 a2 w2 K2 h1 h2 h3 h4 h5 => hk e2 M2 a2 w2 K2 h1 h2 (h3.trans hd) h4 h5
    ·cases h2
end
end Go.Proofs.YtnjgdlmddlinaaaDoor.Vm

/- A machine on values: code. -/
namespace Go.Proofs.YtnjgdlmddlinaaaDoor.Vm
open Go

structure Cx where
 fid : Nat
 rd : Option Nat
 nt : Nat
abbrev PQ := Exit → Env → Mem → List Nat → Prop
structure StOk (cx : Cx) (G : Ghost) (w : World) (K : Nat → Option Nat) (M : Mem) (a : Act) (e : Env) (D : List Nat) : Prop where
 fr : FrOk w K M cx.nt a.tmps e
 df : PW (fun (d : Deferred) (id : Nat) => ∃ b, K id = some b ∧ d = { target := .collected b, args := #[] } ∧ M.H[id]? = some .dfr) a.defers D
 inv : Inv G w K M
 rd : ∀ id, cx.rd = some id → ∃ L, M.H[id]? = some (.lp L)
def OkEx : Exit → Prop
 | .normal | .ret | .exit _ => True
 | _ => False
def prune (vs : List Nat) (e : Env) : Env := vs.map fun t => (t, get e t)

section
variable {w w' : World} {K K' : Nat → Option Nat} {M M' : Mem}
theorem Ext.dfr (he : Ext w K M.H w' K' M'.H) {id : Nat} (h : M.H[id]? = some .dfr) : M'.H[id]? = some .dfr ∧ K' id = K id := by
 obtain ⟨o', ho, hl⟩ := he.obj id _ h
 obtain ⟨rfl, hk⟩ := hl
 exact ⟨ho, hk⟩
theorem Ext.lp (he : Ext w K M.H w' K' M'.H) {id : Nat} {L : LoopV} (h : M.H[id]? = some (.lp L)) : (∃ L', M'.H[id]? = some (.lp L')) ∧ K' id = K id := by
 obtain ⟨o', ho, hl⟩ := he.obj id _ h
 obtain ⟨⟨L', rfl⟩, hk⟩ := hl
 exact ⟨⟨L', ho⟩, hk⟩
theorem df_ext {ds : List Deferred} {D : List Nat} (he : Ext w K M.H w' K' M'.H) (h : PW (fun (d : Deferred) (id : Nat) => ∃ b, K id = some b ∧ d = { target := .collected b, args := #[] } ∧ M.H[id]? = some .dfr) ds D) :
  PW (fun (d : Deferred) (id : Nat) => ∃ b, K' id = some b ∧ d = { target := .collected b, args := #[] } ∧ M'.H[id]? = some .dfr) ds D :=
 ⟨h.1, fun i a b ha hb => by
  obtain ⟨x, h1, h2, h3⟩ := h.2 i a b ha hb
  obtain ⟨h4, h5⟩ := he.dfr h3
  exact ⟨x, h5.trans h1, h2, h4⟩⟩
theorem rd_ext {cx : Cx} (he : Ext w K M.H w' K' M'.H) (h : ∀ id, cx.rd = some id → ∃ L, M.H[id]? = some (.lp L)) : (∀ id, cx.rd = some id → ∃ L, M'.H[id]? = some (.lp L)) ∧ cx.rd.bind K' = cx.rd.bind K := by
 refine ⟨fun id hid => ?_, ?_⟩
 ·obtain ⟨L, hL⟩ := h id hid
  exact (he.lp hL).1
 ·cases hr : cx.rd with
  | none => rfl
  | some id =>
   obtain ⟨L, hL⟩ := h id hr
   exact (he.lp hL).2
end
theorem get_prune (vs : List Nat) (e : Env) (t : Nat) : get (prune vs e) t = get e t ∨ get (prune vs e) t = .any := by
 unfold prune
 induction vs with
 | nil => exact .inr rfl
 | cons v vs ih =>
  simp only [List.map_cons, get_cons]
  by_cases h : t = v
  ·rw [if_pos h, h]; exact .inl rfl
  ·rw [if_neg h]; exact ih
theorem FrOk.weak {w : World} {K : Nat → Option Nat} {M : Mem} {nt : Nat} {tmps : Array Value} {e e' : Env} (h : FrOk w K M nt tmps e) (hw : ∀ t, get e' t = get e t ∨ get e' t = .any) : FrOk w K M nt tmps e' :=
 ⟨h.size, fun t => by rcases hw t with h1 | h1 <;> rw [h1]; exact h.rep t; exact .any _, fun t => by rcases hw t with h1 | h1 <;> rw [h1]; exact h.cl t; exact cl_any _⟩

theorem least {p : Nat → Prop} (h : ∃ n, p n) : ∃ n, p n ∧ ∀ m, p m → n ≤ m := by
 obtain ⟨n, hn⟩ := h
 induction n using Nat.strongRecOn with
 | _ n ih =>
  by_cases hm : ∃ m, m < n ∧ p m
  ·obtain ⟨m, hlt, hpm⟩ := hm
   exact ih m hlt hpm
  ·exact ⟨n, hn, fun m hpm => Nat.le_of_not_lt fun hlt => hm ⟨m, hlt, hpm⟩⟩
open Classical in
noncomputable def leastOf (p : Nat → Prop) : Nat := if h : ∃ n, p n then (least h).choose else 0
theorem leastOf_spec {p : Nat → Prop} {n : Nat} (h : p n) : p (leastOf p) ∧ leastOf p ≤ n := by
 have hx : ∃ n, p n := ⟨n, h⟩
 unfold leastOf
 rw [dif_pos hx]
 exact ⟨(least hx).choose_spec.1, (least hx).choose_spec.2 n h⟩

section
variable (P : Program) (T : Tab)
def WPost (cx : Cx) (G : Ghost) (w : World) (K : Nat → Option Nat) (M : Mem) (Q : PQ) (ex : Exit) (a' : Act) (w' : World) : Prop :=
 ∃ e' M' K' D', Q ex e' M' D' ∧ OkEx ex ∧ StOk cx G w' K' M' a' e' D' ∧ Ext w K M.H w' K' M'.H
def WCode (cx : Cx) (c : Code) (e : Env) (M : Mem) (D : List Nat) (Q : PQ) : Prop :=
 ∀ (G : Ghost) (w : World) (K : Nat → Option Nat) (a : Act), StOk cx G w K M a e D → c.wpIn (fence (cx.rd.bind K)) 0 P (WPost cx G w K M Q) a w
def thenQ (Kn : Env → Mem → List Nat → Prop) (Q : PQ) : PQ
 | .normal, e, M, D => Kn e M D
 | ex, e, M, D => Q ex e M D
def blockQ (id : Nat) (Q : PQ) : PQ
 | .exit id', e, M, D => if id' = id then Q .normal e M D else Q (.exit id') e M D
 | ex, e, M, D => Q ex e M D

variable {P T}
variable {cx : Cx} {e : Env} {M : Mem} {D : List Nat} {Q : PQ}
theorem WCode.mono {c : Code} {Q' : PQ} (h : WCode P cx c e M D Q) (hq : ∀ ex e M D, Q ex e M D → Q' ex e M D) : WCode P cx c e M D Q' := fun G w K a hs =>
 wpIn_mono (h G w K a hs) fun ex a' w' ⟨e', M', K', D', h1, h2⟩ => ⟨e', M', K', D', hq _ _ _ _ h1, h2⟩
theorem WCode.weak {c : Code} {e' : Env} (h : WCode P cx c e' M D Q) (hw : ∀ t, get e' t = get e t ∨ get e' t = .any) : WCode P cx c e M D Q := fun G w K a hs =>
 h G w K a ⟨hs.fr.weak hw, hs.df, hs.inv, hs.rd⟩
theorem W_skip (h : Q .normal e M D) : WCode P cx .skip e M D Q := fun G w K a hs => wpIn_skip ⟨e, M, K, D, h, trivial, hs, Ext.refl _ _ _⟩
theorem W_exit {id : Nat} (h : Q (.exit id) e M D) : WCode P cx (.exit id) e M D Q := fun G w K a hs => wpIn_exit ⟨e, M, K, D, h, trivial, hs, Ext.refl _ _ _⟩
theorem W_ret (h : Q .ret e M D) : WCode P cx .ret e M D Q := fun G w K a hs => wpIn_ret ⟨e, M, K, D, h, trivial, hs, Ext.refl _ _ _⟩
theorem W_seq {x y : Code} (h : WCode P cx x e M D (thenQ (fun e' M' D' => WCode P cx y e' M' D' Q) Q)) : WCode P cx (.seq x y) e M D Q := by
 intro G w K a hs
 refine wpIn_seq (wpIn_mono (h G w K a hs) ?_)
 rintro ex a' w' ⟨e', M', K', D', h1, h2, h3, h4⟩
 cases ex with
 | normal =>
  have hy : WCode P cx y e' M' D' Q := h1
  have := hy G w' K' a' h3
  rw [(rd_ext h4 hs.rd).2] at this
  exact wpIn_mono this fun ex a2 w2 ⟨e2, M2, K2, D2, q1, q2, q3, q4⟩ => ⟨e2, M2, K2, D2, q1, q2, q3, h4.trans q4⟩
 | ret => exact ⟨e', M', K', D', h1, h2, h3, h4⟩
 | exit id => exact ⟨e', M', K', D', h1, h2, h3, h4⟩
 | _ => exact h2.elim
theorem W_cond {c : Operand} {x y : Code} {b : Bool} (hb : ev e c = .p (.bool b)) (hx : b = true → WCode P cx x e M D Q) (hy : b = false → WCode P cx y e M D Q) : WCode P cx (.cond c x y) e M D Q := by
 intro G w K a hs
 have := (hs.fr.ev c).1
 rw [hb] at this
 have := rep_bool this
 cases b with
 | true => exact wpIn_cond_true this (hx rfl G w K a hs)
 | false => exact wpIn_cond_false this (hy rfl G w K a hs)
theorem W_block {id : Nat} {c : Code} (h : WCode P cx c e M D (blockQ id Q)) : WCode P cx (.block id c) e M D Q := by
 intro G w K a hs
 refine wpIn_block (wpIn_mono (h G w K a hs) ?_)
 rintro ex a' w' ⟨e', M', K', D', h1, h2, h3, h4⟩
 cases ex with
 | exit id' =>
  simp only [blockQ] at h1
  simp only [Exit.inBlock]
  by_cases hid : id' = id
  ·rw [if_pos hid] at h1 ⊢
   exact ⟨e', M', K', D', h1, trivial, h3, h4⟩
  ·rw [if_neg hid] at h1 ⊢
   exact ⟨e', M', K', D', h1, trivial, h3, h4⟩
 | normal => exact ⟨e', M', K', D', h1, h2, h3, h4⟩
 | ret => exact ⟨e', M', K', D', h1, h2, h3, h4⟩
 | _ => exact h2.elim
theorem W_loop {c : Code} (I : Nat → Env → Mem → List Nat → Prop) {n : Nat} (h0 : I n e M D)
  (round : ∀ n e M D, I n e M D → WCode P cx c e M D (thenQ (fun e' M' D' => ∃ n', n' < n ∧ I n' e' M' D') Q)) : WCode P cx (.loop c) e M D Q := by
 intro G w K a hs
 let J : Nat → Act → World → Prop := fun n a' w' => ∃ e' M' K' D', I n e' M' D' ∧ StOk cx G w' K' M' a' e' D' ∧ Ext w K M.H w' K' M'.H
 refine wpIn_loop (fun a' w' => ∃ n, J n a' w') (fun a' w' => leastOf fun n => J n a' w') ⟨n, e, M, K, D, h0, hs, Ext.refl _ _ _⟩ ?_
 rintro a1 w1 ⟨n1, hn1⟩
 obtain ⟨⟨e', M', K', D', h1, h2, h3⟩, _⟩ := leastOf_spec (p := fun n => J n a1 w1) hn1
 have hr := round _ e' M' D' h1 G w1 K' a1 h2
 rw [(rd_ext h3 hs.rd).2] at hr
 refine wpIn_mono hr ?_
 rintro ex a2 w2 ⟨e2, M2, K2, D2, q1, q2, q3, q4⟩
 cases ex with
 | normal =>
  obtain ⟨n', hlt, hI'⟩ := q1
  have hJ : J n' a2 w2 := ⟨e2, M2, K2, D2, hI', q3, h3.trans q4⟩
  exact ⟨⟨n', hJ⟩, Nat.lt_of_le_of_lt (leastOf_spec (p := fun n => J n a2 w2) hJ).2 hlt⟩
 | ret => exact ⟨e2, M2, K2, D2, q1, q2, q3, h3.trans q4⟩
 | exit id => exact ⟨e2, M2, K2, D2, q1, q2, q3, h3.trans q4⟩
 | _ => exact q2.elim
theorem W_region_g (hT : TabOk P T) {id : Nat} {ops : Array Oper} {f : Env → Env} (hf : ∀ e t, get (f e) t = get e t ∨ get (f e) t = .any) (h : WOps P T cx.nt ops ops.toList e M fun e' M' => Q .normal (f e') M' D) : WCode P cx (.region id ops false) e M D Q := by
 intro G w K a hs
 refine wpIn_region ?_
 have := wops_ok hT (r := cx.rd.bind K) (Q := WPost cx G w K M Q) ops.toList 0 w K M a e _ (fun j => by simp) hs.fr hs.inv h fun e' M' a' w' K' h1 h2 h3 h4 h5 =>
  ⟨f e', M', K', D, h1, trivial, ⟨h2.weak (hf e'), by rw [h3]; exact df_ext h5 hs.df, h4, (rd_ext h5 hs.rd).1⟩, h5⟩
 rw [List.range_eq_range']
 simpa using this
theorem W_region0 (hT : TabOk P T) {id : Nat} {ops : Array Oper} (h : WOps P T cx.nt ops ops.toList e M fun e' M' => Q .normal e' M' D) : WCode P cx (.region id ops false) e M D Q := W_region_g (f := fun e => e) hT (fun _ _ => .inl rfl) h
end
end Go.Proofs.YtnjgdlmddlinaaaDoor.Vm
