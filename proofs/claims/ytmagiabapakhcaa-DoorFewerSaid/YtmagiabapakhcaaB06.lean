/- A part of the proofs about the chapter of the doors; it states no condition of its own. -/
import Derived.Test.YtmagiabapakhcaaB05
set_option linter.unusedVariables false
set_option linter.unusedSimpArgs false
/- A machine on values: its operations are true, part 3: append. -/
namespace Go.Proofs.Ytmagiabapakhcaa.Vm
open Go
section
variable {P : Program} {T : Tab} {G : Ghost} {w : World} {K : Nat → Option Nat} {M M' : Mem} {H : List VObj}

theorem elemsOf_rep {v : Value} {x : VV} {k : Nat} {xs : List (List PV)} (h : RepV w K H v x) (he : elemsOf x = some (k, xs)) : RepP w (Im K H) v (.sl k xs) := by
  unfold elemsOf at he
  cases h with
  | p v x h => cases x <;> simp at he; obtain ⟨rfl, rfl⟩ := he; exact h
  | so v id k xs h ht => simp at he; obtain ⟨rfl, rfl⟩ := he; exact h
  | sf A k xs h => simp at he; obtain ⟨rfl, rfl⟩ := he; exact h
  | _ => cases he
theorem run_zero {t ty e k : Nat} {n c c2 : Nat} {A A2 : Option Addr} {i : TypeInfo} (ht : P.underlying t = some (.slice e)) (hi : P.info? e = some i) (hn : n ≤ c) :
    (Builtin.append_ #[t, t] ty #[.slice A n c, .slice A2 0 c2]).run P w = .ok (.slice A n c) w := by
  cases A <;> cases A2 <;> simp [Builtin.append_, run_underlying ht, sizeOf, typeInfo, hi, Builtin.lenOf, Builtin.firstCells, loadCells, loadCellsFrom, hn, storeCells]
theorem nil_of_none {I : Nat → Nat → Prop} {A : Option Addr} {n c k : Nat} {xs : List (List PV)} (h : RepP w I (.slice A n c) (.sl k xs)) : n = xs.length ∧ n ≤ c ∧ (A = none → xs = []) := by
  cases h with
  | sl _ _ _ b off _ f hc hm hk hA hi hw hr =>
    refine ⟨rfl, hc, fun h => ?_⟩
    cases xs with
    | nil => rfl
    | cons x xs =>
      have := hA (by simp)
      rw [h] at this
      cases this
theorem alloc_calm (w : World) (o : Obj) : Calm w (w.drew.alloc o) := ⟨rfl, rfl, rfl, by show w.heap.size ≤ (w.heap.push o).size; simp⟩
theorem repP_isOne {I : Nat → Nat → Prop} {v : Value} {u : PV} (h : RepP w I v u) : isOne v = true := by
  cases h <;> rfl
theorem flat_len {ke : Nat} : ∀ {ys : List (List PV)}, (∀ x ∈ ys, x.length = ke) → ys.flatten.length = ys.length * ke
  | [], _ => by simp
  | x :: ys, h => by
    rw [List.flatten_cons, List.length_append, h x (List.mem_cons_self ..), flat_len fun y hy => h y (List.mem_cons_of_mem _ hy), List.length_cons, Nat.succ_mul, Nat.add_comm]
theorem flat_at {ke : Nat} : ∀ {ys : List (List PV)}, (∀ x ∈ ys, x.length = ke) → ∀ {i : Nat} {u : PV}, ys.flatten[i]? = some u → ∃ q x j, ys[q]? = some x ∧ x[j]? = some u ∧ i = q * ke + j
  | [], _, i, u, h => by simp at h
  | x :: ys, hk, i, u, h => by
    rw [List.flatten_cons] at h
    have hx := hk x (List.mem_cons_self ..)
    rcases Nat.lt_or_ge i x.length with h1 | h1
    · rw [List.getElem?_append_left h1] at h
      exact ⟨0, x, i, rfl, h, by simp⟩
    · rw [List.getElem?_append_right h1] at h
      obtain ⟨q, y, j, a, b, c⟩ := flat_at (fun y hy => hk y (List.mem_cons_of_mem _ hy)) h
      exact ⟨q + 1, y, j, a, b, by rw [Nat.succ_mul]; omega⟩
theorem cl_sv (n ke : Nat) {ys : List (List PV)} : Cl n (.sv ke (ys.map (List.map .p))) := fun r hr => by
  simp only [refs] at hr
  obtain ⟨x, hx, hr⟩ := mem_refsLL.1 hr
  obtain ⟨y, _, rfl⟩ := List.mem_map.1 hx
  obtain ⟨u, hu, hr⟩ := mem_refsL.1 hr
  obtain ⟨q, _, rfl⟩ := List.mem_map.1 hu
  simp [refs] at hr
theorem vappend_ok (hT : TabOk P T) (hI : Inv G w K M) {t ty : Nat} {s x v : VV} {rs rx : Value} (h : vappend T t s x M = some (v, M')) (hs : RepV w K M.H rs s) (hx : RepV w K M.H rx x) (hcs : Cl M.H.length s) (hcx : Cl M.H.length x) :
    ∃ rv w' K', (Builtin.append_ #[t, t] ty #[rs, rx]).run P w = .ok rv w' ∧ RepV w' K' M'.H rv v ∧ Cl M'.H.length v ∧ Ext w K M.H w' K' M'.H ∧ Inv G w' K' M' := by
  unfold vappend at h
  cases hy : T.ty t with
  | none => rw [hy] at h; cases h
  | some y =>
    have hY := hT.ty t y hy
    obtain ⟨d, size, zero, agg, cmp⟩ := y
    rw [hy] at h
    cases d with
    | slice e ke be =>
      have hd := hY.d
      simp only at hd
      cases he : elemsOf x with
      | none =>
        rw [he] at h
        simp only at h
        split at h
        case h_2 => cases h
        rename_i k ys
        cases ho : T.own t with
        | false =>
          rw [ho] at h
          simp only [cond_false] at h
          exact vappendV_ok hI hd h hs hx hcs hcx
        | true =>
          rw [ho] at h
          simp only [cond_true] at h
          cases hk1 : Nat.beq k ke with
          | false => rw [hk1] at h; cases h
          | true =>
            rw [hk1] at h
            obtain rfl := Nat.eq_of_beq_eq_true hk1
            exact vgrow_ok hI hd h hs hx hcx
      | some kys =>
        obtain ⟨k, ys⟩ := kys
        rw [he] at h
        simp only at h
        cases hf : fits k ke ys with
        | false => rw [hf] at h; cases h
        | true =>
          rw [hf] at h
          simp only [cond_true] at h
          have hxP := (elemsOf_rep hx he).conv hf
          obtain ⟨hu, i, z, hi, hik, hib, hz, hzs, hk, hbe⟩ := id hd
          cases hs with
          | sf A k' xs hP =>
            simp only at h
            cases hg : (fits k' ke xs && Nat.ble ((xs.length + ys.length) * be) 140737488355328 && (xs.isEmpty || !ys.isEmpty)) with
            | false => rw [hg] at h; cases h
            | true =>
              rw [hg] at h
              simp only [cond_true] at h
              simp only [Bool.and_eq_true] at hg
              obtain ⟨hg, hg3⟩ := hg
              have hP' := hP.conv hg.1
              have hbb : (xs.length + ys.length) * be ≤ 140737488355328 := Nat.le_of_ble_eq_true hg.2
              cases hown : (T.own t && xs.isEmpty) with
              | true =>
                rw [hown] at h
                simp only [cond_true, Option.some.injEq, Prod.mk.injEq] at h
                obtain ⟨rfl, rfl⟩ := h
                simp only [Bool.and_eq_true, List.isEmpty_iff] at hown
                obtain ⟨_, rfl⟩ := hown
                have hnc : ∀ (H : List VObj) (o : VObj), (∀ m k, o ≠ .clm m k) → ∀ m k, (H ++ [o])[H.length]? ≠ some (.clm m k) := fun H o ho m k e => by
                  simp at e
                  exact ho m k e
                by_cases hys : ys = []
                · subst hys
                  obtain ⟨A2, c2, _, e2, _⟩ := sl_flat hxP hk
                  subst e2
                  have hrun := run_zero (P := P) (w := w) (t := t) (ty := ty) (k := ke) (n := ([] : List (List PV)).length) (c := ([] : List (List PV)).length) (c2 := c2) (A := A) (A2 := A2) hu hi (Nat.le_refl _)
                  obtain ⟨hE, hI'⟩ := step_new hI (Calm.refl w) (fun b _ => rfl) (.obj []) none (by simp) (by simp [contents]) (fun _ => by intro b hb; cases hb)
                  refine ⟨_, w, _, hrun, .bf M.H.length 0 0 ke 0 0 A (fun h => absurd rfl h) (hnc _ _ (fun _ _ e => VObj.noConfusion e)) (Nat.le_refl _) (Nat.zero_le _) (fun h => absurd rfl h) (fun h => absurd rfl h), ?_, hE, hI'⟩
                  intro r hr
                  simp [refs] at hr
                  simp [Mem.push, hr]
                · obtain ⟨cap, vs, hrun, h1, h2, h3, h4, h5⟩ := run_grow (P := P) (ty := ty) hd hP' hxP (fun hA => by
                      have := (nil_of_none hP').2.2 hA
                      simp [this]) hys (by have := List.length_pos_iff.2 hys; simp; omega) hbb
                  have hb1 : ∀ b, b < w.heap.size → (w.drew.alloc (.cells vs e)).heap[b]? = w.heap[b]? := fun b hb => heap_alloc_old w.drew (.cells vs e) b hb
                  have hnew : (w.drew.alloc (.cells vs e)).heap[w.heap.size]? = some (.cells vs e (0, 0)) := heap_alloc_new w.drew (.cells vs e)
                  have hall : ∀ x ∈ ys, x.length = ke := fun x hx => h4 x (by simpa using hx)
                  have hfl : ys.flatten.length = ys.length * ke := flat_len hall
                  simp only [List.length_nil, Nat.zero_add] at h1
                  have hfit : ys.length * ke ≤ vs.size := by rw [h3]; exact Nat.mul_le_mul_right _ h1
                  obtain ⟨hE, hI'⟩ := step_new hI (alloc_calm w (.cells vs e)) hb1 (.obj (ys.flatten.map .p)) (some w.heap.size) (fun b hb => by cases hb; exact ⟨Nat.le_refl _, by show _ < (w.heap.push _).size; simp⟩) (fun c hc r hr => by
                      simp only [contents, List.mem_map] at hc
                      obtain ⟨u, _, rfl⟩ := hc
                      simp [refs] at hr)
                    (fun hE => by
                      intro b hb
                      cases hb
                      refine ⟨vs, e, hnew, by rw [List.length_map, hfl]; exact hfit, fun i v c hv hc => ?_⟩
                      rw [List.getElem?_map] at hc
                      obtain ⟨u, hu', rfl⟩ := Option.map_eq_some_iff.1 hc
                      obtain ⟨q, x, j, hx, hj, rfl⟩ := flat_at hall hu'
                      obtain ⟨_, r, c2, c3⟩ := h5 q x j u (by simpa using hx) hj
                      have hvr : v = r := by
                        have : vs.toList[q * ke + j]? = some v := by simpa using hv
                        rw [this] at c2
                        cases c2; rfl
                      subst hvr
                      exact ⟨.p _ _ (c3.of_ext hE), repP_isOne c3⟩)
                  simp only [List.length_nil, Nat.zero_add] at hrun
                  refine ⟨_, _, _, hrun, .bf M.H.length 0 ys.length ke w.heap.size cap _ (fun _ => upd_same _ _ _) (hnc _ _ (fun _ _ e => VObj.noConfusion e)) h1 h2 (fun _ => rfl) (fun _ => ⟨vs, e, hnew, by rw [h3]; omega⟩), ?_, hE, hI'⟩
                  intro r hr
                  simp [refs] at hr
                  simp [Mem.push, hr]
              | false =>
              rw [hown] at h
              simp only [cond_false] at h
              cases ho : T.own t with
              | true =>
                rw [ho] at h
                simp only [cond_true] at h
                exact vgrow_ok hI hd h (.sf A _ _ hP) (sv_of_sl hxP) (cl_sv _ _)
              | false =>
              rw [ho] at h
              simp only [cond_false, Option.some.injEq, Prod.mk.injEq] at h
              obtain ⟨rfl, rfl⟩ := h
              by_cases hys : ys = []
              · subst hys
                obtain ⟨A2, c2, _, e2, _⟩ := sl_flat hxP hk
                subst e2
                have hrun := run_zero (P := P) (w := w) (t := t) (ty := ty) (k := ke) (n := xs.length) (c := xs.length) (c2 := c2) (A := A) (A2 := A2) hu hi (Nat.le_refl _)
                obtain ⟨hE, hI'⟩ := step_new hI (Calm.refl w) (fun b _ => rfl) (.clm (xs.length + 0) ke) none (by simp) (by simp [contents]) (fun _ => by intro b hb; cases hb)
                refine ⟨_, w, _, hrun, ?_, ?_, hE, hI'⟩
                · refine .so _ _ _ _ (by have := hP'.of_ext hE; rw [List.append_nil]; exact this) fun m k1 hm => ?_
                  simp only [Mem.push, List.length_append, List.getElem?_append_right (Nat.le_refl _), Nat.sub_self, List.getElem?_cons_zero, Option.some.injEq, VObj.clm.injEq] at hm
                  obtain ⟨rfl, rfl⟩ := hm
                  exact ⟨by simp, fun _ => ⟨rfl, .inr ⟨upd_same _ _ _, by simpa using hg3, A, by simp⟩⟩⟩
                · intro r hr
                  simp [refs] at hr
                  simp [Mem.push, hr]
              · have hpos : 0 < ys.length := List.length_pos_iff.2 hys
                obtain ⟨cap, vs, hrun, h1, h2, h3, h4, h5⟩ := run_grow (P := P) (ty := ty) hd hP' hxP (fun hA => by
                    have := (nil_of_none hP').2.2 hA
                    simp [this]) hys (by omega) hbb
                have hb1 : ∀ b, b < w.heap.size → (w.drew.alloc (.cells vs e)).heap[b]? = w.heap[b]? := fun b hb => heap_alloc_old w.drew (.cells vs e) b hb
                have hnew : (w.drew.alloc (.cells vs e)).heap[w.heap.size]? = some (.cells vs e (0, 0)) := heap_alloc_new w.drew (.cells vs e)
                have hfit : (xs.length + ys.length) * ke ≤ vs.size := by rw [h3]; exact Nat.mul_le_mul_right _ h1
                obtain ⟨hE, hI'⟩ := step_new hI (alloc_calm w (.cells vs e)) hb1 (.clm (xs.length + ys.length) ke) (some w.heap.size) (fun b hb => by cases hb; exact ⟨Nat.le_refl _, by show _ < (w.heap.push _).size; simp⟩) (by simp [contents])
                  (fun _ => by intro b hb; cases hb; exact ⟨vs, e, hnew, hfit⟩)
                refine ⟨_, _, _, hrun, ?_, ?_, hE, hI'⟩
                · have hrow := RepP.row (w := w.drew.alloc (.cells vs e)) (I := Im (upd K M.H.length (some w.heap.size)) (M.H ++ [.clm (xs.length + ys.length) ke])) (g := w.heap.size) (k := ke) (cap := cap) (xs := xs ++ ys) (all := vs.toList) hk hnew h4 (by simpa using h1) h2
                    (fun o ho => by
                      intro i ob hi hKi
                      rcases push_get hi with ⟨a1, a2⟩ | ⟨rfl, rfl⟩
                      · rw [upd_ne K _ (by omega)] at hKi
                        have := (hI.blk i _ a1 hKi).1
                        omega
                      · exact .inr ⟨_, _, rfl, by simpa using ho⟩) (fun o _ => by simp) (fun i x j u a b => by
                      obtain ⟨c1, r, c2, c3⟩ := h5 i x j u a b
                      exact ⟨c1, r, c2, c3.of_ext hE⟩)
                  rw [List.length_append] at hrow
                  refine .so _ _ _ _ hrow fun m k1 hm => ?_
                  simp only [Mem.push, List.length_append, List.getElem?_append_right (Nat.le_refl _), Nat.sub_self, List.getElem?_cons_zero, Option.some.injEq, VObj.clm.injEq] at hm
                  obtain ⟨rfl, rfl⟩ := hm
                  refine ⟨by simp, fun _ => ⟨rfl, .inl ⟨w.heap.size, cap, vs, e, upd_same _ _ _, by simp, hnew, by rw [h3]; exact Nat.le_refl _⟩⟩⟩
                · intro r hr
                  simp [refs] at hr
                  simp [Mem.push, hr]
          | so _ id k' xs hP hTI =>
            simp only at h
            cases hid : M.H[id]? with
            | none => rw [hid] at h; cases h
            | some o =>
              rw [hid] at h
              cases o with
              | clm m k'' =>
                simp only at h
                cases hg : (Nat.beq m xs.length && Nat.beq k'' ke && Nat.beq k' ke && Nat.ble ((xs.length + ys.length) * be) 140737488355328) with
                | false => rw [hg] at h; cases h
                | true =>
                  rw [hg] at h
                  simp only [cond_true, Option.some.injEq, Prod.mk.injEq] at h
                  obtain ⟨rfl, rfl⟩ := h
                  simp only [Bool.and_eq_true] at hg
                  obtain ⟨⟨⟨g1, g2⟩, g3⟩, g4⟩ := hg
                  obtain rfl := Nat.eq_of_beq_eq_true g1
                  obtain rfl := Nat.eq_of_beq_eq_true g2
                  obtain rfl := Nat.eq_of_beq_eq_true g3
                  have hbb : (xs.length + ys.length) * be ≤ 140737488355328 := Nat.le_of_ble_eq_true g4
                  obtain ⟨_, hTI2⟩ := hTI _ _ hid
                  obtain ⟨_, hTI2⟩ := hTI2 rfl
                  have hil := (List.getElem?_eq_some_iff.1 hid).1
                  by_cases hys : ys = []
                  · subst hys
                    obtain ⟨A2, c2, _, e2, _⟩ := sl_flat hxP hk
                    subst e2
                    obtain ⟨A, c, _, e1, hnc, _⟩ := sl_flat hP hk
                    subst e1
                    have hrun := run_zero (P := P) (w := w) (t := t) (ty := ty) (k := k') (n := xs.length) (c := c) (c2 := c2) (A := A) (A2 := A2) hu hi hnc
                    have hset : M.H.set id (.clm (xs.length + ([] : List (List PV)).length) k') = M.H := by
                      apply List.ext_getElem?
                      intro j
                      rw [List.getElem?_set]
                      by_cases e : id = j
                      · subst e
                        rw [if_pos rfl, if_pos hil, hid]
                        rfl
                      · rw [if_neg e]
                    have hM : ({ M with H := M.H.set id (.clm (xs.length + ([] : List (List PV)).length) k') } : Mem) = M := by rw [hset]
                    rw [hM]
                    refine ⟨_, w, K, hrun, ?_, hcs, Ext.refl _ _ _, hI⟩
                    rw [List.append_nil]
                    exact .so _ _ _ _ hP hTI
                  · have hpos : 0 < ys.length := List.length_pos_iff.2 hys
                    have hclm : ∀ (w' : World) (K' : Nat → Option Nat), Cl (M.H.set id (.clm (xs.length + ys.length) k')).length (.so id k' (xs ++ ys)) := fun _ _ r hr => by
                      simp [refs] at hr
                      simp [hr, hil]
                    -- a new block
                    have grow : ∀ (A : Option Addr) (c : Nat), rs = .slice A xs.length c → (A = none → xs.length = 0 ∧ c = 0) → c < xs.length + ys.length →
                        ∃ rv w' K', (Builtin.append_ #[t, t] ty #[rs, rx]).run P w = .ok rv w' ∧ RepV w' K' (M.H.set id (.clm (xs.length + ys.length) k')) rv (.so id k' (xs ++ ys)) ∧
                          Cl (M.H.set id (.clm (xs.length + ys.length) k')).length (.so id k' (xs ++ ys)) ∧ Ext w K M.H w' K' (M.H.set id (.clm (xs.length + ys.length) k')) ∧ Inv G w' K' { M with H := M.H.set id (.clm (xs.length + ys.length) k') } := by
                      rintro A c rfl hA hc
                      obtain ⟨cap, vs, hrun, h1, h2, h3, h4, h5⟩ := run_grow (P := P) (ty := ty) hd hP hxP hA hys hc hbb
                      have hb1 : ∀ b, b < w.heap.size → (w.drew.alloc (.cells vs e)).heap[b]? = w.heap[b]? := fun b hb => heap_alloc_old w.drew (.cells vs e) b hb
                      have hnew : (w.drew.alloc (.cells vs e)).heap[w.heap.size]? = some (.cells vs e (0, 0)) := heap_alloc_new w.drew (.cells vs e)
                      have hfit : (xs.length + ys.length) * k' ≤ vs.size := by rw [h3]; exact Nat.mul_le_mul_right _ h1
                      obtain ⟨hE, hI'⟩ := step_moved hI (alloc_calm w (.cells vs e)) hid hb1 (Nat.le_refl _) hnew (by omega) hfit
                      refine ⟨_, _, _, hrun, ?_, hclm w K, hE, hI'⟩
                      have hrow := RepP.row (w := w.drew.alloc (.cells vs e)) (I := Im (upd K id (some w.heap.size)) (M.H.set id (.clm (xs.length + ys.length) k'))) (g := w.heap.size) (k := k') (cap := cap) (xs := xs ++ ys) (all := vs.toList) hk hnew h4 (by simpa using h1) h2
                        (fun o ho => by
                          intro i ob hi hKi
                          rcases set_get hi with ⟨rfl, rfl, _⟩ | ⟨a1, a2⟩
                          · exact .inr ⟨_, _, rfl, by simpa using ho⟩
                          · rw [upd_ne K _ a1] at hKi
                            have := (hI.blk i _ (List.getElem?_eq_some_iff.1 a2).1 hKi).1
                            omega) (fun o _ => by simp) (fun i x j u a b => by
                          obtain ⟨c1, r, c2, c3⟩ := h5 i x j u a b
                          exact ⟨c1, r, c2, c3.of_ext hE⟩)
                      rw [List.length_append] at hrow
                      refine .so _ _ _ _ hrow fun m k1 hm => ?_
                      rw [List.getElem?_set_self hil] at hm
                      cases hm
                      exact ⟨by simp, fun _ => ⟨rfl, .inl ⟨w.heap.size, cap, vs, e, upd_same _ _ _, by simp, hnew, by rw [h3]; exact Nat.le_refl _⟩⟩⟩
                    rcases hTI2 with ⟨b, c, cur, tt, hKb, rfl, hheap, hcs2⟩ | ⟨hKn, _, A, rfl⟩
                    · by_cases hroom : xs.length + ys.length ≤ c
                      · obtain ⟨A2, c2, news, rfl, n1, n2, n3, n4, n5, n6, n7⟩ := sl_flat hxP hk
                        obtain ⟨b2, f2, rfl, m4⟩ := n4 hys
                        obtain ⟨A1, c1, olds, e1, o1, o2, o3, o4, o5, o6, o7⟩ := sl_flat hP hk
                        injection e1 with e1 e2 e3
                        subst e1 e3
                        have hle : (xs.length + ys.length) * k' ≤ c * k' := Nat.mul_le_mul_right _ hroom
                        rw [Nat.add_mul] at hle
                        have hfit : xs.length * k' + news.length ≤ cur.size := by rw [n3]; omega
                        have hrun := run_room (P := P) (w := w) (t := t) (ty := ty) (e := e) (g := b) (n := xs.length) (c := c) (m := ys.length) (c2 := c2) (k := k') (news := news) (ad := ⟨b2, f2, none⟩) hu hi hik hheap n3 (fun j u hj => by rw [add_none]; exact m4 j u hj) n5 hroom hfit
                        have holds : ∀ o, o < xs.length * k' → olds[o]? = cur[o]? := fun o ho => by
                          have hne : xs ≠ [] := by
                            rintro rfl
                            simp at ho
                          obtain ⟨b1, off1, hb1, hcell⟩ := o4 hne
                          cases hb1
                          have := hcell o olds[o] (List.getElem?_eq_getElem (by omega))
                          rw [List.getElem?_eq_getElem (by omega)]
                          simp only [Nat.zero_add, World.cell?, hheap] at this
                          exact this.symm
                        have hnewcells : ∀ o, o < (xs.length + ys.length) * k' → (cur.toList.take (xs.length * k') ++ news ++ cur.toList.drop (xs.length * k' + news.length))[o]? = (olds ++ news)[o]? := fun o ho => by
                          rw [Nat.add_mul] at ho
                          rw [List.getElem?_append_left (by simp; omega)]
                          rcases Nat.lt_or_ge o (xs.length * k') with hl | hl
                          · rw [List.getElem?_append_left (by simp; omega), List.getElem?_append_left (by omega), List.getElem?_take, if_pos hl, holds o hl]
                            simp
                          · rw [List.getElem?_append_right (by simp; omega), List.getElem?_append_right (by omega)]
                            simp only [List.length_take, Array.length_toList, o3]
                            congr 1
                            omega
                        have hstep := step_claim (vs' := (cur.toList.take (xs.length * k') ++ news ++ cur.toList.drop (xs.length * k' + news.length)).toArray) (m' := xs.length + ys.length) hI (setRow_calm w b _) hid hKb (fun b' _ hne => setRow_other w b b' _ hne) hheap (setRow_heap w b cur _ tt _ hheap) (by simp; omega)
                          (fun o ho => by
                            have := hnewcells o (by rw [Nat.add_mul]; omega)
                            rw [List.getElem?_toArray, this, List.getElem?_append_left (by omega), holds o ho]) (by omega) (by simp [Nat.add_mul]; omega) (fun e => by omega)
                        obtain ⟨hE, hI'⟩ := hstep
                        refine ⟨_, _, _, hrun, ?_, hclm w K, hE, hI'⟩
                        have hrow := RepP.row (w := w.setRow b (cur.toList.take (xs.length * k') ++ news ++ cur.toList.drop (xs.length * k' + news.length)).toArray) (I := Im K (M.H.set id (.clm (xs.length + ys.length) k'))) (g := b) (k := k') (cap := c) (xs := xs ++ ys) (all := olds ++ news) hk (setRow_heap w b cur _ tt _ hheap)
                          (fun x hx => by rcases List.mem_append.1 hx with h | h; exact o6 x h; exact n6 x h) (by simpa using hroom) o2
                          (fun o ho => by
                            intro i ob hi hKi
                            rcases set_get hi with ⟨rfl, rfl, _⟩ | ⟨a1, a2⟩
                            · exact .inr ⟨_, _, rfl, by simpa using ho⟩
                            · by_cases hg : ob = .gone
                              · subst hg; exact .inl trivial
                              · exact absurd (hI.inj i id b (List.getElem?_eq_some_iff.1 a2).1 hil (by rw [a2]; simpa using hg) (by rw [hid]; simp) hKi hKb) a1) (fun o ho => by rw [List.getElem?_toArray]; exact hnewcells o (by simpa using ho))
                          (fun i x j u a b => by
                            obtain ⟨c1, r, c2, c3⟩ := two_rows (R := RepP w (Im K M.H)) o6 o3 o7 n7 i x j u a b
                            exact ⟨c1, r, c2, c3.of_ext hE⟩)
                        rw [List.length_append] at hrow
                        refine .so _ _ _ _ hrow fun m k1 hm => ?_
                        rw [List.getElem?_set_self hil] at hm
                        cases hm
                        exact ⟨by simp, fun _ => ⟨rfl, .inl ⟨b, c, _, tt, hKb, by simp, setRow_heap w b cur _ tt _ hheap, by simp; omega⟩⟩⟩
                      · exact grow _ c rfl (by simp) (by omega)
                    · exact grow A xs.length rfl (fun hA => by
                        have := (nil_of_none hP).2.2 hA
                        simp [this]) (by omega)
              | _ => cases h
          | bf id off n k b c A hK hnc hc hm hA hz =>
            simp only at h
            cases ho : T.own t with
            | false => rw [ho] at h; cases h
            | true =>
              rw [ho] at h
              simp only [cond_true] at h
              exact vgrow_ok hI hd h (.bf id off n k b c A hK hnc hc hm hA hz) (sv_of_sl hxP) (cl_sv _ _)
          | _ => cases h
    | _ => cases h
end
end Go.Proofs.Ytmagiabapakhcaa.Vm
