/- A part of the proofs about the chapter of the vaults; it states no condition of its own. -/
import Derived.Test.YtnjgdlmddlinaaaDoorB03
import Derived.Laws.CopyRow
import Derived.Laws.MakeOwn
set_option linter.unusedVariables false
set_option linter.unusedSimpArgs false
/- A machine on values: its operations are true, part 3: append. -/
namespace Go.Proofs.YtnjgdlmddlinaaaDoor.Vm
open Go
section
variable {P : Program} {T : Tab} {G : Ghost} {w : World} {K : Nat → Option Nat} {M M' : Mem} {H : List VObj}

theorem elemsOf_rep {v : Value} {x : VV} {k : Nat} {xs : List (List PV)} (h : RepV w K H v x) (he : elemsOf x = some (k, xs)) : RepP w (Im K H) v (.sl k xs) := by
 unfold elemsOf at he
 cases h with
 | p v x h => cases x <;> simp at he; obtain ⟨rfl, rfl⟩ := he; exact h
 | so v id k xs h ht => simp at he; obtain ⟨rfl, rfl⟩ := he; exact h
 | sf A k xs h => simp at he; obtain ⟨rfl, rfl⟩ := he; exact h
 | _ => cases he
theorem run_zero {t ty e k : Nat} {n c c2 : Nat} {A A2 : Option Addr} {i : TypeInfo} (ht : P.underlying t = some (.slice e)) (hi : P.info? e = some i) (hn : n ≤ c) :
  (Builtin.append_ #[t, t] ty #[.slice A n c, .slice A2 0 c2]).run P w = .ok (.slice A n c) w := by
 cases A <;> cases A2 <;> simp [Builtin.append_, run_underlying ht, sizeOf, typeInfo, hi, Builtin.lenOf, Builtin.firstCells, loadCells, loadCellsFrom, hn, storeCells]
theorem nil_of_none {I : Nat → Nat → Prop} {A : Option Addr} {n c k : Nat} {xs : List (List PV)} (h : RepP w I (.slice A n c) (.sl k xs)) : n = xs.length ∧ n ≤ c ∧ (A = none → xs = []) := by
 cases h with
 | sl _ _ _ b off _ f hc hm hk hA hi hw hr =>
  refine ⟨rfl, hc, fun h => ?_⟩
  cases xs with
  | nil => rfl
  | cons x xs =>
   have := hA (by simp)
   rw [h] at this
   cases this
theorem alloc_calm (w : World) (o : Obj) : Calm w (w.drew.alloc o) := ⟨rfl, rfl, rfl, by show w.heap.size ≤ (w.heap.push o).size; simp⟩
theorem repP_isOne {I : Nat → Nat → Prop} {v : Value} {u : PV} (h : RepP w I v u) : isOne v = true := by
 cases h <;> rfl
theorem flat_len {ke : Nat} : ∀ {ys : List (List PV)}, (∀ x ∈ ys, x.length = ke) → ys.flatten.length = ys.length * ke
 | [], _ => by simp
 | x :: ys, h => by
  rw [List.flatten_cons, List.length_append, h x (List.mem_cons_self ..), flat_len fun y hy => h y (List.mem_cons_of_mem _ hy), List.length_cons, Nat.succ_mul, Nat.add_comm]
theorem flat_at {ke : Nat} : ∀ {ys : List (List PV)}, (∀ x ∈ ys, x.length = ke) → ∀ {i : Nat} {u : PV}, ys.flatten[i]? = some u → ∃ q x j, ys[q]? = some x ∧ x[j]? = some u ∧ i = q * ke + j
 | [], _, i, u, h => by simp at h
 | x :: ys, hk, i, u, h => by
  rw [List.flatten_cons] at h
  have hx := hk x (List.mem_cons_self ..)
  rcases Nat.lt_or_ge i x.length with h1 | h1
  ·rw [List.getElem?_append_left h1] at h
   exact ⟨0, x, i, rfl, h, by simp⟩
  ·rw [List.getElem?_append_right h1] at h
   obtain ⟨q, y, j, a, b, c⟩ := flat_at (fun y hy => hk y (List.mem_cons_of_mem _ hy)) h
   exact ⟨q + 1, y, j, a, b, by rw [Nat.succ_mul]; omega⟩
theorem cl_sv (n ke : Nat) {ys : List (List PV)} : Cl n (.sv ke (ys.map (List.map .p))) := fun r hr => by
 simp only [refs] at hr
 obtain ⟨x, hx, hr⟩ := mem_refsLL.1 hr
 obtain ⟨y, _, rfl⟩ := List.mem_map.1 hx
 obtain ⟨u, hu, hr⟩ := mem_refsL.1 hr
 obtain ⟨q, _, rfl⟩ := List.mem_map.1 hu
 simp [refs] at hr
theorem vappend_ok (hT : TabOk P T) (hI : Inv G w K M) {t ty : Nat} {s x v : VV} {rs rx : Value} (h : vappend T t s x M = some (v, M')) (hs : RepV w K M.H rs s) (hx : RepV w K M.H rx x) (hcs : Cl M.H.length s) (hcx : Cl M.H.length x) :
  ∃ rv w' K', (Builtin.append_ #[t, t] ty #[rs, rx]).run P w = .ok rv w' ∧ RepV w' K' M'.H rv v ∧ Cl M'.H.length v ∧ Ext w K M.H w' K' M'.H ∧ Inv G w' K' M' := by
 unfold vappend at h
 cases hy : T.ty t with
 | none => rw [hy] at h; cases h
 | some y =>
  have hY := hT.ty t y hy
  obtain ⟨d, size, zero, agg, cmp⟩ := y
  rw [hy] at h
  cases d with
  | slice e ke be =>
   have hd := hY.d
   simp only at hd
   cases he : elemsOf x with
   | none =>
    rw [he] at h
    simp only at h
    split at h
    case h_2 => cases h
    rename_i k ys
    cases ho : T.own t with
    | false =>
     rw [ho] at h
     simp only [cond_false] at h
     exact vappendV_ok hI hd h hs hx hcs hcx
    | true =>
     rw [ho] at h
     simp only [cond_true] at h
     cases hk1 : Nat.beq k ke with
     | false => rw [hk1] at h; cases h
     | true =>
      rw [hk1] at h
      obtain rfl := Nat.eq_of_beq_eq_true hk1
      exact vgrow_ok hI hd h hs hx hcx
   | some kys =>
    obtain ⟨k, ys⟩ := kys
    rw [he] at h
    simp only at h
    cases hf : fits k ke ys with
    | false => rw [hf] at h; cases h
    | true =>
     rw [hf] at h
     simp only [cond_true] at h
     have hxP := (elemsOf_rep hx he).conv hf
     obtain ⟨hu, i, z, hi, hik, hib, hz, hzs, hk, hbe⟩ := id hd
     cases hs with
     | sf A k' xs hP =>
      simp only at h
      cases hz0 : (ys.isEmpty && !xs.isEmpty && fits k' ke xs) with
      | true =>
       rw [hz0] at h
       simp only [cond_true, Option.some.injEq, Prod.mk.injEq] at h
       obtain ⟨rfl, rfl⟩ := h
       simp only [Bool.and_eq_true, List.isEmpty_iff] at hz0
       obtain ⟨⟨rfl, _⟩, hfx⟩ := hz0
       have hP' := hP.conv hfx
       obtain ⟨A2, c2, _, e2, _⟩ := sl_flat hxP hk
       subst e2
       have hrun := run_zero (P := P) (w := w) (t := t) (ty := ty) (k := ke) (n := xs.length) (c := xs.length) (c2 := c2) (A := A) (A2 := A2) hu hi (Nat.le_refl _)
       exact ⟨_, w, K, hrun, .p _ _ hP', fun r hr => by simp [refs] at hr, Ext.refl _ _ _, hI⟩
      | false =>
      rw [hz0] at h
      simp only [cond_false] at h
      cases hg : (fits k' ke xs && Nat.ble ((xs.length + ys.length) * be) 140737488355328 && (xs.isEmpty || !ys.isEmpty)) with
      | false => rw [hg] at h; cases h
      | true =>
       rw [hg] at h
       simp only [cond_true] at h
       simp only [Bool.and_eq_true] at hg
       obtain ⟨hg, hg3⟩ := hg
       have hP' := hP.conv hg.1
       have hbb : (xs.length + ys.length) * be ≤ 140737488355328 := Nat.le_of_ble_eq_true hg.2
       cases hown : (T.own t && xs.isEmpty) with
       | true =>
        rw [hown] at h
        simp only [cond_true, Option.some.injEq, Prod.mk.injEq] at h
        obtain ⟨rfl, rfl⟩ := h
        simp only [Bool.and_eq_true, List.isEmpty_iff] at hown
        obtain ⟨_, rfl⟩ := hown
        have hnc : ∀ (H : List VObj) (o : VObj), (∀ m k, o ≠ .clm m k) → ∀ m k, (H ++ [o])[H.length]? ≠ some (.clm m k) := fun H o ho m k e => by
         simp at e
         exact ho m k e
        by_cases hys : ys = []
        ·subst hys
         obtain ⟨A2, c2, _, e2, _⟩ := sl_flat hxP hk
         subst e2
         have hrun := run_zero (P := P) (w := w) (t := t) (ty := ty) (k := ke) (n := ([] : List (List PV)).length) (c := ([] : List (List PV)).length) (c2 := c2) (A := A) (A2 := A2) hu hi (Nat.le_refl _)
         obtain ⟨hE, hI'⟩ := step_new hI (Calm.refl w) (fun b _ => rfl) (.obj []) none (by simp) (by simp [contents]) (fun _ => by intro b hb; cases hb)
         refine ⟨_, w, _, hrun, .bf M.H.length 0 0 ke 0 0 A (fun h => absurd rfl h) (hnc _ _ (fun _ _ e => VObj.noConfusion e)) (Nat.le_refl _) (Nat.zero_le _) (fun h => absurd rfl h) (fun h => absurd rfl h), ?_, hE, hI'⟩
         intro r hr
         simp [refs] at hr
         simp [Mem.push, hr]
        ·obtain ⟨cap, vs, hrun, h1, h2, h3, h4, h5⟩ := run_grow (P := P) (ty := ty) hd hP' hxP (fun hA => by
           have := (nil_of_none hP').2.2 hA
           simp [this]) hys (by have := List.length_pos_iff.2 hys; simp; omega) hbb
         have hb1 : ∀ b, b < w.heap.size → (w.drew.alloc (.cells vs e)).heap[b]? = w.heap[b]? := fun b hb => heap_alloc_old w.drew (.cells vs e) b hb
         have hnew : (w.drew.alloc (.cells vs e)).heap[w.heap.size]? = some (.cells vs e (0, 0)) := heap_alloc_new w.drew (.cells vs e)
         have hall : ∀ x ∈ ys, x.length = ke := fun x hx => h4 x (by simpa using hx)
         have hfl : ys.flatten.length = ys.length * ke := flat_len hall
         simp only [List.length_nil, Nat.zero_add] at h1
         have hfit : ys.length * ke ≤ vs.size := by rw [h3]; exact Nat.mul_le_mul_right _ h1
         obtain ⟨hE, hI'⟩ := step_new hI (alloc_calm w (.cells vs e)) hb1 (.obj (ys.flatten.map .p)) (some w.heap.size) (fun b hb => by cases hb; exact ⟨Nat.le_refl _, by show _ < (w.heap.push _).size; simp⟩) (fun c hc r hr => by
           simp only [contents, List.mem_map] at hc
           obtain ⟨u, _, rfl⟩ := hc
           simp [refs] at hr)
          (fun hE => by
            intro b hb
            cases hb
            refine ⟨vs, e, hnew, by rw [List.length_map, hfl]; exact hfit, fun i v c hv hc => ?_⟩
            rw [List.getElem?_map] at hc
            obtain ⟨u, hu', rfl⟩ := Option.map_eq_some_iff.1 hc
            obtain ⟨q, x, j, hx, hj, rfl⟩ := flat_at hall hu'
            obtain ⟨_, r, c2, c3⟩ := h5 q x j u (by simpa using hx) hj
            have hvr : v = r := by
             have : vs.toList[q * ke + j]? = some v := by simpa using hv
             rw [this] at c2
             cases c2; rfl
            subst hvr
            exact ⟨.p _ _ (c3.of_ext hE), repP_isOne c3⟩)
         simp only [List.length_nil, Nat.zero_add] at hrun
         refine ⟨_, _, _, hrun, .bf M.H.length 0 ys.length ke w.heap.size cap _ (fun _ => upd_same _ _ _) (hnc _ _ (fun _ _ e => VObj.noConfusion e)) h1 h2 (fun _ => rfl) (fun _ => ⟨vs, e, _, hnew, by rw [h3]; omega⟩), ?_, hE, hI'⟩
         intro r hr
         simp [refs] at hr
         simp [Mem.push, hr]
       | false =>
       rw [hown] at h
       simp only [cond_false] at h
       cases ho : T.own t with
       | true =>
        rw [ho] at h
        simp only [cond_true] at h
        exact vgrow_ok hI hd h (.sf A _ _ hP) (sv_of_sl hxP) (cl_sv _ _)
       | false =>
       rw [ho] at h
       simp only [cond_false, Option.some.injEq, Prod.mk.injEq] at h
       obtain ⟨rfl, rfl⟩ := h
       by_cases hys : ys = []
       ·subst hys
        obtain ⟨A2, c2, _, e2, _⟩ := sl_flat hxP hk
        subst e2
        have hrun := run_zero (P := P) (w := w) (t := t) (ty := ty) (k := ke) (n := xs.length) (c := xs.length) (c2 := c2) (A := A) (A2 := A2) hu hi (Nat.le_refl _)
        obtain ⟨hE, hI'⟩ := step_new hI (Calm.refl w) (fun b _ => rfl) (.clm (xs.length + 0) ke) none (by simp) (by simp [contents]) (fun _ => by intro b hb; cases hb)
        refine ⟨_, w, _, hrun, ?_, ?_, hE, hI'⟩
        ·refine .so _ _ _ _ (by have := hP'.of_ext hE; rw [List.append_nil]; exact this) fun m k1 hm => ?_
         simp only [Mem.push, List.length_append, List.getElem?_append_right (Nat.le_refl _), Nat.sub_self, List.getElem?_cons_zero, Option.some.injEq, VObj.clm.injEq] at hm
         obtain ⟨rfl, rfl⟩ := hm
         exact ⟨by simp, fun _ => ⟨rfl, .inr ⟨upd_same _ _ _, by simpa using hg3, A, by simp⟩⟩⟩
        ·intro r hr
         simp [refs] at hr
         simp [Mem.push, hr]
       ·have hpos : 0 < ys.length := List.length_pos_iff.2 hys
        obtain ⟨cap, vs, hrun, h1, h2, h3, h4, h5⟩ := run_grow (P := P) (ty := ty) hd hP' hxP (fun hA => by
          have := (nil_of_none hP').2.2 hA
          simp [this]) hys (by omega) hbb
        have hb1 : ∀ b, b < w.heap.size → (w.drew.alloc (.cells vs e)).heap[b]? = w.heap[b]? := fun b hb => heap_alloc_old w.drew (.cells vs e) b hb
        have hnew : (w.drew.alloc (.cells vs e)).heap[w.heap.size]? = some (.cells vs e (0, 0)) := heap_alloc_new w.drew (.cells vs e)
        have hfit : (xs.length + ys.length) * ke ≤ vs.size := by rw [h3]; exact Nat.mul_le_mul_right _ h1
        obtain ⟨hE, hI'⟩ := step_new hI (alloc_calm w (.cells vs e)) hb1 (.clm (xs.length + ys.length) ke) (some w.heap.size) (fun b hb => by cases hb; exact ⟨Nat.le_refl _, by show _ < (w.heap.push _).size; simp⟩) (by simp [contents])
         (fun _ => by intro b hb; cases hb; exact ⟨vs, e, hnew, hfit⟩)
        refine ⟨_, _, _, hrun, ?_, ?_, hE, hI'⟩
        ·have hrow := RepP.row (w := w.drew.alloc (.cells vs e)) (I := Im (upd K M.H.length (some w.heap.size)) (M.H ++ [.clm (xs.length + ys.length) ke])) (g := w.heap.size) (k := ke) (cap := cap) (xs := xs ++ ys) (all := vs.toList) hk hnew h4 (by simpa using h1) h2
          (fun o ho => by
            intro i ob hi hKi
            rcases push_get hi with ⟨a1, a2⟩ | ⟨rfl, rfl⟩
            ·rw [upd_ne K _ (by omega)] at hKi
             have := (hI.blk i _ a1 hKi).1
             omega
            ·exact .inr ⟨_, _, rfl, by simpa using ho⟩) (fun o _ => by simp) (fun i x j u a b => by
            obtain ⟨c1, r, c2, c3⟩ := h5 i x j u a b
            exact ⟨c1, r, c2, c3.of_ext hE⟩)
         rw [List.length_append] at hrow
         refine .so _ _ _ _ hrow fun m k1 hm => ?_
         simp only [Mem.push, List.length_append, List.getElem?_append_right (Nat.le_refl _), Nat.sub_self, List.getElem?_cons_zero, Option.some.injEq, VObj.clm.injEq] at hm
         obtain ⟨rfl, rfl⟩ := hm
         refine ⟨by simp, fun _ => ⟨rfl, .inl ⟨w.heap.size, cap, vs, e, upd_same _ _ _, by simp, hnew, by rw [h3]; exact Nat.le_refl _⟩⟩⟩
        ·intro r hr
         simp [refs] at hr
         simp [Mem.push, hr]
     | so _ id k' xs hP hTI =>
      simp only at h
      cases hid : M.H[id]? with
      | none => rw [hid] at h; cases h
      | some o =>
       rw [hid] at h
       cases o with
       | clm m k'' =>
        simp only at h
        cases hg : (Nat.beq m xs.length && Nat.beq k'' ke && Nat.beq k' ke && Nat.ble ((xs.length + ys.length) * be) 140737488355328) with
        | false => rw [hg] at h; cases h
        | true =>
         rw [hg] at h
         simp only [cond_true, Option.some.injEq, Prod.mk.injEq] at h
         obtain ⟨rfl, rfl⟩ := h
         simp only [Bool.and_eq_true] at hg
         obtain ⟨⟨⟨g1, g2⟩, g3⟩, g4⟩ := hg
         obtain rfl := Nat.eq_of_beq_eq_true g1
         obtain rfl := Nat.eq_of_beq_eq_true g2
         obtain rfl := Nat.eq_of_beq_eq_true g3
         have hbb : (xs.length + ys.length) * be ≤ 140737488355328 := Nat.le_of_ble_eq_true g4
         obtain ⟨_, hTI2⟩ := hTI _ _ hid
         obtain ⟨_, hTI2⟩ := hTI2 rfl
         have hil := (List.getElem?_eq_some_iff.1 hid).1
         by_cases hys : ys = []
         ·subst hys
          obtain ⟨A2, c2, _, e2, _⟩ := sl_flat hxP hk
          subst e2
          obtain ⟨A, c, _, e1, hnc, _⟩ := sl_flat hP hk
          subst e1
          have hrun := run_zero (P := P) (w := w) (t := t) (ty := ty) (k := k') (n := xs.length) (c := c) (c2 := c2) (A := A) (A2 := A2) hu hi hnc
          have hset : M.H.set id (.clm (xs.length + ([] : List (List PV)).length) k') = M.H := by
           apply List.ext_getElem?
           intro j
           rw [List.getElem?_set]
           by_cases e : id = j
           ·subst e
            rw [if_pos rfl, if_pos hil, hid]
            rfl
           ·rw [if_neg e]
          have hM : ({ M with H := M.H.set id (.clm (xs.length + ([] : List (List PV)).length) k') } : Mem) = M := by rw [hset]
          rw [hM]
          refine ⟨_, w, K, hrun, ?_, hcs, Ext.refl _ _ _, hI⟩
          rw [List.append_nil]
          exact .so _ _ _ _ hP hTI
         ·have hpos : 0 < ys.length := List.length_pos_iff.2 hys
          have hclm : ∀ (w' : World) (K' : Nat → Option Nat), Cl (M.H.set id (.clm (xs.length + ys.length) k')).length (.so id k' (xs ++ ys)) := fun _ _ r hr => by
           simp [refs] at hr
           simp [hr, hil]
          -- a new block
          have grow : ∀ (A : Option Addr) (c : Nat), rs = .slice A xs.length c → (A = none → xs.length = 0 ∧ c = 0) → c < xs.length + ys.length →
            ∃ rv w' K', (Builtin.append_ #[t, t] ty #[rs, rx]).run P w = .ok rv w' ∧ RepV w' K' (M.H.set id (.clm (xs.length + ys.length) k')) rv (.so id k' (xs ++ ys)) ∧
             Cl (M.H.set id (.clm (xs.length + ys.length) k')).length (.so id k' (xs ++ ys)) ∧ Ext w K M.H w' K' (M.H.set id (.clm (xs.length + ys.length) k')) ∧ Inv G w' K' { M with H := M.H.set id (.clm (xs.length + ys.length) k') } := by
           rintro A c rfl hA hc
           obtain ⟨cap, vs, hrun, h1, h2, h3, h4, h5⟩ := run_grow (P := P) (ty := ty) hd hP hxP hA hys hc hbb
           have hb1 : ∀ b, b < w.heap.size → (w.drew.alloc (.cells vs e)).heap[b]? = w.heap[b]? := fun b hb => heap_alloc_old w.drew (.cells vs e) b hb
           have hnew : (w.drew.alloc (.cells vs e)).heap[w.heap.size]? = some (.cells vs e (0, 0)) := heap_alloc_new w.drew (.cells vs e)
           have hfit : (xs.length + ys.length) * k' ≤ vs.size := by rw [h3]; exact Nat.mul_le_mul_right _ h1
           obtain ⟨hE, hI'⟩ := step_moved hI (alloc_calm w (.cells vs e)) hid hb1 (Nat.le_refl _) hnew (by omega) hfit
           refine ⟨_, _, _, hrun, ?_, hclm w K, hE, hI'⟩
           have hrow := RepP.row (w := w.drew.alloc (.cells vs e)) (I := Im (upd K id (some w.heap.size)) (M.H.set id (.clm (xs.length + ys.length) k'))) (g := w.heap.size) (k := k') (cap := cap) (xs := xs ++ ys) (all := vs.toList) hk hnew h4 (by simpa using h1) h2
            (fun o ho => by
              intro i ob hi hKi
              rcases set_get hi with ⟨rfl, rfl, _⟩ | ⟨a1, a2⟩
              ·exact .inr ⟨_, _, rfl, by simpa using ho⟩
              ·rw [upd_ne K _ a1] at hKi
               have := (hI.blk i _ (List.getElem?_eq_some_iff.1 a2).1 hKi).1
               omega) (fun o _ => by simp) (fun i x j u a b => by
              obtain ⟨c1, r, c2, c3⟩ := h5 i x j u a b
              exact ⟨c1, r, c2, c3.of_ext hE⟩)
           rw [List.length_append] at hrow
           refine .so _ _ _ _ hrow fun m k1 hm => ?_
           rw [List.getElem?_set_self hil] at hm
           cases hm
           exact ⟨by simp, fun _ => ⟨rfl, .inl ⟨w.heap.size, cap, vs, e, upd_same _ _ _, by simp, hnew, by rw [h3]; exact Nat.le_refl _⟩⟩⟩
          rcases hTI2 with ⟨b, c, cur, tt, hKb, rfl, hheap, hcs2⟩ | ⟨hKn, _, A, rfl⟩
          ·by_cases hroom : xs.length + ys.length ≤ c
           ·obtain ⟨A2, c2, news, rfl, n1, n2, n3, n4, n5, n6, n7⟩ := sl_flat hxP hk
            obtain ⟨b2, f2, rfl, m4⟩ := n4 hys
            obtain ⟨A1, c1, olds, e1, o1, o2, o3, o4, o5, o6, o7⟩ := sl_flat hP hk
            injection e1 with e1 e2 e3
            subst e1 e3
            have hle : (xs.length + ys.length) * k' ≤ c * k' := Nat.mul_le_mul_right _ hroom
            rw [Nat.add_mul] at hle
            have hfit : xs.length * k' + news.length ≤ cur.size := by rw [n3]; omega
            have hrun := run_room (P := P) (w := w) (t := t) (ty := ty) (e := e) (g := b) (n := xs.length) (c := c) (m := ys.length) (c2 := c2) (k := k') (news := news) (ad := ⟨b2, f2, none⟩) hu hi hik hheap n3 (fun j u hj => by rw [add_none]; exact m4 j u hj) n5 hroom hfit
            have holds : ∀ o, o < xs.length * k' → olds[o]? = cur[o]? := fun o ho => by
             have hne : xs ≠ [] := by
              rintro rfl
              simp at ho
             obtain ⟨b1, off1, hb1, hcell⟩ := o4 hne
             cases hb1
             have := hcell o olds[o] (List.getElem?_eq_getElem (by omega))
             rw [List.getElem?_eq_getElem (by omega)]
             simp only [Nat.zero_add, World.cell?, hheap] at this
             exact this.symm
            have hnewcells : ∀ o, o < (xs.length + ys.length) * k' → (cur.toList.take (xs.length * k') ++ news ++ cur.toList.drop (xs.length * k' + news.length))[o]? = (olds ++ news)[o]? := fun o ho => by
             rw [Nat.add_mul] at ho
             rw [List.getElem?_append_left (by simp; omega)]
             rcases Nat.lt_or_ge o (xs.length * k') with hl | hl
             ·rw [List.getElem?_append_left (by simp; omega), List.getElem?_append_left (by omega), List.getElem?_take, if_pos hl, holds o hl]
              simp
             ·rw [List.getElem?_append_right (by simp; omega), List.getElem?_append_right (by omega)]
              simp only [List.length_take, Array.length_toList, o3]
              congr 1
              omega
            have hstep := step_claim (vs' := (cur.toList.take (xs.length * k') ++ news ++ cur.toList.drop (xs.length * k' + news.length)).toArray) (m' := xs.length + ys.length) hI (setRow_calm w b _) hid hKb (fun b' _ hne => setRow_other w b b' _ hne) hheap (setRow_heap w b cur _ tt _ hheap) (by simp; omega)
             (fun o ho => by
               have := hnewcells o (by rw [Nat.add_mul]; omega)
               rw [List.getElem?_toArray, this, List.getElem?_append_left (by omega), holds o ho]) (by omega) (by simp [Nat.add_mul]; omega) (fun e => by omega)
            obtain ⟨hE, hI'⟩ := hstep
            refine ⟨_, _, _, hrun, ?_, hclm w K, hE, hI'⟩
            have hrow := RepP.row (w := w.setRow b (cur.toList.take (xs.length * k') ++ news ++ cur.toList.drop (xs.length * k' + news.length)).toArray) (I := Im K (M.H.set id (.clm (xs.length + ys.length) k'))) (g := b) (k := k') (cap := c) (xs := xs ++ ys) (all := olds ++ news) hk (setRow_heap w b cur _ tt _ hheap)
             (fun x hx => by rcases List.mem_append.1 hx with h | h; exact o6 x h; exact n6 x h) (by simpa using hroom) o2
             (fun o ho => by
               intro i ob hi hKi
               rcases set_get hi with ⟨rfl, rfl, _⟩ | ⟨a1, a2⟩
               ·exact .inr ⟨_, _, rfl, by simpa using ho⟩
               ·by_cases hg : ob = .gone
                ·subst hg; exact .inl trivial
                ·exact absurd (hI.inj i id b (List.getElem?_eq_some_iff.1 a2).1 hil (by rw [a2]; simpa using hg) (by rw [hid]; simp) hKi hKb) a1) (fun o ho => by rw [List.getElem?_toArray]; exact hnewcells o (by simpa using ho))
             (fun i x j u a b => by
               obtain ⟨c1, r, c2, c3⟩ := two_rows (R := RepP w (Im K M.H)) o6 o3 o7 n7 i x j u a b
               exact ⟨c1, r, c2, c3.of_ext hE⟩)
            rw [List.length_append] at hrow
            refine .so _ _ _ _ hrow fun m k1 hm => ?_
            rw [List.getElem?_set_self hil] at hm
            cases hm
            exact ⟨by simp, fun _ => ⟨rfl, .inl ⟨b, c, _, tt, hKb, by simp, setRow_heap w b cur _ tt _ hheap, by simp; omega⟩⟩⟩
           ·exact grow _ c rfl (by simp) (by omega)
          ·exact grow A xs.length rfl (fun hA => by
            have := (nil_of_none hP).2.2 hA
            simp [this]) (by omega)
       | _ => cases h
     | bf id off n k b c A hK hnc hc hm hA hz =>
      simp only at h
      cases ho : T.own t with
      | false => rw [ho] at h; cases h
      | true =>
       rw [ho] at h
       simp only [cond_true] at h
       exact vgrow_ok hI hd h (.bf id off n k b c A hK hnc hc hm hA hz) (sv_of_sl hxP) (cl_sv _ _)
     | _ => cases h
  | _ => cases h
end
end Go.Proofs.YtnjgdlmddlinaaaDoor.Vm

/- A machine on values: its operations are true, part 4: structs, literals, addresses. -/
namespace Go.Proofs.YtnjgdlmddlinaaaDoor.Vm
open Go
section
variable {P : Program} {T : Tab} {G : Ghost} {w : World} {K : Nat → Option Nat} {M M' : Mem} {H : List VObj}

theorem run_mapM_list {α β : Type} (g : α → Sem β) (h : α → β) : ∀ (l : List α), (∀ x ∈ l, (g x).run P w = .ok (h x) w) → (l.mapM g).run P w = .ok (l.map h) w
 | [], _ => by simp
 | x :: l, hx => by
  have h1 := hx x (by simp)
  have h2 := run_mapM_list g h l fun y hy => hx y (by simp [hy])
  simp [h1, h2]
theorem run_mapM {α β : Type} (g : α → Sem β) (h : α → β) (l : Array α) (hx : ∀ x ∈ l.toList, (g x).run P w = .ok (h x) w) : (l.mapM g).run P w = .ok (l.map h) w := by
 rw [Array.mapM_eq_mapM_toList]
 simp only [Sem.run_map, run_mapM_list g h l.toList hx, Result.andThen_ok]
 congr 1
 exact Array.ext' (by simp)

theorem fold_set (off : Nat) : ∀ (l : List Value) (k : Nat) (cells : Array Value), off + k + l.length ≤ cells.size →
  ((l.zipIdx k).foldl (fun (cs : Array Value) (p : Value × Nat) => cs.setIfInBounds (off + p.2) p.1) cells).toList = cells.toList.take (off + k) ++ l ++ cells.toList.drop (off + k + l.length)
 | [], k, cells, _ => by simp
 | v :: l, k, cells, h => by
  simp only [List.zipIdx_cons, List.foldl_cons]
  rw [fold_set off l (k + 1) (cells.setIfInBounds (off + k) v) (by simp at h ⊢; omega)]
  have e := list_seg_step cells.toList (off + k) v l (by simp at h ⊢; omega)
  simp only [Array.toList_setIfInBounds, List.length_cons]
  simpa [Nat.add_assoc, Nat.add_comm 1] using e
abbrev RC (w : World) (K : Nat → Option Nat) (H : List VObj) : Value → VV → Prop := fun u c => RepV w K H u c ∧ isOne u = true
theorem strip_all {us : List Value} {cs : List VV} (h : PW (RC w K H) us cs) : PW (RC w K H) us (cs.map strip1) :=
 ⟨by simp [h.1], fun i a b ha hb => by
  rw [List.getElem?_map] at hb
  obtain ⟨c, hc, rfl⟩ := Option.map_eq_some_iff.1 hb
  exact ⟨strip1_ok (h.2 i a c ha hc).1, (h.2 i a c ha hc).2⟩⟩
theorem fill_ok {place : Nat → Option (Nat × Nat)} : ∀ (ps : List (Nat × Value)) (qs : List (Nat × VV)) (cells : Array Value) (cs cs' : List VV), PW (fun p q => p.1 = q.1 ∧ RepV w K H p.2 q.2) ps qs → PW (RC w K H) cells.toList cs →
  vfill place cs qs = some cs' → ∃ cells', Instr.fill place cells ps = some cells' ∧ PW (RC w K H) cells'.toList cs'
 | [], qs, cells, cs, cs', hp, hc, h => by
  have : qs = [] := List.eq_nil_of_length_eq_zero (by have := hp.1; simpa using this.symm)
  subst this
  simp only [vfill, Option.some.injEq] at h
  subst h
  exact ⟨cells, rfl, hc⟩
 | (i, rv) :: ps, [], cells, cs, cs', hp, hc, h => by have := hp.1; simp at this
 | (i, rv) :: ps, (j, v) :: qs, cells, cs, cs', hp, hc, h => by
  obtain ⟨hij, hv⟩ := hp.2 0 _ _ rfl rfl
  simp only at hij hv
  subst hij
  have hp' : PW (fun (p : Nat × Value) (q : Nat × VV) => p.1 = q.1 ∧ RepV w K H p.2 q.2) ps qs := ⟨by have := hp.1; simpa using this, fun k a b ha hb => hp.2 (k + 1) a b (by simpa using ha) (by simpa using hb)⟩
  simp only [vfill] at h
  cases hpl : place i with
  | none => rw [hpl] at h; cases h
  | some os =>
   obtain ⟨off, size⟩ := os
   rw [hpl] at h
   simp only at h
   cases hb : (Nat.beq (cellsOf v).length size && Nat.ble (off + size) cs.length && (cellsOf v).all isCell) with
   | false => rw [hb] at h; cases h
   | true =>
    rw [hb] at h
    simp only [cond_true] at h
    simp only [Bool.and_eq_true] at hb
    obtain ⟨⟨h1, h2⟩, h3⟩ := hb
    have hlen : (cellsOf v).length = size := Nat.eq_of_beq_eq_true h1
    have hfit : off + size ≤ cs.length := Nat.le_of_ble_eq_true h2
    obtain ⟨hrs, hrc⟩ := cells_rep hv h3
    have hcl := hc.1
    simp at hcl
    have hPW := strip_all (PW.of_arr hrs hrc)
    have hnew : PW (RC w K H) (rv.cells.zipIdx.foldl (fun (cs : Array Value) (p : Value × Nat) => cs.setIfInBounds (off + p.2) p.1) cells).toList (splice cs off ((cellsOf v).map strip1)) := by
     have e := fold_set off rv.cells.toList 0 cells (by simp; omega)
     have e2 : rv.cells.zipIdx.foldl (fun (cs : Array Value) (p : Value × Nat) => cs.setIfInBounds (off + p.2) p.1) cells = (rv.cells.toList.zipIdx 0).foldl (fun (cs : Array Value) (p : Value × Nat) => cs.setIfInBounds (off + p.2) p.1) cells := by
      rw [← Array.foldl_toList]
      simp
     rw [e2, e]
     unfold splice
     have := ((hc.take off).append hPW).append (hc.drop (off + rv.cells.toList.length))
     simp only [Nat.add_zero]
     rwa [show ((cellsOf v).map strip1).length = rv.cells.toList.length from by simp [hrs]]
    obtain ⟨cells', hf, hr⟩ := fill_ok ps qs _ _ _ hp' hnew h
    refine ⟨cells', ?_, hr⟩
    simp only [Instr.fill, hpl]
    rw [if_neg (by simp; omega)]
    exact hf
theorem fill_cl {n : Nat} {place : Nat → Option (Nat × Nat)} : ∀ (qs : List (Nat × VV)) (cs cs' : List VV), (∀ q ∈ qs, Cl n q.2) → (∀ c ∈ cs, Cl n c) → vfill place cs qs = some cs' → ∀ c ∈ cs', Cl n c
 | [], cs, cs', _, hc, h => by simp only [vfill, Option.some.injEq] at h; subst h; exact hc
 | (j, v) :: qs, cs, cs', hq, hc, h => by
  simp only [vfill] at h
  cases hpl : place j with
  | none => rw [hpl] at h; cases h
  | some os =>
   obtain ⟨off, size⟩ := os
   rw [hpl] at h
   simp only at h
   cases hb : (Nat.beq (cellsOf v).length size && Nat.ble (off + size) cs.length && (cellsOf v).all isCell) with
   | false => rw [hb] at h; cases h
   | true =>
    rw [hb] at h
    simp only [cond_true] at h
    refine fill_cl qs _ cs' (fun q hh => hq q (by simp [hh])) (fun c hcc => ?_) h
    simp only [splice, List.mem_append] at hcc
    rcases hcc with (h | h) | h
    ·exact hc c (List.mem_of_mem_take h)
    ·obtain ⟨c0, h0, rfl⟩ := List.mem_map.1 h
     exact strip1_cl (cl_cells (hq (j, v) (by simp)) c0 h0)
    ·exact hc c (List.mem_of_mem_drop h)

theorem agg_of_PW {us : Array Value} {cs : List VV} (h : PW (RC w K H) us.toList cs) : RepV w K H (.agg us) (.agg cs) :=
 .agg us cs (by have := h.1; simpa using this) (fun i v hv => by
  have hl := (Array.getElem?_eq_some_iff.1 hv).1
  have := h.1
  simp at this
  exact (h.2 i v (cs[i]'(by omega)) (by simpa using hv) (List.getElem?_eq_getElem _)).2) fun i v c hv hc => (h.2 i v c (by simpa using hv) hc).1
theorem zero_PW {t : Nat} {y : Ty} (h : TyOk P t y) : PW (RC w K H) y.z.cells.toList (y.zero.map ofValue) := by
 rw [zero_cells h]
 exact PW.of_arr (by simp) (zero_rep h)

theorem parts_PW {ps : Array (Nat × Operand)} {ρ : Operand → Value} {ρv : Operand → VV} (hρ : ∀ x, RepV w K H (ρ x) (ρv x)) :
  PW (fun (p : Nat × Value) (q : Nat × VV) => p.1 = q.1 ∧ RepV w K H p.2 q.2) (ps.map fun (i, x) => (i, ρ x)).toList (ps.toList.map fun p => (p.1, ρv p.2)) :=
 ⟨by simp, fun i a b ha hb => by
  simp only [Array.toList_map, List.getElem?_map] at ha hb
  obtain ⟨p, hp, rfl⟩ := Option.map_eq_some_iff.1 ha
  rw [hp] at hb
  simp only [Option.map_some, Option.some.injEq] at hb
  subst hb
  exact ⟨rfl, hρ _⟩⟩

theorem vbuild_ok (hT : TabOk P T) {t : Nat} {ps : Array (Nat × Operand)} {ρ : Operand → Value} {ρv : Operand → VV} {v : VV} (hρ : ∀ x, RepV w K H (ρ x) (ρv x)) (hc : ∀ x, Cl H.length (ρv x))
  (h : vbuild T t (ps.toList.map fun p => (p.1, ρv p.2)) = some v) : ∃ rv, (Instr.build t (ps.map fun (i, x) => (i, ρ x))).run P w = .ok rv w ∧ RepV w K H rv v ∧ Cl H.length v := by
 unfold vbuild at h
 cases hy : T.ty t with
 | none => rw [hy] at h; cases h
 | some y =>
  have hY := hT.ty t y hy
  have hz := run_zero' (P := P) (w := w) hY
  have hzp := zero_PW (w := w) (K := K) (H := H) hY
  have hps := parts_PW (ps := ps) hρ
  have hqc : ∀ q ∈ (ps.toList.map fun p => (p.1, ρv p.2)), Cl H.length q.2 := fun q hq => by
   obtain ⟨p, _, rfl⟩ := List.mem_map.1 hq
   exact hc _
  have hzc : ∀ c ∈ y.zero.map ofValue, Cl H.length c := fun c hcc => by
   obtain ⟨v, _, rfl⟩ := List.mem_map.1 hcc
   exact ofValue_cl _ _
  rw [hy] at h
  obtain ⟨d, size, zero, agg, cmp⟩ := y
  cases d with
  | struct fs =>
   simp only at h hzp hzc
   obtain ⟨cs', hf, rfl⟩ := Option.map_eq_some_iff.1 h
   obtain ⟨fields, hu, hlen, hfs⟩ := hY.d
   obtain ⟨cells', h1, h2⟩ := fill_ok (place := placesOf fs) _ _ _ _ _ hps hzp hf
   refine ⟨.agg cells', ?_, agg_of_PW h2, cl_agg.2 (fill_cl _ _ _ hqc hzc hf)⟩
   let g : Field → Nat × Nat := fun f => (f.offset, ((P.info? f.type).map (·.size)).getD 0)
   have hg : ∀ f ∈ fields.toList, (do pure (f.offset, ← sizeOf f.type) : Sem (Nat × Nat)).run P w = .ok (g f) w := fun f hf => by
    obtain ⟨j, hj, rfl⟩ := List.getElem_of_mem hf
    simp at hj
    obtain ⟨i, hi, _, _⟩ := hfs j fields[j] (Array.getElem?_eq_getElem hj)
    simp only [Array.getElem_toList]
    simp [sizeOf, typeInfo, hi, g]
   have hplaces : (fun i => (fields.map g)[i]?) = placesOf fs := by
    funext j
    simp only [placesOf, Array.getElem?_map]
    cases hfj : fields[j]? with
    | none =>
     have : fields.size ≤ j := by simpa using hfj
     simp only [Option.map_none]
     exact (List.getElem?_eq_none (by omega)).symm
    | some f =>
     obtain ⟨i, hi, h3, _⟩ := hfs j f hfj
     simp [g, hi, h3]
   simp only [Instr.build, Sem.run_bind, hz, Result.andThen_ok, run_underlying hu, run_mapM _ g fields hg, hplaces, h1, Sem.run_pure]
  | arr n e ke =>
   simp only at h hzp hzc
   obtain ⟨cs', hf, rfl⟩ := Option.map_eq_some_iff.1 h
   obtain ⟨hu, i, hi, hik⟩ := hY.d
   obtain ⟨cells', h1, h2⟩ := fill_ok (place := fun i => some (i * ke, ke)) _ _ _ _ _ hps hzp hf
   refine ⟨.agg cells', ?_, agg_of_PW h2, cl_agg.2 (fill_cl _ _ _ hqc hzc hf)⟩
   simp only [Instr.build, Sem.run_bind, hz, Result.andThen_ok, run_underlying hu, sizeOf, typeInfo, program, Sem.run, hi, Sem.run_pure, hik, h1]
  | _ => cases h
end
end Go.Proofs.YtnjgdlmddlinaaaDoor.Vm

/- A machine on values: its operations are true, part 5: slices, indexes, numbers. -/
namespace Go.Proofs.YtnjgdlmddlinaaaDoor.Vm
open Go
section
variable {P : Program} {T : Tab} {G : Ghost} {w : World} {K : Nat → Option Nat} {M M' : Mem} {H : List VObj}

theorem rep_int {v : Value} {k : IntKind} {n : Int} (h : RepV w K H v (.p (.int k n))) : v = .int k n := by cases h with | p _ _ h => cases h; rfl
theorem rep_bool {v : Value} {b : Bool} (h : RepV w K H v (.p (.bool b))) : v = .bool b := by cases h with | p _ _ h => cases h; rfl
theorem rep_str {v : Value} {s : ByteArray} (h : RepV w K H v (.p (.str s))) : v = .string s := by cases h with | p _ _ h => cases h; rfl
theorem idx_rep {v : Value} {x : VV} {n : Nat} (h : RepV w K H v x) (hi : idx x = some n) : ∃ k i, v = .int k i ∧ 0 ≤ i ∧ i.toNat = n := by
 unfold idx at hi
 split at hi
 ·rename_i k i
  have := rep_int h
  subst this
  cases hd : decide (0 ≤ i) with
  | false => rw [hd] at hi; cases hi
  | true =>
   rw [hd] at hi
   simp at hi
   exact ⟨k, i, rfl, by simpa using hd, hi⟩
 ·cases hi

theorem run_indexAt_sl {t e ke be : Nat} {k : IntKind} {i : Int} {n c : Nat} {ad : Addr} (hd : TdOk P t (.slice e ke be)) (h0 : 0 ≤ i) (hn : i.toNat < n) :
  (Instr.indexAt t (.slice (some ad) n c) (.int k i)).run P w = .ok (.pointer (some (ad.add (i.toNat * ke)))) w := by
 obtain ⟨hu, j, z, hj, hjk, _⟩ := hd
 have h1 : i < (n : Int) := by omega
 simp [Instr.indexAt, asIntOf, run_underlying hu, h0, h1, sizeOf, typeInfo, hj, hjk]
theorem run_indexAt_arr {t e ke m : Nat} {k : IntKind} {i : Int} {ad : Addr} (hd : TdOk P t (.arr m e ke)) (h0 : 0 ≤ i) (hn : i.toNat < m) :
  (Instr.indexAt t (.pointer (some ad)) (.int k i)).run P w = .ok (.pointer (some (ad.add (i.toNat * ke)))) w := by
 obtain ⟨hu, j, hj, hjk⟩ := hd
 have h1 : i < (m : Int) := by omega
 simp [Instr.indexAt, asIntOf, run_underlying hu, h0, h1, sizeOf, typeInfo, hj, hjk, Instr.sureAddr]
theorem ip_at {I : Nat → Nat → Prop} {A : Option Addr} {n c k i : Nat} {xs : List (List PV)} {x : List PV} (h : RepP w I (.slice A n c) (.sl k xs)) (hx : xs[i]? = some x) :
  i < n ∧ ∃ b off, A = some ⟨b, off, none⟩ ∧ ∃ f : Nat → Value, (∀ j u, x[j]? = some u → I b (off + i * k + j)) ∧ (∀ j u, x[j]? = some u → w.cell? ⟨b, off + i * k + j, none⟩ = some (f j)) ∧ ∀ j u, x[j]? = some u → RepP w I (f j) u := by
 cases h with
 | sl _ _ _ b off _ f hc hm hk hA hi hw hr =>
  have hlt := (List.getElem?_eq_some_iff.1 hx).1
  have hne : xs ≠ [] := by rintro rfl; simp at hx
  exact ⟨hlt, b, off, hA hne, f i, fun j u hu => hi i x j u hx hu, fun j u hu => hw i x j u hx hu, fun j u hu => hr i x j u hx hu⟩
theorem vindexAddr_ok (hT : TabOk P T) {t : Nat} {x i v : VV} {rx ri : Value} (h : vindexAddr T t x i = some v) (hx : RepV w K H rx x) (hi : RepV w K H ri i) (hc : Cl H.length x) :
  ∃ rv, (Instr.indexAt t rx ri).run P w = .ok rv w ∧ RepV w K H rv v ∧ Cl H.length v := by
 unfold vindexAddr at h
 cases hy : T.ty t with
 | none => rw [hy] at h; cases h
 | some y =>
  have hY := hT.ty t y hy
  rw [hy] at h
  cases hn : idx i with
  | none => rw [hn] at h; cases h
  | some n =>
   obtain ⟨kk, ii, rfl, hi0, hin⟩ := idx_rep hi hn
   rw [hn] at h
   simp only at h
   have hd := hY.d
   generalize y.d = d at h hd
   cases d with
   | slice e ke be =>
    simp only at h
    have gen : ∀ (A : Option Addr) (m c k : Nat) (xs : List (List PV)), rx = .slice A m c → RepP w (Im K H) (.slice A m c) (.sl k xs) → (bif Nat.beq k ke then (xs[n]?).map VV.ip else none) = some v →
      ∃ rv, (Instr.indexAt t rx (.int kk ii)).run P w = .ok rv w ∧ RepV w K H rv v ∧ Cl H.length v := by
     rintro A m c k xs rfl hP hh
     cases hk : Nat.beq k ke with
     | false => rw [hk] at hh; cases hh
     | true =>
      rw [hk] at hh
      simp only [cond_true] at hh
      obtain rfl := Nat.eq_of_beq_eq_true hk
      obtain ⟨x, hx, hv⟩ := Option.map_eq_some_iff.1 hh
      subst hv
      obtain ⟨hlt, b, off, rfl, f, f1, f2, f3⟩ := ip_at hP hx
      refine ⟨_, run_indexAt_sl hd hi0 (by omega), ?_, fun r hr => by simp [refs] at hr⟩
      rw [add_none, hin]
      exact .ip x b _ f f1 f2 f3
    cases hx with
    | bf id off m k b c A hK hn' hmc hm hA hz =>
     simp only at h
     cases hl : (Nat.blt n m && Nat.beq k ke) with
     | false => rw [hl] at h; cases h
     | true =>
      rw [hl] at h
      simp only [cond_true, Option.some.injEq] at h
      subst h
      simp only [Bool.and_eq_true] at hl
      have hlt : n < m := by simpa [Nat.blt_eq] using hl.1
      rw [hA (by omega)]
      refine ⟨_, run_indexAt_sl hd hi0 (by omega), ?_, fun r hr => hc r (by simpa [refs] using hr)⟩
      rw [add_none, hin]
      exact .ptr id _ b (hK (by omega)) hn'
    | sv A c k b off xs f hcc hm hk hA hi' hw hr h1 =>
     simp only at h
     cases hkk : Nat.beq k ke with
     | false => rw [hkk] at h; cases h
     | true =>
      rw [hkk] at h
      simp only [cond_true] at h
      obtain rfl := Nat.eq_of_beq_eq_true hkk
      obtain ⟨x, hx, rfl⟩ := Option.map_eq_some_iff.1 h
      have hlt := (List.getElem?_eq_some_iff.1 hx).1
      have hne : xs ≠ [] := by rintro rfl; simp at hx
      rw [hA hne]
      refine ⟨_, run_indexAt_sl hd hi0 (by omega), ?_, fun r hr => hc r ?_⟩
      ·rw [add_none, hin]
       exact .iv x b _ (f n) (fun j u hu => hi' n x j u hx hu) (fun j u hu => hw n x j u hx hu) (fun j u hu => hr n x j u hx hu) (fun j u hu => h1 n x j u hx hu)
      ·simp only [refs] at hr ⊢
       exact mem_refsLL.2 ⟨x, List.mem_of_getElem? hx, hr⟩
    | sw v0 id0 k xs h0 ht0 =>
     cases h0 with
     | sv A c _ b off _ f hcc hm hk hA hi' hw hr h1 =>
      simp only at h
      cases hkk : Nat.beq k ke with
      | false => rw [hkk] at h; cases h
      | true =>
       rw [hkk] at h
       simp only [cond_true] at h
       obtain rfl := Nat.eq_of_beq_eq_true hkk
       obtain ⟨x, hx, rfl⟩ := Option.map_eq_some_iff.1 h
       have hlt := (List.getElem?_eq_some_iff.1 hx).1
       have hne : xs ≠ [] := by rintro rfl; simp at hx
       rw [hA hne]
       refine ⟨_, run_indexAt_sl hd hi0 (by omega), ?_, fun r hr => hc r ?_⟩
       ·rw [add_none, hin]
        exact .iv x b _ (f n) (fun j u hu => hi' n x j u hx hu) (fun j u hu => hw n x j u hx hu) (fun j u hu => hr n x j u hx hu) (fun j u hu => h1 n x j u hx hu)
       ·simp only [refs] at hr ⊢
        exact List.mem_cons_of_mem _ (mem_refsLL.2 ⟨x, List.mem_of_getElem? hx, hr⟩)
    | p v0 x0 hP =>
     cases x0 with
     | sl k xs =>
      simp only [elemsOf] at h
      cases hP with
      | sl A c _ b off _ f hc1 hm hk hA hi' hw hr => exact gen A _ c k xs rfl (.sl A c _ b off _ f hc1 hm hk hA hi' hw hr) h
     | _ => cases h
    | so v0 id k xs hP ht =>
     simp only [elemsOf] at h
     cases hP with
     | sl A c _ b off _ f hc1 hm hk hA hi' hw hr => exact gen A _ c k xs rfl (.sl A c _ b off _ f hc1 hm hk hA hi' hw hr) h
    | sf A k xs hP =>
     simp only [elemsOf] at h
     exact gen A _ _ k xs rfl hP h
    | _ => cases h
   | arr m e ke =>
    simp only at h
    cases hl : Nat.blt n m with
    | false => rw [hl] at h; cases h
    | true =>
     rw [hl] at h
     simp only [cond_true] at h
     have hlt : n < m := by simpa [Nat.blt_eq] using hl
     cases hx with
     | ptr id off b hK hn' =>
      simp only [Option.some.injEq] at h
      subst h
      refine ⟨_, run_indexAt_arr hd hi0 (by omega), ?_, fun r hr => hc r (by simpa [refs] using hr)⟩
      rw [add_none, hin]
      exact .ptr id _ b hK hn'
     | ip cs b off f hi' hw hr =>
      simp only [Option.some.injEq] at h
      subst h
      refine ⟨_, run_indexAt_arr hd hi0 (by omega), ?_, fun r hr => by simp [refs] at hr⟩
      rw [add_none, hin]
      exact .ip _ b _ (fun j => f (n * ke + j)) (fun j u hu => by rw [Nat.add_assoc]; exact hi' _ u (by rwa [List.getElem?_drop] at hu)) (fun j u hu => by rw [Nat.add_assoc]; exact hw _ u (by rwa [List.getElem?_drop] at hu)) fun j u hu => hr _ u (by rwa [List.getElem?_drop] at hu)
     | iv cs b off f hi' hw hr h1 =>
      simp only [Option.some.injEq] at h
      subst h
      refine ⟨_, run_indexAt_arr hd hi0 (by omega), ?_, fun r hr => hc r ?_⟩
      ·rw [add_none, hin]
       exact .iv _ b _ (fun j => f (n * ke + j)) (fun j u hu => by rw [Nat.add_assoc]; exact hi' _ u (by rwa [List.getElem?_drop] at hu)) (fun j u hu => by rw [Nat.add_assoc]; exact hw _ u (by rwa [List.getElem?_drop] at hu)) (fun j u hu => hr _ u (by rwa [List.getElem?_drop] at hu)) fun j u hu => h1 _ u (by rwa [List.getElem?_drop] at hu)
      ·simp only [refs] at hr ⊢
       obtain ⟨c, h1, h2⟩ := mem_refsL.1 hr
       exact mem_refsL.2 ⟨c, List.mem_of_mem_drop h1, h2⟩
     | _ => cases h
   | _ => cases h

theorem run_fieldAt' {t f o sz : Nat} {fs : List (Nat × Nat)} {ad : Addr} (hd : TdOk P t (.struct fs)) (hf : fs[f]? = some (o, sz)) : (Instr.fieldAt t (.pointer (some ad)) f).run P w = .ok (.pointer (some (ad.add o))) w := by
 obtain ⟨fields, hu, hlen, hfs⟩ := hd
 have hlt := (List.getElem?_eq_some_iff.1 hf).1
 have hfl : fields[f]? = some (fields[f]'(by omega)) := Array.getElem?_eq_getElem _
 obtain ⟨i, hi, h1, h2⟩ := hfs f _ hfl
 rw [hf] at h1
 cases h1
 simp [Instr.fieldAt, run_underlying hu, hfl, Instr.sureAddr, fieldPlace, sizeOf, typeInfo, hi, h2]
theorem vfieldAddr_ok (hT : TabOk P T) {t f : Nat} {x v : VV} {rx : Value} (h : vfieldAddr T t x f = some v) (hx : RepV w K H rx x) (hc : Cl H.length x) :
  ∃ rv, (Instr.fieldAt t rx f).run P w = .ok rv w ∧ RepV w K H rv v ∧ Cl H.length v := by
 unfold vfieldAddr at h
 cases hy : T.ty t with
 | none => rw [hy] at h; cases h
 | some y =>
  have hY := hT.ty t y hy
  rw [hy] at h
  obtain ⟨d, size, zero, agg, cmp⟩ := y
  cases d with
  | struct fs =>
   simp only at h
   cases hf : fs[f]? with
   | none => rw [hf] at h; cases h
   | some os =>
    obtain ⟨o, sz⟩ := os
    rw [hf] at h
    simp only at h
    have hd := hY.d
    simp only at hd
    cases hx with
    | ptr id off b hK hn' =>
     simp only [Option.some.injEq] at h
     subst h
     refine ⟨_, run_fieldAt' hd hf, ?_, fun r hr => hc r (by simpa [refs] using hr)⟩
     rw [add_none]
     exact .ptr id _ b hK hn'
    | ip cs b off f' hi' hw hr =>
     simp only [Option.some.injEq] at h
     subst h
     refine ⟨_, run_fieldAt' hd hf, ?_, fun r hr => by simp [refs] at hr⟩
     rw [add_none]
     exact .ip _ b _ (fun j => f' (o + j)) (fun j u hu => by rw [Nat.add_assoc]; exact hi' _ u (by rwa [List.getElem?_drop] at hu)) (fun j u hu => by rw [Nat.add_assoc]; exact hw _ u (by rwa [List.getElem?_drop] at hu)) fun j u hu => hr _ u (by rwa [List.getElem?_drop] at hu)
    | iv cs b off f' hi' hw hr h1 =>
     simp only [Option.some.injEq] at h
     subst h
     refine ⟨_, run_fieldAt' hd hf, ?_, fun r hr => hc r ?_⟩
     ·rw [add_none]
      exact .iv _ b _ (fun j => f' (o + j)) (fun j u hu => by rw [Nat.add_assoc]; exact hi' _ u (by rwa [List.getElem?_drop] at hu)) (fun j u hu => by rw [Nat.add_assoc]; exact hw _ u (by rwa [List.getElem?_drop] at hu)) (fun j u hu => hr _ u (by rwa [List.getElem?_drop] at hu)) fun j u hu => h1 _ u (by rwa [List.getElem?_drop] at hu)
     ·simp only [refs] at hr ⊢
      obtain ⟨c, h1, h2⟩ := mem_refsL.1 hr
      exact mem_refsL.2 ⟨c, List.mem_of_mem_drop h1, h2⟩
    | _ => cases h
  | _ => cases h

theorem run_sliceAt' {t e ke be n c l h : Nat} {A : Option Addr} {lo hi : Option Value} (hd : TdOk P t (.slice e ke be)) (hn : n ≤ c) (hh : h ≤ n) (hl : l ≤ h)
  (hhi : (hi = none ∧ h = n) ∨ ∃ k i, hi = some (.int k i) ∧ 0 ≤ i ∧ i.toNat = h) (hlo : (lo = none ∧ l = 0) ∨ ∃ k i, lo = some (.int k i) ∧ 0 ≤ i ∧ i.toNat = l) :
  (Instr.sliceAt t (.slice A n c) lo hi none).run P w = .ok (.slice (if c = l then A else A.map (·.add (l * ke))) (h - l) (c - l)) w := by
 obtain ⟨hu, j, z, hj, hjk, _⟩ := hd
 rcases hhi with ⟨rfl, rfl⟩ | ⟨k, i, rfl, hi0, rfl⟩ <;> rcases hlo with ⟨rfl, rfl⟩ | ⟨k', i', rfl, hi0', rfl⟩
 ·simp [Instr.sliceAt, run_underlying hu, Instr.slice, Instr.sliceBounds, sizeOf, typeInfo, hj, hjk]
 ·have h1 : i' ≤ (h : Int) := by omega
  simp [Instr.sliceAt, run_underlying hu, Instr.slice, Instr.sliceBounds, Instr.sliceBound, asIntOf, hi0', h1, sizeOf, typeInfo, hj, hjk]
 ·have h1 : i ≤ (c : Int) := by omega
  simp [Instr.sliceAt, run_underlying hu, Instr.slice, Instr.sliceBounds, Instr.sliceBound, asIntOf, hi0, h1, sizeOf, typeInfo, hj, hjk]
 ·have h1 : i ≤ (c : Int) := by omega
  have h2 : i' ≤ i := by omega
  have h3 : max i 0 = i := by omega
  simp [Instr.sliceAt, run_underlying hu, Instr.slice, Instr.sliceBounds, Instr.sliceBound, asIntOf, hi0, h1, hi0', h3, h2, sizeOf, typeInfo, hj, hjk]
theorem RepP.cut {I : Nat → Nat → Prop} {A : Option Addr} {n c k ke l h : Nat} {xs : List (List PV)} (hP : RepP w I (.slice A n c) (.sl k xs)) (hf : fits k ke xs = true) (hh : h ≤ n) (hl : l ≤ h) :
  RepP w I (.slice (if c = l then A else A.map (·.add (l * ke))) (h - l) (c - l)) (.sl k ((xs.take h).drop l)) := by
 cases hP with
 | sl _ _ _ b off _ f hc hm hk hA hi hw hr =>
  have hlen : ((xs.take h).drop l).length = h - l := by simp; omega
  rw [← hlen]
  have hget : ∀ i x, ((xs.take h).drop l)[i]? = some x → xs[l + i]? = some x := fun i x hx => by
   rw [List.getElem?_drop, List.getElem?_take] at hx
   split at hx
   ·exact hx
   ·cases hx
  have hadd : ∀ i j, off + l * k + i * k + j = off + (l + i) * k + j := fun i j => by rw [Nat.add_mul]; omega
  refine .sl _ (c - l) k b (off + l * k) _ (fun i j => f (l + i) j) (by omega) (by omega) (fun x hx => hk x (List.mem_of_mem_take (List.mem_of_mem_drop hx))) (fun hne => ?_) (fun i x j u hx hu => ?_) (fun i x j u hx hu => ?_) fun i x j u hx hu => ?_
  ·have hpos : 0 < h - l := by rw [← hlen]; exact List.length_pos_iff.2 hne
   have hx : xs ≠ [] := by rintro rfl; simp at hh; omega
   have hke : k = ke := by
    unfold fits at hf
    simp only [Bool.or_eq_true] at hf
    rcases hf with hf | hf
    ·exact Nat.eq_of_beq_eq_true hf
    ·exact absurd (by simpa using hf) hx
   subst hke
   rw [if_neg (by omega), hA hx]
   simp only [Option.map_some, add_none]
  ·rw [hadd]; exact hi _ x j u (hget i x hx) hu
  ·rw [hadd]; exact hw _ x j u (hget i x hx) hu
  ·exact hr _ x j u (hget i x hx) hu
theorem bound_rep {ro : Option Value} {o : Option VV} {d n : Nat} (hr : (ro = none ∧ o = none) ∨ ∃ v x, ro = some v ∧ o = some x ∧ RepV w K H v x) (h : obound d o = some n) :
  (ro = none ∧ n = d) ∨ ∃ k i, ro = some (.int k i) ∧ 0 ≤ i ∧ i.toNat = n := by
 rcases hr with ⟨rfl, rfl⟩ | ⟨v, x, rfl, rfl, hv⟩
 ·simp [obound] at h
  exact .inl ⟨rfl, h.symm⟩
 ·obtain ⟨k, i, rfl, h1, h2⟩ := idx_rep hv (by simpa [obound] using h)
  exact .inr ⟨k, i, rfl, h1, h2⟩
theorem vslice_ok (hT : TabOk P T) {t : Nat} {x v : VV} {lo hi : Option VV} {rx : Value} {rlo rhi : Option Value} (h : vslice T t x lo hi = some v) (hx : RepV w K H rx x) (hc : Cl H.length x)
  (hlo : (rlo = none ∧ lo = none) ∨ ∃ v x, rlo = some v ∧ lo = some x ∧ RepV w K H v x) (hhi : (rhi = none ∧ hi = none) ∨ ∃ v x, rhi = some v ∧ hi = some x ∧ RepV w K H v x) :
  ∃ rv, (Instr.sliceAt t rx rlo rhi none).run P w = .ok rv w ∧ RepV w K H rv v ∧ Cl H.length v := by
 unfold vslice at h
 cases hy : T.ty t with
 | none => rw [hy] at h; cases h
 | some y =>
  have hY := hT.ty t y hy
  rw [hy] at h
  obtain ⟨d, size, zero, agg, cmp⟩ := y
  cases d with
  | slice e ke be =>
   have hd := hY.d
   simp only at hd h
   have gen : ∀ (A : Option Addr) (m c k : Nat) (xs : List (List PV)), rx = .slice A m c → RepP w (Im K H) (.slice A m c) (.sl k xs) →
     (match obound xs.length hi, obound 0 lo with
       | some h, some l => bif fits k ke xs && Nat.ble h xs.length && Nat.ble l h then some (VV.p (.sl k ((xs.take h).drop l))) else none
       | _, _ => none) = some v → ∃ rv, (Instr.sliceAt t rx rlo rhi none).run P w = .ok rv w ∧ RepV w K H rv v ∧ Cl H.length v := by
    rintro A m c k xs rfl hP h
    obtain ⟨hm, hmc, _⟩ := nil_of_none hP
    subst hm
    cases e1 : obound xs.length hi with
    | none => rw [e1] at h; cases h
    | some hh =>
     cases e2 : obound 0 lo with
     | none => rw [e1, e2] at h; cases h
     | some ll =>
      rw [e1, e2] at h
      simp only at h
      cases hb : (fits k ke xs && Nat.ble hh xs.length && Nat.ble ll hh) with
      | false => rw [hb] at h; cases h
      | true =>
       rw [hb] at h
       simp only [cond_true, Option.some.injEq] at h
       subst h
       simp only [Bool.and_eq_true] at hb
       obtain ⟨⟨b1, b2⟩, b3⟩ := hb
       have l1 : hh ≤ xs.length := Nat.le_of_ble_eq_true b2
       have l2 : ll ≤ hh := Nat.le_of_ble_eq_true b3
       refine ⟨_, run_sliceAt' hd hmc l1 l2 (bound_rep hhi e1) (bound_rep hlo e2), .p _ _ (hP.cut b1 l1 l2), cl_p _ _⟩
   cases hx with
   | bf id off m k b c A hK hn' hmc hm hA hz =>
    simp only at h
    cases e1 : obound m hi with
    | none => rw [e1] at h; cases h
    | some hh =>
     cases e2 : obound 0 lo with
     | none => rw [e1, e2] at h; cases h
     | some ll =>
      rw [e1, e2] at h
      simp only at h
      cases hb : (Nat.beq k ke && Nat.ble hh m && Nat.ble ll hh) with
      | false => rw [hb] at h; cases h
      | true =>
       rw [hb] at h
       simp only [cond_true, Option.some.injEq] at h
       subst h
       simp only [Bool.and_eq_true] at hb
       have l1 : hh ≤ m := Nat.le_of_ble_eq_true hb.1.2
       have l2 : ll ≤ hh := Nat.le_of_ble_eq_true hb.2
       refine ⟨_, run_sliceAt' hd hmc l1 l2 (bound_rep hhi e1) (bound_rep hlo e2), .bf id _ _ _ b _ _ (fun hne => hK (by omega)) hn' (by omega) (by omega) (fun hne => ?_) (fun hne => ?_), fun r hr => hc r (by simpa [refs] using hr)⟩
       ·rw [if_neg (by omega), hA (by omega)]
        simp only [Option.map_some, add_none]
       ·obtain ⟨vs, t, z, h1, h2⟩ := hz (by omega)
        refine ⟨vs, t, z, h1, ?_⟩
        have hkk := Nat.eq_of_beq_eq_true hb.1.1
        subst hkk
        have hle : ll * k ≤ c * k := Nat.mul_le_mul_right _ (by omega)
        rw [Nat.sub_mul]
        omega
   | p v0 x0 hP =>
    cases x0 with
    | sl k xs =>
     simp only [elemsOf] at h
     cases hP with
     | sl A c _ b off _ f hc1 hm hk hA hi' hw hr => exact gen A _ c k xs rfl (.sl A c _ b off _ f hc1 hm hk hA hi' hw hr) h
    | _ => simp only [elemsOf] at h; cases h
   | so v0 id k xs hP ht =>
    simp only [elemsOf] at h
    cases hP with
    | sl A c _ b off _ f hc1 hm hk hA hi' hw hr => exact gen A _ c k xs rfl (.sl A c _ b off _ f hc1 hm hk hA hi' hw hr) h
   | sf A k xs hP =>
    simp only [elemsOf] at h
    exact gen A _ _ k xs rfl hP h
   | _ => simp only [elemsOf] at h; cases h
  | str =>
   have hd : P.underlying t = some .string := hY.d
   simp only at h
   cases hx with
   | p v0 x0 hP =>
    cases x0 with
    | str s =>
     have hv0 := rep_str (.p _ _ hP)
     subst hv0
     simp only at h
     cases e1 : obound s.size hi with
     | none => rw [e1] at h; cases h
     | some hh =>
      cases e2 : obound 0 lo with
      | none => rw [e1, e2] at h; cases h
      | some ll =>
       rw [e1, e2] at h
       simp only at h
       cases hb : (Nat.ble hh s.size && Nat.ble ll hh) with
       | false => rw [hb] at h; cases h
       | true =>
        rw [hb] at h
        simp only [cond_true, Option.some.injEq] at h
        subst h
        simp only [Bool.and_eq_true] at hb
        have l1 : hh ≤ s.size := Nat.le_of_ble_eq_true hb.1
        have l2 : ll ≤ hh := Nat.le_of_ble_eq_true hb.2
        refine ⟨.string (s.extract ll hh), ?_, .p _ _ (.str _), cl_p _ _⟩
        have q1 := bound_rep hhi e1
        have q2 := bound_rep hlo e2
        rcases q1 with ⟨rfl, rfl⟩ | ⟨k, i, rfl, hi0, rfl⟩ <;> rcases q2 with ⟨rfl, rfl⟩ | ⟨k', i', rfl, hi0', rfl⟩
        ·simp [Instr.sliceAt, run_underlying hd, Instr.slice, Instr.sliceBounds]
        ·have h1 : i' ≤ (s.size : Int) := by omega
         simp [Instr.sliceAt, run_underlying hd, Instr.slice, Instr.sliceBounds, Instr.sliceBound, asIntOf, hi0', h1]
        ·have h1 : i ≤ (s.size : Int) := by omega
         simp [Instr.sliceAt, run_underlying hd, Instr.slice, Instr.sliceBounds, Instr.sliceBound, asIntOf, hi0, h1]
        ·have h1 : i ≤ (s.size : Int) := by omega
         have h2 : i' ≤ i := by omega
         have h3 : max i 0 = i := by omega
         simp [Instr.sliceAt, run_underlying hd, Instr.slice, Instr.sliceBounds, Instr.sliceBound, asIntOf, hi0, h1, hi0', h3, h2]
    | _ => simp at h
   | _ => simp at h
  | _ => cases h
end
end Go.Proofs.YtnjgdlmddlinaaaDoor.Vm
