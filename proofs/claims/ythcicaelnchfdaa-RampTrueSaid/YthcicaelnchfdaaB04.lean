/- A part of the proofs about the chapter of the ramps; it states no condition of its own. -/
import Derived.Test.YthcicaelnchfdaaB03
import Derived.Laws.MakeOwn
import Derived.Laws.StructEq
set_option linter.unusedVariables false
set_option linter.unusedSimpArgs false
/- A machine on values: its operations are true, part 5: slices, indexes, numbers. -/
namespace Go.Proofs.Ythcicaelnchfdaa.Vm
open Go
section
variable {P : Program} {T : Tab} {G : Ghost} {w : World} {K : Nat → Option Nat} {M M' : Mem} {H : List VObj}

theorem rep_int {v : Value} {k : IntKind} {n : Int} (h : RepV w K H v (.p (.int k n))) : v = .int k n := by cases h with | p _ _ h => cases h; rfl
theorem rep_bool {v : Value} {b : Bool} (h : RepV w K H v (.p (.bool b))) : v = .bool b := by cases h with | p _ _ h => cases h; rfl
theorem rep_str {v : Value} {s : ByteArray} (h : RepV w K H v (.p (.str s))) : v = .string s := by cases h with | p _ _ h => cases h; rfl
theorem idx_rep {v : Value} {x : VV} {n : Nat} (h : RepV w K H v x) (hi : idx x = some n) : ∃ k i, v = .int k i ∧ 0 ≤ i ∧ i.toNat = n := by
 unfold idx at hi
 split at hi
 ·rename_i k i
  have := rep_int h
  subst this
  cases hd : decide (0 ≤ i) with
  | false => rw [hd] at hi; cases hi
  | true =>
   rw [hd] at hi
   simp at hi
   exact ⟨k, i, rfl, by simpa using hd, hi⟩
 ·cases hi

theorem run_indexAt_sl {t e ke be : Nat} {k : IntKind} {i : Int} {n c : Nat} {ad : Addr} (hd : TdOk P t (.slice e ke be)) (h0 : 0 ≤ i) (hn : i.toNat < n) :
  (Instr.indexAt t (.slice (some ad) n c) (.int k i)).run P w = .ok (.pointer (some (ad.add (i.toNat * ke)))) w := by
 obtain ⟨hu, j, z, hj, hjk, _⟩ := hd
 have h1 : i < (n : Int) := by omega
 simp [Instr.indexAt, asIntOf, run_underlying hu, h0, h1, sizeOf, typeInfo, hj, hjk]
theorem run_indexAt_arr {t e ke m : Nat} {k : IntKind} {i : Int} {ad : Addr} (hd : TdOk P t (.arr m e ke)) (h0 : 0 ≤ i) (hn : i.toNat < m) :
  (Instr.indexAt t (.pointer (some ad)) (.int k i)).run P w = .ok (.pointer (some (ad.add (i.toNat * ke)))) w := by
 obtain ⟨hu, j, hj, hjk⟩ := hd
 have h1 : i < (m : Int) := by omega
 simp [Instr.indexAt, asIntOf, run_underlying hu, h0, h1, sizeOf, typeInfo, hj, hjk, Instr.sureAddr]
theorem ip_at {I : Nat → Nat → Prop} {A : Option Addr} {n c k i : Nat} {xs : List (List PV)} {x : List PV} (h : RepP w I (.slice A n c) (.sl k xs)) (hx : xs[i]? = some x) :
  i < n ∧ ∃ b off, A = some ⟨b, off, none⟩ ∧ ∃ f : Nat → Value, (∀ j u, x[j]? = some u → I b (off + i * k + j)) ∧ (∀ j u, x[j]? = some u → w.cell? ⟨b, off + i * k + j, none⟩ = some (f j)) ∧ ∀ j u, x[j]? = some u → RepP w I (f j) u := by
 cases h with
 | sl _ _ _ b off _ f hc hm hk hA hi hw hr =>
  have hlt := (List.getElem?_eq_some_iff.1 hx).1
  have hne : xs ≠ [] := by rintro rfl; simp at hx
  exact ⟨hlt, b, off, hA hne, f i, fun j u hu => hi i x j u hx hu, fun j u hu => hw i x j u hx hu, fun j u hu => hr i x j u hx hu⟩
theorem vindexAddr_ok (hT : TabOk P T) {t : Nat} {x i v : VV} {rx ri : Value} (h : vindexAddr T t x i = some v) (hx : RepV w K H rx x) (hi : RepV w K H ri i) (hc : Cl H.length x) :
  ∃ rv, (Instr.indexAt t rx ri).run P w = .ok rv w ∧ RepV w K H rv v ∧ Cl H.length v := by
 unfold vindexAddr at h
 cases hy : T.ty t with
 | none => rw [hy] at h; cases h
 | some y =>
  have hY := hT.ty t y hy
  rw [hy] at h
  cases hn : idx i with
  | none => rw [hn] at h; cases h
  | some n =>
   obtain ⟨kk, ii, rfl, hi0, hin⟩ := idx_rep hi hn
   rw [hn] at h
   simp only at h
   have hd := hY.d
   generalize y.d = d at h hd
   cases d with
   | slice e ke be =>
    simp only at h
    have gen : ∀ (A : Option Addr) (m c k : Nat) (xs : List (List PV)), rx = .slice A m c → RepP w (Im K H) (.slice A m c) (.sl k xs) → (bif Nat.beq k ke then (xs[n]?).map VV.ip else none) = some v →
      ∃ rv, (Instr.indexAt t rx (.int kk ii)).run P w = .ok rv w ∧ RepV w K H rv v ∧ Cl H.length v := by
     rintro A m c k xs rfl hP hh
     cases hk : Nat.beq k ke with
     | false => rw [hk] at hh; cases hh
     | true =>
      rw [hk] at hh
      simp only [cond_true] at hh
      obtain rfl := Nat.eq_of_beq_eq_true hk
      obtain ⟨x, hx, hv⟩ := Option.map_eq_some_iff.1 hh
      subst hv
      obtain ⟨hlt, b, off, rfl, f, f1, f2, f3⟩ := ip_at hP hx
      refine ⟨_, run_indexAt_sl hd hi0 (by omega), ?_, fun r hr => by simp [refs] at hr⟩
      rw [add_none, hin]
      exact .ip x b _ f f1 f2 f3
    cases hx with
    | bf id off m k b c A hK hn' hmc hm hA hz =>
     simp only at h
     cases hl : (Nat.blt n m && Nat.beq k ke) with
     | false => rw [hl] at h; cases h
     | true =>
      rw [hl] at h
      simp only [cond_true, Option.some.injEq] at h
      subst h
      simp only [Bool.and_eq_true] at hl
      have hlt : n < m := by simpa [Nat.blt_eq] using hl.1
      rw [hA (by omega)]
      refine ⟨_, run_indexAt_sl hd hi0 (by omega), ?_, fun r hr => hc r (by simpa [refs] using hr)⟩
      rw [add_none, hin]
      exact .ptr id _ b (hK (by omega)) hn'
    | sv A c k b off xs f hcc hm hk hA hi' hw hr h1 =>
     simp only at h
     cases hkk : Nat.beq k ke with
     | false => rw [hkk] at h; cases h
     | true =>
      rw [hkk] at h
      simp only [cond_true] at h
      obtain rfl := Nat.eq_of_beq_eq_true hkk
      obtain ⟨x, hx, rfl⟩ := Option.map_eq_some_iff.1 h
      have hlt := (List.getElem?_eq_some_iff.1 hx).1
      have hne : xs ≠ [] := by rintro rfl; simp at hx
      rw [hA hne]
      refine ⟨_, run_indexAt_sl hd hi0 (by omega), ?_, fun r hr => hc r ?_⟩
      ·rw [add_none, hin]
       exact .iv x b _ (f n) (fun j u hu => hi' n x j u hx hu) (fun j u hu => hw n x j u hx hu) (fun j u hu => hr n x j u hx hu) (fun j u hu => h1 n x j u hx hu)
      ·simp only [refs] at hr ⊢
       exact mem_refsLL.2 ⟨x, List.mem_of_getElem? hx, hr⟩
    | sw v0 id0 k xs h0 ht0 =>
     cases h0 with
     | sv A c _ b off _ f hcc hm hk hA hi' hw hr h1 =>
      simp only at h
      cases hkk : Nat.beq k ke with
      | false => rw [hkk] at h; cases h
      | true =>
       rw [hkk] at h
       simp only [cond_true] at h
       obtain rfl := Nat.eq_of_beq_eq_true hkk
       obtain ⟨x, hx, rfl⟩ := Option.map_eq_some_iff.1 h
       have hlt := (List.getElem?_eq_some_iff.1 hx).1
       have hne : xs ≠ [] := by rintro rfl; simp at hx
       rw [hA hne]
       refine ⟨_, run_indexAt_sl hd hi0 (by omega), ?_, fun r hr => hc r ?_⟩
       ·rw [add_none, hin]
        exact .iv x b _ (f n) (fun j u hu => hi' n x j u hx hu) (fun j u hu => hw n x j u hx hu) (fun j u hu => hr n x j u hx hu) (fun j u hu => h1 n x j u hx hu)
       ·simp only [refs] at hr ⊢
        exact List.mem_cons_of_mem _ (mem_refsLL.2 ⟨x, List.mem_of_getElem? hx, hr⟩)
    | p v0 x0 hP =>
     cases x0 with
     | sl k xs =>
      simp only [elemsOf] at h
      cases hP with
      | sl A c _ b off _ f hc1 hm hk hA hi' hw hr => exact gen A _ c k xs rfl (.sl A c _ b off _ f hc1 hm hk hA hi' hw hr) h
     | _ => cases h
    | so v0 id k xs hP ht =>
     simp only [elemsOf] at h
     cases hP with
     | sl A c _ b off _ f hc1 hm hk hA hi' hw hr => exact gen A _ c k xs rfl (.sl A c _ b off _ f hc1 hm hk hA hi' hw hr) h
    | sf A k xs hP =>
     simp only [elemsOf] at h
     exact gen A _ _ k xs rfl hP h
    | _ => cases h
   | arr m e ke =>
    simp only at h
    cases hl : Nat.blt n m with
    | false => rw [hl] at h; cases h
    | true =>
     rw [hl] at h
     simp only [cond_true] at h
     have hlt : n < m := by simpa [Nat.blt_eq] using hl
     cases hx with
     | ptr id off b hK hn' =>
      simp only [Option.some.injEq] at h
      subst h
      refine ⟨_, run_indexAt_arr hd hi0 (by omega), ?_, fun r hr => hc r (by simpa [refs] using hr)⟩
      rw [add_none, hin]
      exact .ptr id _ b hK hn'
     | ip cs b off f hi' hw hr =>
      simp only [Option.some.injEq] at h
      subst h
      refine ⟨_, run_indexAt_arr hd hi0 (by omega), ?_, fun r hr => by simp [refs] at hr⟩
      rw [add_none, hin]
      exact .ip _ b _ (fun j => f (n * ke + j)) (fun j u hu => by rw [Nat.add_assoc]; exact hi' _ u (by rwa [List.getElem?_drop] at hu)) (fun j u hu => by rw [Nat.add_assoc]; exact hw _ u (by rwa [List.getElem?_drop] at hu)) fun j u hu => hr _ u (by rwa [List.getElem?_drop] at hu)
     | iv cs b off f hi' hw hr h1 =>
      simp only [Option.some.injEq] at h
      subst h
      refine ⟨_, run_indexAt_arr hd hi0 (by omega), ?_, fun r hr => hc r ?_⟩
      ·rw [add_none, hin]
       exact .iv _ b _ (fun j => f (n * ke + j)) (fun j u hu => by rw [Nat.add_assoc]; exact hi' _ u (by rwa [List.getElem?_drop] at hu)) (fun j u hu => by rw [Nat.add_assoc]; exact hw _ u (by rwa [List.getElem?_drop] at hu)) (fun j u hu => hr _ u (by rwa [List.getElem?_drop] at hu)) fun j u hu => h1 _ u (by rwa [List.getElem?_drop] at hu)
      ·simp only [refs] at hr ⊢
       obtain ⟨c, h1, h2⟩ := mem_refsL.1 hr
       exact mem_refsL.2 ⟨c, List.mem_of_mem_drop h1, h2⟩
     | _ => cases h
   | _ => cases h

theorem run_fieldAt' {t f o sz : Nat} {fs : List (Nat × Nat)} {ad : Addr} (hd : TdOk P t (.struct fs)) (hf : fs[f]? = some (o, sz)) : (Instr.fieldAt t (.pointer (some ad)) f).run P w = .ok (.pointer (some (ad.add o))) w := by
 obtain ⟨fields, hu, hlen, hfs⟩ := hd
 have hlt := (List.getElem?_eq_some_iff.1 hf).1
 have hfl : fields[f]? = some (fields[f]'(by omega)) := Array.getElem?_eq_getElem _
 obtain ⟨i, hi, h1, h2⟩ := hfs f _ hfl
 rw [hf] at h1
 cases h1
 simp [Instr.fieldAt, run_underlying hu, hfl, Instr.sureAddr, fieldPlace, sizeOf, typeInfo, hi, h2]
theorem vfieldAddr_ok (hT : TabOk P T) {t f : Nat} {x v : VV} {rx : Value} (h : vfieldAddr T t x f = some v) (hx : RepV w K H rx x) (hc : Cl H.length x) :
  ∃ rv, (Instr.fieldAt t rx f).run P w = .ok rv w ∧ RepV w K H rv v ∧ Cl H.length v := by
 unfold vfieldAddr at h
 cases hy : T.ty t with
 | none => rw [hy] at h; cases h
 | some y =>
  have hY := hT.ty t y hy
  rw [hy] at h
  obtain ⟨d, size, zero, agg, cmp⟩ := y
  cases d with
  | struct fs =>
   simp only at h
   cases hf : fs[f]? with
   | none => rw [hf] at h; cases h
   | some os =>
    obtain ⟨o, sz⟩ := os
    rw [hf] at h
    simp only at h
    have hd := hY.d
    simp only at hd
    cases hx with
    | ptr id off b hK hn' =>
     simp only [Option.some.injEq] at h
     subst h
     refine ⟨_, run_fieldAt' hd hf, ?_, fun r hr => hc r (by simpa [refs] using hr)⟩
     rw [add_none]
     exact .ptr id _ b hK hn'
    | ip cs b off f' hi' hw hr =>
     simp only [Option.some.injEq] at h
     subst h
     refine ⟨_, run_fieldAt' hd hf, ?_, fun r hr => by simp [refs] at hr⟩
     rw [add_none]
     exact .ip _ b _ (fun j => f' (o + j)) (fun j u hu => by rw [Nat.add_assoc]; exact hi' _ u (by rwa [List.getElem?_drop] at hu)) (fun j u hu => by rw [Nat.add_assoc]; exact hw _ u (by rwa [List.getElem?_drop] at hu)) fun j u hu => hr _ u (by rwa [List.getElem?_drop] at hu)
    | iv cs b off f' hi' hw hr h1 =>
     simp only [Option.some.injEq] at h
     subst h
     refine ⟨_, run_fieldAt' hd hf, ?_, fun r hr => hc r ?_⟩
     ·rw [add_none]
      exact .iv _ b _ (fun j => f' (o + j)) (fun j u hu => by rw [Nat.add_assoc]; exact hi' _ u (by rwa [List.getElem?_drop] at hu)) (fun j u hu => by rw [Nat.add_assoc]; exact hw _ u (by rwa [List.getElem?_drop] at hu)) (fun j u hu => hr _ u (by rwa [List.getElem?_drop] at hu)) fun j u hu => h1 _ u (by rwa [List.getElem?_drop] at hu)
     ·simp only [refs] at hr ⊢
      obtain ⟨c, h1, h2⟩ := mem_refsL.1 hr
      exact mem_refsL.2 ⟨c, List.mem_of_mem_drop h1, h2⟩
    | _ => cases h
  | _ => cases h

theorem run_sliceAt' {t e ke be n c l h : Nat} {A : Option Addr} {lo hi : Option Value} (hd : TdOk P t (.slice e ke be)) (hn : n ≤ c) (hh : h ≤ n) (hl : l ≤ h)
  (hhi : (hi = none ∧ h = n) ∨ ∃ k i, hi = some (.int k i) ∧ 0 ≤ i ∧ i.toNat = h) (hlo : (lo = none ∧ l = 0) ∨ ∃ k i, lo = some (.int k i) ∧ 0 ≤ i ∧ i.toNat = l) :
  (Instr.sliceAt t (.slice A n c) lo hi none).run P w = .ok (.slice (if c = l then A else A.map (·.add (l * ke))) (h - l) (c - l)) w := by
 obtain ⟨hu, j, z, hj, hjk, _⟩ := hd
 rcases hhi with ⟨rfl, rfl⟩ | ⟨k, i, rfl, hi0, rfl⟩ <;> rcases hlo with ⟨rfl, rfl⟩ | ⟨k', i', rfl, hi0', rfl⟩
 ·simp [Instr.sliceAt, run_underlying hu, Instr.slice, Instr.sliceBounds, sizeOf, typeInfo, hj, hjk]
 ·have h1 : i' ≤ (h : Int) := by omega
  simp [Instr.sliceAt, run_underlying hu, Instr.slice, Instr.sliceBounds, Instr.sliceBound, asIntOf, hi0', h1, sizeOf, typeInfo, hj, hjk]
 ·have h1 : i ≤ (c : Int) := by omega
  simp [Instr.sliceAt, run_underlying hu, Instr.slice, Instr.sliceBounds, Instr.sliceBound, asIntOf, hi0, h1, sizeOf, typeInfo, hj, hjk]
 ·have h1 : i ≤ (c : Int) := by omega
  have h2 : i' ≤ i := by omega
  have h3 : max i 0 = i := by omega
  simp [Instr.sliceAt, run_underlying hu, Instr.slice, Instr.sliceBounds, Instr.sliceBound, asIntOf, hi0, h1, hi0', h3, h2, sizeOf, typeInfo, hj, hjk]
theorem RepP.cut {I : Nat → Nat → Prop} {A : Option Addr} {n c k ke l h : Nat} {xs : List (List PV)} (hP : RepP w I (.slice A n c) (.sl k xs)) (hf : fits k ke xs = true) (hh : h ≤ n) (hl : l ≤ h) :
  RepP w I (.slice (if c = l then A else A.map (·.add (l * ke))) (h - l) (c - l)) (.sl k ((xs.take h).drop l)) := by
 cases hP with
 | sl _ _ _ b off _ f hc hm hk hA hi hw hr =>
  have hlen : ((xs.take h).drop l).length = h - l := by simp; omega
  rw [← hlen]
  have hget : ∀ i x, ((xs.take h).drop l)[i]? = some x → xs[l + i]? = some x := fun i x hx => by
   rw [List.getElem?_drop, List.getElem?_take] at hx
   split at hx
   ·exact hx
   ·cases hx
  have hadd : ∀ i j, off + l * k + i * k + j = off + (l + i) * k + j := fun i j => by rw [Nat.add_mul]; omega
  refine .sl _ (c - l) k b (off + l * k) _ (fun i j => f (l + i) j) (by omega) (by omega) (fun x hx => hk x (List.mem_of_mem_take (List.mem_of_mem_drop hx))) (fun hne => ?_) (fun i x j u hx hu => ?_) (fun i x j u hx hu => ?_) fun i x j u hx hu => ?_
  ·have hpos : 0 < h - l := by rw [← hlen]; exact List.length_pos_iff.2 hne
   have hx : xs ≠ [] := by rintro rfl; simp at hh; omega
   have hke : k = ke := by
    unfold fits at hf
    simp only [Bool.or_eq_true] at hf
    rcases hf with hf | hf
    ·exact Nat.eq_of_beq_eq_true hf
    ·exact absurd (by simpa using hf) hx
   subst hke
   rw [if_neg (by omega), hA hx]
   simp only [Option.map_some, add_none]
  ·rw [hadd]; exact hi _ x j u (hget i x hx) hu
  ·rw [hadd]; exact hw _ x j u (hget i x hx) hu
  ·exact hr _ x j u (hget i x hx) hu
theorem bound_rep {ro : Option Value} {o : Option VV} {d n : Nat} (hr : (ro = none ∧ o = none) ∨ ∃ v x, ro = some v ∧ o = some x ∧ RepV w K H v x) (h : obound d o = some n) :
  (ro = none ∧ n = d) ∨ ∃ k i, ro = some (.int k i) ∧ 0 ≤ i ∧ i.toNat = n := by
 rcases hr with ⟨rfl, rfl⟩ | ⟨v, x, rfl, rfl, hv⟩
 ·simp [obound] at h
  exact .inl ⟨rfl, h.symm⟩
 ·obtain ⟨k, i, rfl, h1, h2⟩ := idx_rep hv (by simpa [obound] using h)
  exact .inr ⟨k, i, rfl, h1, h2⟩
theorem vslice_ok (hT : TabOk P T) {t : Nat} {x v : VV} {lo hi : Option VV} {rx : Value} {rlo rhi : Option Value} (h : vslice T t x lo hi = some v) (hx : RepV w K H rx x) (hc : Cl H.length x)
  (hlo : (rlo = none ∧ lo = none) ∨ ∃ v x, rlo = some v ∧ lo = some x ∧ RepV w K H v x) (hhi : (rhi = none ∧ hi = none) ∨ ∃ v x, rhi = some v ∧ hi = some x ∧ RepV w K H v x) :
  ∃ rv, (Instr.sliceAt t rx rlo rhi none).run P w = .ok rv w ∧ RepV w K H rv v ∧ Cl H.length v := by
 unfold vslice at h
 cases hy : T.ty t with
 | none => rw [hy] at h; cases h
 | some y =>
  have hY := hT.ty t y hy
  rw [hy] at h
  obtain ⟨d, size, zero, agg, cmp⟩ := y
  cases d with
  | slice e ke be =>
   have hd := hY.d
   simp only at hd h
   have gen : ∀ (A : Option Addr) (m c k : Nat) (xs : List (List PV)), rx = .slice A m c → RepP w (Im K H) (.slice A m c) (.sl k xs) →
     (match obound xs.length hi, obound 0 lo with
      | some h, some l => bif fits k ke xs && Nat.ble h xs.length && Nat.ble l h then some (VV.p (.sl k ((xs.take h).drop l))) else none
      | _, _ => none) = some v → ∃ rv, (Instr.sliceAt t rx rlo rhi none).run P w = .ok rv w ∧ RepV w K H rv v ∧ Cl H.length v := by
    rintro A m c k xs rfl hP h
    obtain ⟨hm, hmc, _⟩ := nil_of_none hP
    subst hm
    cases e1 : obound xs.length hi with
    | none => rw [e1] at h; cases h
    | some hh =>
     cases e2 : obound 0 lo with
     | none => rw [e1, e2] at h; cases h
     | some ll =>
      rw [e1, e2] at h
      simp only at h
      cases hb : (fits k ke xs && Nat.ble hh xs.length && Nat.ble ll hh) with
      | false => rw [hb] at h; cases h
      | true =>
       rw [hb] at h
       simp only [cond_true, Option.some.injEq] at h
       subst h
       simp only [Bool.and_eq_true] at hb
       obtain ⟨⟨b1, b2⟩, b3⟩ := hb
       have l1 : hh ≤ xs.length := Nat.le_of_ble_eq_true b2
       have l2 : ll ≤ hh := Nat.le_of_ble_eq_true b3
       refine ⟨_, run_sliceAt' hd hmc l1 l2 (bound_rep hhi e1) (bound_rep hlo e2), .p _ _ (hP.cut b1 l1 l2), cl_p _ _⟩
   cases hx with
   | bf id off m k b c A hK hn' hmc hm hA hz =>
    simp only at h
    cases e1 : obound m hi with
    | none => rw [e1] at h; cases h
    | some hh =>
     cases e2 : obound 0 lo with
     | none => rw [e1, e2] at h; cases h
     | some ll =>
      rw [e1, e2] at h
      simp only at h
      cases hb : (Nat.beq k ke && Nat.ble hh m && Nat.ble ll hh) with
      | false => rw [hb] at h; cases h
      | true =>
       rw [hb] at h
       simp only [cond_true, Option.some.injEq] at h
       subst h
       simp only [Bool.and_eq_true] at hb
       have l1 : hh ≤ m := Nat.le_of_ble_eq_true hb.1.2
       have l2 : ll ≤ hh := Nat.le_of_ble_eq_true hb.2
       refine ⟨_, run_sliceAt' hd hmc l1 l2 (bound_rep hhi e1) (bound_rep hlo e2), .bf id _ _ _ b _ _ (fun hne => hK (by omega)) hn' (by omega) (by omega) (fun hne => ?_) (fun hne => ?_), fun r hr => hc r (by simpa [refs] using hr)⟩
       ·rw [if_neg (by omega), hA (by omega)]
        simp only [Option.map_some, add_none]
       ·obtain ⟨vs, t, h1, h2⟩ := hz (by omega)
        refine ⟨vs, t, h1, ?_⟩
        have hkk := Nat.eq_of_beq_eq_true hb.1.1
        subst hkk
        have hle : ll * k ≤ c * k := Nat.mul_le_mul_right _ (by omega)
        rw [Nat.sub_mul]
        omega
   | p v0 x0 hP =>
    cases x0 with
    | sl k xs =>
     simp only [elemsOf] at h
     cases hP with
     | sl A c _ b off _ f hc1 hm hk hA hi' hw hr => exact gen A _ c k xs rfl (.sl A c _ b off _ f hc1 hm hk hA hi' hw hr) h
    | _ => simp only [elemsOf] at h; cases h
   | so v0 id k xs hP ht =>
    simp only [elemsOf] at h
    cases hP with
    | sl A c _ b off _ f hc1 hm hk hA hi' hw hr => exact gen A _ c k xs rfl (.sl A c _ b off _ f hc1 hm hk hA hi' hw hr) h
   | sf A k xs hP =>
    simp only [elemsOf] at h
    exact gen A _ _ k xs rfl hP h
   | _ => simp only [elemsOf] at h; cases h
  | _ => cases h
end
end Go.Proofs.Ythcicaelnchfdaa.Vm

/- A machine on values: its operations are true, part 6: numbers, lengths, literals, made slices. -/
namespace Go.Proofs.Ythcicaelnchfdaa.Vm
open Go
section
variable {P : Program} {T : Tab} {G : Ghost} {w : World} {K : Nat → Option Nat} {M M' : Mem} {H : List VObj}

theorem run_pureOf {s : Sem Value} {v : Value} (h : pureOf s = some v) : s.run P w = .ok v w := by
 unfold pureOf at h
 split at h
 ·cases h; rfl
 ·cases h
theorem eqGuard_int {op : BinOp} {t : TypeId} {x y : Operand} {k : IntKind} {n : Int} {v : Value} : eqGuard op t x y (.int k n) v = pure () := by cases op <;> rfl
theorem eqGuard_str {op : BinOp} {t : TypeId} {x y : Operand} {s : ByteArray} {v : Value} : eqGuard op t x y (.string s) v = pure () := by cases op <;> rfl
theorem eqGuard_bool {op : BinOp} {t : TypeId} {x y : Operand} {s : Bool} {v : Value} : eqGuard op t x y (.bool s) v = pure () := by cases op <;> rfl
theorem binOp_int {op : BinOp} {t : TypeId} {k k' : IntKind} {a b : Int} : Go.binOp op t (.int k a) (.int k' b) = Go.binOp op 0 (.int k a) (.int k' b) := by cases op <;> rfl
theorem binOp_str {op : BinOp} {t : TypeId} {a b : ByteArray} : Go.binOp op t (.string a) (.string b) = Op.stringOp op a b := by cases op <;> rfl

theorem int_cells : ∀ {vs : List Value} {xs : List VV} {ns : List Int}, PW (fun u c => RepV w K H u c) vs xs → cellInts xs = some ns → vs = ns.map (Value.int .i64)
 | [], xs, ns, h, e => by
  have : xs = [] := List.eq_nil_of_length_eq_zero (by have := h.1; simpa using this.symm)
  subst this
  simp [cellInts] at e
  subst e
  rfl
 | v :: vs, [], ns, h, e => by have := h.1; simp at this
 | v :: vs, x :: xs, ns, h, e => by
  unfold cellInts at e
  split at e
  ·rename_i heq; cases heq
  ·rename_i n r heq
   cases heq
   obtain ⟨ns', h1, rfl⟩ := Option.map_eq_some_iff.1 e
   have h0 := h.2 0 _ _ rfl rfl
   have := rep_int h0
   subst this
   rw [int_cells (vs := vs) ⟨by have := h.1; simpa using this, fun i a b ha hb => h.2 (i + 1) a b (by simpa using ha) (by simpa using hb)⟩ h1]
   rfl
  ·cases e
theorem agg_ints {v : Value} {xs : List VV} {ns : List Int} (h : RepV w K H v (.agg xs)) (e : cellInts xs = some ns) : v = nums ns ∧ ns.length = xs.length := by
 cases h with
 | agg vs cs hs h1 h =>
  have hp : PW (fun u c => RepV w K H u c) vs.toList xs := ⟨by simpa using hs, fun i a b ha hb => h i a b (by simpa using ha) hb⟩
  have := int_cells hp e
  refine ⟨?_, ?_⟩
  ·unfold nums
   rw [← this]
  ·rw [← hs, ← Array.length_toList, this]; simp
theorem veq_ints : ∀ {xs ys : List VV} {b : Bool}, veqCells xs ys = some b → ∃ ns ms, cellInts xs = some ns ∧ cellInts ys = some ms ∧ b = decide (ns = ms)
 | [], [], b, h => by simp [veqCells] at h; subst h; exact ⟨[], [], rfl, rfl, rfl⟩
 | [], y :: ys, b, h => by simp [veqCells] at h
 | x :: xs, [], b, h => by simp [veqCells] at h
 | x :: xs, y :: ys, b, h => by
  unfold veqCells at h
  split at h
  ·rename_i h1 h2; cases h1
  ·rename_i n r m s h1 h2
   cases h1
   cases h2
   obtain ⟨b', hb, rfl⟩ := Option.map_eq_some_iff.1 h
   obtain ⟨ns, ms, e1, e2, rfl⟩ := veq_ints hb
   refine ⟨n :: ns, m :: ms, by simp [cellInts, e1], by simp [cellInts, e2], ?_⟩
   by_cases h1 : n = m <;> by_cases h2 : ns = ms <;> simp [h1, h2]
  ·cases h

theorem vbin_ok (hT : TabOk P T) {op : BinOp} {t : Nat} {x y v : VV} {rx ry : Value} {ox oy : Operand} (h : vbin T op t x y = some v) (hx : RepV w K H rx x) (hy : RepV w K H ry y) :
  ∃ rv, (do eqGuard op t ox oy rx ry; Go.binOp op t rx ry : Sem Value).run P w = .ok rv w ∧ RepV w K H rv v ∧ Cl H.length v := by
 unfold vbin at h
 split at h
 ·rename_i k a k' b
  obtain ⟨rv, h1, rfl⟩ := Option.map_eq_some_iff.1 h
  rw [rep_int hx, rep_int hy, eqGuard_int, binOp_int]
  exact ⟨rv, by simpa using run_pureOf h1, ofValue_ok _, ofValue_cl _ _⟩
 ·rename_i a b
  obtain ⟨rv, h1, rfl⟩ := Option.map_eq_some_iff.1 h
  rw [rep_str hx, rep_str hy, eqGuard_str, binOp_str]
  exact ⟨rv, by simpa using run_pureOf h1, ofValue_ok _, ofValue_cl _ _⟩
 ·rename_i a b
  rw [rep_bool hx, rep_bool hy, eqGuard_bool]
  split at h
  ·rename_i hty
   cases h
   have hd := (hT.ty _ _ hty).d
   have hd : P.underlying t = some .bool := hd
   refine ⟨.bool (a == b), ?_, .p _ _ (.bool _), cl_p _ _⟩
   simp [Go.binOp, Op.equal, Op.maxDepth, run_equalIn_bool' w 9999 t a b hd]
  ·rename_i hty
   cases h
   have hd := (hT.ty _ _ hty).d
   have hd : P.underlying t = some .bool := hd
   refine ⟨.bool (!(a == b)), ?_, .p _ _ (.bool _), cl_p _ _⟩
   simp [Go.binOp, Op.equal, Op.maxDepth, run_equalIn_bool' w 9999 t a b hd]
  ·cases h
 ·rename_i xs ys
  split at h
  ·rename_i ty hty
   have hY := hT.ty _ _ hty
   cases hb : (ty.cmp && Nat.beq xs.length ty.size && Nat.beq ys.length ty.size) with
   | false => rw [hb] at h; cases h
   | true =>
    rw [hb] at h
    simp only [cond_true] at h
    simp only [Bool.and_eq_true] at hb
    obtain ⟨⟨hc, h1⟩, h2⟩ := hb
    have hC := hY.cmp hc
    have l1 := Nat.eq_of_beq_eq_true h1
    have l2 := Nat.eq_of_beq_eq_true h2
    split at h
    ·obtain ⟨b, hb, rfl⟩ := Option.map_eq_some_iff.1 h
     obtain ⟨ns, ms, e1, e2, rfl⟩ := veq_ints hb
     obtain ⟨rfl, n1⟩ := agg_ints hx e1
     obtain ⟨rfl, n2⟩ := agg_ints hy e2
     refine ⟨_, ?_, .p _ _ (.bool _), cl_p _ _⟩
     unfold nums
     rw [Sem.run_bind, run_eqGuard_agg w .eql t ox oy _ _ hC.guard]
     simp only [Result.andThen_ok, run_eql_struct]
     have := hC.eq ns ms w (by omega) (by omega)
     unfold nums Op.equal Op.maxDepth at this
     rw [this]
     rfl
    ·obtain ⟨b, hb, rfl⟩ := Option.map_eq_some_iff.1 h
     obtain ⟨ns, ms, e1, e2, rfl⟩ := veq_ints hb
     obtain ⟨rfl, n1⟩ := agg_ints hx e1
     obtain ⟨rfl, n2⟩ := agg_ints hy e2
     refine ⟨_, ?_, .p _ _ (.bool _), cl_p _ _⟩
     unfold nums
     rw [Sem.run_bind, run_eqGuard_agg w .neq t ox oy _ _ hC.guard]
     simp only [Result.andThen_ok, run_neq_struct]
     have := hC.eq ns ms w (by omega) (by omega)
     unfold nums Op.equal Op.maxDepth at this
     rw [this]
     rfl
    ·cases h
  ·cases h
 ·cases h

theorem vun_ok {op : UnOp} {x v : VV} {rx : Value} (h : vun op x = some v) (hx : RepV w K H rx x) : ∃ rv, (Op.unary op rx).run P w = .ok rv w ∧ RepV w K H rv v ∧ Cl H.length v := by
 unfold vun at h
 split at h
 ·obtain ⟨rv, h1, rfl⟩ := Option.map_eq_some_iff.1 h
  rw [rep_int hx]
  exact ⟨rv, run_pureOf h1, ofValue_ok _, ofValue_cl _ _⟩
 ·obtain ⟨rv, h1, rfl⟩ := Option.map_eq_some_iff.1 h
  rw [rep_bool hx]
  exact ⟨rv, run_pureOf h1, ofValue_ok _, ofValue_cl _ _⟩
 ·cases h
theorem vconvert_ok (hT : TabOk P T) {s d : Nat} {x v : VV} {rx : Value} (h : vconvert T s d x = some v) (hx : RepV w K H rx x) : ∃ rv, (Go.convert s d rx).run P w = .ok rv w ∧ RepV w K H rv v ∧ Cl H.length v := by
 unfold vconvert at h
 split at h
 ·rename_i ys k size zero agg cmp k' n hs hd
  obtain ⟨rv, h1, rfl⟩ := Option.map_eq_some_iff.1 h
  rw [rep_int hx]
  obtain ⟨ds, hds, _⟩ := (hT.ty _ _ hs).agg
  have hdd : P.underlying d = some (.int k) := (hT.ty _ _ hd).d
  refine ⟨rv, ?_, ofValue_ok _, ofValue_cl _ _⟩
  have := run_pureOf (P := P) (w := w) h1
  simp [Go.convert, run_underlying hds, run_underlying hdd, this]
 ·cases h
theorem vlen_ok (hT : TabOk P T) (hI : Inv G w K M) {t ty : Nat} {x v : VV} {rx : Value} (h : vlen T t x M = some v) (hx : RepV w K M.H rx x) : ∃ rv, (Builtin.len_ #[t] ty #[rx]).run P w = .ok rv w ∧ RepV w K M.H rv v ∧ Cl M.H.length v := by
 unfold vlen at h
 have sl : ∀ (A : Option Addr) (n c : Nat) (e ke be : Nat), TdOk P t (.slice e ke be) → (Builtin.len_ #[t] ty #[.slice A n c]).run P w = .ok (.int .i64 n) w := fun A n c e ke be hd => by
  simp [Builtin.len_, run_underlying hd.1, goInt]
 split at h
 ·rename_i e ke be size zero agg cmp hty
  have hd : TdOk P t (.slice e ke be) := (hT.ty _ _ hty).d
  cases hx with
  | bf id off n k b c A hK hn' hmc hm hA => simp only [Option.some.injEq] at h; subst h; exact ⟨_, sl _ _ _ _ _ _ hd, .p _ _ (.int _ _), cl_p _ _⟩
  | sv A c k b off xs f hcc hm hk hA hi' hw hr h1 => simp only [Option.some.injEq] at h; subst h; exact ⟨_, sl _ _ _ _ _ _ hd, .p _ _ (.int _ _), cl_p _ _⟩
  | sw v0 id0 k xs h0 ht0 =>
   cases h0 with
   | sv A c _ b off _ f hcc hm hk hA hi' hw hr h1 => simp only [Option.some.injEq] at h; subst h; exact ⟨_, sl _ _ _ _ _ _ hd, .p _ _ (.int _ _), cl_p _ _⟩
  | p v0 x0 hP =>
   cases x0 with
   | sl k xs =>
    simp only [elemsOf, Option.map_some, Option.some.injEq] at h
    subst h
    cases hP with
    | sl A c _ b off _ f hc1 hm hk hA hi' hw hr => exact ⟨_, sl _ _ _ _ _ _ hd, .p _ _ (.int _ _), cl_p _ _⟩
   | _ => simp [elemsOf] at h
  | so v0 id k xs hP ht =>
   simp only [elemsOf, Option.map_some, Option.some.injEq] at h
   subst h
   cases hP with
   | sl A c _ b off _ f hc1 hm hk hA hi' hw hr => exact ⟨_, sl _ _ _ _ _ _ hd, .p _ _ (.int _ _), cl_p _ _⟩
  | sf A k xs hP =>
   simp only [elemsOf, Option.map_some, Option.some.injEq] at h
   subst h
   exact ⟨_, sl _ _ _ _ _ _ hd, .p _ _ (.int _ _), cl_p _ _⟩
  | _ => simp [elemsOf] at h
 ·rename_i size zero agg cmp hty
  have hd : P.underlying t = some .string := (hT.ty _ _ hty).d
  split at h
  ·cases h
   rw [rep_str hx]
   exact ⟨_, by simp [Builtin.len_, run_underlying hd, goInt], .p _ _ (.int _ _), cl_p _ _⟩
  ·cases h
 ·rename_i kt et size zero agg cmp hty
  have hd : P.underlying t = some (.map kt et) := (hT.ty _ _ hty).d
  split at h
  ·cases h
   cases hx with
   | p _ _ h =>
    cases h
    exact ⟨_, by simp [Builtin.len_, run_underlying hd, goInt], .p _ _ (.int _ _), cl_p _ _⟩
  ·rename_i id
   split at h
   ·rename_i sh es ho
    cases h
    cases hx with
    | mp _ b hK hn =>
     obtain ⟨b', ents, clock, e, h1, h2, _⟩ := hI.obj id _ ho
     rw [hK] at e
     cases e
     have hg : (getObj b).run P w = .ok (.map ents clock) w := MapKept.run_getObj_map h1
     exact ⟨_, by simp [Builtin.len_, run_underlying hd, goInt, hg, h2], .p _ _ (.int _ _), cl_p _ _⟩
   ·cases h
  ·cases h
 ·rename_i n e ke size zero agg cmp hty
  have hd : TdOk P t (.arr n e ke) := (hT.ty _ _ hty).d
  cases h
  exact ⟨_, by simp [Builtin.len_, run_underlying hd.1, goInt], .p _ _ (.int _ _), cl_p _ _⟩
 ·cases h

theorem vexts_ok (mx : Bool) : ∀ (ys : List VV) (rys : List Value) (x v : VV) (rx : Value), PW (fun u c => RepV w K H u c) rys ys → RepV w K H rx x → Cl H.length x → vexts mx x ys = some v →
  ∃ rv, (rys.foldlM (fun a b => bif mx then Builtin.max2 a b else Builtin.min2 a b) rx : Sem Value).run P w = .ok rv w ∧ RepV w K H rv v ∧ Cl H.length v
 | [], rys, x, v, rx, hp, hx, hc, h => by
  have : rys = [] := List.eq_nil_of_length_eq_zero (by have := hp.1; simpa using this)
  subst this
  simp only [vexts, Option.some.injEq] at h
  subst h
  exact ⟨rx, by simp, hx, hc⟩
 | y :: ys, [], x, v, rx, hp, hx, hc, h => by have := hp.1; simp at this
 | y :: ys, ry :: rys, x, v, rx, hp, hx, hc, h => by
  simp only [vexts] at h
  cases hz : vext mx x y with
  | none => rw [hz] at h; cases h
  | some z =>
   rw [hz] at h
   simp only at h
   have hy := hp.2 0 ry y rfl rfl
   have hp' : PW (fun u c => RepV w K H u c) rys ys := ⟨by have := hp.1; simpa using this, fun i a b ha hb => hp.2 (i + 1) a b (by simpa using ha) (by simpa using hb)⟩
   unfold vext at hz
   split at hz
   ·rename_i k a k' b
    cases hz
    rw [rep_int hx, rep_int hy]
    obtain ⟨rv, h1, h2, h3⟩ := vexts_ok mx ys rys _ v (.int k (bif mx then (bif decide (b > a) then b else a) else (bif decide (b < a) then b else a))) hp' (.p _ _ (.int _ _)) (cl_p _ _) h
    refine ⟨rv, ?_, h2, h3⟩
    rw [List.foldlM_cons, Sem.run_bind]
    cases mx with
    | true =>
     simp only [cond_true, Builtin.max2, Sem.run_pure, Result.andThen_ok] at h1 ⊢
     by_cases hba : b > a <;> simpa [hba] using h1
    | false =>
     simp only [cond_false, Builtin.min2, Sem.run_pure, Result.andThen_ok] at h1 ⊢
     by_cases hba : b < a <;> simpa [hba] using h1
   ·cases hz

theorem run_part' {e n : Nat} {y : Ty} (h : TyOk P e y) {cs : Array Value} (hfit : n + y.size ≤ cs.size) : (part e cs n).run P w = .ok (bif y.agg then .agg (cs.extract n (n + y.size)) else cs.getD n undef) w := by
 unfold part
 rw [Sem.run_bind, run_isAgg' h]
 cases ha : y.agg with
 | true => simp [run_size' h]
 | false =>
  have := h.flat ha
  have hl : n < cs.size := by omega
  simp [Array.getElem?_eq_getElem hl]
theorem vindex_ok (hT : TabOk P T) {t : Nat} {x i v : VV} {rx ri : Value} (h : vindex T t x i = some v) (hx : RepV w K H rx x) (hi : RepV w K H ri i) (hc : Cl H.length x) :
  ∃ rv, (Instr.index t rx ri).run P w = .ok rv w ∧ RepV w K H rv v ∧ Cl H.length v := by
 unfold vindex at h
 split at h
 ·rename_i size zero agg cmp n hty hn
  obtain ⟨k, j, rfl, h0, rfl⟩ := idx_rep hi hn
  have hd : P.underlying t = some .string := (hT.ty _ _ hty).d
  split at h
  ·rename_i s
   split at h
   ·rename_i b hb
    cases h
    rw [rep_str hx]
    exact ⟨_, by simp [Instr.index, asIntOf, run_underlying hd, h0, hb], .p _ _ (.int _ _), cl_p _ _⟩
   ·cases h
  ·cases h
 ·rename_i m e ke size zero agg cmp n hty hn
  obtain ⟨k, j, rfl, h0, rfl⟩ := idx_rep hi hn
  have hd : TdOk P t (.arr m e ke) := (hT.ty _ _ hty).d
  obtain ⟨hu, ii, hii, hik⟩ := hd
  split at h
  ·rename_i y cs hye
   have hY := hT.ty _ _ hye
   have hke : y.size = ke := by
    obtain ⟨i2, hi2, h3, _⟩ := hY.info
    rw [hii] at hi2
    cases hi2
    omega
   cases hb : Nat.blt j.toNat m with
   | false => rw [hb] at h; cases h
   | true =>
    rw [hb] at h
    simp only [cond_true] at h
    have hlt : j.toNat < m := by simpa [Nat.blt_eq] using hb
    have hlt' : j < (m : Int) := by omega
    cases hx with
    | agg vs _ hs h1 hh =>
     cases hag : y.agg with
     | true =>
      rw [hag] at h
      simp only [cond_true, Option.some.injEq] at h
      subst h
      refine ⟨.agg (vs.extract (j.toNat * ke) (j.toNat * ke + y.size)), ?_, ?_, ?_⟩
      ·have hpart : (part e vs (j.toNat * ke)).run P w = .ok (.agg (vs.extract (j.toNat * ke) (j.toNat * ke + y.size))) w := by
        unfold part
        rw [Sem.run_bind, run_isAgg' hY, hag]
        simp [run_size' hY]
       simp [Instr.index, asIntOf, run_underlying hu, h0, hlt', sizeOf, typeInfo, hii, hik, hpart]
      ·refine .agg _ _ (by simp; omega) (fun i u hu => ?_) fun i u c hu hcc => ?_
       ·rw [Array.getElem?_extract] at hu
        split at hu
        ·exact h1 _ u hu
        ·cases hu
       ·rw [Array.getElem?_extract] at hu
        split at hu
        ·rw [List.getElem?_take] at hcc
         split at hcc
         ·rw [List.getElem?_drop] at hcc
          exact hh _ u c hu hcc
         ·cases hcc
        ·cases hu
      ·exact cl_agg.2 fun c hcc => cl_agg.1 hc c (List.mem_of_mem_drop (List.mem_of_mem_take hcc))
     | false =>
      rw [hag] at h
      simp only [cond_false] at h
      have hl := (List.getElem?_eq_some_iff.1 h).1
      have hf := hY.flat hag
      refine ⟨vs.getD (j.toNat * ke) undef, ?_, ?_, cl_agg.1 hc v (List.mem_of_getElem? h)⟩
      ·simp only [Instr.index, asIntOf, Sem.run_bind, Sem.run_pure, Result.andThen_ok, run_underlying hu, sizeOf, typeInfo, program, Sem.run, hii, hik, h0, hlt', and_self, if_true]
       rw [run_part' hY (by omega), hag]
       rfl
      ·exact hh _ _ v (by simp [Array.getElem?_eq_getElem (show j.toNat * ke < vs.size by omega)]) h
  ·cases h
 ·cases h
end
end Go.Proofs.Ythcicaelnchfdaa.Vm
