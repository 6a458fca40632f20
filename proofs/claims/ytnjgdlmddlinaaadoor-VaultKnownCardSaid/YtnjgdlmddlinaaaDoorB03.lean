/- A part of the proofs about the chapter of the vaults; it states no condition of its own. -/
import Derived.Test.YtnjgdlmddlinaaaDoorB02
set_option linter.unusedVariables false
set_option linter.unusedSimpArgs false
/- A machine on values: slices of our own whose rows hold values. -/
namespace Go.Proofs.YtnjgdlmddlinaaaDoor.Vm
open Go
section
variable {P : Program} {T : Tab} {G : Ghost} {w : World} {K : Nat → Option Nat} {M M' : Mem} {H : List VObj}

theorem sv_flat {v : Value} {k : Nat} {xs : List (List VV)} (h : RepV w K H v (.sv k xs)) (hk : 0 < k) :
  ∃ (A : Option Addr) (c : Nat) (news : List Value), v = .slice A xs.length c ∧ xs.length ≤ c ∧ c ≤ maxLen ∧ news.length = xs.length * k ∧
   (xs ≠ [] → ∃ b off, A = some ⟨b, off, none⟩ ∧ ∀ (j : Nat) (u : Value), news[j]? = some u → w.cell? ⟨b, off + j, none⟩ = some u) ∧ (∀ u ∈ news, isOne u = true) ∧ (∀ x ∈ xs, x.length = k) ∧
   (∀ (i : Nat) (x : List VV) (j : Nat) (u : VV), xs[i]? = some x → x[j]? = some u → j < k ∧ ∃ r, news[i * k + j]? = some r ∧ RepV w K H r u ∧ isOne r = true) := by
 cases h with
 | sv A c _ b off _ f hc hm hkk hA hi hw hr h1 =>
  have hat : ∀ j, j < xs.length * k → ∃ x u, xs[j / k]? = some x ∧ x[j % k]? = some u := fun j hj => by
   have hd : j / k < xs.length := Nat.div_lt_of_lt_mul (by rw [Nat.mul_comm]; exact hj)
   have hx := hkk xs[j / k] (List.getElem_mem hd)
   have hmm := Nat.mod_lt j hk
   exact ⟨_, _, List.getElem?_eq_getElem hd, List.getElem?_eq_getElem (by rw [hx]; exact hmm)⟩
  refine ⟨A, c, (List.range (xs.length * k)).map fun j => f (j / k) (j % k), rfl, hc, hm, by simp, fun hne => ⟨b, off, hA hne, fun j u hj => ?_⟩, fun u hu => ?_, hkk, fun i x j u hx hu => ?_⟩
  ·rw [List.getElem?_map] at hj
   obtain ⟨j', h1, rfl⟩ := Option.map_eq_some_iff.1 hj
   obtain ⟨hlt, he⟩ := List.getElem?_eq_some_iff.1 h1
   simp at hlt he
   subst he
   obtain ⟨x, u, h2, h3⟩ := hat j hlt
   have := hw _ x _ u h2 h3
   rwa [Nat.add_assoc, Nat.mul_comm, Nat.div_add_mod] at this
  ·obtain ⟨j, hj, rfl⟩ := List.mem_map.1 hu
   obtain ⟨x, u, h2, h3⟩ := hat j (by simpa using hj)
   exact h1 _ x _ u h2 h3
  ·have hx1 := hkk x (List.mem_of_getElem? hx)
   have hj := (List.getElem?_eq_some_iff.1 hu).1
   have hi' := (List.getElem?_eq_some_iff.1 hx).1
   have hjk : j < k := by omega
   have hlt : i * k + j < xs.length * k := by
    have : (i + 1) * k ≤ xs.length * k := Nat.mul_le_mul_right _ hi'
    rw [Nat.add_mul] at this
    omega
   refine ⟨hjk, f i j, ?_, hr i x j u hx hu, h1 i x j u hx hu⟩
   rw [List.getElem?_map, List.getElem?_range hlt]
   simp only [Option.map_some]
   have e1 : (i * k + j) / k = i := by rw [Nat.mul_comm, Nat.mul_add_div hk, Nat.div_eq_of_lt hjk]; rfl
   have e2 : (i * k + j) % k = j := by rw [Nat.mul_comm, Nat.mul_add_mod, Nat.mod_eq_of_lt hjk]
   rw [e1, e2]
theorem RepV.row {g k cap : Nat} {vs : Array Value} {t : TypeId} {xs : List (List VV)} {all : List Value} (hk : 0 < k) (hg : w.heap[g]? = some (.cells vs t (0, 0))) (hlen : ∀ x ∈ xs, x.length = k)
  (hcap : xs.length ≤ cap) (hmax : cap ≤ maxLen) (hI : ∀ o, o < xs.length * k → Im K H g o) (hall : ∀ o, o < xs.length * k → vs[o]? = all[o]?)
  (hr : ∀ (i : Nat) (x : List VV) (j : Nat) (u : VV), xs[i]? = some x → x[j]? = some u → j < k ∧ ∃ r, all[i * k + j]? = some r ∧ RepV w K H r u ∧ isOne r = true) : RepV w K H (.slice (some ⟨g, 0, none⟩) xs.length cap) (.sv k xs) := by
 have hlt : ∀ (i : Nat) (x : List VV) (j : Nat) (u : VV), xs[i]? = some x → x[j]? = some u → i * k + j < xs.length * k := fun i x j u hx hu => by
  have h1 := (List.getElem?_eq_some_iff.1 hx).1
  have h2 := (hr i x j u hx hu).1
  have : (i + 1) * k ≤ xs.length * k := Nat.mul_le_mul_right _ h1
  rw [Nat.add_mul] at this
  omega
 refine .sv (some ⟨g, 0, none⟩) cap k g 0 xs (fun i j => all.getD (i * k + j) undef) hcap hmax hlen (fun _ => rfl) (fun i x j u hx hu => ?_) (fun i x j u hx hu => ?_) (fun i x j u hx hu => ?_) fun i x j u hx hu => ?_
 ·rw [Nat.zero_add]
  exact hI _ (hlt i x j u hx hu)
 ·obtain ⟨_, r, h1, h2⟩ := hr i x j u hx hu
  rw [Nat.zero_add]
  simp only [World.cell?, hg, List.getD, h1, Option.getD_some]
  rw [hall _ (hlt i x j u hx hu), h1]
  rfl
 ·obtain ⟨_, r, h1, h2, _⟩ := hr i x j u hx hu
  simp only [List.getD, h1, Option.getD_some]
  exact h2
 ·obtain ⟨_, r, h1, _, h2⟩ := hr i x j u hx hu
  simp only [List.getD, h1, Option.getD_some]
  exact h2
theorem two_rowsV {α : Type} {R : Value → α → Prop} {k : Nat} {xs ys : List (List α)} {olds news : List Value} (ho : olds.length = xs.length * k)
  (h1 : ∀ (i : Nat) (x : List α) (j : Nat) (u : α), xs[i]? = some x → x[j]? = some u → j < k ∧ ∃ r, olds[i * k + j]? = some r ∧ R r u)
  (h2 : ∀ (i : Nat) (x : List α) (j : Nat) (u : α), ys[i]? = some x → x[j]? = some u → j < k ∧ ∃ r, news[i * k + j]? = some r ∧ R r u) :
  ∀ (i : Nat) (x : List α) (j : Nat) (u : α), (xs ++ ys)[i]? = some x → x[j]? = some u → j < k ∧ ∃ r, (olds ++ news)[i * k + j]? = some r ∧ R r u := by
 intro i x j u hxx hu
 rcases Nat.lt_or_ge i xs.length with hl | hl
 ·rw [List.getElem?_append_left hl] at hxx
  obtain ⟨h, r, h3, h4⟩ := h1 i x j u hxx hu
  refine ⟨h, r, ?_, h4⟩
  rw [List.getElem?_append_left]
  ·exact h3
  ·exact (List.getElem?_eq_some_iff.1 h3).1
 ·rw [List.getElem?_append_right hl] at hxx
  obtain ⟨h, r, h3, h4⟩ := h2 _ x j u hxx hu
  refine ⟨h, r, ?_, h4⟩
  have e : i * k + j = olds.length + ((i - xs.length) * k + j) := by
   rw [ho, Nat.sub_mul]
   have : xs.length * k ≤ i * k := Nat.mul_le_mul_right _ hl
   omega
  rw [e, List.getElem?_append_right (by omega), Nat.add_sub_cancel_left]
  exact h3
theorem run_growR {t ty e ke be n m c c2 b2 f2 : Nat} {A : Option Addr} {olds news : List Value} (hd : TdOk P t (.slice e ke be)) (o3 : olds.length = n * ke)
  (o4 : n ≠ 0 → ∃ b off, A = some ⟨b, off, none⟩ ∧ ∀ (j : Nat) (u : Value), olds[j]? = some u → w.cell? ⟨b, off + j, none⟩ = some u)
  (n3 : news.length = m * ke) (m4 : ∀ (j : Nat) (u : Value), news[j]? = some u → w.cell? ⟨b2, f2 + j, none⟩ = some u) (hA : A = none → n = 0 ∧ c = 0) (hpos : 0 < m) (hc : c < n + m) (hb : (n + m) * be ≤ 140737488355328) :
  ∃ cap vs, (Builtin.append_ #[t, t] ty #[.slice A n c, .slice (some ⟨b2, f2, none⟩) m c2]).run P w = .ok (.slice (some ⟨w.heap.size, 0, none⟩) (n + m) cap) (w.drew.alloc (.cells vs e)) ∧
   n + m ≤ cap ∧ cap ≤ maxLen ∧ vs.size = cap * ke ∧ ∀ (j : Nat) (r : Value), (olds ++ news)[j]? = some r → vs.toList[j]? = some r := by
 obtain ⟨hu, i, z, hi, hik, hib, hz, hzs, hk, hbe⟩ := hd
 have hlen : n + m ≤ 140737488355328 := Nat.le_trans (Nat.le_mul_of_pos_right _ hbe) hb
 have hnews : ∀ (j : Nat) (v : Value), news[j]? = some v → w.cell? ((⟨b2, f2, none⟩ : Addr).add j) = some v := fun j v hv => by rw [add_none]; exact m4 j v hv
 have key : ∀ rest : Array Value, ∀ (j : Nat) (r : Value), (olds ++ news)[j]? = some r → (olds.toArray ++ news.toArray ++ rest).toList[j]? = some r := by
  intro rest j r h1
  simp only [Array.toList_append]
  rw [List.getElem?_append_left (List.getElem?_eq_some_iff.1 h1).1]
  exact h1
 have hcapm : ∀ old, grownCap w (n + m) old e ≤ maxLen := fun old => grownCap_le_maxLen w _ old e (by unfold maxLen; omega)
 have hcapg : ∀ old, n + m ≤ grownCap w (n + m) old e := fun old => grownCap_ge w _ old e
 have hsize : ∀ old, (olds.toArray ++ news.toArray ++ Builtin.zeroCells z.cells (grownCap w (n + m) old e - (n + m))).size = grownCap w (n + m) old e * ke := fun old => by
  have := hcapg old
  simp only [Array.size_append, List.size_toArray, size_zeroCells, hzs, o3, n3, ← Nat.add_mul]
  congr 1
  omega
 rcases A with _ | ad
 ·obtain ⟨rfl, rfl⟩ := hA rfl
  have ho : olds = [] := List.eq_nil_of_length_eq_zero (by simpa using o3)
  subst ho
  have hr := run_append_nil (P := P) w t ty e i z hu hi hz ⟨b2, f2, none⟩ m c2 news (by rw [hik]; exact n3) hnews hpos (by omega) (by rw [hib]; simp at hb; omega)
  have h1 := hcapg 0
  have h2 := hcapm 0
  have h3 := hsize 0
  have h4 := key (Builtin.zeroCells z.cells (grownCap w (0 + m) 0 e - (0 + m)))
  simp only [Nat.zero_add] at h1 h2 h3 h4 hr ⊢
  simp only [Array.empty_append] at h3 h4
  exact ⟨_, _, hr, h1, h2, h3, h4⟩
 ·have hr := run_append_grow (P := P) w t ty e i z hu hi hz ad n c olds (by rw [hik]; exact o3) (fun j v hv => by
    have hne : n ≠ 0 := by
     rintro rfl
     have : olds = [] := List.eq_nil_of_length_eq_zero (by simpa using o3)
     subst this
     simp at hv
    obtain ⟨b, off, hb, hcell⟩ := o4 hne
    cases hb
    rw [add_none]
    exact hcell j v hv) ⟨b2, f2, none⟩ m c2 news (by rw [hik]; exact n3) hnews hc (by omega) (by rw [hib]; exact growslice_fits hc hb)
  exact ⟨_, _, hr, hcapg c, hcapm c, hsize c, key _⟩
theorem vappendV_ok (hI : Inv G w K M) {t ty e ke be : Nat} {s x v : VV} {rs rx : Value} (hd : TdOk P t (.slice e ke be)) (h : vappendV ke be s x M = some (v, M')) (hs : RepV w K M.H rs s) (hx : RepV w K M.H rx x) (hcs : Cl M.H.length s) (hcx : Cl M.H.length x) :
  ∃ rv w' K', (Builtin.append_ #[t, t] ty #[rs, rx]).run P w = .ok rv w' ∧ RepV w' K' M'.H rv v ∧ Cl M'.H.length v ∧ Ext w K M.H w' K' M'.H ∧ Inv G w' K' M' := by
 unfold vappendV at h
 obtain ⟨hu, i, z, hi, hik, hib, hz, hzs, hk, hbe⟩ := id hd
 split at h
 case h_2 => cases h
 rename_i k ys
 cases hf : (Nat.beq k ke && !ys.isEmpty) with
 | false => rw [hf] at h; cases h
 | true =>
  rw [hf] at h
  simp only [Bool.and_eq_true] at hf
  obtain ⟨hf1, hf2⟩ := hf
  obtain rfl := Nat.eq_of_beq_eq_true hf1
  have hys : ys ≠ [] := by rintro rfl; simp at hf2
  simp only [cond_true] at h
  split at h
  case h_2 => cases h
  rename_i id k' xs
  split at h
  case h_2 => cases h
  rename_i m k'' hid
  cases hg : (Nat.beq m xs.length && Nat.beq k'' k && Nat.beq k' k && Nat.ble ((xs.length + ys.length) * be) 140737488355328) with
  | false => rw [hg] at h; cases h
  | true =>
   rw [hg] at h
   simp only [cond_true, Option.some.injEq, Prod.mk.injEq] at h
   obtain ⟨rfl, rfl⟩ := h
   simp only [Bool.and_eq_true] at hg
   obtain ⟨⟨⟨g1, g2⟩, g3⟩, g4⟩ := hg
   obtain rfl := Nat.eq_of_beq_eq_true g1
   obtain rfl := Nat.eq_of_beq_eq_true g2
   obtain rfl := Nat.eq_of_beq_eq_true g3
   have hbb : (xs.length + ys.length) * be ≤ 140737488355328 := Nat.le_of_ble_eq_true g4
   cases hs with
   | sw _ _ _ _ hP hTI =>
   obtain ⟨_, hTI2⟩ := hTI _ _ hid
   obtain ⟨_, hTI2⟩ := hTI2 rfl
   have hil := (List.getElem?_eq_some_iff.1 hid).1
   have hpos : 0 < ys.length := List.length_pos_iff.2 hys
   obtain ⟨A2, c2, news, rfl, n1, n2, n3, n4, n5, n6, n7⟩ := sv_flat hx hk
   obtain ⟨b2, f2, rfl, m4⟩ := n4 hys
   obtain ⟨A1, c1, olds, rfl, o1, o2, o3, o4, o5, o6, o7⟩ := sv_flat hP hk
   have hlen : ∀ x ∈ xs ++ ys, x.length = k' := fun x hx => by rcases List.mem_append.1 hx with h | h; exact o6 x h; exact n6 x h
   have hrows := two_rowsV (R := fun r u => RepV w K M.H r u ∧ isOne r = true) o3 o7 n7
   have hclo : ∀ (i : Nat) (x : List VV) (j : Nat) (u : VV), (xs ++ ys)[i]? = some x → x[j]? = some u → Cl M.H.length u := fun i x j u a b r hr => by
    rcases List.mem_append.1 (List.mem_of_getElem? a) with hm | hm
    ·exact hcs r (by simp only [refs, List.mem_cons]; exact .inr (mem_refsLL.2 ⟨x, hm, refsL_get b hr⟩))
    ·exact hcx r (by simp only [refs]; exact mem_refsLL.2 ⟨x, hm, refsL_get b hr⟩)
   have hclm : Cl (M.H.set id (.clm (xs.length + ys.length) k')).length (.sw id k' (xs ++ ys)) := fun r hr => by
    simp only [refs, List.mem_cons] at hr
    rw [List.length_set]
    rcases hr with rfl | hr
    ·exact hil
    ·obtain ⟨x, hx1, hr⟩ := mem_refsLL.1 hr
     obtain ⟨u, hu1, hr⟩ := mem_refsL.1 hr
     obtain ⟨i, hi1⟩ := List.getElem?_of_mem hx1
     obtain ⟨j, hj1⟩ := List.getElem?_of_mem hu1
     exact hclo i x j u hi1 hj1 r hr
   have grow : (A1 = none → xs.length = 0 ∧ c1 = 0) → c1 < xs.length + ys.length →
     ∃ rv w' K', (Builtin.append_ #[t, t] ty #[.slice A1 xs.length c1, .slice (some ⟨b2, f2, none⟩) ys.length c2]).run P w = .ok rv w' ∧ RepV w' K' (M.H.set id (.clm (xs.length + ys.length) k')) rv (.sw id k' (xs ++ ys)) ∧
      Cl (M.H.set id (.clm (xs.length + ys.length) k')).length (.sw id k' (xs ++ ys)) ∧ Ext w K M.H w' K' (M.H.set id (.clm (xs.length + ys.length) k')) ∧ Inv G w' K' { M with H := M.H.set id (.clm (xs.length + ys.length) k') } := by
    intro hA hc
    obtain ⟨cap, vs, hrun, h1, h2, h3, h4⟩ := run_growR (P := P) (w := w) (ty := ty) (c2 := c2) hd o3 (fun hne => by
     obtain ⟨b, off, e1, e2⟩ := o4 (fun e => hne (by rw [e]; rfl))
     exact ⟨b, off, e1, e2⟩) n3 m4 hA hpos hc hbb
    have hb1 : ∀ b, b < w.heap.size → (w.drew.alloc (.cells vs e)).heap[b]? = w.heap[b]? := fun b hb => heap_alloc_old w.drew (.cells vs e) b hb
    have hnew : (w.drew.alloc (.cells vs e)).heap[w.heap.size]? = some (.cells vs e (0, 0)) := heap_alloc_new w.drew (.cells vs e)
    have hfit : (xs.length + ys.length) * k' ≤ vs.size := by rw [h3]; exact Nat.mul_le_mul_right _ h1
    obtain ⟨hE, hI'⟩ := step_moved hI (w' := w.drew.alloc (.cells vs e)) ⟨rfl, rfl, rfl, by show w.heap.size ≤ (w.heap.push _).size; simp⟩ hid hb1 (Nat.le_refl _) hnew (by omega) hfit
    refine ⟨_, _, _, hrun, ?_, hclm, hE, hI'⟩
    have hrow := RepV.row (w := w.drew.alloc (.cells vs e)) (K := upd K id (some w.heap.size)) (H := M.H.set id (.clm (xs.length + ys.length) k')) (g := w.heap.size) (k := k') (cap := cap) (xs := xs ++ ys) (all := vs.toList) hk hnew hlen (by simpa using h1) h2
     (fun o ho => by
       intro i ob hi hKi
       rcases set_get hi with ⟨rfl, rfl, _⟩ | ⟨a1, a2⟩
       ·exact .inr ⟨_, _, rfl, by simpa using ho⟩
       ·rw [upd_ne K _ a1] at hKi
        have := (hI.blk i _ (List.getElem?_eq_some_iff.1 a2).1 hKi).1
        omega) (fun o _ => by simp) (fun i x j u a b => by
       obtain ⟨d1, r, d2, d3, d4⟩ := hrows i x j u a b
       exact ⟨d1, r, h4 _ _ d2, d3.ext hE (hclo i x j u a b), d4⟩)
    rw [List.length_append] at hrow
    refine .sw _ _ _ _ hrow fun m k1 hm => ?_
    rw [List.getElem?_set_self hil] at hm
    cases hm
    exact ⟨by simp, fun _ => ⟨rfl, .inl ⟨w.heap.size, cap, vs, e, upd_same _ _ _, by simp, hnew, by rw [h3]; exact Nat.le_refl _⟩⟩⟩
   rcases hTI2 with ⟨b, c, cur, tt, hKb, hv, hheap, hcs2⟩ | ⟨hKn, hn0, A, hv⟩
   ·cases hv
    by_cases hroom : xs.length + ys.length ≤ c1
    ·have hle : (xs.length + ys.length) * k' ≤ c1 * k' := Nat.mul_le_mul_right _ hroom
     rw [Nat.add_mul] at hle
     have hfit : xs.length * k' + news.length ≤ cur.size := by rw [n3]; omega
     have hrun := run_room (P := P) (w := w) (t := t) (ty := ty) (e := e) (g := b) (n := xs.length) (c := c1) (m := ys.length) (c2 := c2) (k := k') (news := news) (ad := ⟨b2, f2, none⟩) hu hi hik hheap n3 (fun j u hj => by rw [add_none]; exact m4 j u hj) n5 hroom hfit
     have holds : ∀ o, o < xs.length * k' → olds[o]? = cur[o]? := fun o ho => by
      have hne : xs ≠ [] := by
       rintro rfl
       simp at ho
      obtain ⟨b1, off1, hb1, hcell⟩ := o4 hne
      cases hb1
      have := hcell o olds[o] (List.getElem?_eq_getElem (by omega))
      rw [List.getElem?_eq_getElem (by omega)]
      simp only [Nat.zero_add, World.cell?, hheap] at this
      exact this.symm
     have hnewcells : ∀ o, o < (xs.length + ys.length) * k' → (cur.toList.take (xs.length * k') ++ news ++ cur.toList.drop (xs.length * k' + news.length))[o]? = (olds ++ news)[o]? := fun o ho => by
      rw [Nat.add_mul] at ho
      rw [List.getElem?_append_left (by simp; omega)]
      rcases Nat.lt_or_ge o (xs.length * k') with hl | hl
      ·rw [List.getElem?_append_left (by simp; omega), List.getElem?_append_left (by omega), List.getElem?_take, if_pos hl, holds o hl]
       simp
      ·rw [List.getElem?_append_right (by simp; omega), List.getElem?_append_right (by omega)]
       simp only [List.length_take, Array.length_toList, o3]
       congr 1
       omega
     have hstep := step_claim (vs' := (cur.toList.take (xs.length * k') ++ news ++ cur.toList.drop (xs.length * k' + news.length)).toArray) (m' := xs.length + ys.length) hI (setRow_calm w b _) hid hKb (fun b' _ hne => setRow_other w b b' _ hne) hheap (setRow_heap w b cur _ tt _ hheap) (by simp; omega)
      (fun o ho => by
        have := hnewcells o (by rw [Nat.add_mul]; omega)
        rw [List.getElem?_toArray, this, List.getElem?_append_left (by omega), holds o ho]) (by omega) (by simp [Nat.add_mul]; omega) (fun e => by omega)
     obtain ⟨hE, hI'⟩ := hstep
     refine ⟨_, _, _, hrun, ?_, hclm, hE, hI'⟩
     have hrow := RepV.row (w := w.setRow b (cur.toList.take (xs.length * k') ++ news ++ cur.toList.drop (xs.length * k' + news.length)).toArray) (K := K) (H := M.H.set id (.clm (xs.length + ys.length) k')) (g := b) (k := k') (cap := c1) (xs := xs ++ ys) (all := olds ++ news) hk (setRow_heap w b cur _ tt _ hheap)
      hlen (by simpa using hroom) o2
      (fun o ho => by
        intro i ob hi hKi
        rcases set_get hi with ⟨rfl, rfl, _⟩ | ⟨a1, a2⟩
        ·exact .inr ⟨_, _, rfl, by simpa using ho⟩
        ·by_cases hg : ob = .gone
         ·subst hg; exact .inl trivial
         ·exact absurd (hI.inj i id b (List.getElem?_eq_some_iff.1 a2).1 hil (by rw [a2]; simpa using hg) (by rw [hid]; simp) hKi hKb) a1) (fun o ho => by rw [List.getElem?_toArray]; exact hnewcells o (by simpa using ho))
      (fun i x j u a b => by
        obtain ⟨d1, r, d2, d3, d4⟩ := hrows i x j u a b
        exact ⟨d1, r, d2, d3.ext hE (hclo i x j u a b), d4⟩)
     rw [List.length_append] at hrow
     refine .sw _ _ _ _ hrow fun m k1 hm => ?_
     rw [List.getElem?_set_self hil] at hm
     cases hm
     exact ⟨by simp, fun _ => ⟨rfl, .inl ⟨b, c1, _, tt, hKb, by simp, setRow_heap w b cur _ tt _ hheap, by simp; omega⟩⟩⟩
    ·exact grow (fun h => by cases h) (by omega)
   ·cases hv
    exact grow (fun _ => ⟨hn0, hn0⟩) (by omega)
end
end Go.Proofs.YtnjgdlmddlinaaaDoor.Vm

/- A machine on values: buffers of our own that grow. -/
namespace Go.Proofs.YtnjgdlmddlinaaaDoor.Vm
open Go
section
variable {G : Ghost} {w w' : World} {K : Nat → Option Nat} {M : Mem}
theorem step_regrow (hI : Inv G w K M) (hc : Calm w w') {id b0 : Nat} {cs cs2 : List VV} (hi : M.H[id]? = some (.obj cs)) (hKi : K id = some b0) (hb : ∀ b, b < w.heap.size → b ≠ b0 → w'.heap[b]? = w.heap[b]?)
  (hsz : ∀ (vs : Array Value) (t : TypeId) (z : Nat × Nat), w.heap[b0]? = some (.cells vs t z) → ∃ vs', w'.heap[b0]? = some (.cells vs' t z) ∧ vs'.size = vs.size) (hcl : ∀ c ∈ cs2, Cl M.H.length c)
  (hok : Ext w K M.H w' (upd K M.H.length (some b0)) (M.H.set id .gone ++ [.obj cs2]) → ObjOk w' (upd K M.H.length (some b0)) (M.H.set id .gone ++ [.obj cs2]) (some b0) (.obj cs2)) :
  Ext w K M.H w' (upd K M.H.length (some b0)) (M.H.set id .gone ++ [.obj cs2]) ∧ Inv G w' (upd K M.H.length (some b0)) { M with H := M.H.set id .gone ++ [.obj cs2] } := by
 have hil := (List.getElem?_eq_some_iff.1 hi).1
 have hgi : M.H[id]? ≠ some VObj.gone := by rw [hi]; simp
 have hne : ∀ i, i < M.H.length → upd K M.H.length (some b0) i = K i := fun i hi => upd_ne K _ (by omega)
 have hcase : ∀ i x, (M.H.set id .gone ++ [.obj cs2])[i]? = some x → (i = M.H.length ∧ x = .obj cs2) ∨ (i = id ∧ x = .gone) ∨ (i < M.H.length ∧ i ≠ id ∧ M.H[i]? = some x) := fun i x hx => by
  rcases push_get hx with ⟨h1, h2⟩ | ⟨h1, h2⟩
  ·rw [List.length_set] at h1
   rcases set_get h2 with ⟨a, b, _⟩ | ⟨a, b⟩
   ·exact .inr (.inl ⟨a, b⟩)
   ·exact .inr (.inr ⟨h1, a, b⟩)
  ·rw [List.length_set] at h1
   exact .inl ⟨h1, h2⟩
 have hoth : ∀ i x, M.H[i]? = some x → i ≠ id → x ≠ .gone → ∀ b, K i = some b → b ≠ b0 := fun i x hx hn hg b hkb e => by
  subst e
  exact hn (hI.inj i id b (List.getElem?_eq_some_iff.1 hx).1 hil (by rw [hx]; simpa using hg) hgi hkb hKi)
 have hE : Ext w K M.H w' (upd K M.H.length (some b0)) (M.H.set id .gone ++ [.obj cs2]) := by
  refine ⟨hc.size, Szp.of_one hb hsz, fun b a hlt h i ob hi2 hKb => ?_, fun b a hlt h => World.cell?_of_block (hb b hlt fun e => ?_), fun i x hx => ?_⟩
  ·rcases hcase i ob hi2 with ⟨rfl, rfl⟩ | ⟨rfl, rfl⟩ | ⟨h1, _, h2⟩
   ·rw [upd_same] at hKb
    cases hKb
    rcases h id _ hi hKi with e | ⟨m, k, e, _⟩
    ·exact e.elim
    ·cases e
   ·exact .inl trivial
   ·rw [hne i h1] at hKb
    exact h i ob h2 hKb
  ·subst e
   rcases h id _ hi hKi with e | ⟨m, k, e, _⟩
   ·exact e.elim
   ·cases e
  ·have hlt := (List.getElem?_eq_some_iff.1 hx).1
   by_cases e : i = id
   ·subst e
    rw [hi] at hx
    cases hx
    exact ⟨.gone, by rw [List.getElem?_append_left (by simpa using hlt), List.getElem?_set_self hlt], fun _ _ e => VObj.noConfusion e, hne i hlt⟩
   ·exact ⟨x, by rw [List.getElem?_append_left (by simpa using hlt), List.getElem?_set_ne (fun h => e h.symm)]; exact hx, objLe_ng (hne i hlt) fun hg b eb => hb b (hI.lt hx eb) (hoth i x hx e hg b eb)⟩
 have hlen : (M.H.set id .gone ++ [VObj.obj cs2]).length = M.H.length + 1 := by simp
 refine ⟨hE, hc.os.trans hI.os, hc.tape.trans hI.tape, hc.output.trans hI.output, Nat.le_trans hI.size hc.size, Nat.le_trans hI.gB hc.size, fun b h1 h2 => ?_, ?_, ?_, ?_, ?_, ?_, ?_⟩
 ·refine (hb b (Nat.lt_of_lt_of_le h1 hI.gB) fun e => ?_).trans (hI.old b h1 h2)
  subst e
  rcases (hI.blk id b hil hKi).2 with h | h
  ·omega
  ·exact h2 h
 ·have hng : ∀ i, i < M.H.length → (M.H.set id .gone ++ [VObj.obj cs2])[i]? ≠ some .gone → i ≠ id ∧ M.H[i]? ≠ some .gone := fun i hi1 h => by
   rw [List.getElem?_append_left (by simpa using hi1)] at h
   by_cases e : i = id
   ·subst e
    rw [List.getElem?_set_self hi1] at h
    exact absurd rfl h
   ·rw [List.getElem?_set_ne (fun h => e h.symm)] at h
    exact ⟨e, h⟩
  intro i j b hi1 hj1 n1 n2 e1 e2
  simp only [hlen] at hi1 hj1
  simp only at n1 n2
  rcases Nat.lt_or_ge i M.H.length with h1 | h1 <;> rcases Nat.lt_or_ge j M.H.length with h2 | h2
  ·rw [hne i h1] at e1
   rw [hne j h2] at e2
   exact hI.inj i j b h1 h2 (hng i h1 n1).2 (hng j h2 n2).2 e1 e2
  ·obtain rfl : j = M.H.length := by omega
   rw [hne i h1] at e1
   rw [upd_same] at e2
   cases e2
   exact absurd (hI.inj i id _ h1 hil (hng i h1 n1).2 hgi e1 hKi) (hng i h1 n1).1
  ·obtain rfl : i = M.H.length := by omega
   rw [hne j h2] at e2
   rw [upd_same] at e1
   cases e1
   exact absurd (hI.inj j id _ h2 hil (hng j h2 n2).2 hgi e2 hKi) (hng j h2 n2).1
  ·omega
 ·intro i b hi1 e
  simp only [hlen] at hi1
  rcases Nat.lt_or_ge i M.H.length with h1 | h1
  ·rw [hne i h1] at e
   exact ⟨Nat.lt_of_lt_of_le (hI.blk i b h1 e).1 hc.size, (hI.blk i b h1 e).2⟩
  ·obtain rfl : i = M.H.length := by omega
   rw [upd_same] at e
   cases e
   exact ⟨Nat.lt_of_lt_of_le (hI.blk id _ hil hKi).1 hc.size, (hI.blk id _ hil hKi).2⟩
 ·intro i x hx
  rcases hcase i x hx with ⟨rfl, rfl⟩ | ⟨rfl, rfl⟩ | ⟨h1, h3, h2⟩
  ·rw [upd_same]
   exact hok hE
  ·exact trivial
  ·rw [hne i h1]
   exact (hI.obj i x h2).extg hE (fun hg b eb => hb b (hI.lt h2 eb) (hoth i x h2 h3 hg b eb)) (hI.content h2)
 ·intro i x hx c hcc r hr
  simp only [hlen]
  rcases hcase i x hx with ⟨rfl, rfl⟩ | ⟨rfl, rfl⟩ | ⟨h1, h3, h2⟩
  ·have := hcl c hcc r hr
   exact ⟨by omega, .inl (by omega)⟩
  ·simp [contents] at hcc
  ·have := hI.cl i x h2 c hcc r hr
   exact ⟨by omega, this.2⟩
 ·intro e he
  have := hI.lg e he
  simp only [hlen]
  omega
 ·intro i L hL
  rcases hcase i _ hL with ⟨rfl, e⟩ | ⟨rfl, e⟩ | ⟨_, _, h2⟩
  ·cases e
  ·cases e
  ·exact hI.lpd i L h2
theorem step_gone (hI : Inv G w K M) {id : Nat} {cs : List VV} (hi : M.H[id]? = some (.obj cs)) : Ext w K M.H w K (M.H.set id .gone) ∧ Inv G w K { M with H := M.H.set id .gone } := by
 have hil := (List.getElem?_eq_some_iff.1 hi).1
 have hE : Ext w K M.H w K (M.H.set id .gone) := by
  refine ⟨Nat.le_refl _, Szp.refl _, fun b a hlt h i ob hi2 hKb => ?_, fun _ _ _ _ => rfl, fun i x hx => ?_⟩
  ·rcases set_get hi2 with ⟨rfl, rfl, _⟩ | ⟨_, h2⟩
   ·exact .inl trivial
   ·exact h i ob h2 hKb
  ·have hlt := (List.getElem?_eq_some_iff.1 hx).1
   by_cases e : i = id
   ·subst e
    rw [hi] at hx
    cases hx
    exact ⟨.gone, List.getElem?_set_self hlt, fun _ _ e => VObj.noConfusion e, rfl⟩
   ·exact ⟨x, by rw [List.getElem?_set_ne (fun h => e h.symm)]; exact hx, objLe_same rfl fun _ _ => rfl⟩
 refine ⟨hE, hI.os, hI.tape, hI.output, hI.size, hI.gB, hI.old, inj_set hI (by simp) (gone_set hi (fun e => by cases e)), fun i b hi1 e => hI.blk i b (by simpa using hi1) e, fun i x hx => ?_, fun i x hx c hcc r hr => ?_, fun e he => ?_, fun i L hL => ?_⟩
 ·rcases set_get hx with ⟨rfl, rfl, _⟩ | ⟨_, h2⟩
  ·exact trivial
  ·exact (hI.obj i x h2).ext hE (fun _ _ => rfl) (hI.content h2)
 ·simp only [List.length_set]
  rcases set_get hx with ⟨rfl, rfl, _⟩ | ⟨_, h2⟩
  ·simp [contents] at hcc
  ·exact hI.cl i x h2 c hcc r hr
 ·simp only [List.length_set]
  exact hI.lg e he
 ·rcases set_get hL with ⟨rfl, e, _⟩ | ⟨_, h2⟩
  ·cases e
  ·exact hI.lpd i L h2
end
section
variable {P : Program} {T : Tab} {G : Ghost} {w : World} {K : Nat → Option Nat} {M M' : Mem} {H : List VObj}
theorem repP_one2 {I : Nat → Nat → Prop} {v : Value} {u : PV} (h : RepP w I v u) : isOne v = true := by
 cases h <;> rfl
theorem flat_lenW {α : Type} {ke : Nat} : ∀ {ys : List (List α)}, (∀ x ∈ ys, x.length = ke) → ys.flatten.length = ys.length * ke
 | [], _ => by simp
 | x :: ys, h => by
  rw [List.flatten_cons, List.length_append, h x (List.mem_cons_self ..), flat_lenW fun y hy => h y (List.mem_cons_of_mem _ hy), List.length_cons, Nat.succ_mul, Nat.add_comm]
theorem flat_getW {α : Type} {k : Nat} : ∀ {ys : List (List α)}, (∀ x ∈ ys, x.length = k) → ∀ {i : Nat} {x : List α}, ys[i]? = some x → ∀ {j : Nat}, j < k → ys.flatten[i * k + j]? = x[j]?
 | [], _, i, x, h, j, hj => by simp at h
 | y :: ys, hk, 0, x, h, j, hj => by
  have hy := hk y (List.mem_cons_self ..)
  cases h
  rw [List.flatten_cons, Nat.zero_mul, Nat.zero_add, List.getElem?_append_left (by rw [hy]; exact hj)]
 | y :: ys, hk, i + 1, x, h, j, hj => by
  have hy := hk y (List.mem_cons_self ..)
  rw [List.flatten_cons, List.getElem?_append_right (by rw [hy, Nat.succ_mul]; omega), hy, show (i + 1) * k + j - k = i * k + j by rw [Nat.succ_mul]; omega]
  exact flat_getW (fun z hz => hk z (List.mem_cons_of_mem _ hz)) h hj
theorem flat_split {α : Type} {ke : Nat} (hk0 : 0 < ke) {ys : List (List α)} (hk : ∀ x ∈ ys, x.length = ke) {i : Nat} {u : α} (h : ys.flatten[i]? = some u) : ∃ q x j, ys[q]? = some x ∧ x[j]? = some u ∧ i = q * ke + j := by
 have hq := (List.getElem?_eq_some_iff.1 h).1
 rw [flat_lenW hk] at hq
 have hd : i / ke < ys.length := Nat.div_lt_of_lt_mul (by rw [Nat.mul_comm]; exact hq)
 have hx1 := List.getElem?_eq_getElem hd
 have hmm := Nat.mod_lt i hk0
 have e2 : i = i / ke * ke + i % ke := by rw [Nat.mul_comm]; exact (Nat.div_add_mod i ke).symm
 have := flat_getW hk hx1 hmm
 rw [← e2, h] at this
 exact ⟨_, _, _, hx1, this.symm, e2⟩
theorem sv_of_sl {v : Value} {k : Nat} {xs : List (List PV)} (h : RepP w (Im K H) v (.sl k xs)) : RepV w K H v (.sv k (xs.map (List.map .p))) := by
 cases h with
 | sl A c _ b off _ f hc hm hk hA hi hw hr =>
  have hget : ∀ (i : Nat) (x : List VV) (j : Nat) (u : VV), (xs.map (List.map VV.p))[i]? = some x → x[j]? = some u → ∃ y q, xs[i]? = some y ∧ y[j]? = some q ∧ u = .p q := fun i x j u h1 h2 => by
   rw [List.getElem?_map] at h1
   obtain ⟨y, hy, rfl⟩ := Option.map_eq_some_iff.1 h1
   rw [List.getElem?_map] at h2
   obtain ⟨q, hq, rfl⟩ := Option.map_eq_some_iff.1 h2
   exact ⟨y, q, hy, hq, rfl⟩
  have := RepV.sv (w := w) (K := K) (H := H) A c k b off (xs.map (List.map .p)) f (by simpa using hc) hm (fun x hx => by
    obtain ⟨y, hy, rfl⟩ := List.mem_map.1 hx
    simpa using hk y hy) (fun hne => hA (fun e => hne (by rw [e]; rfl)))
   (fun i x j u h1 h2 => by obtain ⟨y, q, a, b, _⟩ := hget i x j u h1 h2; exact hi i y j q a b)
   (fun i x j u h1 h2 => by obtain ⟨y, q, a, b, _⟩ := hget i x j u h1 h2; exact hw i y j q a b)
   (fun i x j u h1 h2 => by obtain ⟨y, q, a, b, e⟩ := hget i x j u h1 h2; subst e; exact .p _ _ (hr i y j q a b))
   (fun i x j u h1 h2 => by obtain ⟨y, q, a, b, e⟩ := hget i x j u h1 h2; exact repP_one2 (hr i y j q a b))
  simpa using this
theorem vgrow_ok (hI : Inv G w K M) {t ty e ke be : Nat} {s v : VV} {ys : List (List VV)} {rs rx : Value} (hd : TdOk P t (.slice e ke be)) (h : vgrow ke be s ys M = some (v, M')) (hs : RepV w K M.H rs s) (hx : RepV w K M.H rx (.sv ke ys)) (hcx : Cl M.H.length (.sv ke ys)) :
  ∃ rv w' K', (Builtin.append_ #[t, t] ty #[rs, rx]).run P w = .ok rv w' ∧ RepV w' K' M'.H rv v ∧ Cl M'.H.length v ∧ Ext w K M.H w' K' M'.H ∧ Inv G w' K' M' := by
 unfold vgrow at h
 obtain ⟨hu, i, z, hi, hik, hib, hz, hzs, hk, hbe⟩ := id hd
 cases hy0 : !ys.isEmpty with
 | false => rw [hy0] at h; cases h
 | true =>
  rw [hy0] at h
  simp only [cond_true] at h
  have hys : ys ≠ [] := by rintro rfl; simp at hy0
  have hpos : 0 < ys.length := List.length_pos_iff.2 hys
  obtain ⟨A2, c2, news, rfl, n1, n2, n3, n4, n5, n6, n7⟩ := sv_flat hx hk
  obtain ⟨b2, f2, rfl, m4⟩ := n4 hys
  have hfl : ys.flatten.length = ys.length * ke := flat_lenW n6
  have hnew : ∀ (j : Nat) (r : Value) (c : VV), news[j]? = some r → ys.flatten[j]? = some c → RepV w K M.H r c ∧ isOne r = true := fun j r c h1 h2 => by
   obtain ⟨q, x, l, hx1, hl1, rfl⟩ := flat_split hk n6 h2
   obtain ⟨_, r2, a1, a2, a3⟩ := n7 q x l c hx1 hl1
   rw [h1] at a1
   cases a1
   exact ⟨a2, a3⟩
  have hcy : ∀ c ∈ ys.flatten, Cl M.H.length c := fun c hc r hr => by
   obtain ⟨x, hx1, hx2⟩ := List.mem_flatten.1 hc
   exact hcx r (by simp only [refs]; exact mem_refsLL.2 ⟨x, hx1, mem_refsL.2 ⟨c, hx2, hr⟩⟩)
  split at h
  case h_3 => cases h
  ·rename_i k xs
   cases hg : (fits k ke xs && Nat.ble ((xs.length + ys.length) * be) 140737488355328) with
   | false => rw [hg] at h; cases h
   | true =>
    rw [hg] at h
    simp only [cond_true, Option.some.injEq, Prod.mk.injEq] at h
    obtain ⟨rfl, rfl⟩ := h
    simp only [Bool.and_eq_true] at hg
    have hbb : (xs.length + ys.length) * be ≤ 140737488355328 := Nat.le_of_ble_eq_true hg.2
    cases hs with
    | sf A _ _ hP0 =>
    have hP := hP0.conv hg.1
    obtain ⟨A1, c1, olds, e1, o1, o2, o3, o4, o5, o6, o7⟩ := sl_flat hP hk
    injection e1 with e1 e2 e3
    subst e1 e3
    obtain ⟨cap, vs, hrun, h1, h2, h3, h4⟩ := run_growR (P := P) (w := w) (ty := ty) (c := xs.length) (c2 := c2) hd o3 (fun hne => by
     obtain ⟨b, off, q1, q2⟩ := o4 (fun e => hne (by rw [e]; rfl))
     exact ⟨b, off, q1, q2⟩) n3 m4 (fun hA => by
     have : xs = [] := by
      by_cases he : xs = []
      ·exact he
      ·obtain ⟨b, off, q1, _⟩ := o4 he
       rw [hA] at q1; cases q1
     simp [this]) hpos (by omega) hbb
    have hb1 : ∀ b, b < w.heap.size → (w.drew.alloc (.cells vs e)).heap[b]? = w.heap[b]? := fun b hb => heap_alloc_old w.drew (.cells vs e) b hb
    have hnw : (w.drew.alloc (.cells vs e)).heap[w.heap.size]? = some (.cells vs e (0, 0)) := heap_alloc_new w.drew (.cells vs e)
    have hfx : xs.flatten.length = xs.length * ke := flat_lenW o6
    have hle : (xs.length + ys.length) * ke ≤ cap * ke := Nat.mul_le_mul_right _ h1
    rw [Nat.add_mul] at hle
    obtain ⟨hE, hI'⟩ := step_new hI (w' := w.drew.alloc (.cells vs e)) ⟨rfl, rfl, rfl, by show w.heap.size ≤ (w.heap.push _).size; simp⟩ hb1 (.obj (xs.flatten.map .p ++ ys.flatten)) (some w.heap.size) (fun b hb => by cases hb; exact ⟨Nat.le_refl _, by show _ < (w.heap.push _).size; simp⟩) (fun c hc r hr => by
      simp only [contents, List.mem_append, List.mem_map] at hc
      rcases hc with ⟨u, _, rfl⟩ | hc
      ·simp [refs] at hr
      ·have := hcy c hc r hr
       omega)
     (fun hE => by
       intro b hb
       cases hb
       refine ⟨vs, e, hnw, by rw [List.length_append, List.length_map, hfx, hfl, h3]; exact hle, fun j v c hv hc => ?_⟩
       rcases Nat.lt_or_ge j (xs.length * ke) with hj | hj
       ·rw [List.getElem?_append_left (by rw [List.length_map, hfx]; exact hj), List.getElem?_map] at hc
        obtain ⟨u, hu', rfl⟩ := Option.map_eq_some_iff.1 hc
        obtain ⟨q, x, l, hx1, hl1, rfl⟩ := flat_split hk o6 hu'
        obtain ⟨_, r, a1, a2⟩ := o7 q x l u hx1 hl1
        have := h4 (q * ke + l) r (by rw [List.getElem?_append_left (by rw [o3]; exact hj)]; exact a1)
        rw [Array.getElem?_toList, hv] at this
        cases this
        exact ⟨.p _ _ (a2.of_ext hE), repP_one2 a2⟩
       ·rw [List.getElem?_append_right (by rw [List.length_map, hfx]; exact hj), List.length_map, hfx] at hc
        have hjl : j - xs.length * ke < news.length := by
         have := (List.getElem?_eq_some_iff.1 hc).1
         rw [n3]; omega
        have hr := List.getElem?_eq_getElem hjl
        generalize news[j - xs.length * ke] = r at hr
        have := h4 j r (by rw [List.getElem?_append_right (by rw [o3]; exact hj), o3]; exact hr)
        rw [Array.getElem?_toList, hv] at this
        cases this
        obtain ⟨a1, a2⟩ := hnew _ _ _ hr hc
        exact ⟨a1.ext hE (hcy c (List.mem_of_getElem? hc)), a2⟩)
    refine ⟨_, _, _, hrun, .bf M.H.length 0 (xs.length + ys.length) ke w.heap.size cap _ (fun _ => upd_same _ _ _) (fun m k e => by simp [Mem.push] at e) h1 h2 (fun _ => rfl) (fun _ => ⟨vs, e, _, hnw, by rw [h3]; omega⟩), fun r hr => ?_, hE, hI'⟩
    simp only [refs, List.mem_singleton] at hr
    subst hr
    simp [Mem.push]
  ·rename_i id n k
   split at h
   case h_2 => cases h
   rename_i cs hid
   cases hg : (Nat.beq k ke && Nat.blt 0 n && Nat.beq cs.length (n * ke) && Nat.ble ((n + ys.length) * be) 140737488355328) with
   | false => rw [hg] at h; cases h
   | true =>
    rw [hg] at h
    simp only [cond_true, Option.some.injEq, Prod.mk.injEq] at h
    obtain ⟨rfl, rfl⟩ := h
    simp only [Bool.and_eq_true] at hg
    obtain ⟨⟨⟨g1, g2⟩, g3⟩, g4⟩ := hg
    obtain rfl := Nat.eq_of_beq_eq_true g1
    have hn0 : 0 < n := by rwa [Nat.blt_eq] at g2
    have hcl := Nat.eq_of_beq_eq_true g3
    have hbb : (n + ys.length) * be ≤ 140737488355328 := Nat.le_of_ble_eq_true g4
    have hil := (List.getElem?_eq_some_iff.1 hid).1
    cases hs with
    | bf _ _ _ _ b c A hK hnc hc hm hA hzz =>
    have hKb := hK (by omega)
    obtain rfl := hA (by omega)
    obtain ⟨cur, tt, zz0, hheap, hcap⟩ := hzz (by omega)
    obtain ⟨cur2, tt2, hheap2, hcs2, hcell⟩ := hI.obj id _ hid b hKb
    rw [hheap] at hheap2
    cases hheap2
    have hclc : ∀ c ∈ cs ++ ys.flatten, Cl M.H.length c := fun c hc => by
     rcases List.mem_append.1 hc with hc | hc
     ·exact hI.content hid c (by simpa [contents] using hc)
     ·exact hcy c hc
    have hol : (cur.toList.take (n * k)).length = n * k := by simp; omega
    have holc : ∀ (j : Nat) (u : Value), (cur.toList.take (n * k))[j]? = some u → w.cell? ⟨b, 0 + j, none⟩ = some u := fun j u hj => by
     rw [List.getElem?_take] at hj
     split at hj
     ·simp only [World.cell?, hheap, Nat.zero_add]
      simpa using hj
     ·cases hj
    have hcells : ∀ (all : List Value) (hal : ∀ (j : Nat) (r : Value), (cur.toList.take (n * k) ++ news)[j]? = some r → all[j]? = some r) (j : Nat) (v : Value) (c : VV), all[j]? = some v → (cs ++ ys.flatten)[j]? = some c → RepV w K M.H v c ∧ isOne v = true := fun all hal j v c hv hc => by
     rcases Nat.lt_or_ge j (n * k) with hj | hj
     ·rw [List.getElem?_append_left (by omega)] at hc
      have hjc : j < cur.size := by omega
      have hr := Array.getElem?_eq_getElem hjc
      generalize cur[j] = r at hr
      have := hal j r (by rw [List.getElem?_append_left (by rw [hol]; exact hj), List.getElem?_take, if_pos hj, Array.getElem?_toList]; exact hr)
      rw [hv] at this
      cases this
      exact hcell j v c hr hc
     ·rw [List.getElem?_append_right (by omega), hcl] at hc
      have hjl : j - n * k < news.length := by
       have := (List.getElem?_eq_some_iff.1 hc).1
       rw [n3]; omega
      have hr := List.getElem?_eq_getElem hjl
      generalize news[j - n * k] = r at hr
      have := hal j r (by rw [List.getElem?_append_right (by rw [hol]; exact hj), hol]; exact hr)
      rw [hv] at this
      cases this
      exact hnew _ _ _ hr hc
    have hrefs : Cl (M.H.set id .gone ++ [VObj.obj (cs ++ ys.flatten)]).length (VV.bf M.H.length 0 (n + ys.length) k) := fun r hr => by
     simp only [refs, List.mem_singleton] at hr
     subst hr
     simp
    have hnotc : ∀ m k2, (M.H.set id .gone ++ [VObj.obj (cs ++ ys.flatten)])[M.H.length]? ≠ some (.clm m k2) := fun m k2 e => by
     have e2 : (M.H.set id .gone ++ [VObj.obj (cs ++ ys.flatten)])[M.H.length]? = some (.obj (cs ++ ys.flatten)) := by
      rw [List.getElem?_append_right (by simp)]
      simp
     rw [e2] at e
     cases e
    have hlen2 : (cs ++ ys.flatten).length = n * k + ys.length * k := by rw [List.length_append, hcl, hfl]
    by_cases hroom : n + ys.length ≤ c
    ·have hle : (n + ys.length) * k ≤ c * k := Nat.mul_le_mul_right _ hroom
     rw [Nat.add_mul] at hle
     have hfit : n * k + news.length ≤ cur.size := by rw [n3]; omega
     have hrun := run_room (P := P) (w := w) (t := t) (ty := ty) (e := e) (g := b) (n := n) (c := c) (m := ys.length) (c2 := c2) (k := k) (news := news) (ad := ⟨b2, f2, none⟩) hu hi hik hheap n3 (fun j u hj => by rw [add_none]; exact m4 j u hj) n5 hroom hfit
     have hsz2 : (cur.toList.take (n * k) ++ news ++ cur.toList.drop (n * k + news.length)).toArray.size = cur.size := by
      simp only [List.size_toArray, List.length_append, List.length_drop, Array.length_toList, hol]
      omega
     obtain ⟨hE, hI'⟩ := step_regrow (cs2 := cs ++ ys.flatten) hI (setRow_calm w b _) hid hKb (fun b' _ hne => setRow_other w b b' _ hne) (fun v1 t1 z1 e1 => ⟨_, setRow_heap w b v1 (cur.toList.take (n * k) ++ news ++ cur.toList.drop (n * k + news.length)).toArray t1 _ e1, (by
       rw [hheap] at e1
       cases e1
       exact hsz2)⟩) hclc (fun hE => by
       intro b1 hb1
       cases hb1
       refine ⟨_, tt, setRow_heap w b cur _ tt _ hheap, by rw [hsz2, hlen2]; omega, fun j v c hv hc => ?_⟩
       obtain ⟨a1, a2⟩ := hcells (cur.toList.take (n * k) ++ news ++ cur.toList.drop (n * k + news.length)) (fun j r hj => by rw [List.getElem?_append_left (List.getElem?_eq_some_iff.1 hj).1]; exact hj) j v c (by simpa using hv) hc
       exact ⟨a1.ext hE (hclc c (List.mem_of_getElem? hc)), a2⟩)
     exact ⟨_, _, _, hrun, .bf M.H.length 0 (n + ys.length) k b c _ (fun _ => upd_same _ _ _) hnotc hroom hm (fun _ => rfl) (fun _ => ⟨_, tt, _, setRow_heap w b cur _ tt _ hheap, by rw [hsz2]; omega⟩), hrefs, hE, hI'⟩
    ·obtain ⟨cap, vs, hrun, h1, h2, h3, h4⟩ := run_growR (P := P) (w := w) (ty := ty) (c := c) (c2 := c2) (A := some ⟨b, 0, none⟩) hd hol (fun _ => ⟨b, 0, rfl, holc⟩) n3 m4 (fun h => by cases h) hpos (by omega) hbb
     have hb1 : ∀ b, b < w.heap.size → (w.drew.alloc (.cells vs e)).heap[b]? = w.heap[b]? := fun b hb => heap_alloc_old w.drew (.cells vs e) b hb
     have hnw : (w.drew.alloc (.cells vs e)).heap[w.heap.size]? = some (.cells vs e (0, 0)) := heap_alloc_new w.drew (.cells vs e)
     have hle : (n + ys.length) * k ≤ cap * k := Nat.mul_le_mul_right _ h1
     rw [Nat.add_mul] at hle
     obtain ⟨hEg, hIg⟩ := step_gone hI hid
     have hlg : (M.H.set id VObj.gone).length = M.H.length := by simp
     obtain ⟨hE, hI'⟩ := step_new hIg (w' := w.drew.alloc (.cells vs e)) ⟨rfl, rfl, rfl, by show w.heap.size ≤ (w.heap.push _).size; simp⟩ hb1 (.obj (cs ++ ys.flatten)) (some w.heap.size) (fun b hb => by cases hb; exact ⟨Nat.le_refl _, by show _ < (w.heap.push _).size; simp⟩) (fun c hc r hr => by
       have := hclc c (by simpa [contents] using hc) r hr
       simp only [hlg]
       omega)
      (fun hE => by
        intro b1 hb1
        cases hb1
        refine ⟨vs, e, hnw, by rw [hlen2, h3]; exact hle, fun j v c hv hc => ?_⟩
        obtain ⟨a1, a2⟩ := hcells vs.toList h4 j v c (by simpa using hv) hc
        exact ⟨a1.ext (hEg.trans hE) (hclc c (List.mem_of_getElem? hc)), a2⟩)
     simp only [hlg] at hE hI'
     exact ⟨_, _, _, hrun, .bf M.H.length 0 (n + ys.length) k w.heap.size cap _ (fun _ => upd_same _ _ _) hnotc h1 h2 (fun _ => rfl) (fun _ => ⟨vs, e, _, hnw, by rw [h3]; omega⟩), hrefs, hEg.trans hE, hI'⟩
end
end Go.Proofs.YtnjgdlmddlinaaaDoor.Vm
