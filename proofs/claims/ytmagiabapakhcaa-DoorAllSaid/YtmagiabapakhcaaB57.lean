/- A part of the proofs about the chapter of the doors; it states no condition of its own. -/
import Derived.Test.YtmagiabapakhcaaB55
import Derived.Test.YtmagiabapakhcaaB56
set_option linter.unusedVariables false
set_option linter.unusedSimpArgs false
/- Who may be inside, plain: the spans are tight. -/
namespace Go.Proofs.Ytmagiabapakhcaa
open Vm
theorem mem_dlsI {s : Sp} {d : Int} : d ∈ dlsI s ↔ s.lo ≤ d ∧ d ≤ s.hi := by
 unfold dlsI
 rw [List.mem_map]
 constructor
 ·rintro ⟨j, hj, rfl⟩
  rw [List.mem_range] at hj
  omega
 ·rintro ⟨h1, h2⟩
  exact ⟨(d - s.lo).toNat, by rw [List.mem_range]; omega, by omega⟩
theorem dlsI_len (s : Sp) : (dlsI s).length = (s.hi + 1 - s.lo).toNat := by simp [dlsI]
def allS (first : Sp) (C : Nat → Sp) (T : Nat) : List (List Int) := (dlsI first).flatMap fun t => seqs C T [t]
structure Way (first : Sp) (C : Nat → Sp) (T : Nat) (g : Nat → Int) : Prop where
 h0 : In first (g 0)
 st : ∀ t, t < T → In (C t) (g (t + 1) - g t)
 pos : ∀ t, t ≤ T → 0 ≤ g t
theorem range_getD (g : Nat → Int) {m t : Nat} (h : t < m) : ((List.range m).map g).getD t 0 = g t := by
 rw [List.getD_eq_getElem?_getD, List.getElem?_map, List.getElem?_range h]; rfl
theorem lastI_range (g : Nat → Int) (m : Nat) : lastI ((List.range (m + 1)).map g) = g m := by
 unfold lastI
 rw [List.length_map, List.length_range, show m + 1 - 1 = m by omega]
 exact range_getD g (by omega)
theorem seqs_has {C : Nat → Sp} {g : Nat → Int} : ∀ (f m : Nat), (∀ t, m ≤ t → t < m + f → In (C t) (g (t + 1) - g t) ∧ 0 ≤ g (t + 1)) → (List.range (m + 1 + f)).map g ∈ seqs C f ((List.range (m + 1)).map g)
 | 0, m, _ => by rw [seqs, List.mem_singleton]; first | done | rfl
 | f + 1, m, h => by
  rw [seqs, List.mem_flatMap]
  have h1 := h m (Nat.le_refl _) (by omega)
  refine ⟨g (m + 1) - g m, by rw [List.length_map, List.length_range, mem_dlsI]; exact h1.1, ?_⟩
  ·rw [lastI_range, show g m + (g (m + 1) - g m) = g (m + 1) by omega, if_pos h1.2]
   have := seqs_has (C := C) (g := g) f (m + 1) fun t h2 h3 => h t (by omega) (by omega)
   rw [List.range_succ (n := m + 1), List.map_append] at this
   rw [show m + 1 + (f + 1) = m + 1 + 1 + f by omega]
   exact this
theorem way_mem {first : Sp} {C : Nat → Sp} {T : Nat} {g : Nat → Int} (w : Way first C T g) : (List.range (T + 1)).map g ∈ allS first C T := by
 unfold allS
 rw [List.mem_flatMap]
 refine ⟨g 0, mem_dlsI.2 w.h0, ?_⟩
 have := seqs_has (C := C) (g := g) T 0 fun t _ h => ⟨w.st t (by omega), w.pos (t + 1) (by omega)⟩
 rw [show 0 + 1 + T = T + 1 by omega] at this
 exact this
theorem seqs_only {C : Nat → Sp} : ∀ (f : Nat) (pre : List Int), 0 < pre.length → ∀ x ∈ seqs C f pre, (∀ t, t < pre.length → x.getD t 0 = pre.getD t 0) ∧ ∀ t, pre.length ≤ t + 1 → t + 1 < pre.length + f → In (C t) (x.getD (t + 1) 0 - x.getD t 0) ∧ 0 ≤ x.getD (t + 1) 0
 | 0, pre, _, x, hx => by
  rw [seqs, List.mem_singleton] at hx
  subst hx
  exact ⟨fun _ _ => rfl, fun t h1 h2 => by omega⟩
 | f + 1, pre, hp, x, hx => by
  rw [seqs, List.mem_flatMap] at hx
  obtain ⟨d, hd, hx⟩ := hx
  rw [mem_dlsI] at hd
  split at hx
  ·rename_i h0
   obtain ⟨a1, a2⟩ := seqs_only f _ (by simp) x hx
   have hlen : (pre ++ [lastI pre + d]).length = pre.length + 1 := by simp
   rw [hlen] at a1 a2
   have old : ∀ t, t < pre.length → x.getD t 0 = pre.getD t 0 := fun t ht => by
    rw [a1 t (by omega), List.getD_eq_getElem?_getD, List.getElem?_append_left ht, ← List.getD_eq_getElem?_getD]
   refine ⟨old, fun t h1 h2 => ?_⟩
   rcases Nat.lt_or_ge t pre.length with q | q
   ·have e1 : x.getD (t + 1) 0 = lastI pre + d := by
     rw [a1 (t + 1) (by omega), List.getD_eq_getElem?_getD, List.getElem?_append_right (by omega), show t + 1 - pre.length = 0 by omega]; rfl
    have e2 : x.getD t 0 = lastI pre := by
     rw [old t q]
     unfold lastI
     rw [show pre.length - 1 = t by omega]
    rw [e1, e2]
    refine ⟨?_, h0⟩
    rw [show pre.length - 1 = t by omega] at hd
    rw [show lastI pre + d - lastI pre = d by omega]
    exact hd
   ·exact a2 t (by omega) (by omega)
  ·cases hx
theorem mem_way {first : Sp} {C : Nat → Sp} {T : Nat} (hf : 0 ≤ first.lo) {x : List Int} (hx : x ∈ allS first C T) : x.length = T + 1 ∧ Way first C T (fun t => x.getD t 0) := by
 unfold allS at hx
 rw [List.mem_flatMap] at hx
 obtain ⟨v, hv, hx⟩ := hx
 rw [mem_dlsI] at hv
 have hl := seqs_len T _ x hx
 obtain ⟨a1, a2⟩ := seqs_only T [v] (by simp) x hx
 have e0 : x.getD 0 0 = v := a1 0 (by simp)
 refine ⟨by rw [hl]; simp; omega, ⟨?_, fun t ht => (a2 t (by simp) (by simp; omega)).1, fun t ht => ?_⟩⟩
 ·show In first (x.getD 0 0)
  rw [e0]
  exact hv
 ·show 0 ≤ x.getD t 0
  rcases t with _ | t
  ·rw [e0]; omega
  ·exact (a2 t (by simp) (by simp; omega)).2
section
variable {first : Sp} {C : Nat → Sp} {T : Nat}
theorem pre_way (hCn : ∀ t, (C t).lo ≤ (C t).hi) (h0 : 0 ≤ first.lo) (hfn : ∀ t, t ≤ T → (fwd first C t).lo ≤ (fwd first C t).hi) : ∀ t, t ≤ T → ∀ v, In (fwd first C t) v → ∃ g : Nat → Int, In first (g 0) ∧ (∀ s, s < t → In (C s) (g (s + 1) - g s)) ∧ (∀ s, s ≤ t → 0 ≤ g s) ∧ g t = v
 | 0, _, v, hv => ⟨fun _ => v, hv, fun s hs => by omega, fun s _ => by have h2 := hv.1; simp only [fwd] at h2; show 0 ≤ v; omega, rfl⟩
 | t + 1, ht, v, hv => by
  have hc := hCn t
  have hf := hfn t (by omega)
  have hv1 := hv.1
  have hv2 := hv.2
  simp only [fwd, nxt] at hv1 hv2
  obtain ⟨g, g0, g1, g2, g3⟩ := pre_way hCn h0 hfn t (by omega) (max (fwd first C t).lo (v - (C t).hi)) ⟨by omega, by omega⟩
  refine ⟨fun s => if s ≤ t then g s else v, ?_, fun s hs => ?_, fun s hs => ?_, ?_⟩
  ·simp only [Nat.zero_le, if_true]
   exact g0
  ·simp only
   rcases Nat.lt_or_ge s t with q | q
   ·rw [if_pos (by omega), if_pos (by omega)]
    exact g1 s q
   ·obtain rfl : s = t := by omega
    rw [if_neg (by omega), if_pos (by omega), g3]
    exact ⟨by omega, by omega⟩
  ·simp only
   by_cases q : s ≤ t
   ·rw [if_pos q]; exact g2 s q
   ·rw [if_neg q]; omega
  ·exact if_neg (by omega)
theorem bw_ok (hCn : ∀ t, (C t).lo ≤ (C t).hi) (hfn : ∀ t, t ≤ T → (fwd first C t).lo ≤ (fwd first C t).hi) : ∀ k, k ≤ T → (fwd first C (T - k)).lo ≤ (bwd first C T k).lo ∧ (bwd first C T k).lo ≤ (bwd first C T k).hi ∧ (bwd first C T k).hi ≤ (fwd first C (T - k)).hi
 | 0, _ => by
  have := hfn T (Nat.le_refl _)
  simp only [bwd, Nat.sub_zero]
  omega
 | k + 1, hk => by
  obtain ⟨a1, a2, a3⟩ := bw_ok hCn hfn k (by omega)
  have hc := hCn (T - (k + 1))
  have hf := hfn (T - (k + 1)) (by omega)
  rw [show T - k = T - (k + 1) + 1 by omega] at a1 a3
  simp only [fwd, nxt] at a1 a3
  simp only [bwd]
  omega
theorem suf_way (hCn : ∀ t, (C t).lo ≤ (C t).hi) (h0 : 0 ≤ first.lo) (hfn : ∀ t, t ≤ T → (fwd first C t).lo ≤ (fwd first C t).hi) (hf0 : ∀ t, t ≤ T → 0 ≤ (fwd first C t).lo) : ∀ k, k ≤ T → ∀ g : Nat → Int, In (bwd first C T k) (g (T - k)) → In first (g 0) → (∀ s, s < T - k → In (C s) (g (s + 1) - g s)) → (∀ s, s ≤ T - k → 0 ≤ g s) → ∃ g', Way first C T g' ∧ ∀ s, s ≤ T - k → g' s = g s
 | 0, _, g, hv, g0, g1, g2 => ⟨g, ⟨g0, fun t ht => g1 t (by omega), fun t ht => g2 t (by omega)⟩, fun _ _ => rfl⟩
 | k + 1, hk, g, hv, g0, g1, g2 => by
  have hb := bw_ok hCn hfn k (by omega)
  have hp := hf0 (T - k) (by omega)
  have hc := hCn (T - (k + 1))
  have hv1 := hv.1
  have hv2 := hv.2
  simp only [bwd] at hv1 hv2
  obtain ⟨w, hw⟩ : ∃ w, w = max (bwd first C T k).lo (g (T - (k + 1)) + (C (T - (k + 1))).lo) := ⟨_, rfl⟩
  obtain ⟨n, hn⟩ : ∃ n, n = T - (k + 1) := ⟨_, rfl⟩
  have hTk : T - k = n + 1 := by omega
  rw [← hn] at hv1 hv2 hw hc g1 g2 ⊢
  rw [hTk] at hb hp
  obtain ⟨g', b1, b2⟩ := suf_way hCn h0 hfn hf0 k (by omega) (fun s => if s ≤ n then g s else w) (by
    rw [hTk]
    rw [if_neg (by omega)]
    exact ⟨by omega, by omega⟩) (by
    rw [if_pos (by omega)]
    exact g0) (fun s hs => by
    rw [hTk] at hs
    rcases Nat.lt_or_ge s n with q | q
    ·rw [if_pos (by omega), if_pos (by omega)]
     exact g1 s q
    ·obtain rfl : s = n := by omega
     rw [if_neg (by omega), if_pos (by omega)]
     exact ⟨by omega, by omega⟩) (fun s hs => by
    by_cases q : s ≤ n
    ·rw [if_pos q]; exact g2 s q
    ·rw [if_neg q]; omega)
  refine ⟨g', b1, fun s hs => ?_⟩
  rw [b2 s (by omega)]
  exact if_pos hs
theorem bw_way (hCn : ∀ t, (C t).lo ≤ (C t).hi) (h0 : 0 ≤ first.lo) (hfn : ∀ t, t ≤ T → (fwd first C t).lo ≤ (fwd first C t).hi) (hf0 : ∀ t, t ≤ T → 0 ≤ (fwd first C t).lo) {t : Nat} (ht : t ≤ T) {v : Int} (hv : In (bwd first C T (T - t)) v) : ∃ g, Way first C T g ∧ g t = v := by
 have hb := bw_ok hCn hfn (T - t) (by omega)
 rw [show T - (T - t) = t by omega] at hb
 obtain ⟨g, g0, g1, g2, g3⟩ := pre_way hCn h0 hfn t ht v ⟨by have := hv.1; omega, by have := hv.2; omega⟩
 obtain ⟨g', w, hg⟩ := suf_way hCn h0 hfn hf0 (T - t) (by omega) g (by rw [show T - (T - t) = t by omega, g3]; exact hv) g0 (fun s hs => g1 s (by omega)) (fun s hs => g2 s (by omega))
 exact ⟨g', w, by rw [hg t (by omega), g3]⟩
end
theorem visit_tight {k : Nat} {L : List (List Int)} (hL : ∀ x ∈ L, x.length = k) {S : List Sp} (hS : S.length = k) : ∀ j, j < L.length → ∀ t, t < k → ∃ r, ((L.take (j + 1)).foldl visit (0, S)).2[t]? = some r ∧ (∀ x ∈ L.take (j + 1), r.lo ≤ x.getD t 0 ∧ x.getD t 0 ≤ r.hi) ∧ (∃ x ∈ L.take (j + 1), x.getD t 0 = r.lo) ∧ ∃ x ∈ L.take (j + 1), x.getD t 0 = r.hi := by
 intro j
 induction j with
 | zero =>
  intro hj t ht
  have hx : L[0]? = some L[0] := List.getElem?_eq_getElem hj
  have hxl := hL _ (List.getElem_mem hj)
  generalize L[0] = x at hx hxl
  have htk : L.take (0 + 1) = [x] := by rw [List.take_add_one, hx]; rfl
  rw [htk]
  have hxt : x[t]? = some (x.getD t 0) := by rw [List.getD_eq_getElem?_getD, List.getElem?_eq_getElem (by omega)]; rfl
  have hst : S[t]? = some S[t] := List.getElem?_eq_getElem (by omega)
  refine ⟨⟨x.getD t 0, x.getD t 0⟩, ?_, fun y hy => ?_, ⟨x, by simp, rfl⟩, ⟨x, by simp, rfl⟩⟩
  ·show (List.zipWith (mergeS 0) S x)[t]? = _
   rw [List.getElem?_zipWith, hst, hxt]; rfl
  ·rw [List.mem_singleton] at hy
   subst hy
   exact ⟨Int.le_refl _, Int.le_refl _⟩
 | succ j ih =>
  intro hj t ht
  obtain ⟨r, r1, r2, ⟨xa, a1, a2⟩, ⟨xb, b1, b2⟩⟩ := ih (by omega) t ht
  have hx : L[j + 1]? = some L[j + 1] := List.getElem?_eq_getElem hj
  have hxl := hL _ (List.getElem_mem hj)
  generalize L[j + 1] = x at hx hxl
  have htk : L.take (j + 1 + 1) = L.take (j + 1) ++ [x] := by rw [List.take_add_one, hx]; rfl
  have hn := visit_fold1 (L.take (j + 1)) 0 S
  rw [List.length_take] at hn
  rw [htk, List.foldl_append]
  have hxt : x[t]? = some (x.getD t 0) := by rw [List.getD_eq_getElem?_getD, List.getElem?_eq_getElem (by omega)]; rfl
  generalize (L.take (j + 1)).foldl visit (0, S) = st at hn r1 ⊢
  have hv : ([x].foldl visit st).2[t]? = some ⟨min r.lo (x.getD t 0), max r.hi (x.getD t 0)⟩ := by
   show (List.zipWith (mergeS st.1) st.2 x)[t]? = _
   rw [List.getElem?_zipWith, r1, hxt]
   show some (mergeS st.1 r (x.getD t 0)) = _
   unfold mergeS
   rw [if_neg (by omega)]
  refine ⟨_, hv, fun y hy => ?_, ?_, ?_⟩
  ·rcases List.mem_append.1 hy with h | h
   ·have := r2 y h
    simp only
    omega
   ·rw [List.mem_singleton] at h
    subst h
    simp only
    omega
  ·simp only
   rcases Int.le_total r.lo (x.getD t 0) with q | q
   ·exact ⟨xa, List.mem_append_left _ a1, by rw [Int.min_eq_left q]; exact a2⟩
   ·exact ⟨x, List.mem_append_right _ (by simp), (Int.min_eq_right q).symm⟩
  ·simp only
   rcases Int.le_total r.hi (x.getD t 0) with q | q
   ·exact ⟨x, List.mem_append_right _ (by simp), (Int.max_eq_right q).symm⟩
   ·exact ⟨xb, List.mem_append_left _ b1, by rw [Int.max_eq_left q]; exact b2⟩
end Go.Proofs.Ytmagiabapakhcaa

/- Who may be inside, plain: the tallies are the spans. -/
namespace Go.Proofs.Ytmagiabapakhcaa
open Vm
theorem sum_le {α : Type} {f g : α → Int} {k : Int} : ∀ l : List α, (∀ x ∈ l, f x ≤ g x ∧ g x ≤ f x + k) → (l.map f).sum ≤ (l.map g).sum ∧ (l.map g).sum ≤ (l.map f).sum + k * l.length
 | [], _ => by simp
 | x :: l, h => by
  have h1 := h x (List.mem_cons_self ..)
  have h2 := sum_le l fun y hy => h y (List.mem_cons_of_mem _ hy)
  simp only [List.map_cons, List.sum_cons, List.length_cons, Int.natCast_add, Int.mul_add]
  omega
theorem chg_nar {h : Ho} (V : HV h) (N : ∀ c ∈ h.counts, NarC c) (t : Int) : (chg h.counts t).lo ≤ (chg h.counts t).hi ∧ (chg h.counts t).hi ≤ (chg h.counts t).lo + 288 := by
 have hl : (h.counts.filter fun c => decide (c.tick = t)).length ≤ 24 := Nat.le_trans (List.length_filter_le _ _) V.c1
 have := sum_le (f := fun c : Co => c.i.lo - c.o.hi) (g := fun c : Co => c.i.hi - c.o.lo) (k := 12) (h.counts.filter fun c => decide (c.tick = t)) fun c hc => by
  have hc := (List.mem_filter.1 hc).1
  have v := V.counts c hc
  have n := N c hc
  have a1 := v.i.le
  have a2 := v.o.le
  unfold NarC at n
  omega
 unfold chg
 simp only
 omega
theorem flatMap_few {α β : Type} {f : α → List β} {k : Nat} : ∀ l : List α, (∀ x ∈ l, (f x).length ≤ k) → (l.flatMap f).length ≤ l.length * k
 | [], _ => by simp
 | x :: l, h => by
  have h1 := h x (List.mem_cons_self ..)
  have h2 := flatMap_few l fun y hy => h y (List.mem_cons_of_mem _ hy)
  rw [List.flatMap_cons, List.length_append, List.length_cons, Nat.succ_mul]
  omega
theorem seqs_few {C : Nat → Sp} (hC : ∀ t, (C t).hi ≤ (C t).lo + 288) : ∀ (f : Nat) (pre : List Int), (seqs C f pre).length ≤ 300 ^ f
 | 0, pre => by simp [seqs]
 | f + 1, pre => by
  rw [seqs]
  have := flatMap_few (f := fun d => if 0 ≤ lastI pre + d then seqs C f (pre ++ [lastI pre + d]) else []) (k := 300 ^ f) (dlsI (C (pre.length - 1))) fun d _ => by
   split
   ·exact seqs_few hC f _
   ·simp
  refine Nat.le_trans this ?_
  have h1 := hC (pre.length - 1)
  rw [Nat.pow_succ, Nat.mul_comm]
  refine Nat.mul_le_mul_left _ ?_
  rw [dlsI_len]
  omega
structure TightP (h : Ho) : Prop where
 none : insideH h = none → allS h.first (fun t => chg h.counts (t : Int)) h.ticks.toNat = []
 some : ∀ l, insideH h = some l → allS h.first (fun t => chg h.counts (t : Int)) h.ticks.toNat ≠ [] ∧ ∀ S : List Sp, S.length = h.ticks.toNat + 1 → ((allS h.first (fun t => chg h.counts (t : Int)) h.ticks.toNat).foldl visit (0, S)).2 = l
theorem tight (h : Ho) (V : HV h) (N : ∀ c ∈ h.counts, NarC c) : TightP h := by
 obtain ⟨C, hC⟩ : ∃ C : Nat → Sp, C = fun t : Nat => chg h.counts (t : Int) := ⟨_, rfl⟩
 obtain ⟨T, hT⟩ : ∃ T, T = h.ticks.toNat := ⟨_, rfl⟩
 have hCb : Cb C := by rw [hC]; exact chg_Cb V
 have hCn : ∀ t, (C t).lo ≤ (C t).hi := fun t => by rw [hC]; exact (chg_nar V N t).1
 have h0 := V.first.lo0
 have hway : ∀ x ∈ allS h.first C T, x.length = T + 1 ∧ Way h.first C T (fun t => x.getD t 0) := fun x hx => mem_way h0 hx
 have hpos : ∀ x ∈ allS h.first C T, ∀ v ∈ x, 0 ≤ v := fun x hx v hv => by
  obtain ⟨a1, a2⟩ := hway x hx
  obtain ⟨t, ht⟩ := List.getElem?_of_mem hv
  have hlt := (List.getElem?_eq_some_iff.1 ht).1
  have := a2.pos t (by omega)
  rw [List.getD_eq_getElem?_getD, ht] at this
  exact this
 refine ⟨fun hi => ?_, fun l hi => ?_⟩ <;> rw [← hC, ← hT] <;> unfold insideH at hi <;> rw [← hC, ← hT] at hi
 ·split at hi
  ·rename_i hb
   unfold bad at hb
   rw [List.any_eq_true] at hb
   obtain ⟨t, ht, hb⟩ := hb
   rw [List.mem_range] at ht
   rw [decide_eq_true_eq] at hb
   refine List.eq_nil_iff_forall_not_mem.2 fun x hx => ?_
   obtain ⟨a1, a2⟩ := hway x hx
   have := fwd_in (ts := x) a2.h0 (hpos x hx) a1 a2.st (t + 1) (by omega)
   unfold In at this
   omega
  ·cases hi
 ·split at hi
  ·cases hi
  rename_i hb
  have hl := Option.some.inj hi
  have hfn : ∀ t, t ≤ T → (fwd h.first C t).lo ≤ (fwd h.first C t).hi := fun t ht => by
   rcases t with _ | t
   ·exact V.first.le
   ·by_cases q : (fwd h.first C (t + 1)).hi < (fwd h.first C (t + 1)).lo
    ·refine absurd ?_ hb
     unfold bad
     rw [List.any_eq_true]
     exact ⟨t, by rw [List.mem_range]; omega, by rw [decide_eq_true_eq]; exact q⟩
    ·omega
  have hf0 : ∀ t, t ≤ T → 0 ≤ (fwd h.first C t).lo := fun t _ => (fwd_bd V.first hCb t).1
  have hin : ∀ t, t ≤ T → ∀ v, In (bwd h.first C T (T - t)) v → ∃ x ∈ allS h.first C T, x.getD t 0 = v := fun t ht v hv => by
   obtain ⟨g, w, hg⟩ := bw_way hCn h0 hfn hf0 ht hv
   exact ⟨_, way_mem w, by rw [range_getD g (by omega), hg]⟩
  have hbw : ∀ t, t ≤ T → (bwd h.first C T (T - t)).lo ≤ (bwd h.first C T (T - t)).hi := fun t ht => (bw_ok hCn hfn (T - t) (by omega)).2.1
  have hmem : ∀ x ∈ allS h.first C T, ∀ t, t ≤ T → In (bwd h.first C T (T - t)) (x.getD t 0) := fun x hx t ht => by
   obtain ⟨a1, a2⟩ := hway x hx
   have := bwd_in (ts := x) a2.h0 (hpos x hx) a1 a2.st (T - t) (by omega)
   rwa [show T - (T - t) = t by omega] at this
  have hne : allS h.first C T ≠ [] := fun e => by
   obtain ⟨x, hx, _⟩ := hin 0 (by omega) (bwd h.first C T (T - 0)).lo ⟨Int.le_refl _, hbw 0 (by omega)⟩
   rw [e] at hx
   cases hx
  have hnl : ∀ x ∈ allS h.first C T, x.length = T + 1 := fun x hx => (hway x hx).1
  generalize allS h.first C T = L at hin hmem hne hnl
  refine ⟨hne, fun S hS => ?_⟩
  have hLp : 0 < L.length := List.length_pos_iff.2 hne
  have hvt := visit_tight hnl hS (L.length - 1) (by omega)
  rw [show L.length - 1 + 1 = L.length by omega, List.take_length] at hvt
  have hfl := visit_fold2 L 0 S hS hnl
  rw [← hl]
  refine List.ext_getElem? fun t => ?_
  rcases Nat.lt_or_ge t (T + 1) with q | q
  ·obtain ⟨r, r1, r2, ⟨xa, a1, a2⟩, ⟨xb, b1, b2⟩⟩ := hvt t q
   rw [r1]
   unfold insideL
   rw [List.getElem?_map, List.getElem?_range q]
   simp only [Option.map_some]
   congr 1
   obtain ⟨ya, c1, c2⟩ := hin t (by omega) _ ⟨Int.le_refl _, hbw t (by omega)⟩
   obtain ⟨yb, d1, d2⟩ := hin t (by omega) _ ⟨hbw t (by omega), Int.le_refl _⟩
   have e1 := (hmem xa a1 t (by omega)).1
   have e2 := (hmem xb b1 t (by omega)).2
   have e3 := (r2 ya c1).1
   have e4 := (r2 yb d1).2
   have f1 : r.lo = (bwd h.first C T (T - t)).lo := by omega
   have f2 : r.hi = (bwd h.first C T (T - t)).hi := by omega
   cases r
   simp only at f1 f2
   rw [f1, f2]
  ·rw [List.getElem?_eq_none (by omega), List.getElem?_eq_none (by simp [insideL]; omega)]
end Go.Proofs.Ytmagiabapakhcaa
