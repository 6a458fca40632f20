/- A part of the proofs about the chapter of the doors; it states no condition of its own. -/
import Derived.Test.YtmagiabapakhcaaB35
import Derived.Test.YtmagiabapakhcaaB42
import Derived.Test.YtmagiabapakhcaaB43
import Derived.Test.YtmagiabapakhcaaB47
import Derived.Test.YtmagiabapakhcaaB49
import Derived.Test.YtmagiabapakhcaaB51
import Derived.Test.YtmagiabapakhcaaB53
set_option linter.unusedVariables false
set_option linter.unusedSimpArgs false
/- Flows: as much as can flow always is there, and grows with what the ways take. -/
namespace Go.Proofs.Ytmagiabapakhcaa
/-- so many steps to the place 1 -/
def Dst (N : Nat) (R : List (List Int)) : Nat → Nat → Prop
  | 0, a => a = 1
  | n + 1, a => ∃ t, t < N ∧ 0 < at2 R a t ∧ Dst N R n t
theorem aug_of {N : Nat} {R : List (List Int)} (hs : Sq N R) (hN : 2 ≤ N) (hnn : ∀ i j, i < N → j < N → 0 ≤ at2 R i j) : ∀ (n a : Nat), a < N → Dst N R n a → (∀ m, m < n → ¬ Dst N R m a) →
    ∃ R', Aug N R R' a 1 ∧ ∀ x y, at2 R' x y ≠ at2 R x y → (∃ m, m ≤ n ∧ Dst N R m x) ∧ ∃ m, m ≤ n ∧ Dst N R m y
  | 0, a, ha, hd, _ => by
    obtain rfl : a = 1 := hd
    exact ⟨R, ⟨hs, hnn, fun _ _ _ _ => rfl, fun i _ h1 => by rw [if_neg h1]; omega⟩, fun x y h => absurd rfl h⟩
  | n + 1, a, ha, hd, hm => by
    obtain ⟨t, ht, hp, hdt⟩ := hd
    have ha1 : a ≠ 1 := fun e => hm 0 (by omega) e
    have hmt : ∀ m, m < n → ¬ Dst N R m t := fun m hmn hh => hm (m + 1) (by omega) ⟨t, ht, hp, hh⟩
    obtain ⟨R1, h1, h2⟩ := aug_of hs hN hnn n t ht hdt hmt
    have hna : ∀ m, m ≤ n → ¬ Dst N R m a := fun m hmn => hm m (by omega)
    have row : ∀ j, at2 R1 a j = at2 R a j := fun j => by
      rcases Classical.em (at2 R1 a j = at2 R a j) with e | e
      · exact e
      · obtain ⟨m, hmn, hh⟩ := (h2 a j e).1
        exact absurd hh (hna m hmn)
    have hne : a ≠ t := fun e => hna n (Nat.le_refl _) (by rw [e]; exact hdt)
    refine ⟨_, Aug.step hs ha ht hne h1 (by omega) (by omega) (row t) (sumTo_congr fun j _ => row j) ha1, fun x y h => ?_⟩
    have hda : Dst N R (n + 1) a := ⟨t, ht, hp, hdt⟩
    rw [at2_upd (h1.sq.upd ha t _) ht ha, at2_upd h1.sq ha ht] at h
    split at h
    · rename_i e
      rw [← e.1, ← e.2]
      exact ⟨⟨n, by omega, hdt⟩, n + 1, Nat.le_refl _, hda⟩
    · split at h
      · rename_i e
        rw [← e.1, ← e.2]
        exact ⟨⟨n + 1, Nat.le_refl _, hda⟩, n, by omega, hdt⟩
      · obtain ⟨⟨m, a1, a2⟩, m', b1, b2⟩ := h2 x y h
        exact ⟨⟨m, by omega, a2⟩, m', by omega, b2⟩
theorem least_of {p : Nat → Prop} : ∀ n, p n → ∃ m, p m ∧ ∀ k, k < m → ¬ p k := by
  intro n
  induction n using Nat.strongRecOn with
  | ind n ih =>
    intro h
    rcases Classical.em (∃ k, k < n ∧ p k) with ⟨k, hk, hp⟩ | hno
    · exact ih k hk hp
    · exact ⟨n, h, fun k hk hp => hno ⟨k, hk, hp⟩⟩
/-- either it is as much as can flow, or one more can -/
theorem res_more {N : Nat} {C R : List (List Int)} {v : Int} (hN : 2 ≤ N) (hs : Sq N R) (h : Res N C R v) : MF N C v ∨ ∃ R', Sq N R' ∧ Res N C R' (v + 1) := by
  rcases Classical.em (∃ n, Dst N R n 0) with ⟨n, hn⟩ | hno
  · obtain ⟨m, hm, hl⟩ := least_of (p := fun n => Dst N R n 0) n hn
    obtain ⟨R', h1, _⟩ := aug_of hs hN h.nn m 0 (by omega) hm hl
    exact .inr ⟨R', h1.sq, Aug.res h hN h1⟩
  · refine .inl ?_
    classical
    refine Res.max h hN (S := fun i => decide (¬ ∃ n, Dst N R n i)) (decide_eq_true hno) (decide_eq_false fun q => q ⟨0, rfl⟩) fun i j hi hj h1 h2 => ?_
    have q1 : ¬ ∃ n, Dst N R n i := of_decide_eq_true h1
    have q2 : ¬ ¬ ∃ n, Dst N R n j := of_decide_eq_false h2
    obtain ⟨n, hn⟩ := Classical.not_not.1 q2
    rcases Int.lt_or_le 0 (at2 R i j) with q | q
    · exact absurd ⟨n + 1, j, hj, q, hn⟩ q1
    · exact q
theorem MF.exists {N : Nat} {C : List (List Int)} (hN : 2 ≤ N) (hs : Sq N C) (h0 : ∀ i j, i < N → j < N → 0 ≤ at2 C i j) : ∃ v, MF N C v := by
  have key : ∀ (k : Nat) (R : List (List Int)) (v : Int), Sq N R → Res N C R v → (cutOf N C (fun i => decide (i ≠ 1)) - v).toNat = k → ∃ v, MF N C v := by
    intro k
    induction k using Nat.strongRecOn with
    | ind k ih =>
      intro R v hR h hk
      rcases res_more hN hR h with q | ⟨R', hR', h'⟩
      · exact ⟨v, q⟩
      · have hle := h'.le_cut hN (S := fun i => decide (i ≠ 1)) (by simp) (by simp)
        exact ih _ (by omega) R' (v + 1) hR' h' rfl
  exact key _ C 0 hs (Res.start h0) rfl
theorem mfv_MF {N : Nat} {C : List (List Int)} (hN : 2 ≤ N) (hs : Sq N C) (h0 : ∀ i j, i < N → j < N → 0 ≤ at2 C i j) : MF N C (mfv N C) := by
  obtain ⟨v, hv⟩ := MF.exists hN hs h0
  rw [mfv_eq hN hv]
  exact hv
theorem cut_mono {N : Nat} {C C' : List (List Int)} (h : ∀ i j, i < N → j < N → at2 C i j ≤ at2 C' i j) (S : Nat → Bool) : cutOf N C S ≤ cutOf N C' S := by
  unfold cutOf
  refine sumTo_le fun i hi => sumTo_le fun j hj => ?_
  have := h i j hi hj
  split <;> omega
theorem MF.le_cut {N : Nat} {C : List (List Int)} {v : Int} (h : MF N C v) (hN : 2 ≤ N) {S : Nat → Bool} (h0 : S 0 = true) (h1 : S 1 = false) : v ≤ cutOf N C S := by
  obtain ⟨⟨R, hR⟩, _⟩ := h
  exact hR.le_cut hN h0 h1
theorem MF.mono {N : Nat} {C C' : List (List Int)} {v v' : Int} (hN : 2 ≤ N) (h : MF N C v) (h' : MF N C' v') (hle : ∀ i j, i < N → j < N → at2 C i j ≤ at2 C' i j) : v ≤ v' := by
  obtain ⟨_, S, s0, s1, hS⟩ := h'
  have := h.le_cut hN s0 s1
  have := cut_mono hle S
  omega
end Go.Proofs.Ytmagiabapakhcaa

/- Kitchens in which gifts keep longer and meals take more, plain. -/
namespace Go.Proofs.Ytmagiabapakhcaa
structure MBet (l m : List Int) : Prop where
  len : m.length = l.length
  ge : ∀ j, l.getD j 0 ≤ m.getD j 0 ∧ m.getD j 0 ≤ l.getD j 0 + 20
theorem MBet.refl (l : List Int) : MBet l l := ⟨rfl, fun j => ⟨Int.le_refl _, by omega⟩⟩
theorem getD_set' {α : Type} {m : List α} {i : Nat} {x z : α} (hi : i < m.length) (j : Nat) : (m.set i x).getD j z = if i = j then x else m.getD j z := by
  rw [List.getD_eq_getElem?_getD, List.getElem?_set]
  by_cases h : i = j
  · subst h
    rw [if_pos rfl, if_pos rfl, if_pos hi]; rfl
  · rw [if_neg h, if_neg h, ← List.getD_eq_getElem?_getD]
theorem MBet.up {l m : List Int} (h : MBet l m) {i : Nat} {q : Int} (e : m.getD i 0 = l.getD i 0) (hi : i < m.length) (hq : 0 ≤ q ∧ q ≤ 20) : MBet l (m.set i (m.getD i 0 + q)) := by
  refine ⟨by rw [List.length_set]; exact h.len, fun j => ?_⟩
  rw [getD_set' hi]
  by_cases hj : i = j
  · subst hj
    rw [if_pos rfl]; omega
  · rw [if_neg hj]; exact h.ge j
/-- a gift that keeps longer -/
structure GBet (n : Nat) (x y : Gi) : Prop where
  f0 : 0 ≤ y.from_
  ff : y.from_ ≤ x.from_
  kk : x.keeps ≤ y.keeps
  kn : y.keeps < n
  p : y.portions = x.portions
theorem GBet.refl {n : Nat} {x : Gi} (h : GiV n x) : GBet n x x := ⟨h.f0, Int.le_refl _, Int.le_refl _, h.k1, rfl⟩
theorem GBet.V {n : Nat} {x y : Gi} (b : GBet n x y) (h : GiV n x) : GiV n y := ⟨b.f0, by have := b.ff; have := b.kk; have := h.fk; omega, b.kn, by rw [b.p]; exact h.p0, by rw [b.p]; exact h.p1⟩
structure GsBet (n : Nat) (l m : List Gi) : Prop where
  len : m.length = l.length
  bet : ∀ j, j < l.length → GBet n (l.getD j ⟨0, 0, 0⟩) (m.getD j ⟨0, 0, 0⟩)
theorem GsBet.refl {n : Nat} {l : List Gi} (h : ∀ x ∈ l, GiV n x) : GsBet n l l := ⟨rfl, fun j hj => by
  rw [List.getD_eq_getElem?_getD, List.getElem?_eq_getElem hj]
  exact GBet.refl (h _ (List.getElem_mem hj))⟩
theorem GsBet.up {n : Nat} {l m : List Gi} (h : GsBet n l m) {i : Nat} {y : Gi} (hi : i < l.length) (hy : GBet n (l.getD i ⟨0, 0, 0⟩) y) : GsBet n l (m.set i y) := by
  refine ⟨by rw [List.length_set]; exact h.len, fun j hj => ?_⟩
  rw [getD_set' (by rw [h.len]; exact hi)]
  by_cases e : i = j
  · subst e
    rw [if_pos rfl]; exact hy
  · rw [if_neg e]; exact h.bet j hj
structure KBet (k x : Kn) : Prop where
  m : MBet k.meals x.meals
  g : GsBet k.meals.length k.gifts x.gifts
theorem KBet.V {k x : Kn} (V : KV k) (hm : ∀ n ∈ k.meals, 0 ≤ n ∧ n ≤ 9000) (b : KBet k x) : KV x := by
  have hl := b.m.len
  have hg := b.g.len
  have m1 := V.m1
  have g1 := V.g1
  refine ⟨by omega, fun n hn => ?_, by omega, fun y hy => ?_⟩
  · obtain ⟨j, hj, rfl⟩ := List.getElem_of_mem hn
    have h1 := b.m.ge j
    have h2 : k.meals.getD j 0 = k.meals[j]'(by omega) := by rw [List.getD_eq_getElem?_getD, List.getElem?_eq_getElem (by omega)]; rfl
    have h3 : x.meals.getD j 0 = x.meals[j] := by rw [List.getD_eq_getElem?_getD, List.getElem?_eq_getElem hj]; rfl
    have h4 := hm _ (List.getElem_mem (show j < k.meals.length by omega))
    rw [h2, h3] at h1
    omega
  · obtain ⟨j, hj, rfl⟩ := List.getElem_of_mem hy
    have h1 := b.g.bet j (by omega)
    have h3 : x.gifts.getD j ⟨0, 0, 0⟩ = x.gifts[j] := by rw [List.getD_eq_getElem?_getD, List.getElem?_eq_getElem hj]; rfl
    have h4 := giAt_V V (show j < k.gifts.length by omega)
    unfold giAt at h4
    rw [h3] at h1
    rw [hl]
    exact h1.V h4
end Go.Proofs.Ytmagiabapakhcaa

/- Flows: the table of some ways, place by place, plain. -/
namespace Go.Proofs.Ytmagiabapakhcaa
/-- how much the ways from one place to another one let through -/
def wsAt (ws : List Wa) (i j : Nat) : Int := (ws.map fun w => if w.fr = i ∧ w.to = j then w.most else 0).sum
theorem wsAt_nil (i j : Nat) : wsAt [] i j = 0 := rfl
theorem wsAt_cons (w : Wa) (ws : List Wa) (i j : Nat) : wsAt (w :: ws) i j = (if w.fr = i ∧ w.to = j then w.most else 0) + wsAt ws i j := by simp [wsAt]
theorem wsAt_app (a b : List Wa) (i j : Nat) : wsAt (a ++ b) i j = wsAt a i j + wsAt b i j := by simp [wsAt]
theorem tabW_at {N : Nat} : ∀ (n : Nat) (ws : List Wa), ws.length = n → (∀ w ∈ ws, WaOk N w) → ∀ i j, at2 (tabOfW N ws) i j = wsAt ws i j := by
  intro n
  induction n with
  | zero =>
    intro ws h _ i j
    rw [List.length_eq_zero_iff.1 h]
    exact zeros2_at N i j
  | succ n ih =>
    intro ws h hw i j
    rcases List.eq_nil_or_concat ws with rfl | ⟨vs, w, rfl⟩
    · cases h
    · rw [List.concat_eq_append] at h hw ⊢
      simp at h
      have hv : ∀ x ∈ vs, WaOk N x := fun x hx => hw x (List.mem_append_left _ hx)
      have q := (tabW_ok n vs h hv).1
      have hww := hw w (by simp)
      rw [tabW_succ, add2, at2_upd q hww.fr hww.to, wsAt_app, wsAt_cons, wsAt_nil, ih vs h hv, ih vs h hv]
      by_cases e : w.fr = i ∧ w.to = j
      · rw [if_pos e, if_pos e, e.1, e.2]; omega
      · rw [if_neg e, if_neg e]; omega
theorem rng_at (fr t : Nat) (r : Int) (i j : Nat) : ∀ (n a : Nat), wsAt ((List.range' a n).map fun m => ⟨fr, t + m, r⟩) i j = if fr = i ∧ t + a ≤ j ∧ j < t + a + n then r else 0
  | 0, a => by
    rw [if_neg (by omega)]; rfl
  | n + 1, a => by
    rw [List.range'_succ, List.map_cons, wsAt_cons, rng_at fr t r i j n (a + 1)]
    simp only
    by_cases e : fr = i
    · by_cases e2 : t + a = j
      · rw [if_pos ⟨e, e2⟩, if_neg (by omega), if_pos (by omega)]; omega
      · rw [if_neg (by omega)]
        by_cases e3 : t + a ≤ j ∧ j < t + a + (n + 1)
        · rw [if_pos (by omega), if_pos (by omega)]; omega
        · rw [if_neg (by omega), if_neg (by omega)]; omega
    · rw [if_neg (by omega), if_neg (by omega), if_neg (by omega)]; omega
/-- nothing is served yet, and nothing is settled -/
theorem room0 (m g : Nat) : roomOf (-1) 0 m g = 1073741824 := by
  unfold roomOf
  rw [if_neg (by omega)]
theorem gone0 (k : Kn) (g n : Nat) : goneT (srv0 k) g n = 0 := by
  unfold goneT
  rw [show (fun m => at2 (srv0 k) m g) = fun _ => 0 from funext fun m => srv0_at k m g, sumTo_const0]
theorem eaten0 (k : Kn) (m n : Nat) : eatenT (srv0 k) m n = 0 := by
  unfold eatenT
  rw [show (fun g => at2 (srv0 k) m g) = fun _ => 0 from funext fun g => srv0_at k m g, sumTo_const0]
theorem giftWs0 (k : Kn) (nM nG g : Nat) (x : Gi) : giftWs nM nG (srv0 k) (roomOf (-1) 0) g x = ⟨0, 2 + g, x.portions⟩ :: (List.range' x.from_.toNat (x.keeps.toNat + 1 - x.from_.toNat)).map fun m => ⟨2 + g, 2 + nG + m, 1073741824⟩ := by
  unfold giftWs
  rw [gone0, Int.sub_zero]
  simp only [room0]
theorem giftWs_mono {k x : Kn} {nM nG g : Nat} {a b : Gi} (h : GBet nM a b) (ha : GiV nM a) (i j : Nat) : wsAt (giftWs nM nG (srv0 k) (roomOf (-1) 0) g a) i j ≤ wsAt (giftWs nM nG (srv0 x) (roomOf (-1) 0) g b) i j := by
  rw [giftWs0, giftWs0, wsAt_cons, wsAt_cons, rng_at, rng_at, h.p]
  have h1 := h.ff
  have h2 := h.kk
  have h3 := h.f0
  have h4 := ha.fk
  have h5 := ha.f0
  have e : (if 2 + g = i ∧ 2 + nG + a.from_.toNat ≤ j ∧ j < 2 + nG + a.from_.toNat + (a.keeps.toNat + 1 - a.from_.toNat) then (1073741824 : Int) else 0) ≤ if 2 + g = i ∧ 2 + nG + b.from_.toNat ≤ j ∧ j < 2 + nG + b.from_.toNat + (b.keeps.toNat + 1 - b.from_.toNat) then 1073741824 else 0 := by
    by_cases q : 2 + g = i ∧ 2 + nG + a.from_.toNat ≤ j ∧ j < 2 + nG + a.from_.toNat + (a.keeps.toNat + 1 - a.from_.toNat)
    · rw [if_pos q, if_pos (by omega)]; exact Int.le_refl _
    · rw [if_neg q]; split <;> omega
  omega
theorem giftsWs_mono {k x : Kn} {nM nG : Nat} (i j : Nat) : ∀ (l m : List Gi) (g : Nat), GsBet nM l m → (∀ a ∈ l, GiV nM a) → wsAt (giftsWs nM nG (srv0 k) (roomOf (-1) 0) g l) i j ≤ wsAt (giftsWs nM nG (srv0 x) (roomOf (-1) 0) g m) i j
  | [], [], g, _, _ => Int.le_refl _
  | [], _ :: _, _, h, _ => by have := h.len; simp at this
  | _ :: _, [], _, h, _ => by have := h.len; simp at this
  | a :: l, b :: m, g, h, hv => by
    rw [giftsWs, giftsWs, wsAt_app, wsAt_app]
    have h0 := h.bet 0 (by simp)
    simp only [List.getD_cons_zero] at h0
    have h1 := giftWs_mono (k := k) (x := x) (nG := nG) (g := g) h0 (hv a (by simp)) i j
    have h2 := giftsWs_mono (k := k) (x := x) (nG := nG) i j l m (g + 1) ⟨by have := h.len; simpa using this, fun q hq => by have := h.bet (q + 1) (by simpa using hq); simpa using this⟩ fun y hy => hv y (by simp [hy])
    omega
theorem mealsWs_mono {k x : Kn} {nG : Nat} (i j : Nat) : ∀ (l m : List Int) (g : Nat), MBet l m → wsAt (mealsWs nG (srv0 k) g l) i j ≤ wsAt (mealsWs nG (srv0 x) g m) i j
  | [], [], g, _ => Int.le_refl _
  | [], _ :: _, _, h => by have := h.len; simp at this
  | _ :: _, [], _, h => by have := h.len; simp at this
  | a :: l, b :: m, g, h => by
    rw [mealsWs, mealsWs, wsAt_cons, wsAt_cons, eaten0, eaten0]
    have h0 := (h.ge 0).1
    simp only [List.getD_cons_zero] at h0
    have h2 := mealsWs_mono (k := k) (x := x) (nG := nG) i j l m (g + 1) ⟨by have := h.len; simpa using this, fun q => by have := h.ge (q + 1); simpa using this⟩
    simp only
    split <;> omega
/-- what goes away from one place -/
theorem row_sum {N : Nat} (i : Nat) : ∀ ws : List Wa, (∀ w ∈ ws, w.to < N) → sumTo N (fun j => wsAt ws i j) = (ws.map fun w => if w.fr = i then w.most else 0).sum
  | [], _ => sumTo_const0 N
  | w :: ws, h => by
    rw [show (fun j => wsAt (w :: ws) i j) = fun j => (if w.fr = i ∧ w.to = j then w.most else 0) + wsAt ws i j from funext fun j => wsAt_cons w ws i j, sumTo_add, row_sum i ws fun x hx => h x (by simp [hx]), List.map_cons, List.sum_cons]
    congr 1
    by_cases e : w.fr = i
    · rw [if_pos e]
      refine (sumTo_congr fun j _ => ?_).trans (sumTo_one (h w (by simp)) w.most)
      by_cases e2 : j = w.to
      · rw [if_pos ⟨e, e2.symm⟩, if_pos e2]
      · rw [if_neg (fun q => e2 q.2.symm), if_neg e2]
    · rw [if_neg e]
      rw [show (fun j => if w.fr = i ∧ w.to = j then w.most else 0) = fun _ => (0 : Int) from funext fun j => if_neg fun q => e q.1, sumTo_const0]
theorem fed_ok {k : Kn} (V : KV k) : ∀ w ∈ tabWs k (srv0 k) (roomOf (-1) 0), WaOk (2 + k.gifts.length + k.meals.length) w := tabWs_ok V (srv0_ok k) (srv0_fits V) fun m g => by rw [room0]; omega
theorem fed_MF {k : Kn} (V : KV k) : MF (2 + k.gifts.length + k.meals.length) (tabOfW (2 + k.gifts.length + k.meals.length) (tabWs k (srv0 k) (roomOf (-1) 0))) (fedV k (srv0 k) (-1) 0) := by
  have h := tabW_ok _ _ rfl (fed_ok V)
  exact mfv_MF (by omega) h.1 fun i j _ _ => (h.2 i j).1
theorem meals_from (k : Kn) (nG : Nat) : ∀ (l : List Int) (m : Nat), ((mealsWs nG (srv0 k) m l).map fun w => if w.fr = 0 then w.most else 0).sum = 0
  | [], _ => rfl
  | n :: l, m => by
    rw [mealsWs, List.map_cons, List.sum_cons, meals_from k nG l (m + 1)]
    simp only
    rw [if_neg (by omega)]; rfl
theorem gifts_from (k : Kn) (nM nG : Nat) : ∀ (l : List Gi) (g : Nat), ((giftsWs nM nG (srv0 k) (roomOf (-1) 0) g l).map fun w => if w.fr = 0 then w.most else 0).sum = (l.map Gi.portions).sum
  | [], _ => rfl
  | x :: l, g => by
    rw [giftsWs, List.map_append, List.sum_append, gifts_from k nM nG l (g + 1), giftWs0, List.map_cons, List.sum_cons, List.map_cons, List.sum_cons, List.map_map]
    have e : ∀ L : List Nat, (L.map ((fun w : Wa => if w.fr = 0 then w.most else 0) ∘ fun m => ⟨2 + g, 2 + nG + m, 1073741824⟩)).sum = 0 := by
      intro L
      induction L with
      | nil => rfl
      | cons a L ih =>
        rw [List.map_cons, List.sum_cons, ih]
        simp only [Function.comp]
        rw [if_neg (by omega)]; rfl
    rw [e]
    simp
/-- no more is eaten than there is -/
theorem fed_le {k : Kn} (V : KV k) : fedV k (srv0 k) (-1) 0 ≤ givenAll k := by
  have h := (fed_MF V).le_cut (by omega) (S := fun i => decide (i = 0)) (by simp) (by simp)
  refine Int.le_trans h ?_
  unfold cutOf
  have hN : 0 < 2 + k.gifts.length + k.meals.length := by omega
  generalize hNN : 2 + k.gifts.length + k.meals.length = N at *
  have hr := row_sum (N := N) 0 (tabWs k (srv0 k) (roomOf (-1) 0)) fun w hw => by have := (fed_ok V w hw).to; omega
  have hs : (tabWs k (srv0 k) (roomOf (-1) 0)).map (fun w => if w.fr = 0 then w.most else 0) = _ := rfl
  unfold tabWs at hs
  have h3 : ((tabWs k (srv0 k) (roomOf (-1) 0)).map fun w => if w.fr = 0 then w.most else 0).sum = givenAll k := by
    unfold tabWs
    rw [List.map_append, List.sum_append, meals_from, gifts_from]
    exact Int.add_zero _
  rw [h3] at hr
  rw [← hr]
  rw [← sumTo_one hN (sumTo N fun j => wsAt (tabWs k (srv0 k) (roomOf (-1) 0)) 0 j)]
  refine sumTo_le fun i hi => ?_
  by_cases e : i = 0
  · subst e
    rw [if_pos rfl]
    refine sumTo_le fun j hj => ?_
    have h5 := tabW_at _ _ rfl (fed_ok V) 0 j
    have h6 := (tabW_ok _ _ rfl (fed_ok V)).2 0 j
    rw [hNN] at h5 h6
    rw [h5] at h6 ⊢
    split <;> omega
  · rw [if_neg e]
    rw [show (fun j => if (decide (i = 0) && !decide (j = 0)) = true then at2 (tabOfW N (tabWs k (srv0 k) (roomOf (-1) 0))) i j else 0) = fun _ => (0 : Int) from funext fun j => by simp [e], sumTo_const0]
    exact Int.le_refl _
theorem bet_given {n : Nat} : ∀ {l m : List Gi}, GsBet n l m → (m.map Gi.portions).sum = (l.map Gi.portions).sum
  | [], [], _ => rfl
  | [], _ :: _, h => by have := h.len; simp at this
  | _ :: _, [], h => by have := h.len; simp at this
  | a :: l, b :: m, h => by
    have h0 := h.bet 0 (by simp)
    simp only [List.getD_cons_zero] at h0
    rw [List.map_cons, List.map_cons, List.sum_cons, List.sum_cons, h0.p, bet_given (l := l) (m := m) ⟨by have := h.len; simpa using this, fun q hq => by have := h.bet (q + 1) (by simpa using hq); simpa using this⟩]
theorem KBet.spoils {k x : Kn} (V : KV k) (W : KV x) (b : KBet k x) : 0 ≤ givenAll x - fedV x (srv0 x) (-1) 0 ∧ givenAll x - fedV x (srv0 x) (-1) 0 ≤ givenAll k - fedV k (srv0 k) (-1) 0 := by
  have h1 := fed_le W
  have h2 : givenAll x = givenAll k := bet_given b.g
  have hl := b.m.len
  have hg := b.g.len
  have h3 := fed_MF W
  have h5 := fed_ok W
  rw [hl, hg] at h3 h5
  have h4 : fedV k (srv0 k) (-1) 0 ≤ fedV x (srv0 x) (-1) 0 := by
    refine (fed_MF V).mono (by omega) h3 fun i j _ _ => ?_
    rw [tabW_at _ _ rfl (fed_ok V), tabW_at _ _ rfl h5]
    unfold tabWs
    rw [wsAt_app, wsAt_app, hl, hg]
    have g1 := giftsWs_mono (k := k) (x := x) (nG := k.gifts.length) i j k.gifts x.gifts 0 b.g V.gifts
    have g2 := mealsWs_mono (k := k) (x := x) (nG := k.gifts.length) i j k.meals x.meals 0 b.m
    omega
  omega
end Go.Proofs.Ytmagiabapakhcaa

/- Kitchens made of numbers, on values. (Vm) -/
namespace Go.Proofs.Ytmagiabapakhcaa.Vm
open Go Go.Proofs
attribute [local irreducible] castF castU fromF fromU oneF oneU
structure MadeK (A B P : Int) (k : Kn) : Prop where
  V : KV k
  ma : (k.meals.length : Int) ≤ A
  gb : (k.gifts.length : Int) ≤ B
  mp : ∀ n ∈ k.meals, 0 ≤ n ∧ n ≤ P
  gp : ∀ x ∈ k.gifts, 0 ≤ x.portions ∧ x.portions ≤ P
structure KiA where
  u : Int
  ms : List Int
structure KiB where
  u : Int
  gs : List Gi
  junk : List VObj
abbrev zeroKn : List VV := [.sf 0 [], .sf 0 []]
set_option maxHeartbeats 4000000 in
set_option maxRecDepth 8000 in
theorem kitchenOf_v {H0 : List VObj} {d : Nat} (hd : d < H0.length) (u : Int) (lg : List (Nat × Nat)) (A B P : Int) (hA : 0 ≤ A ∧ A ≤ 5) (hB : 0 ≤ B ∧ B ≤ 5) (hP : 1 ≤ P ∧ P ≤ 10000) :
    VC Try.prog 36 [.ptr d 0, vi A, vi B, vi P] ⟨DH H0 d u [], lg⟩ (fun r M' => ∃ (k : Kn) (u' : Int), M' = ⟨DH H0 d u' [], lg⟩ ∧ r = kitV k ∧ MadeK A B P k) := by
  have rw1 := castF_range (u := u) (n := A + 1) (by omega)
  have kA : -9223372036854775808 ≤ A + 1 ∧ A + 1 < 9223372036854775808 := by omega
  refine VC_own' T_ok (f := 36) (fn := Try.f36) (by kernel_rfl) rfl Try.ntmps36 (by rfl) (by rfl) ?_
  ((repeat refine W_seq ?_); refine W_region0 T_ok ?_)
  simp (maxSteps := 1000000) only [VL, VM, ↓Gd_none, ↓Gd_t, ↓Gd_f, reduceIte, reduceCtorEq, Int.reduceLE, Int.reduceLT, Int.reduceToNat, Int.reduceNeg, Nat.reduceLT, Nat.reduceEqDiff, Nat.reduceAdd, Nat.reduceSub, Nat.reduceMul, Nat.reduceLeDiff, DH_app hd, DH_len, DH_len0, DH_get hd, DH_get0 hd, DH_set hd, DH_set0 hd, DH_setd, DH_die hd]
  ((repeat refine W_seq ?_); refine W_region0 T_ok ?_)
  simp (maxSteps := 1000000) only [VL, VM, ↓Gd_none, ↓Gd_t, ↓Gd_f, reduceIte, reduceCtorEq, Int.reduceLE, Int.reduceLT, Int.reduceToNat, Int.reduceNeg, Nat.reduceLT, Nat.reduceEqDiff, Nat.reduceAdd, Nat.reduceSub, Nat.reduceMul, Nat.reduceLeDiff, DH_app hd, DH_len, DH_len0, DH_get hd, DH_get0 hd, DH_set hd, DH_set0 hd, DH_setd, DH_die hd]
  ((repeat refine W_seq ?_); refine W_region0 T_ok ?_)
  simp (maxSteps := 1000000) only [VL, VM, ↓Gd_none, ↓Gd_t, ↓Gd_f, reduceIte, reduceCtorEq, Int.reduceLE, Int.reduceLT, Int.reduceToNat, Int.reduceNeg, Nat.reduceLT, Nat.reduceEqDiff, Nat.reduceAdd, Nat.reduceSub, Nat.reduceMul, Nat.reduceLeDiff, DH_app hd, DH_len, DH_len0, DH_get hd, DH_get0 hd, DH_set hd, DH_set0 hd, DH_setd, DH_die hd, kA]
  apply call_eq (f := 45) (fn := Try.f45) (by kernel_rfl) (by rfl)
  · exact cast_c hd u (A + 1) lg (by omega)
  generalize castU u (A + 1) = u1
  generalize castF u (A + 1) = w at rw1
  obtain ⟨nm, rfl⟩ : ∃ m : Nat, w = (m : Int) := ⟨w.toNat, by omega⟩
  have hnA : (nm : Int) ≤ A := by omega
  have hnm : nm ≤ 5 := by omega
  clear rw1
  simp (maxSteps := 1000000) only [VL, VM, ↓Gd_none, ↓Gd_t, ↓Gd_f, reduceIte, reduceCtorEq, Int.reduceLE, Int.reduceLT, Int.reduceToNat, Int.reduceNeg, Nat.reduceLT, Nat.reduceEqDiff, Nat.reduceAdd, Nat.reduceSub, Nat.reduceMul, Nat.reduceLeDiff, DH_app hd, DH_len, DH_len0, DH_get hd, DH_get0 hd, DH_set hd, DH_set0 hd, DH_setd, DH_die hd]
  refine W_ghost (id := H0.length + 1) (off := 0) (k := 1) (k0 := 0) (by rw [DH_get hd]; rfl) rfl ?_
  simp (maxSteps := 1000000) only [VL, VM, ↓Gd_none, ↓Gd_t, ↓Gd_f, reduceIte, reduceCtorEq, Int.reduceLE, Int.reduceLT, Int.reduceToNat, Int.reduceNeg, Nat.reduceLT, Nat.reduceEqDiff, Nat.reduceAdd, Nat.reduceSub, Nat.reduceMul, Nat.reduceLeDiff, DH_app hd, DH_len, DH_len0, DH_get hd, DH_get0 hd, DH_set hd, DH_set0 hd, DH_setd, DH_die hd]
  refine W_ghost (id := H0.length + 1) (off := 1) (k := 3) (k0 := 0) (by rw [DH_get hd]; rfl) rfl ?_
  simp (maxSteps := 1000000) only [VL, VM, ↓Gd_none, ↓Gd_t, ↓Gd_f, reduceIte, reduceCtorEq, Int.reduceLE, Int.reduceLT, Int.reduceToNat, Int.reduceNeg, Nat.reduceLT, Nat.reduceEqDiff, Nat.reduceAdd, Nat.reduceSub, Nat.reduceMul, Nat.reduceLeDiff, DH_app hd, DH_len, DH_len0, DH_get hd, DH_get0 hd, DH_set hd, DH_set0 hd, DH_setd, DH_die hd]
  obtain ⟨n, hn⟩ : ∃ n, H0.length = n := ⟨_, rfl⟩
  rw [hn] at hd ⊢
  obtain ⟨lgA, hlg⟩ : ∃ lgA, lgA = lg ++ [(n + 1, n + 2), (n + 1, n + 3)] := ⟨_, rfl⟩
  rw [← hlg]
  have A2 : addLg (n + 1) [n + 2] lgA = lgA := addLg_has (by rw [hlg]; simp)
  have A3 : addLg (n + 1) [n + 3] lgA = lgA := addLg_has (by rw [hlg]; simp)
  have dg : ∀ u L k, (DH H0 d u L)[n + k]? = L[k]? := fun u L k => by rw [← hn]; exact DH_get (hn ▸ hd) k
  have dg0 : ∀ u L, (DH H0 d u L)[n]? = L[0]? := fun u L => by rw [← hn]; exact DH_get0 (hn ▸ hd)
  have ds : ∀ u L k o, (DH H0 d u L).set (n + k) o = DH H0 d u (L.set k o) := fun u L k o => by rw [← hn]; exact DH_set (hn ▸ hd) k o
  have ds0 : ∀ u L o, (DH H0 d u L).set n o = DH H0 d u (L.set 0 o) := fun u L o => by rw [← hn]; exact DH_set0 (hn ▸ hd) o
  have dl : ∀ u L, (DH H0 d u L).length = n + L.length := fun u L => by rw [← hn]; exact DH_len
  have da : ∀ u L X, DH H0 d u L ++ X = DH H0 d u (L ++ X) := fun u L X => DH_app (hn ▸ hd) X
  have hd' : d < H0.length := by rw [hn]; exact hd
  have kP : -9223372036854775808 ≤ P + 1 ∧ P + 1 < 9223372036854775808 := by omega
  ((repeat refine W_seq ?_); refine W_block ?_; (repeat refine W_seq ?_)); refine W_loopS (fun s : KiA => [(0, .ptr d 0), (2, vi B), (3, vi P), (8, .ptr n 0), (9, .ptr (n + 1) 0), (10, vi ((nm : Int) - (s.ms.length : Int)))]) (fun s => ⟨DH H0 d s.u [.obj zeroKn, .obj [.so (n + 2) 1 (s.ms.map intP), .so (n + 3) 3 []], .clm s.ms.length 1, .clm 0 3], lgA⟩) (fun s => nm - s.ms.length) (fun s => s.ms.length ≤ nm ∧ ∀ b ∈ s.ms, 0 ≤ b ∧ b ≤ P) ⟨u1, []⟩ ⟨Nat.zero_le _, by simp⟩ ⟨rfl, rfl, rfl, rfl, rfl, by simp [get_cons], trivial⟩ rfl ?_
  rintro ⟨v, ms⟩ ⟨hml, hms⟩
  simp only at hml hms
  ((repeat refine W_seq ?_); refine W_region0 T_ok ?_)
  rcases Nat.lt_or_ge ms.length nm with hlt | hge
  · have k2 : ((0 : Int) < (nm : Int) - (ms.length : Int)) = True := eq_true (by omega)
    have k3 : -9223372036854775808 ≤ (nm : Int) - (ms.length : Int) - 1 ∧ (nm : Int) - (ms.length : Int) - 1 < 9223372036854775808 := by omega
    have q1 : ((ms.length + 1) * 8 ≤ 140737488355328) = True := eq_true (by omega)
    have c1 := castF_range (u := v) (n := P + 1) (by omega)
    simp (maxSteps := 1000000) only [VL, VM, ↓Gd_none, ↓Gd_t, ↓Gd_f, reduceIte, reduceCtorEq, Int.reduceLE, Int.reduceLT, Int.reduceToNat, Int.reduceNeg, Nat.reduceLT, Nat.reduceEqDiff, Nat.reduceAdd, Nat.reduceSub, Nat.reduceMul, Nat.reduceLeDiff, k2]
    ((repeat refine W_seq ?_); refine W_cond (b := true) (by first | rfl | simp only [ev, get_cons, Nat.reduceEqDiff, if_true, if_false, reduceIte]) (fun _ => ?_) (fun h => by cases h))
    ((repeat refine W_seq ?_); refine W_skip ?_)
    simp (maxSteps := 1000000) only [VL, VM, ↓Gd_none, ↓Gd_t, ↓Gd_f, reduceIte, reduceCtorEq, Int.reduceLE, Int.reduceLT, Int.reduceToNat, Int.reduceNeg, Nat.reduceLT, Nat.reduceEqDiff, Nat.reduceAdd, Nat.reduceSub, Nat.reduceMul, Nat.reduceLeDiff]
    ((repeat refine W_seq ?_); refine W_block ?_)
    (repeat refine W_seq ?_)
    refine W_drawP T_ok [] (by kernel_rfl) (by kernel_rfl) ?_
    generalize hi : mkPlan _ = infs
    cbv at hi
    subst hi
    simp (maxSteps := 1000000) only [VL, VM, ↓Gd_none, ↓Gd_t, ↓Gd_f, reduceIte, reduceCtorEq, Int.reduceLE, Int.reduceLT, Int.reduceToNat, Int.reduceNeg, Nat.reduceLT, Nat.reduceEqDiff, Nat.reduceAdd, Nat.reduceSub, Nat.reduceMul, Nat.reduceLeDiff, dg, dg0, ds, ds0, dl, da, kP]
    apply call_d (f := 45) (fn := Try.f45) (by kernel_rfl) (by rfl)
    · exact cast_c hd' v (P + 1) lgA (by omega)
    generalize castF v (P + 1) = b at *
    generalize castU v (P + 1) = v2
    simp (maxSteps := 1000000) only [VL, VM, ↓Gd_none, ↓Gd_t, ↓Gd_f, reduceIte, reduceCtorEq, Int.reduceLE, Int.reduceLT, Int.reduceToNat, Int.reduceNeg, Nat.reduceLT, Nat.reduceEqDiff, Nat.reduceAdd, Nat.reduceSub, Nat.reduceMul, Nat.reduceLeDiff, dg, dg0, ds, ds0, dl, da, kP, q1, A2]
    ((repeat refine W_seq ?_); refine W_region0 T_ok ?_)
    simp (maxSteps := 1000000) only [VL, VM, ↓Gd_none, ↓Gd_t, ↓Gd_f, reduceIte, reduceCtorEq, Int.reduceLE, Int.reduceLT, Int.reduceToNat, Int.reduceNeg, Nat.reduceLT, Nat.reduceEqDiff, Nat.reduceAdd, Nat.reduceSub, Nat.reduceMul, Nat.reduceLeDiff, k3]
    refine LoopK.mk ⟨v2, ms ++ [b]⟩ (by simp; omega) ⟨by simp; omega, ?_⟩ ⟨rfl, rfl, rfl, rfl, rfl, ?_, trivial⟩ (by simp)
    · intro x hx
      rcases List.mem_append.1 hx with hx | hx
      · exact hms x hx
      · rw [List.mem_singleton] at hx
        subst hx
        omega
    · simp only [List.length_append, List.length_cons, List.length_nil]
      have e9 : (nm : Int) - (ms.length : Int) - 1 = (nm : Int) - ((ms.length + 1 : Nat) : Int) := by omega
      show vi ((nm : Int) - (ms.length : Int) - 1) = vi ((nm : Int) - ((ms.length + 1 : Nat) : Int))
      rw [e9]
  have k2 : ((0 : Int) < (nm : Int) - (ms.length : Int)) = False := eq_false (by omega)
  have hnl : ms.length = nm := by omega
  simp (maxSteps := 1000000) only [VL, VM, ↓Gd_none, ↓Gd_t, ↓Gd_f, reduceIte, reduceCtorEq, Int.reduceLE, Int.reduceLT, Int.reduceToNat, Int.reduceNeg, Nat.reduceLT, Nat.reduceEqDiff, Nat.reduceAdd, Nat.reduceSub, Nat.reduceMul, Nat.reduceLeDiff, k2]
  ((repeat refine W_seq ?_); refine W_cond (b := false) (by first | rfl | simp only [ev, get_cons, Nat.reduceEqDiff, if_true, if_false, reduceIte]) (fun h => by cases h) (fun _ => ?_))
  ((repeat refine W_seq ?_); refine W_exit ?_)
  simp (maxSteps := 1000000) only [VL, VM, ↓Gd_none, ↓Gd_t, ↓Gd_f, reduceIte, reduceCtorEq, Int.reduceLE, Int.reduceLT, Int.reduceToNat, Int.reduceNeg, Nat.reduceLT, Nat.reduceEqDiff, Nat.reduceAdd, Nat.reduceSub, Nat.reduceMul, Nat.reduceLeDiff]
  have kB : -9223372036854775808 ≤ B + 1 ∧ B + 1 < 9223372036854775808 := by omega
  have rd1 := castF_range (u := v) (n := B + 1) (by omega)
  ((repeat refine W_seq ?_); refine W_region0 T_ok ?_)
  simp (maxSteps := 1000000) only [VL, VM, ↓Gd_none, ↓Gd_t, ↓Gd_f, reduceIte, reduceCtorEq, Int.reduceLE, Int.reduceLT, Int.reduceToNat, Int.reduceNeg, Nat.reduceLT, Nat.reduceEqDiff, Nat.reduceAdd, Nat.reduceSub, Nat.reduceMul, Nat.reduceLeDiff, kB]
  apply call_eq (f := 45) (fn := Try.f45) (by kernel_rfl) (by rfl)
  · exact cast_c hd' v (B + 1) lgA (by omega)
  generalize castU v (B + 1) = u2
  generalize castF v (B + 1) = w at rd1
  obtain ⟨ng, rfl⟩ : ∃ m : Nat, w = (m : Int) := ⟨w.toNat, by omega⟩
  have hng : ng ≤ 5 := by omega
  have hnB : (ng : Int) ≤ B := by omega
  clear rd1 k2 hge hml u1
  simp (maxSteps := 1000000) only [VL, VM, ↓Gd_none, ↓Gd_t, ↓Gd_f, reduceIte, reduceCtorEq, Int.reduceLE, Int.reduceLT, Int.reduceToNat, Int.reduceNeg, Nat.reduceLT, Nat.reduceEqDiff, Nat.reduceAdd, Nat.reduceSub, Nat.reduceMul, Nat.reduceLeDiff]
  ((repeat refine W_seq ?_); refine W_block ?_; (repeat refine W_seq ?_)); refine W_loopS (fun s : KiB => [(0, .ptr d 0), (3, vi P), (8, .ptr n 0), (9, .ptr (n + 1) 0), (11, vi ((ng : Int) - (s.gs.length : Int)))]) (fun s => ⟨DH H0 d s.u (.obj zeroKn :: .obj [.so (n + 2) 1 (ms.map intP), .so (n + 3) 3 (s.gs.map giP)] :: .clm ms.length 1 :: .clm s.gs.length 3 :: s.junk), lgA⟩) (fun s => ng - s.gs.length) (fun s => s.gs.length ≤ ng ∧ ∀ x ∈ s.gs, GiV ms.length x ∧ x.portions ≤ P) ⟨u2, [], []⟩ ⟨Nat.zero_le _, by simp⟩ ⟨rfl, rfl, rfl, rfl, by simp [get_cons], trivial⟩ rfl ?_
  rintro ⟨v, gs, junk⟩ ⟨hgl, hgs⟩
  simp only at hgl hgs
  have fin : MadeK A B P ⟨ms, gs⟩ := ⟨⟨by show ms.length ≤ 5; omega, fun x hx => by have := hms x hx; omega, by show gs.length ≤ 5; omega, fun x hx => (hgs x hx).1⟩, by show (ms.length : Int) ≤ A; omega, by show (gs.length : Int) ≤ B; omega, hms, fun x hx => ⟨(hgs x hx).1.p0, (hgs x hx).2⟩⟩
  ((repeat refine W_seq ?_); refine W_region0 T_ok ?_)
  rcases Nat.lt_or_ge gs.length ng with hlt | hge
  · have k2 : ((0 : Int) < (ng : Int) - (gs.length : Int)) = True := eq_true (by omega)
    rcases Nat.eq_zero_or_pos ms.length with hz | hpos
    · have k4 : ((0 : Int) < (ms.length : Int)) = False := eq_false (by omega)
      simp (maxSteps := 1000000) only [VL, VM, ↓Gd_none, ↓Gd_t, ↓Gd_f, reduceIte, reduceCtorEq, Int.reduceLE, Int.reduceLT, Int.reduceToNat, Int.reduceNeg, Nat.reduceLT, Nat.reduceEqDiff, Nat.reduceAdd, Nat.reduceSub, Nat.reduceMul, Nat.reduceLeDiff, k2, k4, dg, dg0]
      ((repeat refine W_seq ?_); refine W_cond (b := false) (by first | rfl | simp only [ev, get_cons, Nat.reduceEqDiff, if_true, if_false, reduceIte]) (fun h => by cases h) (fun _ => ?_))
      ((repeat refine W_seq ?_); refine W_exit ?_)
      simp (maxSteps := 1000000) only [VL, VM, ↓Gd_none, ↓Gd_t, ↓Gd_f, reduceIte, reduceCtorEq, Int.reduceLE, Int.reduceLT, Int.reduceToNat, Int.reduceNeg, Nat.reduceLT, Nat.reduceEqDiff, Nat.reduceAdd, Nat.reduceSub, Nat.reduceMul, Nat.reduceLeDiff]
      ((repeat refine W_seq ?_); refine W_region0 T_ok ?_)
      simp (maxSteps := 1000000) only [VL, VM, ↓Gd_none, ↓Gd_t, ↓Gd_f, reduceIte, reduceCtorEq, Int.reduceLE, Int.reduceLT, Int.reduceToNat, Int.reduceNeg, Nat.reduceLT, Nat.reduceEqDiff, Nat.reduceAdd, Nat.reduceSub, Nat.reduceMul, Nat.reduceLeDiff, dg, dg0, ds, ds0, dl, da]
      (repeat refine W_seq ?_)
      refine W_ret ?_
      try simp only [thenQ, blockQ]
      refine ⟨.inr rfl, rfl, ⟨[(n + 1, n + 2), (n + 1, n + 3)], by rw [hlg], fun e he => ?_⟩, DH H0 d v [], _, DH_eq hd', by rw [DH_len, DH_len], [kitV ⟨ms, gs⟩], ?_, kitV ⟨ms, gs⟩, ?_, by simp [refs, refsL], ⟨ms, gs⟩, v, rfl, rfl, fin⟩
      · rw [DH_len]
        simp only [List.length_nil, Nat.add_zero]
        rw [hn]
        simp only [List.mem_cons, List.not_mem_nil, or_false] at he
        rcases he with rfl | rfl <;> simp
      · simp [Try.f36, vresL, get_cons, vload, t_kitchen, dg0, nat_ble, strip1]
      · simp [vtup, frz, frzL]
    have k4 : ((0 : Int) < (ms.length : Int)) = True := eq_true (by omega)
    have k3 : -9223372036854775808 ≤ (ng : Int) - (gs.length : Int) - 1 ∧ (ng : Int) - (gs.length : Int) - 1 < 9223372036854775808 := by omega
    simp (maxSteps := 1000000) only [VL, VM, ↓Gd_none, ↓Gd_t, ↓Gd_f, reduceIte, reduceCtorEq, Int.reduceLE, Int.reduceLT, Int.reduceToNat, Int.reduceNeg, Nat.reduceLT, Nat.reduceEqDiff, Nat.reduceAdd, Nat.reduceSub, Nat.reduceMul, Nat.reduceLeDiff, k2, k4, dg, dg0]
    ((repeat refine W_seq ?_); refine W_cond (b := true) (by first | rfl | simp only [ev, get_cons, Nat.reduceEqDiff, if_true, if_false, reduceIte]) (fun _ => ?_) (fun h => by cases h))
    ((repeat refine W_seq ?_); refine W_skip ?_)
    simp (maxSteps := 1000000) only [VL, VM, ↓Gd_none, ↓Gd_t, ↓Gd_f, reduceIte, reduceCtorEq, Int.reduceLE, Int.reduceLT, Int.reduceToNat, Int.reduceNeg, Nat.reduceLT, Nat.reduceEqDiff, Nat.reduceAdd, Nat.reduceSub, Nat.reduceMul, Nat.reduceLeDiff]
    ((repeat refine W_seq ?_); refine W_block ?_)
    have c1 := castF_range (u := v) (n := (ms.length : Int)) (by omega)
    ((repeat refine W_seq ?_); refine W_region0 T_ok ?_)
    simp (maxSteps := 1000000) only [VL, VM, ↓Gd_none, ↓Gd_t, ↓Gd_f, reduceIte, reduceCtorEq, Int.reduceLE, Int.reduceLT, Int.reduceToNat, Int.reduceNeg, Nat.reduceLT, Nat.reduceEqDiff, Nat.reduceAdd, Nat.reduceSub, Nat.reduceMul, Nat.reduceLeDiff, dg, dg0, ds, ds0, dl, da]
    apply call_eq (f := 45) (fn := Try.f45) (by kernel_rfl) (by rfl)
    · exact cast_c hd' v ms.length lgA (by omega)
    have h4 : 1 ≤ (ms.length : Int) ∧ (ms.length : Int) ≤ 5 := by omega
    generalize castF v (ms.length : Int) = a at c1 ⊢
    generalize castU v (ms.length : Int) = v2
    have ha : 0 ≤ a ∧ a < (ms.length : Int) := by omega
    have kq : -9223372036854775808 ≤ (ms.length : Int) - 1 ∧ (ms.length : Int) - 1 < 9223372036854775808 := by omega
    have q1 : ((gs.length + 1) * 24 ≤ 140737488355328) = True := eq_true (by omega)
    have c3 := fromF_range (u := v2) (lo := a) (hi := (ms.length : Int) - 1) (by omega)
    simp (maxSteps := 1000000) only [VL, VM, ↓Gd_none, ↓Gd_t, ↓Gd_f, reduceIte, reduceCtorEq, Int.reduceLE, Int.reduceLT, Int.reduceToNat, Int.reduceNeg, Nat.reduceLT, Nat.reduceEqDiff, Nat.reduceAdd, Nat.reduceSub, Nat.reduceMul, Nat.reduceLeDiff, dg, dg0, ds, ds0, dl, da]
    (repeat refine W_seq ?_)
    refine W_drawP T_ok [] (by kernel_rfl) (by kernel_rfl) ?_
    generalize hi : mkPlan _ = infs
    cbv at hi
    subst hi
    replace ha : 0 ≤ a ∧ a < (ms.length : Int) := ha
    replace h4 : 1 ≤ (ms.length : Int) ∧ (ms.length : Int) ≤ 5 := h4
    replace c3 : a ≤ fromF v2 a ((ms.length : Int) - 1) ∧ fromF v2 a ((ms.length : Int) - 1) ≤ max a ((ms.length : Int) - 1) := c3
    replace kq : -9223372036854775808 ≤ (ms.length : Int) - 1 ∧ (ms.length : Int) - 1 < 9223372036854775808 := kq
    simp (maxSteps := 1000000) only [VL, VM, ↓Gd_none, ↓Gd_t, ↓Gd_f, reduceIte, reduceCtorEq, Int.reduceLE, Int.reduceLT, Int.reduceToNat, Int.reduceNeg, Nat.reduceLT, Nat.reduceEqDiff, Nat.reduceAdd, Nat.reduceSub, Nat.reduceMul, Nat.reduceLeDiff, dg, dg0, ds, ds0, dl, da, kP, kq]
    apply call_d (f := 51) (fn := Try.f51) (by kernel_rfl) (by rfl)
    · exact from_c hd' v2 a ((ms.length : Int) - 1) lgA (by omega) (by omega) (by omega) (by omega)
    generalize fromF v2 a ((ms.length : Int) - 1) = fr at c3 ⊢
    generalize fromU v2 a ((ms.length : Int) - 1) = v3
    have c4 := castF_range (u := v3) (n := P + 1) (by omega)
    simp (maxSteps := 1000000) only [VL, VM, ↓Gd_none, ↓Gd_t, ↓Gd_f, reduceIte, reduceCtorEq, Int.reduceLE, Int.reduceLT, Int.reduceToNat, Int.reduceNeg, Nat.reduceLT, Nat.reduceEqDiff, Nat.reduceAdd, Nat.reduceSub, Nat.reduceMul, Nat.reduceLeDiff, dg, dg0, ds, ds0, dl, da, kP, kq]
    apply call_d (f := 45) (fn := Try.f45) (by kernel_rfl) (by rfl)
    · exact cast_c hd' v3 (P + 1) lgA (by omega)
    generalize castF v3 (P + 1) = po at c4 ⊢
    generalize castU v3 (P + 1) = v4
    simp (maxSteps := 1000000) only [VL, VM, ↓Gd_none, ↓Gd_t, ↓Gd_f, reduceIte, reduceCtorEq, Int.reduceLE, Int.reduceLT, Int.reduceToNat, Int.reduceNeg, Nat.reduceLT, Nat.reduceEqDiff, Nat.reduceAdd, Nat.reduceSub, Nat.reduceMul, Nat.reduceLeDiff, dg, dg0, ds, ds0, dl, da, kP, kq, q1, A3]
    ((repeat refine W_seq ?_); refine W_region0 T_ok ?_)
    simp (maxSteps := 1000000) only [VL, VM, ↓Gd_none, ↓Gd_t, ↓Gd_f, reduceIte, reduceCtorEq, Int.reduceLE, Int.reduceLT, Int.reduceToNat, Int.reduceNeg, Nat.reduceLT, Nat.reduceEqDiff, Nat.reduceAdd, Nat.reduceSub, Nat.reduceMul, Nat.reduceLeDiff, k3]
    refine LoopK.mk ⟨v4, gs ++ [⟨a, fr, po⟩], junk⟩ (by simp; omega) ⟨by simp; omega, ?_⟩ ⟨rfl, rfl, rfl, rfl, ?_, trivial⟩ (by simp)
    · intro x hx
      rcases List.mem_append.1 hx with hx | hx
      · exact hgs x hx
      · rw [List.mem_singleton] at hx
        subst hx
        exact ⟨⟨by simp only; omega, by simp only; omega, by simp only; omega, by simp only; omega, by simp only; omega⟩, by simp only; omega⟩
    · simp only [List.length_append, List.length_cons, List.length_nil]
      have e9 : (ng : Int) - (gs.length : Int) - 1 = (ng : Int) - ((gs.length + 1 : Nat) : Int) := by omega
      show vi ((ng : Int) - (gs.length : Int) - 1) = vi ((ng : Int) - ((gs.length + 1 : Nat) : Int))
      rw [e9]
  have k2 : ((0 : Int) < (ng : Int) - (gs.length : Int)) = False := eq_false (by omega)
  simp (maxSteps := 1000000) only [VL, VM, ↓Gd_none, ↓Gd_t, ↓Gd_f, reduceIte, reduceCtorEq, Int.reduceLE, Int.reduceLT, Int.reduceToNat, Int.reduceNeg, Nat.reduceLT, Nat.reduceEqDiff, Nat.reduceAdd, Nat.reduceSub, Nat.reduceMul, Nat.reduceLeDiff, k2]
  ((repeat refine W_seq ?_); refine W_cond (b := false) (by first | rfl | simp only [ev, get_cons, Nat.reduceEqDiff, if_true, if_false, reduceIte]) (fun h => by cases h) (fun _ => ?_))
  ((repeat refine W_seq ?_); refine W_exit ?_)
  simp (maxSteps := 1000000) only [VL, VM, ↓Gd_none, ↓Gd_t, ↓Gd_f, reduceIte, reduceCtorEq, Int.reduceLE, Int.reduceLT, Int.reduceToNat, Int.reduceNeg, Nat.reduceLT, Nat.reduceEqDiff, Nat.reduceAdd, Nat.reduceSub, Nat.reduceMul, Nat.reduceLeDiff]
  ((repeat refine W_seq ?_); refine W_region0 T_ok ?_)
  simp (maxSteps := 1000000) only [VL, VM, ↓Gd_none, ↓Gd_t, ↓Gd_f, reduceIte, reduceCtorEq, Int.reduceLE, Int.reduceLT, Int.reduceToNat, Int.reduceNeg, Nat.reduceLT, Nat.reduceEqDiff, Nat.reduceAdd, Nat.reduceSub, Nat.reduceMul, Nat.reduceLeDiff, dg, dg0, ds, ds0, dl, da]
  (repeat refine W_seq ?_)
  refine W_ret ?_
  try simp only [thenQ, blockQ]
  refine ⟨.inr rfl, rfl, ⟨[(n + 1, n + 2), (n + 1, n + 3)], by rw [hlg], fun e he => ?_⟩, DH H0 d v [], _, DH_eq hd', by rw [DH_len, DH_len], [kitV ⟨ms, gs⟩], ?_, kitV ⟨ms, gs⟩, ?_, by simp [refs, refsL], ⟨ms, gs⟩, v, rfl, rfl, fin⟩
  · rw [DH_len]
    simp only [List.length_nil, Nat.add_zero]
    rw [hn]
    simp only [List.mem_cons, List.not_mem_nil, or_false] at he
    rcases he with rfl | rfl <;> simp
  · simp [Try.f36, vresL, get_cons, vload, t_kitchen, dg0, nat_ble, strip1]
  · simp [vtup, frz, frzL]
end Go.Proofs.Ytmagiabapakhcaa.Vm

/- Kitchens and houses that are copied into slices of their own. (Vm) -/
-- TABLE TK
namespace Go.Proofs.Ytmagiabapakhcaa.Vm
open Go Go.Proofs
theorem VC_keep {P : Program} {T : Tab} (hT : TabOk P T) {f : Nat} {fn : Func} {c : Code} {nt : Nat} {args : List VV} {M : Mem} {Q : VV → Mem → Prop} (hf : T.fn f = some fn) (hb : fn.body = some c) (hnt : fn.ntmps = nt) (hn : Nat.ble args.length nt = true) (hk : T.keeps f = true)
    (h : WCode P ⟨f, none, nt⟩ c (zipEnv 0 args) M [] (fun ex e M' D => (ex = .normal ∨ ex = .ret) ∧ D = [] ∧ ∃ vs, vresL T e M' fn.results.toList = some vs ∧ Q (vtup vs) M')) : VC P f args M Q := by
  subst hnt
  refine VC_fn hT hf hb (Nat.le_of_ble_eq_true hn) fun hlg => h.mono ?_
  rintro ex e M' D ⟨hex, rfl, vs, h1, h3⟩
  have key : retQ T f M.H.length fn Q .ret e M' [] := by
    simp only [retQ, vkill]
    have hM : ({ M' with H := M'.H } : Mem) = M' := rfl
    rw [hM, h1]
    simp only
    unfold vfinish
    rw [hk]
    exact h3
  rcases hex with rfl | rfl
  · exact key
  · exact key
def ownT2 (T : Tab) (o k : Nat → Bool) : Tab := { T with own := o, keeps := k }
section
variable {P : Program} {T : Tab} {o k : Nat → Bool}
theorem ownT2_ok (h : TabOk P T) : TabOk P (ownT2 T o k) := ⟨h.ty, h.fn, h.mixed⟩
theorem ownT2_ty : (ownT2 T o k).ty = T.ty := rfl
theorem ownT2_fn : (ownT2 T o k).fn = T.fn := rfl
theorem ownT2_bin : vbin (ownT2 T o k) = vbin T := rfl
theorem ownT2_own : (ownT2 T o k).own = o := rfl
theorem ownT2_keeps : (ownT2 T o k).keeps = k := rfl
end
def ownK2 (t : Nat) : Bool := Nat.beq t 22 || Nat.beq t 56 || Nat.beq t 23 || Nat.beq t 26
def keepK2 (f : Nat) : Bool := keepsB f || Nat.beq f 31 || Nat.beq f 37 || Nat.beq f 21
noncomputable def TK : Tab := ownT2 T ownK2 keepK2
theorem TK_ok : TabOk Try.prog TK := ownT2_ok T_ok
theorem xK_ty : TK.ty = T.ty := ownT2_ty
theorem xK_fn : TK.fn = T.fn := ownT2_fn
theorem xK_bin : vbin TK = vbin T := ownT2_bin
theorem xK_oi : TK.own 22 = true := by rw [TK, ownT2_own]; rfl
theorem xK_oc : TK.own 56 = true := by rw [TK, ownT2_own]; rfl
theorem xK_ok : TK.own 23 = true ∧ TK.own 26 = true := by rw [TK, ownT2_own]; exact ⟨rfl, rfl⟩
theorem xK_keeps : TK.keeps = keepK2 := by rw [TK, ownT2_keeps]
theorem flat_ints : ∀ xs : List Int, List.map VV.p (List.map intP xs).flatten = xs.map vi
  | [] => rfl
  | x :: xs => by simp [flat_ints xs]
theorem copyInts_own (xs : List Int) (M : Mem) (hl : xs.length ≤ 1000000) : VC Try.prog 31 [intsV xs] M (fun r M' => M' = ⟨M.H ++ [.obj (xs.map vi)], M.lg⟩ ∧ r = .bf M.H.length 0 xs.length 1) := by
  have q1 : (xs.length * 8 ≤ 140737488355328) = True := eq_true (by omega)
  refine VC_keep TK_ok (f := 31) (fn := Try.f31) (by rw [xK_fn]; kernel_rfl) rfl Try.ntmps31 (by rfl) (by rw [xK_keeps]; rfl) ?_
  ((repeat refine W_seq ?_); refine W_region0 TK_ok ?_)
  simp (maxSteps := 1000000) only [xK_ty, xK_fn, xK_bin, xK_oi, xK_oc, xK_ok, VL, VM, ↓Gd_none, ↓Gd_t, ↓Gd_f, reduceIte, reduceCtorEq, Int.reduceLE, Int.reduceLT, Int.reduceToNat, Int.reduceNeg, Nat.reduceLT, Nat.reduceEqDiff, Nat.reduceAdd, Nat.reduceSub, Nat.reduceMul, Nat.reduceLeDiff]
  ((repeat refine W_seq ?_); refine W_region0 TK_ok ?_)
  simp (maxSteps := 1000000) only [xK_ty, xK_fn, xK_bin, xK_oi, xK_oc, xK_ok, VL, VM, ↓Gd_none, ↓Gd_t, ↓Gd_f, reduceIte, reduceCtorEq, Int.reduceLE, Int.reduceLT, Int.reduceToNat, Int.reduceNeg, Nat.reduceLT, Nat.reduceEqDiff, Nat.reduceAdd, Nat.reduceSub, Nat.reduceMul, Nat.reduceLeDiff, q1]
  (repeat refine W_seq ?_)
  refine W_ret ?_
  refine ⟨.inr rfl, rfl, [.bf M.H.length 0 xs.length 1], rfl, ?_, rfl⟩
  rw [flat_ints]
abbrev cellsG (l : List Gi) : List VV := List.map VV.p (List.map giP l).flatten
abbrev bufK (k : Kn) (n : Nat) : List VV := [.bf n 0 k.meals.length 1, .bf (n + 1) 0 k.gifts.length 3]
theorem copyKitchen_own (k : Kn) (M : Mem) (hm : k.meals.length ≤ 1000000) (hg : k.gifts.length ≤ 1000000) : VC Try.prog 37 [kitV k] M (fun r M' => ∃ X, (∀ e ∈ X, M.H.length ≤ e.1) ∧ M' = ⟨M.H ++ [VObj.obj (kitC k), .obj (bufK k (M.H.length + 2)), .obj (k.meals.map vi), .obj (cellsG k.gifts)], M.lg ++ X⟩ ∧ r = .agg (bufK k (M.H.length + 2))) := by
  have q1 : (k.gifts.length * 24 ≤ 140737488355328) = True := eq_true (by omega)
  refine VC_keep TK_ok (f := 37) (fn := Try.f37) (by rw [xK_fn]; kernel_rfl) rfl Try.ntmps37 (by rfl) (by rw [xK_keeps]; rfl) ?_
  ((repeat refine W_seq ?_); refine W_region0 TK_ok ?_)
  simp (maxSteps := 1000000) only [xK_ty, xK_fn, xK_bin, xK_oi, xK_oc, xK_ok, VL, VM, ↓Gd_none, ↓Gd_t, ↓Gd_f, reduceIte, reduceCtorEq, Int.reduceLE, Int.reduceLT, Int.reduceToNat, Int.reduceNeg, Nat.reduceLT, Nat.reduceEqDiff, Nat.reduceAdd, Nat.reduceSub, Nat.reduceMul, Nat.reduceLeDiff]
  (repeat refine W_seq ?_)
  refine W_drawP TK_ok [] (by kernel_rfl) (by kernel_rfl) ?_
  generalize hi : mkPlan _ = infs
  cbv at hi
  subst hi
  simp (maxSteps := 1000000) only [xK_ty, xK_fn, xK_bin, xK_oi, xK_oc, xK_ok, VL, VM, ↓Gd_none, ↓Gd_t, ↓Gd_f, reduceIte, reduceCtorEq, Int.reduceLE, Int.reduceLT, Int.reduceToNat, Int.reduceNeg, Nat.reduceLT, Nat.reduceEqDiff, Nat.reduceAdd, Nat.reduceSub, Nat.reduceMul, Nat.reduceLeDiff, q1]
  apply call_d (f := 31) (fn := Try.f31) (by kernel_rfl) (by rfl)
  · exact copyInts_own k.meals _ hm
  simp (maxSteps := 1000000) only [xK_ty, xK_fn, xK_bin, xK_oi, xK_oc, xK_ok, VL, VM, ↓Gd_none, ↓Gd_t, ↓Gd_f, reduceIte, reduceCtorEq, Int.reduceLE, Int.reduceLT, Int.reduceToNat, Int.reduceNeg, Nat.reduceLT, Nat.reduceEqDiff, Nat.reduceAdd, Nat.reduceSub, Nat.reduceMul, Nat.reduceLeDiff, q1]
  (repeat refine W_seq ?_)
  refine W_ret ?_
  try simp only [thenQ, blockQ]
  obtain ⟨X, h1, h2⟩ := addLg_Y (M.H.length + 1) [M.H.length + 2, M.H.length + 3] M.lg
  refine ⟨.inr (by trivial), by trivial, [.agg (bufK k (M.H.length + 2))], ?_, X, fun e he => by have := (h2 e he).1; omega, by rw [h1], rfl⟩
  simp [Try.f37, vresL, vload, xK_ty, t_kitchen, get_cons, hget, hget0, nat_ble, strip1]
end Go.Proofs.Ytmagiabapakhcaa.Vm

/- The law of gifts that keep longer, on values. (Vm) -/
namespace Go.Proofs.Ytmagiabapakhcaa.Vm
open Go Go.Proofs
attribute [local irreducible] castF castU fromF fromU oneF oneU
theorem cellsG_cons (x : Gi) (l : List Gi) : cellsG (x :: l) = vi x.from_ :: vi x.keeps :: vi x.portions :: cellsG l := rfl
theorem cellsG_app (l m : List Gi) : cellsG (l ++ m) = cellsG l ++ cellsG m := by simp [cellsG]
theorem cellsG_len : ∀ l : List Gi, (cellsG l).length = l.length * 3
  | [] => rfl
  | x :: l => by rw [cellsG_cons, List.length_cons, List.length_cons, List.length_cons, cellsG_len l, List.length_cons]; omega
set_option maxHeartbeats 8000000 in
set_option maxRecDepth 8000 in
theorem kept_law_v (xs : List Int) (M : Mem) (hl : xs.length ≤ maxLen) : VC Try.prog 14 [intsV xs] M (fun r M' => M' = M ∧ r = vb true) := by
  refine VC_own' T_ok (f := 14) (fn := Try.f14) (by kernel_rfl) rfl Try.ntmps14 (by rfl) (by rfl) ?_
  ((repeat refine W_seq ?_); refine W_region0 T_ok ?_)
  simp (maxSteps := 1000000) only [VL, VM, ↓Gd_none, ↓Gd_t, ↓Gd_f, reduceIte, reduceCtorEq, Int.reduceLE, Int.reduceLT, Int.reduceToNat, Int.reduceNeg, Nat.reduceLT, Nat.reduceEqDiff, Nat.reduceAdd, Nat.reduceSub, Nat.reduceMul, Nat.reduceLeDiff]
  ((repeat refine W_seq ?_); refine W_region0 T_ok ?_)
  simp (maxSteps := 1000000) only [VL, VM, ↓Gd_none, ↓Gd_t, ↓Gd_f, reduceIte, reduceCtorEq, Int.reduceLE, Int.reduceLT, Int.reduceToNat, Int.reduceNeg, Nat.reduceLT, Nat.reduceEqDiff, Nat.reduceAdd, Nat.reduceSub, Nat.reduceMul, Nat.reduceLeDiff]
  apply call_eq (f := 20) (fn := Try.f20) (by kernel_rfl) (by rfl)
  · exact dieOf_v xs M hl
  obtain ⟨H0, hH0⟩ : ∃ H0, H0 = M.H ++ [VObj.dead] := ⟨_, rfl⟩
  obtain ⟨d, hdd⟩ : ∃ d, d = M.H.length := ⟨_, rfl⟩
  have hd : d < H0.length := by rw [hH0, hdd]; simp
  have hlen0 : H0.length = M.H.length + 1 := by rw [hH0]; simp
  rw [← hH0, ← hdd]
  have tail : ∀ u L, DH H0 d u L = M.H ++ (.obj [uv u] :: L) := fun u L => by rw [hH0, hdd]; exact DH_tail M u L
  generalize dieU xs = u0
  simp (maxSteps := 1000000) only [VL, VM, ↓Gd_none, ↓Gd_t, ↓Gd_f, reduceIte, reduceCtorEq, Int.reduceLE, Int.reduceLT, Int.reduceToNat, Int.reduceNeg, Nat.reduceLT, Nat.reduceEqDiff, Nat.reduceAdd, Nat.reduceSub, Nat.reduceMul, Nat.reduceLeDiff]
  ((repeat refine W_seq ?_); refine W_region0 T_ok ?_)
  simp (maxSteps := 1000000) only [VL, VM, ↓Gd_none, ↓Gd_t, ↓Gd_f, reduceIte, reduceCtorEq, Int.reduceLE, Int.reduceLT, Int.reduceToNat, Int.reduceNeg, Nat.reduceLT, Nat.reduceEqDiff, Nat.reduceAdd, Nat.reduceSub, Nat.reduceMul, Nat.reduceLeDiff]
  have o1 := oneF_mem (u := u0) (xs := [5, 300]) (by simp) (by simp)
  apply call_eq (f := 28) (fn := Try.f28) (by kernel_rfl) (by rfl)
  · exact one_c hd u0 [5, 300] M.lg (by simp) (by simp)
  generalize oneF u0 [5, 300] = P at o1 ⊢
  generalize oneU u0 [5, 300] = u1
  have hP : 1 ≤ P ∧ P ≤ 300 := by
    simp only [List.mem_cons, List.not_mem_nil, or_false] at o1
    rcases o1 with e | e <;> rw [e] <;> omega
  simp (maxSteps := 1000000) only [VL, VM, ↓Gd_none, ↓Gd_t, ↓Gd_f, reduceIte, reduceCtorEq, Int.reduceLE, Int.reduceLT, Int.reduceToNat, Int.reduceNeg, Nat.reduceLT, Nat.reduceEqDiff, Nat.reduceAdd, Nat.reduceSub, Nat.reduceMul, Nat.reduceLeDiff]
  refine fn_call (f := 36) (fn := Try.f36) (by kernel_rfl) (by rfl) ?_
  refine (kitchenOf_v hd u1 M.lg 4 4 P (by omega) (by omega) (by omega)).mono ?_
  rintro _ _ ⟨k, u2, rfl, rfl, m⟩
  have mV := m.V
  have m5 := mV.m1
  have g5 := mV.g1
  simp (maxSteps := 1000000) only [VL, VM, ↓Gd_none, ↓Gd_t, ↓Gd_f, reduceIte, reduceCtorEq, Int.reduceLE, Int.reduceLT, Int.reduceToNat, Int.reduceNeg, Nat.reduceLT, Nat.reduceEqDiff, Nat.reduceAdd, Nat.reduceSub, Nat.reduceMul, Nat.reduceLeDiff, DH_app hd, DH_len, DH_len0, DH_get hd, DH_get0 hd, DH_set hd, DH_set0 hd, DH_setd, DH_die hd]
  ((repeat refine W_seq ?_); refine W_region0 T_ok ?_)
  simp (maxSteps := 1000000) only [VL, VM, ↓Gd_none, ↓Gd_t, ↓Gd_f, reduceIte, reduceCtorEq, Int.reduceLE, Int.reduceLT, Int.reduceToNat, Int.reduceNeg, Nat.reduceLT, Nat.reduceEqDiff, Nat.reduceAdd, Nat.reduceSub, Nat.reduceMul, Nat.reduceLeDiff, DH_app hd, DH_len, DH_len0, DH_get hd, DH_get0 hd, DH_set hd, DH_set0 hd, DH_setd, DH_die hd]
  refine fn_call (f := 37) (fn := Try.f37) (by kernel_rfl) (by rfl) ?_
  refine (copyKitchen_own k _ (by omega) (by omega)).mono ?_
  rintro _ _ ⟨X, hX, rfl, rfl⟩
  simp only [DH_app hd, DH_len, DH_len0, DH_get hd, DH_get0 hd, DH_set hd, DH_set0 hd, DH_setd, DH_die hd, List.length_cons, List.length_nil, Nat.add_assoc, Nat.reduceAdd] at hX ⊢
  simp (maxSteps := 1000000) only [VL, VM, ↓Gd_none, ↓Gd_t, ↓Gd_f, reduceIte, reduceCtorEq, Int.reduceLE, Int.reduceLT, Int.reduceToNat, Int.reduceNeg, Nat.reduceLT, Nat.reduceEqDiff, Nat.reduceAdd, Nat.reduceSub, Nat.reduceMul, Nat.reduceLeDiff, DH_app hd, DH_len, DH_len0, DH_get hd, DH_get0 hd, DH_set hd, DH_set0 hd, DH_setd, DH_die hd]
  obtain ⟨Y, y1, y2⟩ := addLg_Y (H0.length + 5) [H0.length + 3, H0.length + 4] (M.lg ++ X)
  rw [y1]
  have hXY : ∃ Z, M.lg ++ X ++ Y = M.lg ++ Z ∧ ∀ e ∈ Z, M.H.length ≤ e.1 := ⟨X ++ Y, List.append_assoc _ _ _, fun e he => by
    rcases List.mem_append.1 he with he | he
    · have := hX e he
      omega
    · have := (y2 e he).1
      omega⟩
  generalize M.lg ++ X ++ Y = lg at hXY ⊢
  clear y1 y2 hX
  ((repeat refine W_seq ?_); refine W_region0 T_ok ?_)
  simp (maxSteps := 1000000) only [VL, VM, ↓Gd_none, ↓Gd_t, ↓Gd_f, reduceIte, reduceCtorEq, Int.reduceLE, Int.reduceLT, Int.reduceToNat, Int.reduceNeg, Nat.reduceLT, Nat.reduceEqDiff, Nat.reduceAdd, Nat.reduceSub, Nat.reduceMul, Nat.reduceLeDiff]
  ((repeat refine W_seq ?_); refine W_block ?_; (repeat refine W_seq ?_)); refine W_loopS (fun s : Nat × Int × List Int => [(3, .ptr d 0), (4, .ptr H0.length 0), (5, .ptr (H0.length + 5) 0), (6, vi s.1)]) (fun s => ⟨DH H0 d s.2.1 [.obj (kitC k), .obj (kitC k), .obj (bufK k (H0.length + 3)), .obj (s.2.2.map vi), .obj (cellsG k.gifts), .obj (bufK k (H0.length + 3))], lg⟩) (fun s => k.meals.length - s.1) (fun s => s.1 ≤ k.meals.length ∧ MBet k.meals s.2.2 ∧ ∀ j, s.1 ≤ j → s.2.2.getD j 0 = k.meals.getD j 0) (0, u2, k.meals) ⟨Nat.zero_le _, MBet.refl _, fun _ _ => rfl⟩ ⟨rfl, rfl, rfl, rfl, trivial⟩ rfl ?_
  rintro ⟨i, u, ms⟩ ⟨hi, hbs, hun⟩
  simp only at hi hbs hun
  have hbl := hbs.len
  have k1 : -9223372036854775808 ≤ (i : Int) + 1 ∧ (i : Int) + 1 < 9223372036854775808 := by omega
  ((repeat refine W_seq ?_); refine W_region0 T_ok ?_)
  rcases Nat.lt_or_ge i k.meals.length with hlt | hge
  · have k2 : ((i : Int) < (k.meals.length : Int)) = True := eq_true (by omega)
    have hx : ms[i]? = some (ms.getD i 0) := by
      rw [List.getD_eq_getElem?_getD, List.getElem?_eq_getElem (show i < ms.length by omega)]; rfl
    have hx0 := hun i (Nat.le_refl _)
    have hx9 : 0 ≤ k.meals.getD i 0 ∧ k.meals.getD i 0 ≤ P := by
      refine m.mp _ ?_
      rw [List.getD_eq_getElem?_getD, List.getElem?_eq_getElem hlt]
      exact List.getElem_mem hlt
    have hup := fun q (h0 : 0 ≤ q ∧ q ≤ 20) => hbs.up (i := i) (q := q) hx0 (by omega) h0
    have hun2 : ∀ q j, i + 1 ≤ j → (ms.set i q).getD j 0 = k.meals.getD j 0 := fun q j hj => by
      rw [List.getD_eq_getElem?_getD, List.getElem?_set_ne (by omega), ← List.getD_eq_getElem?_getD]
      exact hun j (by omega)
    generalize ms.getD i 0 = x at hx hx0 hup
    rw [← hx0] at hx9
    have hx1 : (List.map vi ms)[i]? = some (vi x) := by rw [List.getElem?_map, hx]; rfl
    have hx3 : (i + 1 ≤ ms.length) = True := eq_true (by omega)
    have c1 := castF_range (u := u) (n := 20) (by omega)
    have ho := oneF_mem (u := castU u 20) (xs := [0, castF u 20]) (by simp) (by simp)
    simp (maxSteps := 1000000) only [VL, VM, ↓Gd_none, ↓Gd_t, ↓Gd_f, reduceIte, reduceCtorEq, Int.reduceLE, Int.reduceLT, Int.reduceToNat, Int.reduceNeg, Nat.reduceLT, Nat.reduceEqDiff, Nat.reduceAdd, Nat.reduceSub, Nat.reduceMul, Nat.reduceLeDiff, k2, DH_app hd, DH_len, DH_len0, DH_get hd, DH_get0 hd, DH_set hd, DH_set0 hd, DH_setd, DH_die hd]
    ((repeat refine W_seq ?_); refine W_cond (b := true) (by first | rfl | simp only [ev, get_cons, Nat.reduceEqDiff, if_true, if_false, reduceIte]) (fun _ => ?_) (fun h => by cases h))
    ((repeat refine W_seq ?_); refine W_skip ?_)
    simp (maxSteps := 1000000) only [VL, VM, ↓Gd_none, ↓Gd_t, ↓Gd_f, reduceIte, reduceCtorEq, Int.reduceLE, Int.reduceLT, Int.reduceToNat, Int.reduceNeg, Nat.reduceLT, Nat.reduceEqDiff, Nat.reduceAdd, Nat.reduceSub, Nat.reduceMul, Nat.reduceLeDiff]
    ((repeat refine W_seq ?_); refine W_block ?_)
    (repeat refine W_seq ?_)
    refine W_drawP T_ok [] (by kernel_rfl) (by kernel_rfl) ?_
    generalize hi : mkPlan _ = infs
    cbv at hi
    subst hi
    simp (maxSteps := 1000000) only [VL, VM, ↓Gd_none, ↓Gd_t, ↓Gd_f, reduceIte, reduceCtorEq, Int.reduceLE, Int.reduceLT, Int.reduceToNat, Int.reduceNeg, Nat.reduceLT, Nat.reduceEqDiff, Nat.reduceAdd, Nat.reduceSub, Nat.reduceMul, Nat.reduceLeDiff, DH_app hd, DH_len, DH_len0, DH_get hd, DH_get0 hd, DH_set hd, DH_set0 hd, DH_setd, DH_die hd, eq_true hlt, hx1]
    apply call_d (f := 45) (fn := Try.f45) (by kernel_rfl) (by rfl)
    · exact cast_c hd u 20 _ (by omega)
    simp (maxSteps := 1000000) only [VL, VM, ↓Gd_none, ↓Gd_t, ↓Gd_f, reduceIte, reduceCtorEq, Int.reduceLE, Int.reduceLT, Int.reduceToNat, Int.reduceNeg, Nat.reduceLT, Nat.reduceEqDiff, Nat.reduceAdd, Nat.reduceSub, Nat.reduceMul, Nat.reduceLeDiff, DH_app hd, DH_len, DH_len0, DH_get hd, DH_get0 hd, DH_set hd, DH_set0 hd, DH_setd, DH_die hd, eq_true hlt, hx1]
    apply call_d (f := 28) (fn := Try.f28) (by kernel_rfl) (by rfl)
    · exact one_c hd (castU u 20) [0, castF u 20] _ (by simp) (by simp)
    generalize castF u 20 = y1 at *
    generalize castU u 20 = v1 at *
    generalize hb9 : oneF v1 [0, y1] = b9 at *
    clear hb9
    generalize oneU v1 [0, y1] = v2
    have hb0 : 0 ≤ b9 ∧ b9 ≤ 20 := by
      simp only [List.mem_cons, List.not_mem_nil, or_false] at ho
      rcases ho with ho | ho <;> rw [ho] <;> omega
    have r1 : -9223372036854775808 ≤ x + b9 ∧ x + b9 < 9223372036854775808 := by omega
    have hx2 : List.map vi (List.take i ms) ++ vi (x + b9) :: List.map vi (List.drop (i + 1) ms) = List.map vi (ms.set i (x + b9)) := by
      rw [List.set_eq_take_append_cons_drop, if_pos (by omega)]
      simp
    simp (maxSteps := 1000000) only [VL, VM, ↓Gd_none, ↓Gd_t, ↓Gd_f, reduceIte, reduceCtorEq, Int.reduceLE, Int.reduceLT, Int.reduceToNat, Int.reduceNeg, Nat.reduceLT, Nat.reduceEqDiff, Nat.reduceAdd, Nat.reduceSub, Nat.reduceMul, Nat.reduceLeDiff, DH_app hd, DH_len, DH_len0, DH_get hd, DH_get0 hd, DH_set hd, DH_set0 hd, DH_setd, DH_die hd, eq_true hlt, hx1, r1, hx2, hx3]
    ((repeat refine W_seq ?_); refine W_region0 T_ok ?_)
    simp (maxSteps := 1000000) only [VL, VM, ↓Gd_none, ↓Gd_t, ↓Gd_f, reduceIte, reduceCtorEq, Int.reduceLE, Int.reduceLT, Int.reduceToNat, Int.reduceNeg, Nat.reduceLT, Nat.reduceEqDiff, Nat.reduceAdd, Nat.reduceSub, Nat.reduceMul, Nat.reduceLeDiff, k1]
    exact LoopK.mk (i + 1, v2, ms.set i (x + b9)) (by simp only; omega) ⟨by simp only; omega, hup b9 hb0, hun2 _⟩ ⟨rfl, rfl, rfl, rfl, trivial⟩ rfl
  have k2 : ((i : Int) < (k.meals.length : Int)) = False := eq_false (by omega)
  simp (maxSteps := 1000000) only [VL, VM, ↓Gd_none, ↓Gd_t, ↓Gd_f, reduceIte, reduceCtorEq, Int.reduceLE, Int.reduceLT, Int.reduceToNat, Int.reduceNeg, Nat.reduceLT, Nat.reduceEqDiff, Nat.reduceAdd, Nat.reduceSub, Nat.reduceMul, Nat.reduceLeDiff, k2, DH_app hd, DH_len, DH_len0, DH_get hd, DH_get0 hd, DH_set hd, DH_set0 hd, DH_setd, DH_die hd]
  ((repeat refine W_seq ?_); refine W_cond (b := false) (by first | rfl | simp only [ev, get_cons, Nat.reduceEqDiff, if_true, if_false, reduceIte]) (fun h => by cases h) (fun _ => ?_))
  ((repeat refine W_seq ?_); refine W_exit ?_)
  simp (maxSteps := 1000000) only [VL, VM, ↓Gd_none, ↓Gd_t, ↓Gd_f, reduceIte, reduceCtorEq, Int.reduceLE, Int.reduceLT, Int.reduceToNat, Int.reduceNeg, Nat.reduceLT, Nat.reduceEqDiff, Nat.reduceAdd, Nat.reduceSub, Nat.reduceMul, Nat.reduceLeDiff]
  clear hun hge k2 k1 hi
  have z3 : -9223372036854775808 ≤ (k.meals.length : Int) - 1 ∧ (k.meals.length : Int) - 1 < 9223372036854775808 := by omega
  ((repeat refine W_seq ?_); refine W_region0 T_ok ?_)
  simp (maxSteps := 1000000) only [VL, VM, ↓Gd_none, ↓Gd_t, ↓Gd_f, reduceIte, reduceCtorEq, Int.reduceLE, Int.reduceLT, Int.reduceToNat, Int.reduceNeg, Nat.reduceLT, Nat.reduceEqDiff, Nat.reduceAdd, Nat.reduceSub, Nat.reduceMul, Nat.reduceLeDiff, DH_app hd, DH_len, DH_len0, DH_get hd, DH_get0 hd, DH_set hd, DH_set0 hd, DH_setd, DH_die hd]
  ((repeat refine W_seq ?_); refine W_block ?_; (repeat refine W_seq ?_)); refine W_loopS (fun s : Nat × Int × List Gi => [(3, .ptr d 0), (4, .ptr H0.length 0), (5, .ptr (H0.length + 5) 0), (7, vi s.1)]) (fun s => ⟨DH H0 d s.2.1 [.obj (kitC k), .obj (kitC k), .obj (bufK k (H0.length + 3)), .obj (ms.map vi), .obj (cellsG s.2.2), .obj (bufK k (H0.length + 3))], lg⟩) (fun s => k.gifts.length - s.1) (fun s => s.1 ≤ k.gifts.length ∧ GsBet k.meals.length k.gifts s.2.2 ∧ ∀ j, s.1 ≤ j → s.2.2.getD j ⟨0, 0, 0⟩ = k.gifts.getD j ⟨0, 0, 0⟩) (0, u, k.gifts) ⟨Nat.zero_le _, GsBet.refl mV.gifts, fun _ _ => rfl⟩ ⟨rfl, rfl, rfl, rfl, trivial⟩ rfl ?_
  clear u
  rintro ⟨i, u, gs⟩ ⟨hi, hgs, hun⟩
  simp only at hi hgs hun
  have hgl := hgs.len
  have k1 : -9223372036854775808 ≤ (i : Int) + 1 ∧ (i : Int) + 1 < 9223372036854775808 := by omega
  have hgl3 := cellsG_len gs
  rw [hgl] at hgl3
  ((repeat refine W_seq ?_); refine W_region0 T_ok ?_)
  rcases Nat.lt_or_ge i k.gifts.length with hlt | hge
  · have k2 : ((i : Int) < (k.gifts.length : Int)) = True := eq_true (by omega)
    have hx : gs = gs.take i ++ gs.getD i ⟨0, 0, 0⟩ :: gs.drop (i + 1) := by
      rw [List.getD_eq_getElem?_getD, List.getElem?_eq_getElem (show i < gs.length by omega)]
      simp
    have hx0 := hun i (Nat.le_refl _)
    have hx9 : GiV k.meals.length (k.gifts.getD i ⟨0, 0, 0⟩) := giAt_V mV hlt
    have hup := fun y hy => hgs.up (i := i) (y := y) hlt hy
    have hun2 : ∀ q j, i + 1 ≤ j → (gs.set i q).getD j ⟨0, 0, 0⟩ = k.gifts.getD j ⟨0, 0, 0⟩ := fun q j hj => by
      rw [List.getD_eq_getElem?_getD, List.getElem?_set_ne (by omega), ← List.getD_eq_getElem?_getD]
      exact hun j (by omega)
    have hset : ∀ y, gs.set i y = gs.take i ++ y :: gs.drop (i + 1) := fun y => by rw [List.set_eq_take_append_cons_drop, if_pos (by omega)]
    rw [← hx0] at hx9 hup
    generalize gs.getD i ⟨0, 0, 0⟩ = x at hx hx0 hup hx9
    have hA : (cellsG (gs.take i)).length = i * 3 := by rw [cellsG_len, List.length_take]; congr 1; omega
    have hxc : cellsG gs = cellsG (gs.take i) ++ vi x.from_ :: vi x.keeps :: vi x.portions :: cellsG (gs.drop (i + 1)) := by
      conv => lhs; rw [hx]
      rw [cellsG_app, cellsG_cons]
    have hsc : ∀ f q, cellsG (gs.set i ⟨f, q, x.portions⟩) = cellsG (gs.take i) ++ vi f :: vi q :: vi x.portions :: cellsG (gs.drop (i + 1)) := fun f q => by rw [hset, cellsG_app, cellsG_cons]
    simp (maxSteps := 1000000) only [VL, VM, ↓Gd_none, ↓Gd_t, ↓Gd_f, reduceIte, reduceCtorEq, Int.reduceLE, Int.reduceLT, Int.reduceToNat, Int.reduceNeg, Nat.reduceLT, Nat.reduceEqDiff, Nat.reduceAdd, Nat.reduceSub, Nat.reduceMul, Nat.reduceLeDiff, k2, DH_app hd, DH_len, DH_len0, DH_get hd, DH_get0 hd, DH_set hd, DH_set0 hd, DH_setd, DH_die hd]
    ((repeat refine W_seq ?_); refine W_cond (b := true) (by first | rfl | simp only [ev, get_cons, Nat.reduceEqDiff, if_true, if_false, reduceIte]) (fun _ => ?_) (fun h => by cases h))
    ((repeat refine W_seq ?_); refine W_skip ?_)
    simp (maxSteps := 1000000) only [VL, VM, ↓Gd_none, ↓Gd_t, ↓Gd_f, reduceIte, reduceCtorEq, Int.reduceLE, Int.reduceLT, Int.reduceToNat, Int.reduceNeg, Nat.reduceLT, Nat.reduceEqDiff, Nat.reduceAdd, Nat.reduceSub, Nat.reduceMul, Nat.reduceLeDiff]
    ((repeat refine W_seq ?_); refine W_block ?_)
    ((repeat refine W_seq ?_); refine W_region0 T_ok ?_)
    simp (maxSteps := 1000000) only [VL, VM, ↓Gd_none, ↓Gd_t, ↓Gd_f, reduceIte, reduceCtorEq, Int.reduceLE, Int.reduceLT, Int.reduceToNat, Int.reduceNeg, Nat.reduceLT, Nat.reduceEqDiff, Nat.reduceAdd, Nat.reduceSub, Nat.reduceMul, Nat.reduceLeDiff, DH_app hd, DH_len, DH_len0, DH_get hd, DH_get0 hd, DH_set hd, DH_set0 hd, DH_setd, DH_die hd, eq_true hlt]
    rw [hxc]
    have hupx := fun f q hy => hup ⟨f, q, x.portions⟩ hy
    have hn1 : 1 ≤ k.meals.length := by have := hx9.k1; have := hx9.fk; have := hx9.f0; omega
    obtain ⟨b1, b2, b3, b4, b5⟩ := hx9
    clear hxc hup hset
    generalize cellsG (gs.take i) = A at hA hsc ⊢
    generalize cellsG (gs.drop (i + 1)) = B at hsc ⊢
    have a0 : ∀ l : List VV, (A ++ l)[i * 3]? = l[0]? := fun l => by rw [← hA, List.getElem?_append_right (Nat.le_refl _), Nat.sub_self]
    have a1 : ∀ l : List VV, (A ++ l)[i * 3 + 1]? = l[1]? := fun l => by rw [← hA, List.getElem?_append_right (by omega), Nat.add_sub_cancel_left]
    have t0 : ∀ l : List VV, (A ++ l).take (i * 3) = A := fun l => by rw [← hA, List.take_left']; rfl
    have t1 : ∀ l : List VV, (A ++ l).take (i * 3 + 1) = A ++ l.take 1 := fun l => by rw [← hA, List.take_append, List.take_of_length_le (by omega)]; simp
    have d1 : ∀ l : List VV, (A ++ l).drop (i * 3 + 1) = l.drop 1 := fun l => by rw [← hA, List.drop_append]; simp
    have d2 : ∀ l : List VV, (A ++ l).drop (i * 3 + 2) = l.drop 2 := fun l => by rw [← hA, List.drop_append]; simp
    have e1 : ∀ b : Nat, (i * 3 + 1 ≤ i * 3 + (b + 3)) = True := fun b => eq_true (by omega)
    have e2 : ∀ b : Nat, (i * 3 + 2 ≤ i * 3 + (b + 3)) = True := fun b => eq_true (by omega)
    have f1 := fromF_range (u := u) (lo := 0) (hi := x.from_) (by omega)
    have m6 : 1 ≤ (k.meals.length : Int) ∧ (k.meals.length : Int) ≤ 5 := by omega
    (repeat refine W_seq ?_)
    refine W_drawP T_ok [] (by kernel_rfl) (by kernel_rfl) ?_
    generalize hi : mkPlan _ = infs
    cbv at hi
    subst hi
    replace m6 : 1 ≤ (k.meals.length : Int) ∧ (k.meals.length : Int) ≤ 5 := m6
    replace b3 : x.keeps < (k.meals.length : Int) := b3
    replace z3 : -9223372036854775808 ≤ (k.meals.length : Int) - 1 ∧ (k.meals.length : Int) - 1 < 9223372036854775808 := z3
    simp (maxSteps := 1000000) only [VL, VM, ↓Gd_none, ↓Gd_t, ↓Gd_f, reduceIte, reduceCtorEq, Int.reduceLE, Int.reduceLT, Int.reduceToNat, Int.reduceNeg, Nat.reduceLT, Nat.reduceEqDiff, Nat.reduceAdd, Nat.reduceSub, Nat.reduceMul, Nat.reduceLeDiff, DH_app hd, DH_len, DH_len0, DH_get hd, DH_get0 hd, DH_set hd, DH_set0 hd, DH_setd, DH_die hd, eq_true hlt, hA, a0, a1, t0, t1, d1, d2, e1, e2, z3]
    apply call_d (f := 51) (fn := Try.f51) (by kernel_rfl) (by rfl)
    · exact from_c hd u 0 x.from_ _ (by omega) (by omega) (by omega) (by omega)
    generalize fromF u 0 x.from_ = y1 at *
    generalize fromU u 0 x.from_ = v1 at *
    have f2 := fromF_range (u := v1) (lo := x.keeps) (hi := (k.meals.length : Int) - 1) (by omega)
    simp (maxSteps := 1000000) only [VL, VM, ↓Gd_none, ↓Gd_t, ↓Gd_f, reduceIte, reduceCtorEq, Int.reduceLE, Int.reduceLT, Int.reduceToNat, Int.reduceNeg, Nat.reduceLT, Nat.reduceEqDiff, Nat.reduceAdd, Nat.reduceSub, Nat.reduceMul, Nat.reduceLeDiff, DH_app hd, DH_len, DH_len0, DH_get hd, DH_get0 hd, DH_set hd, DH_set0 hd, DH_setd, DH_die hd, eq_true hlt, hA, a0, a1, t0, t1, d1, d2, e1, e2, z3]
    apply call_d (f := 51) (fn := Try.f51) (by kernel_rfl) (by rfl)
    · exact from_c hd v1 x.keeps ((k.meals.length : Int) - 1) _ (by omega) (by omega) (by omega) (by omega)
    generalize fromF v1 x.keeps ((k.meals.length : Int) - 1) = y2 at *
    generalize fromU v1 x.keeps ((k.meals.length : Int) - 1) = v2 at *
    simp (maxSteps := 1000000) only [VL, VM, ↓Gd_none, ↓Gd_t, ↓Gd_f, reduceIte, reduceCtorEq, Int.reduceLE, Int.reduceLT, Int.reduceToNat, Int.reduceNeg, Nat.reduceLT, Nat.reduceEqDiff, Nat.reduceAdd, Nat.reduceSub, Nat.reduceMul, Nat.reduceLeDiff, DH_app hd, DH_len, DH_len0, DH_get hd, DH_get0 hd, DH_set hd, DH_set0 hd, DH_setd, DH_die hd, eq_true hlt, hA, a0, a1, t0, t1, d1, d2, e1, e2, z3]
    ((repeat refine W_seq ?_); refine W_region0 T_ok ?_)
    simp (maxSteps := 1000000) only [VL, VM, ↓Gd_none, ↓Gd_t, ↓Gd_f, reduceIte, reduceCtorEq, Int.reduceLE, Int.reduceLT, Int.reduceToNat, Int.reduceNeg, Nat.reduceLT, Nat.reduceEqDiff, Nat.reduceAdd, Nat.reduceSub, Nat.reduceMul, Nat.reduceLeDiff, k1]
    refine LoopK.mk (i + 1, v2, gs.set i ⟨y1, y2, x.portions⟩) (by simp only; omega) ⟨by simp only; omega, hupx y1 y2 ⟨f1.1, by simp only; omega, f2.1, by simp only; omega, rfl⟩, hun2 _⟩ ⟨rfl, rfl, rfl, rfl, trivial⟩ ?_
    simp only
    rw [hsc]
  have k2 : ((i : Int) < (k.gifts.length : Int)) = False := eq_false (by omega)
  simp (maxSteps := 1000000) only [VL, VM, ↓Gd_none, ↓Gd_t, ↓Gd_f, reduceIte, reduceCtorEq, Int.reduceLE, Int.reduceLT, Int.reduceToNat, Int.reduceNeg, Nat.reduceLT, Nat.reduceEqDiff, Nat.reduceAdd, Nat.reduceSub, Nat.reduceMul, Nat.reduceLeDiff, k2, DH_app hd, DH_len, DH_len0, DH_get hd, DH_get0 hd, DH_set hd, DH_set0 hd, DH_setd, DH_die hd]
  ((repeat refine W_seq ?_); refine W_cond (b := false) (by first | rfl | simp only [ev, get_cons, Nat.reduceEqDiff, if_true, if_false, reduceIte]) (fun h => by cases h) (fun _ => ?_))
  clear hun hge k2 k1 hi
  refine W_frz1 (id := H0.length + 4) (n := k.gifts.length) (k := 3) (o := H0.length + 5) (j := 1) (xs := gs.map giP) (by rw [DH_get hd]; rfl) (by rw [DH_get hd]; rfl) rfl (by simp) (by rw [List.length_map]; exact hgl) (by omega) ?_
  simp only [DH_set hd, List.set_cons_zero, List.set_cons_succ]
  refine W_frz1 (id := H0.length + 3) (n := k.meals.length) (k := 1) (o := H0.length + 5) (j := 0) (xs := ms.map intP) (by rw [DH_get hd, flat_ints]; rfl) (by rw [DH_get hd]; rfl) rfl (by simp) (by rw [List.length_map]; exact hbl) (by omega) ?_
  simp only [DH_set hd, List.set_cons_zero, List.set_cons_succ]
  obtain ⟨x, hx⟩ : ∃ x : Kn, x = ⟨ms, gs⟩ := ⟨_, rfl⟩
  have hxc : [VV.p (PV.sl 1 (List.map intP ms)), VV.p (PV.sl 3 (List.map giP gs))] = kitC x := by rw [hx]
  rw [hxc]
  have hB : KBet k x := by rw [hx]; exact ⟨hbs, hgs⟩
  have Vx : KV x := KBet.V mV (fun n hn => by have := m.mp n hn; omega) hB
  obtain ⟨q1, q2⟩ := KBet.spoils mV Vx hB
  have hxm : x.meals.length ≤ 5 := Vx.m1
  have hxg : x.gifts.length ≤ 5 := Vx.g1
  have hR : feedR k = .tup [servR k, vi (givenAll k - fedV k (srv0 k) (-1) 0), vi 0] := by unfold feedR; rw [if_pos (kitErr_ok.2 mV)]
  have hRx : feedR x = .tup [servR x, vi (givenAll x - fedV x (srv0 x) (-1) 0), vi 0] := by unfold feedR; rw [if_pos (kitErr_ok.2 Vx)]
  clear hx hxc
  ((repeat refine W_seq ?_); refine W_exit ?_)
  simp (maxSteps := 1000000) only [VL, VM, ↓Gd_none, ↓Gd_t, ↓Gd_f, reduceIte, reduceCtorEq, Int.reduceLE, Int.reduceLT, Int.reduceToNat, Int.reduceNeg, Nat.reduceLT, Nat.reduceEqDiff, Nat.reduceAdd, Nat.reduceSub, Nat.reduceMul, Nat.reduceLeDiff]
  ((repeat refine W_seq ?_); refine W_region0 T_ok ?_)
  simp (maxSteps := 1000000) only [VL, VM, ↓Gd_none, ↓Gd_t, ↓Gd_f, reduceIte, reduceCtorEq, Int.reduceLE, Int.reduceLT, Int.reduceToNat, Int.reduceNeg, Nat.reduceLT, Nat.reduceEqDiff, Nat.reduceAdd, Nat.reduceSub, Nat.reduceMul, Nat.reduceLeDiff, DH_app hd, DH_len, DH_len0, DH_get hd, DH_get0 hd, DH_set hd, DH_set0 hd, DH_setd, DH_die hd]
  apply call_eq (f := 38) (fn := Try.f38) (by kernel_rfl) (by rfl)
  · exact Feed_v k _ (by omega) (by omega)
  rw [hR]
  generalize givenAll k - fedV k (srv0 k) (-1) 0 = sa at q2 ⊢
  generalize givenAll x - fedV x (srv0 x) (-1) 0 = sb at q1 q2 hRx ⊢
  simp (maxSteps := 1000000) only [VL, VM, ↓Gd_none, ↓Gd_t, ↓Gd_f, reduceIte, reduceCtorEq, Int.reduceLE, Int.reduceLT, Int.reduceToNat, Int.reduceNeg, Nat.reduceLT, Nat.reduceEqDiff, Nat.reduceAdd, Nat.reduceSub, Nat.reduceMul, Nat.reduceLeDiff, DH_app hd, DH_len, DH_len0, DH_get hd, DH_get0 hd, DH_set hd, DH_set0 hd, DH_setd, DH_die hd]
  ((repeat refine W_seq ?_); refine W_region0 T_ok ?_)
  simp (maxSteps := 1000000) only [VL, VM, ↓Gd_none, ↓Gd_t, ↓Gd_f, reduceIte, reduceCtorEq, Int.reduceLE, Int.reduceLT, Int.reduceToNat, Int.reduceNeg, Nat.reduceLT, Nat.reduceEqDiff, Nat.reduceAdd, Nat.reduceSub, Nat.reduceMul, Nat.reduceLeDiff, DH_app hd, DH_len, DH_len0, DH_get hd, DH_get0 hd, DH_set hd, DH_set0 hd, DH_setd, DH_die hd]
  apply call_eq (f := 38) (fn := Try.f38) (by kernel_rfl) (by rfl)
  · exact Feed_v x _ (by omega) (by omega)
  rw [hRx]
  simp (maxSteps := 1000000) only [VL, VM, ↓Gd_none, ↓Gd_t, ↓Gd_f, reduceIte, reduceCtorEq, Int.reduceLE, Int.reduceLT, Int.reduceToNat, Int.reduceNeg, Nat.reduceLT, Nat.reduceEqDiff, Nat.reduceAdd, Nat.reduceSub, Nat.reduceMul, Nat.reduceLeDiff, DH_app hd, DH_len, DH_len0, DH_get hd, DH_get0 hd, DH_set hd, DH_set0 hd, DH_setd, DH_die hd]
  ((repeat refine W_seq ?_); refine W_region0 T_ok ?_)
  simp (maxSteps := 1000000) only [VL, VM, ↓Gd_none, ↓Gd_t, ↓Gd_f, reduceIte, reduceCtorEq, Int.reduceLE, Int.reduceLT, Int.reduceToNat, Int.reduceNeg, Nat.reduceLT, Nat.reduceEqDiff, Nat.reduceAdd, Nat.reduceSub, Nat.reduceMul, Nat.reduceLeDiff, DH_app hd, DH_len, DH_len0, DH_get hd, DH_get0 hd, DH_set hd, DH_set0 hd, DH_setd, DH_die hd, eq_true q1, eq_true q2]
  apply call_eq (f := 18) (fn := Try.f18) (by kernel_rfl) (by rfl)
  · exact awake_v _
  simp (maxSteps := 1000000) only [VL, VM, ↓Gd_none, ↓Gd_t, ↓Gd_f, reduceIte, reduceCtorEq, Int.reduceLE, Int.reduceLT, Int.reduceToNat, Int.reduceNeg, Nat.reduceLT, Nat.reduceEqDiff, Nat.reduceAdd, Nat.reduceSub, Nat.reduceMul, Nat.reduceLeDiff, DH_app hd, DH_len, DH_len0, DH_get hd, DH_get0 hd, DH_set hd, DH_set0 hd, DH_setd, DH_die hd]
  rw [tail]
  obtain ⟨Z, rfl, hZ⟩ := hXY
  (repeat refine W_seq ?_)
  refine W_ret ?_
  try simp only [thenQ, blockQ]
  exact ⟨.inr rfl, rfl, ⟨Z, rfl, hZ⟩, M.H, _, rfl, rfl, [vb true], rfl, vb true, rfl, by simp [refs], rfl, rfl⟩
end Go.Proofs.Ytmagiabapakhcaa.Vm
