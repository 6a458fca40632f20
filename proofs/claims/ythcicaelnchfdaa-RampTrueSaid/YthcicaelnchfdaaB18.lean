/- A part of the proofs about the chapter of the ramps; it states no condition of its own. -/
import Derived.Test.YthcicaelnchfdaaB16
import Derived.Test.YthcicaelnchfdaaB17
set_option linter.unusedVariables false
set_option linter.unusedSimpArgs false
/- The plan that is found, plain. -/
namespace Go.Proofs.Ythcicaelnchfdaa
def putW (k c r : Nat) (l : List (Nat × Nat)) : List (Nat × Nat) := l.mapIdx fun i w => if i < k then (if i = r then (w.1 ||| 2 ^ c, w.2) else (w.1, w.2 ||| 2 ^ c)) else w
def putR (R : Ry) (c r : Nat) (f : Int) : Ry := { R with wk := putW R.y.ramps.length c r R.wk, frm := R.frm.set c f }
theorem putW_at (k c r : Nat) (l : List (Nat × Nat)) (i : Nat) (hk : k ≤ l.length) : (putW k c r l).getD i (0, 0) = if i < k then (if i = r then ((l.getD i (0, 0)).1 ||| 2 ^ c, (l.getD i (0, 0)).2) else ((l.getD i (0, 0)).1, (l.getD i (0, 0)).2 ||| 2 ^ c)) else l.getD i (0, 0) := by
 unfold putW
 rw [List.getD_eq_getElem?_getD, List.getElem?_mapIdx, List.getD_eq_getElem?_getD]
 cases hx : l[i]? with
 | none =>
  have : l.length ≤ i := List.getElem?_eq_none_iff.1 hx
  rw [if_neg (by omega)]
  rfl
 | some w => rfl
theorem must_put {R : Ry} (hR : RyOk R) (c r i : Nat) (f : Int) (d : Nat) : (mustAt (putR R c r f) i).testBit d = ((mustAt R i).testBit d || (decide (i < R.y.ramps.length) && decide (i = r) && decide (c = d))) := by
 have hn := hR.y.n1
 have hw := hR.wl
 unfold mustAt putR
 simp only
 rw [putW_at _ _ _ _ _ (by omega)]
 by_cases h1 : i < R.y.ramps.length
 ·by_cases h2 : i = r
  ·rw [if_pos h1, if_pos h2, Nat.testBit_or, Nat.testBit_two_pow, decide_eq_true h1, decide_eq_true h2]; rfl
  ·rw [if_pos h1, if_neg h2, decide_eq_false h2]; simp
 ·rw [if_neg h1, decide_eq_false h1]; simp
theorem not_put {R : Ry} (hR : RyOk R) (c r i : Nat) (f : Int) (d : Nat) : (notAt (putR R c r f) i).testBit d = ((notAt R i).testBit d || (decide (i < R.y.ramps.length) && !decide (i = r) && decide (c = d))) := by
 have hn := hR.y.n1
 have hw := hR.wl
 unfold notAt putR
 simp only
 rw [putW_at _ _ _ _ _ (by omega)]
 by_cases h1 : i < R.y.ramps.length
 ·by_cases h2 : i = r
  ·rw [if_pos h1, if_pos h2, decide_eq_true h2]; simp
  ·rw [if_pos h1, if_neg h2, Nat.testBit_or, Nat.testBit_two_pow, decide_eq_true h1, decide_eq_false h2]; simp
 ·rw [if_neg h1, decide_eq_false h1]; simp
theorem frm_put {R : Ry} (hR : RyOk R) (c r : Nat) (f : Int) (hc : c < 7) (d : Nat) : frmAt (putR R c r f) d = if c = d then f else frmAt R d := by
 have hf := hR.fl
 unfold frmAt putR
 simp only
 rw [getD_set (by omega)]
theorem putW_bd {k c r : Nat} {l : List (Nat × Nat)} (hc : c < 7) (hk : k ≤ l.length) (h : ∀ i, (l.getD i (0, 0)).1 < 128 ∧ (l.getD i (0, 0)).2 < 128) (i : Nat) : ((putW k c r l).getD i (0, 0)).1 < 128 ∧ ((putW k c r l).getD i (0, 0)).2 < 128 := by
 have hp : 2 ^ c < 2 ^ 7 := Nat.pow_lt_pow_right (by decide) hc
 have hi := h i
 rw [putW_at _ _ _ _ _ hk]
 split
 ·split
  ·exact ⟨Nat.or_lt_two_pow (n := 7) hi.1 hp, hi.2⟩
  ·exact ⟨hi.1, Nat.or_lt_two_pow (n := 7) hi.2 hp⟩
 ·exact hi
theorem putR_ok {R : Ry} (hR : RyOk R) {c r : Nat} {f : Int} (hc : c < 7) (h0 : 0 ≤ f) (h1 : f ≤ 1000) : RyOk (putR R c r f) := by
 have hn := hR.y.n1
 have hw := hR.wl
 refine ⟨hR.y, by simp [putR, putW, hw], by simp [putR, hR.fl], fun i => putW_bd hc (by omega) hR.w i, fun d => ?_, hR.t0, hR.t1⟩
 rw [frm_put hR c r f hc]
 split
 ·exact ⟨h0, h1⟩
 ·exact hR.f d
def fixR (y : Ya) (last : Int) (b : List St) : Nat → Ry
 | 0 => { ry0 y with til := last }
 | c + 1 => putR (fixR y last b c) c (stAt b c).ramp.toNat (stAt b c).from_
theorem fixR_y (y : Ya) (last : Int) (b : List St) : ∀ c, (fixR y last b c).y = y
 | 0 => rfl
 | c + 1 => fixR_y y last b c
theorem fixR_til (y : Ya) (last : Int) (b : List St) : ∀ c, (fixR y last b c).til = last
 | 0 => rfl
 | c + 1 => fixR_til y last b c
theorem fixR_ok {y : Ya} {last : Int} {b : List St} (hy : YaV y) (hb : Fe y b) (h0 : 0 ≤ last) (h1 : last ≤ 480) : ∀ c, c ≤ y.carts.length → RyOk (fixR y last b c)
 | 0, _ => by
  have h := ry0_ok hy
  exact ⟨hy, h.wl, h.fl, h.w, h.f, h0, by show last ≤ 1000; omega⟩
 | c + 1, hc => by
  have hm := hy.m1
  have hbd := hb.bd hy (i := c) (by have := hb.len; omega)
  exact putR_ok (fixR_ok hy hb h0 h1 c (by omega)) (by omega) (by omega) (by omega)
theorem ry0_must (y : Ya) (last : Int) (i : Nat) : mustAt { ry0 y with til := last } i = 0 ∧ notAt { ry0 y with til := last } i = 0 := by
 have : (List.replicate 3 ((0 : Nat), (0 : Nat))).getD i (0, 0) = (0, 0) := by
  rw [List.getD_eq_getElem?_getD, List.getElem?_replicate]
  split <;> rfl
 unfold mustAt notAt ry0
 simp only [this]
 exact ⟨trivial, trivial⟩
theorem fixR_must {y : Ya} {last : Int} {b : List St} (hy : YaV y) (hb : Fe y b) (h0 : 0 ≤ last) (h1 : last ≤ 480) : ∀ c, c ≤ y.carts.length → ∀ i d, (mustAt (fixR y last b c) i).testBit d = (decide (d < c) && decide (i = (stAt b d).ramp.toNat))
 | 0, _, i, d => by
  show (mustAt { ry0 y with til := last } i).testBit d = _
  rw [(ry0_must y last i).1]; simp
 | c + 1, hc, i, d => by
  have hbd := hb.bd hy (i := c) (by have := hb.len; omega)
  rw [fixR, must_put (fixR_ok hy hb h0 h1 c (by omega)), fixR_must hy hb h0 h1 c (by omega), fixR_y]
  by_cases h : c = d
  ·subst h
   rw [decide_eq_false (Nat.lt_irrefl c), decide_eq_true (Nat.lt_succ_self c)]
   by_cases h2 : i = (stAt b c).ramp.toNat
   ·rw [decide_eq_true h2, decide_eq_true (show i < y.ramps.length by omega)]; simp
   ·rw [decide_eq_false h2]; simp
  ·rw [decide_eq_false h, Bool.and_false, Bool.or_false]
   congr 1
   by_cases h3 : d < c
   ·rw [decide_eq_true h3, decide_eq_true (by omega)]
   ·rw [decide_eq_false h3, decide_eq_false (by omega)]
theorem fixR_not {y : Ya} {last : Int} {b : List St} (hy : YaV y) (hb : Fe y b) (h0 : 0 ≤ last) (h1 : last ≤ 480) : ∀ c, c ≤ y.carts.length → ∀ i d, (notAt (fixR y last b c) i).testBit d = (decide (d < c) && decide (i < y.ramps.length) && !decide (i = (stAt b d).ramp.toNat))
 | 0, _, i, d => by
  show (notAt { ry0 y with til := last } i).testBit d = _
  rw [(ry0_must y last i).2]; simp
 | c + 1, hc, i, d => by
  rw [fixR, not_put (fixR_ok hy hb h0 h1 c (by omega)), fixR_not hy hb h0 h1 c (by omega), fixR_y]
  by_cases h : c = d
  ·subst h
   rw [decide_eq_false (Nat.lt_irrefl c), decide_eq_true (Nat.lt_succ_self c), decide_eq_true (rfl : c = c)]
   simp
  ·rw [decide_eq_false h, Bool.and_false, Bool.or_false]
   congr 2
   by_cases h3 : d < c
   ·rw [decide_eq_true h3, decide_eq_true (by omega)]
   ·rw [decide_eq_false h3, decide_eq_false (by omega)]
theorem fixR_frm {y : Ya} {last : Int} {b : List St} (hy : YaV y) (hb : Fe y b) (h0 : 0 ≤ last) (h1 : last ≤ 480) : ∀ c, c ≤ y.carts.length → ∀ d, d < c → frmAt (fixR y last b c) d = (stAt b d).from_
 | 0, _, d, hd => by omega
 | c + 1, hc, d, hd => by
  have hm := hy.m1
  rw [fixR, frm_put (fixR_ok hy hb h0 h1 c (by omega)) _ _ _ (by omega)]
  by_cases h : c = d
  ·rw [if_pos h, h]
  ·rw [if_neg h]
   exact fixR_frm hy hb h0 h1 c (by omega) d (by omega)
theorem soonest_tb {R : Ry} (hR : RyOk R) : TB (soonestL R) := by
 have key : ∀ k, k ≤ R.y.ramps.length → TB (allL R k) := by
  intro k
  induction k with
  | zero =>
   intro _ x hx
   unfold allL at hx
   rcases List.mem_cons.1 hx with rfl | hx
   ·decide
   ·rw [List.mem_replicate] at hx
    rw [hx.2]; decide
  | succ k ih =>
   intro hk
   have h1 := doneL_tb hR (r := k) (by omega)
   have h2 := ih (by omega)
   have hmin : ∀ s, 0 ≤ minP R k (doneL R k) (allL R k) s ∧ minP R k (doneL R k) (allL R k) s ≤ 1048576 := fun s => by
    unfold minP
    refine fold_inv (p := fun m : Int => 0 ≤ m ∧ m ≤ 1048576) (by decide) fun q _ m hm => ?_
    unfold partF
    split
    ·have a := h1.getD q
     have b := h2.getD (sdiff s q)
     omega
    ·exact hm
   unfold allL nextTo
   exact fold_inv (p := TB) (fun x hx => by rw [List.mem_replicate] at hx; omega) fun s _ t ht => ht.set (hmin s)
 exact key _ (Nat.le_refl _)
theorem last_bd {y : Ya} (hy : YaV y) {q : List St} (h : Fe y q) : lastV y q ≤ 480 := lastV_le.2 ⟨by decide, fun i hi _ => by have := h.bd hy hi; omega⟩
theorem full_lt (n : Nat) : 2 ^ n - 1 < 2 ^ n := by
 have : 1 ≤ 2 ^ n := Nat.one_le_two_pow
 omega
theorem first_last {y : Ya} (hy : YaV y) {b : List St} (h : servedR y = some b) : (soonestL (ry0 y)).getD (2 ^ y.carts.length - 1) 0 = lastV y b := by
 have hb := (servedR_best hy).1 b h
 have hR := ry0_ok hy
 have hl := last_bd hy hb
 have h0 := lastV_nn y b
 have hle : (soonestL (ry0 y)).getD (2 ^ y.carts.length - 1) 0 ≤ lastV y b := by
  refine (soonest_iff hR (full_lt _) h0 (by unfold never; omega)).2 ⟨slotsOf b, ?_⟩
  refine fe_ask hR hb (Int.le_refl _) (by show _ ≤ (480 : Int); exact hl) (fun i hi => ?_) (fun i hi hm => ?_) (fun i hi r hr hm => ?_)
  ·rw [show notAt (ry0 y) (stAt b i).ramp.toNat = 0 from (ry0_must y 480 _).2]; simp
  ·rw [show mustAt (ry0 y) (stAt b i).ramp.toNat = 0 from (ry0_must y 480 _).1] at hm; simp at hm
  ·rw [show mustAt (ry0 y) r = 0 from (ry0_must y 480 _).1] at hm; simp at hm
 have hge := ((soonest_tb hR).getD (2 ^ y.carts.length - 1)).1
 obtain ⟨p, hp⟩ := (soonest_iff hR (full_lt _) hge (by unfold never; omega)).1 (Int.le_refl _)
 obtain ⟨h1, h2⟩ := ask_fe hR hp hge
 obtain ⟨x, hx, hxl⟩ := (servedR_best hy).2 _ h1
 rw [h] at hx
 cases hx
 have h2' : lastV y (planOf (ry0 y).y.carts.length p) ≤ (soonestL (ry0 y)).getD (2 ^ y.carts.length - 1) 0 := h2
 rcases hxl with h3 | ⟨h3, _⟩
 ·have h3' : lastV y b < lastV y (planOf (ry0 y).y.carts.length p) := h3
  omega
 ·have h3' : lastV y b = lastV y (planOf (ry0 y).y.carts.length p) := h3
  omega
theorem first_never {y : Ya} (hy : YaV y) (h : servedR y = none) : never ≤ (soonestL (ry0 y)).getD (2 ^ y.carts.length - 1) 0 := by
 have hR := ry0_ok hy
 have hge := ((soonest_tb hR).getD (2 ^ y.carts.length - 1)).1
 rcases Int.lt_or_le ((soonestL (ry0 y)).getD (2 ^ y.carts.length - 1) 0) never with hlt | hle
 ·obtain ⟨p, hp⟩ := (soonest_iff hR (full_lt _) hge hlt).1 (Int.le_refl _)
  obtain ⟨h1, _⟩ := ask_fe hR hp hge
  obtain ⟨x, hx, _⟩ := (servedR_best hy).2 _ h1
  rw [h] at hx; cases hx
 ·exact hle
theorem put_hit {y : Ya} (hy : YaV y) {b : List St} (hb : Fe y b) {last : Int} (hl0 : 0 ≤ last) (hl1 : last ≤ 480) {c r : Nat} {f : Int} (hc : c < y.carts.length) (hr : r < y.ramps.length) (hf0 : 0 ≤ f) (hf1 : f ≤ 1000)
  (h : (soonestL (putR (fixR y last b c) c r f)).getD (2 ^ y.carts.length - 1) 0 ≤ last) : ∃ q, Fe y q ∧ lastV y q ≤ last ∧ (∀ d, d < c → stAt q d = stAt b d) ∧ stAt q c = ⟨r, f⟩ := by
 have hm := hy.m1
 have hfo := fixR_ok hy hb hl0 hl1 c (by omega)
 have hR := putR_ok (r := r) hfo (show c < 7 by omega) hf0 hf1
 have hRy : (putR (fixR y last b c) c r f).y = y := fixR_y y last b c
 obtain ⟨p, hp⟩ := (soonest_iff hR (s := 2 ^ y.carts.length - 1) (by rw [hRy]; exact full_lt _) hl0 (by unfold never; omega)).1 h
 have hp2 : AsK (putR (fixR y last b c) c r f) (putR (fixR y last b c) c r f).y.ramps.length (2 ^ (putR (fixR y last b c) c r f).y.carts.length - 1) last p := by rw [hRy] at hp ⊢; exact hp
 obtain ⟨h1, h2⟩ := ask_fe hR hp2 hl0
 rw [hRy] at h1 h2
 have hbit : ∀ d, d < y.carts.length → (2 ^ y.carts.length - 1).testBit d = true := fun d hd => full_bit.2 hd
 have hramp : ∀ d, d < y.carts.length → (p d).1 < y.ramps.length ∧ (notAt (putR (fixR y last b c) c r f) (p d).1).testBit d = false := fun d hd => by
  have a := hp.rk d (hbit d hd)
  rw [hRy] at a
  have m := hp.may d (hbit d hd)
  unfold mayB at m
  simp only [Bool.and_eq_true, Bool.not_eq_true'] at m
  exact ⟨a, m.2⟩
 refine ⟨_, h1, h2, fun d hd => ?_, ?_⟩
 ·have hdn : d < y.carts.length := by omega
  have hbd := hb.bd hy (i := d) (by have := hb.len; omega)
  obtain ⟨a1, a2⟩ := hramp d hdn
  rw [not_put hfo, fixR_not hy hb hl0 hl1 c (by omega), fixR_y, decide_eq_true hd, decide_eq_true a1, decide_eq_false (show ¬ c = d by omega)] at a2
  simp only [Bool.true_and, Bool.and_false, Bool.or_false, Bool.not_eq_false', decide_eq_true_eq] at a2
  have hmu := hp.mu d (hbit d hdn) (by
   rw [must_put hfo, fixR_must hy hb hl0 hl1 c (by omega), decide_eq_true hd, decide_eq_true a2]; rfl)
  rw [frm_put hfo c r f (by omega), if_neg (by omega), fixR_frm hy hb hl0 hl1 c (by omega) d hd] at hmu
  rw [planOf_at hdn, a2, hmu]
  have : (((stAt b d).ramp.toNat : Nat) : Int) = (stAt b d).ramp := by omega
  rw [this]
 ·obtain ⟨a1, a2⟩ := hramp c hc
  rw [not_put hfo, fixR_y, decide_eq_true a1, decide_eq_true (rfl : c = c)] at a2
  simp only [Bool.true_and, Bool.and_true, Bool.or_eq_false_iff, Bool.not_eq_false', decide_eq_true_eq] at a2
  have hmu := hp.mu c (hbit c hc) (by
   rw [must_put hfo, fixR_y, decide_eq_true a1, decide_eq_true a2.2, decide_eq_true (rfl : c = c)]; simp)
  rw [frm_put hfo c r f (by omega), if_pos rfl] at hmu
  rw [planOf_at hc, a2.2, hmu]
theorem before_at : ∀ {q b : List St} {c : Nat}, c < q.length → c < b.length → (∀ d, d < c → stAt q d = stAt b d) → sltB (stAt q c) (stAt b c) = true → beforeB q b = true
 | x :: q, z :: b, 0, _, _, _, h => by
  have h' : sltB x z = true := h
  rw [beforeB]
  by_cases e : x = z
  ·subst e; rw [slt_irr] at h'; cases h'
  ·rw [if_neg e]; exact h'
 | x :: q, z :: b, c + 1, h1, h2, h3, h => by
  have h0 : x = z := h3 0 (by omega)
  rw [beforeB, if_pos h0]
  exact before_at (by simpa using h1) (by simpa using h2) (fun d hd => h3 (d + 1) (by omega)) h
theorem put_miss {y : Ya} (hy : YaV y) {b : List St} (hs : servedR y = some b) {c r : Nat} {f : Int} (hc : c < y.carts.length) (hr : r < y.ramps.length) (hf0 : 0 ≤ f) (hf1 : f ≤ 1000) (hlt : sltB ⟨r, f⟩ (stAt b c) = true) :
  ¬ (soonestL (putR (fixR y (lastV y b) b c) c r f)).getD (2 ^ y.carts.length - 1) 0 ≤ lastV y b := by
 intro h
 have hb := (servedR_best hy).1 b hs
 obtain ⟨q, h1, h2, h3, h4⟩ := put_hit hy hb (lastV_nn y b) (last_bd hy hb) hc hr hf0 hf1 h
 obtain ⟨x, hx, hxl⟩ := (servedR_best hy).2 q h1
 rw [hs] at hx
 cases hx
 rcases hxl with h5 | ⟨h5, h6⟩
 ·omega
 ·rw [before_at (by rw [h1.len]; exact hc) (by rw [hb.len]; exact hc) h3 (by rw [h4]; exact hlt)] at h6
  cases h6
theorem put_own {y : Ya} (hy : YaV y) {b : List St} (hs : servedR y = some b) {c : Nat} (hc : c < y.carts.length) :
  mayB (fixR y (lastV y b) b (c + 1)) c (stAt b c).ramp.toNat = true ∧ (soonestL (fixR y (lastV y b) b (c + 1))).getD (2 ^ y.carts.length - 1) 0 ≤ lastV y b := by
 have hb := (servedR_best hy).1 b hs
 have hl := hb.len
 have h0 := lastV_nn y b
 have h1 := last_bd hy hb
 have hR := fixR_ok hy hb h0 h1 (c + 1) (by omega)
 have hRy := fixR_y y (lastV y b) b (c + 1)
 have hRt := fixR_til y (lastV y b) b (c + 1)
 have hbd : ∀ i, i < b.length → 0 ≤ (stAt b i).ramp ∧ (stAt b i).ramp < y.ramps.length := fun i hi => by
  have := hb.bd hy hi
  omega
 have hno : ∀ i, i < b.length → (notAt (fixR y (lastV y b) b (c + 1)) (stAt b i).ramp.toNat).testBit i = false := fun i hi => by
  rw [fixR_not hy hb h0 h1 (c + 1) (by omega)]; simp
 constructor
 ·unfold mayB rAt
  rw [hno c (by omega), hRy]
  have hbc := hbd c (by omega)
  have e : (((stAt b c).ramp.toNat : Nat) : Int) = (stAt b c).ramp := by omega
  rw [e]
  simp only [Bool.and_eq_true, decide_eq_true_eq]
  exact ⟨⟨hb.r c (by omega), hb.br c (by omega)⟩, rfl⟩
 ·refine (soonest_iff hR (by rw [hRy]; exact full_lt _) h0 (by unfold never; omega)).2 ⟨slotsOf b, ?_⟩
  have := fe_ask hR (V := lastV y b) (q := b) (by rw [hRy]; exact hb) (by rw [hRy]; exact Int.le_refl _) (by rw [hRy, hRt]; exact Int.le_refl _) hno (fun i hi hm => ?_) (fun i hi r hr hm => ?_)
  ·rw [hRy] at this ⊢; exact this
  ·rw [fixR_must hy hb h0 h1 (c + 1) (by omega)] at hm
   simp only [Bool.and_eq_true, decide_eq_true_eq] at hm
   exact (fixR_frm hy hb h0 h1 (c + 1) (by omega) i hm.1).symm
  ·rw [fixR_must hy hb h0 h1 (c + 1) (by omega)] at hm
   simp only [Bool.and_eq_true, decide_eq_true_eq] at hm
   exact hm.2.symm
end Go.Proofs.Ythcicaelnchfdaa

/- Comparing lists, and the first of some, plain. -/
namespace Go.Proofs.Ythcicaelnchfdaa
def cmpI (a b : Int) : Int := if a < b then -1 else if b < a then 1 else 0
def cmpL : List Int → List Int → Int
 | [], [] => 0
 | [], _ :: _ => -1
 | _ :: _, [] => 1
 | a :: x, b :: z => if cmpI a b = 0 then cmpL x z else cmpI a b
def orI : List Int → Int
 | [] => 0
 | a :: l => if a = 0 then orI l else a
def firstF (cf : Nat → Nat → Int) : List Nat → Nat
 | [] => 0
 | x :: l => l.foldl (fun o x => if cf x o < 0 then x else o) x
def bitsI (s : Nat) : List Int := (bitsL s).map Int.ofNat
def cmpS (a b : Nat) : Int := orI [cmpI ((bitsL a).length : Nat) ((bitsL b).length : Nat), cmpL (bitsI a) (bitsI b)]
def cmpM (a b : Nat) : Int := orI [cmpI ((bitsL b).length : Nat) ((bitsL a).length : Nat), cmpL (bitsI a) (bitsI b)]
def canS (y : Ya) (s : Nat) : Bool := decide ((soonestL (ry0 y)).getD s 0 < never)
end Go.Proofs.Ythcicaelnchfdaa

/- What can be served: the program's sets against the reference's lists, plain. -/
namespace Go.Proofs.Ythcicaelnchfdaa
theorem ry0_not (y : Ya) (r : Nat) : notAt (ry0 y) r = 0 := by
 have : (List.replicate 3 ((0 : Nat), (0 : Nat))).getD r (0, 0) = (0, 0) := by
  rw [List.getD_eq_getElem?_getD, List.getElem?_replicate]
  split <;> rfl
 unfold notAt ry0
 simp only [this]
theorem ry0_mus (y : Ya) (r : Nat) : mustAt (ry0 y) r = 0 := by
 have : (List.replicate 3 ((0 : Nat), (0 : Nat))).getD r (0, 0) = (0, 0) := by
  rw [List.getD_eq_getElem?_getD, List.getElem?_replicate]
  split <;> rfl
 unfold mustAt ry0
 simp only [this]
theorem bitsL_nodup (s : Nat) : (bitsL s).Nodup := List.Nodup.sublist List.filter_sublist List.nodup_range
theorem only_at (y : Ya) (s : Nat) {i : Nat} (h : i < (bitsL s).length) : ctAt (onlyY y (bitsI s)) i = ctAt y (bitsL s)[i] := by
 simp [ctAt, onlyY, bitsI, h]
theorem only_len (y : Ya) (s : Nat) : (onlyY y (bitsI s)).carts.length = (bitsL s).length := by simp [onlyY, bitsI]
theorem bits_lt {s n : Nat} (h : s < 2 ^ n) {c : Nat} (hc : s.testBit c = true) : c < n := by
 rcases Nat.lt_or_ge c n with h2 | h2
 ·exact h2
 ·have : s.testBit c = false := Nat.testBit_lt_two_pow (Nat.lt_of_lt_of_le h (Nat.pow_le_pow_right (by decide) h2))
  rw [this] at hc; cases hc
theorem only_ok {y : Ya} (hy : YaV y) {s : Nat} (hs : s < 2 ^ y.carts.length) : YaV (onlyY y (bitsI s)) := by
 have hm := hy.m1
 have h7 : 2 ^ y.carts.length ≤ 2 ^ 7 := Nat.pow_le_pow_right (by decide) hm
 refine onlyY_ok hy (by simpa [bitsI] using bitsL_len) fun x hx => ?_
 obtain ⟨c, hc, rfl⟩ := List.mem_map.1 hx
 have := bits_lt hs ((mem_bitsL (by omega)).1 hc)
 constructor
 ·exact Int.natCast_nonneg _
 ·show ((c : Nat) : Int) < _
  omega
theorem ask_only {y : Ya} (hy : YaV y) {s : Nat} (hs : s < 2 ^ y.carts.length) {V : Int} {p : Nat → Nat × Int} (h : AsK (ry0 y) y.ramps.length s V p) : Fe (onlyY y (bitsI s)) (planOf (bitsL s).length fun i => p ((bitsL s).getD i 0)) := by
 have hm := hy.m1
 have h7 : 2 ^ y.carts.length ≤ 2 ^ 7 := Nat.pow_le_pow_right (by decide) hm
 have hl := planOf_len (bitsL s).length fun i => p ((bitsL s).getD i 0)
 have hb : ∀ i (hi : i < (bitsL s).length), s.testBit (bitsL s)[i] = true := fun i hi => (mem_bitsL (by omega)).1 (List.getElem_mem hi)
 have hg : ∀ i (hi : i < (bitsL s).length), (bitsL s).getD i 0 = (bitsL s)[i] := fun i hi => by simp [hi]
 have hmm : ∀ c, s.testBit c = true → ((p c).1 : Int) ∈ (ctAt y c).ramps ∧ (ctAt y c).grams ≤ (raAt y (p c).1).bears := fun c hc => by
  have := h.may c hc
  unfold mayB rAt at this
  simp only [Bool.and_eq_true, decide_eq_true_eq] at this
  exact this.1
 refine ⟨by rw [hl, only_len], fun i hi => ?_, fun i hi => ?_, fun i hi => ?_, fun i hi => ?_, fun i hi => ?_, fun i hi => ?_, fun i k hi hk hne he => ?_⟩
 all_goals rw [hl] at hi
 ·rw [planOf_at hi, only_at y s hi, hg i hi]; exact (hmm _ (hb i hi)).1
 ·rw [planOf_at hi, only_at y s hi, hg i hi]; exact (hmm _ (hb i hi)).2
 ·rw [planOf_at hi, only_at y s hi, hg i hi]; exact h.f1 _ (hb i hi)
 ·rw [planOf_at hi, hg i hi]; exact h.f2 _ (hb i hi)
 ·rw [planOf_at hi, only_at y s hi, hg i hi]
  have := h.f3 _ (hb i hi)
  rw [limF_eq] at this
  have e : (ry0 y).y = y := rfl
  rw [e] at this
  simp only
  omega
 ·rw [planOf_at hi, only_at y s hi, hg i hi]
  have := h.f3 _ (hb i hi)
  rw [limF_eq] at this
  unfold rAt at this
  have e : (ry0 y).y = y := rfl
  rw [e] at this
  have e2 : ∀ r, raAt (onlyY y (bitsI s)) r = raAt y r := fun _ => rfl
  rw [e2]
  simp only
  omega
 ·rw [hl] at hk
  rw [planOf_at hi, planOf_at hk, hg i hi, hg k hk] at he ⊢
  rw [only_at y s hi, only_at y s hk]
  simp only at he ⊢
  have hd : (bitsL s)[i] ≠ (bitsL s)[k] := fun e => hne ((List.getElem_inj (bitsL_nodup s)).1 e)
  exact h.sep _ _ (hb i hi) (hb k hk) hd (by omega)
theorem only_ask {y : Ya} (hy : YaV y) {s : Nat} (hs : s < 2 ^ y.carts.length) {q : List St} (h : Fe (onlyY y (bitsI s)) q) : AsK (ry0 y) y.ramps.length s (never - 1) fun c => slotsOf q ((bitsL s).idxOf c) := by
 have hm := hy.m1
 have hy' := only_ok hy hs
 have h7 : 2 ^ y.carts.length ≤ 2 ^ 7 := Nat.pow_le_pow_right (by decide) hm
 have hl : q.length = (bitsL s).length := by rw [h.len, only_len]
 have hi : ∀ c, s.testBit c = true → (bitsL s).idxOf c < (bitsL s).length := fun c hc => List.idxOf_lt_length_of_mem ((mem_bitsL (by omega)).2 hc)
 have hq : ∀ c, s.testBit c = true → (bitsL s).idxOf c < q.length := fun c hc => by rw [hl]; exact hi c hc
 have hc : ∀ c, s.testBit c = true → ctAt (onlyY y (bitsI s)) ((bitsL s).idxOf c) = ctAt y c := fun c hc => by
  rw [only_at y s (hi c hc), List.getElem_idxOf]
 have hr : ∀ c, s.testBit c = true → (((stAt q ((bitsL s).idxOf c)).ramp.toNat : Nat) : Int) = (stAt q ((bitsL s).idxOf c)).ramp := fun c hcc => by
  have := (h.bd hy' (hq c hcc)).1
  omega
 have e2 : ∀ r, raAt (onlyY y (bitsI s)) r = raAt y r := fun _ => rfl
 refine ⟨fun c hcc => ?_, fun c hcc => ?_, fun c hcc => ?_, fun c hcc => ?_, fun c hcc => ?_, fun c hcc => ?_, fun c hcc hmu => ?_, fun c hcc r _ _ hmu => ?_, fun c d hcc hdd hne he => ?_⟩
 ·have := h.bd hy' (hq c hcc)
  have e3 : (onlyY y (bitsI s)).ramps.length = y.ramps.length := rfl
  show (stAt q _).ramp.toNat < _
  omega
 ·unfold mayB rAt slotsOf
  simp only
  rw [hr c hcc, ry0_not]
  simp only [Bool.and_eq_true, decide_eq_true_eq]
  have h1 := h.r _ (hq c hcc)
  have h2 := h.br _ (hq c hcc)
  rw [hc c hcc] at h1 h2
  exact ⟨⟨h1, h2⟩, by simp⟩
 ·have h1 := h.f1 _ (hq c hcc)
  rw [hc c hcc] at h1
  exact h1
 ·have h1 := h.f2 _ (hq c hcc)
  unfold rAt slotsOf
  simp only
  rw [hr c hcc]
  exact h1
 ·have h1 := h.f3 _ (hq c hcc)
  have h2 := h.f4 _ (hq c hcc)
  have h3 := h.bd hy' (hq c hcc)
  rw [hc c hcc] at h1 h2 h3
  rw [limF_eq]
  unfold rAt slotsOf
  simp only
  rw [hr c hcc]
  rw [e2] at h2
  have e4 : (ry0 y).til = 480 := rfl
  have e5 : (ry0 y).y = y := rfl
  rw [e4, e5]
  omega
 ·have h3 := h.bd hy' (hq c hcc)
  rw [hc c hcc] at h3
  have e5 : (ry0 y).y = y := rfl
  rw [e5]
  unfold slotsOf never
  simp only
  omega
 ·rw [ry0_mus] at hmu; simp at hmu
 ·rw [ry0_mus] at hmu; simp at hmu
 ·have hne2 : (bitsL s).idxOf c ≠ (bitsL s).idxOf d := fun e => hne (by
   have h1 := List.getElem_idxOf (hi c hcc)
   have h2 := List.getElem_idxOf (hi d hdd)
   rw [← h1, ← h2]
   congr 1)
  have he2 : (stAt q ((bitsL s).idxOf c)).ramp = (stAt q ((bitsL s).idxOf d)).ramp := by
   rw [← hr c hcc, ← hr d hdd]
   have : (stAt q ((bitsL s).idxOf c)).ramp.toNat = (stAt q ((bitsL s).idxOf d)).ramp.toNat := he
   rw [this]
  have h1 := h.sep _ _ (hq c hcc) (hq d hdd) hne2 he2
  rw [hc c hcc, hc d hdd] at h1
  exact h1
theorem canS_canB {y : Ya} (hy : YaV y) {s : Nat} (hs : s < 2 ^ y.carts.length) : canS y s = canB y (bitsI s) := by
 have h1 := soonest_iff (ry0_ok hy) (s := s) (V := never - 1) hs (by decide) (by decide)
 have h2 := servedR_best (only_ok hy hs)
 rw [Bool.eq_iff_iff]
 unfold canS canB
 rw [decide_eq_true_eq]
 constructor
 ·intro h
  have hle : (soonestL (ry0 y)).getD s 0 ≤ never - 1 := Int.le_sub_one_of_lt h
  obtain ⟨p, hp⟩ := h1.1 hle
  obtain ⟨x, hx, _⟩ := h2.2 _ (ask_only hy hs hp)
  rw [hx]; rfl
 ·intro h
  obtain ⟨x, hx⟩ := Option.isSome_iff_exists.1 h
  have := h1.2 ⟨_, only_ask hy hs (h2.1 x hx)⟩
  omega
end Go.Proofs.Ythcicaelnchfdaa

/- The order of sets, and the first of those picked, plain. -/
namespace Go.Proofs.Ythcicaelnchfdaa
def revL (l : List Int) : Nat := (l.map fun x => 2 ^ (6 - x.toNat)).sum
def rkS (l : List Int) : Nat := l.length * 128 + (127 - revL l)
def rkM (l : List Int) : Nat := (7 - l.length) * 128 + (127 - revL l)
def setOf (l : List Int) : Nat := (l.map fun x => 2 ^ x.toNat).sum
def stuckN (n : Nat) : List (List Int) := (List.range' 1 n).flatMap fun m => choices n m 0
def mostN (n : Nat) : List (List Int) := (List.range n).flatMap fun j => choices n (n - j) 0
def sortedB (f : List Int → Nat) : List (List Int) → Bool
 | [] => true
 | x :: l => l.all (fun z => Nat.blt (f x) (f z)) && sortedB f l
set_option maxRecDepth 100000 in
theorem cmpS_all : (List.range 128).all (fun a => (List.range 128).all fun b => decide (cmpS a b < 0) == Nat.blt (rkS (bitsI a)) (rkS (bitsI b))) = true := by decide +kernel
set_option maxRecDepth 100000 in
theorem cmpM_all : (List.range 128).all (fun a => (List.range 128).all fun b => decide (cmpM a b < 0) == Nat.blt (rkM (bitsI a)) (rkM (bitsI b))) = true := by decide +kernel
set_option maxRecDepth 100000 in
theorem stuckN_sorted : (List.range 8).all (fun n => sortedB rkS (stuckN n)) = true := by decide +kernel
set_option maxRecDepth 100000 in
theorem mostN_sorted : (List.range 8).all (fun n => sortedB rkM (mostN n)) = true := by decide +kernel
set_option maxRecDepth 100000 in
theorem stuckN_sets : (List.range 8).all (fun n => (stuckN n).all fun w => decide (w = bitsI (setOf w)) && Nat.blt (setOf w) (2 ^ n) && Nat.blt 0 (setOf w)) = true := by decide +kernel
set_option maxRecDepth 100000 in
theorem mostN_sets : (List.range 8).all (fun n => (mostN n).all fun w => decide (w = bitsI (setOf w)) && Nat.blt (setOf w) (2 ^ n) && Nat.blt 0 (setOf w)) = true := by decide +kernel
set_option maxRecDepth 100000 in
theorem stuckN_has : (List.range 8).all (fun n => (List.range (2 ^ n)).all fun s => Nat.beq s 0 || (stuckN n).any fun w => decide (w = bitsI s)) = true := by decide +kernel
set_option maxRecDepth 100000 in
theorem mostN_has : (List.range 8).all (fun n => (List.range (2 ^ n)).all fun s => Nat.beq s 0 || (mostN n).any fun w => decide (w = bitsI s)) = true := by decide +kernel
set_option maxRecDepth 100000 in
theorem mostN_rk : (List.range 8).all (fun n => (mostN n).all fun w => Nat.blt (rkM w) (rkM (bitsI 0))) = true := by decide +kernel
end Go.Proofs.Ythcicaelnchfdaa

/- What the program picks is what the reference finds, plain. -/
namespace Go.Proofs.Ythcicaelnchfdaa
theorem firstF_min {cf : Nat → Nat → Int} {rk : Nat → Nat} (h : ∀ a b, a < 128 → b < 128 → (cf a b < 0 ↔ rk a < rk b)) : ∀ {l : List Nat}, (∀ x ∈ l, x < 128) → l ≠ [] → firstF cf l ∈ l ∧ ∀ z ∈ l, rk (firstF cf l) ≤ rk z := by
 intro l hl hne
 cases l with
 | nil => exact absurd rfl hne
 | cons x l =>
  have key : ∀ (l : List Nat) (x : Nat), (∀ z ∈ x :: l, z < 128) → l.foldl (fun o x => if cf x o < 0 then x else o) x ∈ x :: l ∧ ∀ z ∈ x :: l, rk (l.foldl (fun o x => if cf x o < 0 then x else o) x) ≤ rk z := by
   intro l
   induction l with
   | nil => intro x _; simp
   | cons u l ih =>
    intro x hx
    have hxx := hx x (by simp)
    have hu := hx u (by simp)
    rw [List.foldl_cons]
    split
    ·rename_i hc
     have hc := (h u x hu hxx).1 hc
     obtain ⟨a, b⟩ := ih u fun z hz => hx z (by simp only [List.mem_cons] at hz ⊢; exact .inr hz)
     refine ⟨List.mem_cons_of_mem _ a, fun z hz => ?_⟩
     rcases List.mem_cons.1 hz with rfl | hz
     ·have := b u (by simp)
      omega
     ·exact b z hz
    ·rename_i hc
     have hc : ¬ rk u < rk x := fun e => hc ((h u x hu hxx).2 e)
     obtain ⟨a, b⟩ := ih x fun z hz => hx z (by
      rcases List.mem_cons.1 hz with rfl | hz
      ·simp
      ·simp [hz])
     refine ⟨?_, fun z hz => ?_⟩
     ·rcases List.mem_cons.1 a with e | e
      ·rw [e]; simp
      ·simp [e]
     ·rcases List.mem_cons.1 hz with rfl | hz
      ·exact b _ (by simp)
      ·rcases List.mem_cons.1 hz with rfl | hz
       ·have := b x (by simp)
        omega
       ·exact b z (by simp [hz])
  exact key l x hl
theorem find_pick {f : List Int → Nat} {p : List Int → Bool} {w : List Int} : ∀ {W : List (List Int)}, sortedB f W = true → w ∈ W → p w = true → (∀ z ∈ W, p z = true → f w ≤ f z) → W.find? p = some w
 | [], _, h, _, _ => by cases h
 | x :: W, hs, hw, hp, hm => by
  unfold sortedB at hs
  rw [Bool.and_eq_true, List.all_eq_true] at hs
  by_cases hx : p x = true
  ·rw [List.find?_cons_of_pos hx]
   rcases List.mem_cons.1 hw with e | e
   ·rw [e]
   ·have h1 := hs.1 w e
    have h1 : f x < f w := by simpa [Nat.blt_eq] using h1
    have h2 := hm x (by simp) hx
    omega
  ·rw [List.find?_cons_of_neg hx]
   rcases List.mem_cons.1 hw with e | e
   ·exact absurd (e ▸ hp) hx
   ·exact find_pick hs.2 e hp fun z hz => hm z (by simp [hz])
theorem all_at {n : Nat} {P : Nat → Bool} {k : Nat} (h : (List.range k).all P = true) (hn : n < k) : P n = true := List.all_eq_true.1 h n (List.mem_range.2 hn)
theorem cmpS_rk (a b : Nat) (ha : a < 128) (hb : b < 128) : cmpS a b < 0 ↔ rkS (bitsI a) < rkS (bitsI b) := by
 have h := all_at (all_at cmpS_all ha) hb
 rw [beq_iff_eq] at h
 have h2 := Bool.eq_iff_iff.1 h
 rw [decide_eq_true_iff, Nat.blt_eq] at h2
 exact h2
theorem cmpM_rk (a b : Nat) (ha : a < 128) (hb : b < 128) : cmpM a b < 0 ↔ rkM (bitsI a) < rkM (bitsI b) := by
 have h := all_at (all_at cmpM_all ha) hb
 rw [beq_iff_eq] at h
 have h2 := Bool.eq_iff_iff.1 h
 rw [decide_eq_true_iff, Nat.blt_eq] at h2
 exact h2
theorem sets_of {n : Nat} {W : List (List Int)} (h : (W.all fun w => decide (w = bitsI (setOf w)) && Nat.blt (setOf w) (2 ^ n) && Nat.blt 0 (setOf w)) = true) {w : List Int} (hw : w ∈ W) : w = bitsI (setOf w) ∧ setOf w < 2 ^ n ∧ 0 < setOf w := by
 have := List.all_eq_true.1 h w hw
 simp only [Bool.and_eq_true, decide_eq_true_eq, Nat.blt_eq] at this
 exact ⟨this.1.1, this.1.2, this.2⟩
theorem has_of {n : Nat} {W : List (List Int)} (h : ((List.range (2 ^ n)).all fun s => Nat.beq s 0 || W.any fun w => decide (w = bitsI s)) = true) {s : Nat} (hs : s < 2 ^ n) (h0 : 0 < s) : bitsI s ∈ W := by
 have := all_at h hs
 rw [Bool.or_eq_true, List.any_eq_true] at this
 rcases this with e | ⟨w, hw, e⟩
 ·have := Nat.eq_of_beq_eq_true e
  omega
 ·rw [decide_eq_true_eq] at e
  rwa [← e]
theorem can_zero {y : Ya} (hy : YaV y) : canS y 0 = true := by
 have h0 : 0 < 2 ^ y.carts.length := Nat.two_pow_pos _
 rw [canS_canB hy h0]
 obtain ⟨x, hx, _⟩ := (servedR_best (only_ok hy h0)).2 [] ⟨by rw [only_len]; rfl, fun i hi => by simp at hi, fun i hi => by simp at hi, fun i hi => by simp at hi, fun i hi => by simp at hi, fun i hi => by simp at hi, fun i hi => by simp at hi, fun i k hi => by simp at hi⟩
 unfold canB
 rw [hx]; rfl
theorem stuck_pick {y : Ya} (h1 : yErr y = 0) {l : List Nat} (hl : l.Perm ((List.range (2 ^ y.carts.length)).filter fun s => canS y s == false)) : stuckT y = (if 0 < l.length then bitsI (firstF cmpS l) else [], if 0 < l.length then 0 else 3) := by
 have hy := yErr_ok.1 h1
 have hm := hy.m1
 have h7 : 2 ^ y.carts.length ≤ 2 ^ 7 := Nat.pow_le_pow_right (by decide) hm
 have hmem : ∀ s, s ∈ l ↔ s < 2 ^ y.carts.length ∧ canS y s = false := fun s => by rw [hl.mem_iff, List.mem_filter, List.mem_range]; simp
 have hst : stuckL y = stuckN y.carts.length := rfl
 have hsets : ∀ w ∈ stuckN y.carts.length, _ := fun w => sets_of (all_at stuckN_sets (n := y.carts.length) (by omega))
 have hin : ∀ z ∈ stuckN y.carts.length, (!canB y z) = true → setOf z ∈ l := fun z hz hp => by
  obtain ⟨e, hs, _⟩ := hsets z hz
  rw [hmem]
  refine ⟨hs, ?_⟩
  rw [canS_canB hy hs, ← e]
  simpa using hp
 unfold stuckT
 rw [if_pos h1, hst]
 by_cases h0 : 0 < l.length
 ·rw [if_pos h0, if_pos h0]
  obtain ⟨hx, hmin⟩ := firstF_min (cf := cmpS) (rk := fun s => rkS (bitsI s)) cmpS_rk (l := l) (fun x hx => by have := ((hmem x).1 hx).1; omega) (by intro e; rw [e] at h0; simp at h0)
  obtain ⟨hxs, hxc⟩ := (hmem _).1 hx
  have hx0 : 0 < firstF cmpS l := by
   rcases Nat.eq_zero_or_pos (firstF cmpS l) with e | e
   ·rw [e, can_zero hy] at hxc; cases hxc
   ·exact e
  rw [find_pick (f := rkS) (w := bitsI (firstF cmpS l)) (all_at stuckN_sorted (by omega)) (has_of (all_at stuckN_has (by omega)) hxs hx0) (by rw [← canS_canB hy hxs, hxc]; rfl) fun z hz hp => ?_]
  have this : rkS (bitsI (firstF cmpS l)) ≤ rkS (bitsI (setOf z)) := hmin _ (hin z hz hp)
  rwa [← (hsets z hz).1] at this
 ·rw [if_neg h0, if_neg h0]
  have hnone : (stuckN y.carts.length).find? (fun l => !canB y l) = none := by
   rw [List.find?_eq_none]
   intro z hz hp
   have := List.length_pos_of_mem (hin z hz hp)
   omega
  rw [hnone]
theorem most_pick {y : Ya} (h1 : yErr y = 0) {l : List Nat} (hl : l.Perm ((List.range (2 ^ y.carts.length)).filter fun s => canS y s == true)) : mostT y = (bitsI (firstF cmpM l), 0) := by
 have hy := yErr_ok.1 h1
 have hm := hy.m1
 have h7 : 2 ^ y.carts.length ≤ 2 ^ 7 := Nat.pow_le_pow_right (by decide) hm
 have hmem : ∀ s, s ∈ l ↔ s < 2 ^ y.carts.length ∧ canS y s = true := fun s => by rw [hl.mem_iff, List.mem_filter, List.mem_range]; simp
 have hst : mostL y = mostN y.carts.length := rfl
 have hsets : ∀ w ∈ mostN y.carts.length, _ := fun w => sets_of (all_at mostN_sets (n := y.carts.length) (by omega))
 have hin : ∀ z ∈ mostN y.carts.length, canB y z = true → setOf z ∈ l := fun z hz hp => by
  obtain ⟨e, hs, _⟩ := hsets z hz
  rw [hmem]
  refine ⟨hs, ?_⟩
  rw [canS_canB hy hs, ← e]
  exact hp
 have hl0 : 0 ∈ l := (hmem 0).2 ⟨Nat.two_pow_pos _, can_zero hy⟩
 unfold mostT
 rw [if_pos h1, hst]
 obtain ⟨hx, hmin⟩ := firstF_min (cf := cmpM) (rk := fun s => rkM (bitsI s)) cmpM_rk (l := l) (fun x hx => by have := ((hmem x).1 hx).1; omega) (List.ne_nil_of_mem hl0)
 obtain ⟨hxs, hxc⟩ := (hmem _).1 hx
 have hle : ∀ z ∈ mostN y.carts.length, canB y z = true → rkM (bitsI (firstF cmpM l)) ≤ rkM z := fun z hz hp => by
  have this : rkM (bitsI (firstF cmpM l)) ≤ rkM (bitsI (setOf z)) := hmin _ (hin z hz hp)
  rwa [← (hsets z hz).1] at this
 rcases Nat.eq_zero_or_pos (firstF cmpM l) with e | e
 ·have hnone : (mostN y.carts.length).find? (canB y) = none := by
   rw [List.find?_eq_none]
   intro z hz hp
   have h2 := hle z hz hp
   rw [e] at h2
   have h3 := List.all_eq_true.1 (all_at mostN_rk (n := y.carts.length) (by omega)) z hz
   rw [Nat.blt_eq] at h3
   omega
  rw [hnone, e]; rfl
 ·rw [find_pick (f := rkM) (w := bitsI (firstF cmpM l)) (all_at mostN_sorted (by omega)) (has_of (all_at mostN_has (by omega)) hxs e) (by rw [← canS_canB hy hxs, hxc]) hle]
end Go.Proofs.Ythcicaelnchfdaa

/- The example's answers, plain. -/
namespace Go.Proofs.Ythcicaelnchfdaa
def aY : Ya := ⟨[⟨0, 60, 900⟩, ⟨10, 40, 500⟩], [⟨0, 40, ⟨15, 20⟩, 800, [0, 1]⟩, ⟨0, 60, ⟨20, 25⟩, 400, [0, 1]⟩, ⟨5, 60, ⟨20, 30⟩, 300, [0]⟩], 5⟩
def nY : Ya := ⟨[⟨0, 60, 900⟩, ⟨10, 30, 500⟩], [⟨0, 40, ⟨15, 20⟩, 800, [0, 1]⟩, ⟨0, 60, ⟨20, 25⟩, 400, [0, 1]⟩, ⟨5, 60, ⟨20, 30⟩, 300, [0]⟩], 5⟩
set_option maxRecDepth 100000 in
theorem aY_serve : serveT aY = ([⟨0, 0⟩, ⟨1, 10⟩, ⟨0, 25⟩], 55, 0) := by decide +kernel
set_option maxRecDepth 100000 in
theorem nY_stuck : stuckT nY = ([0, 1, 2], 0) := by decide +kernel
set_option maxRecDepth 100000 in
theorem nY_most : mostT nY = ([0, 1], 0) := by decide +kernel
end Go.Proofs.Ythcicaelnchfdaa
