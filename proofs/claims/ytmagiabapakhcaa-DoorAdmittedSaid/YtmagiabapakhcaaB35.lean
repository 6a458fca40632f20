/- A part of the proofs about the chapter of the doors; it states no condition of its own. -/
import Derived.Test.YtmagiabapakhcaaB02
import Derived.Test.YtmagiabapakhcaaB12
import Derived.Test.YtmagiabapakhcaaB16
import Derived.Test.YtmagiabapakhcaaB22
import Derived.Test.YtmagiabapakhcaaB23
import Derived.Test.YtmagiabapakhcaaB24
import Derived.Test.YtmagiabapakhcaaB28
import Derived.Test.YtmagiabapakhcaaB30
import Derived.Test.YtmagiabapakhcaaB32
import Derived.Test.YtmagiabapakhcaaB34
set_option linter.unusedVariables false
set_option linter.unusedSimpArgs false
/- Flows: as much as can flow always is there, and grows with what the ways take. -/
namespace Go.Proofs.Ytmagiabapakhcaa
def Dst (N : Nat) (R : List (List Int)) : Nat → Nat → Prop
 | 0, a => a = 1
 | n + 1, a => ∃ t, t < N ∧ 0 < at2 R a t ∧ Dst N R n t
theorem aug_of {N : Nat} {R : List (List Int)} (hs : Sq N R) (hN : 2 ≤ N) (hnn : ∀ i j, i < N → j < N → 0 ≤ at2 R i j) : ∀ (n a : Nat), a < N → Dst N R n a → (∀ m, m < n → ¬ Dst N R m a) →
  ∃ R', Aug N R R' a 1 ∧ ∀ x y, at2 R' x y ≠ at2 R x y → (∃ m, m ≤ n ∧ Dst N R m x) ∧ ∃ m, m ≤ n ∧ Dst N R m y
 | 0, a, ha, hd, _ => by
  obtain rfl : a = 1 := hd
  exact ⟨R, ⟨hs, hnn, fun _ _ _ _ => rfl, fun i _ h1 => by rw [if_neg h1]; omega⟩, fun x y h => absurd rfl h⟩
 | n + 1, a, ha, hd, hm => by
  obtain ⟨t, ht, hp, hdt⟩ := hd
  have ha1 : a ≠ 1 := fun e => hm 0 (by omega) e
  have hmt : ∀ m, m < n → ¬ Dst N R m t := fun m hmn hh => hm (m + 1) (by omega) ⟨t, ht, hp, hh⟩
  obtain ⟨R1, h1, h2⟩ := aug_of hs hN hnn n t ht hdt hmt
  have hna : ∀ m, m ≤ n → ¬ Dst N R m a := fun m hmn => hm m (by omega)
  have row : ∀ j, at2 R1 a j = at2 R a j := fun j => by
   rcases Classical.em (at2 R1 a j = at2 R a j) with e | e
   ·exact e
   ·obtain ⟨m, hmn, hh⟩ := (h2 a j e).1
    exact absurd hh (hna m hmn)
  have hne : a ≠ t := fun e => hna n (Nat.le_refl _) (by rw [e]; exact hdt)
  refine ⟨_, Aug.step hs ha ht hne h1 (by omega) (by omega) (row t) (sumTo_congr fun j _ => row j) ha1, fun x y h => ?_⟩
  have hda : Dst N R (n + 1) a := ⟨t, ht, hp, hdt⟩
  rw [at2_upd (h1.sq.upd ha t _) ht ha, at2_upd h1.sq ha ht] at h
  split at h
  ·rename_i e
   rw [← e.1, ← e.2]
   exact ⟨⟨n, by omega, hdt⟩, n + 1, Nat.le_refl _, hda⟩
  ·split at h
   ·rename_i e
    rw [← e.1, ← e.2]
    exact ⟨⟨n + 1, Nat.le_refl _, hda⟩, n, by omega, hdt⟩
   ·obtain ⟨⟨m, a1, a2⟩, m', b1, b2⟩ := h2 x y h
    exact ⟨⟨m, by omega, a2⟩, m', by omega, b2⟩
theorem least_of {p : Nat → Prop} : ∀ n, p n → ∃ m, p m ∧ ∀ k, k < m → ¬ p k := by
 intro n
 induction n using Nat.strongRecOn with
 | ind n ih =>
  intro h
  rcases Classical.em (∃ k, k < n ∧ p k) with ⟨k, hk, hp⟩ | hno
  ·exact ih k hk hp
  ·exact ⟨n, h, fun k hk hp => hno ⟨k, hk, hp⟩⟩
theorem res_more {N : Nat} {C R : List (List Int)} {v : Int} (hN : 2 ≤ N) (hs : Sq N R) (h : Res N C R v) : MF N C v ∨ ∃ R', Sq N R' ∧ Res N C R' (v + 1) := by
 rcases Classical.em (∃ n, Dst N R n 0) with ⟨n, hn⟩ | hno
 ·obtain ⟨m, hm, hl⟩ := least_of (p := fun n => Dst N R n 0) n hn
  obtain ⟨R', h1, _⟩ := aug_of hs hN h.nn m 0 (by omega) hm hl
  exact .inr ⟨R', h1.sq, Aug.res h hN h1⟩
 ·refine .inl ?_
  classical
  refine Res.max h hN (S := fun i => decide (¬ ∃ n, Dst N R n i)) (decide_eq_true hno) (decide_eq_false fun q => q ⟨0, rfl⟩) fun i j hi hj h1 h2 => ?_
  have q1 : ¬ ∃ n, Dst N R n i := of_decide_eq_true h1
  have q2 : ¬ ¬ ∃ n, Dst N R n j := of_decide_eq_false h2
  obtain ⟨n, hn⟩ := Classical.not_not.1 q2
  rcases Int.lt_or_le 0 (at2 R i j) with q | q
  ·exact absurd ⟨n + 1, j, hj, q, hn⟩ q1
  ·exact q
theorem MF.exists {N : Nat} {C : List (List Int)} (hN : 2 ≤ N) (hs : Sq N C) (h0 : ∀ i j, i < N → j < N → 0 ≤ at2 C i j) : ∃ v, MF N C v := by
 have key : ∀ (k : Nat) (R : List (List Int)) (v : Int), Sq N R → Res N C R v → (cutOf N C (fun i => decide (i ≠ 1)) - v).toNat = k → ∃ v, MF N C v := by
  intro k
  induction k using Nat.strongRecOn with
  | ind k ih =>
   intro R v hR h hk
   rcases res_more hN hR h with q | ⟨R', hR', h'⟩
   ·exact ⟨v, q⟩
   ·have hle := h'.le_cut hN (S := fun i => decide (i ≠ 1)) (by simp) (by simp)
    exact ih _ (by omega) R' (v + 1) hR' h' rfl
 exact key _ C 0 hs (Res.start h0) rfl
theorem mfv_MF {N : Nat} {C : List (List Int)} (hN : 2 ≤ N) (hs : Sq N C) (h0 : ∀ i j, i < N → j < N → 0 ≤ at2 C i j) : MF N C (mfv N C) := by
 obtain ⟨v, hv⟩ := MF.exists hN hs h0
 rw [mfv_eq hN hv]
 exact hv
theorem cut_mono {N : Nat} {C C' : List (List Int)} (h : ∀ i j, i < N → j < N → at2 C i j ≤ at2 C' i j) (S : Nat → Bool) : cutOf N C S ≤ cutOf N C' S := by
 unfold cutOf
 refine sumTo_le fun i hi => sumTo_le fun j hj => ?_
 have := h i j hi hj
 split <;> omega
theorem MF.le_cut {N : Nat} {C : List (List Int)} {v : Int} (h : MF N C v) (hN : 2 ≤ N) {S : Nat → Bool} (h0 : S 0 = true) (h1 : S 1 = false) : v ≤ cutOf N C S := by
 obtain ⟨⟨R, hR⟩, _⟩ := h
 exact hR.le_cut hN h0 h1
theorem MF.mono {N : Nat} {C C' : List (List Int)} {v v' : Int} (hN : 2 ≤ N) (h : MF N C v) (h' : MF N C' v') (hle : ∀ i j, i < N → j < N → at2 C i j ≤ at2 C' i j) : v ≤ v' := by
 obtain ⟨_, S, s0, s1, hS⟩ := h'
 have := h.le_cut hN s0 s1
 have := cut_mono hle S
 omega
end Go.Proofs.Ytmagiabapakhcaa

/- Kitchens in which gifts keep longer and meals take more, plain. -/
namespace Go.Proofs.Ytmagiabapakhcaa
structure MBet (l m : List Int) : Prop where
 len : m.length = l.length
 ge : ∀ j, l.getD j 0 ≤ m.getD j 0 ∧ m.getD j 0 ≤ l.getD j 0 + 20
theorem MBet.refl (l : List Int) : MBet l l := ⟨rfl, fun j => ⟨Int.le_refl _, by omega⟩⟩
theorem getD_set' {α : Type} {m : List α} {i : Nat} {x z : α} (hi : i < m.length) (j : Nat) : (m.set i x).getD j z = if i = j then x else m.getD j z := by
 rw [List.getD_eq_getElem?_getD, List.getElem?_set]
 by_cases h : i = j
 ·subst h
  rw [if_pos rfl, if_pos rfl, if_pos hi]; rfl
 ·rw [if_neg h, if_neg h, ← List.getD_eq_getElem?_getD]
theorem MBet.up {l m : List Int} (h : MBet l m) {i : Nat} {q : Int} (e : m.getD i 0 = l.getD i 0) (hi : i < m.length) (hq : 0 ≤ q ∧ q ≤ 20) : MBet l (m.set i (m.getD i 0 + q)) := by
 refine ⟨by rw [List.length_set]; exact h.len, fun j => ?_⟩
 rw [getD_set' hi]
 by_cases hj : i = j
 ·subst hj
  rw [if_pos rfl]; omega
 ·rw [if_neg hj]; exact h.ge j
structure GBet (n : Nat) (x y : Gi) : Prop where
 f0 : 0 ≤ y.from_
 ff : y.from_ ≤ x.from_
 kk : x.keeps ≤ y.keeps
 kn : y.keeps < n
 p : y.portions = x.portions
theorem GBet.refl {n : Nat} {x : Gi} (h : GiV n x) : GBet n x x := ⟨h.f0, Int.le_refl _, Int.le_refl _, h.k1, rfl⟩
theorem GBet.V {n : Nat} {x y : Gi} (b : GBet n x y) (h : GiV n x) : GiV n y := ⟨b.f0, by have := b.ff; have := b.kk; have := h.fk; omega, b.kn, by rw [b.p]; exact h.p0, by rw [b.p]; exact h.p1⟩
structure GsBet (n : Nat) (l m : List Gi) : Prop where
 len : m.length = l.length
 bet : ∀ j, j < l.length → GBet n (l.getD j ⟨0, 0, 0⟩) (m.getD j ⟨0, 0, 0⟩)
theorem GsBet.refl {n : Nat} {l : List Gi} (h : ∀ x ∈ l, GiV n x) : GsBet n l l := ⟨rfl, fun j hj => by
 rw [List.getD_eq_getElem?_getD, List.getElem?_eq_getElem hj]
 exact GBet.refl (h _ (List.getElem_mem hj))⟩
theorem GsBet.up {n : Nat} {l m : List Gi} (h : GsBet n l m) {i : Nat} {y : Gi} (hi : i < l.length) (hy : GBet n (l.getD i ⟨0, 0, 0⟩) y) : GsBet n l (m.set i y) := by
 refine ⟨by rw [List.length_set]; exact h.len, fun j hj => ?_⟩
 rw [getD_set' (by rw [h.len]; exact hi)]
 by_cases e : i = j
 ·subst e
  rw [if_pos rfl]; exact hy
 ·rw [if_neg e]; exact h.bet j hj
structure KBet (k x : Kn) : Prop where
 m : MBet k.meals x.meals
 g : GsBet k.meals.length k.gifts x.gifts
theorem KBet.V {k x : Kn} (V : KV k) (hm : ∀ n ∈ k.meals, 0 ≤ n ∧ n ≤ 9000) (b : KBet k x) : KV x := by
 have hl := b.m.len
 have hg := b.g.len
 have m1 := V.m1
 have g1 := V.g1
 refine ⟨by omega, fun n hn => ?_, by omega, fun y hy => ?_⟩
 ·obtain ⟨j, hj, rfl⟩ := List.getElem_of_mem hn
  have h1 := b.m.ge j
  have h2 : k.meals.getD j 0 = k.meals[j]'(by omega) := by rw [List.getD_eq_getElem?_getD, List.getElem?_eq_getElem (by omega)]; rfl
  have h3 : x.meals.getD j 0 = x.meals[j] := by rw [List.getD_eq_getElem?_getD, List.getElem?_eq_getElem hj]; rfl
  have h4 := hm _ (List.getElem_mem (show j < k.meals.length by omega))
  rw [h2, h3] at h1
  omega
 ·obtain ⟨j, hj, rfl⟩ := List.getElem_of_mem hy
  have h1 := b.g.bet j (by omega)
  have h3 : x.gifts.getD j ⟨0, 0, 0⟩ = x.gifts[j] := by rw [List.getD_eq_getElem?_getD, List.getElem?_eq_getElem hj]; rfl
  have h4 := giAt_V V (show j < k.gifts.length by omega)
  unfold giAt at h4
  rw [h3] at h1
  rw [hl]
  exact h1.V h4
end Go.Proofs.Ytmagiabapakhcaa

/- Flows: the table of some ways, place by place, plain. -/
namespace Go.Proofs.Ytmagiabapakhcaa
def wsAt (ws : List Wa) (i j : Nat) : Int := (ws.map fun w => if w.fr = i ∧ w.to = j then w.most else 0).sum
theorem wsAt_nil (i j : Nat) : wsAt [] i j = 0 := rfl
theorem wsAt_cons (w : Wa) (ws : List Wa) (i j : Nat) : wsAt (w :: ws) i j = (if w.fr = i ∧ w.to = j then w.most else 0) + wsAt ws i j := by simp [wsAt]
theorem wsAt_app (a b : List Wa) (i j : Nat) : wsAt (a ++ b) i j = wsAt a i j + wsAt b i j := by simp [wsAt]
theorem tabW_at {N : Nat} : ∀ (n : Nat) (ws : List Wa), ws.length = n → (∀ w ∈ ws, WaOk N w) → ∀ i j, at2 (tabOfW N ws) i j = wsAt ws i j := by
 intro n
 induction n with
 | zero =>
  intro ws h _ i j
  rw [List.length_eq_zero_iff.1 h]
  exact zeros2_at N i j
 | succ n ih =>
  intro ws h hw i j
  rcases List.eq_nil_or_concat ws with rfl | ⟨vs, w, rfl⟩
  ·cases h
  ·rw [List.concat_eq_append] at h hw ⊢
   simp at h
   have hv : ∀ x ∈ vs, WaOk N x := fun x hx => hw x (List.mem_append_left _ hx)
   have q := (tabW_ok n vs h hv).1
   have hww := hw w (by simp)
   rw [tabW_succ, add2, at2_upd q hww.fr hww.to, wsAt_app, wsAt_cons, wsAt_nil, ih vs h hv, ih vs h hv]
   by_cases e : w.fr = i ∧ w.to = j
   ·rw [if_pos e, if_pos e, e.1, e.2]; omega
   ·rw [if_neg e, if_neg e]; omega
theorem room0 (m g : Nat) : roomOf (-1) 0 m g = 1073741824 := by
 unfold roomOf
 rw [if_neg (by omega)]
theorem row_sum {N : Nat} (i : Nat) : ∀ ws : List Wa, (∀ w ∈ ws, w.to < N) → sumTo N (fun j => wsAt ws i j) = (ws.map fun w => if w.fr = i then w.most else 0).sum
 | [], _ => sumTo_const0 N
 | w :: ws, h => by
  rw [show (fun j => wsAt (w :: ws) i j) = fun j => (if w.fr = i ∧ w.to = j then w.most else 0) + wsAt ws i j from funext fun j => wsAt_cons w ws i j, sumTo_add, row_sum i ws fun x hx => h x (by simp [hx]), List.map_cons, List.sum_cons]
  congr 1
  by_cases e : w.fr = i
  ·rw [if_pos e]
   refine (sumTo_congr fun j _ => ?_).trans (sumTo_one (h w (by simp)) w.most)
   by_cases e2 : j = w.to
   ·rw [if_pos ⟨e, e2.symm⟩, if_pos e2]
   ·rw [if_neg (fun q => e2 q.2.symm), if_neg e2]
  ·rw [if_neg e]
   rw [show (fun j => if w.fr = i ∧ w.to = j then w.most else 0) = fun _ => (0 : Int) from funext fun j => if_neg fun q => e q.1, sumTo_const0]
end Go.Proofs.Ytmagiabapakhcaa

/- Kitchens made of numbers, on values. (Vm) -/
namespace Go.Proofs.Ytmagiabapakhcaa.Vm
open Go Go.Proofs
attribute [local irreducible] castF castU fromF fromU oneF oneU
end Go.Proofs.Ytmagiabapakhcaa.Vm

/- Kitchens and houses that are copied into slices of their own. (Vm) -/
-- TABLE TK
namespace Go.Proofs.Ytmagiabapakhcaa.Vm
open Go Go.Proofs
theorem VC_keep {P : Program} {T : Tab} (hT : TabOk P T) {f : Nat} {fn : Func} {c : Code} {nt : Nat} {args : List VV} {M : Mem} {Q : VV → Mem → Prop} (hf : T.fn f = some fn) (hb : fn.body = some c) (hnt : fn.ntmps = nt) (hn : Nat.ble args.length nt = true) (hk : T.keeps f = true)
  (h : WCode P ⟨f, none, nt⟩ c (zipEnv 0 args) M [] (fun ex e M' D => (ex = .normal ∨ ex = .ret) ∧ D = [] ∧ ∃ vs, vresL T e M' fn.results.toList = some vs ∧ Q (vtup vs) M')) : VC P f args M Q := by
 subst hnt
 refine VC_fn hT hf hb (Nat.le_of_ble_eq_true hn) fun hlg => h.mono ?_
 rintro ex e M' D ⟨hex, rfl, vs, h1, h3⟩
 have key : retQ T f M.H.length fn Q .ret e M' [] := by
  simp only [retQ, vkill]
  have hM : ({ M' with H := M'.H } : Mem) = M' := rfl
  rw [hM, h1]
  simp only
  unfold vfinish
  rw [hk]
  exact h3
 rcases hex with rfl | rfl
 ·exact key
 ·exact key
def ownT2 (T : Tab) (o k : Nat → Bool) : Tab := { T with own := o, keeps := k }
section
variable {P : Program} {T : Tab} {o k : Nat → Bool}
end
def ownK2 (t : Nat) : Bool := Nat.beq t 22 || Nat.beq t 56 || Nat.beq t 23 || Nat.beq t 26
def keepK2 (f : Nat) : Bool := keepsB f || Nat.beq f 31 || Nat.beq f 37 || Nat.beq f 21
noncomputable def TK : Tab := ownT2 T ownK2 keepK2
abbrev bufH (h : Ho) (n : Nat) : List VV := [.bf n 0 h.holds.length 1, .bf (n + 1) 0 h.doors.length 3, vi h.first.lo, vi h.first.hi, vi h.ticks, .bf (n + 2) 0 h.counts.length 6]
end Go.Proofs.Ytmagiabapakhcaa.Vm

/- The law of gifts that keep longer, on values. (Vm) -/
namespace Go.Proofs.Ytmagiabapakhcaa.Vm
open Go Go.Proofs
attribute [local irreducible] castF castU fromF fromU oneF oneU
end Go.Proofs.Ytmagiabapakhcaa.Vm

/- Narrower counts, plain. -/
namespace Go.Proofs.Ytmagiabapakhcaa
structure Nar (x y : Sp) : Prop where
 lo : x.lo ≤ y.lo
 le : y.lo ≤ y.hi
 hi : y.hi ≤ x.hi
theorem Nar.ok {x y : Sp} (h : Nar x y) (hx : SpOk x) : SpOk y := ⟨by have := hx.lo0; have := h.lo; omega, h.le, by have := hx.hi1; have := h.hi; omega⟩
theorem Nar.refl {x : Sp} (hx : SpOk x) : Nar x x := ⟨Int.le_refl _, hx.le, Int.le_refl _⟩
structure CoB (c d : Co) : Prop where
 t : d.tick = c.tick
 k : d.door = c.door
 i : Nar c.i d.i
 o : Nar c.o d.o
abbrev co0 : Co := ⟨0, 0, ⟨0, 0⟩, ⟨0, 0⟩⟩
structure CsB (l m : List Co) : Prop where
 len : m.length = l.length
 bet : ∀ j, j < l.length → CoB (l.getD j co0) (m.getD j co0)
theorem CsB.refl {l : List Co} (h : ∀ c ∈ l, SpOk c.i ∧ SpOk c.o) : CsB l l := ⟨rfl, fun j hj => by
 rw [List.getD_eq_getElem?_getD, List.getElem?_eq_getElem hj]
 have := h _ (List.getElem_mem hj)
 exact ⟨rfl, rfl, Nar.refl this.1, Nar.refl this.2⟩⟩
theorem CsB.up {l m : List Co} (h : CsB l m) {i : Nat} {y : Co} (hi : i < l.length) (hy : CoB (l.getD i co0) y) : CsB l (m.set i y) := by
 refine ⟨by rw [List.length_set]; exact h.len, fun j hj => ?_⟩
 rw [getD_set' (by rw [h.len]; exact hi)]
 by_cases e : i = j
 ·subst e
  rw [if_pos rfl]; exact hy
 ·rw [if_neg e]; exact h.bet j hj
theorem CsB.tl {a b : Co} {l m : List Co} (h : CsB (a :: l) (b :: m)) : CoB a b ∧ CsB l m := by
 have h0 := h.bet 0 (by simp)
 simp only [List.getD_cons_zero] at h0
 exact ⟨h0, by have := h.len; simpa using this, fun q hq => by have := h.bet (q + 1) (by simpa using hq); simpa using this⟩
theorem CsB.chg (t : Int) : ∀ {l m : List Co}, CsB l m → (chg l t).lo ≤ (chg m t).lo ∧ (chg m t).hi ≤ (chg l t).hi
 | [], [], _ => ⟨Int.le_refl _, Int.le_refl _⟩
 | [], _ :: _, h => by have := h.len; simp at this
 | _ :: _, [], h => by have := h.len; simp at this
 | a :: l, b :: m, h => by
  obtain ⟨h0, h1⟩ := h.tl
  have ih := CsB.chg t h1
  unfold Proofs.Ytmagiabapakhcaa.chg at ih ⊢
  simp only at ih
  rw [List.filter_cons, List.filter_cons, h0.t]
  by_cases e : a.tick = t
  ·rw [if_pos (by simpa using e), if_pos (by simpa using e)]
   simp only [List.map_cons, List.sum_cons]
   have := h0.i.lo
   have := h0.i.hi
   have := h0.o.lo
   have := h0.o.hi
   omega
  ·rw [if_neg (by simpa using e), if_neg (by simpa using e)]
   exact ih
def keyOf (c : Co) : Int × Int := (c.tick, c.door)
theorem any_key (c d : Co) (h : keyOf c = keyOf d) : ∀ {bs bs' : List Co}, bs.map keyOf = bs'.map keyOf → bs.any (sameKey c) = bs'.any (sameKey d)
 | [], [], _ => rfl
 | [], _ :: _, h => by simp at h
 | _ :: _, [], h => by simp at h
 | a :: bs, b :: bs', h2 => by
  rw [List.map_cons, List.map_cons, List.cons.injEq] at h2
  rw [List.any_cons, List.any_cons, any_key c d h h2.2]
  congr 1
  simp only [keyOf, Prod.mk.injEq] at h h2
  unfold sameKey
  rw [h.1, h.2, h2.1.1, h2.1.2]
theorem keys_congr : ∀ {l m bs bs' : List Co}, l.map keyOf = m.map keyOf → bs.map keyOf = bs'.map keyOf → keysOk bs l → keysOk bs' m
 | [], [], _, _, _, _, _ => trivial
 | [], _ :: _, _, _, h, _, _ => by simp at h
 | _ :: _, [], _, _, h, _, _ => by simp at h
 | a :: l, b :: m, bs, bs', h, h2, k => by
  rw [List.map_cons, List.map_cons, List.cons.injEq] at h
  rw [keysOk] at k ⊢
  refine ⟨?_, keys_congr h.2 (by rw [List.map_append, List.map_append, h2, List.map_cons, List.map_cons, h.1, List.map_nil]) k.2⟩
  rw [← any_key a b h.1 h2]; exact k.1
theorem CsB.keys : ∀ {l m : List Co}, CsB l m → l.map keyOf = m.map keyOf
 | [], [], _ => rfl
 | [], _ :: _, h => by have := h.len; simp at this
 | _ :: _, [], h => by have := h.len; simp at this
 | a :: l, b :: m, h => by
  obtain ⟨h0, h1⟩ := h.tl
  rw [List.map_cons, List.map_cons, CsB.keys h1]
  congr 1
  unfold keyOf
  rw [h0.t, h0.k]
structure HNar (h x : Ho) : Prop where
 holds : x.holds = h.holds
 doors : x.doors = h.doors
 ticks : x.ticks = h.ticks
 first : Nar h.first x.first
 counts : CsB h.counts x.counts
theorem HNar.V {h x : Ho} (V : HV h) (b : HNar h x) : HV x := by
 refine ⟨by rw [b.holds]; exact V.n0, by rw [b.holds]; exact V.n1, by rw [b.holds]; exact V.holds, by rw [b.doors]; exact V.d1, by rw [b.doors, b.holds]; exact V.doors, b.first.ok V.first, by rw [b.ticks]; exact V.t0, by rw [b.ticks]; exact V.t1, by rw [b.counts.len]; exact V.c1, fun c hc => ?_, keys_congr b.counts.keys rfl V.keys⟩
 obtain ⟨j, hj, rfl⟩ := List.getElem_of_mem hc
 have hl := b.counts.len
 have h1 := b.counts.bet j (by omega)
 have h2 : h.counts.getD j co0 = h.counts[j]'(by omega) := by rw [List.getD_eq_getElem?_getD, List.getElem?_eq_getElem (by omega)]; rfl
 have h3 : x.counts.getD j co0 = x.counts[j] := by rw [List.getD_eq_getElem?_getD, List.getElem?_eq_getElem hj]; rfl
 rw [h2, h3] at h1
 obtain ⟨t0, t1, d0, d1, k, i, o⟩ := V.counts _ (List.getElem_mem (show j < h.counts.length by omega))
 refine ⟨by rw [h1.t]; exact t0, by rw [h1.t, b.ticks]; exact t1, by rw [h1.k]; exact d0, by rw [h1.k, b.doors]; exact d1, ?_, h1.i.ok i, h1.o.ok o⟩
 rw [h1.k]
 unfold doAt at k ⊢
 rw [b.doors]; exact k
end Go.Proofs.Ytmagiabapakhcaa

/- Dice: narrower spans, on values. (Vm) -/
namespace Go.Proofs.Ytmagiabapakhcaa.Vm
open Go Go.Proofs
attribute [local irreducible] castF castU fromF fromU oneF oneU trueF trueU
def narU (u : Int) (x : Sp) : Int := trueU (trueU u x) x
end Go.Proofs.Ytmagiabapakhcaa.Vm

/- The law of narrower counts, on values. (Vm) -/
namespace Go.Proofs.Ytmagiabapakhcaa.Vm
open Go Go.Proofs
attribute [local irreducible] castF castU fromF fromU oneF oneU trueF trueU narU
end Go.Proofs.Ytmagiabapakhcaa.Vm

/- Fewer people, more and wider ways, plain. -/
namespace Go.Proofs.Ytmagiabapakhcaa
structure DoB (c d : Do) : Prop where
 a : d.a = c.a
 b : d.b = c.b
 lo : c.flow ≤ d.flow
 hi : d.flow ≤ c.flow + 8
abbrev do0 : Do := ⟨0, 0, 0⟩
structure DsB (l m : List Do) : Prop where
 len : m.length = l.length
 bet : ∀ j, j < l.length → DoB (l.getD j do0) (m.getD j do0)
theorem DsB.refl (l : List Do) : DsB l l := ⟨rfl, fun j _ => ⟨rfl, rfl, Int.le_refl _, by omega⟩⟩
theorem DsB.up {l m : List Do} (h : DsB l m) {i : Nat} {y : Do} (hi : i < l.length) (hy : DoB (l.getD i do0) y) : DsB l (m.set i y) := by
 refine ⟨by rw [List.length_set]; exact h.len, fun j hj => ?_⟩
 rw [getD_set' (by rw [h.len]; exact hi)]
 by_cases e : i = j
 ·subst e
  rw [if_pos rfl]; exact hy
 ·rw [if_neg e]; exact h.bet j hj
theorem DsB.tl {a b : Do} {l m : List Do} (h : DsB (a :: l) (b :: m)) : DoB a b ∧ DsB l m := by
 have h0 := h.bet 0 (by simp)
 simp only [List.getD_cons_zero] at h0
 exact ⟨h0, by have := h.len; simpa using this, fun q hq => by have := h.bet (q + 1) (by simpa using hq); simpa using this⟩
structure LsB (l m : List Int) : Prop where
 len : m.length = l.length
 bet : ∀ j, j < l.length → 0 ≤ m.getD j 0 ∧ m.getD j 0 ≤ l.getD j 0
theorem LsB.refl {l : List Int} (h : ∀ x ∈ l, 0 ≤ x) : LsB l l := ⟨rfl, fun j hj => by
 rw [List.getD_eq_getElem?_getD, List.getElem?_eq_getElem hj]
 exact ⟨h _ (List.getElem_mem hj), Int.le_refl _⟩⟩
theorem LsB.up {l m : List Int} (h : LsB l m) {i : Nat} {y : Int} (hi : i < l.length) (hy : 0 ≤ y ∧ y ≤ l.getD i 0) : LsB l (m.set i y) := by
 refine ⟨by rw [List.length_set]; exact h.len, fun j hj => ?_⟩
 rw [getD_set' (by rw [h.len]; exact hi)]
 by_cases e : i = j
 ·subst e
  rw [if_pos rfl]; exact hy
 ·rw [if_neg e]; exact h.bet j hj
structure HFew (h x : Ho) : Prop where
 holds : x.holds = h.holds
 doors : DsB h.doors x.doors
 first : x.first = h.first
 ticks : x.ticks = h.ticks
 counts : x.counts = h.counts
theorem HFew.V {h x : Ho} (V : HV h) (hf : ∀ d ∈ h.doors, d.flow ≤ 1000) (b : HFew h x) : HV x := by
 have hl := b.doors.len
 refine ⟨by rw [b.holds]; exact V.n0, by rw [b.holds]; exact V.n1, by rw [b.holds]; exact V.holds, by rw [hl]; exact V.d1, fun d hd => ?_, by rw [b.first]; exact V.first, by rw [b.ticks]; exact V.t0, by rw [b.ticks]; exact V.t1, by rw [b.counts]; exact V.c1, fun c hc => ?_, by rw [b.counts]; exact V.keys⟩
 ·obtain ⟨j, hj, rfl⟩ := List.getElem_of_mem hd
  have h1 := b.doors.bet j (by omega)
  have h2 : h.doors.getD j do0 = h.doors[j]'(by omega) := by rw [List.getD_eq_getElem?_getD, List.getElem?_eq_getElem (by omega)]; rfl
  have h3 : x.doors.getD j do0 = x.doors[j] := by rw [List.getD_eq_getElem?_getD, List.getElem?_eq_getElem hj]; rfl
  rw [h2, h3] at h1
  have hm := List.getElem_mem (show j < h.doors.length by omega)
  obtain ⟨a0, a1, b0, b1, ne, f0, f1⟩ := V.doors _ hm
  have f2 := hf _ hm
  obtain ⟨e1, e2, e3, e4⟩ := h1
  rw [b.holds]
  exact ⟨by rw [e1]; exact a0, by rw [e1]; exact a1, by rw [e2]; exact b0, by rw [e2]; exact b1, by rw [e1, e2]; exact ne, by omega, by omega⟩
 ·rw [b.counts] at hc
  obtain ⟨t0, t1, d0, d1, k, i, o⟩ := V.counts c hc
  refine ⟨t0, by rw [b.ticks]; exact t1, d0, by rw [hl]; exact d1, ?_, i, o⟩
  have h1 := b.doors.bet c.door.toNat (by omega)
  unfold doAt at k ⊢
  rw [h1.a, h1.b]; exact k
/-! ### the ways -/
theorem wsAt_nn {ws : List Wa} (h : ∀ w ∈ ws, 0 ≤ w.most) (i j : Nat) : 0 ≤ wsAt ws i j := by
 induction ws with
 | nil => exact Int.le_refl _
 | cons w ws ih =>
  have h1 := h w (by simp)
  have h2 := ih fun x hx => h x (by simp [hx])
  rw [wsAt_cons]
  split <;> omega
theorem start_from (nH : Nat) (c : Nat → Int) : ((startWs nH c).map fun w => if w.fr = 0 then w.most else 0).sum = sumTo nH c := by
 unfold startWs sumTo
 rw [List.map_map]
 congr 1
theorem start_row {N nH : Nat} (hN : 2 + nH ≤ N) (c : Nat → Int) : sumTo N (fun j => wsAt (startWs nH c) 0 j) = sumTo nH c := by
 rw [row_sum 0 _ fun w hw => ?_, start_from]
 unfold startWs at hw
 obtain ⟨k, hk, rfl⟩ := List.mem_map.1 hw
 rw [List.mem_range] at hk
 show placeOf nH (k : Int) 0 < N
 unfold placeOf
 split <;> omega
section
variable {nH ticks : Nat} {ds ds' : List Do} {closed op : List Int} {c c' : Nat → Int}
theorem leave_MF (hn : 1 ≤ nH) (hd : ∀ d ∈ ds, DoOk nH d) (hc : ∀ i, i < nH → 0 ≤ c i ∧ c i ≤ 1073741824) : MF (2 + (ticks + 1) * nH) (tabOfW (2 + (ticks + 1) * nH) (waysOf nH ds ticks closed c)) (Vm.leaveV nH ds ticks closed c) := by
 have h := tabW_ok _ _ rfl (waysOf_ok (ticks := ticks) (closed := closed) hd hc)
 exact mfv_MF (by omega) h.1 fun i j _ _ => (h.2 i j).1
theorem nh_le (nH ticks : Nat) : 2 + nH ≤ 2 + (ticks + 1) * nH := by
 rw [Nat.add_mul, Nat.one_mul]; omega
theorem leave_le (hn : 1 ≤ nH) (hd : ∀ d ∈ ds, DoOk nH d) (hc : ∀ i, i < nH → 0 ≤ c i ∧ c i ≤ 1073741824) : Vm.leaveV nH ds ticks closed c ≤ sumTo nH c := by
 have m1 := leave_MF (ticks := ticks) (closed := closed) hn hd hc
 have w1 := waysOf_ok (ticks := ticks) (closed := closed) hd hc
 have hN := nh_le nH ticks
 generalize 2 + (ticks + 1) * nH = N at hN m1 w1
 have hle := m1.le_cut (by omega) (S := fun i => decide (i = 0)) (by simp) (by simp)
 refine Int.le_trans hle ?_
 have hz : ∀ j, wsAt ((List.range ticks).flatMap (tickWs nH ds closed)) 0 j = 0 := by
  intro j
  have hf : ∀ w ∈ (List.range ticks).flatMap (tickWs nH ds closed), w.fr ≠ 0 := by
   intro w hw
   obtain ⟨t, ht, hw⟩ := List.mem_flatMap.1 hw
   unfold tickWs at hw
   have hp : ∀ (q : Int) (t : Nat), placeOf nH q t ≠ 0 := fun q t => by unfold placeOf; split <;> omega
   rcases List.mem_append.1 hw with hw | hw
   ·unfold stayWs at hw
    obtain ⟨k, _, rfl⟩ := List.mem_map.1 hw
    exact hp (k : Int) t
   ·have hdw : ∀ (d : Do), ∀ w ∈ doorWs nH t d, w.fr ≠ 0 := by
     intro d w hw
     unfold doorWs at hw
     rcases List.mem_append.1 hw with hw | hw
     ·split at hw
      ·cases hw
      ·rw [List.mem_singleton] at hw; subst hw; exact hp _ _
     ·split at hw
      ·cases hw
      ·rw [List.mem_singleton] at hw; subst hw; exact hp _ _
    have hds : ∀ (l : List Do) (k : Nat), ∀ w ∈ doorsWs nH t closed k l, w.fr ≠ 0 := by
     intro l
     induction l with
     | nil => intro k w hw; cases hw
     | cons d l ih =>
      intro k w hw
      rw [doorsWs] at hw
      rcases List.mem_append.1 hw with hw | hw
      ·split at hw
       ·cases hw
       ·exact hdw d w hw
      ·exact ih _ w hw
    exact hds ds 0 w hw
  generalize (List.range ticks).flatMap (tickWs nH ds closed) = L at hf
  induction L with
  | nil => rfl
  | cons w L ih =>
   rw [wsAt_cons, if_neg (fun q => hf w (by simp) q.1), ih fun x hx => hf x (by simp [hx])]; rfl
 unfold cutOf
 rw [← start_row (N := N) (by omega) c, ← sumTo_one (show 0 < N by omega) (sumTo N fun j => wsAt (startWs nH c) 0 j)]
 refine sumTo_le fun i hi => ?_
 by_cases e : i = 0
 ·subst e
  rw [if_pos rfl]
  refine sumTo_le fun j hj => ?_
  have h0 := ((tabW_ok _ _ rfl w1).2 0 j).1
  rw [tabW_at _ _ rfl w1] at h0 ⊢
  unfold waysOf at h0 ⊢
  rw [wsAt_app, hz j] at h0 ⊢
  split <;> omega
 ·rw [if_neg e]
  rw [show (fun j => if (decide (i = 0) && !decide (j = 0)) = true then at2 (tabOfW N (waysOf nH ds ticks closed c)) i j else 0) = fun _ => (0 : Int) from funext fun j => by simp [e], sumTo_const0]
  exact Int.le_refl _
end
end Go.Proofs.Ytmagiabapakhcaa

/- Fewer people, and easier ways: ticks and numbers, plain. -/
namespace Go.Proofs.Ytmagiabapakhcaa
theorem leaveErr_ok {h : Ho} {who closed : List Int} (V : HV h) (hl : who.length = h.holds.length) (hw : ∀ n ∈ who, 0 ≤ n ∧ n ≤ 10000) (hc : closedErr h.doors.length closed = 0) : leaveErr h who closed = 0 := by
 unfold leaveErr
 rw [if_pos (houseErr_ok.2 V), if_pos hl, if_pos (List.all_eq_true.2 fun n hn => by rw [inR_true]; exact hw n hn), hc]
section
variable {h x : Ho} {people less closed op : List Int}
end
end Go.Proofs.Ytmagiabapakhcaa

/- A buffer that a temporary leads to is read as plain data. (Vm) -/
namespace Go.Proofs.Ytmagiabapakhcaa.Vm
open Go
section
variable {P : Program} {T : Tab} {cx : Cx} {e : Env} {M : Mem} {D : List Nat} {Q : PQ} {c : Code}
end
end Go.Proofs.Ytmagiabapakhcaa.Vm

/- The law of fewer people and greater flows, on values. (Vm) -/
namespace Go.Proofs.Ytmagiabapakhcaa.Vm
open Go Go.Proofs
attribute [local irreducible] castF castU fromF fromU oneF oneU onceF
end Go.Proofs.Ytmagiabapakhcaa.Vm
