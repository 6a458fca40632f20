/- A part of the proofs about the chapter of the doors; it states no condition of its own. -/
import Derived.Test.YtmagiabapakhcaaB35
import Derived.Test.YtmagiabapakhcaaB42
import Derived.Test.YtmagiabapakhcaaB43
import Derived.Test.YtmagiabapakhcaaB47
import Derived.Test.YtmagiabapakhcaaB49
import Derived.Test.YtmagiabapakhcaaB51
import Derived.Test.YtmagiabapakhcaaB53
set_option linter.unusedVariables false
set_option linter.unusedSimpArgs false
/- Flows: as much as can flow always is there, and grows with what the ways take. -/
namespace Go.Proofs.Ytmagiabapakhcaa
theorem cut_mono {N : Nat} {C C' : List (List Int)} (h : ∀ i j, i < N → j < N → at2 C i j ≤ at2 C' i j) (S : Nat → Bool) : cutOf N C S ≤ cutOf N C' S := by
  unfold cutOf
  refine sumTo_le fun i hi => sumTo_le fun j hj => ?_
  have := h i j hi hj
  split <;> omega
theorem MF.le_cut {N : Nat} {C : List (List Int)} {v : Int} (h : MF N C v) (hN : 2 ≤ N) {S : Nat → Bool} (h0 : S 0 = true) (h1 : S 1 = false) : v ≤ cutOf N C S := by
  obtain ⟨⟨R, hR⟩, _⟩ := h
  exact hR.le_cut hN h0 h1
theorem MF.mono {N : Nat} {C C' : List (List Int)} {v v' : Int} (hN : 2 ≤ N) (h : MF N C v) (h' : MF N C' v') (hle : ∀ i j, i < N → j < N → at2 C i j ≤ at2 C' i j) : v ≤ v' := by
  obtain ⟨_, S, s0, s1, hS⟩ := h'
  have := h.le_cut hN s0 s1
  have := cut_mono hle S
  omega
end Go.Proofs.Ytmagiabapakhcaa

/- Kitchens in which gifts keep longer and meals take more, plain. -/
namespace Go.Proofs.Ytmagiabapakhcaa
structure MBet (l m : List Int) : Prop where
  len : m.length = l.length
  ge : ∀ j, l.getD j 0 ≤ m.getD j 0 ∧ m.getD j 0 ≤ l.getD j 0 + 20
theorem MBet.refl (l : List Int) : MBet l l := ⟨rfl, fun j => ⟨Int.le_refl _, by omega⟩⟩
theorem getD_set' {α : Type} {m : List α} {i : Nat} {x z : α} (hi : i < m.length) (j : Nat) : (m.set i x).getD j z = if i = j then x else m.getD j z := by
  rw [List.getD_eq_getElem?_getD, List.getElem?_set]
  by_cases h : i = j
  · subst h
    rw [if_pos rfl, if_pos rfl, if_pos hi]; rfl
  · rw [if_neg h, if_neg h, ← List.getD_eq_getElem?_getD]
theorem MBet.up {l m : List Int} (h : MBet l m) {i : Nat} {q : Int} (e : m.getD i 0 = l.getD i 0) (hi : i < m.length) (hq : 0 ≤ q ∧ q ≤ 20) : MBet l (m.set i (m.getD i 0 + q)) := by
  refine ⟨by rw [List.length_set]; exact h.len, fun j => ?_⟩
  rw [getD_set' hi]
  by_cases hj : i = j
  · subst hj
    rw [if_pos rfl]; omega
  · rw [if_neg hj]; exact h.ge j
/-- a gift that keeps longer -/
structure GBet (n : Nat) (x y : Gi) : Prop where
  f0 : 0 ≤ y.from_
  ff : y.from_ ≤ x.from_
  kk : x.keeps ≤ y.keeps
  kn : y.keeps < n
  p : y.portions = x.portions
theorem GBet.refl {n : Nat} {x : Gi} (h : GiV n x) : GBet n x x := ⟨h.f0, Int.le_refl _, Int.le_refl _, h.k1, rfl⟩
theorem GBet.V {n : Nat} {x y : Gi} (b : GBet n x y) (h : GiV n x) : GiV n y := ⟨b.f0, by have := b.ff; have := b.kk; have := h.fk; omega, b.kn, by rw [b.p]; exact h.p0, by rw [b.p]; exact h.p1⟩
structure GsBet (n : Nat) (l m : List Gi) : Prop where
  len : m.length = l.length
  bet : ∀ j, j < l.length → GBet n (l.getD j ⟨0, 0, 0⟩) (m.getD j ⟨0, 0, 0⟩)
theorem GsBet.refl {n : Nat} {l : List Gi} (h : ∀ x ∈ l, GiV n x) : GsBet n l l := ⟨rfl, fun j hj => by
  rw [List.getD_eq_getElem?_getD, List.getElem?_eq_getElem hj]
  exact GBet.refl (h _ (List.getElem_mem hj))⟩
theorem GsBet.up {n : Nat} {l m : List Gi} (h : GsBet n l m) {i : Nat} {y : Gi} (hi : i < l.length) (hy : GBet n (l.getD i ⟨0, 0, 0⟩) y) : GsBet n l (m.set i y) := by
  refine ⟨by rw [List.length_set]; exact h.len, fun j hj => ?_⟩
  rw [getD_set' (by rw [h.len]; exact hi)]
  by_cases e : i = j
  · subst e
    rw [if_pos rfl]; exact hy
  · rw [if_neg e]; exact h.bet j hj
structure KBet (k x : Kn) : Prop where
  m : MBet k.meals x.meals
  g : GsBet k.meals.length k.gifts x.gifts
theorem KBet.V {k x : Kn} (V : KV k) (hm : ∀ n ∈ k.meals, 0 ≤ n ∧ n ≤ 9000) (b : KBet k x) : KV x := by
  have hl := b.m.len
  have hg := b.g.len
  have m1 := V.m1
  have g1 := V.g1
  refine ⟨by omega, fun n hn => ?_, by omega, fun y hy => ?_⟩
  · obtain ⟨j, hj, rfl⟩ := List.getElem_of_mem hn
    have h1 := b.m.ge j
    have h2 : k.meals.getD j 0 = k.meals[j]'(by omega) := by rw [List.getD_eq_getElem?_getD, List.getElem?_eq_getElem (by omega)]; rfl
    have h3 : x.meals.getD j 0 = x.meals[j] := by rw [List.getD_eq_getElem?_getD, List.getElem?_eq_getElem hj]; rfl
    have h4 := hm _ (List.getElem_mem (show j < k.meals.length by omega))
    rw [h2, h3] at h1
    omega
  · obtain ⟨j, hj, rfl⟩ := List.getElem_of_mem hy
    have h1 := b.g.bet j (by omega)
    have h3 : x.gifts.getD j ⟨0, 0, 0⟩ = x.gifts[j] := by rw [List.getD_eq_getElem?_getD, List.getElem?_eq_getElem hj]; rfl
    have h4 := giAt_V V (show j < k.gifts.length by omega)
    unfold giAt at h4
    rw [h3] at h1
    rw [hl]
    exact h1.V h4
end Go.Proofs.Ytmagiabapakhcaa

/- Flows: the table of some ways, place by place, plain. -/
namespace Go.Proofs.Ytmagiabapakhcaa
end Go.Proofs.Ytmagiabapakhcaa

/- Kitchens made of numbers, on values. (Vm) -/
namespace Go.Proofs.Ytmagiabapakhcaa.Vm
open Go Go.Proofs
attribute [local irreducible] castF castU fromF fromU oneF oneU
end Go.Proofs.Ytmagiabapakhcaa.Vm

/- Kitchens and houses that are copied into slices of their own. (Vm) -/
-- TABLE TK
namespace Go.Proofs.Ytmagiabapakhcaa.Vm
open Go Go.Proofs
theorem VC_keep {P : Program} {T : Tab} (hT : TabOk P T) {f : Nat} {fn : Func} {c : Code} {nt : Nat} {args : List VV} {M : Mem} {Q : VV → Mem → Prop} (hf : T.fn f = some fn) (hb : fn.body = some c) (hnt : fn.ntmps = nt) (hn : Nat.ble args.length nt = true) (hk : T.keeps f = true)
    (h : WCode P ⟨f, none, nt⟩ c (zipEnv 0 args) M [] (fun ex e M' D => (ex = .normal ∨ ex = .ret) ∧ D = [] ∧ ∃ vs, vresL T e M' fn.results.toList = some vs ∧ Q (vtup vs) M')) : VC P f args M Q := by
  subst hnt
  refine VC_fn hT hf hb (Nat.le_of_ble_eq_true hn) fun hlg => h.mono ?_
  rintro ex e M' D ⟨hex, rfl, vs, h1, h3⟩
  have key : retQ T f M.H.length fn Q .ret e M' [] := by
    simp only [retQ, vkill]
    have hM : ({ M' with H := M'.H } : Mem) = M' := rfl
    rw [hM, h1]
    simp only
    unfold vfinish
    rw [hk]
    exact h3
  rcases hex with rfl | rfl
  · exact key
  · exact key
def ownT2 (T : Tab) (o k : Nat → Bool) : Tab := { T with own := o, keeps := k }
section
variable {P : Program} {T : Tab} {o k : Nat → Bool}
theorem ownT2_ok (h : TabOk P T) : TabOk P (ownT2 T o k) := ⟨h.ty, h.fn, h.mixed⟩
theorem ownT2_ty : (ownT2 T o k).ty = T.ty := rfl
theorem ownT2_fn : (ownT2 T o k).fn = T.fn := rfl
theorem ownT2_bin : vbin (ownT2 T o k) = vbin T := rfl
theorem ownT2_own : (ownT2 T o k).own = o := rfl
theorem ownT2_keeps : (ownT2 T o k).keeps = k := rfl
end
def ownK2 (t : Nat) : Bool := Nat.beq t 22 || Nat.beq t 56 || Nat.beq t 23 || Nat.beq t 26
def keepK2 (f : Nat) : Bool := keepsB f || Nat.beq f 31 || Nat.beq f 37 || Nat.beq f 21
noncomputable def TK : Tab := ownT2 T ownK2 keepK2
theorem TK_ok : TabOk Try.prog TK := ownT2_ok T_ok
theorem xK_ty : TK.ty = T.ty := ownT2_ty
theorem xK_fn : TK.fn = T.fn := ownT2_fn
theorem xK_bin : vbin TK = vbin T := ownT2_bin
theorem xK_oi : TK.own 22 = true := by rw [TK, ownT2_own]; rfl
theorem xK_oc : TK.own 56 = true := by rw [TK, ownT2_own]; rfl
theorem xK_ok : TK.own 23 = true ∧ TK.own 26 = true := by rw [TK, ownT2_own]; exact ⟨rfl, rfl⟩
theorem xK_keeps : TK.keeps = keepK2 := by rw [TK, ownT2_keeps]
theorem flat_ints : ∀ xs : List Int, List.map VV.p (List.map intP xs).flatten = xs.map vi
  | [] => rfl
  | x :: xs => by simp [flat_ints xs]
theorem copyInts_own (xs : List Int) (M : Mem) (hl : xs.length ≤ 1000000) : VC Try.prog 31 [intsV xs] M (fun r M' => M' = ⟨M.H ++ [.obj (xs.map vi)], M.lg⟩ ∧ r = .bf M.H.length 0 xs.length 1) := by
  have q1 : (xs.length * 8 ≤ 140737488355328) = True := eq_true (by omega)
  refine VC_keep TK_ok (f := 31) (fn := Try.f31) (by rw [xK_fn]; kernel_rfl) rfl Try.ntmps31 (by rfl) (by rw [xK_keeps]; rfl) ?_
  ((repeat refine W_seq ?_); refine W_region0 TK_ok ?_)
  simp (maxSteps := 1000000) only [xK_ty, xK_fn, xK_bin, xK_oi, xK_oc, xK_ok, VL, VM, ↓Gd_none, ↓Gd_t, ↓Gd_f, reduceIte, reduceCtorEq, Int.reduceLE, Int.reduceLT, Int.reduceToNat, Int.reduceNeg, Nat.reduceLT, Nat.reduceEqDiff, Nat.reduceAdd, Nat.reduceSub, Nat.reduceMul, Nat.reduceLeDiff]
  ((repeat refine W_seq ?_); refine W_region0 TK_ok ?_)
  simp (maxSteps := 1000000) only [xK_ty, xK_fn, xK_bin, xK_oi, xK_oc, xK_ok, VL, VM, ↓Gd_none, ↓Gd_t, ↓Gd_f, reduceIte, reduceCtorEq, Int.reduceLE, Int.reduceLT, Int.reduceToNat, Int.reduceNeg, Nat.reduceLT, Nat.reduceEqDiff, Nat.reduceAdd, Nat.reduceSub, Nat.reduceMul, Nat.reduceLeDiff, q1]
  (repeat refine W_seq ?_)
  refine W_ret ?_
  refine ⟨.inr rfl, rfl, [.bf M.H.length 0 xs.length 1], rfl, ?_, rfl⟩
  rw [flat_ints]
abbrev cellsD (l : List Do) : List VV := List.map VV.p (List.map doP l).flatten
abbrev cellsC (l : List Co) : List VV := List.map VV.p (List.map coP l).flatten
abbrev bufH (h : Ho) (n : Nat) : List VV := [.bf n 0 h.holds.length 1, .bf (n + 1) 0 h.doors.length 3, vi h.first.lo, vi h.first.hi, vi h.ticks, .bf (n + 2) 0 h.counts.length 6]
theorem copyHouse_own (h : Ho) (M : Mem) (hm : h.holds.length ≤ 1000000) (hg : h.doors.length ≤ 1000000) (hc : h.counts.length ≤ 1000000) : VC Try.prog 21 [houseV h] M (fun r M' => ∃ X, (∀ e ∈ X, M.H.length ≤ e.1) ∧ M' = ⟨M.H ++ [VObj.obj (bufH h (M.H.length + 2)), .obj (bufH h (M.H.length + 2)), .obj (h.holds.map vi), .obj (cellsD h.doors), .obj (cellsC h.counts)], M.lg ++ X⟩ ∧ r = .agg (bufH h (M.H.length + 2))) := by
  have q1 : (h.doors.length * 24 ≤ 140737488355328) = True := eq_true (by omega)
  have q2 : (h.counts.length * 48 ≤ 140737488355328) = True := eq_true (by omega)
  refine VC_keep TK_ok (f := 21) (fn := Try.f21) (by rw [xK_fn]; kernel_rfl) rfl Try.ntmps21 (by rfl) (by rw [xK_keeps]; rfl) ?_
  ((repeat refine W_seq ?_); refine W_region0 TK_ok ?_)
  simp (maxSteps := 1000000) only [xK_ty, xK_fn, xK_bin, xK_oi, xK_oc, xK_ok, VL, VM, ↓Gd_none, ↓Gd_t, ↓Gd_f, reduceIte, reduceCtorEq, Int.reduceLE, Int.reduceLT, Int.reduceToNat, Int.reduceNeg, Nat.reduceLT, Nat.reduceEqDiff, Nat.reduceAdd, Nat.reduceSub, Nat.reduceMul, Nat.reduceLeDiff]
  (repeat refine W_seq ?_)
  refine W_drawP TK_ok [] (by kernel_rfl) (by kernel_rfl) ?_
  generalize hi : mkPlan _ = infs
  cbv at hi
  subst hi
  simp (maxSteps := 1000000) only [xK_ty, xK_fn, xK_bin, xK_oi, xK_oc, xK_ok, VL, VM, ↓Gd_none, ↓Gd_t, ↓Gd_f, reduceIte, reduceCtorEq, Int.reduceLE, Int.reduceLT, Int.reduceToNat, Int.reduceNeg, Nat.reduceLT, Nat.reduceEqDiff, Nat.reduceAdd, Nat.reduceSub, Nat.reduceMul, Nat.reduceLeDiff, q1, q2]
  apply call_d (f := 31) (fn := Try.f31) (by kernel_rfl) (by rfl)
  · exact copyInts_own h.holds _ hm
  simp (maxSteps := 1000000) only [xK_ty, xK_fn, xK_bin, xK_oi, xK_oc, xK_ok, VL, VM, ↓Gd_none, ↓Gd_t, ↓Gd_f, reduceIte, reduceCtorEq, Int.reduceLE, Int.reduceLT, Int.reduceToNat, Int.reduceNeg, Nat.reduceLT, Nat.reduceEqDiff, Nat.reduceAdd, Nat.reduceSub, Nat.reduceMul, Nat.reduceLeDiff, q1, q2]
  obtain ⟨lgB, hB⟩ : ∃ lgB, lgB = addLg M.H.length [M.H.length + 4] (addLg M.H.length [M.H.length + 3] (addLg M.H.length [M.H.length + 2] M.lg)) := ⟨_, rfl⟩
  rw [← hB]
  ((repeat refine W_seq ?_); refine W_region0 TK_ok ?_)
  simp (maxSteps := 1000000) only [xK_ty, xK_fn, xK_bin, xK_oi, xK_oc, xK_ok, VL, VM, ↓Gd_none, ↓Gd_t, ↓Gd_f, reduceIte, reduceCtorEq, Int.reduceLE, Int.reduceLT, Int.reduceToNat, Int.reduceNeg, Nat.reduceLT, Nat.reduceEqDiff, Nat.reduceAdd, Nat.reduceSub, Nat.reduceMul, Nat.reduceLeDiff]
  (repeat refine W_seq ?_)
  refine W_ret ?_
  try simp only [thenQ, blockQ]
  obtain ⟨X1, h1, g1⟩ := addLg_Y M.H.length [M.H.length + 2] M.lg
  obtain ⟨X2, h2, g2⟩ := addLg_Y M.H.length [M.H.length + 3] (addLg M.H.length [M.H.length + 2] M.lg)
  obtain ⟨X3, h3, g3⟩ := addLg_Y M.H.length [M.H.length + 4] (addLg M.H.length [M.H.length + 3] (addLg M.H.length [M.H.length + 2] M.lg))
  obtain ⟨X, h5, g5⟩ := addLg_Y (M.H.length + 1) [M.H.length + 2, M.H.length + 3, M.H.length + 4] lgB
  have hh : lgB = M.lg ++ (X1 ++ (X2 ++ X3)) := by rw [hB, h3, h2, h1]; simp
  refine ⟨.inr (by trivial), by trivial, [.agg (bufH h (M.H.length + 2))], ?_, X1 ++ (X2 ++ X3) ++ X, fun e he => ?_, ?_, rfl⟩
  · simp [Try.f21, vresL, vload, xK_ty, t_house, get_cons, hget, hget0, nat_ble, strip1]
  · simp only [List.mem_append] at he
    rcases he with (he | he | he) | he
    · have := (g1 e he).1; omega
    · have := (g2 e he).1; omega
    · have := (g3 e he).1; omega
    · have := (g5 e he).1; omega
  · rw [← List.append_assoc, ← hh, ← h5]
end Go.Proofs.Ytmagiabapakhcaa.Vm

/- The law of gifts that keep longer, on values. (Vm) -/
namespace Go.Proofs.Ytmagiabapakhcaa.Vm
open Go Go.Proofs
attribute [local irreducible] castF castU fromF fromU oneF oneU
end Go.Proofs.Ytmagiabapakhcaa.Vm

/- Narrower counts, plain. -/
namespace Go.Proofs.Ytmagiabapakhcaa
/-- a span within another one -/
structure Nar (x y : Sp) : Prop where
  lo : x.lo ≤ y.lo
  le : y.lo ≤ y.hi
  hi : y.hi ≤ x.hi
theorem Nar.ok {x y : Sp} (h : Nar x y) (hx : SpOk x) : SpOk y := ⟨by have := hx.lo0; have := h.lo; omega, h.le, by have := hx.hi1; have := h.hi; omega⟩
theorem Nar.refl {x : Sp} (hx : SpOk x) : Nar x x := ⟨Int.le_refl _, hx.le, Int.le_refl _⟩
structure CoB (c d : Co) : Prop where
  t : d.tick = c.tick
  k : d.door = c.door
  i : Nar c.i d.i
  o : Nar c.o d.o
abbrev co0 : Co := ⟨0, 0, ⟨0, 0⟩, ⟨0, 0⟩⟩
structure CsB (l m : List Co) : Prop where
  len : m.length = l.length
  bet : ∀ j, j < l.length → CoB (l.getD j co0) (m.getD j co0)
theorem CsB.refl {l : List Co} (h : ∀ c ∈ l, SpOk c.i ∧ SpOk c.o) : CsB l l := ⟨rfl, fun j hj => by
  rw [List.getD_eq_getElem?_getD, List.getElem?_eq_getElem hj]
  have := h _ (List.getElem_mem hj)
  exact ⟨rfl, rfl, Nar.refl this.1, Nar.refl this.2⟩⟩
theorem CsB.up {l m : List Co} (h : CsB l m) {i : Nat} {y : Co} (hi : i < l.length) (hy : CoB (l.getD i co0) y) : CsB l (m.set i y) := by
  refine ⟨by rw [List.length_set]; exact h.len, fun j hj => ?_⟩
  rw [getD_set' (by rw [h.len]; exact hi)]
  by_cases e : i = j
  · subst e
    rw [if_pos rfl]; exact hy
  · rw [if_neg e]; exact h.bet j hj
theorem CsB.tl {a b : Co} {l m : List Co} (h : CsB (a :: l) (b :: m)) : CoB a b ∧ CsB l m := by
  have h0 := h.bet 0 (by simp)
  simp only [List.getD_cons_zero] at h0
  exact ⟨h0, by have := h.len; simpa using this, fun q hq => by have := h.bet (q + 1) (by simpa using hq); simpa using this⟩
theorem CsB.chg (t : Int) : ∀ {l m : List Co}, CsB l m → (chg l t).lo ≤ (chg m t).lo ∧ (chg m t).hi ≤ (chg l t).hi
  | [], [], _ => ⟨Int.le_refl _, Int.le_refl _⟩
  | [], _ :: _, h => by have := h.len; simp at this
  | _ :: _, [], h => by have := h.len; simp at this
  | a :: l, b :: m, h => by
    obtain ⟨h0, h1⟩ := h.tl
    have ih := CsB.chg t h1
    unfold Proofs.Ytmagiabapakhcaa.chg at ih ⊢
    simp only at ih
    rw [List.filter_cons, List.filter_cons, h0.t]
    by_cases e : a.tick = t
    · rw [if_pos (by simpa using e), if_pos (by simpa using e)]
      simp only [List.map_cons, List.sum_cons]
      have := h0.i.lo
      have := h0.i.hi
      have := h0.o.lo
      have := h0.o.hi
      omega
    · rw [if_neg (by simpa using e), if_neg (by simpa using e)]
      exact ih
def keyOf (c : Co) : Int × Int := (c.tick, c.door)
theorem any_key (c d : Co) (h : keyOf c = keyOf d) : ∀ {bs bs' : List Co}, bs.map keyOf = bs'.map keyOf → bs.any (sameKey c) = bs'.any (sameKey d)
  | [], [], _ => rfl
  | [], _ :: _, h => by simp at h
  | _ :: _, [], h => by simp at h
  | a :: bs, b :: bs', h2 => by
    rw [List.map_cons, List.map_cons, List.cons.injEq] at h2
    rw [List.any_cons, List.any_cons, any_key c d h h2.2]
    congr 1
    simp only [keyOf, Prod.mk.injEq] at h h2
    unfold sameKey
    rw [h.1, h.2, h2.1.1, h2.1.2]
theorem keys_congr : ∀ {l m bs bs' : List Co}, l.map keyOf = m.map keyOf → bs.map keyOf = bs'.map keyOf → keysOk bs l → keysOk bs' m
  | [], [], _, _, _, _, _ => trivial
  | [], _ :: _, _, _, h, _, _ => by simp at h
  | _ :: _, [], _, _, h, _, _ => by simp at h
  | a :: l, b :: m, bs, bs', h, h2, k => by
    rw [List.map_cons, List.map_cons, List.cons.injEq] at h
    rw [keysOk] at k ⊢
    refine ⟨?_, keys_congr h.2 (by rw [List.map_append, List.map_append, h2, List.map_cons, List.map_cons, h.1, List.map_nil]) k.2⟩
    rw [← any_key a b h.1 h2]; exact k.1
theorem CsB.keys : ∀ {l m : List Co}, CsB l m → l.map keyOf = m.map keyOf
  | [], [], _ => rfl
  | [], _ :: _, h => by have := h.len; simp at this
  | _ :: _, [], h => by have := h.len; simp at this
  | a :: l, b :: m, h => by
    obtain ⟨h0, h1⟩ := h.tl
    rw [List.map_cons, List.map_cons, CsB.keys h1]
    congr 1
    unfold keyOf
    rw [h0.t, h0.k]
structure HNar (h x : Ho) : Prop where
  holds : x.holds = h.holds
  doors : x.doors = h.doors
  ticks : x.ticks = h.ticks
  first : Nar h.first x.first
  counts : CsB h.counts x.counts
theorem HNar.V {h x : Ho} (V : HV h) (b : HNar h x) : HV x := by
  refine ⟨by rw [b.holds]; exact V.n0, by rw [b.holds]; exact V.n1, by rw [b.holds]; exact V.holds, by rw [b.doors]; exact V.d1, by rw [b.doors, b.holds]; exact V.doors, b.first.ok V.first, by rw [b.ticks]; exact V.t0, by rw [b.ticks]; exact V.t1, by rw [b.counts.len]; exact V.c1, fun c hc => ?_, keys_congr b.counts.keys rfl V.keys⟩
  obtain ⟨j, hj, rfl⟩ := List.getElem_of_mem hc
  have hl := b.counts.len
  have h1 := b.counts.bet j (by omega)
  have h2 : h.counts.getD j co0 = h.counts[j]'(by omega) := by rw [List.getD_eq_getElem?_getD, List.getElem?_eq_getElem (by omega)]; rfl
  have h3 : x.counts.getD j co0 = x.counts[j] := by rw [List.getD_eq_getElem?_getD, List.getElem?_eq_getElem hj]; rfl
  rw [h2, h3] at h1
  obtain ⟨t0, t1, d0, d1, k, i, o⟩ := V.counts _ (List.getElem_mem (show j < h.counts.length by omega))
  refine ⟨by rw [h1.t]; exact t0, by rw [h1.t, b.ticks]; exact t1, by rw [h1.k]; exact d0, by rw [h1.k, b.doors]; exact d1, ?_, h1.i.ok i, h1.o.ok o⟩
  rw [h1.k]
  unfold doAt at k ⊢
  rw [b.doors]; exact k
def Wi (x y : Sp) : Prop := x.lo ≤ y.lo ∧ y.hi ≤ x.hi
theorem fwd_wi {f f' : Sp} {C C' : Nat → Sp} (hf : Wi f f') (hC : ∀ t, Wi (C t) (C' t)) : ∀ t, Wi (fwd f C t) (fwd f' C' t)
  | 0 => hf
  | t + 1 => by
    have h1 := fwd_wi hf hC t
    have h2 := hC t
    unfold Wi at *
    rw [fwd, fwd, nxt, nxt]
    simp only
    omega
theorem bwd_wi {f f' : Sp} {C C' : Nat → Sp} (hf : Wi f f') (hC : ∀ t, Wi (C t) (C' t)) (T : Nat) : ∀ k, Wi (bwd f C T k) (bwd f' C' T k)
  | 0 => fwd_wi hf hC T
  | k + 1 => by
    have h1 := bwd_wi hf hC T k
    have h2 := hC (T - (k + 1))
    have h3 := fwd_wi hf hC (T - (k + 1))
    unfold Wi at *
    rw [bwd, bwd]
    simp only
    omega
theorem HNar.inside {h x : Ho} (b : HNar h x) {l m : List Sp} (hl : insideH h = some l) (hm : insideH x = some m) : m.length = l.length ∧ ∀ (t : Nat) (y z : Sp), l[t]? = some y → m[t]? = some z → Wi y z := by
  unfold insideH at hl hm
  split at hl
  · cases hl
  split at hm
  · cases hm
  have hl := Option.some.inj hl
  have hm := Option.some.inj hm
  subst hl hm
  rw [b.ticks]
  refine ⟨by simp [insideL], fun t y z hy hz => ?_⟩
  unfold insideL at hy hz
  rw [List.getElem?_map] at hy hz
  rcases Nat.lt_or_ge t (h.ticks.toNat + 1) with q | q
  · rw [List.getElem?_range q, Option.map_some] at hy hz
    have hy := Option.some.inj hy
    have hz := Option.some.inj hz
    subst hy hz
    exact bwd_wi ⟨b.first.lo, b.first.hi⟩ (fun t => b.counts.chg t) _ _
  · rw [List.getElem?_eq_none (by simpa using q)] at hy
    cases hy
end Go.Proofs.Ytmagiabapakhcaa

/- Dice: narrower spans, on values. (Vm) -/
namespace Go.Proofs.Ytmagiabapakhcaa.Vm
open Go Go.Proofs
attribute [local irreducible] castF castU fromF fromU oneF oneU trueF trueU
theorem true_c {H0 : List VObj} {d : Nat} (hd : d < H0.length) {L : List VObj} (u : Int) (x : Sp) (lg : List (Nat × Nat)) (h0 : 0 ≤ x.lo) (h1 : x.lo ≤ x.hi) (h2 : x.hi ≤ 100000000) : VC Try.prog 89 [.ptr d 0, spV x] ⟨DH H0 d u L, lg⟩ (fun r M' => M' = ⟨DH H0 d (trueU u x) L, lg⟩ ∧ r = vi (trueF u x)) := by
  rw [DH_base, DH_base (u := trueU u x)]
  exact true_v (by rw [List.length_append]; omega) u x lg h0 h1 h2
def narU (u : Int) (x : Sp) : Int := trueU (trueU u x) x
def narF (u : Int) (x : Sp) : Sp := ⟨min (trueF u x) (trueF (trueU u x) x), max (trueF u x) (trueF (trueU u x) x)⟩
theorem narF_ok {u : Int} {x : Sp} (h : SpOk x) : Nar x (narF u x) := by
  have a := h.lo0
  have b := h.le
  have c := h.hi1
  have h1 := trueF_range (u := u) b (by omega)
  have h2 := trueF_range (u := trueU u x) b (by omega)
  exact ⟨by show _ ≤ min _ _; omega, by show min _ _ ≤ max _ _; omega, by show max _ _ ≤ _; omega⟩
theorem narrow_v {H0 : List VObj} {d : Nat} (hd : d < H0.length) (u : Int) (x : Sp) (lg : List (Nat × Nat)) (h : SpOk x) : VC Try.prog 48 [.ptr d 0, spV x] ⟨DH H0 d u [], lg⟩ (fun r M' => M' = ⟨DH H0 d (narU u x) [], lg⟩ ∧ r = spV (narF u x)) := by
  have a := h.lo0
  have b := h.le
  have c := h.hi1
  refine VC_own' T_ok (f := 48) (fn := Try.f48) (by kernel_rfl) rfl Try.ntmps48 (by rfl) (by rfl) ?_
  ((repeat refine W_seq ?_); refine W_region0 T_ok ?_)
  simp (maxSteps := 1000000) only [VL, VM, ↓Gd_none, ↓Gd_t, ↓Gd_f, reduceIte, reduceCtorEq, Int.reduceLE, Int.reduceLT, Int.reduceToNat, Int.reduceNeg, Nat.reduceLT, Nat.reduceEqDiff, Nat.reduceAdd, Nat.reduceSub, Nat.reduceMul, Nat.reduceLeDiff, DH_app hd, DH_len, DH_len0, DH_get hd, DH_get0 hd, DH_set hd, DH_set0 hd, DH_setd, DH_die hd]
  (repeat refine W_seq ?_)
  refine W_drawP T_ok [] (by kernel_rfl) (by kernel_rfl) ?_
  generalize hi : mkPlan _ = infs
  cbv at hi
  subst hi
  simp (maxSteps := 1000000) only [VL, VM, ↓Gd_none, ↓Gd_t, ↓Gd_f, reduceIte, reduceCtorEq, Int.reduceLE, Int.reduceLT, Int.reduceToNat, Int.reduceNeg, Nat.reduceLT, Nat.reduceEqDiff, Nat.reduceAdd, Nat.reduceSub, Nat.reduceMul, Nat.reduceLeDiff, DH_app hd, DH_len, DH_len0, DH_get hd, DH_get0 hd, DH_set hd, DH_set0 hd, DH_setd, DH_die hd]
  apply call_d (f := 89) (fn := Try.f89) (by kernel_rfl) (by rfl)
  · exact true_c hd u x lg a b (by omega)
  simp (maxSteps := 1000000) only [VL, VM, ↓Gd_none, ↓Gd_t, ↓Gd_f, reduceIte, reduceCtorEq, Int.reduceLE, Int.reduceLT, Int.reduceToNat, Int.reduceNeg, Nat.reduceLT, Nat.reduceEqDiff, Nat.reduceAdd, Nat.reduceSub, Nat.reduceMul, Nat.reduceLeDiff, DH_app hd, DH_len, DH_len0, DH_get hd, DH_get0 hd, DH_set hd, DH_set0 hd, DH_setd, DH_die hd]
  apply call_d (f := 89) (fn := Try.f89) (by kernel_rfl) (by rfl)
  · exact true_c hd (trueU u x) x lg a b (by omega)
  simp (maxSteps := 1000000) only [VL, VM, ↓Gd_none, ↓Gd_t, ↓Gd_f, reduceIte, reduceCtorEq, Int.reduceLE, Int.reduceLT, Int.reduceToNat, Int.reduceNeg, Nat.reduceLT, Nat.reduceEqDiff, Nat.reduceAdd, Nat.reduceSub, Nat.reduceMul, Nat.reduceLeDiff, DH_app hd, DH_len, DH_len0, DH_get hd, DH_get0 hd, DH_set hd, DH_set0 hd, DH_setd, DH_die hd]
  ((repeat refine W_seq ?_); refine W_region0 T_ok ?_)
  simp (maxSteps := 1000000) only [VL, VM, ↓Gd_none, ↓Gd_t, ↓Gd_f, reduceIte, reduceCtorEq, Int.reduceLE, Int.reduceLT, Int.reduceToNat, Int.reduceNeg, Nat.reduceLT, Nat.reduceEqDiff, Nat.reduceAdd, Nat.reduceSub, Nat.reduceMul, Nat.reduceLeDiff, DH_app hd, DH_len, DH_len0, DH_get hd, DH_get0 hd, DH_set hd, DH_set0 hd, DH_setd, DH_die hd]
  (repeat refine W_seq ?_)
  refine W_ret ?_
  try simp only [thenQ, blockQ]
  refine own_retDc hd (.inr rfl) rfl (Y := spV (narF u x)) ?_ rfl rfl
  simp [vload, t_span, get_cons, DH_get hd, DH_get0 hd, strip1, narF]
  rfl
theorem narrow_c {H0 : List VObj} {d : Nat} (hd : d < H0.length) {L : List VObj} (u : Int) (x : Sp) (lg : List (Nat × Nat)) (h : SpOk x) : VC Try.prog 48 [.ptr d 0, spV x] ⟨DH H0 d u L, lg⟩ (fun r M' => M' = ⟨DH H0 d (narU u x) L, lg⟩ ∧ r = spV (narF u x)) := by
  rw [DH_base, DH_base (u := narU u x)]
  exact narrow_v (by rw [List.length_append]; omega) u x lg h
theorem within_v (y x : Sp) (M : Mem) : VC Try.prog 49 [spV y, spV x] M (fun r M' => M' = M ∧ r = vb (decide (x.lo ≤ y.lo) && decide (y.hi ≤ x.hi))) := by
  refine VC_own' T_ok (f := 49) (fn := Try.f49) (by kernel_rfl) rfl Try.ntmps49 (by rfl) (by rfl) ?_
  ((repeat refine W_seq ?_); refine W_region0 T_ok ?_)
  simp (maxSteps := 1000000) only [VL, VM, ↓Gd_none, ↓Gd_t, ↓Gd_f, reduceIte, reduceCtorEq, Int.reduceLE, Int.reduceLT, Int.reduceToNat, Int.reduceNeg, Nat.reduceLT, Nat.reduceEqDiff, Nat.reduceAdd, Nat.reduceSub, Nat.reduceMul, Nat.reduceLeDiff]
  ((repeat refine W_seq ?_); refine W_region0 T_ok ?_)
  by_cases h1 : x.lo ≤ y.lo
  · by_cases h2 : y.hi ≤ x.hi
    · simp (maxSteps := 1000000) only [VL, VM, ↓Gd_none, ↓Gd_t, ↓Gd_f, reduceIte, reduceCtorEq, Int.reduceLE, Int.reduceLT, Int.reduceToNat, Int.reduceNeg, Nat.reduceLT, Nat.reduceEqDiff, Nat.reduceAdd, Nat.reduceSub, Nat.reduceMul, Nat.reduceLeDiff, h1, h2]
      (repeat refine W_seq ?_)
      refine W_ret ?_
      try simp only [thenQ, blockQ]
      refine own_ret1 rfl ?_ (by rfl)
      simp only [get_cons, frz, vtup, Nat.reduceEqDiff, if_true, if_false, reduceIte]
    · simp (maxSteps := 1000000) only [VL, VM, ↓Gd_none, ↓Gd_t, ↓Gd_f, reduceIte, reduceCtorEq, Int.reduceLE, Int.reduceLT, Int.reduceToNat, Int.reduceNeg, Nat.reduceLT, Nat.reduceEqDiff, Nat.reduceAdd, Nat.reduceSub, Nat.reduceMul, Nat.reduceLeDiff, h1, h2]
      (repeat refine W_seq ?_)
      refine W_ret ?_
      try simp only [thenQ, blockQ]
      refine own_ret1 rfl ?_ (by rfl)
      simp only [get_cons, frz, vtup, Nat.reduceEqDiff, if_true, if_false, reduceIte]
  · simp (maxSteps := 1000000) only [VL, VM, ↓Gd_none, ↓Gd_t, ↓Gd_f, reduceIte, reduceCtorEq, Int.reduceLE, Int.reduceLT, Int.reduceToNat, Int.reduceNeg, Nat.reduceLT, Nat.reduceEqDiff, Nat.reduceAdd, Nat.reduceSub, Nat.reduceMul, Nat.reduceLeDiff, h1]
    (repeat refine W_seq ?_)
    refine W_ret ?_
    try simp only [thenQ, blockQ]
    refine own_ret1 rfl ?_ (by rfl)
    simp only [get_cons, frz, vtup, Nat.reduceEqDiff, if_true, if_false, reduceIte]
end Go.Proofs.Ytmagiabapakhcaa.Vm

/- The law of narrower counts, on values. (Vm) -/
namespace Go.Proofs.Ytmagiabapakhcaa.Vm
open Go Go.Proofs
attribute [local irreducible] castF castU fromF fromU oneF oneU trueF trueU narU
theorem cellsC_cons (x : Co) (l : List Co) : cellsC (x :: l) = vi x.tick :: vi x.door :: vi x.i.lo :: vi x.i.hi :: vi x.o.lo :: vi x.o.hi :: cellsC l := rfl
theorem cellsC_app (l m : List Co) : cellsC (l ++ m) = cellsC l ++ cellsC m := by simp [cellsC]
theorem cellsC_len : ∀ l : List Co, (cellsC l).length = l.length * 6
  | [] => rfl
  | x :: l => by
    rw [cellsC_cons]
    simp only [List.length_cons]
    rw [cellsC_len l]
    omega
theorem insideH_len {h : Ho} {l : List Sp} (hl : insideH h = some l) : l.length = h.ticks.toNat + 1 := by
  unfold insideH at hl
  split at hl
  · cases hl
  have hl := Option.some.inj hl
  subst hl
  simp [insideL]
abbrev bufX (h : Ho) (n : Nat) (f : Sp) : List VV := [.bf n 0 h.holds.length 1, .bf (n + 1) 0 h.doors.length 3, vi f.lo, vi f.hi, vi h.ticks, .bf (n + 2) 0 h.counts.length 6]
set_option maxHeartbeats 8000000 in
set_option maxRecDepth 8000 in
theorem counted_law_v (xs : List Int) (M : Mem) (hl : xs.length ≤ maxLen) : VC Try.prog 8 [intsV xs] M (fun r M' => M' = M ∧ r = vb true) := by
  refine VC_own' T_ok (f := 8) (fn := Try.f8) (by kernel_rfl) rfl Try.ntmps8 (by rfl) (by rfl) ?_
  ((repeat refine W_seq ?_); refine W_region0 T_ok ?_)
  simp (maxSteps := 1000000) only [VL, VM, ↓Gd_none, ↓Gd_t, ↓Gd_f, reduceIte, reduceCtorEq, Int.reduceLE, Int.reduceLT, Int.reduceToNat, Int.reduceNeg, Nat.reduceLT, Nat.reduceEqDiff, Nat.reduceAdd, Nat.reduceSub, Nat.reduceMul, Nat.reduceLeDiff]
  ((repeat refine W_seq ?_); refine W_region0 T_ok ?_)
  simp (maxSteps := 1000000) only [VL, VM, ↓Gd_none, ↓Gd_t, ↓Gd_f, reduceIte, reduceCtorEq, Int.reduceLE, Int.reduceLT, Int.reduceToNat, Int.reduceNeg, Nat.reduceLT, Nat.reduceEqDiff, Nat.reduceAdd, Nat.reduceSub, Nat.reduceMul, Nat.reduceLeDiff]
  apply call_eq (f := 20) (fn := Try.f20) (by kernel_rfl) (by rfl)
  · exact dieOf_v xs M hl
  obtain ⟨H0, hH0⟩ : ∃ H0, H0 = M.H ++ [VObj.dead] := ⟨_, rfl⟩
  obtain ⟨d, hdd⟩ : ∃ d, d = M.H.length := ⟨_, rfl⟩
  have hd : d < H0.length := by rw [hH0, hdd]; simp
  have hlen0 : H0.length = M.H.length + 1 := by rw [hH0]; simp
  rw [← hH0, ← hdd]
  have tail : ∀ u L, DH H0 d u L = M.H ++ (.obj [uv u] :: L) := fun u L => by rw [hH0, hdd]; exact DH_tail M u L
  generalize dieU xs = u0
  simp (maxSteps := 1000000) only [VL, VM, ↓Gd_none, ↓Gd_t, ↓Gd_f, reduceIte, reduceCtorEq, Int.reduceLE, Int.reduceLT, Int.reduceToNat, Int.reduceNeg, Nat.reduceLT, Nat.reduceEqDiff, Nat.reduceAdd, Nat.reduceSub, Nat.reduceMul, Nat.reduceLeDiff]
  ((repeat refine W_seq ?_); refine W_region0 T_ok ?_)
  simp (maxSteps := 1000000) only [VL, VM, ↓Gd_none, ↓Gd_t, ↓Gd_f, reduceIte, reduceCtorEq, Int.reduceLE, Int.reduceLT, Int.reduceToNat, Int.reduceNeg, Nat.reduceLT, Nat.reduceEqDiff, Nat.reduceAdd, Nat.reduceSub, Nat.reduceMul, Nat.reduceLeDiff]
  have o1 := oneF_mem (u := u0) (xs := [9, 60]) (by simp) (by simp)
  apply call_eq (f := 28) (fn := Try.f28) (by kernel_rfl) (by rfl)
  · exact one_c hd u0 [9, 60] M.lg (by simp) (by simp)
  generalize oneF u0 [9, 60] = P at o1 ⊢
  generalize oneU u0 [9, 60] = u1
  have hP : 1 ≤ P ∧ P ≤ 1000 := by
    simp only [List.mem_cons, List.not_mem_nil, or_false] at o1
    rcases o1 with e | e <;> rw [e] <;> omega
  simp (maxSteps := 1000000) only [VL, VM, ↓Gd_none, ↓Gd_t, ↓Gd_f, reduceIte, reduceCtorEq, Int.reduceLE, Int.reduceLT, Int.reduceToNat, Int.reduceNeg, Nat.reduceLT, Nat.reduceEqDiff, Nat.reduceAdd, Nat.reduceSub, Nat.reduceMul, Nat.reduceLeDiff]
  refine fn_call (f := 19) (fn := Try.f19) (by kernel_rfl) (by rfl) ?_
  refine (houseOf_v hd u1 M.lg 3 4 6 P (by omega) (by omega) (by omega) hP).mono ?_
  rintro _ _ ⟨h, ts, u2, rfl, rfl, m⟩
  obtain ⟨l, hli, hll, hlt⟩ := made_inside m
  have mV := m.V
  have hR := insideR_some mV hli
  have n1 := mV.n1
  have d1 := mV.d1
  have c1 := mV.c1
  clear hlt hll
  simp (maxSteps := 1000000) only [VL, VM, ↓Gd_none, ↓Gd_t, ↓Gd_f, reduceIte, reduceCtorEq, Int.reduceLE, Int.reduceLT, Int.reduceToNat, Int.reduceNeg, Nat.reduceLT, Nat.reduceEqDiff, Nat.reduceAdd, Nat.reduceSub, Nat.reduceMul, Nat.reduceLeDiff, DH_app hd, DH_len, DH_len0, DH_get hd, DH_get0 hd, DH_set hd, DH_set0 hd, DH_setd, DH_die hd]
  ((repeat refine W_seq ?_); refine W_region0 T_ok ?_)
  simp (maxSteps := 1000000) only [VL, VM, ↓Gd_none, ↓Gd_t, ↓Gd_f, reduceIte, reduceCtorEq, Int.reduceLE, Int.reduceLT, Int.reduceToNat, Int.reduceNeg, Nat.reduceLT, Nat.reduceEqDiff, Nat.reduceAdd, Nat.reduceSub, Nat.reduceMul, Nat.reduceLeDiff, DH_app hd, DH_len, DH_len0, DH_get hd, DH_get0 hd, DH_set hd, DH_set0 hd, DH_setd, DH_die hd]
  refine fn_call (f := 21) (fn := Try.f21) (by kernel_rfl) (by rfl) ?_
  refine (copyHouse_own h _ (by omega) (by omega) (by omega)).mono ?_
  rintro _ _ ⟨X, hX, rfl, rfl⟩
  simp only [DH_app hd, DH_len, DH_len0, DH_get hd, DH_get0 hd, DH_set hd, DH_set0 hd, DH_setd, DH_die hd, List.length_cons, List.length_nil, Nat.add_assoc, Nat.reduceAdd] at hX ⊢
  simp (maxSteps := 1000000) only [VL, VM, ↓Gd_none, ↓Gd_t, ↓Gd_f, reduceIte, reduceCtorEq, Int.reduceLE, Int.reduceLT, Int.reduceToNat, Int.reduceNeg, Nat.reduceLT, Nat.reduceEqDiff, Nat.reduceAdd, Nat.reduceSub, Nat.reduceMul, Nat.reduceLeDiff, DH_app hd, DH_len, DH_len0, DH_get hd, DH_get0 hd, DH_set hd, DH_set0 hd, DH_setd, DH_die hd]
  obtain ⟨Y, y1, y2⟩ := addLg_Y (H0.length + 6) [H0.length + 3, H0.length + 4, H0.length + 5] (M.lg ++ X)
  rw [y1]
  have hXY : ∃ Z, M.lg ++ X ++ Y = M.lg ++ Z ∧ ∀ e ∈ Z, M.H.length ≤ e.1 := ⟨X ++ Y, List.append_assoc _ _ _, fun e he => by
    rcases List.mem_append.1 he with he | he
    · have := hX e he
      omega
    · have := (y2 e he).1
      omega⟩
  generalize M.lg ++ X ++ Y = lg at hXY ⊢
  clear y1 y2 hX
  have hfi := narF_ok (u := u2) mV.first
  ((repeat refine W_seq ?_); refine W_region0 T_ok ?_)
  simp (maxSteps := 1000000) only [VL, VM, ↓Gd_none, ↓Gd_t, ↓Gd_f, reduceIte, reduceCtorEq, Int.reduceLE, Int.reduceLT, Int.reduceToNat, Int.reduceNeg, Nat.reduceLT, Nat.reduceEqDiff, Nat.reduceAdd, Nat.reduceSub, Nat.reduceMul, Nat.reduceLeDiff, DH_app hd, DH_len, DH_len0, DH_get hd, DH_get0 hd, DH_set hd, DH_set0 hd, DH_setd, DH_die hd]
  apply call_eq (f := 48) (fn := Try.f48) (by kernel_rfl) (by rfl)
  · exact narrow_c hd u2 h.first lg mV.first
  generalize narU u2 h.first = u3
  generalize narF u2 h.first = fx at hfi ⊢
  simp (maxSteps := 1000000) only [VL, VM, ↓Gd_none, ↓Gd_t, ↓Gd_f, reduceIte, reduceCtorEq, Int.reduceLE, Int.reduceLT, Int.reduceToNat, Int.reduceNeg, Nat.reduceLT, Nat.reduceEqDiff, Nat.reduceAdd, Nat.reduceSub, Nat.reduceMul, Nat.reduceLeDiff, DH_app hd, DH_len, DH_len0, DH_get hd, DH_get0 hd, DH_set hd, DH_set0 hd, DH_setd, DH_die hd]
  ((repeat refine W_seq ?_); refine W_region0 T_ok ?_)
  simp (maxSteps := 1000000) only [VL, VM, ↓Gd_none, ↓Gd_t, ↓Gd_f, reduceIte, reduceCtorEq, Int.reduceLE, Int.reduceLT, Int.reduceToNat, Int.reduceNeg, Nat.reduceLT, Nat.reduceEqDiff, Nat.reduceAdd, Nat.reduceSub, Nat.reduceMul, Nat.reduceLeDiff]
  ((repeat refine W_seq ?_); refine W_block ?_; (repeat refine W_seq ?_)); refine W_loopS (fun s : Nat × Int × List Co => [(3, .ptr d 0), (4, .ptr H0.length 0), (6, .ptr (H0.length + 6) 0), (7, vi s.1)]) (fun s => ⟨DH H0 d s.2.1 [.obj (houseC h), .obj (bufH h (H0.length + 3)), .obj (bufH h (H0.length + 3)), .obj (h.holds.map vi), .obj (cellsD h.doors), .obj (cellsC s.2.2), .obj (bufX h (H0.length + 3) fx)], lg⟩) (fun s => h.counts.length - s.1) (fun s => s.1 ≤ h.counts.length ∧ CsB h.counts s.2.2 ∧ ∀ j, s.1 ≤ j → s.2.2.getD j co0 = h.counts.getD j co0) (0, u3, h.counts) ⟨Nat.zero_le _, CsB.refl (fun c hc => ⟨(mV.counts c hc).i, (mV.counts c hc).o⟩), fun _ _ => rfl⟩ ⟨rfl, rfl, rfl, rfl, trivial⟩ rfl ?_
  rintro ⟨i, u, gs⟩ ⟨hi, hgs, hun⟩
  simp only at hi hgs hun
  have hgl := hgs.len
  have k1 : -9223372036854775808 ≤ (i : Int) + 1 ∧ (i : Int) + 1 < 9223372036854775808 := by omega
  ((repeat refine W_seq ?_); refine W_region0 T_ok ?_)
  rcases Nat.lt_or_ge i h.counts.length with hlt | hge
  · have k2 : ((i : Int) < (h.counts.length : Int)) = True := eq_true (by omega)
    have hx : gs = gs.take i ++ gs.getD i co0 :: gs.drop (i + 1) := by
      rw [List.getD_eq_getElem?_getD, List.getElem?_eq_getElem (show i < gs.length by omega)]
      simp
    have hx0 := hun i (Nat.le_refl _)
    have hx9 : SpOk (h.counts.getD i co0).i ∧ SpOk (h.counts.getD i co0).o := by
      rw [List.getD_eq_getElem?_getD, List.getElem?_eq_getElem hlt]
      have := mV.counts _ (List.getElem_mem hlt)
      exact ⟨this.i, this.o⟩
    have hup := fun y hy => hgs.up (i := i) (y := y) hlt hy
    have hun2 : ∀ q j, i + 1 ≤ j → (gs.set i q).getD j co0 = h.counts.getD j co0 := fun q j hj => by
      rw [List.getD_eq_getElem?_getD, List.getElem?_set_ne (by omega), ← List.getD_eq_getElem?_getD]
      exact hun j (by omega)
    have hset : ∀ y, gs.set i y = gs.take i ++ y :: gs.drop (i + 1) := fun y => by rw [List.set_eq_take_append_cons_drop, if_pos (by omega)]
    rw [← hx0] at hx9 hup
    generalize gs.getD i co0 = x at hx hx0 hup hx9
    have hA : (cellsC (gs.take i)).length = i * 6 := by rw [cellsC_len, List.length_take]; congr 1; omega
    have hxc : cellsC gs = cellsC (gs.take i) ++ vi x.tick :: vi x.door :: vi x.i.lo :: vi x.i.hi :: vi x.o.lo :: vi x.o.hi :: cellsC (gs.drop (i + 1)) := by
      conv => lhs; rw [hx]
      rw [cellsC_app, cellsC_cons]
    have hsc : ∀ p q, cellsC (gs.set i ⟨x.tick, x.door, p, q⟩) = cellsC (gs.take i) ++ vi x.tick :: vi x.door :: vi p.lo :: vi p.hi :: vi q.lo :: vi q.hi :: cellsC (gs.drop (i + 1)) := fun p q => by rw [hset, cellsC_app, cellsC_cons]
    rw [hxc]
    have hupx := fun p q hy => hup ⟨x.tick, x.door, p, q⟩ hy
    obtain ⟨b1, b2⟩ := hx9
    clear hxc hup hset
    generalize cellsC (gs.take i) = A at hA hsc ⊢
    generalize cellsC (gs.drop (i + 1)) = B at hsc ⊢
    have t2 : ∀ l : List VV, (A ++ l).take (i * 6 + 2) = A ++ l.take 2 := fun l => by rw [← hA, List.take_append, List.take_of_length_le (by omega)]; simp
    have t4 : ∀ l : List VV, (A ++ l).take (i * 6 + 4) = A ++ l.take 4 := fun l => by rw [← hA, List.take_append, List.take_of_length_le (by omega)]; simp
    have d2 : ∀ l : List VV, (A ++ l).drop (i * 6 + 2) = l.drop 2 := fun l => by rw [← hA, List.drop_append]; simp
    have d4 : ∀ l : List VV, (A ++ l).drop (i * 6 + 4) = l.drop 4 := fun l => by rw [← hA, List.drop_append]; simp
    have d6 : ∀ l : List VV, (A ++ l).drop (i * 6 + 6) = l.drop 6 := fun l => by rw [← hA, List.drop_append]; simp
    have e4 : ∀ b : Nat, (i * 6 + 4 ≤ i * 6 + (b + 6)) = True := fun b => eq_true (by omega)
    have e6 : ∀ b : Nat, (i * 6 + 6 ≤ i * 6 + (b + 6)) = True := fun b => eq_true (by omega)
    have hi1 := narF_ok (u := u) b1
    have hi2 := narF_ok (u := narU u x.i) b2
    simp (maxSteps := 1000000) only [VL, VM, ↓Gd_none, ↓Gd_t, ↓Gd_f, reduceIte, reduceCtorEq, Int.reduceLE, Int.reduceLT, Int.reduceToNat, Int.reduceNeg, Nat.reduceLT, Nat.reduceEqDiff, Nat.reduceAdd, Nat.reduceSub, Nat.reduceMul, Nat.reduceLeDiff, k2, DH_app hd, DH_len, DH_len0, DH_get hd, DH_get0 hd, DH_set hd, DH_set0 hd, DH_setd, DH_die hd]
    ((repeat refine W_seq ?_); refine W_cond (b := true) (by first | rfl | simp only [ev, get_cons, Nat.reduceEqDiff, if_true, if_false, reduceIte]) (fun _ => ?_) (fun h => by cases h))
    ((repeat refine W_seq ?_); refine W_skip ?_)
    simp (maxSteps := 1000000) only [VL, VM, ↓Gd_none, ↓Gd_t, ↓Gd_f, reduceIte, reduceCtorEq, Int.reduceLE, Int.reduceLT, Int.reduceToNat, Int.reduceNeg, Nat.reduceLT, Nat.reduceEqDiff, Nat.reduceAdd, Nat.reduceSub, Nat.reduceMul, Nat.reduceLeDiff]
    ((repeat refine W_seq ?_); refine W_block ?_)
    (repeat refine W_seq ?_)
    refine W_drawP T_ok [] (by kernel_rfl) (by kernel_rfl) ?_
    generalize hi : mkPlan _ = infs
    cbv at hi
    subst hi
    simp (maxSteps := 1000000) only [VL, VM, ↓Gd_none, ↓Gd_t, ↓Gd_f, reduceIte, reduceCtorEq, Int.reduceLE, Int.reduceLT, Int.reduceToNat, Int.reduceNeg, Nat.reduceLT, Nat.reduceEqDiff, Nat.reduceAdd, Nat.reduceSub, Nat.reduceMul, Nat.reduceLeDiff, DH_app hd, DH_len, DH_len0, DH_get hd, DH_get0 hd, DH_set hd, DH_set0 hd, DH_setd, DH_die hd, eq_true hlt, hA, t2, t4, d2, d4, d6, e4, e6]
    apply call_d (f := 48) (fn := Try.f48) (by kernel_rfl) (by rfl)
    · exact narrow_c hd u x.i _ b1
    generalize narF u x.i = p at hi1 ⊢
    generalize narU u x.i = v1 at hi2 ⊢
    simp (maxSteps := 1000000) only [VL, VM, ↓Gd_none, ↓Gd_t, ↓Gd_f, reduceIte, reduceCtorEq, Int.reduceLE, Int.reduceLT, Int.reduceToNat, Int.reduceNeg, Nat.reduceLT, Nat.reduceEqDiff, Nat.reduceAdd, Nat.reduceSub, Nat.reduceMul, Nat.reduceLeDiff, DH_app hd, DH_len, DH_len0, DH_get hd, DH_get0 hd, DH_set hd, DH_set0 hd, DH_setd, DH_die hd, eq_true hlt, hA, t2, t4, d2, d4, d6, e4, e6]
    apply call_d (f := 48) (fn := Try.f48) (by kernel_rfl) (by rfl)
    · exact narrow_c hd v1 x.o _ b2
    generalize narF v1 x.o = q at hi2 ⊢
    generalize narU v1 x.o = v2
    simp (maxSteps := 1000000) only [VL, VM, ↓Gd_none, ↓Gd_t, ↓Gd_f, reduceIte, reduceCtorEq, Int.reduceLE, Int.reduceLT, Int.reduceToNat, Int.reduceNeg, Nat.reduceLT, Nat.reduceEqDiff, Nat.reduceAdd, Nat.reduceSub, Nat.reduceMul, Nat.reduceLeDiff, DH_app hd, DH_len, DH_len0, DH_get hd, DH_get0 hd, DH_set hd, DH_set0 hd, DH_setd, DH_die hd, eq_true hlt, hA, t2, t4, d2, d4, d6, e4, e6]
    ((repeat refine W_seq ?_); refine W_region0 T_ok ?_)
    simp (maxSteps := 1000000) only [VL, VM, ↓Gd_none, ↓Gd_t, ↓Gd_f, reduceIte, reduceCtorEq, Int.reduceLE, Int.reduceLT, Int.reduceToNat, Int.reduceNeg, Nat.reduceLT, Nat.reduceEqDiff, Nat.reduceAdd, Nat.reduceSub, Nat.reduceMul, Nat.reduceLeDiff, k1]
    refine LoopK.mk (i + 1, v2, gs.set i ⟨x.tick, x.door, p, q⟩) (by simp only; omega) ⟨by simp only; omega, hupx p q ⟨rfl, rfl, hi1, hi2⟩, hun2 _⟩ ⟨rfl, rfl, rfl, rfl, trivial⟩ ?_
    simp only
    rw [hsc]
  have k2 : ((i : Int) < (h.counts.length : Int)) = False := eq_false (by omega)
  simp (maxSteps := 1000000) only [VL, VM, ↓Gd_none, ↓Gd_t, ↓Gd_f, reduceIte, reduceCtorEq, Int.reduceLE, Int.reduceLT, Int.reduceToNat, Int.reduceNeg, Nat.reduceLT, Nat.reduceEqDiff, Nat.reduceAdd, Nat.reduceSub, Nat.reduceMul, Nat.reduceLeDiff, k2, DH_app hd, DH_len, DH_len0, DH_get hd, DH_get0 hd, DH_set hd, DH_set0 hd, DH_setd, DH_die hd]
  ((repeat refine W_seq ?_); refine W_cond (b := false) (by first | rfl | simp only [ev, get_cons, Nat.reduceEqDiff, if_true, if_false, reduceIte]) (fun h => by cases h) (fun _ => ?_))
  clear hun hge k2 k1 hi
  refine W_frz1 (id := H0.length + 5) (n := h.counts.length) (k := 6) (o := H0.length + 6) (j := 5) (xs := gs.map coP) (by rw [DH_get hd]; rfl) (by rw [DH_get hd]; rfl) rfl (by simp) (by rw [List.length_map]; exact hgl) (by omega) ?_
  simp only [DH_set hd, List.set_cons_zero, List.set_cons_succ]
  refine W_frz1 (id := H0.length + 4) (n := h.doors.length) (k := 3) (o := H0.length + 6) (j := 1) (xs := h.doors.map doP) (by rw [DH_get hd]; rfl) (by rw [DH_get hd]; rfl) rfl (by simp) (by rw [List.length_map]) (by omega) ?_
  simp only [DH_set hd, List.set_cons_zero, List.set_cons_succ]
  refine W_frz1 (id := H0.length + 3) (n := h.holds.length) (k := 1) (o := H0.length + 6) (j := 0) (xs := h.holds.map intP) (by rw [DH_get hd, flat_ints]; rfl) (by rw [DH_get hd]; rfl) rfl (by simp) (by rw [List.length_map]) (by omega) ?_
  simp only [DH_set hd, List.set_cons_zero, List.set_cons_succ]
  obtain ⟨x, hx⟩ : ∃ x : Ho, x = ⟨h.holds, h.doors, fx, h.ticks, gs⟩ := ⟨_, rfl⟩
  have hxc : [VV.p (PV.sl 1 (List.map intP h.holds)), VV.p (PV.sl 3 (List.map doP h.doors)), vi fx.lo, vi fx.hi, vi h.ticks, VV.p (PV.sl 6 (List.map coP gs))] = houseC x := by rw [hx]
  rw [hxc]
  have hB : HNar h x := by rw [hx]; exact ⟨rfl, rfl, rfl, hfi, hgs⟩
  have Vx := hB.V mV
  have w1 := Vx.n1
  have w2 := Vx.d1
  have w3 := Vx.c1
  clear hx hxc
  ((repeat refine W_seq ?_); refine W_exit ?_)
  simp (maxSteps := 1000000) only [VL, VM, ↓Gd_none, ↓Gd_t, ↓Gd_f, reduceIte, reduceCtorEq, Int.reduceLE, Int.reduceLT, Int.reduceToNat, Int.reduceNeg, Nat.reduceLT, Nat.reduceEqDiff, Nat.reduceAdd, Nat.reduceSub, Nat.reduceMul, Nat.reduceLeDiff]
  ((repeat refine W_seq ?_); refine W_region0 T_ok ?_)
  simp (maxSteps := 1000000) only [VL, VM, ↓Gd_none, ↓Gd_t, ↓Gd_f, reduceIte, reduceCtorEq, Int.reduceLE, Int.reduceLT, Int.reduceToNat, Int.reduceNeg, Nat.reduceLT, Nat.reduceEqDiff, Nat.reduceAdd, Nat.reduceSub, Nat.reduceMul, Nat.reduceLeDiff, DH_app hd, DH_len, DH_len0, DH_get hd, DH_get0 hd, DH_set hd, DH_set0 hd, DH_setd, DH_die hd]
  apply call_eq (f := 22) (fn := Try.f22) (by kernel_rfl) (by rfl)
  · exact Inside_v h _ (by omega) (by omega) (by omega)
  rw [hR]
  simp (maxSteps := 1000000) only [VL, VM, ↓Gd_none, ↓Gd_t, ↓Gd_f, reduceIte, reduceCtorEq, Int.reduceLE, Int.reduceLT, Int.reduceToNat, Int.reduceNeg, Nat.reduceLT, Nat.reduceEqDiff, Nat.reduceAdd, Nat.reduceSub, Nat.reduceMul, Nat.reduceLeDiff, DH_app hd, DH_len, DH_len0, DH_get hd, DH_get0 hd, DH_set hd, DH_set0 hd, DH_setd, DH_die hd]
  ((repeat refine W_seq ?_); refine W_region0 T_ok ?_)
  simp (maxSteps := 1000000) only [VL, VM, ↓Gd_none, ↓Gd_t, ↓Gd_f, reduceIte, reduceCtorEq, Int.reduceLE, Int.reduceLT, Int.reduceToNat, Int.reduceNeg, Nat.reduceLT, Nat.reduceEqDiff, Nat.reduceAdd, Nat.reduceSub, Nat.reduceMul, Nat.reduceLeDiff, DH_app hd, DH_len, DH_len0, DH_get hd, DH_get0 hd, DH_set hd, DH_set0 hd, DH_setd, DH_die hd]
  apply call_eq (f := 22) (fn := Try.f22) (by kernel_rfl) (by rfl)
  · exact Inside_v x _ (by omega) (by omega) (by omega)
  obtain ⟨Z, rfl, hZ⟩ := hXY
  cases hix : insideH x with
  | none =>
    have hRx : insideR x = .tup [.p (.sl 0 []), vi 9] := by unfold insideR; rw [if_pos (houseErr_ok.2 Vx), hix]
    rw [hRx]
    simp (maxSteps := 1000000) only [VL, VM, ↓Gd_none, ↓Gd_t, ↓Gd_f, reduceIte, reduceCtorEq, Int.reduceLE, Int.reduceLT, Int.reduceToNat, Int.reduceNeg, Nat.reduceLT, Nat.reduceEqDiff, Nat.reduceAdd, Nat.reduceSub, Nat.reduceMul, Nat.reduceLeDiff, DH_app hd, DH_len, DH_len0, DH_get hd, DH_get0 hd, DH_set hd, DH_set0 hd, DH_setd, DH_die hd]
    ((repeat refine W_seq ?_); refine W_region0 T_ok ?_)
    simp (maxSteps := 1000000) only [VL, VM, ↓Gd_none, ↓Gd_t, ↓Gd_f, reduceIte, reduceCtorEq, Int.reduceLE, Int.reduceLT, Int.reduceToNat, Int.reduceNeg, Nat.reduceLT, Nat.reduceEqDiff, Nat.reduceAdd, Nat.reduceSub, Nat.reduceMul, Nat.reduceLeDiff]
    ((repeat refine W_seq ?_); refine W_cond (b := true) (by first | rfl | simp only [ev, get_cons, Nat.reduceEqDiff, if_true, if_false, reduceIte]) (fun _ => ?_) (fun h => by cases h))
    ((repeat refine W_seq ?_); refine W_region0 T_ok ?_)
    simp (maxSteps := 1000000) only [VL, VM, ↓Gd_none, ↓Gd_t, ↓Gd_f, reduceIte, reduceCtorEq, Int.reduceLE, Int.reduceLT, Int.reduceToNat, Int.reduceNeg, Nat.reduceLT, Nat.reduceEqDiff, Nat.reduceAdd, Nat.reduceSub, Nat.reduceMul, Nat.reduceLeDiff]
    apply call_eq (f := 18) (fn := Try.f18) (by kernel_rfl) (by rfl)
    · exact awake_v _
    simp (maxSteps := 1000000) only [VL, VM, ↓Gd_none, ↓Gd_t, ↓Gd_f, reduceIte, reduceCtorEq, Int.reduceLE, Int.reduceLT, Int.reduceToNat, Int.reduceNeg, Nat.reduceLT, Nat.reduceEqDiff, Nat.reduceAdd, Nat.reduceSub, Nat.reduceMul, Nat.reduceLeDiff, DH_app hd, DH_len, DH_len0, DH_get hd, DH_get0 hd, DH_set hd, DH_set0 hd, DH_setd, DH_die hd]
    rw [tail]
    (repeat refine W_seq ?_)
    refine W_ret ?_
    try simp only [thenQ, blockQ]
    exact ⟨.inr rfl, rfl, ⟨Z, rfl, hZ⟩, M.H, _, rfl, rfl, [vb true], rfl, vb true, rfl, by simp [refs], rfl, rfl⟩
  | some b =>
    obtain ⟨hbl, hbw⟩ := hB.inside hli hix
    rw [insideR_some Vx hix]
    have hl13 : l.length ≤ 1000000 := by
      have := m.len
      have := mV.t1
      have h9 := insideH_len hli
      omega
    have k0 : ((l.length : Int) = (b.length : Int)) = True := eq_true (by omega)
    simp (maxSteps := 1000000) only [VL, VM, ↓Gd_none, ↓Gd_t, ↓Gd_f, reduceIte, reduceCtorEq, Int.reduceLE, Int.reduceLT, Int.reduceToNat, Int.reduceNeg, Nat.reduceLT, Nat.reduceEqDiff, Nat.reduceAdd, Nat.reduceSub, Nat.reduceMul, Nat.reduceLeDiff, DH_app hd, DH_len, DH_len0, DH_get hd, DH_get0 hd, DH_set hd, DH_set0 hd, DH_setd, DH_die hd]
    ((repeat refine W_seq ?_); refine W_region0 T_ok ?_)
    simp (maxSteps := 1000000) only [VL, VM, ↓Gd_none, ↓Gd_t, ↓Gd_f, reduceIte, reduceCtorEq, Int.reduceLE, Int.reduceLT, Int.reduceToNat, Int.reduceNeg, Nat.reduceLT, Nat.reduceEqDiff, Nat.reduceAdd, Nat.reduceSub, Nat.reduceMul, Nat.reduceLeDiff]
    ((repeat refine W_seq ?_); refine W_cond (b := false) (by first | rfl | simp only [ev, get_cons, Nat.reduceEqDiff, if_true, if_false, reduceIte]) (fun h => by cases h) (fun _ => ?_))
    ((repeat refine W_seq ?_); refine W_skip ?_)
    simp (maxSteps := 1000000) only [VL, VM, ↓Gd_none, ↓Gd_t, ↓Gd_f, reduceIte, reduceCtorEq, Int.reduceLE, Int.reduceLT, Int.reduceToNat, Int.reduceNeg, Nat.reduceLT, Nat.reduceEqDiff, Nat.reduceAdd, Nat.reduceSub, Nat.reduceMul, Nat.reduceLeDiff]
    ((repeat refine W_seq ?_); refine W_region0 T_ok ?_)
    simp (maxSteps := 1000000) only [VL, VM, ↓Gd_none, ↓Gd_t, ↓Gd_f, reduceIte, reduceCtorEq, Int.reduceLE, Int.reduceLT, Int.reduceToNat, Int.reduceNeg, Nat.reduceLT, Nat.reduceEqDiff, Nat.reduceAdd, Nat.reduceSub, Nat.reduceMul, Nat.reduceLeDiff, k0]
    ((repeat refine W_seq ?_); refine W_cond (b := false) (by first | rfl | simp only [ev, get_cons, Nat.reduceEqDiff, if_true, if_false, reduceIte]) (fun h => by cases h) (fun _ => ?_))
    ((repeat refine W_seq ?_); refine W_skip ?_)
    simp (maxSteps := 1000000) only [VL, VM, ↓Gd_none, ↓Gd_t, ↓Gd_f, reduceIte, reduceCtorEq, Int.reduceLE, Int.reduceLT, Int.reduceToNat, Int.reduceNeg, Nat.reduceLT, Nat.reduceEqDiff, Nat.reduceAdd, Nat.reduceSub, Nat.reduceMul, Nat.reduceLeDiff]
    ((repeat refine W_seq ?_); refine W_region0 T_ok ?_)
    simp (maxSteps := 1000000) only [VL, VM, ↓Gd_none, ↓Gd_t, ↓Gd_f, reduceIte, reduceCtorEq, Int.reduceLE, Int.reduceLT, Int.reduceToNat, Int.reduceNeg, Nat.reduceLT, Nat.reduceEqDiff, Nat.reduceAdd, Nat.reduceSub, Nat.reduceMul, Nat.reduceLeDiff]
    ((repeat refine W_seq ?_); refine W_block ?_; (repeat refine W_seq ?_)); refine W_loopS (fun i : Nat => [(8, spsV l), (10, spsV b), (12, vi i)]) (fun _ => ⟨DH H0 d u [.obj (houseC h), .obj (bufH h (H0.length + 3)), .obj (bufH h (H0.length + 3)), .dead, .dead, .dead, .obj (houseC x)], M.lg ++ Z⟩) (fun i => l.length - i) (fun i => i ≤ l.length) 0 (Nat.zero_le _) ⟨rfl, rfl, rfl, trivial⟩ rfl ?_
    intro i hi
    have k1 : -9223372036854775808 ≤ (i : Int) + 1 ∧ (i : Int) + 1 < 9223372036854775808 := by omega
    ((repeat refine W_seq ?_); refine W_region0 T_ok ?_)
    rcases Nat.lt_or_ge i l.length with hlt2 | hge
    · have k2 : ((i : Int) < (l.length : Int)) = True := eq_true (by omega)
      have hx : l[i]? = some l[i] := List.getElem?_eq_getElem hlt2
      have hy : b[i]? = some (b[i]'(by omega)) := List.getElem?_eq_getElem (by omega)
      have hw := hbw i _ _ hx hy
      generalize l[i] = y at hx hw
      generalize b[i] = z at hy hw
      have hx' := map_at (f := spP) hx
      have hy' := map_at (f := spP) hy
      have q1 : (y.lo ≤ z.lo) = True := eq_true hw.1
      have q2 : (z.hi ≤ y.hi) = True := eq_true hw.2
      simp (maxSteps := 1000000) only [VL, VM, ↓Gd_none, ↓Gd_t, ↓Gd_f, reduceIte, reduceCtorEq, Int.reduceLE, Int.reduceLT, Int.reduceToNat, Int.reduceNeg, Nat.reduceLT, Nat.reduceEqDiff, Nat.reduceAdd, Nat.reduceSub, Nat.reduceMul, Nat.reduceLeDiff, k2]
      ((repeat refine W_seq ?_); refine W_cond (b := true) (by first | rfl | simp only [ev, get_cons, Nat.reduceEqDiff, if_true, if_false, reduceIte]) (fun _ => ?_) (fun h => by cases h))
      ((repeat refine W_seq ?_); refine W_skip ?_)
      simp (maxSteps := 1000000) only [VL, VM, ↓Gd_none, ↓Gd_t, ↓Gd_f, reduceIte, reduceCtorEq, Int.reduceLE, Int.reduceLT, Int.reduceToNat, Int.reduceNeg, Nat.reduceLT, Nat.reduceEqDiff, Nat.reduceAdd, Nat.reduceSub, Nat.reduceMul, Nat.reduceLeDiff]
      ((repeat refine W_seq ?_); refine W_block ?_)
      (repeat refine W_seq ?_)
      refine W_drawP T_ok [] (by kernel_rfl) (by kernel_rfl) ?_
      generalize hi : mkPlan _ = infs
      cbv at hi
      subst hi
      simp (maxSteps := 1000000) only [VL, VM, ↓Gd_none, ↓Gd_t, ↓Gd_f, reduceIte, reduceCtorEq, Int.reduceLE, Int.reduceLT, Int.reduceToNat, Int.reduceNeg, Nat.reduceLT, Nat.reduceEqDiff, Nat.reduceAdd, Nat.reduceSub, Nat.reduceMul, Nat.reduceLeDiff, hx', hy']
      apply call_d (f := 49) (fn := Try.f49) (by kernel_rfl) (by rfl)
      · exact within_v z y _
      simp (maxSteps := 1000000) only [VL, VM, ↓Gd_none, ↓Gd_t, ↓Gd_f, reduceIte, reduceCtorEq, Int.reduceLE, Int.reduceLT, Int.reduceToNat, Int.reduceNeg, Nat.reduceLT, Nat.reduceEqDiff, Nat.reduceAdd, Nat.reduceSub, Nat.reduceMul, Nat.reduceLeDiff, hx', hy', q1, q2]
      ((repeat refine W_seq ?_); refine W_cond (b := false) (by first | rfl | simp only [ev, get_cons, Nat.reduceEqDiff, if_true, if_false, reduceIte]) (fun h => by cases h) (fun _ => ?_))
      ((repeat refine W_seq ?_); refine W_skip ?_)
      simp (maxSteps := 1000000) only [VL, VM, ↓Gd_none, ↓Gd_t, ↓Gd_f, reduceIte, reduceCtorEq, Int.reduceLE, Int.reduceLT, Int.reduceToNat, Int.reduceNeg, Nat.reduceLT, Nat.reduceEqDiff, Nat.reduceAdd, Nat.reduceSub, Nat.reduceMul, Nat.reduceLeDiff]
      ((repeat refine W_seq ?_); refine W_region0 T_ok ?_)
      simp (maxSteps := 1000000) only [VL, VM, ↓Gd_none, ↓Gd_t, ↓Gd_f, reduceIte, reduceCtorEq, Int.reduceLE, Int.reduceLT, Int.reduceToNat, Int.reduceNeg, Nat.reduceLT, Nat.reduceEqDiff, Nat.reduceAdd, Nat.reduceSub, Nat.reduceMul, Nat.reduceLeDiff, k1]
      refine LoopK.mk (i + 1) (by omega) (by omega) ⟨rfl, rfl, rfl, trivial⟩ rfl
    have k2 : ((i : Int) < (l.length : Int)) = False := eq_false (by omega)
    simp (maxSteps := 1000000) only [VL, VM, ↓Gd_none, ↓Gd_t, ↓Gd_f, reduceIte, reduceCtorEq, Int.reduceLE, Int.reduceLT, Int.reduceToNat, Int.reduceNeg, Nat.reduceLT, Nat.reduceEqDiff, Nat.reduceAdd, Nat.reduceSub, Nat.reduceMul, Nat.reduceLeDiff, k2]
    ((repeat refine W_seq ?_); refine W_cond (b := false) (by first | rfl | simp only [ev, get_cons, Nat.reduceEqDiff, if_true, if_false, reduceIte]) (fun h => by cases h) (fun _ => ?_))
    ((repeat refine W_seq ?_); refine W_exit ?_)
    simp (maxSteps := 1000000) only [VL, VM, ↓Gd_none, ↓Gd_t, ↓Gd_f, reduceIte, reduceCtorEq, Int.reduceLE, Int.reduceLT, Int.reduceToNat, Int.reduceNeg, Nat.reduceLT, Nat.reduceEqDiff, Nat.reduceAdd, Nat.reduceSub, Nat.reduceMul, Nat.reduceLeDiff]
    ((repeat refine W_seq ?_); refine W_region0 T_ok ?_)
    simp (maxSteps := 1000000) only [VL, VM, ↓Gd_none, ↓Gd_t, ↓Gd_f, reduceIte, reduceCtorEq, Int.reduceLE, Int.reduceLT, Int.reduceToNat, Int.reduceNeg, Nat.reduceLT, Nat.reduceEqDiff, Nat.reduceAdd, Nat.reduceSub, Nat.reduceMul, Nat.reduceLeDiff]
    apply call_eq (f := 18) (fn := Try.f18) (by kernel_rfl) (by rfl)
    · exact awake_v _
    simp (maxSteps := 1000000) only [VL, VM, ↓Gd_none, ↓Gd_t, ↓Gd_f, reduceIte, reduceCtorEq, Int.reduceLE, Int.reduceLT, Int.reduceToNat, Int.reduceNeg, Nat.reduceLT, Nat.reduceEqDiff, Nat.reduceAdd, Nat.reduceSub, Nat.reduceMul, Nat.reduceLeDiff, DH_app hd, DH_len, DH_len0, DH_get hd, DH_get0 hd, DH_set hd, DH_set0 hd, DH_setd, DH_die hd]
    rw [tail]
    (repeat refine W_seq ?_)
    refine W_ret ?_
    try simp only [thenQ, blockQ]
    exact ⟨.inr rfl, rfl, ⟨Z, rfl, hZ⟩, M.H, _, rfl, rfl, [vb true], rfl, vb true, rfl, by simp [refs], rfl, rfl⟩
end Go.Proofs.Ytmagiabapakhcaa.Vm
