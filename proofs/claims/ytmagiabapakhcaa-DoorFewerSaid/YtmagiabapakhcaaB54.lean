/- A part of the proofs about the chapter of the doors; it states no condition of its own. -/
import Derived.Test.YtmagiabapakhcaaB05
import Derived.Test.YtmagiabapakhcaaB31
import Derived.Test.YtmagiabapakhcaaB35
import Derived.Test.YtmagiabapakhcaaB41
import Derived.Test.YtmagiabapakhcaaB42
import Derived.Test.YtmagiabapakhcaaB43
import Derived.Test.YtmagiabapakhcaaB47
import Derived.Test.YtmagiabapakhcaaB49
import Derived.Test.YtmagiabapakhcaaB51
import Derived.Test.YtmagiabapakhcaaB53
set_option linter.unusedVariables false
set_option linter.unusedSimpArgs false
/- Flows: as much as can flow always is there, and grows with what the ways take. -/
namespace Go.Proofs.Ytmagiabapakhcaa
/-- so many steps to the place 1 -/
def Dst (N : Nat) (R : List (List Int)) : Nat → Nat → Prop
  | 0, a => a = 1
  | n + 1, a => ∃ t, t < N ∧ 0 < at2 R a t ∧ Dst N R n t
theorem aug_of {N : Nat} {R : List (List Int)} (hs : Sq N R) (hN : 2 ≤ N) (hnn : ∀ i j, i < N → j < N → 0 ≤ at2 R i j) : ∀ (n a : Nat), a < N → Dst N R n a → (∀ m, m < n → ¬ Dst N R m a) →
    ∃ R', Aug N R R' a 1 ∧ ∀ x y, at2 R' x y ≠ at2 R x y → (∃ m, m ≤ n ∧ Dst N R m x) ∧ ∃ m, m ≤ n ∧ Dst N R m y
  | 0, a, ha, hd, _ => by
    obtain rfl : a = 1 := hd
    exact ⟨R, ⟨hs, hnn, fun _ _ _ _ => rfl, fun i _ h1 => by rw [if_neg h1]; omega⟩, fun x y h => absurd rfl h⟩
  | n + 1, a, ha, hd, hm => by
    obtain ⟨t, ht, hp, hdt⟩ := hd
    have ha1 : a ≠ 1 := fun e => hm 0 (by omega) e
    have hmt : ∀ m, m < n → ¬ Dst N R m t := fun m hmn hh => hm (m + 1) (by omega) ⟨t, ht, hp, hh⟩
    obtain ⟨R1, h1, h2⟩ := aug_of hs hN hnn n t ht hdt hmt
    have hna : ∀ m, m ≤ n → ¬ Dst N R m a := fun m hmn => hm m (by omega)
    have row : ∀ j, at2 R1 a j = at2 R a j := fun j => by
      rcases Classical.em (at2 R1 a j = at2 R a j) with e | e
      · exact e
      · obtain ⟨m, hmn, hh⟩ := (h2 a j e).1
        exact absurd hh (hna m hmn)
    have hne : a ≠ t := fun e => hna n (Nat.le_refl _) (by rw [e]; exact hdt)
    refine ⟨_, Aug.step hs ha ht hne h1 (by omega) (by omega) (row t) (sumTo_congr fun j _ => row j) ha1, fun x y h => ?_⟩
    have hda : Dst N R (n + 1) a := ⟨t, ht, hp, hdt⟩
    rw [at2_upd (h1.sq.upd ha t _) ht ha, at2_upd h1.sq ha ht] at h
    split at h
    · rename_i e
      rw [← e.1, ← e.2]
      exact ⟨⟨n, by omega, hdt⟩, n + 1, Nat.le_refl _, hda⟩
    · split at h
      · rename_i e
        rw [← e.1, ← e.2]
        exact ⟨⟨n + 1, Nat.le_refl _, hda⟩, n, by omega, hdt⟩
      · obtain ⟨⟨m, a1, a2⟩, m', b1, b2⟩ := h2 x y h
        exact ⟨⟨m, by omega, a2⟩, m', by omega, b2⟩
theorem least_of {p : Nat → Prop} : ∀ n, p n → ∃ m, p m ∧ ∀ k, k < m → ¬ p k := by
  intro n
  induction n using Nat.strongRecOn with
  | ind n ih =>
    intro h
    rcases Classical.em (∃ k, k < n ∧ p k) with ⟨k, hk, hp⟩ | hno
    · exact ih k hk hp
    · exact ⟨n, h, fun k hk hp => hno ⟨k, hk, hp⟩⟩
/-- either it is as much as can flow, or one more can -/
theorem res_more {N : Nat} {C R : List (List Int)} {v : Int} (hN : 2 ≤ N) (hs : Sq N R) (h : Res N C R v) : MF N C v ∨ ∃ R', Sq N R' ∧ Res N C R' (v + 1) := by
  rcases Classical.em (∃ n, Dst N R n 0) with ⟨n, hn⟩ | hno
  · obtain ⟨m, hm, hl⟩ := least_of (p := fun n => Dst N R n 0) n hn
    obtain ⟨R', h1, _⟩ := aug_of hs hN h.nn m 0 (by omega) hm hl
    exact .inr ⟨R', h1.sq, Aug.res h hN h1⟩
  · refine .inl ?_
    classical
    refine Res.max h hN (S := fun i => decide (¬ ∃ n, Dst N R n i)) (decide_eq_true hno) (decide_eq_false fun q => q ⟨0, rfl⟩) fun i j hi hj h1 h2 => ?_
    have q1 : ¬ ∃ n, Dst N R n i := of_decide_eq_true h1
    have q2 : ¬ ¬ ∃ n, Dst N R n j := of_decide_eq_false h2
    obtain ⟨n, hn⟩ := Classical.not_not.1 q2
    rcases Int.lt_or_le 0 (at2 R i j) with q | q
    · exact absurd ⟨n + 1, j, hj, q, hn⟩ q1
    · exact q
theorem MF.exists {N : Nat} {C : List (List Int)} (hN : 2 ≤ N) (hs : Sq N C) (h0 : ∀ i j, i < N → j < N → 0 ≤ at2 C i j) : ∃ v, MF N C v := by
  have key : ∀ (k : Nat) (R : List (List Int)) (v : Int), Sq N R → Res N C R v → (cutOf N C (fun i => decide (i ≠ 1)) - v).toNat = k → ∃ v, MF N C v := by
    intro k
    induction k using Nat.strongRecOn with
    | ind k ih =>
      intro R v hR h hk
      rcases res_more hN hR h with q | ⟨R', hR', h'⟩
      · exact ⟨v, q⟩
      · have hle := h'.le_cut hN (S := fun i => decide (i ≠ 1)) (by simp) (by simp)
        exact ih _ (by omega) R' (v + 1) hR' h' rfl
  exact key _ C 0 hs (Res.start h0) rfl
theorem mfv_MF {N : Nat} {C : List (List Int)} (hN : 2 ≤ N) (hs : Sq N C) (h0 : ∀ i j, i < N → j < N → 0 ≤ at2 C i j) : MF N C (mfv N C) := by
  obtain ⟨v, hv⟩ := MF.exists hN hs h0
  rw [mfv_eq hN hv]
  exact hv
theorem cut_mono {N : Nat} {C C' : List (List Int)} (h : ∀ i j, i < N → j < N → at2 C i j ≤ at2 C' i j) (S : Nat → Bool) : cutOf N C S ≤ cutOf N C' S := by
  unfold cutOf
  refine sumTo_le fun i hi => sumTo_le fun j hj => ?_
  have := h i j hi hj
  split <;> omega
theorem MF.le_cut {N : Nat} {C : List (List Int)} {v : Int} (h : MF N C v) (hN : 2 ≤ N) {S : Nat → Bool} (h0 : S 0 = true) (h1 : S 1 = false) : v ≤ cutOf N C S := by
  obtain ⟨⟨R, hR⟩, _⟩ := h
  exact hR.le_cut hN h0 h1
theorem MF.mono {N : Nat} {C C' : List (List Int)} {v v' : Int} (hN : 2 ≤ N) (h : MF N C v) (h' : MF N C' v') (hle : ∀ i j, i < N → j < N → at2 C i j ≤ at2 C' i j) : v ≤ v' := by
  obtain ⟨_, S, s0, s1, hS⟩ := h'
  have := h.le_cut hN s0 s1
  have := cut_mono hle S
  omega
end Go.Proofs.Ytmagiabapakhcaa

/- Kitchens in which gifts keep longer and meals take more, plain. -/
namespace Go.Proofs.Ytmagiabapakhcaa
structure MBet (l m : List Int) : Prop where
  len : m.length = l.length
  ge : ∀ j, l.getD j 0 ≤ m.getD j 0 ∧ m.getD j 0 ≤ l.getD j 0 + 20
theorem MBet.refl (l : List Int) : MBet l l := ⟨rfl, fun j => ⟨Int.le_refl _, by omega⟩⟩
theorem getD_set' {α : Type} {m : List α} {i : Nat} {x z : α} (hi : i < m.length) (j : Nat) : (m.set i x).getD j z = if i = j then x else m.getD j z := by
  rw [List.getD_eq_getElem?_getD, List.getElem?_set]
  by_cases h : i = j
  · subst h
    rw [if_pos rfl, if_pos rfl, if_pos hi]; rfl
  · rw [if_neg h, if_neg h, ← List.getD_eq_getElem?_getD]
theorem MBet.up {l m : List Int} (h : MBet l m) {i : Nat} {q : Int} (e : m.getD i 0 = l.getD i 0) (hi : i < m.length) (hq : 0 ≤ q ∧ q ≤ 20) : MBet l (m.set i (m.getD i 0 + q)) := by
  refine ⟨by rw [List.length_set]; exact h.len, fun j => ?_⟩
  rw [getD_set' hi]
  by_cases hj : i = j
  · subst hj
    rw [if_pos rfl]; omega
  · rw [if_neg hj]; exact h.ge j
/-- a gift that keeps longer -/
structure GBet (n : Nat) (x y : Gi) : Prop where
  f0 : 0 ≤ y.from_
  ff : y.from_ ≤ x.from_
  kk : x.keeps ≤ y.keeps
  kn : y.keeps < n
  p : y.portions = x.portions
theorem GBet.refl {n : Nat} {x : Gi} (h : GiV n x) : GBet n x x := ⟨h.f0, Int.le_refl _, Int.le_refl _, h.k1, rfl⟩
theorem GBet.V {n : Nat} {x y : Gi} (b : GBet n x y) (h : GiV n x) : GiV n y := ⟨b.f0, by have := b.ff; have := b.kk; have := h.fk; omega, b.kn, by rw [b.p]; exact h.p0, by rw [b.p]; exact h.p1⟩
structure GsBet (n : Nat) (l m : List Gi) : Prop where
  len : m.length = l.length
  bet : ∀ j, j < l.length → GBet n (l.getD j ⟨0, 0, 0⟩) (m.getD j ⟨0, 0, 0⟩)
theorem GsBet.refl {n : Nat} {l : List Gi} (h : ∀ x ∈ l, GiV n x) : GsBet n l l := ⟨rfl, fun j hj => by
  rw [List.getD_eq_getElem?_getD, List.getElem?_eq_getElem hj]
  exact GBet.refl (h _ (List.getElem_mem hj))⟩
theorem GsBet.up {n : Nat} {l m : List Gi} (h : GsBet n l m) {i : Nat} {y : Gi} (hi : i < l.length) (hy : GBet n (l.getD i ⟨0, 0, 0⟩) y) : GsBet n l (m.set i y) := by
  refine ⟨by rw [List.length_set]; exact h.len, fun j hj => ?_⟩
  rw [getD_set' (by rw [h.len]; exact hi)]
  by_cases e : i = j
  · subst e
    rw [if_pos rfl]; exact hy
  · rw [if_neg e]; exact h.bet j hj
structure KBet (k x : Kn) : Prop where
  m : MBet k.meals x.meals
  g : GsBet k.meals.length k.gifts x.gifts
theorem KBet.V {k x : Kn} (V : KV k) (hm : ∀ n ∈ k.meals, 0 ≤ n ∧ n ≤ 9000) (b : KBet k x) : KV x := by
  have hl := b.m.len
  have hg := b.g.len
  have m1 := V.m1
  have g1 := V.g1
  refine ⟨by omega, fun n hn => ?_, by omega, fun y hy => ?_⟩
  · obtain ⟨j, hj, rfl⟩ := List.getElem_of_mem hn
    have h1 := b.m.ge j
    have h2 : k.meals.getD j 0 = k.meals[j]'(by omega) := by rw [List.getD_eq_getElem?_getD, List.getElem?_eq_getElem (by omega)]; rfl
    have h3 : x.meals.getD j 0 = x.meals[j] := by rw [List.getD_eq_getElem?_getD, List.getElem?_eq_getElem hj]; rfl
    have h4 := hm _ (List.getElem_mem (show j < k.meals.length by omega))
    rw [h2, h3] at h1
    omega
  · obtain ⟨j, hj, rfl⟩ := List.getElem_of_mem hy
    have h1 := b.g.bet j (by omega)
    have h3 : x.gifts.getD j ⟨0, 0, 0⟩ = x.gifts[j] := by rw [List.getD_eq_getElem?_getD, List.getElem?_eq_getElem hj]; rfl
    have h4 := giAt_V V (show j < k.gifts.length by omega)
    unfold giAt at h4
    rw [h3] at h1
    rw [hl]
    exact h1.V h4
end Go.Proofs.Ytmagiabapakhcaa

/- Flows: the table of some ways, place by place, plain. -/
namespace Go.Proofs.Ytmagiabapakhcaa
/-- how much the ways from one place to another one let through -/
def wsAt (ws : List Wa) (i j : Nat) : Int := (ws.map fun w => if w.fr = i ∧ w.to = j then w.most else 0).sum
theorem wsAt_nil (i j : Nat) : wsAt [] i j = 0 := rfl
theorem wsAt_cons (w : Wa) (ws : List Wa) (i j : Nat) : wsAt (w :: ws) i j = (if w.fr = i ∧ w.to = j then w.most else 0) + wsAt ws i j := by simp [wsAt]
theorem wsAt_app (a b : List Wa) (i j : Nat) : wsAt (a ++ b) i j = wsAt a i j + wsAt b i j := by simp [wsAt]
theorem tabW_at {N : Nat} : ∀ (n : Nat) (ws : List Wa), ws.length = n → (∀ w ∈ ws, WaOk N w) → ∀ i j, at2 (tabOfW N ws) i j = wsAt ws i j := by
  intro n
  induction n with
  | zero =>
    intro ws h _ i j
    rw [List.length_eq_zero_iff.1 h]
    exact zeros2_at N i j
  | succ n ih =>
    intro ws h hw i j
    rcases List.eq_nil_or_concat ws with rfl | ⟨vs, w, rfl⟩
    · cases h
    · rw [List.concat_eq_append] at h hw ⊢
      simp at h
      have hv : ∀ x ∈ vs, WaOk N x := fun x hx => hw x (List.mem_append_left _ hx)
      have q := (tabW_ok n vs h hv).1
      have hww := hw w (by simp)
      rw [tabW_succ, add2, at2_upd q hww.fr hww.to, wsAt_app, wsAt_cons, wsAt_nil, ih vs h hv, ih vs h hv]
      by_cases e : w.fr = i ∧ w.to = j
      · rw [if_pos e, if_pos e, e.1, e.2]; omega
      · rw [if_neg e, if_neg e]; omega
/-- what goes away from one place -/
theorem row_sum {N : Nat} (i : Nat) : ∀ ws : List Wa, (∀ w ∈ ws, w.to < N) → sumTo N (fun j => wsAt ws i j) = (ws.map fun w => if w.fr = i then w.most else 0).sum
  | [], _ => sumTo_const0 N
  | w :: ws, h => by
    rw [show (fun j => wsAt (w :: ws) i j) = fun j => (if w.fr = i ∧ w.to = j then w.most else 0) + wsAt ws i j from funext fun j => wsAt_cons w ws i j, sumTo_add, row_sum i ws fun x hx => h x (by simp [hx]), List.map_cons, List.sum_cons]
    congr 1
    by_cases e : w.fr = i
    · rw [if_pos e]
      refine (sumTo_congr fun j _ => ?_).trans (sumTo_one (h w (by simp)) w.most)
      by_cases e2 : j = w.to
      · rw [if_pos ⟨e, e2.symm⟩, if_pos e2]
      · rw [if_neg (fun q => e2 q.2.symm), if_neg e2]
    · rw [if_neg e]
      rw [show (fun j => if w.fr = i ∧ w.to = j then w.most else 0) = fun _ => (0 : Int) from funext fun j => if_neg fun q => e q.1, sumTo_const0]
end Go.Proofs.Ytmagiabapakhcaa

/- Kitchens made of numbers, on values. (Vm) -/
namespace Go.Proofs.Ytmagiabapakhcaa.Vm
open Go Go.Proofs
attribute [local irreducible] castF castU fromF fromU oneF oneU
end Go.Proofs.Ytmagiabapakhcaa.Vm

/- Kitchens and houses that are copied into slices of their own. (Vm) -/
-- TABLE TK
namespace Go.Proofs.Ytmagiabapakhcaa.Vm
open Go Go.Proofs
theorem VC_keep {P : Program} {T : Tab} (hT : TabOk P T) {f : Nat} {fn : Func} {c : Code} {nt : Nat} {args : List VV} {M : Mem} {Q : VV → Mem → Prop} (hf : T.fn f = some fn) (hb : fn.body = some c) (hnt : fn.ntmps = nt) (hn : Nat.ble args.length nt = true) (hk : T.keeps f = true)
    (h : WCode P ⟨f, none, nt⟩ c (zipEnv 0 args) M [] (fun ex e M' D => (ex = .normal ∨ ex = .ret) ∧ D = [] ∧ ∃ vs, vresL T e M' fn.results.toList = some vs ∧ Q (vtup vs) M')) : VC P f args M Q := by
  subst hnt
  refine VC_fn hT hf hb (Nat.le_of_ble_eq_true hn) fun hlg => h.mono ?_
  rintro ex e M' D ⟨hex, rfl, vs, h1, h3⟩
  have key : retQ T f M.H.length fn Q .ret e M' [] := by
    simp only [retQ, vkill]
    have hM : ({ M' with H := M'.H } : Mem) = M' := rfl
    rw [hM, h1]
    simp only
    unfold vfinish
    rw [hk]
    exact h3
  rcases hex with rfl | rfl
  · exact key
  · exact key
def ownT2 (T : Tab) (o k : Nat → Bool) : Tab := { T with own := o, keeps := k }
section
variable {P : Program} {T : Tab} {o k : Nat → Bool}
theorem ownT2_ok (h : TabOk P T) : TabOk P (ownT2 T o k) := ⟨h.ty, h.fn, h.mixed⟩
theorem ownT2_ty : (ownT2 T o k).ty = T.ty := rfl
theorem ownT2_fn : (ownT2 T o k).fn = T.fn := rfl
theorem ownT2_bin : vbin (ownT2 T o k) = vbin T := rfl
theorem ownT2_own : (ownT2 T o k).own = o := rfl
theorem ownT2_keeps : (ownT2 T o k).keeps = k := rfl
end
def ownK2 (t : Nat) : Bool := Nat.beq t 22 || Nat.beq t 56 || Nat.beq t 23 || Nat.beq t 26
def keepK2 (f : Nat) : Bool := keepsB f || Nat.beq f 31 || Nat.beq f 37 || Nat.beq f 21
noncomputable def TK : Tab := ownT2 T ownK2 keepK2
theorem TK_ok : TabOk Try.prog TK := ownT2_ok T_ok
theorem xK_ty : TK.ty = T.ty := ownT2_ty
theorem xK_fn : TK.fn = T.fn := ownT2_fn
theorem xK_bin : vbin TK = vbin T := ownT2_bin
theorem xK_oi : TK.own 22 = true := by rw [TK, ownT2_own]; rfl
theorem xK_oc : TK.own 56 = true := by rw [TK, ownT2_own]; rfl
theorem xK_ok : TK.own 23 = true ∧ TK.own 26 = true := by rw [TK, ownT2_own]; exact ⟨rfl, rfl⟩
theorem xK_keeps : TK.keeps = keepK2 := by rw [TK, ownT2_keeps]
theorem flat_ints : ∀ xs : List Int, List.map VV.p (List.map intP xs).flatten = xs.map vi
  | [] => rfl
  | x :: xs => by simp [flat_ints xs]
theorem copyInts_own (xs : List Int) (M : Mem) (hl : xs.length ≤ 1000000) : VC Try.prog 31 [intsV xs] M (fun r M' => M' = ⟨M.H ++ [.obj (xs.map vi)], M.lg⟩ ∧ r = .bf M.H.length 0 xs.length 1) := by
  have q1 : (xs.length * 8 ≤ 140737488355328) = True := eq_true (by omega)
  refine VC_keep TK_ok (f := 31) (fn := Try.f31) (by rw [xK_fn]; kernel_rfl) rfl Try.ntmps31 (by rfl) (by rw [xK_keeps]; rfl) ?_
  ((repeat refine W_seq ?_); refine W_region0 TK_ok ?_)
  simp (maxSteps := 1000000) only [xK_ty, xK_fn, xK_bin, xK_oi, xK_oc, xK_ok, VL, VM, ↓VG, reduceIte, reduceCtorEq, Int.reduceLE, Int.reduceLT, Int.reduceToNat, Int.reduceNeg, Nat.reduceLT, Nat.reduceEqDiff, Nat.reduceAdd, Nat.reduceSub, Nat.reduceMul, Nat.reduceLeDiff]
  ((repeat refine W_seq ?_); refine W_region0 TK_ok ?_)
  simp (maxSteps := 1000000) only [xK_ty, xK_fn, xK_bin, xK_oi, xK_oc, xK_ok, VL, VM, ↓VG, reduceIte, reduceCtorEq, Int.reduceLE, Int.reduceLT, Int.reduceToNat, Int.reduceNeg, Nat.reduceLT, Nat.reduceEqDiff, Nat.reduceAdd, Nat.reduceSub, Nat.reduceMul, Nat.reduceLeDiff, q1]
  (repeat refine W_seq ?_)
  refine W_ret ?_
  refine ⟨.inr rfl, rfl, [.bf M.H.length 0 xs.length 1], rfl, ?_, rfl⟩
  rw [flat_ints]
abbrev cellsD (l : List Do) : List VV := List.map VV.p (List.map doP l).flatten
abbrev cellsC (l : List Co) : List VV := List.map VV.p (List.map coP l).flatten
abbrev bufH (h : Ho) (n : Nat) : List VV := [.bf n 0 h.holds.length 1, .bf (n + 1) 0 h.doors.length 3, vi h.first.lo, vi h.first.hi, vi h.ticks, .bf (n + 2) 0 h.counts.length 6]
theorem copyHouse_own (h : Ho) (M : Mem) (hm : h.holds.length ≤ 1000000) (hg : h.doors.length ≤ 1000000) (hc : h.counts.length ≤ 1000000) : VC Try.prog 21 [houseV h] M (fun r M' => ∃ X, (∀ e ∈ X, M.H.length ≤ e.1) ∧ M' = ⟨M.H ++ [VObj.obj (bufH h (M.H.length + 2)), .obj (bufH h (M.H.length + 2)), .obj (h.holds.map vi), .obj (cellsD h.doors), .obj (cellsC h.counts)], M.lg ++ X⟩ ∧ r = .agg (bufH h (M.H.length + 2))) := by
  have q1 : (h.doors.length * 24 ≤ 140737488355328) = True := eq_true (by omega)
  have q2 : (h.counts.length * 48 ≤ 140737488355328) = True := eq_true (by omega)
  refine VC_keep TK_ok (f := 21) (fn := Try.f21) (by rw [xK_fn]; kernel_rfl) rfl Try.ntmps21 (by rfl) (by rw [xK_keeps]; rfl) ?_
  ((repeat refine W_seq ?_); refine W_region0 TK_ok ?_)
  simp (maxSteps := 1000000) only [xK_ty, xK_fn, xK_bin, xK_oi, xK_oc, xK_ok, VL, VM, ↓VG, reduceIte, reduceCtorEq, Int.reduceLE, Int.reduceLT, Int.reduceToNat, Int.reduceNeg, Nat.reduceLT, Nat.reduceEqDiff, Nat.reduceAdd, Nat.reduceSub, Nat.reduceMul, Nat.reduceLeDiff]
  (repeat refine W_seq ?_)
  refine W_drawP TK_ok [] (by kernel_rfl) (by kernel_rfl) ?_
  generalize hi : mkPlan _ = infs
  cbv at hi
  subst hi
  simp (maxSteps := 1000000) only [xK_ty, xK_fn, xK_bin, xK_oi, xK_oc, xK_ok, VL, VM, ↓VG, reduceIte, reduceCtorEq, Int.reduceLE, Int.reduceLT, Int.reduceToNat, Int.reduceNeg, Nat.reduceLT, Nat.reduceEqDiff, Nat.reduceAdd, Nat.reduceSub, Nat.reduceMul, Nat.reduceLeDiff, q1, q2]
  apply call_d (f := 31) (fn := Try.f31) (by kernel_rfl) (by rfl)
  · exact copyInts_own h.holds _ hm
  simp (maxSteps := 1000000) only [xK_ty, xK_fn, xK_bin, xK_oi, xK_oc, xK_ok, VL, VM, ↓VG, reduceIte, reduceCtorEq, Int.reduceLE, Int.reduceLT, Int.reduceToNat, Int.reduceNeg, Nat.reduceLT, Nat.reduceEqDiff, Nat.reduceAdd, Nat.reduceSub, Nat.reduceMul, Nat.reduceLeDiff, q1, q2]
  obtain ⟨lgB, hB⟩ : ∃ lgB, lgB = addLg M.H.length [M.H.length + 4] (addLg M.H.length [M.H.length + 3] (addLg M.H.length [M.H.length + 2] M.lg)) := ⟨_, rfl⟩
  rw [← hB]
  ((repeat refine W_seq ?_); refine W_region0 TK_ok ?_)
  simp (maxSteps := 1000000) only [xK_ty, xK_fn, xK_bin, xK_oi, xK_oc, xK_ok, VL, VM, ↓VG, reduceIte, reduceCtorEq, Int.reduceLE, Int.reduceLT, Int.reduceToNat, Int.reduceNeg, Nat.reduceLT, Nat.reduceEqDiff, Nat.reduceAdd, Nat.reduceSub, Nat.reduceMul, Nat.reduceLeDiff]
  (repeat refine W_seq ?_)
  refine W_ret ?_
  try simp only [thenQ, blockQ]
  obtain ⟨X1, h1, g1⟩ := addLg_Y M.H.length [M.H.length + 2] M.lg
  obtain ⟨X2, h2, g2⟩ := addLg_Y M.H.length [M.H.length + 3] (addLg M.H.length [M.H.length + 2] M.lg)
  obtain ⟨X3, h3, g3⟩ := addLg_Y M.H.length [M.H.length + 4] (addLg M.H.length [M.H.length + 3] (addLg M.H.length [M.H.length + 2] M.lg))
  obtain ⟨X, h5, g5⟩ := addLg_Y (M.H.length + 1) [M.H.length + 2, M.H.length + 3, M.H.length + 4] lgB
  have hh : lgB = M.lg ++ (X1 ++ (X2 ++ X3)) := by rw [hB, h3, h2, h1]; simp
  refine ⟨.inr (by trivial), by trivial, [.agg (bufH h (M.H.length + 2))], ?_, X1 ++ (X2 ++ X3) ++ X, fun e he => ?_, ?_, rfl⟩
  · simp [Try.f21, vresL, vload, xK_ty, t_house, get_cons, hget, hget0, nat_ble, strip1]
  · simp only [List.mem_append] at he
    rcases he with (he | he | he) | he
    · have := (g1 e he).1; omega
    · have := (g2 e he).1; omega
    · have := (g3 e he).1; omega
    · have := (g5 e he).1; omega
  · rw [← List.append_assoc, ← hh, ← h5]
end Go.Proofs.Ytmagiabapakhcaa.Vm

/- The law of gifts that keep longer, on values. (Vm) -/
namespace Go.Proofs.Ytmagiabapakhcaa.Vm
open Go Go.Proofs
attribute [local irreducible] castF castU fromF fromU oneF oneU
end Go.Proofs.Ytmagiabapakhcaa.Vm

/- Narrower counts, plain. -/
namespace Go.Proofs.Ytmagiabapakhcaa
/-- a span within another one -/
structure Nar (x y : Sp) : Prop where
  lo : x.lo ≤ y.lo
  le : y.lo ≤ y.hi
  hi : y.hi ≤ x.hi
theorem Nar.ok {x y : Sp} (h : Nar x y) (hx : SpOk x) : SpOk y := ⟨by have := hx.lo0; have := h.lo; omega, h.le, by have := hx.hi1; have := h.hi; omega⟩
theorem Nar.refl {x : Sp} (hx : SpOk x) : Nar x x := ⟨Int.le_refl _, hx.le, Int.le_refl _⟩
structure CoB (c d : Co) : Prop where
  t : d.tick = c.tick
  k : d.door = c.door
  i : Nar c.i d.i
  o : Nar c.o d.o
abbrev co0 : Co := ⟨0, 0, ⟨0, 0⟩, ⟨0, 0⟩⟩
structure CsB (l m : List Co) : Prop where
  len : m.length = l.length
  bet : ∀ j, j < l.length → CoB (l.getD j co0) (m.getD j co0)
theorem CsB.refl {l : List Co} (h : ∀ c ∈ l, SpOk c.i ∧ SpOk c.o) : CsB l l := ⟨rfl, fun j hj => by
  rw [List.getD_eq_getElem?_getD, List.getElem?_eq_getElem hj]
  have := h _ (List.getElem_mem hj)
  exact ⟨rfl, rfl, Nar.refl this.1, Nar.refl this.2⟩⟩
theorem CsB.up {l m : List Co} (h : CsB l m) {i : Nat} {y : Co} (hi : i < l.length) (hy : CoB (l.getD i co0) y) : CsB l (m.set i y) := by
  refine ⟨by rw [List.length_set]; exact h.len, fun j hj => ?_⟩
  rw [getD_set' (by rw [h.len]; exact hi)]
  by_cases e : i = j
  · subst e
    rw [if_pos rfl]; exact hy
  · rw [if_neg e]; exact h.bet j hj
theorem CsB.tl {a b : Co} {l m : List Co} (h : CsB (a :: l) (b :: m)) : CoB a b ∧ CsB l m := by
  have h0 := h.bet 0 (by simp)
  simp only [List.getD_cons_zero] at h0
  exact ⟨h0, by have := h.len; simpa using this, fun q hq => by have := h.bet (q + 1) (by simpa using hq); simpa using this⟩
theorem CsB.chg (t : Int) : ∀ {l m : List Co}, CsB l m → (chg l t).lo ≤ (chg m t).lo ∧ (chg m t).hi ≤ (chg l t).hi
  | [], [], _ => ⟨Int.le_refl _, Int.le_refl _⟩
  | [], _ :: _, h => by have := h.len; simp at this
  | _ :: _, [], h => by have := h.len; simp at this
  | a :: l, b :: m, h => by
    obtain ⟨h0, h1⟩ := h.tl
    have ih := CsB.chg t h1
    unfold Proofs.Ytmagiabapakhcaa.chg at ih ⊢
    simp only at ih
    rw [List.filter_cons, List.filter_cons, h0.t]
    by_cases e : a.tick = t
    · rw [if_pos (by simpa using e), if_pos (by simpa using e)]
      simp only [List.map_cons, List.sum_cons]
      have := h0.i.lo
      have := h0.i.hi
      have := h0.o.lo
      have := h0.o.hi
      omega
    · rw [if_neg (by simpa using e), if_neg (by simpa using e)]
      exact ih
def keyOf (c : Co) : Int × Int := (c.tick, c.door)
theorem any_key (c d : Co) (h : keyOf c = keyOf d) : ∀ {bs bs' : List Co}, bs.map keyOf = bs'.map keyOf → bs.any (sameKey c) = bs'.any (sameKey d)
  | [], [], _ => rfl
  | [], _ :: _, h => by simp at h
  | _ :: _, [], h => by simp at h
  | a :: bs, b :: bs', h2 => by
    rw [List.map_cons, List.map_cons, List.cons.injEq] at h2
    rw [List.any_cons, List.any_cons, any_key c d h h2.2]
    congr 1
    simp only [keyOf, Prod.mk.injEq] at h h2
    unfold sameKey
    rw [h.1, h.2, h2.1.1, h2.1.2]
theorem keys_congr : ∀ {l m bs bs' : List Co}, l.map keyOf = m.map keyOf → bs.map keyOf = bs'.map keyOf → keysOk bs l → keysOk bs' m
  | [], [], _, _, _, _, _ => trivial
  | [], _ :: _, _, _, h, _, _ => by simp at h
  | _ :: _, [], _, _, h, _, _ => by simp at h
  | a :: l, b :: m, bs, bs', h, h2, k => by
    rw [List.map_cons, List.map_cons, List.cons.injEq] at h
    rw [keysOk] at k ⊢
    refine ⟨?_, keys_congr h.2 (by rw [List.map_append, List.map_append, h2, List.map_cons, List.map_cons, h.1, List.map_nil]) k.2⟩
    rw [← any_key a b h.1 h2]; exact k.1
theorem CsB.keys : ∀ {l m : List Co}, CsB l m → l.map keyOf = m.map keyOf
  | [], [], _ => rfl
  | [], _ :: _, h => by have := h.len; simp at this
  | _ :: _, [], h => by have := h.len; simp at this
  | a :: l, b :: m, h => by
    obtain ⟨h0, h1⟩ := h.tl
    rw [List.map_cons, List.map_cons, CsB.keys h1]
    congr 1
    unfold keyOf
    rw [h0.t, h0.k]
structure HNar (h x : Ho) : Prop where
  holds : x.holds = h.holds
  doors : x.doors = h.doors
  ticks : x.ticks = h.ticks
  first : Nar h.first x.first
  counts : CsB h.counts x.counts
theorem HNar.V {h x : Ho} (V : HV h) (b : HNar h x) : HV x := by
  refine ⟨by rw [b.holds]; exact V.n0, by rw [b.holds]; exact V.n1, by rw [b.holds]; exact V.holds, by rw [b.doors]; exact V.d1, by rw [b.doors, b.holds]; exact V.doors, b.first.ok V.first, by rw [b.ticks]; exact V.t0, by rw [b.ticks]; exact V.t1, by rw [b.counts.len]; exact V.c1, fun c hc => ?_, keys_congr b.counts.keys rfl V.keys⟩
  obtain ⟨j, hj, rfl⟩ := List.getElem_of_mem hc
  have hl := b.counts.len
  have h1 := b.counts.bet j (by omega)
  have h2 : h.counts.getD j co0 = h.counts[j]'(by omega) := by rw [List.getD_eq_getElem?_getD, List.getElem?_eq_getElem (by omega)]; rfl
  have h3 : x.counts.getD j co0 = x.counts[j] := by rw [List.getD_eq_getElem?_getD, List.getElem?_eq_getElem hj]; rfl
  rw [h2, h3] at h1
  obtain ⟨t0, t1, d0, d1, k, i, o⟩ := V.counts _ (List.getElem_mem (show j < h.counts.length by omega))
  refine ⟨by rw [h1.t]; exact t0, by rw [h1.t, b.ticks]; exact t1, by rw [h1.k]; exact d0, by rw [h1.k, b.doors]; exact d1, ?_, h1.i.ok i, h1.o.ok o⟩
  rw [h1.k]
  unfold doAt at k ⊢
  rw [b.doors]; exact k
end Go.Proofs.Ytmagiabapakhcaa

/- Dice: narrower spans, on values. (Vm) -/
namespace Go.Proofs.Ytmagiabapakhcaa.Vm
open Go Go.Proofs
attribute [local irreducible] castF castU fromF fromU oneF oneU trueF trueU
def narU (u : Int) (x : Sp) : Int := trueU (trueU u x) x
end Go.Proofs.Ytmagiabapakhcaa.Vm

/- The law of narrower counts, on values. (Vm) -/
namespace Go.Proofs.Ytmagiabapakhcaa.Vm
open Go Go.Proofs
attribute [local irreducible] castF castU fromF fromU oneF oneU trueF trueU narU
end Go.Proofs.Ytmagiabapakhcaa.Vm

/- Fewer people, more and wider ways, plain. -/
namespace Go.Proofs.Ytmagiabapakhcaa
/-- a door through which more people go -/
structure DoB (c d : Do) : Prop where
  a : d.a = c.a
  b : d.b = c.b
  lo : c.flow ≤ d.flow
  hi : d.flow ≤ c.flow + 8
abbrev do0 : Do := ⟨0, 0, 0⟩
structure DsB (l m : List Do) : Prop where
  len : m.length = l.length
  bet : ∀ j, j < l.length → DoB (l.getD j do0) (m.getD j do0)
theorem DsB.refl (l : List Do) : DsB l l := ⟨rfl, fun j _ => ⟨rfl, rfl, Int.le_refl _, by omega⟩⟩
theorem DsB.up {l m : List Do} (h : DsB l m) {i : Nat} {y : Do} (hi : i < l.length) (hy : DoB (l.getD i do0) y) : DsB l (m.set i y) := by
  refine ⟨by rw [List.length_set]; exact h.len, fun j hj => ?_⟩
  rw [getD_set' (by rw [h.len]; exact hi)]
  by_cases e : i = j
  · subst e
    rw [if_pos rfl]; exact hy
  · rw [if_neg e]; exact h.bet j hj
theorem DsB.tl {a b : Do} {l m : List Do} (h : DsB (a :: l) (b :: m)) : DoB a b ∧ DsB l m := by
  have h0 := h.bet 0 (by simp)
  simp only [List.getD_cons_zero] at h0
  exact ⟨h0, by have := h.len; simpa using this, fun q hq => by have := h.bet (q + 1) (by simpa using hq); simpa using this⟩
/-- fewer numbers -/
structure LsB (l m : List Int) : Prop where
  len : m.length = l.length
  bet : ∀ j, j < l.length → 0 ≤ m.getD j 0 ∧ m.getD j 0 ≤ l.getD j 0
theorem LsB.refl {l : List Int} (h : ∀ x ∈ l, 0 ≤ x) : LsB l l := ⟨rfl, fun j hj => by
  rw [List.getD_eq_getElem?_getD, List.getElem?_eq_getElem hj]
  exact ⟨h _ (List.getElem_mem hj), Int.le_refl _⟩⟩
theorem LsB.up {l m : List Int} (h : LsB l m) {i : Nat} {y : Int} (hi : i < l.length) (hy : 0 ≤ y ∧ y ≤ l.getD i 0) : LsB l (m.set i y) := by
  refine ⟨by rw [List.length_set]; exact h.len, fun j hj => ?_⟩
  rw [getD_set' (by rw [h.len]; exact hi)]
  by_cases e : i = j
  · subst e
    rw [if_pos rfl]; exact hy
  · rw [if_neg e]; exact h.bet j hj
structure HFew (h x : Ho) : Prop where
  holds : x.holds = h.holds
  doors : DsB h.doors x.doors
  first : x.first = h.first
  ticks : x.ticks = h.ticks
  counts : x.counts = h.counts
theorem HFew.V {h x : Ho} (V : HV h) (hf : ∀ d ∈ h.doors, d.flow ≤ 1000) (b : HFew h x) : HV x := by
  have hl := b.doors.len
  refine ⟨by rw [b.holds]; exact V.n0, by rw [b.holds]; exact V.n1, by rw [b.holds]; exact V.holds, by rw [hl]; exact V.d1, fun d hd => ?_, by rw [b.first]; exact V.first, by rw [b.ticks]; exact V.t0, by rw [b.ticks]; exact V.t1, by rw [b.counts]; exact V.c1, fun c hc => ?_, by rw [b.counts]; exact V.keys⟩
  · obtain ⟨j, hj, rfl⟩ := List.getElem_of_mem hd
    have h1 := b.doors.bet j (by omega)
    have h2 : h.doors.getD j do0 = h.doors[j]'(by omega) := by rw [List.getD_eq_getElem?_getD, List.getElem?_eq_getElem (by omega)]; rfl
    have h3 : x.doors.getD j do0 = x.doors[j] := by rw [List.getD_eq_getElem?_getD, List.getElem?_eq_getElem hj]; rfl
    rw [h2, h3] at h1
    have hm := List.getElem_mem (show j < h.doors.length by omega)
    obtain ⟨a0, a1, b0, b1, ne, f0, f1⟩ := V.doors _ hm
    have f2 := hf _ hm
    obtain ⟨e1, e2, e3, e4⟩ := h1
    rw [b.holds]
    exact ⟨by rw [e1]; exact a0, by rw [e1]; exact a1, by rw [e2]; exact b0, by rw [e2]; exact b1, by rw [e1, e2]; exact ne, by omega, by omega⟩
  · rw [b.counts] at hc
    obtain ⟨t0, t1, d0, d1, k, i, o⟩ := V.counts c hc
    refine ⟨t0, by rw [b.ticks]; exact t1, d0, by rw [hl]; exact d1, ?_, i, o⟩
    have h1 := b.doors.bet c.door.toNat (by omega)
    unfold doAt at k ⊢
    rw [h1.a, h1.b]; exact k
/-! ### the ways -/
theorem wsAt_nn {ws : List Wa} (h : ∀ w ∈ ws, 0 ≤ w.most) (i j : Nat) : 0 ≤ wsAt ws i j := by
  induction ws with
  | nil => exact Int.le_refl _
  | cons w ws ih =>
    have h1 := h w (by simp)
    have h2 := ih fun x hx => h x (by simp [hx])
    rw [wsAt_cons]
    split <;> omega
theorem wsAt_flat {α : Type} (f g : α → List Wa) (i j : Nat) : ∀ l : List α, (∀ x ∈ l, wsAt (f x) i j ≤ wsAt (g x) i j) → wsAt (l.flatMap f) i j ≤ wsAt (l.flatMap g) i j
  | [], _ => Int.le_refl _
  | x :: l, h => by
    rw [List.flatMap_cons, List.flatMap_cons, wsAt_app, wsAt_app]
    have h1 := h x (by simp)
    have h2 := wsAt_flat f g i j l fun y hy => h y (by simp [hy])
    omega
theorem doorWs_mono {nH t : Nat} {c d : Do} (h : DoB c d) (i j : Nat) : wsAt (doorWs nH t c) i j ≤ wsAt (doorWs nH t d) i j := by
  have hl := h.lo
  unfold doorWs
  rw [wsAt_app, wsAt_app, h.a, h.b]
  have e1 : wsAt (if c.a = -1 then [] else [⟨placeOf nH c.a t, placeOf nH c.b (t + 1), c.flow⟩]) i j ≤ wsAt (if c.a = -1 then [] else [⟨placeOf nH c.a t, placeOf nH c.b (t + 1), d.flow⟩]) i j := by
    split
    · exact Int.le_refl _
    · rw [wsAt_cons, wsAt_cons]
      simp only
      split <;> omega
  have e2 : wsAt (if c.b = -1 then [] else [⟨placeOf nH c.b t, placeOf nH c.a (t + 1), c.flow⟩]) i j ≤ wsAt (if c.b = -1 then [] else [⟨placeOf nH c.b t, placeOf nH c.a (t + 1), d.flow⟩]) i j := by
    split
    · exact Int.le_refl _
    · rw [wsAt_cons, wsAt_cons]
      simp only
      split <;> omega
  omega
theorem doorWs_nn {nH t : Nat} {d : Do} (h : 0 ≤ d.flow) : ∀ w ∈ doorWs nH t d, 0 ≤ w.most := by
  intro w hw
  unfold doorWs at hw
  rcases List.mem_append.1 hw with hw | hw
  · split at hw
    · cases hw
    · rw [List.mem_singleton] at hw; subst hw; exact h
  · split at hw
    · cases hw
    · rw [List.mem_singleton] at hw; subst hw; exact h
theorem doorsWs_mono {nH t : Nat} {closed op : List Int} (hc : ∀ x ∈ op, x ∈ closed) (i j : Nat) : ∀ (l m : List Do) (k : Nat), DsB l m → (∀ d ∈ l, 0 ≤ d.flow) → wsAt (doorsWs nH t closed k l) i j ≤ wsAt (doorsWs nH t op k m) i j
  | [], [], _, _, _ => Int.le_refl _
  | [], _ :: _, _, h, _ => by have := h.len; simp at this
  | _ :: _, [], _, h, _ => by have := h.len; simp at this
  | a :: l, b :: m, k, h, hf => by
    obtain ⟨h0, h1⟩ := h.tl
    have ih := doorsWs_mono (nH := nH) (t := t) hc i j l m (k + 1) h1 fun d hd => hf d (by simp [hd])
    have hb : 0 ≤ wsAt (doorWs nH t b) i j := wsAt_nn (doorWs_nn (by have := hf a (by simp); have := h0.lo; omega)) i j
    have h2 := doorWs_mono (nH := nH) (t := t) h0 i j
    rw [doorsWs, doorsWs, wsAt_app, wsAt_app]
    by_cases e : op.contains (k : Int) = true
    · have e2 : closed.contains (k : Int) = true := by
        rw [List.contains_iff_mem] at e ⊢
        exact hc _ e
      rw [if_pos e, if_pos e2, wsAt_nil]
      omega
    · rw [if_neg e]
      by_cases e2 : closed.contains (k : Int) = true
      · rw [if_pos e2, wsAt_nil]; omega
      · rw [if_neg e2]; omega
/-- behind the start there are no fewer ways -/
theorem later_mono {nH ticks : Nat} {ds ds' : List Do} {closed op : List Int} (hd : DsB ds ds') (hf : ∀ d ∈ ds, 0 ≤ d.flow) (hc : ∀ x ∈ op, x ∈ closed) (i j : Nat) : wsAt ((List.range ticks).flatMap (tickWs nH ds closed)) i j ≤ wsAt ((List.range ticks).flatMap (tickWs nH ds' op)) i j := by
  refine wsAt_flat _ _ i j _ fun t _ => ?_
  unfold tickWs
  rw [wsAt_app, wsAt_app]
  have := doorsWs_mono (nH := nH) (t := t) hc i j ds ds' 0 hd hf
  omega
theorem start_split (nH : Nat) (c c' : Nat → Int) (i j : Nat) : wsAt (startWs nH c) i j = wsAt (startWs nH c') i j + wsAt (startWs nH fun k => c k - c' k) i j := by
  unfold startWs
  generalize List.range nH = L
  induction L with
  | nil => rfl
  | cons a L ih =>
    simp only [List.map_cons]
    rw [wsAt_cons, wsAt_cons, wsAt_cons, ih]
    simp only
    split <;> omega
theorem start_from (nH : Nat) (c : Nat → Int) : ((startWs nH c).map fun w => if w.fr = 0 then w.most else 0).sum = sumTo nH c := by
  unfold startWs sumTo
  rw [List.map_map]
  congr 1
theorem start_row {N nH : Nat} (hN : 2 + nH ≤ N) (c : Nat → Int) : sumTo N (fun j => wsAt (startWs nH c) 0 j) = sumTo nH c := by
  rw [row_sum 0 _ fun w hw => ?_, start_from]
  unfold startWs at hw
  obtain ⟨k, hk, rfl⟩ := List.mem_map.1 hw
  rw [List.mem_range] at hk
  show placeOf nH (k : Int) 0 < N
  unfold placeOf
  split <;> omega
theorem start_else (nH : Nat) (c : Nat → Int) {i : Nat} (hi : i ≠ 0) (j : Nat) : wsAt (startWs nH c) i j = 0 := by
  unfold startWs
  generalize List.range nH = L
  induction L with
  | nil => rfl
  | cons a L ih =>
    rw [List.map_cons, wsAt_cons, ih]
    simp only
    rw [if_neg (fun q => hi q.1.symm)]; rfl
theorem cut_more {N : Nat} (hN : 0 < N) {C C' : List (List Int)} {e : Nat → Int} (he : ∀ j, 0 ≤ e j) (h : ∀ i j, i < N → j < N → at2 C i j ≤ at2 C' i j + if i = 0 then e j else 0) (S : Nat → Bool) : cutOf N C S ≤ cutOf N C' S + sumTo N e := by
  unfold cutOf
  rw [← sumTo_one hN (sumTo N e), ← sumTo_add]
  refine sumTo_le fun i hi => ?_
  by_cases q : i = 0
  · subst q
    rw [if_pos rfl, ← sumTo_add]
    refine sumTo_le fun j hj => ?_
    have h1 := h 0 j hi hj
    rw [if_pos rfl] at h1
    have h2 := he j
    split <;> omega
  · rw [if_neg q, Int.add_zero]
    refine sumTo_le fun j hj => ?_
    have h1 := h i j hi hj
    rw [if_neg q] at h1
    split <;> omega
section
variable {nH ticks : Nat} {ds ds' : List Do} {closed op : List Int} {c c' : Nat → Int}
theorem leave_MF (hn : 1 ≤ nH) (hd : ∀ d ∈ ds, DoOk nH d) (hc : ∀ i, i < nH → 0 ≤ c i ∧ c i ≤ 1073741824) : MF (2 + (ticks + 1) * nH) (tabOfW (2 + (ticks + 1) * nH) (waysOf nH ds ticks closed c)) (Vm.leaveV nH ds ticks closed c) := by
  have h := tabW_ok _ _ rfl (waysOf_ok (ticks := ticks) (closed := closed) hd hc)
  exact mfv_MF (by omega) h.1 fun i j _ _ => (h.2 i j).1
theorem nh_le (nH ticks : Nat) : 2 + nH ≤ 2 + (ticks + 1) * nH := by
  rw [Nat.add_mul, Nat.one_mul]; omega
/-- with more ways, and fewer people, all those who are left can leave as well -/
theorem leave_few (hn : 1 ≤ nH) (hd : ∀ d ∈ ds, DoOk nH d) (hd' : ∀ d ∈ ds', DoOk nH d) (hb : DsB ds ds') (ho : ∀ x ∈ op, x ∈ closed) (hc : ∀ i, i < nH → 0 ≤ c i ∧ c i ≤ 1073741824) (hc' : ∀ i, i < nH → 0 ≤ c' i ∧ c' i ≤ c i) :
    Vm.leaveV nH ds ticks closed c ≤ Vm.leaveV nH ds' ticks op c' + (sumTo nH c - sumTo nH c') := by
  have hc2 : ∀ i, i < nH → 0 ≤ c' i ∧ c' i ≤ 1073741824 := fun i hi => by have := hc i hi; have := hc' i hi; omega
  have m1 := leave_MF (ticks := ticks) (closed := closed) hn hd hc
  have m2 := leave_MF (ticks := ticks) (closed := op) hn hd' hc2
  have w1 := waysOf_ok (ticks := ticks) (closed := closed) hd hc
  have w2 := waysOf_ok (ticks := ticks) (closed := op) hd' hc2
  have hN := nh_le nH ticks
  generalize 2 + (ticks + 1) * nH = N at hN m1 m2 w1 w2
  obtain ⟨_, S, s0, s1, hS⟩ := m2
  have hle := m1.le_cut (by omega) s0 s1
  have hdf : ∀ j, 0 ≤ wsAt (startWs nH fun k => c k - c' k) 0 j := fun j => wsAt_nn (fun w hw => by
    unfold startWs at hw
    obtain ⟨k, hk, rfl⟩ := List.mem_map.1 hw
    rw [List.mem_range] at hk
    have := hc' k hk
    show 0 ≤ c k - c' k
    omega) 0 j
  have hm := cut_more (N := N) (by omega) (C := tabOfW N (waysOf nH ds ticks closed c)) (C' := tabOfW N (waysOf nH ds' ticks op c')) (e := fun j => wsAt (startWs nH fun k => c k - c' k) 0 j) hdf (fun i j _ _ => by
    rw [tabW_at _ _ rfl w1, tabW_at _ _ rfl w2]
    unfold waysOf
    rw [wsAt_app, wsAt_app, start_split nH c c']
    have h1 := later_mono (nH := nH) (ticks := ticks) hb (fun d hd2 => (hd d hd2).f0) ho i j
    by_cases q : i = 0
    · subst q
      rw [if_pos rfl]; omega
    · rw [if_neg q, start_else nH (fun k => c k - c' k) q]; omega) S
  rw [start_row (by omega), sumTo_sub] at hm
  omega
/-- no more leave than come -/
theorem leave_le (hn : 1 ≤ nH) (hd : ∀ d ∈ ds, DoOk nH d) (hc : ∀ i, i < nH → 0 ≤ c i ∧ c i ≤ 1073741824) : Vm.leaveV nH ds ticks closed c ≤ sumTo nH c := by
  have m1 := leave_MF (ticks := ticks) (closed := closed) hn hd hc
  have w1 := waysOf_ok (ticks := ticks) (closed := closed) hd hc
  have hN := nh_le nH ticks
  generalize 2 + (ticks + 1) * nH = N at hN m1 w1
  have hle := m1.le_cut (by omega) (S := fun i => decide (i = 0)) (by simp) (by simp)
  refine Int.le_trans hle ?_
  have hz : ∀ j, wsAt ((List.range ticks).flatMap (tickWs nH ds closed)) 0 j = 0 := by
    intro j
    have hf : ∀ w ∈ (List.range ticks).flatMap (tickWs nH ds closed), w.fr ≠ 0 := by
      intro w hw
      obtain ⟨t, ht, hw⟩ := List.mem_flatMap.1 hw
      unfold tickWs at hw
      have hp : ∀ (q : Int) (t : Nat), placeOf nH q t ≠ 0 := fun q t => by unfold placeOf; split <;> omega
      rcases List.mem_append.1 hw with hw | hw
      · unfold stayWs at hw
        obtain ⟨k, _, rfl⟩ := List.mem_map.1 hw
        exact hp (k : Int) t
      · have hdw : ∀ (d : Do), ∀ w ∈ doorWs nH t d, w.fr ≠ 0 := by
          intro d w hw
          unfold doorWs at hw
          rcases List.mem_append.1 hw with hw | hw
          · split at hw
            · cases hw
            · rw [List.mem_singleton] at hw; subst hw; exact hp _ _
          · split at hw
            · cases hw
            · rw [List.mem_singleton] at hw; subst hw; exact hp _ _
        have hds : ∀ (l : List Do) (k : Nat), ∀ w ∈ doorsWs nH t closed k l, w.fr ≠ 0 := by
          intro l
          induction l with
          | nil => intro k w hw; cases hw
          | cons d l ih =>
            intro k w hw
            rw [doorsWs] at hw
            rcases List.mem_append.1 hw with hw | hw
            · split at hw
              · cases hw
              · exact hdw d w hw
            · exact ih _ w hw
        exact hds ds 0 w hw
    generalize (List.range ticks).flatMap (tickWs nH ds closed) = L at hf
    induction L with
    | nil => rfl
    | cons w L ih =>
      rw [wsAt_cons, if_neg (fun q => hf w (by simp) q.1), ih fun x hx => hf x (by simp [hx])]; rfl
  unfold cutOf
  rw [← start_row (N := N) (by omega) c, ← sumTo_one (show 0 < N by omega) (sumTo N fun j => wsAt (startWs nH c) 0 j)]
  refine sumTo_le fun i hi => ?_
  by_cases e : i = 0
  · subst e
    rw [if_pos rfl]
    refine sumTo_le fun j hj => ?_
    have h0 := ((tabW_ok _ _ rfl w1).2 0 j).1
    rw [tabW_at _ _ rfl w1] at h0 ⊢
    unfold waysOf at h0 ⊢
    rw [wsAt_app, hz j] at h0 ⊢
    split <;> omega
  · rw [if_neg e]
    rw [show (fun j => if (decide (i = 0) && !decide (j = 0)) = true then at2 (tabOfW N (waysOf nH ds ticks closed c)) i j else 0) = fun _ => (0 : Int) from funext fun j => by simp [e], sumTo_const0]
    exact Int.le_refl _
end
end Go.Proofs.Ytmagiabapakhcaa

/- Fewer people, and easier ways: ticks and numbers, plain. -/
namespace Go.Proofs.Ytmagiabapakhcaa
theorem list_sumTo : ∀ r : List Int, r.sum = sumTo r.length fun j => r.getD j 0
  | [] => rfl
  | a :: r => by
    have e : sumTo (a :: r).length (fun j => (a :: r).getD j 0) = a + sumTo r.length (fun j => r.getD j 0) := by
      unfold sumTo
      rw [List.length_cons, List.range_succ_eq_map, List.map_cons, List.sum_cons, List.map_map]
      rfl
    rw [e, ← list_sumTo r, List.sum_cons]
theorem come_bd {who : List Int} {P : Int} (h : ∀ n ∈ who, 0 ≤ n ∧ n ≤ P) (hP : 0 ≤ P) (i : Nat) : 0 ≤ comeOf who i ∧ comeOf who i ≤ P := by
  unfold comeOf
  rcases Nat.lt_or_ge i who.length with q | q
  · rw [List.getD_eq_getElem?_getD, List.getElem?_eq_getElem q]
    exact h _ (List.getElem_mem q)
  · rw [List.getD_eq_getElem?_getD, List.getElem?_eq_none q]
    exact ⟨Int.le_refl _, hP⟩
theorem doors_ok {h : Ho} (V : HV h) : ∀ d ∈ h.doors, DoOk h.holds.length d := fun d hd => (V.doors d hd).ok
theorem leaveErr_ok {h : Ho} {who closed : List Int} (V : HV h) (hl : who.length = h.holds.length) (hw : ∀ n ∈ who, 0 ≤ n ∧ n ≤ 10000) (hc : closedErr h.doors.length closed = 0) : leaveErr h who closed = 0 := by
  unfold leaveErr
  rw [if_pos (houseErr_ok.2 V), if_pos hl, if_pos (List.all_eq_true.2 fun n hn => by rw [inR_true]; exact hw n hn), hc]
section
variable {h x : Ho} {people less closed op : List Int}
theorem few_leaveT (V : HV h) (W : HV x) (b : HFew h x) (hl : people.length = h.holds.length) (hw : ∀ n ∈ people, 0 ≤ n ∧ n ≤ 10000) (hp : LsB people less) (ho : ∀ z ∈ op, z ∈ closed) {t : Nat} (ht : leaveT h people closed = some t) : ∃ t', leaveT x less op = some t' ∧ t' ≤ t := by
  unfold leaveT at ht ⊢
  rw [List.find?_range_eq_some] at ht
  obtain ⟨h1, h2, _⟩ := ht
  have h1 := of_decide_eq_true h1
  rw [List.mem_range] at h2
  have hlen := hp.len
  have W2 := doors_ok W
  rw [b.holds] at W2
  have hcl : ∀ i, i < h.holds.length → 0 ≤ comeOf less i ∧ comeOf less i ≤ comeOf people i := fun i hi => hp.bet i (by omega)
  have hcp : ∀ i, i < h.holds.length → 0 ≤ comeOf people i ∧ comeOf people i ≤ 1073741824 := fun i _ => by have := come_bd hw (by omega) i; omega
  have e1 : sumTo h.holds.length (comeOf people) = people.sum := by rw [← hl, list_sumTo]; rfl
  have e2 : sumTo h.holds.length (comeOf less) = less.sum := by rw [← hl, ← hlen, list_sumTo]; rfl
  have g1 := leave_few (ticks := t) V.n0 (doors_ok V) W2 b.doors ho hcp hcl
  have g2 := leave_le (ticks := t) (closed := op) (c := comeOf less) V.n0 W2 fun i hi => by have := hcl i hi; have := hcp i hi; omega
  have hpt : (decide (Vm.leaveV x.holds.length x.doors t op (comeOf less) = less.sum)) = true := by
    rw [b.holds]
    exact decide_eq_true (by omega)
  cases hf : (List.range 13).find? fun t => decide (Vm.leaveV x.holds.length x.doors t op (comeOf less) = less.sum) with
  | none =>
    rw [List.find?_range_eq_none] at hf
    have := hf t h2
    rw [hpt] at this
    simp at this
  | some t' =>
    rw [List.find?_range_eq_some] at hf
    refine ⟨t', rfl, Nat.le_of_not_lt fun q => ?_⟩
    have := hf.2.2 t q
    rw [hpt] at this
    simp at this
theorem few_leave (V : HV h) (W : HV x) (b : HFew h x) (hl : people.length = h.holds.length) (hw : ∀ n ∈ people, 0 ≤ n ∧ n ≤ 10000) (hp : LsB people less) (hc : closedErr h.doors.length closed = 0) (hc2 : closedErr h.doors.length op = 0) (ho : ∀ z ∈ op, z ∈ closed) :
    (∃ t t' : Nat, t' ≤ t ∧ t ≤ 12 ∧ leaveR h people closed = ((t : Int), 0) ∧ leaveR x less op = ((t' : Int), 0)) ∨ (leaveR h people closed = (0, 12) ∧ ∃ r, leaveR x less op = r) := by
  have q1 := leaveErr_ok V hl hw hc
  have q2 : leaveErr x less op = 0 := leaveErr_ok W (by rw [hp.len, hl, b.holds]) (fun n hn => by
    obtain ⟨j, hj, rfl⟩ := List.getElem_of_mem hn
    have h1 := hp.bet j (by have := hp.len; omega)
    rw [List.getD_eq_getElem?_getD, List.getElem?_eq_getElem hj] at h1
    have h2 := come_bd hw (by omega) j
    unfold comeOf at h2
    simp only [Option.getD_some] at h1
    omega) (by rw [b.doors.len]; exact hc2)
  unfold leaveR
  rw [if_pos q1, if_pos q2]
  cases hT : leaveT h people closed with
  | none => exact .inr ⟨rfl, _, rfl⟩
  | some t =>
    obtain ⟨t', e, hle⟩ := few_leaveT V W b hl hw hp ho hT
    rw [e]
    refine .inl ⟨t, t', hle, ?_, rfl, rfl⟩
    unfold leaveT at hT
    rw [List.find?_range_eq_some] at hT
    have := hT.2.1
    rw [List.mem_range] at this
    omega
theorem fold_best {ticks : Nat} (hh : x.holds = h.holds) (ho : ∀ s, outS h ticks closed s ≤ outS x ticks op s) : ∀ (L : List Nat) (p q : Int), p ≤ q → L.foldl (bestS h ticks closed) p ≤ L.foldl (bestS x ticks op) q
  | [], _, _, hpq => hpq
  | s :: L, p, q, hpq => by
    rw [List.foldl_cons, List.foldl_cons]
    refine fold_best hh ho L _ _ ?_
    have := ho s
    unfold bestS
    rw [hh]
    split <;> split <;> omega
theorem few_admit (V : HV h) (W : HV x) (b : HFew h x) (ho : ∀ z ∈ op, z ∈ closed) (ticks : Nat) : admitV h ticks closed ≤ admitV x ticks op := by
  unfold admitV
  rw [b.holds]
  refine fold_best b.holds (fun s => ?_) _ _ _ (Int.le_refl _)
  have W2 := doors_ok W
  rw [b.holds] at W2
  have hcs : ∀ i, 0 ≤ comeS s i ∧ comeS s i ≤ 1073741824 := fun i => by unfold comeS; split <;> omega
  have g1 := leave_few (ticks := ticks) (c := comeS s) (c' := comeS s) V.n0 (doors_ok V) W2 b.doors ho (fun i _ => hcs i) fun i _ => ⟨(hcs i).1, Int.le_refl _⟩
  unfold outS
  rw [b.holds]
  omega
end
end Go.Proofs.Ytmagiabapakhcaa

/- A buffer that a temporary leads to is read as plain data. (Vm) -/
namespace Go.Proofs.Ytmagiabapakhcaa.Vm
open Go
section
variable {P : Program} {T : Tab} {cx : Cx} {e : Env} {M : Mem} {D : List Nat} {Q : PQ} {c : Code}
theorem so_plain {w : World} {K : Nat → Option Nat} {H : List VObj} {v : Value} {g k : Nat} {xs : List (List PV)} (h : RepV w K H v (.so g k xs)) : RepV w K H v (.p (.sl k xs)) := by
  cases h with
  | so _ _ _ _ h _ => exact .p _ _ h
/-- a slice of our own, read as plain data -/
theorem W_strip {t g k : Nat} {xs : List (List PV)} (ht : get e t = .so g k xs) (h : WCode P cx c ((t, .p (.sl k xs)) :: e) M D Q) : WCode P cx c e M D Q := by
  intro G w K a hs
  have hf2 : FrOk w K M cx.nt a.tmps ((t, .p (.sl k xs)) :: e) := by
    refine ⟨hs.fr.size, fun t' => ?_, fun t' => ?_⟩
    · rw [get_cons]
      by_cases h1 : t' = t
      · subst h1
        rw [if_pos rfl]
        have := hs.fr.rep t'
        rw [ht] at this
        exact so_plain this
      · rw [if_neg h1]; exact hs.fr.rep t'
    · rw [get_cons]
      by_cases h1 : t' = t
      · rw [if_pos h1]
        intro r hr
        simp [refs] at hr
      · rw [if_neg h1]; exact hs.fr.cl t'
  exact h G w K a ⟨hf2, hs.df, hs.inv, hs.rd⟩
theorem W_frzT {t id n k : Nat} {xs : List (List PV)} (h1 : M.H[id]? = some (.obj (xs.flatten.map .p))) (ht : get e t = .bf id 0 n k) (hk : ∀ x ∈ xs, x.length = k) (hn : xs.length = n)
    (h : WCode P cx c ((t, .p (.sl k xs)) :: e) ⟨M.H.set id .dead, M.lg⟩ D Q) : WCode P cx c e M D Q := by
  intro G w K a hs
  have i1 := hs.inv
  have hil := (List.getElem?_eq_some_iff.1 h1).1
  obtain ⟨H2, hH2⟩ : ∃ H2, H2 = M.H.set id .dead := ⟨_, rfl⟩
  rw [← hH2] at h
  have hl2 : H2.length = M.H.length := by rw [hH2]; simp
  have hs2 : ∀ i x, H2[i]? = some x → (i = id ∧ x = .dead) ∨ (i ≠ id ∧ M.H[i]? = some x) := fun i x hx => by
    rw [hH2] at hx
    rcases set_get hx with ⟨rfl, rfl, _⟩ | ⟨b1, b2⟩
    · exact .inl ⟨rfl, rfl⟩
    · exact .inr ⟨b1, b2⟩
  have hE : Ext w K M.H w K H2 := by
    refine ⟨Nat.le_refl _, Szp.refl _, fun b q _ him i ob hi hb => ?_, fun _ _ _ _ => rfl, fun i x hi => ?_⟩
    · rcases hs2 i ob hi with ⟨rfl, rfl⟩ | ⟨_, h2⟩
      · exact .inl trivial
      · exact him i ob h2 hb
    · by_cases hid : i = id
      · subst hid
        rw [h1] at hi
        cases hi
        exact ⟨.dead, by rw [hH2, List.getElem?_set_self hil], fun _ _ e => VObj.noConfusion e, rfl⟩
      · exact ⟨x, by rw [hH2, List.getElem?_set_ne (Ne.symm hid)]; exact hi, objLe_same rfl fun b _ => rfl⟩
  have key : ∀ v, RepV w K M.H v (.bf id 0 n k) → RepV w K H2 v (.p (.sl k xs)) := by
    intro v hv
    cases hv with
    | bf _ _ _ _ b cc A hK hnc hc hm hA hz =>
      by_cases hn0 : n = 0
      · subst hn0
        obtain rfl := List.length_eq_zero_iff.1 hn
        exact .p _ _ (.sl A cc k 0 0 [] (fun _ _ => undef) (by simp) hm (by simp) (by simp) (by simp) (by simp) (by simp))
      obtain ⟨vs, t, q1, q2, q3⟩ := i1.obj id _ h1 _ (hK hn0)
      have hfl := flat_lenV hk
      have hcell : ∀ i x l u, xs[i]? = some x → x[l]? = some u → ∃ v, vs[i * k + l]? = some v ∧ RepP w (Im K M.H) v u := by
        intro i x l u hx hu
        have hx1 := hk x (List.mem_of_getElem? hx)
        have hi' := (List.getElem?_eq_some_iff.1 hx).1
        have hl' := (List.getElem?_eq_some_iff.1 hu).1
        have hat : xs.flatten[i * k + l]? = some u := by
          have := flat_get (k := k) hk hx (show l < k by omega)
          rw [this]; exact hu
        have hc1 : (xs.flatten.map VV.p)[i * k + l]? = some (.p u) := by rw [List.getElem?_map, hat]; rfl
        have hlt : i * k + l < vs.size := by
          have := (List.getElem?_eq_some_iff.1 hc1).1
          omega
        have hv := Array.getElem?_eq_getElem hlt
        generalize vs[i * k + l] = v at hv
        refine ⟨v, hv, ?_⟩
        obtain ⟨r1, _⟩ := q3 _ _ _ hv hc1
        cases r1 with
        | p _ _ h => exact h
      have him : ∀ q, Im K H2 b q := by
        intro q i ob hob hKi
        have hi := (List.getElem?_eq_some_iff.1 hob).1
        by_cases hgo : ob = .gone
        · subst hgo; exact .inl trivial
        have hg1 : M.H[i]? ≠ some .gone := by
          rcases hs2 i ob hob with ⟨rfl, rfl⟩ | ⟨_, h2⟩
          · rw [h1]; simp
          · rw [h2]; simpa using hgo
        have := i1.inj i id b (by omega) hil hg1 (by rw [h1]; simp) hKi (hK hn0)
        subst this
        rcases hs2 i ob hob with ⟨_, rfl⟩ | ⟨h5, _⟩
        · exact .inl trivial
        · exact absurd rfl h5
      have hkey : RepV w K H2 (.slice A xs.length cc) (.p (.sl k xs)) := by
        refine .p _ _ (.sl A cc k b 0 xs (fun i l => vs.getD (i * k + l) undef) (by omega) hm hk (fun _ => hA hn0) (fun i x l u hx hu => him _) (fun i x l u hx hu => ?_) fun i x l u hx hu => ?_)
        · obtain ⟨v, hv, _⟩ := hcell i x l u hx hu
          simp only [World.cell?, q1, Nat.zero_add]
          simp [hv]
        · obtain ⟨v, hv, hP⟩ := hcell i x l u hx hu
          have : vs.getD (i * k + l) undef = v := by simp [hv]
          rw [this]
          exact hP.of_ext hE
      rw [hn] at hkey
      exact hkey
  have hI2 : Inv G w K { H := H2, lg := M.lg } := by
    refine ⟨i1.os, i1.tape, i1.output, i1.size, i1.gB, i1.old, inj_set i1 hl2 (fun i hg => by
      by_cases e1 : i = id
      · rw [e1, h1]; simp
      · rw [hH2, List.getElem?_set_ne (fun h => e1 h.symm)] at hg
        exact hg), fun i b hi => i1.blk i b (by simpa [hl2] using hi), fun i x hi => ?_, fun i x hi cc hcc r hr => ?_, fun en hen => ?_, fun i L hi => ?_⟩
    · rcases hs2 i x hi with ⟨rfl, rfl⟩ | ⟨_, h2⟩
      · exact trivial
      · exact (i1.obj i x h2).ext hE (fun _ _ => rfl) (i1.content h2)
    · simp only [hl2]
      rcases hs2 i x hi with ⟨rfl, rfl⟩ | ⟨_, h2⟩
      · simp [contents] at hcc
      · exact i1.cl i x h2 cc hcc r hr
    · simp only [hl2]
      exact i1.lg en hen
    · rcases hs2 i _ hi with ⟨rfl, e2⟩ | ⟨_, h2⟩
      · cases e2
      · exact i1.lpd i L h2
  have hf := hs.fr.ext (M' := { H := H2, lg := M.lg }) hE
  have hf2 : FrOk w K { H := H2, lg := M.lg } cx.nt a.tmps ((t, .p (.sl k xs)) :: e) := by
    refine ⟨hf.size, fun t' => ?_, fun t' => ?_⟩
    · rw [get_cons]
      by_cases h1 : t' = t
      · subst h1
        rw [if_pos rfl]
        have := hs.fr.rep t'
        rw [ht] at this
        exact key _ this
      · rw [if_neg h1]; exact hf.rep t'
    · rw [get_cons]
      by_cases h1 : t' = t
      · rw [if_pos h1]
        intro r hr
        simp [refs] at hr
      · rw [if_neg h1]; exact hf.cl t'
  have hs3 : StOk cx G w K { H := H2, lg := M.lg } a ((t, .p (.sl k xs)) :: e) D := ⟨hf2, df_ext (M' := { H := H2, lg := M.lg }) hE hs.df, hI2, (rd_ext (M' := { H := H2, lg := M.lg }) hE hs.rd).1⟩
  have h2 := h G w _ a hs3
  exact wpIn_mono h2 fun ex a' w' ⟨e', M', K', D', q1, q2, q3, q4⟩ => ⟨e', M', K', D', q1, q2, q3, hE.trans q4⟩
end
end Go.Proofs.Ytmagiabapakhcaa.Vm

/- The law of fewer people and greater flows, on values. (Vm) -/
namespace Go.Proofs.Ytmagiabapakhcaa.Vm
open Go Go.Proofs
attribute [local irreducible] castF castU fromF fromU oneF oneU onceF
theorem cellsD_cons (x : Do) (l : List Do) : cellsD (x :: l) = vi x.a :: vi x.b :: vi x.flow :: cellsD l := rfl
theorem cellsD_app (l m : List Do) : cellsD (l ++ m) = cellsD l ++ cellsD m := by simp [cellsD]
theorem cellsD_len : ∀ l : List Do, (cellsD l).length = l.length * 3
  | [] => rfl
  | x :: l => by
    rw [cellsD_cons]
    simp only [List.length_cons]
    rw [cellsD_len l]
    omega
set_option maxHeartbeats 8000000 in
set_option maxRecDepth 8000 in
theorem fewer_law_v (xs : List Int) (M : Mem) (hl : xs.length ≤ maxLen) : VC Try.prog 10 [intsV xs] M (fun r M' => M' = M ∧ r = vb true) := by
  refine VC_own' T_ok (f := 10) (fn := Try.f10) (by kernel_rfl) rfl Try.ntmps10 (by rfl) (by rfl) ?_
  ((repeat refine W_seq ?_); refine W_region0 T_ok ?_)
  simp (maxSteps := 1000000) only [VL, VM, ↓VG, reduceIte, reduceCtorEq, Int.reduceLE, Int.reduceLT, Int.reduceToNat, Int.reduceNeg, Nat.reduceLT, Nat.reduceEqDiff, Nat.reduceAdd, Nat.reduceSub, Nat.reduceMul, Nat.reduceLeDiff]
  ((repeat refine W_seq ?_); refine W_region0 T_ok ?_)
  simp (maxSteps := 1000000) only [VL, VM, ↓VG, reduceIte, reduceCtorEq, Int.reduceLE, Int.reduceLT, Int.reduceToNat, Int.reduceNeg, Nat.reduceLT, Nat.reduceEqDiff, Nat.reduceAdd, Nat.reduceSub, Nat.reduceMul, Nat.reduceLeDiff]
  apply call_eq (f := 20) (fn := Try.f20) (by kernel_rfl) (by rfl)
  · exact dieOf_v xs M hl
  obtain ⟨H0, hH0⟩ : ∃ H0, H0 = M.H ++ [VObj.dead] := ⟨_, rfl⟩
  obtain ⟨d, hdd⟩ : ∃ d, d = M.H.length := ⟨_, rfl⟩
  have hd : d < H0.length := by rw [hH0, hdd]; simp
  have hlen0 : H0.length = M.H.length + 1 := by rw [hH0]; simp
  rw [← hH0, ← hdd]
  have tail : ∀ u L, DH H0 d u L = M.H ++ (.obj [uv u] :: L) := fun u L => by rw [hH0, hdd]; exact DH_tail M u L
  generalize dieU xs = u0
  simp (maxSteps := 1000000) only [VL, VM, ↓VG, reduceIte, reduceCtorEq, Int.reduceLE, Int.reduceLT, Int.reduceToNat, Int.reduceNeg, Nat.reduceLT, Nat.reduceEqDiff, Nat.reduceAdd, Nat.reduceSub, Nat.reduceMul, Nat.reduceLeDiff]
  ((repeat refine W_seq ?_); refine W_region0 T_ok ?_)
  simp (maxSteps := 1000000) only [VL, VM, ↓VG, reduceIte, reduceCtorEq, Int.reduceLE, Int.reduceLT, Int.reduceToNat, Int.reduceNeg, Nat.reduceLT, Nat.reduceEqDiff, Nat.reduceAdd, Nat.reduceSub, Nat.reduceMul, Nat.reduceLeDiff]
  have o1 := oneF_mem (u := u0) (xs := [10, 200]) (by simp) (by simp)
  apply call_eq (f := 28) (fn := Try.f28) (by kernel_rfl) (by rfl)
  · exact one_c hd u0 [10, 200] M.lg (by simp) (by simp)
  generalize oneF u0 [10, 200] = P at o1 ⊢
  generalize oneU u0 [10, 200] = u1
  have hP : 1 ≤ P ∧ P ≤ 200 := by
    simp only [List.mem_cons, List.not_mem_nil, or_false] at o1
    rcases o1 with e | e <;> rw [e] <;> omega
  simp (maxSteps := 1000000) only [VL, VM, ↓VG, reduceIte, reduceCtorEq, Int.reduceLE, Int.reduceLT, Int.reduceToNat, Int.reduceNeg, Nat.reduceLT, Nat.reduceEqDiff, Nat.reduceAdd, Nat.reduceSub, Nat.reduceMul, Nat.reduceLeDiff]
  refine fn_call (f := 19) (fn := Try.f19) (by kernel_rfl) (by rfl) ?_
  refine (houseOf_v hd u1 M.lg 4 5 2 P (by omega) (by omega) (by omega) (by omega)).mono ?_
  rintro _ _ ⟨h, ts, u2, rfl, rfl, m⟩
  have mV := m.V
  have n1 := mV.n1
  have d1 := mV.d1
  have c1 := mV.c1
  have zd : h.doors.length ≤ 1000 := by omega
  have zh : h.holds.length ≤ 1000 := by omega
  simp (maxSteps := 1000000) only [VL, VM, ↓VG, reduceIte, reduceCtorEq, Int.reduceLE, Int.reduceLT, Int.reduceToNat, Int.reduceNeg, Nat.reduceLT, Nat.reduceEqDiff, Nat.reduceAdd, Nat.reduceSub, Nat.reduceMul, Nat.reduceLeDiff, DH_app hd, DH_len, DH_len0, DH_get hd, DH_get0 hd, DH_set hd, DH_set0 hd, DH_setd, DH_die hd]
  (repeat refine W_seq ?_)
  refine W_drawP T_ok [] (by kernel_rfl) (by kernel_rfl) ?_
  generalize hi : mkPlan _ = infs
  cbv at hi
  subst hi
  simp (maxSteps := 1000000) only [VL, VM, ↓VG, reduceIte, reduceCtorEq, Int.reduceLE, Int.reduceLT, Int.reduceToNat, Int.reduceNeg, Nat.reduceLT, Nat.reduceEqDiff, Nat.reduceAdd, Nat.reduceSub, Nat.reduceMul, Nat.reduceLeDiff, DH_app hd, DH_len, DH_len0, DH_get hd, DH_get0 hd, DH_set hd, DH_set0 hd, DH_setd, DH_die hd]
  refine call_d (f := 30) (fn := Try.f30) (M1 := ⟨DH H0 d (spreadSt u2 80 h.holds.length).1 [.obj (houseC h)], M.lg⟩) (v := intsV (spreadSt u2 80 h.holds.length).2) (by kernel_rfl) (by rfl) ?_ ?_
  · have := spreadOf_v (H0 := H0 ++ [.obj (houseC h)]) (d := d) (by rw [List.length_append]; omega) u2 M.lg h 80 (by omega) zh
    rw [← DH_base, ← DH_base] at this
    exact this
  obtain ⟨pl, pb⟩ := spread_bd u2 (most := 80) (by omega) h.holds.length
  generalize (spreadSt u2 80 h.holds.length).1 = u3
  generalize (spreadSt u2 80 h.holds.length).2 = pp at pl pb ⊢
  simp (maxSteps := 1000000) only [VL, VM, ↓VG, reduceIte, reduceCtorEq, Int.reduceLE, Int.reduceLT, Int.reduceToNat, Int.reduceNeg, Nat.reduceLT, Nat.reduceEqDiff, Nat.reduceAdd, Nat.reduceSub, Nat.reduceMul, Nat.reduceLeDiff, DH_app hd, DH_len, DH_len0, DH_get hd, DH_get0 hd, DH_set hd, DH_set0 hd, DH_setd, DH_die hd]
  refine call_d (f := 29) (fn := Try.f29) (M1 := ⟨DH H0 d (shutSt u3 h.doors.length).1 [.obj (houseC h)], M.lg⟩) (v := intsV (shutSt u3 h.doors.length).2) (by kernel_rfl) (by rfl) ?_ ?_
  · have := shutOf_v (H0 := H0 ++ [.obj (houseC h)]) (d := d) (by rw [List.length_append]; omega) u3 M.lg h zd
    rw [← DH_base, ← DH_base] at this
    exact this
  have hshut := shut_ok u3 h.doors.length
  obtain ⟨hs1, hs2, hs3⟩ := shut_bd u3 h.doors.length
  generalize (shutSt u3 h.doors.length).1 = u4
  generalize (shutSt u3 h.doors.length).2 = closed at hshut hs1 hs2 hs3 ⊢
  simp (maxSteps := 1000000) only [VL, VM, ↓VG, reduceIte, reduceCtorEq, Int.reduceLE, Int.reduceLT, Int.reduceToNat, Int.reduceNeg, Nat.reduceLT, Nat.reduceEqDiff, Nat.reduceAdd, Nat.reduceSub, Nat.reduceMul, Nat.reduceLeDiff, DH_app hd, DH_len, DH_len0, DH_get hd, DH_get0 hd, DH_set hd, DH_set0 hd, DH_setd, DH_die hd]
  ((repeat refine W_seq ?_); refine W_region0 T_ok ?_)
  simp (maxSteps := 1000000) only [VL, VM, ↓VG, reduceIte, reduceCtorEq, Int.reduceLE, Int.reduceLT, Int.reduceToNat, Int.reduceNeg, Nat.reduceLT, Nat.reduceEqDiff, Nat.reduceAdd, Nat.reduceSub, Nat.reduceMul, Nat.reduceLeDiff, DH_app hd, DH_len, DH_len0, DH_get hd, DH_get0 hd, DH_set hd, DH_set0 hd, DH_setd, DH_die hd]
  refine fn_call (f := 21) (fn := Try.f21) (by kernel_rfl) (by rfl) ?_
  refine (copyHouse_own h _ (by omega) (by omega) (by omega)).mono ?_
  rintro _ _ ⟨X, hX, rfl, rfl⟩
  simp only [DH_app hd, DH_len, DH_len0, DH_get hd, DH_get0 hd, DH_set hd, DH_set0 hd, DH_setd, DH_die hd, List.length_cons, List.length_nil, Nat.add_assoc, Nat.reduceAdd] at hX ⊢
  simp (maxSteps := 1000000) only [VL, VM, ↓VG, reduceIte, reduceCtorEq, Int.reduceLE, Int.reduceLT, Int.reduceToNat, Int.reduceNeg, Nat.reduceLT, Nat.reduceEqDiff, Nat.reduceAdd, Nat.reduceSub, Nat.reduceMul, Nat.reduceLeDiff, DH_app hd, DH_len, DH_len0, DH_get hd, DH_get0 hd, DH_set hd, DH_set0 hd, DH_setd, DH_die hd]
  apply call_eq (f := 31) (fn := Try.f31) (by kernel_rfl) (by rfl)
  · exact copyInts_own pp _ (by omega)
  simp (maxSteps := 1000000) only [VL, VM, ↓VG, reduceIte, reduceCtorEq, Int.reduceLE, Int.reduceLT, Int.reduceToNat, Int.reduceNeg, Nat.reduceLT, Nat.reduceEqDiff, Nat.reduceAdd, Nat.reduceSub, Nat.reduceMul, Nat.reduceLeDiff, DH_app hd, DH_len, DH_len0, DH_get hd, DH_get0 hd, DH_set hd, DH_set0 hd, DH_setd, DH_die hd]
  obtain ⟨Y, y1, y2⟩ := addLg_Y (H0.length + 7) [H0.length + 3, H0.length + 4, H0.length + 5] (M.lg ++ X)
  rw [y1]
  have hXY : ∃ Z, M.lg ++ X ++ Y = M.lg ++ Z ∧ ∀ e ∈ Z, M.H.length ≤ e.1 := ⟨X ++ Y, List.append_assoc _ _ _, fun e he => by
    rcases List.mem_append.1 he with he | he
    · have := hX e he
      omega
    · have := (y2 e he).1
      omega⟩
  generalize M.lg ++ X ++ Y = lg at hXY ⊢
  clear y1 y2 hX
  ((repeat refine W_seq ?_); refine W_region0 T_ok ?_)
  simp (maxSteps := 1000000) only [VL, VM, ↓VG, reduceIte, reduceCtorEq, Int.reduceLE, Int.reduceLT, Int.reduceToNat, Int.reduceNeg, Nat.reduceLT, Nat.reduceEqDiff, Nat.reduceAdd, Nat.reduceSub, Nat.reduceMul, Nat.reduceLeDiff]
  ((repeat refine W_seq ?_); refine W_block ?_; (repeat refine W_seq ?_)); refine W_loopS (fun s : Nat × Int × List Do => [(3, .ptr d 0), (4, .ptr H0.length 0), (6, intsV pp), (7, intsV closed), (8, .ptr (H0.length + 7) 0), (9, .bf (H0.length + 6) 0 pp.length 1), (10, vi s.1)]) (fun s => ⟨DH H0 d s.2.1 [.obj (houseC h), .obj (bufH h (H0.length + 3)), .obj (bufH h (H0.length + 3)), .obj (h.holds.map vi), .obj (cellsD s.2.2), .obj (cellsC h.counts), .obj (pp.map vi), .obj (bufH h (H0.length + 3))], lg⟩) (fun s => h.doors.length - s.1) (fun s => s.1 ≤ h.doors.length ∧ DsB h.doors s.2.2 ∧ ∀ j, s.1 ≤ j → s.2.2.getD j do0 = h.doors.getD j do0) (0, u4, h.doors) ⟨Nat.zero_le _, DsB.refl _, fun _ _ => rfl⟩ ⟨rfl, rfl, rfl, rfl, rfl, rfl, rfl, trivial⟩ rfl ?_
  rintro ⟨i, u, gs⟩ ⟨hi, hgs, hun⟩
  simp only at hi hgs hun
  have hgl := hgs.len
  have k1 : -9223372036854775808 ≤ (i : Int) + 1 ∧ (i : Int) + 1 < 9223372036854775808 := by omega
  ((repeat refine W_seq ?_); refine W_region0 T_ok ?_)
  rcases Nat.lt_or_ge i h.doors.length with hlt | hge
  · have k2 : ((i : Int) < (h.doors.length : Int)) = True := eq_true (by omega)
    have hx : gs = gs.take i ++ gs.getD i do0 :: gs.drop (i + 1) := by
      rw [List.getD_eq_getElem?_getD, List.getElem?_eq_getElem (show i < gs.length by omega)]
      simp
    have hx0 := hun i (Nat.le_refl _)
    have hx9 : 0 ≤ (h.doors.getD i do0).flow ∧ (h.doors.getD i do0).flow ≤ 10000 := by
      rw [List.getD_eq_getElem?_getD, List.getElem?_eq_getElem hlt]
      have := mV.doors _ (List.getElem_mem hlt)
      exact ⟨this.f0, this.f1⟩
    have hup := fun y hy => hgs.up (i := i) (y := y) hlt hy
    have hun2 : ∀ q j, i + 1 ≤ j → (gs.set i q).getD j do0 = h.doors.getD j do0 := fun q j hj => by
      rw [List.getD_eq_getElem?_getD, List.getElem?_set_ne (by omega), ← List.getD_eq_getElem?_getD]
      exact hun j (by omega)
    have hset : ∀ y, gs.set i y = gs.take i ++ y :: gs.drop (i + 1) := fun y => by rw [List.set_eq_take_append_cons_drop, if_pos (by omega)]
    rw [← hx0] at hx9 hup
    generalize gs.getD i do0 = x at hx hx0 hup hx9
    have hA : (cellsD (gs.take i)).length = i * 3 := by rw [cellsD_len, List.length_take]; congr 1; omega
    have hxc : cellsD gs = cellsD (gs.take i) ++ vi x.a :: vi x.b :: vi x.flow :: cellsD (gs.drop (i + 1)) := by
      conv => lhs; rw [hx]
      rw [cellsD_app, cellsD_cons]
    have hsc : ∀ f, cellsD (gs.set i ⟨x.a, x.b, f⟩) = cellsD (gs.take i) ++ vi x.a :: vi x.b :: vi f :: cellsD (gs.drop (i + 1)) := fun f => by rw [hset, cellsD_app, cellsD_cons]
    rw [hxc]
    have hupx := fun f hy => hup ⟨x.a, x.b, f⟩ hy
    clear hxc hup hset
    generalize cellsD (gs.take i) = A at hA hsc ⊢
    generalize cellsD (gs.drop (i + 1)) = B at hsc ⊢
    have a2 : ∀ l : List VV, (A ++ l)[i * 3 + 2]? = l[2]? := fun l => by rw [← hA, List.getElem?_append_right (by omega), Nat.add_sub_cancel_left]
    have t2 : ∀ l : List VV, (A ++ l).take (i * 3 + 2) = A ++ l.take 2 := fun l => by rw [← hA, List.take_append, List.take_of_length_le (by omega)]; simp
    have d3 : ∀ l : List VV, (A ++ l).drop (i * 3 + 3) = l.drop 3 := fun l => by rw [← hA, List.drop_append]; simp
    have e3 : ∀ b : Nat, (i * 3 + 3 ≤ i * 3 + (b + 3)) = True := fun b => eq_true (by omega)
    have c1 := castF_range (u := u) (n := 9) (by omega)
    have ho := oneF_mem (u := castU u 9) (xs := [0, castF u 9]) (by simp) (by simp)
    simp (maxSteps := 1000000) only [VL, VM, ↓VG, reduceIte, reduceCtorEq, Int.reduceLE, Int.reduceLT, Int.reduceToNat, Int.reduceNeg, Nat.reduceLT, Nat.reduceEqDiff, Nat.reduceAdd, Nat.reduceSub, Nat.reduceMul, Nat.reduceLeDiff, k2, DH_app hd, DH_len, DH_len0, DH_get hd, DH_get0 hd, DH_set hd, DH_set0 hd, DH_setd, DH_die hd]
    ((repeat refine W_seq ?_); refine W_cond (b := true) (by first | rfl | simp only [ev, get_cons, Nat.reduceEqDiff, if_true, if_false, reduceIte]) (fun _ => ?_) (fun h => by cases h))
    ((repeat refine W_seq ?_); refine W_skip ?_)
    simp (maxSteps := 1000000) only [VL, VM, ↓VG, reduceIte, reduceCtorEq, Int.reduceLE, Int.reduceLT, Int.reduceToNat, Int.reduceNeg, Nat.reduceLT, Nat.reduceEqDiff, Nat.reduceAdd, Nat.reduceSub, Nat.reduceMul, Nat.reduceLeDiff]
    ((repeat refine W_seq ?_); refine W_block ?_)
    (repeat refine W_seq ?_)
    refine W_drawP T_ok [] (by kernel_rfl) (by kernel_rfl) ?_
    generalize hi : mkPlan _ = infs
    cbv at hi
    subst hi
    simp (maxSteps := 1000000) only [VL, VM, ↓VG, reduceIte, reduceCtorEq, Int.reduceLE, Int.reduceLT, Int.reduceToNat, Int.reduceNeg, Nat.reduceLT, Nat.reduceEqDiff, Nat.reduceAdd, Nat.reduceSub, Nat.reduceMul, Nat.reduceLeDiff, DH_app hd, DH_len, DH_len0, DH_get hd, DH_get0 hd, DH_set hd, DH_set0 hd, DH_setd, DH_die hd, eq_true hlt, hA, a2, t2, d3, e3]
    apply call_d (f := 45) (fn := Try.f45) (by kernel_rfl) (by rfl)
    · exact cast_c hd u 9 _ (by omega)
    simp (maxSteps := 1000000) only [VL, VM, ↓VG, reduceIte, reduceCtorEq, Int.reduceLE, Int.reduceLT, Int.reduceToNat, Int.reduceNeg, Nat.reduceLT, Nat.reduceEqDiff, Nat.reduceAdd, Nat.reduceSub, Nat.reduceMul, Nat.reduceLeDiff, DH_app hd, DH_len, DH_len0, DH_get hd, DH_get0 hd, DH_set hd, DH_set0 hd, DH_setd, DH_die hd, eq_true hlt, hA, a2, t2, d3, e3]
    apply call_d (f := 28) (fn := Try.f28) (by kernel_rfl) (by rfl)
    · exact one_c hd (castU u 9) [0, castF u 9] _ (by simp) (by simp)
    generalize castF u 9 = y1 at *
    generalize castU u 9 = v1 at *
    generalize hb9 : oneF v1 [0, y1] = b9 at *
    clear hb9
    generalize oneU v1 [0, y1] = v2
    have hb0 : 0 ≤ b9 ∧ b9 ≤ 8 := by
      simp only [List.mem_cons, List.not_mem_nil, or_false] at ho
      rcases ho with ho | ho <;> rw [ho] <;> omega
    have r1 : -9223372036854775808 ≤ x.flow + b9 ∧ x.flow + b9 < 9223372036854775808 := by omega
    simp (maxSteps := 1000000) only [VL, VM, ↓VG, reduceIte, reduceCtorEq, Int.reduceLE, Int.reduceLT, Int.reduceToNat, Int.reduceNeg, Nat.reduceLT, Nat.reduceEqDiff, Nat.reduceAdd, Nat.reduceSub, Nat.reduceMul, Nat.reduceLeDiff, DH_app hd, DH_len, DH_len0, DH_get hd, DH_get0 hd, DH_set hd, DH_set0 hd, DH_setd, DH_die hd, eq_true hlt, hA, a2, t2, d3, e3, r1]
    ((repeat refine W_seq ?_); refine W_region0 T_ok ?_)
    simp (maxSteps := 1000000) only [VL, VM, ↓VG, reduceIte, reduceCtorEq, Int.reduceLE, Int.reduceLT, Int.reduceToNat, Int.reduceNeg, Nat.reduceLT, Nat.reduceEqDiff, Nat.reduceAdd, Nat.reduceSub, Nat.reduceMul, Nat.reduceLeDiff, k1]
    refine LoopK.mk (i + 1, v2, gs.set i ⟨x.a, x.b, x.flow + b9⟩) (by simp only; omega) ⟨by simp only; omega, hupx (x.flow + b9) ⟨rfl, rfl, by simp only; omega, by simp only; omega⟩, hun2 _⟩ ⟨rfl, rfl, rfl, rfl, rfl, rfl, rfl, trivial⟩ ?_
    simp only
    rw [hsc]
  have k2 : ((i : Int) < (h.doors.length : Int)) = False := eq_false (by omega)
  simp (maxSteps := 1000000) only [VL, VM, ↓VG, reduceIte, reduceCtorEq, Int.reduceLE, Int.reduceLT, Int.reduceToNat, Int.reduceNeg, Nat.reduceLT, Nat.reduceEqDiff, Nat.reduceAdd, Nat.reduceSub, Nat.reduceMul, Nat.reduceLeDiff, k2, DH_app hd, DH_len, DH_len0, DH_get hd, DH_get0 hd, DH_set hd, DH_set0 hd, DH_setd, DH_die hd]
  ((repeat refine W_seq ?_); refine W_cond (b := false) (by first | rfl | simp only [ev, get_cons, Nat.reduceEqDiff, if_true, if_false, reduceIte]) (fun h => by cases h) (fun _ => ?_))
  ((repeat refine W_seq ?_); refine W_exit ?_)
  simp (maxSteps := 1000000) only [VL, VM, ↓VG, reduceIte, reduceCtorEq, Int.reduceLE, Int.reduceLT, Int.reduceToNat, Int.reduceNeg, Nat.reduceLT, Nat.reduceEqDiff, Nat.reduceAdd, Nat.reduceSub, Nat.reduceMul, Nat.reduceLeDiff]
  clear hun hge k2 k1 hi
  ((repeat refine W_seq ?_); refine W_region0 T_ok ?_)
  simp (maxSteps := 1000000) only [VL, VM, ↓VG, reduceIte, reduceCtorEq, Int.reduceLE, Int.reduceLT, Int.reduceToNat, Int.reduceNeg, Nat.reduceLT, Nat.reduceEqDiff, Nat.reduceAdd, Nat.reduceSub, Nat.reduceMul, Nat.reduceLeDiff]
  ((repeat refine W_seq ?_); refine W_block ?_; (repeat refine W_seq ?_)); refine W_loopS (fun s : Nat × Int × List Int => [(3, .ptr d 0), (4, .ptr H0.length 0), (6, intsV pp), (7, intsV closed), (8, .ptr (H0.length + 7) 0), (9, .bf (H0.length + 6) 0 pp.length 1), (11, vi s.1)]) (fun s => ⟨DH H0 d s.2.1 [.obj (houseC h), .obj (bufH h (H0.length + 3)), .obj (bufH h (H0.length + 3)), .obj (h.holds.map vi), .obj (cellsD gs), .obj (cellsC h.counts), .obj (s.2.2.map vi), .obj (bufH h (H0.length + 3))], lg⟩) (fun s => pp.length - s.1) (fun s => s.1 ≤ pp.length ∧ LsB pp s.2.2 ∧ ∀ j, s.1 ≤ j → s.2.2.getD j 0 = pp.getD j 0) (0, u, pp) ⟨Nat.zero_le _, LsB.refl (fun z hz => (pb z hz).1), fun _ _ => rfl⟩ ⟨rfl, rfl, rfl, rfl, rfl, rfl, rfl, trivial⟩ rfl ?_
  clear u
  rintro ⟨i, u, ms⟩ ⟨hi, hbs, hun⟩
  simp only at hi hbs hun
  have hbl := hbs.len
  have k1 : -9223372036854775808 ≤ (i : Int) + 1 ∧ (i : Int) + 1 < 9223372036854775808 := by omega
  ((repeat refine W_seq ?_); refine W_region0 T_ok ?_)
  rcases Nat.lt_or_ge i pp.length with hlt | hge
  · have k2 : ((i : Int) < (pp.length : Int)) = True := eq_true (by omega)
    have hx : ms[i]? = some (ms.getD i 0) := by
      rw [List.getD_eq_getElem?_getD, List.getElem?_eq_getElem (show i < ms.length by omega)]; rfl
    have hx0 := hun i (Nat.le_refl _)
    have hx9 : 0 ≤ pp.getD i 0 ∧ pp.getD i 0 ≤ 80 := by
      refine pb _ ?_
      rw [List.getD_eq_getElem?_getD, List.getElem?_eq_getElem hlt]
      exact List.getElem_mem hlt
    have hup := fun q (h0 : 0 ≤ q ∧ q ≤ pp.getD i 0) => hbs.up (i := i) (y := q) hlt h0
    have hun2 : ∀ q j, i + 1 ≤ j → (ms.set i q).getD j 0 = pp.getD j 0 := fun q j hj => by
      rw [List.getD_eq_getElem?_getD, List.getElem?_set_ne (by omega), ← List.getD_eq_getElem?_getD]
      exact hun j (by omega)
    rw [← hx0] at hx9 hup
    generalize ms.getD i 0 = x at hx hx0 hup hx9
    have hx1 : (List.map vi ms)[i]? = some (vi x) := by rw [List.getElem?_map, hx]; rfl
    have hx3 : (i + 1 ≤ ms.length) = True := eq_true (by omega)
    have f1 := fromF_range (u := u) (lo := 0) (hi := x) (by omega)
    have ho := oneF_mem (u := fromU u 0 x) (xs := [x, fromF u 0 x]) (by simp) (by simp)
    simp (maxSteps := 1000000) only [VL, VM, ↓VG, reduceIte, reduceCtorEq, Int.reduceLE, Int.reduceLT, Int.reduceToNat, Int.reduceNeg, Nat.reduceLT, Nat.reduceEqDiff, Nat.reduceAdd, Nat.reduceSub, Nat.reduceMul, Nat.reduceLeDiff, k2, DH_app hd, DH_len, DH_len0, DH_get hd, DH_get0 hd, DH_set hd, DH_set0 hd, DH_setd, DH_die hd]
    ((repeat refine W_seq ?_); refine W_cond (b := true) (by first | rfl | simp only [ev, get_cons, Nat.reduceEqDiff, if_true, if_false, reduceIte]) (fun _ => ?_) (fun h => by cases h))
    ((repeat refine W_seq ?_); refine W_skip ?_)
    simp (maxSteps := 1000000) only [VL, VM, ↓VG, reduceIte, reduceCtorEq, Int.reduceLE, Int.reduceLT, Int.reduceToNat, Int.reduceNeg, Nat.reduceLT, Nat.reduceEqDiff, Nat.reduceAdd, Nat.reduceSub, Nat.reduceMul, Nat.reduceLeDiff]
    ((repeat refine W_seq ?_); refine W_block ?_)
    (repeat refine W_seq ?_)
    refine W_drawP T_ok [] (by kernel_rfl) (by kernel_rfl) ?_
    generalize hi : mkPlan _ = infs
    cbv at hi
    subst hi
    simp (maxSteps := 1000000) only [VL, VM, ↓VG, reduceIte, reduceCtorEq, Int.reduceLE, Int.reduceLT, Int.reduceToNat, Int.reduceNeg, Nat.reduceLT, Nat.reduceEqDiff, Nat.reduceAdd, Nat.reduceSub, Nat.reduceMul, Nat.reduceLeDiff, DH_app hd, DH_len, DH_len0, DH_get hd, DH_get0 hd, DH_set hd, DH_set0 hd, DH_setd, DH_die hd, eq_true hlt, hx1]
    apply call_d (f := 51) (fn := Try.f51) (by kernel_rfl) (by rfl)
    · exact from_c hd u 0 x _ (by omega) (by omega) (by omega) (by omega)
    simp (maxSteps := 1000000) only [VL, VM, ↓VG, reduceIte, reduceCtorEq, Int.reduceLE, Int.reduceLT, Int.reduceToNat, Int.reduceNeg, Nat.reduceLT, Nat.reduceEqDiff, Nat.reduceAdd, Nat.reduceSub, Nat.reduceMul, Nat.reduceLeDiff, DH_app hd, DH_len, DH_len0, DH_get hd, DH_get0 hd, DH_set hd, DH_set0 hd, DH_setd, DH_die hd, eq_true hlt, hx1]
    apply call_d (f := 28) (fn := Try.f28) (by kernel_rfl) (by rfl)
    · exact one_c hd (fromU u 0 x) [x, fromF u 0 x] _ (by simp) (by simp)
    generalize fromF u 0 x = y1 at *
    generalize fromU u 0 x = v1 at *
    generalize hb9 : oneF v1 [x, y1] = b9 at *
    clear hb9
    generalize oneU v1 [x, y1] = v2
    have hb0 : 0 ≤ b9 ∧ b9 ≤ x := by
      simp only [List.mem_cons, List.not_mem_nil, or_false] at ho
      rcases ho with ho | ho <;> rw [ho] <;> omega
    have hx2 : List.map vi (List.take i ms) ++ vi b9 :: List.map vi (List.drop (i + 1) ms) = List.map vi (ms.set i b9) := by
      rw [List.set_eq_take_append_cons_drop, if_pos (by omega)]
      simp
    simp (maxSteps := 1000000) only [VL, VM, ↓VG, reduceIte, reduceCtorEq, Int.reduceLE, Int.reduceLT, Int.reduceToNat, Int.reduceNeg, Nat.reduceLT, Nat.reduceEqDiff, Nat.reduceAdd, Nat.reduceSub, Nat.reduceMul, Nat.reduceLeDiff, DH_app hd, DH_len, DH_len0, DH_get hd, DH_get0 hd, DH_set hd, DH_set0 hd, DH_setd, DH_die hd, eq_true hlt, hx1, hx2, hx3]
    ((repeat refine W_seq ?_); refine W_region0 T_ok ?_)
    simp (maxSteps := 1000000) only [VL, VM, ↓VG, reduceIte, reduceCtorEq, Int.reduceLE, Int.reduceLT, Int.reduceToNat, Int.reduceNeg, Nat.reduceLT, Nat.reduceEqDiff, Nat.reduceAdd, Nat.reduceSub, Nat.reduceMul, Nat.reduceLeDiff, k1]
    exact LoopK.mk (i + 1, v2, ms.set i b9) (by simp only; omega) ⟨by simp only; omega, hup b9 hb0, hun2 _⟩ ⟨rfl, rfl, rfl, rfl, rfl, rfl, rfl, trivial⟩ rfl
  have k2 : ((i : Int) < (pp.length : Int)) = False := eq_false (by omega)
  simp (maxSteps := 1000000) only [VL, VM, ↓VG, reduceIte, reduceCtorEq, Int.reduceLE, Int.reduceLT, Int.reduceToNat, Int.reduceNeg, Nat.reduceLT, Nat.reduceEqDiff, Nat.reduceAdd, Nat.reduceSub, Nat.reduceMul, Nat.reduceLeDiff, k2, DH_app hd, DH_len, DH_len0, DH_get hd, DH_get0 hd, DH_set hd, DH_set0 hd, DH_setd, DH_die hd]
  ((repeat refine W_seq ?_); refine W_cond (b := false) (by first | rfl | simp only [ev, get_cons, Nat.reduceEqDiff, if_true, if_false, reduceIte]) (fun h => by cases h) (fun _ => ?_))
  ((repeat refine W_seq ?_); refine W_exit ?_)
  simp (maxSteps := 1000000) only [VL, VM, ↓VG, reduceIte, reduceCtorEq, Int.reduceLE, Int.reduceLT, Int.reduceToNat, Int.reduceNeg, Nat.reduceLT, Nat.reduceEqDiff, Nat.reduceAdd, Nat.reduceSub, Nat.reduceMul, Nat.reduceLeDiff]
  clear hun hge k2 k1 hi
  ((repeat refine W_seq ?_); refine W_region0 T_ok ?_)
  simp (maxSteps := 1000000) only [VL, VM, ↓VG, reduceIte, reduceCtorEq, Int.reduceLE, Int.reduceLT, Int.reduceToNat, Int.reduceNeg, Nat.reduceLT, Nat.reduceEqDiff, Nat.reduceAdd, Nat.reduceSub, Nat.reduceMul, Nat.reduceLeDiff]
  refine W_tok (t := 12) (k := 1) rfl ?_
  simp (maxSteps := 1000000) only [VL, VM, ↓VG, reduceIte, reduceCtorEq, Int.reduceLE, Int.reduceLT, Int.reduceToNat, Int.reduceNeg, Nat.reduceLT, Nat.reduceEqDiff, Nat.reduceAdd, Nat.reduceSub, Nat.reduceMul, Nat.reduceLeDiff, DH_app hd, DH_len, DH_len0, DH_get hd, DH_get0 hd, DH_set hd, DH_set0 hd, DH_setd, DH_die hd]
  ((repeat refine W_seq ?_); refine W_region0 T_ok ?_)
  simp (maxSteps := 1000000) only [VL, VM, ↓VG, reduceIte, reduceCtorEq, Int.reduceLE, Int.reduceLT, Int.reduceToNat, Int.reduceNeg, Nat.reduceLT, Nat.reduceEqDiff, Nat.reduceAdd, Nat.reduceSub, Nat.reduceMul, Nat.reduceLeDiff]
  ((repeat refine W_seq ?_); refine W_block ?_; (repeat refine W_seq ?_)); refine W_loopS (fun s : Nat × Int × List Int => [(3, .ptr d 0), (4, .ptr H0.length 0), (6, intsV pp), (7, intsV closed), (8, .ptr (H0.length + 7) 0), (9, .bf (H0.length + 6) 0 pp.length 1), (12, .so (H0.length + 8) 1 (s.2.2.map intP)), (13, vi s.1)]) (fun s => ⟨DH H0 d s.2.1 [.obj (houseC h), .obj (bufH h (H0.length + 3)), .obj (bufH h (H0.length + 3)), .obj (h.holds.map vi), .obj (cellsD gs), .obj (cellsC h.counts), .obj (ms.map vi), .obj (bufH h (H0.length + 3)), .clm s.2.2.length 1], lg⟩) (fun s => closed.length - s.1) (fun s => s.1 ≤ closed.length ∧ s.2.2.Sublist (closed.take s.1)) (0, u, []) ⟨Nat.zero_le _, by simp⟩ ⟨rfl, rfl, rfl, rfl, rfl, rfl, rfl, rfl, trivial⟩ rfl ?_
  clear u
  rintro ⟨i, u, op⟩ ⟨hi, hop⟩
  simp only at hi hop
  have k1 : -9223372036854775808 ≤ (i : Int) + 1 ∧ (i : Int) + 1 < 9223372036854775808 := by omega
  have hol : op.length ≤ i := by
    have := hop.length_le
    rw [List.length_take] at this
    omega
  ((repeat refine W_seq ?_); refine W_region0 T_ok ?_)
  rcases Nat.lt_or_ge i closed.length with hlt | hge
  · have k2 : ((i : Int) < (closed.length : Int)) = True := eq_true (by omega)
    have hx : closed[i]? = some closed[i] := List.getElem?_eq_getElem hlt
    have htk : closed.take (i + 1) = closed.take i ++ [closed[i]] := by rw [List.take_add_one, hx]; rfl
    generalize closed[i] = y at hx htk
    have hx' := map_at (f := intP) hx
    have q1 : ((op.length + 1) * 8 ≤ 140737488355328) = True := eq_true (by omega)
    simp (maxSteps := 1000000) only [VL, VM, ↓VG, reduceIte, reduceCtorEq, Int.reduceLE, Int.reduceLT, Int.reduceToNat, Int.reduceNeg, Nat.reduceLT, Nat.reduceEqDiff, Nat.reduceAdd, Nat.reduceSub, Nat.reduceMul, Nat.reduceLeDiff, k2]
    ((repeat refine W_seq ?_); refine W_cond (b := true) (by first | rfl | simp only [ev, get_cons, Nat.reduceEqDiff, if_true, if_false, reduceIte]) (fun _ => ?_) (fun h => by cases h))
    ((repeat refine W_seq ?_); refine W_skip ?_)
    simp (maxSteps := 1000000) only [VL, VM, ↓VG, reduceIte, reduceCtorEq, Int.reduceLE, Int.reduceLT, Int.reduceToNat, Int.reduceNeg, Nat.reduceLT, Nat.reduceEqDiff, Nat.reduceAdd, Nat.reduceSub, Nat.reduceMul, Nat.reduceLeDiff]
    ((repeat refine W_seq ?_); refine W_block ?_)
    ((repeat refine W_seq ?_); refine W_region0 T_ok ?_)
    simp (maxSteps := 1000000) only [VL, VM, ↓VG, reduceIte, reduceCtorEq, Int.reduceLE, Int.reduceLT, Int.reduceToNat, Int.reduceNeg, Nat.reduceLT, Nat.reduceEqDiff, Nat.reduceAdd, Nat.reduceSub, Nat.reduceMul, Nat.reduceLeDiff]
    apply call_eq (f := 44) (fn := Try.f44) (by kernel_rfl) (by rfl)
    · exact once_c hd u 2 lg (by omega)
    simp (maxSteps := 1000000) only [VL, VM, ↓VG, reduceIte, reduceCtorEq, Int.reduceLE, Int.reduceLT, Int.reduceToNat, Int.reduceNeg, Nat.reduceLT, Nat.reduceEqDiff, Nat.reduceAdd, Nat.reduceSub, Nat.reduceMul, Nat.reduceLeDiff]
    cases onceF u 2
    · ((repeat refine W_seq ?_); refine W_cond (b := false) (by first | rfl | simp only [ev, get_cons, Nat.reduceEqDiff, if_true, if_false, reduceIte]) (fun h => by cases h) (fun _ => ?_))
      ((repeat refine W_seq ?_); refine W_skip ?_)
      simp (maxSteps := 1000000) only [VL, VM, ↓VG, reduceIte, reduceCtorEq, Int.reduceLE, Int.reduceLT, Int.reduceToNat, Int.reduceNeg, Nat.reduceLT, Nat.reduceEqDiff, Nat.reduceAdd, Nat.reduceSub, Nat.reduceMul, Nat.reduceLeDiff]
      ((repeat refine W_seq ?_); refine W_region0 T_ok ?_)
      simp (maxSteps := 1000000) only [VL, VM, ↓VG, reduceIte, reduceCtorEq, Int.reduceLE, Int.reduceLT, Int.reduceToNat, Int.reduceNeg, Nat.reduceLT, Nat.reduceEqDiff, Nat.reduceAdd, Nat.reduceSub, Nat.reduceMul, Nat.reduceLeDiff, k1]
      refine LoopK.mk (i + 1, castU u 2, op) (by simp only; omega) ⟨by simp only; omega, by rw [htk]; exact hop.trans (List.sublist_append_left _ _)⟩ ⟨rfl, rfl, rfl, rfl, rfl, rfl, rfl, rfl, trivial⟩ rfl
    · ((repeat refine W_seq ?_); refine W_cond (b := true) (by first | rfl | simp only [ev, get_cons, Nat.reduceEqDiff, if_true, if_false, reduceIte]) (fun _ => ?_) (fun h => by cases h))
      ((repeat refine W_seq ?_); refine W_region0 T_ok ?_)
      simp (maxSteps := 1000000) only [VL, VM, ↓VG, reduceIte, reduceCtorEq, Int.reduceLE, Int.reduceLT, Int.reduceToNat, Int.reduceNeg, Nat.reduceLT, Nat.reduceEqDiff, Nat.reduceAdd, Nat.reduceSub, Nat.reduceMul, Nat.reduceLeDiff, DH_app hd, DH_len, DH_len0, DH_get hd, DH_get0 hd, DH_set hd, DH_set0 hd, DH_setd, DH_die hd, hx', q1]
      ((repeat refine W_seq ?_); refine W_region0 T_ok ?_)
      simp (maxSteps := 1000000) only [VL, VM, ↓VG, reduceIte, reduceCtorEq, Int.reduceLE, Int.reduceLT, Int.reduceToNat, Int.reduceNeg, Nat.reduceLT, Nat.reduceEqDiff, Nat.reduceAdd, Nat.reduceSub, Nat.reduceMul, Nat.reduceLeDiff, k1]
      refine LoopK.mk (i + 1, castU u 2, op ++ [y]) (by simp only; omega) ⟨by simp only; omega, by rw [htk]; exact hop.append (List.Sublist.refl _)⟩ ⟨rfl, rfl, rfl, rfl, rfl, rfl, ?_, rfl, trivial⟩ ?_
      · simp [get_cons]
      · simp
  have k2 : ((i : Int) < (closed.length : Int)) = False := eq_false (by omega)
  have hopc : op.Sublist closed := hop.trans (List.take_sublist _ _)
  simp (maxSteps := 1000000) only [VL, VM, ↓VG, reduceIte, reduceCtorEq, Int.reduceLE, Int.reduceLT, Int.reduceToNat, Int.reduceNeg, Nat.reduceLT, Nat.reduceEqDiff, Nat.reduceAdd, Nat.reduceSub, Nat.reduceMul, Nat.reduceLeDiff, k2, DH_app hd, DH_len, DH_len0, DH_get hd, DH_get0 hd, DH_set hd, DH_set0 hd, DH_setd, DH_die hd]
  ((repeat refine W_seq ?_); refine W_cond (b := false) (by first | rfl | simp only [ev, get_cons, Nat.reduceEqDiff, if_true, if_false, reduceIte]) (fun h => by cases h) (fun _ => ?_))
  refine W_strip (t := 12) (g := H0.length + 8) (k := 1) (xs := op.map intP) rfl ?_
  refine W_frzT (t := 9) (id := H0.length + 6) (n := pp.length) (k := 1) (xs := ms.map intP) (by rw [DH_get hd, flat_ints]; rfl) rfl (by simp) (by rw [List.length_map]; exact hbl) ?_
  simp only [DH_set hd, List.set_cons_zero, List.set_cons_succ]
  refine W_frz1 (id := H0.length + 5) (n := h.counts.length) (k := 6) (o := H0.length + 7) (j := 5) (xs := h.counts.map coP) (by rw [DH_get hd]; rfl) (by rw [DH_get hd]; rfl) rfl (by simp) (by rw [List.length_map]) (by omega) ?_
  simp only [DH_set hd, List.set_cons_zero, List.set_cons_succ]
  refine W_frz1 (id := H0.length + 4) (n := h.doors.length) (k := 3) (o := H0.length + 7) (j := 1) (xs := gs.map doP) (by rw [DH_get hd]; rfl) (by rw [DH_get hd]; rfl) rfl (by simp) (by rw [List.length_map]; exact hgl) (by omega) ?_
  simp only [DH_set hd, List.set_cons_zero, List.set_cons_succ]
  refine W_frz1 (id := H0.length + 3) (n := h.holds.length) (k := 1) (o := H0.length + 7) (j := 0) (xs := h.holds.map intP) (by rw [DH_get hd, flat_ints]; rfl) (by rw [DH_get hd]; rfl) rfl (by simp) (by rw [List.length_map]) (by omega) ?_
  simp only [DH_set hd, List.set_cons_zero, List.set_cons_succ]
  obtain ⟨x, hx⟩ : ∃ x : Ho, x = ⟨h.holds, gs, h.first, h.ticks, h.counts⟩ := ⟨_, rfl⟩
  have hxc : [VV.p (PV.sl 1 (List.map intP h.holds)), VV.p (PV.sl 3 (List.map doP gs)), vi h.first.lo, vi h.first.hi, vi h.ticks, VV.p (PV.sl 6 (List.map coP h.counts))] = houseC x := by rw [hx]
  rw [hxc]
  have hB : HFew h x := by rw [hx]; exact ⟨rfl, hgs, rfl, rfl, rfl⟩
  have Vx : HV x := hB.V mV fun q hq => by have := m.flows q hq; omega
  have w1 := Vx.n1
  have w2 := Vx.d1
  have w3 := Vx.c1
  have hmem : ∀ z ∈ op, z ∈ closed := fun z hz => hopc.subset hz
  have hopE : closedErr h.doors.length op = 0 := clErr_ok _ _ (fun z hz => hs2 z (hmem z hz)) (hs3.sublist hopc) (fun q hq => by cases hq)
  have hopX : closedErr x.doors.length op = 0 := by rw [hB.doors.len]; exact hopE
  have hlv := few_leave mV Vx hB pl (fun z hz => by have := pb z hz; omega) hbs hshut hopE hmem
  have hopl : op.length ≤ 1000000 := by omega
  have hclosl : closed.length ≤ 1000000 := by omega
  have hmsl : ms.length ≤ 1000000 := by omega
  have hppl : pp.length ≤ 1000000 := by omega
  clear hx hxc
  ((repeat refine W_seq ?_); refine W_exit ?_)
  simp (maxSteps := 1000000) only [VL, VM, ↓VG, reduceIte, reduceCtorEq, Int.reduceLE, Int.reduceLT, Int.reduceToNat, Int.reduceNeg, Nat.reduceLT, Nat.reduceEqDiff, Nat.reduceAdd, Nat.reduceSub, Nat.reduceMul, Nat.reduceLeDiff]
  have ct := castF_range (u := u) (n := 7) (by omega)
  ((repeat refine W_seq ?_); refine W_region0 T_ok ?_)
  simp (maxSteps := 1000000) only [VL, VM, ↓VG, reduceIte, reduceCtorEq, Int.reduceLE, Int.reduceLT, Int.reduceToNat, Int.reduceNeg, Nat.reduceLT, Nat.reduceEqDiff, Nat.reduceAdd, Nat.reduceSub, Nat.reduceMul, Nat.reduceLeDiff]
  apply call_eq (f := 45) (fn := Try.f45) (by kernel_rfl) (by rfl)
  · exact cast_c hd u 7 _ (by omega)
  generalize castU u 7 = u5
  generalize castF u 7 = tk at ct ⊢
  have hte : ticksErr h 0 tk closed = 0 := ticksErr_ok.2 ⟨mV, by have := mV.t0; omega, by omega, hshut⟩
  have htx : ticksErr x 0 tk op = 0 := ticksErr_ok.2 ⟨Vx, by have := Vx.t0; omega, by omega, hopX⟩
  have hA : admitR h tk closed = (admitV h tk.toNat closed, 0) := by unfold admitR; rw [if_pos hte]
  have hAx : admitR x tk op = (admitV x tk.toNat op, 0) := by unfold admitR; rw [if_pos htx]
  have hle := few_admit mV Vx hB hmem tk.toNat
  simp (maxSteps := 1000000) only [VL, VM, ↓VG, reduceIte, reduceCtorEq, Int.reduceLE, Int.reduceLT, Int.reduceToNat, Int.reduceNeg, Nat.reduceLT, Nat.reduceEqDiff, Nat.reduceAdd, Nat.reduceSub, Nat.reduceMul, Nat.reduceLeDiff, DH_app hd, DH_len, DH_len0, DH_get hd, DH_get0 hd, DH_set hd, DH_set0 hd, DH_setd, DH_die hd]
  ((repeat refine W_seq ?_); refine W_region0 T_ok ?_)
  simp (maxSteps := 1000000) only [VL, VM, ↓VG, reduceIte, reduceCtorEq, Int.reduceLE, Int.reduceLT, Int.reduceToNat, Int.reduceNeg, Nat.reduceLT, Nat.reduceEqDiff, Nat.reduceAdd, Nat.reduceSub, Nat.reduceMul, Nat.reduceLeDiff, DH_app hd, DH_len, DH_len0, DH_get hd, DH_get0 hd, DH_set hd, DH_set0 hd, DH_setd, DH_die hd]
  apply call_eq (f := 32) (fn := Try.f32) (by kernel_rfl) (by rfl)
  · exact Leave_v h pp closed _ (by omega) (by omega) (by omega) (by omega) (by omega)
  simp (maxSteps := 1000000) only [VL, VM, ↓VG, reduceIte, reduceCtorEq, Int.reduceLE, Int.reduceLT, Int.reduceToNat, Int.reduceNeg, Nat.reduceLT, Nat.reduceEqDiff, Nat.reduceAdd, Nat.reduceSub, Nat.reduceMul, Nat.reduceLeDiff, DH_app hd, DH_len, DH_len0, DH_get hd, DH_get0 hd, DH_set hd, DH_set0 hd, DH_setd, DH_die hd]
  ((repeat refine W_seq ?_); refine W_region0 T_ok ?_)
  simp (maxSteps := 1000000) only [VL, VM, ↓VG, reduceIte, reduceCtorEq, Int.reduceLE, Int.reduceLT, Int.reduceToNat, Int.reduceNeg, Nat.reduceLT, Nat.reduceEqDiff, Nat.reduceAdd, Nat.reduceSub, Nat.reduceMul, Nat.reduceLeDiff, DH_app hd, DH_len, DH_len0, DH_get hd, DH_get0 hd, DH_set hd, DH_set0 hd, DH_setd, DH_die hd]
  apply call_eq (f := 32) (fn := Try.f32) (by kernel_rfl) (by rfl)
  · exact Leave_v x ms op _ (by omega) (by omega) (by omega) (by omega) (by omega)
  simp (maxSteps := 1000000) only [VL, VM, ↓VG, reduceIte, reduceCtorEq, Int.reduceLE, Int.reduceLT, Int.reduceToNat, Int.reduceNeg, Nat.reduceLT, Nat.reduceEqDiff, Nat.reduceAdd, Nat.reduceSub, Nat.reduceMul, Nat.reduceLeDiff, DH_app hd, DH_len, DH_len0, DH_get hd, DH_get0 hd, DH_set hd, DH_set0 hd, DH_setd, DH_die hd]
  ((repeat refine W_seq ?_); refine W_region0 T_ok ?_)
  simp (maxSteps := 1000000) only [VL, VM, ↓VG, reduceIte, reduceCtorEq, Int.reduceLE, Int.reduceLT, Int.reduceToNat, Int.reduceNeg, Nat.reduceLT, Nat.reduceEqDiff, Nat.reduceAdd, Nat.reduceSub, Nat.reduceMul, Nat.reduceLeDiff, DH_app hd, DH_len, DH_len0, DH_get hd, DH_get0 hd, DH_set hd, DH_set0 hd, DH_setd, DH_die hd]
  apply call_eq (f := 52) (fn := Try.f52) (by kernel_rfl) (by rfl)
  · exact Admit_v h tk closed _ (by omega) (by omega) (by omega) (by omega)
  rw [hA]
  generalize admitV h tk.toNat closed = na at hle ⊢
  simp (maxSteps := 1000000) only [VL, VM, ↓VG, reduceIte, reduceCtorEq, Int.reduceLE, Int.reduceLT, Int.reduceToNat, Int.reduceNeg, Nat.reduceLT, Nat.reduceEqDiff, Nat.reduceAdd, Nat.reduceSub, Nat.reduceMul, Nat.reduceLeDiff, DH_app hd, DH_len, DH_len0, DH_get hd, DH_get0 hd, DH_set hd, DH_set0 hd, DH_setd, DH_die hd]
  ((repeat refine W_seq ?_); refine W_region0 T_ok ?_)
  simp (maxSteps := 1000000) only [VL, VM, ↓VG, reduceIte, reduceCtorEq, Int.reduceLE, Int.reduceLT, Int.reduceToNat, Int.reduceNeg, Nat.reduceLT, Nat.reduceEqDiff, Nat.reduceAdd, Nat.reduceSub, Nat.reduceMul, Nat.reduceLeDiff, DH_app hd, DH_len, DH_len0, DH_get hd, DH_get0 hd, DH_set hd, DH_set0 hd, DH_setd, DH_die hd]
  apply call_eq (f := 52) (fn := Try.f52) (by kernel_rfl) (by rfl)
  · exact Admit_v x tk op _ (by omega) (by omega) (by omega) (by omega)
  rw [hAx]
  generalize admitV x tk.toNat op = nx at hle ⊢
  simp (maxSteps := 1000000) only [VL, VM, ↓VG, reduceIte, reduceCtorEq, Int.reduceLE, Int.reduceLT, Int.reduceToNat, Int.reduceNeg, Nat.reduceLT, Nat.reduceEqDiff, Nat.reduceAdd, Nat.reduceSub, Nat.reduceMul, Nat.reduceLeDiff, DH_app hd, DH_len, DH_len0, DH_get hd, DH_get0 hd, DH_set hd, DH_set0 hd, DH_setd, DH_die hd]
  obtain ⟨Z, rfl, hZ⟩ := hXY
  have z1 : (true == false) = false := rfl
  have z2 : (false == true) = false := rfl
  have z3 : ((12 : Int) = 0) = False := eq_false (by decide)
  have z4 : ((0 : Int) = 12) = False := eq_false (by decide)
  rcases hlv with ⟨t, t', ht1, ht2, e1, e2⟩ | ⟨e1, r, e2⟩
  · rw [e1, e2]
    have q3 : ((t' : Int) ≤ (t : Int)) = True := eq_true (by omega)
    refine WCode.weak (e' := [(15, vi (t : Int)), (16, vi 0), (17, vi (t' : Int)), (18, vi 0), (19, vi na), (20, vi 0), (21, vi nx), (22, vi 0)]) ?_ (Sub.ok ⟨rfl, rfl, rfl, rfl, rfl, rfl, rfl, rfl, trivial⟩)
    ((repeat refine W_seq ?_); refine W_region0 T_ok ?_)
    simp (maxSteps := 1000000) only [VL, VM, ↓VG, reduceIte, reduceCtorEq, Int.reduceLE, Int.reduceLT, Int.reduceToNat, Int.reduceNeg, Nat.reduceLT, Nat.reduceEqDiff, Nat.reduceAdd, Nat.reduceSub, Nat.reduceMul, Nat.reduceLeDiff, eq_true hle, q3, z1, z2, z3, z4, eq_self, beq_self_eq_true]
    apply call_eq (f := 18) (fn := Try.f18) (by kernel_rfl) (by rfl)
    · exact awake_v _
    simp (maxSteps := 1000000) only [VL, VM, ↓VG, reduceIte, reduceCtorEq, Int.reduceLE, Int.reduceLT, Int.reduceToNat, Int.reduceNeg, Nat.reduceLT, Nat.reduceEqDiff, Nat.reduceAdd, Nat.reduceSub, Nat.reduceMul, Nat.reduceLeDiff, DH_app hd, DH_len, DH_len0, DH_get hd, DH_get0 hd, DH_set hd, DH_set0 hd, DH_setd, DH_die hd]
    rw [tail]
    (repeat refine W_seq ?_)
    refine W_ret ?_
    try simp only [thenQ, blockQ]
    exact ⟨.inr rfl, rfl, ⟨Z, rfl, hZ⟩, M.H, _, rfl, rfl, [vb true], rfl, vb true, rfl, by simp [refs], rfl, rfl⟩
  · rw [e1, e2]
    refine WCode.weak (e' := [(15, vi 0), (16, vi 12), (17, vi r.1), (18, vi r.2), (19, vi na), (20, vi 0), (21, vi nx), (22, vi 0)]) ?_ (Sub.ok ⟨rfl, rfl, rfl, rfl, rfl, rfl, rfl, rfl, trivial⟩)
    ((repeat refine W_seq ?_); refine W_region0 T_ok ?_)
    simp (maxSteps := 1000000) only [VL, VM, ↓VG, reduceIte, reduceCtorEq, Int.reduceLE, Int.reduceLT, Int.reduceToNat, Int.reduceNeg, Nat.reduceLT, Nat.reduceEqDiff, Nat.reduceAdd, Nat.reduceSub, Nat.reduceMul, Nat.reduceLeDiff, eq_true hle, z1, z2, z3, z4, eq_self, beq_self_eq_true]
    apply call_eq (f := 18) (fn := Try.f18) (by kernel_rfl) (by rfl)
    · exact awake_v _
    simp (maxSteps := 1000000) only [VL, VM, ↓VG, reduceIte, reduceCtorEq, Int.reduceLE, Int.reduceLT, Int.reduceToNat, Int.reduceNeg, Nat.reduceLT, Nat.reduceEqDiff, Nat.reduceAdd, Nat.reduceSub, Nat.reduceMul, Nat.reduceLeDiff, DH_app hd, DH_len, DH_len0, DH_get hd, DH_get0 hd, DH_set hd, DH_set0 hd, DH_setd, DH_die hd]
    rw [tail]
    (repeat refine W_seq ?_)
    refine W_ret ?_
    try simp only [thenQ, blockQ]
    exact ⟨.inr rfl, rfl, ⟨Z, rfl, hZ⟩, M.H, _, rfl, rfl, [vb true], rfl, vb true, rfl, by simp [refs], rfl, rfl⟩
end Go.Proofs.Ytmagiabapakhcaa.Vm
