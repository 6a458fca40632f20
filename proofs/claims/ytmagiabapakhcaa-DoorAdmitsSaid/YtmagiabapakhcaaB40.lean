/- A part of the proofs about the chapter of the doors; it states no condition of its own. -/
import Derived.Test.YtmagiabapakhcaaB35
import Derived.Test.YtmagiabapakhcaaB37
import Derived.Test.YtmagiabapakhcaaB39
set_option linter.unusedVariables false
set_option linter.unusedSimpArgs false
open Int renaming reduceLE → zA, reduceLT → zB, reduceToNat → zC, reduceNeg → zD
open Nat renaming reduceLT → zE, reduceEqDiff → zF, reduceAdd → zG, reduceSub → zH, reduceMul → zI, reduceLeDiff → zJ
/- Flows: places under other names, and the reference's ways of people, plain. -/
namespace Go.Proofs.Ytmagiabapakhcaa
structure Bij (N : Nat) (p q : Nat → Nat) : Prop where
 lt : ∀ i, i < N → p i < N
 lt' : ∀ i, i < N → q i < N
 qp : ∀ i, i < N → q (p i) = i
 pq : ∀ i, i < N → p (q i) = i
theorem sumTo_bij {N : Nat} {p q : Nat → Nat} (h : Bij N p q) (f : Nat → Int) : sumTo N (fun i => f (p i)) = sumTo N f := by
 have e1 : sumTo N (fun i => f (p i)) = sumTo N fun i => sumTo N fun j => if j = p i then f j else 0 := by
  refine sumTo_congr fun i hi => ?_
  rw [show (fun j => if j = p i then f j else 0) = fun j => if j = p i then f (p i) else 0 from funext fun j => by by_cases e : j = p i <;> simp [e], sumTo_one (h.lt i hi)]
 rw [e1, sumTo_swap]
 refine sumTo_congr fun j hj => ?_
 rw [sumTo_congr (g := fun i => if i = q j then f j else 0) fun i hi => ?_, sumTo_one (h.lt' j hj)]
 by_cases e : j = p i
 ·rw [if_pos e, if_pos (by rw [e, h.qp i hi])]
 ·rw [if_neg e, if_neg (fun e2 => e (by rw [e2, h.pq j hj]))]
def permG (p : Nat → Nat) (N : Nat) (R : List (List Int)) : List (List Int) := (List.range N).map fun i => (List.range N).map fun j => at2 R (p i) (p j)
theorem permG_sq (p : Nat → Nat) (N : Nat) (R : List (List Int)) : Sq N (permG p N R) := ⟨by simp [permG], fun r hr => by
 obtain ⟨i, _, rfl⟩ := List.mem_map.1 hr
 simp⟩
theorem permG_at {p : Nat → Nat} {N : Nat} (R : List (List Int)) {i j : Nat} (hi : i < N) (hj : j < N) : at2 (permG p N R) i j = at2 R (p i) (p j) := by
 have e : (permG p N R)[i]? = some ((List.range N).map fun j => at2 R (p i) (p j)) := by
  unfold permG
  rw [List.getElem?_map, List.getElem?_range hi]; rfl
 rw [at2, List.getD_eq_getElem?_getD (l := permG p N R), e, Option.getD_some, List.getD_eq_getElem?_getD, List.getElem?_map, List.getElem?_range hj]; rfl
theorem Res.perm {N : Nat} {C R : List (List Int)} {v : Int} {p q : Nat → Nat} (hN : 2 ≤ N) (b : Bij N p q) (p0 : p 0 = 0) (p1 : p 1 = 1) (h : Res N C R v) : Res N (permG p N C) (permG p N R) v := by
 refine ⟨fun i j hi hj => ?_, fun i j hi hj => ?_, ?_, fun i hi h0 h1 => ?_⟩
 ·rw [permG_at _ hi hj]; exact h.nn _ _ (b.lt i hi) (b.lt j hj)
 ·rw [permG_at _ hi hj, permG_at _ hj hi, permG_at _ hi hj, permG_at _ hj hi]; exact h.sk _ _ (b.lt i hi) (b.lt j hj)
 ·rw [sumTo_congr (g := fun j => at2 C 0 (p j) - at2 R 0 (p j)) fun j hj => by rw [permG_at _ (by omega) hj, permG_at _ (by omega) hj, p0], sumTo_bij b fun j => at2 C 0 j - at2 R 0 j]
  exact h.src
 ·rw [sumTo_congr (g := fun j => at2 C (p i) (p j) - at2 R (p i) (p j)) fun j hj => by rw [permG_at _ hi hj, permG_at _ hi hj], sumTo_bij b fun j => at2 C (p i) j - at2 R (p i) j]
  refine h.mid (p i) (b.lt i hi) (fun e => h0 ?_) (fun e => h1 ?_)
  ·have := b.qp 0 (by omega)
   rw [p0] at this
   rw [← b.qp i hi, e, this]
  ·have := b.qp 1 (by omega)
   rw [p1] at this
   rw [← b.qp i hi, e, this]
theorem cut_perm {N : Nat} {C : List (List Int)} {p q : Nat → Nat} (b : Bij N p q) (S : Nat → Bool) : cutOf N (permG p N C) (fun i => S (p i)) = cutOf N C S := by
 unfold cutOf
 rw [← sumTo_bij b fun i => sumTo N fun j => if S i && !S j then at2 C i j else 0]
 refine sumTo_congr fun i hi => ?_
 rw [← sumTo_bij b fun j => if S (p i) && !S j then at2 C (p i) j else 0]
 refine sumTo_congr fun j hj => ?_
 rw [permG_at _ hi hj]
theorem MF.perm {N : Nat} {C : List (List Int)} {v : Int} {p q : Nat → Nat} (hN : 2 ≤ N) (b : Bij N p q) (p0 : p 0 = 0) (p1 : p 1 = 1) (h : MF N C v) : MF N (permG p N C) v := by
 obtain ⟨⟨R, hR⟩, S, s0, s1, hS⟩ := h
 exact ⟨⟨_, hR.perm hN b p0 p1⟩, fun i => S (p i), by simpa [p0] using s0, by simpa [p1] using s1, by rw [cut_perm b, hS]⟩
/-! ### the reference's ways -/
theorem wsAt_none {ws : List Wa} {a b : Nat} (h : ∀ w ∈ ws, ¬ (w.fr = a ∧ w.to = b)) : wsAt ws a b = 0 := by
 induction ws with
 | nil => rfl
 | cons w ws ih => rw [wsAt_cons, if_neg (h w (by simp)), ih fun x hx => h x (by simp [hx])]; rfl
theorem wsAt_rflat (f : Nat → List Wa) (n a b : Nat) : wsAt ((List.range n).flatMap f) a b = sumTo n fun i => wsAt (f i) a b := by
 induction n with
 | zero => rfl
 | succ n ih => rw [List.range_succ, List.flatMap_append, wsAt_app, ih, sumTo_succ, List.flatMap_cons, List.flatMap_nil, List.append_nil]
theorem wsAt_rmap (f : Nat → Wa) (n a b : Nat) : wsAt ((List.range n).map f) a b = sumTo n fun i => wsAt [f i] a b := by
 induction n with
 | zero => rfl
 | succ n ih => rw [List.range_succ, List.map_append, wsAt_app, ih, sumTo_succ]; rfl
def staR (nH i t : Nat) : Wa := ⟨1 + t * nH + i, 1 + (t + 1) * nH + i, 1073741824⟩
def hallR (nH : Nat) (come : Nat → Int) (i t : Nat) : List Wa := ⟨0, 1 + i, come i⟩ :: (List.range t).map (staR nH i)
def doorR (N nH t : Nat) (d : Do) : List Wa := if d.a < 0 then [⟨1 + t * nH + d.b.toNat, N - 1, d.flow⟩] else if d.b < 0 then [⟨1 + t * nH + d.a.toNat, N - 1, d.flow⟩] else [⟨1 + t * nH + d.a.toNat, 1 + (t + 1) * nH + d.b.toNat, d.flow⟩, ⟨1 + t * nH + d.b.toNat, 1 + (t + 1) * nH + d.a.toNat, d.flow⟩]
def doorTR (N nH ticks : Nat) (ds : List Do) (closed : List Int) (i : Nat) : List Wa := if closed.contains (i : Int) then [] else (List.range ticks).flatMap fun t => doorR N nH t (ds.getD i do0)
def startR (nH ticks : Nat) (come : Nat → Int) (i : Nat) : List Wa := (List.range i).flatMap fun i => hallR nH come i ticks
def outR (N nH : Nat) (ds : List Do) (ticks : Nat) (closed : List Int) (come : Nat → Int) (k : Nat) : List Wa := startR nH ticks come nH ++ (List.range k).flatMap (doorTR N nH ticks ds closed)
theorem cell_uniq {n t t' i i' : Nat} (hi : i < n) (hi' : i' < n) (h : t * n + i = t' * n + i') : i = i' ∧ t = t' := by
 have h1 : (t * n + i) % n = i := by rw [Nat.add_comm, Nat.add_mul_mod_self_right, Nat.mod_eq_of_lt hi]
 have h2 : (t' * n + i') % n = i' := by rw [Nat.add_comm, Nat.add_mul_mod_self_right, Nat.mod_eq_of_lt hi']
 have h3 : i = i' := by rw [← h1, ← h2, h]
 subst h3
 refine ⟨rfl, Nat.eq_of_mul_eq_mul_right (show 0 < n by omega) (by omega)⟩
theorem startR_mem {nH ticks : Nat} {come : Nat → Int} {i : Nat} {w : Wa} (h : w ∈ startR nH ticks come i) : ∃ k, k < i ∧ (w = ⟨0, 1 + k, come k⟩ ∨ ∃ t, t < ticks ∧ w = staR nH k t) := by
 obtain ⟨k, hk, hw⟩ := List.mem_flatMap.1 h
 rw [List.mem_range] at hk
 refine ⟨k, hk, ?_⟩
 rcases List.mem_cons.1 hw with rfl | hw
 ·exact .inl rfl
 ·obtain ⟨t, ht, rfl⟩ := List.mem_map.1 hw
  exact .inr ⟨t, by simpa using ht, rfl⟩
theorem startR_0 {nH ticks : Nat} {come : Nat → Int} {i : Nat} : wsAt (startR nH ticks come i) 0 (1 + i) = 0 := by
 refine wsAt_none fun w hw => ?_
 obtain ⟨k, hk, rfl | ⟨t, _, rfl⟩⟩ := startR_mem hw
 ·simp only; omega
 ·simp only [staR]; omega
theorem startR_t {nH ticks : Nat} {come : Nat → Int} {i t : Nat} (hi : i < nH) : wsAt (startR nH ticks come i ++ hallR nH come i t) (1 + t * nH + i) (1 + (t + 1) * nH + i) = 0 := by
 refine wsAt_none fun w hw => ?_
 rcases List.mem_append.1 hw with hw | hw
 ·obtain ⟨k, hk, rfl | ⟨t', _, rfl⟩⟩ := startR_mem hw
  ·simp only; omega
  ·simp only [staR]
   rintro ⟨h1, _⟩
   have := (cell_uniq (n := nH) (t := t') (t' := t) (i := k) (i' := i) (by omega) hi (by omega)).1
   omega
 ·rcases List.mem_cons.1 hw with rfl | hw
  ·simp only; omega
  ·obtain ⟨t', ht, rfl⟩ := List.mem_map.1 hw
   rw [List.mem_range] at ht
   simp only [staR]
   rintro ⟨h1, _⟩
   have := (cell_uniq (n := nH) (t := t') (t' := t) (i := i) (i' := i) hi hi (by omega)).2
   omega
theorem startR_succ (nH ticks : Nat) (come : Nat → Int) (i : Nat) : startR nH ticks come (i + 1) = startR nH ticks come i ++ hallR nH come i ticks := by
 unfold startR
 rw [List.range_succ, List.flatMap_append]; simp
theorem hallR_succ (nH : Nat) (come : Nat → Int) (i t : Nat) : hallR nH come i (t + 1) = hallR nH come i t ++ [staR nH i t] := by
 unfold hallR
 rw [List.range_succ, List.map_append]; rfl
section
variable {N nH ticks : Nat} {ds : List Do} {closed : List Int} {come : Nat → Int}
theorem place_lt {i t : Nat} (hN : N = nH * (ticks + 1) + 2) (hi : i < nH) (ht : t ≤ ticks) : 1 + t * nH + i < N - 1 := by
 have h1 : t * nH ≤ ticks * nH := Nat.mul_le_mul_right nH ht
 have h2 : nH * (ticks + 1) = ticks * nH + nH := by rw [Nat.mul_comm, Nat.add_mul, Nat.one_mul]
 omega
theorem staR_ok (hN : N = nH * (ticks + 1) + 2) {i t : Nat} (hi : i < nH) (ht : t < ticks) : WaOk N (staR nH i t) := by
 have h1 := place_lt hN hi (Nat.le_of_lt ht)
 have h2 := place_lt (t := t + 1) hN hi (by omega)
 exact ⟨by simp only [staR]; omega, by simp only [staR]; omega, by simp [staR], by simp [staR]⟩
theorem hall0_ok (hN : N = nH * (ticks + 1) + 2) (hc : ∀ i, i < nH → 0 ≤ come i ∧ come i ≤ 1073741824) {i : Nat} (hi : i < nH) : WaOk N ⟨0, 1 + i, come i⟩ := by
 have h1 := place_lt (t := 0) hN hi (Nat.zero_le _)
 rw [Nat.zero_mul] at h1
 exact ⟨by simp only; omega, by simp only; omega, (hc i hi).1, (hc i hi).2⟩
theorem startR_ok (hN : N = nH * (ticks + 1) + 2) (hc : ∀ i, i < nH → 0 ≤ come i ∧ come i ≤ 1073741824) {i : Nat} (hi : i ≤ nH) : ∀ w ∈ startR nH ticks come i, WaOk N w := by
 intro w hw
 obtain ⟨k, hk, rfl | ⟨t, ht, rfl⟩⟩ := startR_mem hw
 ·exact hall0_ok hN hc (by omega)
 ·exact staR_ok hN (by omega) ht
theorem doorR_ok (hN : N = nH * (ticks + 1) + 2) {t : Nat} (ht : t < ticks) {d : Do} (hd : DoOk nH d) (hne : d.a ≠ d.b) : ∀ w ∈ doorR N nH t d, WaOk N w := by
 have a0 := hd.a0
 have a1 := hd.a1
 have b0 := hd.b0
 have b1 := hd.b1
 have pa : 0 ≤ d.a → ∀ t', t' ≤ ticks → 1 + t' * nH + d.a.toNat < N - 1 := fun h t' h' => place_lt hN (by omega) h'
 have pb : 0 ≤ d.b → ∀ t', t' ≤ ticks → 1 + t' * nH + d.b.toNat < N - 1 := fun h t' h' => place_lt hN (by omega) h'
 intro w hw
 unfold doorR at hw
 split at hw
 ·rw [List.mem_singleton] at hw
  subst hw
  have := pb (by omega) t (by omega)
  exact ⟨by simp only; omega, by simp only; omega, hd.f0, hd.f1⟩
 ·split at hw
  ·rw [List.mem_singleton] at hw
   subst hw
   have := pa (by omega) t (by omega)
   exact ⟨by simp only; omega, by simp only; omega, hd.f0, hd.f1⟩
  ·have h1 := pa (by omega) t (by omega)
   have h2 := pa (by omega) (t + 1) (by omega)
   have h3 := pb (by omega) t (by omega)
   have h4 := pb (by omega) (t + 1) (by omega)
   simp only [List.mem_cons, List.not_mem_nil, or_false] at hw
   rcases hw with rfl | rfl
   ·exact ⟨by simp only; omega, by simp only; omega, hd.f0, hd.f1⟩
   ·exact ⟨by simp only; omega, by simp only; omega, hd.f0, hd.f1⟩
theorem doorTR_ok (hN : N = nH * (ticks + 1) + 2) (hd : ∀ d ∈ ds, DoOk nH d ∧ d.a ≠ d.b) {i : Nat} (hi : i < ds.length) : ∀ w ∈ doorTR N nH ticks ds closed i, WaOk N w := by
 intro w hw
 unfold doorTR at hw
 split at hw
 ·cases hw
 ·obtain ⟨t, ht, hw⟩ := List.mem_flatMap.1 hw
  have hm : ds.getD i do0 ∈ ds := by
   rw [List.getD_eq_getElem?_getD, List.getElem?_eq_getElem hi]; exact List.getElem_mem hi
  exact doorR_ok hN (by simpa using ht) (hd _ hm).1 (hd _ hm).2 w hw
theorem outR_ok (hN : N = nH * (ticks + 1) + 2) (hc : ∀ i, i < nH → 0 ≤ come i ∧ come i ≤ 1073741824) (hd : ∀ d ∈ ds, DoOk nH d ∧ d.a ≠ d.b) {k : Nat} (hk : k ≤ ds.length) : ∀ w ∈ outR N nH ds ticks closed come k, WaOk N w := by
 intro w hw
 rcases List.mem_append.1 hw with hw | hw
 ·exact startR_ok hN hc (Nat.le_refl _) w hw
 ·obtain ⟨i, hi, hw⟩ := List.mem_flatMap.1 hw
  rw [List.mem_range] at hi
  exact doorTR_ok hN hd (by omega) w hw
theorem outR_succ (k : Nat) : outR N nH ds ticks closed come (k + 1) = outR N nH ds ticks closed come k ++ doorTR N nH ticks ds closed k := by
 unfold outR
 rw [List.range_succ, List.flatMap_append, List.append_assoc]; simp
def nameG (N k : Nat) : Nat := if k = 0 then 0 else if k = N - 1 then 1 else k + 1
def nameB (N k : Nat) : Nat := if k = 0 then 0 else if k = 1 then N - 1 else k - 1
theorem nameG_bij (hN : 2 ≤ N) : Bij N (nameG N) (nameB N) := by
 refine ⟨fun i hi => ?_, fun i hi => ?_, fun i hi => ?_, fun i hi => ?_⟩
 ·unfold nameG; split <;> (try split) <;> omega
 ·unfold nameB; split <;> (try split) <;> omega
 ·unfold nameG nameB
  by_cases h0 : i = 0
  ·simp [h0]
  ·by_cases h1 : i = N - 1
   ·rw [if_neg h0, if_pos h1, if_neg (by omega), if_pos rfl, h1]
   ·simp [h0, h1]
 ·unfold nameG nameB
  by_cases h0 : i = 0
  ·simp [h0]
  ·by_cases h1 : i = 1
   ·subst h1
    simp
    omega
   ·simp [h0, h1, show ¬ i - 1 = 0 by omega, show ¬ i - 1 = N - 1 by omega]
    omega
theorem tau_bij (hN : 2 ≤ N) : Bij N (tau N) (tau N) := ⟨fun _ hi => tau_lt hN hi, fun _ hi => tau_lt hN hi, fun i _ => tau_tau hN i, fun i _ => tau_tau hN i⟩
theorem Bij.comp {p q p' q' : Nat → Nat} (h : Bij N p q) (h' : Bij N p' q') : Bij N (fun i => p' (p i)) (fun i => q (q' i)) :=
 ⟨fun i hi => h'.lt _ (h.lt i hi), fun i hi => h.lt' _ (h'.lt' i hi), fun i hi => by show q (q' (p' (p i))) = i; rw [h'.qp _ (h.lt i hi), h.qp i hi], fun i hi => by show p' (p (q (q' i))) = i; rw [h.pq _ (h'.lt' i hi), h'.pq i hi]⟩
def wayG (N : Nat) (w : Wa) : Wa := ⟨nameG N w.fr, nameG N w.to, w.most⟩
theorem wsAt_name (hN : 2 ≤ N) {ws : List Wa} (hw : ∀ w ∈ ws, WaOk N w) {a b : Nat} (ha : a < N) (hb : b < N) : wsAt (ws.map (wayG N)) (nameG N a) (nameG N b) = wsAt ws a b := by
 have B := nameG_bij hN
 have inj : ∀ x y, x < N → y < N → (nameG N x = nameG N y ↔ x = y) := fun x y hx hy => ⟨fun e => by rw [← B.qp x hx, e, B.qp y hy], fun e => by rw [e]⟩
 induction ws with
 | nil => rfl
 | cons w ws ih =>
  have h1 := hw w (by simp)
  rw [List.map_cons, wsAt_cons, wsAt_cons, ih fun x hx => hw x (by simp [hx])]
  congr 1
  simp only [wayG, inj _ _ h1.fr ha, inj _ _ h1.to hb]
theorem nameG_mid {k : Nat} (h0 : 1 ≤ k) (h1 : k < N - 1) : nameG N k = k + 1 := by
 unfold nameG; rw [if_neg (by omega), if_neg (by omega)]
theorem nameG_last (hN : 2 ≤ N) : nameG N (N - 1) = 1 := by
 unfold nameG; rw [if_neg (by omega), if_pos rfl]
theorem doorR_name (hN : N = nH * (ticks + 1) + 2) {t : Nat} (ht : t < ticks) {d : Do} (hd : DoOk nH d) (hne : d.a ≠ d.b) : (doorR N nH t d).map (wayG N) = doorWs nH t d := by
 have a0 := hd.a0
 have a1 := hd.a1
 have b0 := hd.b0
 have b1 := hd.b1
 have hN2 : 2 ≤ N := by omega
 have pa : 0 ≤ d.a → ∀ t', t' ≤ ticks → nameG N (1 + t' * nH + d.a.toNat) = placeOf nH d.a t' := fun h t' h' => by
  rw [nameG_mid (by omega) (place_lt hN (by omega) h')]
  unfold placeOf
  rw [if_neg (by omega)]; omega
 have pb : 0 ≤ d.b → ∀ t', t' ≤ ticks → nameG N (1 + t' * nH + d.b.toNat) = placeOf nH d.b t' := fun h t' h' => by
  rw [nameG_mid (by omega) (place_lt hN (by omega) h')]
  unfold placeOf
  rw [if_neg (by omega)]; omega
 have po : ∀ t', placeOf nH (-1) t' = 1 := fun t' => by unfold placeOf; rw [if_pos rfl]
 unfold doorR doorWs
 by_cases ha : d.a < 0
 ·have ha' : d.a = -1 := by omega
  have hb' : ¬ d.b = -1 := by omega
  rw [if_pos ha, if_pos ha', if_neg hb', List.map_cons, List.map_nil, List.nil_append, wayG]
  simp only
  rw [pb (by omega) t (by omega), nameG_last hN2, ha', po]
 ·have ha' : ¬ d.a = -1 := by omega
  by_cases hb : d.b < 0
  ·have hb' : d.b = -1 := by omega
   rw [if_neg ha, if_pos hb, if_neg ha', if_pos hb', List.map_cons, List.map_nil, List.append_nil, wayG]
   simp only
   rw [pa (by omega) t (by omega), nameG_last hN2, hb', po]
  ·have hb' : ¬ d.b = -1 := by omega
   rw [if_neg ha, if_neg hb, if_neg ha', if_neg hb', List.map_cons, List.map_cons, List.map_nil, wayG, wayG]
   simp only
   rw [pa (by omega) t (by omega), pa (by omega) (t + 1) (by omega), pb (by omega) t (by omega), pb (by omega) (t + 1) (by omega)]
   rfl
theorem doorsWs_at (nH t : Nat) (closed : List Int) (a b : Nat) : ∀ (ds : List Do) (k : Nat), wsAt (doorsWs nH t closed k ds) a b = sumTo ds.length fun i => if closed.contains ((k + i : Nat) : Int) then 0 else wsAt (doorWs nH t (ds.getD i do0)) a b
 | [], _ => rfl
 | d :: ds, k => by
  have hs : ∀ (n : Nat) (f : Nat → Int), sumTo (n + 1) f = f 0 + sumTo n fun i => f (i + 1) := fun n f => by
   unfold sumTo
   rw [List.range_succ_eq_map, List.map_cons, List.sum_cons, List.map_map]
   rfl
  rw [doorsWs, wsAt_app, doorsWs_at nH t closed a b ds (k + 1), List.length_cons, hs]
  congr 1
  ·rw [Nat.add_zero, List.getD_cons_zero]
   split <;> rfl
  ·refine sumTo_congr fun i hi => ?_
   rw [List.getD_cons_succ, show k + 1 + i = k + (i + 1) by omega]
theorem wsAt_map_flat {α : Type} (g : α → List Wa) (l : List α) : (l.flatMap g).map (wayG N) = l.flatMap fun x => (g x).map (wayG N) := by
 rw [List.map_flatMap]
theorem outR_at (hN : N = nH * (ticks + 1) + 2) (hd : ∀ d ∈ ds, DoOk nH d ∧ d.a ≠ d.b) (a b : Nat) : wsAt ((outR N nH ds ticks closed come ds.length).map (wayG N)) a b = wsAt (waysOf nH ds ticks closed come) a b := by
 have hN2 : 2 ≤ N := by omega
 unfold outR waysOf startR
 rw [List.map_append, wsAt_app, wsAt_app, wsAt_map_flat, wsAt_map_flat, wsAt_rflat, wsAt_rflat, wsAt_rflat]
 have e1 : sumTo nH (fun i => wsAt ((hallR nH come i ticks).map (wayG N)) a b) = wsAt (startWs nH come) a b + sumTo ticks fun t => wsAt (stayWs nH t) a b := by
  unfold startWs stayWs
  rw [wsAt_rmap, sumTo_congr (g := fun t => sumTo nH fun i => wsAt [⟨placeOf nH (i : Int) t, placeOf nH (i : Int) (t + 1), 1073741824⟩] a b) fun t _ => wsAt_rmap _ _ _ _, sumTo_swap, ← sumTo_add]
  refine sumTo_congr fun i hi => ?_
  have hp : ∀ t, t ≤ ticks → nameG N (1 + t * nH + i) = placeOf nH (i : Int) t := fun t ht => by
   rw [nameG_mid (by omega) (place_lt hN hi ht)]
   unfold placeOf
   rw [if_neg (by omega), Int.toNat_natCast]; omega
  unfold hallR
  rw [List.map_cons, List.map_map, wsAt_cons, wsAt_rmap]
  congr 1
  ·have h0 := hp 0 (Nat.zero_le _)
   rw [Nat.zero_mul, Nat.add_zero] at h0
   rw [wsAt_cons, wsAt_nil, Int.add_zero]
   have e9 : wayG N ⟨0, 1 + i, come i⟩ = ⟨0, placeOf nH (i : Int) 0, come i⟩ := by
    unfold wayG
    simp only
    rw [h0]; rfl
   rw [e9]
  ·refine sumTo_congr fun t ht => ?_
   have e9 : wayG N (staR nH i t) = ⟨placeOf nH (i : Int) t, placeOf nH (i : Int) (t + 1), 1073741824⟩ := by
    unfold wayG staR
    simp only
    rw [hp t (by omega), hp (t + 1) (by omega)]
   rw [Function.comp, e9]
 rw [e1]
 have e2 : ∀ t, t < ticks → wsAt (tickWs nH ds closed t) a b = wsAt (stayWs nH t) a b + sumTo ds.length fun i => if closed.contains (i : Int) then 0 else wsAt (doorWs nH t (ds.getD i do0)) a b := fun t _ => by
  unfold tickWs
  rw [wsAt_app, doorsWs_at]
  simp only [Nat.zero_add]
 rw [sumTo_congr e2, sumTo_add, sumTo_swap ticks ds.length]
 have e3 : ∀ i, i < ds.length → wsAt ((doorTR N nH ticks ds closed i).map (wayG N)) a b = sumTo ticks fun t => if closed.contains (i : Int) then 0 else wsAt (doorWs nH t (ds.getD i do0)) a b := fun i hi => by
  unfold doorTR
  split
  ·rw [sumTo_const0]; rfl
  ·rw [wsAt_map_flat, wsAt_rflat]
   refine sumTo_congr fun t ht => ?_
   have hm : ds.getD i do0 ∈ ds := by
    rw [List.getD_eq_getElem?_getD, List.getElem?_eq_getElem hi]; exact List.getElem_mem hi
   rw [doorR_name hN ht (hd _ hm).1 (hd _ hm).2]
 rw [sumTo_congr e3]
 omega
theorem out_eq (hN : N = nH * (ticks + 1) + 2) (hn : 1 ≤ nH) (hc : ∀ i, i < nH → 0 ≤ come i ∧ come i ≤ 1073741824) (hd : ∀ d ∈ ds, DoOk nH d ∧ d.a ≠ d.b) : mfv N (permT N (tabOfW N (outR N nH ds ticks closed come ds.length))) = Vm.leaveV nH ds ticks closed come := by
 have hN2 : 2 ≤ N := by omega
 have hNN : 2 + (ticks + 1) * nH = N := by rw [hN, Nat.mul_comm nH, Nat.add_comm]
 have h1 := leave_MF (ticks := ticks) (closed := closed) hn (fun d h => (hd d h).1) hc
 have w1 := waysOf_ok (ticks := ticks) (closed := closed) (fun d h => (hd d h).1) hc
 rw [hNN] at h1 w1
 have w2 := outR_ok (closed := closed) hN hc hd (Nat.le_refl ds.length)
 have b := (tau_bij hN2).comp (nameG_bij hN2)
 refine mfv_eq hN2 ?_
 have h2 := h1.perm hN2 b (by show nameG N (tau N 0) = 0; rw [tau_0 hN2]; rfl) (by show nameG N (tau N 1) = 1; rw [show tau N 1 = N - 1 by unfold tau; rw [if_pos rfl], nameG_last hN2])
 have e : permT N (tabOfW N (outR N nH ds ticks closed come ds.length)) = permG (fun i => nameG N (tau N i)) N (tabOfW N (waysOf nH ds ticks closed come)) := by
  refine sq_ext (permT_sq N _) (permG_sq _ N _) fun i j hi hj => ?_
  rw [permT_at _ hi hj, permG_at _ hi hj, tabW_at _ _ rfl w2, tabW_at _ _ rfl w1, ← outR_at hN hd, wsAt_name hN2 w2 (tau_lt hN2 hi) (tau_lt hN2 hj)]
 rw [e]
 exact h2
end
end Go.Proofs.Ytmagiabapakhcaa

/- The reference: how many people can be outside after some ticks, on values. (Vm) -/
namespace Go.Proofs.Ytmagiabapakhcaa
theorem HV.ne {h : Ho} (V : HV h) : ∀ d ∈ h.doors, DoOk h.holds.length d ∧ d.a ≠ d.b := fun d hd => ⟨(V.doors d hd).ok, (V.doors d hd).ne⟩
theorem outR_len {N nH ticks : Nat} {ds : List Do} {closed : List Int} {come : Nat → Int} {k : Nat} (h1 : nH ≤ 4) (h2 : k ≤ 5) (h3 : ticks ≤ 12) : (outR N nH ds ticks closed come k).length ≤ 200 := by
 unfold outR startR
 rw [List.length_append]
 have a := flatMap_len (fun i => hallR nH come i ticks) 13 (List.range nH) fun i _ => by simp [hallR]; omega
 have b := flatMap_len (doorTR N nH ticks ds closed) 24 (List.range k) fun i _ => by
  unfold doorTR
  split
  ·simp
  ·have := flatMap_len (fun t => doorR N nH t (ds.getD i do0)) 2 (List.range ticks) fun t _ => by
    unfold doorR
    split
    ·simp
    ·split <;> simp
   rw [List.length_range] at this
   omega
 rw [List.length_range] at a b
 omega
theorem upd_add {R : List (List Int)} {a b : Nat} (x : Int) (h : at2 R a b = 0) : upd2 R a b x = add2 R ⟨a, b, x⟩ := by
 unfold add2
 simp only
 rw [h, Int.zero_add]
end Go.Proofs.Ytmagiabapakhcaa
namespace Go.Proofs.Ytmagiabapakhcaa.Vm
open Go Go.Proofs
theorem has_r (l : List Int) (x : Int) (M : Mem) (hl : l.length ≤ 1000000) : VC Try.prog 102 [intsV l, vi x] M (fun r M' => M' = M ∧ r = vb (l.contains x)) := by
 refine VC_own' T_ok (f := 102) (fn := Try.f102) (by kernel_rfl) rfl Try.ntmps102 (by rfl) (by rfl) ?_
 ((repeat refine Ws ?_);refine Wr ?_)
 simp (maxSteps := 1000000) only [VL,VM,↓VG,reduceIte,reduceCtorEq,zA,zB,zC,zD,zE,zF,zG,zH,zI,zJ]
 ((repeat refine Ws ?_);refine Wr ?_)
 simp (maxSteps := 1000000) only [VL,VM,↓VG,reduceIte,reduceCtorEq,zA,zB,zC,zD,zE,zF,zG,zH,zI,zJ]
 ((repeat refine Ws ?_);refine W_block ?_; (repeat refine Ws ?_)); refine W_loopS (fun i : Nat => [(0, intsV l), (1, vi x), (5, vi i)]) (fun _ => M) (fun i => l.length - i) (fun i => i ≤ l.length ∧ (l.take i).contains x = false) 0 ⟨Nat.zero_le _, rfl⟩ ⟨rfl, rfl, rfl, trivial⟩ rfl ?_
 rintro i ⟨hi, hno⟩
 have k1 : -9223372036854775808 ≤ (i : Int) + 1 ∧ (i : Int) + 1 < 9223372036854775808 := by omega
 ((repeat refine Ws ?_);refine Wr ?_)
 rcases Nat.lt_or_ge i l.length with hlt | hge
 ·have k2 : ((i : Int) < (l.length : Int)) = True := eq_true (by omega)
  have hx : l[i]? = some l[i] := List.getElem?_eq_getElem hlt
  have hm := List.getElem_mem hlt
  have htk : l.take (i + 1) = l.take i ++ [l[i]] := by rw [List.take_add_one, hx]; rfl
  generalize l[i] = y at hx htk hm
  have hx' := map_at (f := intP) hx
  simp (maxSteps := 1000000) only [VL,VM,↓VG,reduceIte,reduceCtorEq,zA,zB,zC,zD,zE,zF,zG,zH,zI,zJ, k2]
  ((repeat refine Ws ?_);refine Wt (by first|rfl|simp only [EV,zF,reduceIte]) ?_)
  ((repeat refine Ws ?_);refine W_skip ?_)
  simp (maxSteps := 1000000) only [VL,VM,↓VG,reduceIte,reduceCtorEq,zA,zB,zC,zD,zE,zF,zG,zH,zI,zJ]
  ((repeat refine Ws ?_);refine W_block ?_)
  ((repeat refine Ws ?_);refine Wr ?_)
  by_cases e : y = x
  ·have e1 : (y = x) = True := eq_true e
   simp (maxSteps := 1000000) only [VL,VM,↓VG,reduceIte,reduceCtorEq,zA,zB,zC,zD,zE,zF,zG,zH,zI,zJ, hx', e1]
   ((repeat refine Ws ?_);refine Wt (by first|rfl|simp only [EV,zF,reduceIte]) ?_)
   ((repeat refine Ws ?_);refine Wr ?_)
   simp (maxSteps := 1000000) only [VL,VM,↓VG,reduceIte,reduceCtorEq,zA,zB,zC,zD,zE,zF,zG,zH,zI,zJ]
   (repeat refine Ws ?_)
   refine W_ret ?_
   try simp only [thenQ, blockQ]
   refine own_ret10 rfl ?_ (by rfl)
   simp only [get_cons, frz, vtup, Nat.reduceEqDiff, if_true, if_false, reduceIte]
   rw [show l.contains x = true by rw [List.contains_iff_mem, ← e]; exact hm]
  have e1 : (y = x) = False := eq_false e
  simp (maxSteps := 1000000) only [VL,VM,↓VG,reduceIte,reduceCtorEq,zA,zB,zC,zD,zE,zF,zG,zH,zI,zJ, hx', e1]
  ((repeat refine Ws ?_);refine Wf (by first|rfl|simp only [EV,zF,reduceIte]) ?_)
  ((repeat refine Ws ?_);refine W_skip ?_)
  simp (maxSteps := 1000000) only [VL,VM,↓VG,reduceIte,reduceCtorEq,zA,zB,zC,zD,zE,zF,zG,zH,zI,zJ]
  ((repeat refine Ws ?_);refine Wr ?_)
  simp (maxSteps := 1000000) only [VL,VM,↓VG,reduceIte,reduceCtorEq,zA,zB,zC,zD,zE,zF,zG,zH,zI,zJ, k1]
  refine LoopK.mk (i + 1) (by omega) ⟨by omega, ?_⟩ ⟨rfl, rfl, rfl, trivial⟩ rfl
  rw [htk]
  simp only [List.contains_eq_mem, List.mem_append, List.mem_singleton, decide_eq_false_iff_not] at hno ⊢
  rintro (h | h)
  ·exact hno h
  ·exact e h.symm
 have k2 : ((i : Int) < (l.length : Int)) = False := eq_false (by omega)
 obtain rfl : i = l.length := by omega
 rw [List.take_length] at hno
 simp (maxSteps := 1000000) only [VL,VM,↓VG,reduceIte,reduceCtorEq,zA,zB,zC,zD,zE,zF,zG,zH,zI,zJ, k2]
 ((repeat refine Ws ?_);refine Wf (by first|rfl|simp only [EV,zF,reduceIte]) ?_)
 ((repeat refine Ws ?_);refine W_exit ?_)
 simp (maxSteps := 1000000) only [VL,VM,↓VG,reduceIte,reduceCtorEq,zA,zB,zC,zD,zE,zF,zG,zH,zI,zJ]
 ((repeat refine Ws ?_);refine Wr ?_)
 simp (maxSteps := 1000000) only [VL,VM,↓VG,reduceIte,reduceCtorEq,zA,zB,zC,zD,zE,zF,zG,zH,zI,zJ]
 (repeat refine Ws ?_)
 refine W_ret ?_
 try simp only [thenQ, blockQ]
 refine own_ret10 rfl ?_ (by rfl)
 simp only [get_cons, frz, vtup, Nat.reduceEqDiff, if_true, if_false, reduceIte]
 rw [hno]
theorem sum_r (l : List Int) (M : Mem) (hl : l.length ≤ 1000000) (hb : ∀ x ∈ l, 0 ≤ x ∧ x ≤ 2000000000) : VC Try.prog 80 [intsV l] M (fun r M' => M' = M ∧ r = vi l.sum) := by
 refine VC_own' T_ok (f := 80) (fn := Try.f80) (by kernel_rfl) rfl Try.ntmps80 (by rfl) (by rfl) ?_
 ((repeat refine Ws ?_);refine Wr ?_)
 simp (maxSteps := 1000000) only [VL,VM,↓VG,reduceIte,reduceCtorEq,zA,zB,zC,zD,zE,zF,zG,zH,zI,zJ]
 ((repeat refine Ws ?_);refine Wr ?_)
 simp (maxSteps := 1000000) only [VL,VM,↓VG,reduceIte,reduceCtorEq,zA,zB,zC,zD,zE,zF,zG,zH,zI,zJ]
 ((repeat refine Ws ?_);refine Wr ?_)
 simp (maxSteps := 1000000) only [VL,VM,↓VG,reduceIte,reduceCtorEq,zA,zB,zC,zD,zE,zF,zG,zH,zI,zJ]
 ((repeat refine Ws ?_);refine W_block ?_; (repeat refine Ws ?_)); refine W_loopS (fun i : Nat => [(0, intsV l), (3, vi (l.take i).sum), (4, vi i)]) (fun _ => M) (fun i => l.length - i) (fun i => i ≤ l.length ∧ 0 ≤ (l.take i).sum ∧ (l.take i).sum ≤ 2000000000 * i) 0 ⟨Nat.zero_le _, by simp, by simp⟩ ⟨rfl, rfl, rfl, trivial⟩ rfl ?_
 rintro i ⟨hi, hs0, hs1⟩
 have k1 : -9223372036854775808 ≤ (i : Int) + 1 ∧ (i : Int) + 1 < 9223372036854775808 := by omega
 ((repeat refine Ws ?_);refine Wr ?_)
 rcases Nat.lt_or_ge i l.length with hlt | hge
 ·have k2 : ((i : Int) < (l.length : Int)) = True := eq_true (by omega)
  have hx : l[i]? = some l[i] := List.getElem?_eq_getElem hlt
  have hm := hb _ (List.getElem_mem hlt)
  generalize l[i] = d at hx hm
  have hx' := map_at (f := intP) hx
  have hsum : (l.take (i + 1)).sum = (l.take i).sum + d := by rw [List.take_add_one, hx]; simp
  have k3 : -9223372036854775808 ≤ (l.take i).sum + d ∧ (l.take i).sum + d < 9223372036854775808 := by omega
  simp (maxSteps := 1000000) only [VL,VM,↓VG,reduceIte,reduceCtorEq,zA,zB,zC,zD,zE,zF,zG,zH,zI,zJ, k2]
  ((repeat refine Ws ?_);refine Wt (by first|rfl|simp only [EV,zF,reduceIte]) ?_)
  ((repeat refine Ws ?_);refine W_skip ?_)
  simp (maxSteps := 1000000) only [VL,VM,↓VG,reduceIte,reduceCtorEq,zA,zB,zC,zD,zE,zF,zG,zH,zI,zJ]
  ((repeat refine Ws ?_);refine W_block ?_)
  ((repeat refine Ws ?_);refine Wr ?_)
  simp (maxSteps := 1000000) only [VL,VM,↓VG,reduceIte,reduceCtorEq,zA,zB,zC,zD,zE,zF,zG,zH,zI,zJ, hx', k3]
  ((repeat refine Ws ?_);refine Wr ?_)
  simp (maxSteps := 1000000) only [VL,VM,↓VG,reduceIte,reduceCtorEq,zA,zB,zC,zD,zE,zF,zG,zH,zI,zJ, k1]
  refine LoopK.mk (i + 1) (by omega) ⟨by omega, by omega, by omega⟩ ⟨rfl, ?_, rfl, trivial⟩ rfl
  rw [hsum]; rfl
 have k2 : ((i : Int) < (l.length : Int)) = False := eq_false (by omega)
 obtain rfl : i = l.length := by omega
 simp (maxSteps := 1000000) only [VL,VM,↓VG,reduceIte,reduceCtorEq,zA,zB,zC,zD,zE,zF,zG,zH,zI,zJ, k2, List.take_length]
 ((repeat refine Ws ?_);refine Wf (by first|rfl|simp only [EV,zF,reduceIte]) ?_)
 ((repeat refine Ws ?_);refine W_exit ?_)
 simp (maxSteps := 1000000) only [VL,VM,↓VG,reduceIte,reduceCtorEq,zA,zB,zC,zD,zE,zF,zG,zH,zI,zJ]
 ((repeat refine Ws ?_);refine Wr ?_)
 simp (maxSteps := 1000000) only [VL,VM,↓VG,reduceIte,reduceCtorEq,zA,zB,zC,zD,zE,zF,zG,zH,zI,zJ]
 (repeat refine Ws ?_)
 refine W_ret ?_
 try simp only [thenQ, blockQ]
 refine own_ret10 rfl ?_ (by rfl)
 simp only [get_cons, frz, vtup, Nat.reduceEqDiff, if_true, if_false, reduceIte]
theorem closed_r (h : Ho) (l : List Int) (M : Mem) (hl : l.length ≤ 1000000) (hd : h.doors.length ≤ 1000000) : VC Try.prog 78 [houseV h, intsV l] M (fun r M' => M' = M ∧ r = vi (closedErr h.doors.length l)) := by
 have k4 : -9223372036854775808 ≤ (h.doors.length : Int) - 1 ∧ (h.doors.length : Int) - 1 < 9223372036854775808 := by omega
 refine VC_own' T_ok (f := 78) (fn := Try.f78) (by kernel_rfl) rfl Try.ntmps78 (by rfl) (by rfl) ?_
 ((repeat refine Ws ?_);refine Wr ?_)
 simp (maxSteps := 1000000) only [VL,VM,↓VG,reduceIte,reduceCtorEq,zA,zB,zC,zD,zE,zF,zG,zH,zI,zJ]
 ((repeat refine Ws ?_);refine Wr ?_)
 simp (maxSteps := 1000000) only [VL,VM,↓VG,reduceIte,reduceCtorEq,zA,zB,zC,zD,zE,zF,zG,zH,zI,zJ]
 ((repeat refine Ws ?_);refine W_block ?_; (repeat refine Ws ?_)); refine W_loopS (fun i : Nat => [(1, intsV l), (2, .ptr M.H.length 0), (5, vi i)]) (fun _ => ⟨M.H ++ [.obj (houseC h)], M.lg⟩) (fun i => l.length - i) (fun i => i ≤ l.length ∧ closedErr h.doors.length l = clErr h.doors.length (prevOf l i) (l.drop i)) 0 ⟨Nat.zero_le _, rfl⟩ ⟨rfl, rfl, rfl, trivial⟩ rfl ?_
 rintro i ⟨hi, he⟩
 have k1 : -9223372036854775808 ≤ (i : Int) + 1 ∧ (i : Int) + 1 < 9223372036854775808 := by omega
 ((repeat refine Ws ?_);refine Wr ?_)
 rcases Nat.lt_or_ge i l.length with hlt | hge
 ·have k2 : ((i : Int) < (l.length : Int)) = True := eq_true (by omega)
  have hx : l[i]? = some l[i] := List.getElem?_eq_getElem hlt
  generalize l[i] = d at hx
  have hx' := map_at (f := intP) hx
  have hst := clErr_drop hx he
  simp (maxSteps := 1000000) only [VL,VM,↓VG,reduceIte,reduceCtorEq,zA,zB,zC,zD,zE,zF,zG,zH,zI,zJ, k2]
  ((repeat refine Ws ?_);refine Wt (by first|rfl|simp only [EV,zF,reduceIte]) ?_)
  ((repeat refine Ws ?_);refine W_skip ?_)
  simp (maxSteps := 1000000) only [VL,VM,↓VG,reduceIte,reduceCtorEq,zA,zB,zC,zD,zE,zF,zG,zH,zI,zJ]
  ((repeat refine Ws ?_);refine W_block ?_)
  (repeat refine Ws ?_)
  refine W_drawP T_ok [] (by kernel_rfl) (by kernel_rfl) ?_
  generalize hi : mkPlan _ = infs
  cbv at hi
  subst hi
  simp (maxSteps := 1000000) only [VL,VM,↓VG,reduceIte,reduceCtorEq,zA,zB,zC,zD,zE,zF,zG,zH,zI,zJ, hx', k4]
  apply call_d (f := 73) (fn := Try.f73) (by kernel_rfl) (by rfl)
  ·exact within_r _ _ _ _
  cases b1 : inR d 0 ((h.doors.length : Int) - 1)
  ·rw [b1] at hst
   simp (maxSteps := 1000000) only [VL,VM,↓VG,reduceIte,reduceCtorEq,zA,zB,zC,zD,zE,zF,zG,zH,zI,zJ]
   ((repeat refine Ws ?_);refine Wt (by first|rfl|simp only [EV,zF,reduceIte]) ?_)
   ((repeat refine Ws ?_);refine Wr ?_)
   simp (maxSteps := 1000000) only [VL,VM,↓VG,reduceIte,reduceCtorEq,zA,zB,zC,zD,zE,zF,zG,zH,zI,zJ]
   (repeat refine Ws ?_)
   refine W_ret ?_
   try simp only [thenQ, blockQ]
   refine own_ret1 rfl ?_ (by rfl)
   simp only [get_cons, frz, vtup, Nat.reduceEqDiff, if_true, if_false, reduceIte]
   rw [hst]; rfl
  rw [b1, if_pos rfl] at hst
  simp (maxSteps := 1000000) only [VL,VM,↓VG,reduceIte,reduceCtorEq,zA,zB,zC,zD,zE,zF,zG,zH,zI,zJ]
  ((repeat refine Ws ?_);refine Wf (by first|rfl|simp only [EV,zF,reduceIte]) ?_)
  ((repeat refine Ws ?_);refine W_skip ?_)
  simp (maxSteps := 1000000) only [VL,VM,↓VG,reduceIte,reduceCtorEq,zA,zB,zC,zD,zE,zF,zG,zH,zI,zJ]
  (repeat refine Ws ?_)
  refine W_drawP T_ok [] (by kernel_rfl) (by kernel_rfl) ?_
  generalize hi : mkPlan _ = infs
  cbv at hi
  subst hi
  rcases i with _ | j
  ·have k3 : ((0 : Int) < ((0 : Nat) : Int)) = False := eq_false (by omega)
   rw [if_neg (by simp [prevOf])] at hst
   simp (maxSteps := 1000000) only [VL,VM,↓VG,reduceIte,reduceCtorEq,zA,zB,zC,zD,zE,zF,zG,zH,zI,zJ, k3]
   ((repeat refine Ws ?_);refine Wf (by first|rfl|simp only [EV,zF,reduceIte]) ?_)
   ((repeat refine Ws ?_);refine W_skip ?_)
   simp (maxSteps := 1000000) only [VL,VM,↓VG,reduceIte,reduceCtorEq,zA,zB,zC,zD,zE,zF,zG,zH,zI,zJ]
   ((repeat refine Ws ?_);refine Wr ?_)
   simp (maxSteps := 1000000) only [VL,VM,↓VG,reduceIte,reduceCtorEq,zA,zB,zC,zD,zE,zF,zG,zH,zI,zJ, k1]
   refine LoopK.mk (0 + 1) (by omega) ⟨by omega, hst⟩ ⟨rfl, rfl, rfl, trivial⟩ rfl
  have k3 : ((0 : Int) < ((j + 1 : Nat) : Int)) = True := eq_true (by omega)
  have k5 : -9223372036854775808 ≤ (j : Int) ∧ (j : Int) < 9223372036854775808 := by omega
  have k6 : ((j + 1 : Nat) : Int) - 1 = (j : Int) := by omega
  have hy : l[j]? = some l[j] := List.getElem?_eq_getElem (by omega)
  have hp : prevOf l (j + 1) = some l[j] := by rw [prevOf, hy]
  generalize l[j] = q at hy hp
  have hy' := map_at (f := intP) hy
  rw [hp] at hst
  by_cases b2 : d ≤ q
  ·have k7 : (d ≤ q) = True := eq_true b2
   rw [if_pos (by simpa using b2)] at hst
   simp (maxSteps := 1000000) only [VL,VM,↓VG,reduceIte,reduceCtorEq,zA,zB,zC,zD,zE,zF,zG,zH,zI,zJ, k3, k5, k6, hx', hy', k7]
   ((repeat refine Ws ?_);refine Wt (by first|rfl|simp only [EV,zF,reduceIte]) ?_)
   ((repeat refine Ws ?_);refine Wr ?_)
   simp (maxSteps := 1000000) only [VL,VM,↓VG,reduceIte,reduceCtorEq,zA,zB,zC,zD,zE,zF,zG,zH,zI,zJ]
   (repeat refine Ws ?_)
   refine W_ret ?_
   try simp only [thenQ, blockQ]
   refine own_ret1 rfl ?_ (by rfl)
   simp only [get_cons, frz, vtup, Nat.reduceEqDiff, if_true, if_false, reduceIte]
   rw [hst]
  have k7 : (d ≤ q) = False := eq_false b2
  rw [if_neg (by simpa using b2)] at hst
  simp (maxSteps := 1000000) only [VL,VM,↓VG,reduceIte,reduceCtorEq,zA,zB,zC,zD,zE,zF,zG,zH,zI,zJ, k3, k5, k6, hx', hy', k7]
  ((repeat refine Ws ?_);refine Wf (by first|rfl|simp only [EV,zF,reduceIte]) ?_)
  ((repeat refine Ws ?_);refine W_skip ?_)
  simp (maxSteps := 1000000) only [VL,VM,↓VG,reduceIte,reduceCtorEq,zA,zB,zC,zD,zE,zF,zG,zH,zI,zJ]
  ((repeat refine Ws ?_);refine Wr ?_)
  simp (maxSteps := 1000000) only [VL,VM,↓VG,reduceIte,reduceCtorEq,zA,zB,zC,zD,zE,zF,zG,zH,zI,zJ, k1]
  refine LoopK.mk (j + 1 + 1) (by omega) ⟨by omega, hst⟩ ⟨rfl, rfl, rfl, trivial⟩ rfl
 have k2 : ((i : Int) < (l.length : Int)) = False := eq_false (by omega)
 obtain rfl : i = l.length := by omega
 rw [List.drop_length, clErr] at he
 simp (maxSteps := 1000000) only [VL,VM,↓VG,reduceIte,reduceCtorEq,zA,zB,zC,zD,zE,zF,zG,zH,zI,zJ, k2]
 ((repeat refine Ws ?_);refine Wf (by first|rfl|simp only [EV,zF,reduceIte]) ?_)
 ((repeat refine Ws ?_);refine W_exit ?_)
 simp (maxSteps := 1000000) only [VL,VM,↓VG,reduceIte,reduceCtorEq,zA,zB,zC,zD,zE,zF,zG,zH,zI,zJ]
 ((repeat refine Ws ?_);refine Wr ?_)
 simp (maxSteps := 1000000) only [VL,VM,↓VG,reduceIte,reduceCtorEq,zA,zB,zC,zD,zE,zF,zG,zH,zI,zJ]
 (repeat refine Ws ?_)
 refine W_ret ?_
 try simp only [thenQ, blockQ]
 refine own_ret1 rfl ?_ (by rfl)
 simp only [get_cons, frz, vtup, Nat.reduceEqDiff, if_true, if_false, reduceIte]
 rw [he]
end Go.Proofs.Ytmagiabapakhcaa.Vm

/- The reference: a table of room that is filled, on values. (Vm) -/
namespace Go.Proofs.Ytmagiabapakhcaa.Vm
open Go Go.Proofs
def FB (H0 : List VObj) (N : Nat) (R : List (List Int)) : List VObj := H0 ++ (VObj.obj ((List.range N).map fun i => .bf (H0.length + 1 + i) 0 N 1) :: R.map rowO)
def rowsB (n0 N i : Nat) : List VV := (List.range i).map (fun j => VV.bf (n0 + 1 + j) 0 N 1) ++ List.replicate (N - i) (.sf 0 [])
theorem rowsB_len {n0 N i : Nat} (h : i ≤ N) : (rowsB n0 N i).length = N := by simp [rowsB]; omega
theorem rowsB_set {n0 N i : Nat} (h : i < N) : (rowsB n0 N i).set i (.bf (n0 + 1 + i) 0 N 1) = rowsB n0 N (i + 1) := by
 unfold rowsB
 rw [List.set_append_right _ _ (by simp), List.length_map, List.length_range, Nat.sub_self, show N - i = (N - (i + 1)) + 1 by omega, List.replicate_succ, List.set_cons_zero, List.range_succ, List.map_append, List.append_assoc]
 rfl
section
variable {H0 : List VObj} {N : Nat} {R : List (List Int)}
theorem FB_len (hs : Sq N R) : (FB H0 N R).length = H0.length + 1 + N := by simp [FB, hs.len]; omega
theorem FB_0 (L : List VObj) : (FB H0 N R ++ L)[H0.length]? = some (.obj ((List.range N).map fun i => .bf (H0.length + 1 + i) 0 N 1)) := by
 rw [FB, List.append_assoc, hget0]; rfl
theorem FB_row (hs : Sq N R) (L : List VObj) {i : Nat} (hi : i < N) : (FB H0 N R ++ L)[H0.length + 1 + i]? = some (.obj ((R.getD i []).map vi)) := by
 have h2 : i < R.length := by rw [hs.len]; exact hi
 rw [FB, List.append_assoc, Nat.add_assoc, hget, show 1 + i = i + 1 by omega, List.cons_append, List.getElem?_cons_succ, List.getElem?_append_left (by rw [List.length_map]; exact h2), List.getElem?_map, List.getElem?_eq_getElem h2, List.getD_eq_getElem?_getD, List.getElem?_eq_getElem h2]
 rfl
theorem FB_set (hs : Sq N R) (L : List VObj) {i : Nat} (hi : i < N) (j : Nat) (x : Int) : (FB H0 N R ++ L).set (H0.length + 1 + i) (.obj (((R.getD i []).set j x).map vi)) = FB H0 N (upd2 R i j x) ++ L := by
 have h2 : i < R.length := by rw [hs.len]; exact hi
 rw [FB, List.append_assoc, Nat.add_assoc, hset, show 1 + i = i + 1 by omega, List.cons_append, List.set_cons_succ, List.set_append_left _ _ (by rw [List.length_map]; exact h2), FB, List.append_assoc, upd2]
 simp [List.map_set, rowO]
theorem FB_old (L : List VObj) {i : Nat} {o : VObj} (h : H0[i]? = some o) : (FB H0 N R ++ L)[i]? = some o := by
 rw [FB, List.append_assoc]
 exact app_get h _
theorem FB_rowat {i : Nat} (hi : i < N) : ((List.range N).map fun i => VV.bf (H0.length + 1 + i) 0 N 1)[i]? = some (.bf (H0.length + 1 + i) 0 N 1) := by simp [hi]
theorem FB_cell (hs : Sq N R) {i j : Nat} (hi : i < N) (hj : j < N) : ((R.getD i []).map vi)[j]? = some (vi (at2 R i j)) := by
 have := hs.rowlen hi
 rw [List.getElem?_map, List.getElem?_eq_getElem (by omega)]
 unfold at2
 rw [List.getD_eq_getElem?_getD (l := R.getD i []), List.getElem?_eq_getElem (by omega)]
 rfl
theorem FB_sp (hs : Sq N R) {i j : Nat} (hi : i < N) (hj : j < N) (x : Int) : List.map vi (List.take j (R.getD i [])) ++ vi x :: List.map vi (List.drop (j + 1) (R.getD i [])) = List.map vi ((R.getD i []).set j x) := by
 rw [List.set_eq_take_append_cons_drop, if_pos (by rw [hs.rowlen hi]; exact hj)]
 simp
theorem FB_le (hs : Sq N R) {i j : Nat} (hi : i < N) (hj : j < N) : (j + 1 ≤ (R.getD i []).length) = True := eq_true (by rw [hs.rowlen hi]; exact hj)
theorem FB_rows (hs : Sq N R) (R' : List (List Int)) (hl : R'.length = N) (L : List VObj) : setRows (FB H0 N R ++ L) (H0.length + 1) R' = FB H0 N R' ++ L := by
 obtain ⟨P, hP⟩ : ∃ P, P = H0 ++ [VObj.obj ((List.range N).map fun i => .bf (H0.length + 1 + i) 0 N 1)] := ⟨_, rfl⟩
 have e : FB H0 N R ++ L = P ++ (R.map rowO ++ L) := by simp [FB, hP]
 have e2 : FB H0 N R' ++ L = P ++ (R'.map rowO ++ L) := by simp [FB, hP]
 have e3 : H0.length + 1 = P.length := by simp [hP]
 rw [e, e2, e3, setRows_mid _ _ _ _ (by rw [List.length_map, hs.len, hl])]
end
theorem FB_new {H0 : List VObj} {N : Nat} {R : List (List Int)} (hs : Sq N R) (junk : List VObj) (o : VObj) : (FB H0 N R ++ (junk ++ [o]))[H0.length + (1 + (N + junk.length))]? = some o := by
 have h1 := FB_len (H0 := H0) hs
 rw [List.getElem?_append_right (by omega), h1, show H0.length + (1 + (N + junk.length)) - (H0.length + 1 + N) = junk.length by omega, hget0]; rfl
theorem FB_newset {H0 : List VObj} {N : Nat} {R : List (List Int)} (hs : Sq N R) (junk : List VObj) (o o' : VObj) : (FB H0 N R ++ (junk ++ [o])).set (H0.length + (1 + (N + junk.length))) o' = FB H0 N R ++ (junk ++ [o']) := by
 have h1 := FB_len (H0 := H0) hs
 rw [List.set_append_right _ _ (by omega), h1, show H0.length + (1 + (N + junk.length)) - (H0.length + 1 + N) = junk.length by omega, hset0]; rfl
theorem rowsB_all (n0 N : Nat) : rowsB n0 N N = (List.range N).map fun j => VV.bf (n0 + 1 + j) 0 N 1 := by simp [rowsB]
end Go.Proofs.Ytmagiabapakhcaa.Vm
