/- A part of the proofs about the chapter of the doors; it states no condition of its own. -/
import Derived.Test.YtmagiabapakhcaaB35
import Derived.Test.YtmagiabapakhcaaB42
import Derived.Test.YtmagiabapakhcaaB57
set_option linter.unusedVariables false
set_option linter.unusedSimpArgs false
/- Who gets out, plain: by the sets of halls alone. -/
namespace Go.Proofs.Ytmagiabapakhcaa
theorem sumTo_cut (n m : Nat) (f : Nat → Int) : sumTo (n + m) f = sumTo n f + sumTo m fun j => f (n + j) := by
 induction m with
 | zero => rw [sumTo_zero]; show sumTo n f = _; omega
 | succ m ih => rw [← Nat.add_assoc, sumTo_succ, sumTo_succ, ih]; omega
theorem sumTo_nil {n : Nat} {f : Nat → Int} (h : ∀ i, i < n → f i = 0) : sumTo n f = 0 := by
 rw [sumTo_congr (g := fun _ => 0) h, sumTo_const0]
def startC (nH : Nat) (c : Nat → Int) (S : Nat → Bool) : Int := sumTo nH fun i => if S (2 + i) then 0 else c i
def restC (N nH : Nat) (ds : List Do) (ticks : Nat) (closed : List Int) (S : Nat → Bool) : Int := sumTo N fun i => sumTo N fun j => if S i && !S j then wsAt ((List.range ticks).flatMap (tickWs nH ds closed)) i j else 0
theorem cut_split {nH : Nat} {ds : List Do} {ticks : Nat} {closed : List Int} {c : Nat → Int} (hd : ∀ d ∈ ds, DoOk nH d) (hc : ∀ i, i < nH → 0 ≤ c i ∧ c i ≤ 1073741824) {S : Nat → Bool} (s0 : S 0 = true) :
  cutOf (2 + (ticks + 1) * nH) (tabOfW (2 + (ticks + 1) * nH) (waysOf nH ds ticks closed c)) S = startC nH c S + restC (2 + (ticks + 1) * nH) nH ds ticks closed S := by
 have w1 := waysOf_ok (ticks := ticks) (closed := closed) hd hc
 have hN2 := nh_le nH ticks
 generalize 2 + (ticks + 1) * nH = N at w1 hN2 ⊢
 have a1 : ∀ i j, at2 (tabOfW N (waysOf nH ds ticks closed c)) i j = (if i = 0 ∧ 2 ≤ j ∧ j < 2 + nH then c (j - 2) else 0) + wsAt ((List.range ticks).flatMap (tickWs nH ds closed)) i j := fun i j => by
  rw [tabW_at _ _ rfl w1]
  unfold waysOf
  rw [wsAt_app, start_at]
 have e1 : cutOf N (tabOfW N (waysOf nH ds ticks closed c)) S = sumTo N (fun i => sumTo N fun j => if S i && !S j then (if i = 0 ∧ 2 ≤ j ∧ j < 2 + nH then c (j - 2) else 0) else 0) + restC N nH ds ticks closed S := by
  unfold cutOf restC
  rw [← sumTo_add]
  refine sumTo_congr fun i _ => ?_
  rw [← sumTo_add]
  refine sumTo_congr fun j _ => ?_
  rw [a1]
  cases (S i && !S j) <;> simp
 rw [e1]
 congr 1
 obtain ⟨m, rfl⟩ : ∃ m, N = 2 + (nH + m) := ⟨N - (2 + nH), by omega⟩
 have e2 : ∀ i, i < 2 + (nH + m) → (sumTo (2 + (nH + m)) fun j => if S i && !S j then (if i = 0 ∧ 2 ≤ j ∧ j < 2 + nH then c (j - 2) else 0) else 0) = if i = 0 then startC nH c S else 0 := fun i _ => by
  by_cases hi : i = 0
  ·subst hi
   rw [if_pos rfl, sumTo_cut, sumTo_cut nH m]
   rw [sumTo_nil (n := 2) fun j hj => by rw [if_neg (show ¬ (0 = 0 ∧ 2 ≤ j ∧ j < 2 + nH) by omega)]; split <;> rfl]
   rw [sumTo_nil (n := m) fun j hj => by rw [if_neg (show ¬ (0 = 0 ∧ 2 ≤ 2 + (nH + j) ∧ 2 + (nH + j) < 2 + nH) by omega)]; split <;> rfl]
   unfold startC
   rw [Int.zero_add, Int.add_zero]
   refine sumTo_congr fun j hj => ?_
   rw [if_pos (show 0 = 0 ∧ 2 ≤ 2 + j ∧ 2 + j < 2 + nH by omega), s0, show 2 + j - 2 = j by omega]
   cases S (2 + j) <;> rfl
  ·rw [if_neg hi]
   refine sumTo_nil fun j _ => ?_
   have hno : ¬ (i = 0 ∧ 2 ≤ j ∧ j < 2 + nH) := fun q => hi q.1
   rw [if_neg hno]
   split <;> rfl
 rw [sumTo_congr e2, sumTo_one (by omega)]
def ofS (nH s : Nat) (c : Nat → Int) : Int := sumTo nH fun i => if s.testBit i then c i else 0
theorem bits_of (p : Nat → Bool) : ∀ n : Nat, ∃ s, s < 2 ^ n ∧ ∀ i, i < n → s.testBit i = p i
 | 0 => ⟨0, by simp, fun i hi => by omega⟩
 | n + 1 => by
  obtain ⟨s, h1, h2⟩ := bits_of p n
  cases hp : p n with
  | false =>
   refine ⟨s, by rw [Nat.pow_succ]; omega, fun i hi => ?_⟩
   rcases Nat.lt_or_eq_of_le (Nat.le_of_lt_succ hi) with q | rfl
   ·exact h2 i q
   ·rw [hp]; exact Nat.testBit_lt_two_pow h1
  | true =>
   refine ⟨2 ^ n + s, by rw [Nat.pow_succ]; omega, fun i hi => ?_⟩
   rcases Nat.lt_or_eq_of_le (Nat.le_of_lt_succ hi) with q | rfl
   ·rw [Nat.testBit_two_pow_add_gt q]; exact h2 i q
   ·rw [hp, Nat.testBit_two_pow_add_eq, Nat.testBit_lt_two_pow h1]; rfl
section
variable {nH : Nat} {ds : List Do} {ticks : Nat} {closed : List Int} {c : Nat → Int}
theorem comeL_bd (s i : Nat) : 0 ≤ comeL s i ∧ comeL s i ≤ 1073741824 := by unfold comeL; split <;> omega
theorem out_if (hn : 1 ≤ nH) (hd : ∀ d ∈ ds, DoOk nH d) (hc : ∀ i, i < nH → 0 ≤ c i ∧ c i ≤ 1073741824) (h : ∀ s, s < 2 ^ nH → ofS nH s c ≤ Vm.leaveV nH ds ticks closed (comeL s)) : Vm.leaveV nH ds ticks closed c = sumTo nH c := by
 have hle := leave_le (ticks := ticks) (closed := closed) hn hd hc
 obtain ⟨_, S, s0, s1, hS⟩ := leave_MF (ticks := ticks) (closed := closed) hn hd hc
 rw [cut_split hd hc s0] at hS
 obtain ⟨s, hs1, hs2⟩ := bits_of (fun i => S (2 + i)) nH
 have h1 := h s hs1
 have h2 := (leave_MF (ticks := ticks) (closed := closed) (c := comeL s) hn hd (fun i _ => comeL_bd s i)).le_cut (by have := nh_le nH ticks; omega) s0 s1
 rw [cut_split hd (fun i _ => comeL_bd s i) s0] at h2
 have h3 : startC nH (comeL s) S = 0 := by
  unfold startC
  refine sumTo_nil fun i hi => ?_
  have := hs2 i hi
  cases hsi : S (2 + i) with
  | true => rfl
  | false =>
   simp only [Bool.false_eq_true, if_false]
   unfold comeL
   rw [this, hsi]; rfl
 have h4 : sumTo nH c = ofS nH s c + startC nH c S := by
  unfold ofS startC
  rw [← sumTo_add]
  refine sumTo_congr fun i hi => ?_
  rw [hs2 i hi]
  cases S (2 + i) <;> simp
 omega
theorem out_not (hn : 1 ≤ nH) (hd : ∀ d ∈ ds, DoOk nH d) (hc : ∀ i, i < nH → 0 ≤ c i ∧ c i ≤ 100000) (hn4 : nH ≤ 100) {s : Nat} (h : Vm.leaveV nH ds ticks closed (comeL s) < ofS nH s c) : Vm.leaveV nH ds ticks closed c < sumTo nH c := by
 obtain ⟨_, S, s0, s1, hS⟩ := leave_MF (ticks := ticks) (closed := closed) (c := comeL s) hn hd (fun i _ => comeL_bd s i)
 have hc' : ∀ i, i < nH → 0 ≤ c i ∧ c i ≤ 1073741824 := fun i hi => by have := hc i hi; omega
 have h2 := (leave_MF (ticks := ticks) (closed := closed) hn hd hc').le_cut (by have := nh_le nH ticks; omega) s0 s1
 rw [cut_split hd hc' s0] at h2
 rw [cut_split hd (fun i _ => comeL_bd s i) s0] at hS
 have hr0 : 0 ≤ restC (2 + (ticks + 1) * nH) nH ds ticks closed S := by
  have w1 := waysOf_ok (ticks := ticks) (closed := closed) hd hc'
  refine sumTo_nn fun i _ => sumTo_nn fun j _ => ?_
  have := wsAt_nn (fun w hw => (w1 w (by unfold waysOf; exact List.mem_append_right _ hw)).lo) i j
  split <;> omega
 have hst0 : 0 ≤ startC nH (comeL s) S := sumTo_nn fun i _ => by have := (comeL_bd s i).1; split <;> omega
 have hof : ofS nH s c ≤ 10000000 := by
  have := (sumTo_bd (n := nH) (f := fun i => if s.testBit i then c i else 0) (a := 0) (b := 100000) fun i hi => by have := hc i hi; split <;> omega).2
  unfold ofS
  omega
 have hin : ∀ i, i < nH → s.testBit i = true → S (2 + i) = true := fun i hi hb => by
  cases hsi : S (2 + i) with
  | true => rfl
  | false =>
   have ht := sumTo_term (f := fun i => if S (2 + i) then 0 else comeL s i) (fun i _ => by have := (comeL_bd s i).1; split <;> omega) hi
   have e : (if S (2 + i) = true then 0 else comeL s i) = 1073741824 := by rw [hsi]; unfold comeL; rw [hb]; rfl
   have : (1073741824 : Int) ≤ startC nH (comeL s) S := by
    unfold startC
    exact Int.le_trans (Int.le_of_eq e.symm) ht
   omega
 have h4 : ofS nH s c + startC nH c S ≤ sumTo nH c := by
  unfold ofS startC
  rw [← sumTo_add]
  refine sumTo_le fun i hi => ?_
  have := hc i hi
  cases hb : s.testBit i with
  | true => rw [hin i hi hb]; simp
  | false => cases S (2 + i) <;> simp <;> omega
 omega
end
end Go.Proofs.Ytmagiabapakhcaa

/- How many are admitted, plain. -/
namespace Go.Proofs.Ytmagiabapakhcaa
theorem sumTo_more {n m : Nat} {f : Nat → Int} (h : n ≤ m) (h0 : ∀ i, 0 ≤ f i) : sumTo n f ≤ sumTo m f := by
 obtain ⟨k, rfl⟩ : ∃ k, m = n + k := ⟨m - n, by omega⟩
 rw [sumTo_cut]
 have := sumTo_nn (n := k) (f := fun j => f (n + j)) fun i _ => h0 _
 omega
section
variable {nH : Nat} {ds : List Do} {ticks : Nat} {closed : List Int} {c : Nat → Int}
theorem leave_grow (hn : 1 ≤ nH) (hd : ∀ d ∈ ds, DoOk nH d) (hc : ∀ i, i < nH → 0 ≤ c i ∧ c i ≤ 1073741824) : Vm.leaveV nH ds ticks closed c ≤ Vm.leaveV nH ds (ticks + 1) closed c := by
 obtain ⟨_, S, s0, s1, hS⟩ := leave_MF (ticks := ticks + 1) (closed := closed) hn hd hc
 have h2 := (leave_MF (ticks := ticks) (closed := closed) hn hd hc).le_cut (by have := nh_le nH ticks; omega) s0 s1
 rw [cut_split hd hc s0] at h2 hS
 have w1 := waysOf_ok (ticks := ticks + 1) (closed := closed) hd hc
 have hw : ∀ i j, 0 ≤ wsAt ((List.range (ticks + 1)).flatMap (tickWs nH ds closed)) i j := fun i j => wsAt_nn (fun w hw => (w1 w (by unfold waysOf; exact List.mem_append_right _ hw)).lo) i j
 have hw2 : ∀ i j, wsAt ((List.range ticks).flatMap (tickWs nH ds closed)) i j ≤ wsAt ((List.range (ticks + 1)).flatMap (tickWs nH ds closed)) i j := fun i j => by
  have hlo : ∀ w ∈ tickWs nH ds closed ticks, 0 ≤ w.most := fun w hw => (w1 w (by
   unfold waysOf
   refine List.mem_append_right _ (List.mem_flatMap.2 ⟨ticks, by simp, hw⟩))).lo
  have := wsAt_nn hlo i j
  rw [List.range_succ, List.flatMap_append, wsAt_app]
  simp only [List.flatMap_cons, List.flatMap_nil, List.append_nil]
  omega
 have hN : 2 + (ticks + 1) * nH ≤ 2 + (ticks + 1 + 1) * nH := by rw [Nat.succ_mul (ticks + 1)]; omega
 have hr : restC (2 + (ticks + 1) * nH) nH ds ticks closed S ≤ restC (2 + (ticks + 1 + 1) * nH) nH ds (ticks + 1) closed S := by
  unfold restC
  have hcell : ∀ i j, 0 ≤ (if S i && !S j then wsAt ((List.range (ticks + 1)).flatMap (tickWs nH ds closed)) i j else 0) := fun i j => by
   have := hw i j
   split <;> omega
  refine Int.le_trans (sumTo_le fun i _ => Int.le_trans (sumTo_le (g := fun j => if S i && !S j then wsAt ((List.range (ticks + 1)).flatMap (tickWs nH ds closed)) i j else 0) fun j _ => ?_) (sumTo_more hN (hcell i))) (sumTo_more hN fun i => sumTo_nn fun j _ => hcell i j)
  have := hw2 i j
  split <;> omega
 omega
theorem leave_grows (hn : 1 ≤ nH) (hd : ∀ d ∈ ds, DoOk nH d) (hc : ∀ i, i < nH → 0 ≤ c i ∧ c i ≤ 1073741824) {t u : Nat} (h : t ≤ u) : Vm.leaveV nH ds t closed c ≤ Vm.leaveV nH ds u closed c := by
 induction u with
 | zero => rw [Nat.le_zero.1 h]; exact Int.le_refl _
 | succ u ih =>
  rcases Nat.lt_or_ge t (u + 1) with q | q
  ·exact Int.le_trans (ih (by omega)) (leave_grow hn hd hc)
  ·rw [show t = u + 1 by omega]; exact Int.le_refl _
end
theorem sumTo_head (n : Nat) (f : Nat → Int) : sumTo (n + 1) f = f 0 + sumTo n fun i => f (i + 1) := by
 rw [Nat.add_comm, sumTo_cut]
 rw [show sumTo 1 f = f 0 by rw [sumTo_succ, sumTo_zero]; omega]
 congr 1
 exact sumTo_congr fun i _ => by rw [Nat.add_comm]
theorem held_sum (s : Nat) : ∀ (l : List Int) (i : Nat), heldS s i l = sumTo l.length fun j => if s.testBit (i + j) then l.getD j 0 else 0
 | [], i => rfl
 | x :: l, i => by
  rw [heldS, held_sum s l (i + 1), List.length_cons, sumTo_head]
  congr 1
  refine sumTo_congr fun j _ => ?_
  rw [show i + (j + 1) = i + 1 + j by omega]
  simp
theorem sum_getD : ∀ l : List Int, sumTo l.length (comeOf l) = l.sum
 | [] => rfl
 | x :: l => by
  rw [List.length_cons, sumTo_head, List.sum_cons, ← sum_getD l]
  rfl
theorem take_some : ∀ (l : List Int) (k : Int), (∀ x ∈ l, 0 ≤ x) → 0 ≤ k → k ≤ l.sum → ∃ c : List Int, c.length = l.length ∧ (∀ i, i < l.length → 0 ≤ c.getD i 0 ∧ c.getD i 0 ≤ l.getD i 0) ∧ c.sum = k
 | [], k, _, h0, h1 => ⟨[], rfl, fun i hi => by simp at hi, by simp at h1 ⊢; omega⟩
 | x :: l, k, hl, h0, h1 => by
  rw [List.sum_cons] at h1
  have hx := hl x (List.mem_cons_self ..)
  have hsn : 0 ≤ l.sum := by
   rw [← sum_getD]
   refine sumTo_nn fun i hi => ?_
   unfold comeOf
   rw [List.getD_eq_getElem?_getD, List.getElem?_eq_getElem hi, Option.getD_some]
   exact hl _ (List.mem_cons_of_mem _ (List.getElem_mem hi))
  obtain ⟨c, c1, c2, c3⟩ := take_some l (k - min x k) (fun y hy => hl y (List.mem_cons_of_mem _ hy)) (by omega) (by omega)
  refine ⟨min x k :: c, by simp [c1], fun i hi => ?_, by rw [List.sum_cons, c3]; omega⟩
  rcases i with _ | i
  ·simp only [List.getD_cons_zero]
   omega
  ·simp only [List.getD_cons_succ]
   exact c2 i (by simpa using hi)
section
variable {h : Ho} (V : HV h) (ticks : Nat) (closed : List Int)
noncomputable abbrev outL (h : Ho) (ticks : Nat) (closed : List Int) (s : Nat) : Int := Vm.leaveV h.holds.length h.doors ticks closed (comeL s)
include V in
theorem fold_bestA : ∀ (l : List Nat) (b : Int), (l.foldl (bestS h ticks closed) b ≤ b ∧ ∀ s ∈ l, outL h ticks closed s < heldS s 0 h.holds → l.foldl (bestS h ticks closed) b ≤ outL h ticks closed s) ∧ (l.foldl (bestS h ticks closed) b = b ∨ ∃ s ∈ l, outL h ticks closed s < heldS s 0 h.holds ∧ l.foldl (bestS h ticks closed) b = outL h ticks closed s)
 | [], b => ⟨⟨Int.le_refl _, fun s hs => nomatch hs⟩, .inl rfl⟩
 | s :: l, b => by
  obtain ⟨⟨a1, a2⟩, a3⟩ := fold_bestA l (bestS h ticks closed b s)
  rw [List.foldl_cons]
  have e := best_r V ticks closed b s
  by_cases q : outL h ticks closed s < heldS s 0 h.holds
  ·rw [if_pos q] at e
   refine ⟨⟨by omega, fun x hx hq => ?_⟩, ?_⟩
   ·rcases List.mem_cons.1 hx with rfl | hx
    ·show _ ≤ Vm.leaveV h.holds.length h.doors ticks closed (comeL x)
     omega
    ·exact a2 x hx hq
   ·rcases a3 with a3 | ⟨x, b1, b2, b3⟩
    ·rcases Int.le_total b (Vm.leaveV h.holds.length h.doors ticks closed (comeL s)) with z | z
     ·exact .inl (by omega)
     ·exact .inr ⟨s, List.mem_cons_self .., q, by show _ = Vm.leaveV h.holds.length h.doors ticks closed (comeL s); omega⟩
    ·exact .inr ⟨x, List.mem_cons_of_mem _ b1, b2, b3⟩
  ·rw [if_neg q] at e
   rw [e] at a1 a2 a3 ⊢
   refine ⟨⟨a1, fun x hx hq => ?_⟩, ?_⟩
   ·rcases List.mem_cons.1 hx with rfl | hx
    ·exact absurd hq q
    ·exact a2 x hx hq
   ·rcases a3 with a3 | ⟨x, b1, b2, b3⟩
    ·exact .inl a3
    ·exact .inr ⟨x, List.mem_cons_of_mem _ b1, b2, b3⟩
structure Spr (h : Ho) (c : List Int) : Prop where
 len : c.length = h.holds.length
 bd : ∀ i, i < h.holds.length → 0 ≤ c.getD i 0 ∧ c.getD i 0 ≤ h.holds.getD i 0
structure AdmP (h : Ho) (ticks : Nat) (closed : List Int) : Prop where
 lo : 0 ≤ admitV h ticks closed
 hi : admitV h ticks closed ≤ h.holds.sum
 fits : ∀ c, Spr h c → c.sum = admitV h ticks closed → Vm.leaveV h.holds.length h.doors ticks closed (comeOf c) = c.sum
 more : admitV h ticks closed < h.holds.sum → ∃ c, Spr h c ∧ c.sum = admitV h ticks closed + 1 ∧ Vm.leaveV h.holds.length h.doors ticks closed (comeOf c) < c.sum
theorem hold_bd {h : Ho} (V : HV h) (i : Nat) : 0 ≤ h.holds.getD i 0 ∧ h.holds.getD i 0 ≤ 10000 := by
 rw [List.getD_eq_getElem?_getD]
 cases e : h.holds[i]? with
 | none => simp
 | some x => exact V.holds x (List.mem_of_getElem? e)
include V in
theorem admit_P : AdmP h ticks closed := by
 have hd : ∀ d ∈ h.doors, DoOk h.holds.length d := fun d hd => (V.doors d hd).ok
 have hn := V.n0
 have hn1 := V.n1
 obtain ⟨⟨a1, a2⟩, a3⟩ := fold_bestA V ticks closed (List.range (2 ^ h.holds.length)) h.holds.sum
 have ha : admitV h ticks closed = (List.range (2 ^ h.holds.length)).foldl (bestS h ticks closed) h.holds.sum := rfl
 rw [← ha] at a1 a2 a3
 have hheld : ∀ s, heldS s 0 h.holds = ofS h.holds.length s fun j => h.holds.getD j 0 := fun s => by
  rw [held_sum]
  unfold ofS
  refine sumTo_congr fun j _ => ?_
  rw [Nat.zero_add]
 have hs0 : 0 ≤ h.holds.sum := by
  rw [← sum_getD]
  exact sumTo_nn fun i _ => (hold_bd V i).1
 have hcb : ∀ c, Spr h c → ∀ i, i < h.holds.length → 0 ≤ comeOf c i ∧ comeOf c i ≤ 10000 := fun c sc i hi => by
  have h1 := sc.bd i hi
  have h2 := hold_bd V i
  unfold comeOf
  omega
 have hof : ∀ c, Spr h c → ∀ s, ofS h.holds.length s (comeOf c) ≤ c.sum ∧ ofS h.holds.length s (comeOf c) ≤ heldS s 0 h.holds := fun c sc s => by
  constructor
  ·rw [← sum_getD c, sc.len]
   unfold ofS
   refine sumTo_le fun i hi => ?_
   have := hcb c sc i hi
   split <;> omega
  ·rw [hheld]
   unfold ofS
   refine sumTo_le fun i hi => ?_
   have := sc.bd i hi
   by_cases hb : s.testBit i = true
   ·rw [if_pos hb, if_pos hb]; exact this.2
   ·rw [if_neg hb, if_neg hb]; exact Int.le_refl _
 refine ⟨?_, a1, fun c sc hsum => ?_, fun hlt => ?_⟩
 ·rcases a3 with e | ⟨s, _, _, e⟩
  ·omega
  ·have := leave_nn (ticks := ticks) (closed := closed) (c := comeL s) hn hd (fun i _ => comeL_bd s i)
   rw [e]
   exact this
 ·have := out_if (ticks := ticks) (closed := closed) (c := comeOf c) hn hd (fun i hi => by have := hcb c sc i hi; omega) fun s hs => by
   obtain ⟨b1, b2⟩ := hof c sc s
   by_cases q : outL h ticks closed s < heldS s 0 h.holds
   ·have := a2 s (List.mem_range.2 hs) q
    show _ ≤ outL h ticks closed s
    omega
   ·show _ ≤ outL h ticks closed s
    omega
  rw [this, ← sc.len, sum_getD]
 ·rcases a3 with e | ⟨s, _, hq, e⟩
  ·omega
  obtain ⟨l, hl⟩ : ∃ l : List Int, l = (List.range h.holds.length).map fun i => if s.testBit i then h.holds.getD i 0 else 0 := ⟨_, rfl⟩
  have hll : l.length = h.holds.length := by rw [hl]; simp
  have hlg : ∀ i, i < h.holds.length → l.getD i 0 = if s.testBit i then h.holds.getD i 0 else 0 := fun i hi => by
   rw [hl, List.getD_eq_getElem?_getD, List.getElem?_map, List.getElem?_range hi]; rfl
  have hlsum : l.sum = heldS s 0 h.holds := by
   rw [← sum_getD l, hheld, hll]
   unfold ofS
   exact sumTo_congr fun i hi => hlg i hi
  obtain ⟨c, c1, c2, c3⟩ := take_some l (admitV h ticks closed + 1) (fun x hx => by
   rw [hl] at hx
   obtain ⟨i, _, rfl⟩ := List.mem_map.1 hx
   have := (hold_bd V i).1
   split <;> omega) (by
   have := leave_nn (ticks := ticks) (closed := closed) (c := comeL s) hn hd (fun i _ => comeL_bd s i)
   rw [e]
   show 0 ≤ Vm.leaveV h.holds.length h.doors ticks closed (comeL s) + 1
   omega) (by omega)
  have sc : Spr h c := ⟨c1.trans hll, fun i hi => by
   have h1 := c2 i (by omega)
   rw [hlg i hi] at h1
   have := (hold_bd V i).1
   split at h1 <;> omega⟩
  have hos : ofS h.holds.length s (comeOf c) = c.sum := by
   rw [← sum_getD c, sc.len]
   unfold ofS
   refine sumTo_congr fun i hi => ?_
   have h1 := c2 i (by omega)
   rw [hlg i hi] at h1
   unfold comeOf
   split at h1
   ·rename_i hb; rw [if_pos hb]
   ·rename_i hb; rw [if_neg hb]; omega
  refine ⟨c, sc, c3, ?_⟩
  have := out_not (ticks := ticks) (closed := closed) (c := comeOf c) (s := s) hn hd (fun i hi => by have := hcb c sc i hi; omega) (by omega) (by
   show outL h ticks closed s < _
   omega)
  rwa [← sc.len, sum_getD, sc.len] at this
end
end Go.Proofs.Ytmagiabapakhcaa

/- All spreads of people, plain. -/
namespace Go.Proofs.Ytmagiabapakhcaa
def sprN (acc : List (List Int)) (n : Int) : List (List Int) := acc.flatMap fun s => (List.range (n + 1).toNat).map fun k => s ++ [((k : Nat) : Int)]
def sprL (l : List Int) : List (List Int) := l.foldl sprN [[]]
theorem sprL_snoc (l : List Int) (n : Int) : sprL (l ++ [n]) = sprN (sprL l) n := by unfold sprL; rw [List.foldl_append]; rfl
def partP (acc : List (List Int)) (n : Int) (i : Nat) : List (List Int) := sprN (acc.take i) n
theorem partP_all (acc : List (List Int)) (n : Int) : partP acc n acc.length = sprN acc n := by unfold partP; rw [List.take_length]
theorem partP_succ {acc : List (List Int)} {n : Int} {i : Nat} {s : List Int} (hs : acc[i]? = some s) : partP acc n (i + 1) = partP acc n i ++ (List.range (n + 1).toNat).map fun k => s ++ [((k : Nat) : Int)] := by
 unfold partP sprN
 rw [List.take_add_one, hs, Option.toList_some, List.flatMap_append]
 simp
theorem sprN_len {acc : List (List Int)} {n : Int} (hn : n ≤ 6) : (sprN acc n).length ≤ acc.length * 7 := by
 unfold sprN
 refine flatMap_few acc fun s _ => ?_
 rw [List.length_map, List.length_range]
 omega
theorem sprL_few : ∀ (k : Nat) (l : List Int), l.length ≤ k → (∀ n ∈ l, n ≤ 6) → (sprL l).length ≤ 7 ^ k
 | 0, l, hl, _ => by
  have := List.eq_nil_of_length_eq_zero (show l.length = 0 by omega)
  subst this
  exact Nat.le_refl _
 | k + 1, l, hl, h => by
  rcases List.eq_nil_or_concat l with rfl | ⟨m, n, rfl⟩
  ·show 1 ≤ _
   exact Nat.pos_of_ne_zero (by have := Nat.pow_pos (n := k + 1) (show 0 < 7 by omega); omega)
  ·rw [List.concat_eq_append] at hl h ⊢
   rw [sprL_snoc]
   have h1 := sprL_few k m (by simp at hl; omega) fun n hn => h n (by simp [hn])
   have h2 := sprN_len (acc := sprL m) (n := n) (h n (by simp))
   rw [Nat.pow_succ]
   omega
theorem mem_sprN {acc : List (List Int)} {n : Int} {x : List Int} : x ∈ sprN acc n ↔ ∃ s ∈ acc, ∃ k : Int, 0 ≤ k ∧ k ≤ n ∧ x = s ++ [k] := by
 unfold sprN
 rw [List.mem_flatMap]
 constructor
 ·rintro ⟨s, hs, hx⟩
  obtain ⟨k, hk, rfl⟩ := List.mem_map.1 hx
  rw [List.mem_range] at hk
  exact ⟨s, hs, k, by omega, by omega, rfl⟩
 ·rintro ⟨s, hs, k, h0, h1, rfl⟩
  refine ⟨s, hs, List.mem_map.2 ⟨k.toNat, by rw [List.mem_range]; omega, ?_⟩⟩
  rw [show ((k.toNat : Nat) : Int) = k by omega]
def Sprd (l c : List Int) : Prop := c.length = l.length ∧ ∀ i, i < l.length → 0 ≤ c.getD i 0 ∧ c.getD i 0 ≤ l.getD i 0
theorem getD_left {a b : List Int} {i : Nat} (h : i < a.length) : (a ++ b).getD i 0 = a.getD i 0 := by
 rw [List.getD_eq_getElem?_getD, List.getElem?_append_left h, ← List.getD_eq_getElem?_getD]
theorem getD_last {a : List Int} {x : Int} {i : Nat} (h : i = a.length) : (a ++ [x]).getD i 0 = x := by
 rw [List.getD_eq_getElem?_getD, List.getElem?_append_right (by omega), show i - a.length = 0 by omega]; rfl
theorem mem_sprL : ∀ (k : Nat) (l : List Int), l.length = k → ∀ c, c ∈ sprL l ↔ Sprd l c
 | 0, l, hl, c => by
  have := List.eq_nil_of_length_eq_zero hl
  subst this
  show c ∈ [[]] ↔ _
  rw [List.mem_singleton]
  constructor
  ·rintro rfl
   exact ⟨rfl, fun i hi => by simp at hi⟩
  ·rintro ⟨h, _⟩
   exact List.eq_nil_of_length_eq_zero h
 | k + 1, l, hl, c => by
  rcases List.eq_nil_or_concat l with rfl | ⟨m, n, rfl⟩
  ·simp at hl
  rw [List.concat_eq_append] at hl ⊢
  have hm : m.length = k := by simp at hl; exact hl
  rw [sprL_snoc, mem_sprN]
  constructor
  ·rintro ⟨s, hs, x, h0, h1, rfl⟩
   obtain ⟨a1, a2⟩ := (mem_sprL k m hm s).1 hs
   refine ⟨by simp [a1], fun i hi => ?_⟩
   have hi : i < m.length + 1 := by simpa using hi
   rcases Nat.lt_or_eq_of_le (Nat.le_of_lt_succ hi) with q | q
   ·rw [getD_left (by omega), getD_left q]
    exact a2 i q
   ·rw [getD_last (by omega), getD_last q]
    exact ⟨h0, h1⟩
  ·rintro ⟨a1, a2⟩
   have hcl : c.length = k + 1 := by rw [a1]; exact hl
   rcases List.eq_nil_or_concat c with rfl | ⟨s, x, rfl⟩
   ·simp at hcl
   rw [List.concat_eq_append] at a1 a2 hcl ⊢
   have hsl : s.length = k := by simp at hcl; exact hcl
   have ha := a2 k (by rw [hl]; omega)
   rw [getD_last hsl.symm, getD_last hm.symm] at ha
   refine ⟨s, (mem_sprL k m hm s).2 ⟨by omega, fun i hi => ?_⟩, x, ha.1, ha.2, rfl⟩
   have := a2 i (by rw [hl]; omega)
   rw [getD_left (by omega), getD_left hi] at this
   exact this
noncomputable def fitT (h : Ho) (tk : Nat) (closed c : List Int) : Bool := match leaveT h c closed with
 | some t => decide (t ≤ tk)
 | none => false
theorem fits_yes {h : Ho} {tk : Nat} {closed c : List Int} (htk : tk ≤ 12) (he : Vm.leaveV h.holds.length h.doors tk closed (comeOf c) = c.sum) : fitT h tk closed c = true := by
 unfold fitT
 cases hf : leaveT h c closed with
 | none =>
  unfold leaveT at hf
  rw [List.find?_eq_none] at hf
  have := hf tk (by rw [List.mem_range]; omega)
  rw [he] at this
  simp at this
 | some t =>
  unfold leaveT at hf
  rw [List.find?_range_eq_some] at hf
  obtain ⟨_, _, h3⟩ := hf
  simp only [decide_eq_true_eq]
  rcases Nat.lt_or_ge tk t with q | q
  ·have := h3 tk q
   rw [he] at this
   simp at this
  ·exact q
theorem fits_no {h : Ho} (V : HV h) {tk : Nat} {closed c : List Int} (hc : ∀ i, i < h.holds.length → 0 ≤ comeOf c i ∧ comeOf c i ≤ 1073741824) (he : Vm.leaveV h.holds.length h.doors tk closed (comeOf c) < c.sum) : fitT h tk closed c = false := by
 have hd : ∀ d ∈ h.doors, DoOk h.holds.length d := fun d hd => (V.doors d hd).ok
 unfold fitT
 cases hf : leaveT h c closed with
 | none => rfl
 | some t =>
  unfold leaveT at hf
  have h2 := List.find?_some hf
  simp only [decide_eq_true_eq] at h2
  simp only [decide_eq_false_iff_not]
  intro q
  have := leave_grows (closed := closed) V.n0 hd hc q
  omega
end Go.Proofs.Ytmagiabapakhcaa
