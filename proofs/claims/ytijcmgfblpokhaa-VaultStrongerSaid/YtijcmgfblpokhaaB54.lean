/- A part of the proofs about the chapter of the vaults; it states no condition of its own. -/
import Derived.Test.YtijcmgfblpokhaaB41
import Derived.Test.YtijcmgfblpokhaaB45
import Derived.Test.YtijcmgfblpokhaaB52
import Derived.Test.YtijcmgfblpokhaaB53
set_option linter.unusedVariables false
set_option linter.unusedSimpArgs false
/- The floor of a hall at work, on values. (Vm) -/
namespace Go.Proofs.Ytijcmgfblpokhaa.Vm
open Go Go.Proofs
theorem fl_cells (fl : List Int) : (fl.map vi).all isCell = true := by
  rw [List.all_map, List.all_eq_true]
  intro x _
  rfl
theorem at_vm (fl : List Int) (c : Pl) (M : Mem) (hl : fl.length = 24) (x0 : 0 ≤ c.x) (x1 : c.x ≤ 5) (y0 : 0 ≤ c.y) (y1 : c.y ≤ 3) (hv : ∀ n ∈ fl, 0 ≤ n ∧ n ≤ 1000) : VC Try.prog 89 [floorV fl, plV c] M (fun r M' => M' = M ∧ r = .tup [puV ⟨c, flAt fl c - 1⟩, vb (decide (0 < flAt fl c))]) := by
  have hi : c.y.toNat * 6 + c.x.toNat < fl.length := by omega
  have hfa : flAt fl c = fl[c.y.toNat * 6 + c.x.toNat] := by unfold flAt; simp [hi]
  have hmem := hv _ (List.getElem_mem hi)
  rw [← hfa] at hmem
  have a1 : -9223372036854775808 ≤ flAt fl c - 1 ∧ flAt fl c - 1 < 9223372036854775808 := by omega
  have c1 : (c.y.toNat < 4) = True := eq_true (by omega)
  have c2 : (c.x.toNat < 6) = True := eq_true (by omega)
  have c3 : ((fl.map vi).drop (c.y.toNat * 6 + c.x.toNat)).take 1 = [vi (flAt fl c)] := by
    rw [hfa, List.drop_eq_getElem_cons (by simpa using hi)]
    simp
  have c4 : (fl.map vi)[c.y.toNat * 6 + c.x.toNat]? = some (vi (flAt fl c)) := by
    rw [hfa, List.getElem?_map, List.getElem?_eq_getElem hi]; rfl
  have c5 : (c.y.toNat * 6 + c.x.toNat + 1 ≤ fl.length) = True := eq_true (by omega)
  refine VC_own' T_ok (f := 89) (fn := Try.f89) (by kernel_rfl) rfl Try.ntmps89 (by rfl) (by rfl) ?_
  have fc := fl_cells fl
  ((repeat refine W_seq ?_); refine W_region0 T_ok ?_)
  simp (maxSteps := 1000000) only [VL, VM, ↓Gd_none, ↓Gd_t, ↓Gd_f, reduceIte, reduceCtorEq, Int.reduceLE, Int.reduceLT, Int.reduceToNat, Int.reduceNeg, Nat.reduceLT, Nat.reduceEqDiff, Nat.reduceAdd, Nat.reduceSub, Nat.reduceMul, Nat.reduceLeDiff, fc]
  (repeat refine W_seq ?_)
  refine W_drawP T_ok [] (by kernel_rfl) (by kernel_rfl) ?_
  generalize hi : mkPlan _ = infs
  cbv at hi
  subst hi
  simp (maxSteps := 1000000) only [VL, VM, ↓Gd_none, ↓Gd_t, ↓Gd_f, reduceIte, reduceCtorEq, Int.reduceLE, Int.reduceLT, Int.reduceToNat, Int.reduceNeg, Nat.reduceLT, Nat.reduceEqDiff, Nat.reduceAdd, Nat.reduceSub, Nat.reduceMul, Nat.reduceLeDiff, c1, c2, c3, c4, c5, x0, y0, a1]
  (repeat refine W_seq ?_)
  refine W_ret ?_
  try simp only [thenQ, blockQ]
  refine own_ret (vs := [puV ⟨c, flAt fl c - 1⟩, vb (decide (0 < flAt fl c))]) ?_ rfl ?_ ⟨rfl, rfl⟩
  · show vresL T _ _ [.cell 4 59, .tmp 5] = _
    simp (maxSteps := 1000000) only [VL, VM, ↓Gd_none, ↓Gd_t, ↓Gd_f, reduceIte, reduceCtorEq, Int.reduceLE, Int.reduceLT, Int.reduceToNat, Int.reduceNeg, Nat.reduceLT, Nat.reduceEqDiff, Nat.reduceAdd, Nat.reduceSub, Nat.reduceMul, Nat.reduceLeDiff, vresL]
  · rfl
theorem fl_strip (fl : List Int) : (fl.map vi).map strip1 = fl.map vi := by
  rw [List.map_map]; rfl
theorem filterMap_take_succ {α β : Type} (p : α → Option β) {l : List α} {i : Nat} {c : α} (h : l[i]? = some c) : (l.take (i + 1)).filterMap p = (l.take i).filterMap p ++ (p c).toList := by
  rw [List.take_add_one, h, List.filterMap_append]
  cases hp : p c <;> simp [hp]
set_option maxRecDepth 100000 in
theorem puts_vm (h : Ha) (fl : List Int) (M : Mem) (V : VH h) (hl : fl.length = 24) (hv : ∀ n ∈ fl, 0 ≤ n ∧ n ≤ 1000) : VC Try.prog 66 [floorV fl, hallV h] M (fun r M' => (∃ X, M' = ⟨M.H ++ X, M.lg ++ [(M.H.length + 2, M.H.length + 3)]⟩ ∧ X.length = 7) ∧ r = .so (M.H.length + 3) 3 ((nowOf h fl).map puP)) := by
  have fc := fl_cells fl
  have f24 : (24 ≤ fl.length) = True := eq_true (by omega)
  have f25 : fl.take 24 = fl := List.take_of_length_le (by omega)
  have f26 := fl_strip fl
  obtain ⟨wd, hwd⟩ := Int.eq_ofNat_of_zero_le (show 0 ≤ h.wide by have := V.w1; omega)
  obtain ⟨dp, hdp⟩ := Int.eq_ofNat_of_zero_le (show 0 ≤ h.deep by have := V.d1; omega)
  have w2 := V.w2
  have d2 := V.d2
  have w6 : wd ≤ 6 := by omega
  have d4 : dp ≤ 4 := by omega
  have hrows : placesL h = rowsOf dp wd := by rw [placesL, hwd, hdp]; rfl
  have hrl : (rowsOf dp wd).length ≤ 24 := by
    rw [rowsOf_len]
    have : dp * wd ≤ 4 * 6 := Nat.mul_le_mul d4 w6
    omega
  have hpl : ∀ c ∈ rowsOf dp wd, 0 ≤ c.x ∧ c.x ≤ 5 ∧ 0 ≤ c.y ∧ c.y ≤ 3 := fun c hc => mem_places w2 d2 (by rw [hrows]; exact hc)
  refine VC_keepK T_ok (f := 66) (fn := Try.f66) (by kernel_rfl) rfl Try.ntmps66 (by rfl) (by rfl) ?_
  ((repeat refine W_seq ?_); refine W_region0 T_ok ?_)
  simp (maxSteps := 1000000) only [VL, VM, ↓Gd_none, ↓Gd_t, ↓Gd_f, reduceIte, reduceCtorEq, Int.reduceLE, Int.reduceLT, Int.reduceToNat, Int.reduceNeg, Nat.reduceLT, Nat.reduceEqDiff, Nat.reduceAdd, Nat.reduceSub, Nat.reduceMul, Nat.reduceLeDiff, fc]
  ((repeat refine W_seq ?_); refine W_region0 T_ok ?_)
  simp (maxSteps := 1000000) only [VL, VM, ↓Gd_none, ↓Gd_t, ↓Gd_f, reduceIte, reduceCtorEq, Int.reduceLE, Int.reduceLT, Int.reduceToNat, Int.reduceNeg, Nat.reduceLT, Nat.reduceEqDiff, Nat.reduceAdd, Nat.reduceSub, Nat.reduceMul, Nat.reduceLeDiff]
  (repeat refine W_seq ?_)
  refine W_ghost (id := M.H.length + 2) (off := 0) (k := 3) (k0 := 0) (cs := [.sf 0 []]) (by rw [hget]; rfl) rfl ?_
  ((repeat refine W_seq ?_); refine W_region0 T_ok ?_)
  simp (maxSteps := 1000000) only [VL, VM, ↓Gd_none, ↓Gd_t, ↓Gd_f, reduceIte, reduceCtorEq, Int.reduceLE, Int.reduceLT, Int.reduceToNat, Int.reduceNeg, Nat.reduceLT, Nat.reduceEqDiff, Nat.reduceAdd, Nat.reduceSub, Nat.reduceMul, Nat.reduceLeDiff]
  apply call_eq (f := 63) (fn := Try.f63) (by kernel_rfl) (by rfl)
  · exact placesF_v h _
  simp (maxSteps := 1000000) only [VL, VM, ↓Gd_none, ↓Gd_t, ↓Gd_f, reduceIte, reduceCtorEq, Int.reduceLE, Int.reduceLT, Int.reduceToNat, Int.reduceNeg, Nat.reduceLT, Nat.reduceEqDiff, Nat.reduceAdd, Nat.reduceSub, Nat.reduceMul, Nat.reduceLeDiff]
  ((repeat refine W_seq ?_); refine W_block ?_)
  refine W_places rfl rfl h hwd hdp (by omega) (by omega) [(2, VV.ptr M.H.length 0), (3, VV.ptr (M.H.length + 1) 0), (5, VV.ptr (M.H.length + 2) 0)] (fun s : List Pu => M.H ++ [.obj (fl.map vi), .obj (hallC h), .obj [.so (M.H.length + 3) 3 (s.map puP)], .clm s.length 3, .obj (hallC h)]) (fun i s => s = ((rowsOf dp wd).take i).filterMap fun c => if 0 < flAt fl c then some ⟨c, flAt fl c - 1⟩ else none) [] rfl (fun s => by simp) (by simp) (fun s => by rw [hget]; rfl) (by rfl) ⟨rfl, rfl, rfl, trivial⟩ (by kernel_rfl) ?_ ?_
  · intro o o' i c s junk hc hs
    dsimp only
    have hft := filterMap_take_succ (fun c => if 0 < flAt fl c then some (⟨c, flAt fl c - 1⟩ : Pu) else none) hc
    rw [← hs] at hft
    have hsl : s.length ≤ 24 := by
      have h1 := List.length_filterMap_le (fun c => if 0 < flAt fl c then some (⟨c, flAt fl c - 1⟩ : Pu) else none) ((rowsOf dp wd).take i)
      rw [← hs, List.length_take] at h1
      omega
    have hcp := hpl c (List.mem_of_getElem? hc)
    have q2 : ((s.length + 1) * 24 ≤ 140737488355328) = True := eq_true (by omega)
    ((repeat refine W_seq ?_); refine W_region0 T_ok ?_)
    simp (maxSteps := 1000000) only [VL, VM, ↓Gd_none, ↓Gd_t, ↓Gd_f, reduceIte, reduceCtorEq, Int.reduceLE, Int.reduceLT, Int.reduceToNat, Int.reduceNeg, Nat.reduceLT, Nat.reduceEqDiff, Nat.reduceAdd, Nat.reduceSub, Nat.reduceMul, Nat.reduceLeDiff]
    refine ⟨junk ++ [.obj [vi c.x, vi c.y]], by simp, ?_⟩
    ((repeat refine W_seq ?_); refine W_block ?_)
    ((repeat refine W_seq ?_); refine W_region0 T_ok ?_)
    simp (maxSteps := 1000000) only [VL, VM, ↓Gd_none, ↓Gd_t, ↓Gd_f, reduceIte, reduceCtorEq, Int.reduceLE, Int.reduceLT, Int.reduceToNat, Int.reduceNeg, Nat.reduceLT, Nat.reduceEqDiff, Nat.reduceAdd, Nat.reduceSub, Nat.reduceMul, Nat.reduceLeDiff, f24, f25, f26]
    apply call_eq (f := 89) (fn := Try.f89) (by kernel_rfl) (by rfl)
    · exact at_vm fl c _ hl hcp.1 hcp.2.1 hcp.2.2.1 hcp.2.2.2 hv
    simp (maxSteps := 1000000) only [VL, VM, ↓Gd_none, ↓Gd_t, ↓Gd_f, reduceIte, reduceCtorEq, Int.reduceLE, Int.reduceLT, Int.reduceToNat, Int.reduceNeg, Nat.reduceLT, Nat.reduceEqDiff, Nat.reduceAdd, Nat.reduceSub, Nat.reduceMul, Nat.reduceLeDiff]
    ((repeat refine W_seq ?_); refine W_region0 T_ok ?_)
    simp (maxSteps := 1000000) only [VL, VM, ↓Gd_none, ↓Gd_t, ↓Gd_f, reduceIte, reduceCtorEq, Int.reduceLE, Int.reduceLT, Int.reduceToNat, Int.reduceNeg, Nat.reduceLT, Nat.reduceEqDiff, Nat.reduceAdd, Nat.reduceSub, Nat.reduceMul, Nat.reduceLeDiff]
    by_cases hpos : 0 < flAt fl c
    rotate_left
    · rw [decide_eq_false hpos]
      ((repeat refine W_seq ?_); refine W_cond (b := false) (by first | rfl | simp only [ev, get_cons, Nat.reduceEqDiff, if_true, if_false, reduceIte]) (fun h => by cases h) (fun _ => ?_))
      ((repeat refine W_seq ?_); refine W_skip ?_)
      simp only [blockQ]
      refine ⟨trivial, s, _, rfl, ?_⟩
      rw [hft, if_neg hpos]; simp
    rw [decide_eq_true hpos]
    ((repeat refine W_seq ?_); refine W_cond (b := true) (by first | rfl | simp only [ev, get_cons, Nat.reduceEqDiff, if_true, if_false, reduceIte]) (fun _ => ?_) (fun h => by cases h))
    ((repeat refine W_seq ?_); refine W_region0 T_ok ?_)
    simp (maxSteps := 1000000) only [VL, VM, ↓Gd_none, ↓Gd_t, ↓Gd_f, reduceIte, reduceCtorEq, Int.reduceLE, Int.reduceLT, Int.reduceToNat, Int.reduceNeg, Nat.reduceLT, Nat.reduceEqDiff, Nat.reduceAdd, Nat.reduceSub, Nat.reduceMul, Nat.reduceLeDiff, q2]
    refine ⟨s ++ [⟨c, flAt fl c - 1⟩], junk ++ [.obj [vi c.x, vi c.y], .obj [vi c.x, vi c.y, vi (flAt fl c - 1)]], ?_, by rw [hft, if_pos hpos]; rfl⟩
    rw [addLg_has (by simp)]
    simp
  · intro o s hs
    simp only [thenQ, blockQ]
    ((repeat refine W_seq ?_); refine W_region0 T_ok ?_)
    simp (maxSteps := 1000000) only [VL, VM, ↓Gd_none, ↓Gd_t, ↓Gd_f, reduceIte, reduceCtorEq, Int.reduceLE, Int.reduceLT, Int.reduceToNat, Int.reduceNeg, Nat.reduceLT, Nat.reduceEqDiff, Nat.reduceAdd, Nat.reduceSub, Nat.reduceMul, Nat.reduceLeDiff]
    rw [List.take_of_length_le (by rw [rowsOf_len]; exact Nat.le_refl _), ← hrows] at hs
    subst hs
    (repeat refine W_seq ?_)
    refine W_ret ⟨.inr rfl, _, vkill_one (j := 5) rfl, _, rfl, ⟨_, rfl, by simp⟩, rfl⟩
end Go.Proofs.Ytijcmgfblpokhaa.Vm

/- The floor of a hall: plain facts. (Vm) -/
namespace Go.Proofs.Ytijcmgfblpokhaa.Vm
open Go Go.Proofs
theorem plLt_irrefl {c : Pl} : ¬ plLt c c := by
  rintro (h | ⟨_, h⟩) <;> omega
theorem plLt_asymm {c d : Pl} (h : plLt c d) : ¬ plLt d c := by
  rintro (h1 | ⟨h0, h1⟩) <;> rcases h with h | ⟨h, h'⟩ <;> omega
structure FlOk (h : Ha) (fl : List Int) (now : List Pu) (cs : List Pl) : Prop where
  len : fl.length = 24
  val : ∀ n ∈ fl, 0 ≤ n ∧ n ≤ 1000
  is : nowOf h fl = now
  lt : ∀ p ∈ now, ∀ c ∈ cs, plLt p.pl c
theorem FlOk.tail {h : Ha} {fl : List Int} {now : List Pu} {c : Pl} {cs : List Pl} (F : FlOk h fl now (c :: cs)) : FlOk h fl now cs :=
  ⟨F.len, F.val, F.is, fun p hp d hd => F.lt p hp d (List.mem_cons_of_mem _ hd)⟩
theorem flAt_set {fl : List Int} {c d : Pl} {k : Int} (hl : fl.length = 24) (hc : 0 ≤ c.x ∧ c.x ≤ 5 ∧ 0 ≤ c.y ∧ c.y ≤ 3) (hd : 0 ≤ d.x ∧ d.x ≤ 5 ∧ 0 ≤ d.y ∧ d.y ≤ 3) : flAt (fl.set (c.y.toNat * 6 + c.x.toNat) k) d = if d = c then k else flAt fl d := by
  unfold flAt
  rw [List.getD_eq_getElem?_getD, List.getElem?_set, List.getD_eq_getElem?_getD]
  by_cases e : d = c
  · subst e
    rw [if_pos rfl, if_pos (by omega), if_pos rfl]; rfl
  · rw [if_neg e, if_neg]
    intro e'
    apply e
    obtain ⟨a, b⟩ := c
    obtain ⟨a', b'⟩ := d
    simp only at *
    have h1 : b = b' := by omega
    have h2 : a = a' := by omega
    rw [h1, h2]
theorem filterMap_nil_of {α β : Type} {f : α → Option β} : ∀ {l : List α}, (∀ x ∈ l, f x = none) → l.filterMap f = []
  | [], _ => rfl
  | x :: l, h => by
    rw [List.filterMap_cons, h x (List.mem_cons_self ..)]
    exact filterMap_nil_of fun y hy => h y (List.mem_cons_of_mem _ hy)
theorem filterMap_same {α β : Type} {f g : α → Option β} : ∀ {l : List α}, (∀ x ∈ l, f x = g x) → l.filterMap f = l.filterMap g
  | [], _ => rfl
  | x :: l, h => by
    rw [List.filterMap_cons, List.filterMap_cons, h x (List.mem_cons_self ..), filterMap_same fun y hy => h y (List.mem_cons_of_mem _ hy)]
theorem FlOk.put {h : Ha} {fl : List Int} {now : List Pu} {c : Pl} {cs : List Pl} {k : Nat} (V : VH h) (F : FlOk h fl now (c :: cs)) (hc : c ∈ placesL h) (hcs : (c :: cs).Pairwise plLt) (hk : k ≤ 900) : FlOk h (fl.set (c.y.toNat * 6 + c.x.toNat) ((k : Int) + 1)) (now ++ [⟨c, (k : Int)⟩]) cs := by
  have hb := fun d hd => mem_places (c := d) V.w2 V.d2 hd
  have hcb := hb c hc
  refine ⟨by rw [List.length_set]; exact F.len, fun n hn => ?_, ?_, fun p hp d hd => ?_⟩
  · rcases List.mem_or_eq_of_mem_set hn with hn | rfl
    · exact F.val n hn
    · omega
  · obtain ⟨P1, P2, he⟩ := List.append_of_mem hc
    have ho := places_ord h
    rw [he, List.pairwise_append, List.pairwise_cons] at ho
    obtain ⟨_, ⟨o2, _⟩, o3⟩ := ho
    have hnow := F.is
    have hlt := F.lt
    unfold nowOf at hnow ⊢
    rw [he, List.filterMap_append, List.filterMap_cons] at hnow ⊢
    have in1 : ∀ x ∈ P1, x ∈ placesL h := fun x hx => by rw [he]; exact List.mem_append_left _ hx
    have in2 : ∀ x ∈ P2, x ∈ placesL h := fun x hx => by rw [he]; exact List.mem_append_right _ (List.mem_cons_of_mem _ hx)
    have z0 : ¬ 0 < flAt fl c := by
      intro hpos
      have hm : (⟨c, flAt fl c - 1⟩ : Pu) ∈ now := by
        rw [← hnow, if_pos hpos]; simp
      exact plLt_irrefl (hlt _ hm c (List.mem_cons_self ..))
    have z2 : ∀ x ∈ P2, ¬ 0 < flAt fl x := by
      intro x hx hpos
      have hm : (⟨x, flAt fl x - 1⟩ : Pu) ∈ now := by
        rw [← hnow, if_neg z0]
        refine List.mem_append_right _ (List.mem_filterMap.2 ⟨x, hx, if_pos hpos⟩)
      exact plLt_asymm (hlt _ hm c (List.mem_cons_self ..)) (o2 x hx)
    have n2 : P2.filterMap (fun c => if 0 < flAt fl c then some (⟨c, flAt fl c - 1⟩ : Pu) else none) = [] := filterMap_nil_of fun x hx => if_neg (z2 x hx)
    have hne1 : ∀ x ∈ P1, x ≠ c := fun x hx e => plLt_irrefl (e ▸ o3 x hx c (List.mem_cons_self ..))
    have hne2 : ∀ x ∈ P2, x ≠ c := fun x hx e => plLt_irrefl (e ▸ o2 x hx)
    have s1 : P1.filterMap (fun d => if 0 < flAt (fl.set (c.y.toNat * 6 + c.x.toNat) ((k : Int) + 1)) d then some (⟨d, flAt (fl.set (c.y.toNat * 6 + c.x.toNat) ((k : Int) + 1)) d - 1⟩ : Pu) else none) = P1.filterMap (fun c => if 0 < flAt fl c then some (⟨c, flAt fl c - 1⟩ : Pu) else none) := filterMap_same fun x hx => by
      rw [flAt_set F.len hcb (hb x (in1 x hx)), if_neg (hne1 x hx)]
    have s2 : P2.filterMap (fun d => if 0 < flAt (fl.set (c.y.toNat * 6 + c.x.toNat) ((k : Int) + 1)) d then some (⟨d, flAt (fl.set (c.y.toNat * 6 + c.x.toNat) ((k : Int) + 1)) d - 1⟩ : Pu) else none) = [] := filterMap_nil_of fun x hx => by
      rw [flAt_set F.len hcb (hb x (in2 x hx)), if_neg (hne2 x hx)]
      exact if_neg (z2 x hx)
    rw [s1, s2, flAt_set F.len hcb hcb, if_pos rfl, if_pos (by omega)]
    rw [n2, if_neg z0] at hnow
    simp only [List.append_nil] at hnow
    rw [hnow, Int.add_sub_cancel]
  · rcases List.mem_append.1 hp with hp | hp
    · exact F.lt p hp d (List.mem_cons_of_mem _ hd)
    · rw [List.mem_singleton] at hp
      subst hp
      exact (List.pairwise_cons.1 hcs).1 d hd
theorem FlOk.zero (h : Ha) (cs : List Pl) : FlOk h (List.replicate 24 0) [] cs := by
  have hz : ∀ c : Pl, flAt (List.replicate 24 0) c = 0 := fun c => by
    unfold flAt
    rw [List.getD_eq_getElem?_getD, List.getElem?_replicate]
    split <;> rfl
  refine ⟨by simp, fun n hn => ?_, ?_, fun p hp => by cases hp⟩
  · have := List.eq_of_mem_replicate hn
    omega
  · unfold nowOf
    refine filterMap_nil_of fun c _ => ?_
    rw [hz]; rfl
theorem dear_le {h : Ha} (V : VH h) : 0 ≤ dearL h ∧ dearL h ≤ 1000000 := by
  refine ⟨(dear_ge (d := 0)).1, ?_⟩
  have : ∀ (ks : List Ki) (d : Int), d ≤ 1000000 → (∀ k ∈ ks, k.rent ≤ 1000000) → ks.foldl (fun d k => max d k.rent) d ≤ 1000000 := by
    intro ks
    induction ks with
    | nil => intro d hd _; exact hd
    | cons k ks ih =>
      intro d hd hk
      rw [List.foldl_cons]
      have := hk k (List.mem_cons_self ..)
      exact ih _ (by omega) fun q hq => hk q (List.mem_cons_of_mem _ hq)
  exact this _ _ (by omega) fun k hk => (V.kind k hk).rent1
theorem open_mem {h : Ha} {c : Pl} (hc : c ∈ openL h) : c ∈ placesL h := (List.mem_filter.1 hc).1
end Go.Proofs.Ytijcmgfblpokhaa.Vm

/- The layouts that are tried, on values. (Vm) -/
namespace Go.Proofs.Ytijcmgfblpokhaa.Vm
open Go Go.Proofs
abbrev tryV (ih im ib id io it : Nat) : VV := .fn (.func 65) [] [.ptr ih 0, .ptr im 0, .ptr ib 0, .ptr id 0, .ptr io 0, .ptr it 0]
/-- the objects that the tries share -/
structure Fr (h : Ha) (g ih im ib id io it n0 : Nat) (A : List Pu → Int → List VObj) : Prop where
  len : ∀ b m, (A b m).length = n0
  gh : ∀ b m L, (A b m ++ L)[ih]? = some (.obj (hallC h))
  gm : ∀ b m L, (A b m ++ L)[im]? = some (.obj [vi m])
  gb : ∀ b m L, (A b m ++ L)[ib]? = some (.obj [pusV b])
  gd : ∀ b m L, (A b m ++ L)[id]? = some (.obj [vi (dearL h)])
  go : ∀ b m L, (A b m ++ L)[io]? = some (.obj [.so g 2 ((openL h).map plP)])
  gt : ∀ b m L, (A b m ++ L)[it]? = some (.obj [tryV ih im ib id io it])
  sm : ∀ b m L x, (A b m ++ L).set im (.obj [vi x]) = A b x ++ L
  sb : ∀ b m L x, (A b m ++ L).set ib (.obj [pusV x]) = A x m ++ L
theorem Fr.get {h : Ha} {g ih im ib id io it n0 : Nat} {A : List Pu → Int → List VObj} (F : Fr h g ih im ib id io it n0 A) (b : List Pu) (m : Int) (L : List VObj) (k : Nat) : (A b m ++ L)[n0 + k]? = L[k]? := by
  rw [← F.len b m]; exact hget _ _ _
theorem Fr.get0 {h : Ha} {g ih im ib id io it n0 : Nat} {A : List Pu → Int → List VObj} (F : Fr h g ih im ib id io it n0 A) (b : List Pu) (m : Int) (L : List VObj) : (A b m ++ L)[n0]? = L[0]? := F.get b m L 0
theorem Fr.set {h : Ha} {g ih im ib id io it n0 : Nat} {A : List Pu → Int → List VObj} (F : Fr h g ih im ib id io it n0 A) (b : List Pu) (m : Int) (L : List VObj) (k : Nat) (o : VObj) : (A b m ++ L).set (n0 + k) o = A b m ++ L.set k o := by
  rw [← F.len b m]; exact hset _ _ _ _
theorem Fr.set0 {h : Ha} {g ih im ib id io it n0 : Nat} {A : List Pu → Int → List VObj} (F : Fr h g ih im ib id io it n0 A) (b : List Pu) (m : Int) (L : List VObj) (o : VObj) : (A b m ++ L).set n0 o = A b m ++ L.set 0 o := F.set b m L 0 o
theorem Fr.ext {h : Ha} {g ih im ib id io it n0 : Nat} {A : List Pu → Int → List VObj} (F : Fr h g ih im ib id io it n0 A) (X : List VObj) : Fr h g ih im ib id io it (n0 + X.length) (fun b m => A b m ++ X) :=
  ⟨fun b m => by rw [List.length_append, F.len], fun b m L => by rw [List.append_assoc]; exact F.gh b m _, fun b m L => by rw [List.append_assoc]; exact F.gm b m _, fun b m L => by rw [List.append_assoc]; exact F.gb b m _, fun b m L => by rw [List.append_assoc]; exact F.gd b m _, fun b m L => by rw [List.append_assoc]; exact F.go b m _, fun b m L => by rw [List.append_assoc]; exact F.gt b m _, fun b m L x => by rw [List.append_assoc, F.sm, List.append_assoc], fun b m L x => by rw [List.append_assoc, F.sb, List.append_assoc]⟩
theorem fn_callk {f : Nat} {fn : Func} {args : List VV} {M : Mem} {Q : VV → Mem → Prop} (hf : T.fn f = some fn) (hk : T.keeps f = true) (h : VC Try.prog f args M Q) : VCall Try.prog (.fn (.func f) [] []) args M Q :=
  VCall_fn T_ok hf (by
    have : (sarg T f) = id := funext fun v => by simp [sarg, hk]
    simpa [this] using h)
theorem stepB_cases (h : Ha) (b now : List Pu) (m : Int) : (m < rentOf h now ∧ stepB h (b, m) now = (now, rentOf h now)) ∨ (¬ m < rentOf h now ∧ rentOf h now = m ∧ now.length < b.length ∧ stepB h (b, m) now = (now, rentOf h now)) ∨ (¬ m < rentOf h now ∧ rentOf h now = m ∧ ¬ now.length < b.length ∧ stepB h (b, m) now = (b, m)) ∨ (¬ m < rentOf h now ∧ ¬ rentOf h now = m ∧ stepB h (b, m) now = (b, m)) := by
  unfold stepB
  by_cases h1 : m < rentOf h now
  · exact .inl ⟨h1, if_pos (.inl h1)⟩
  · by_cases h2 : rentOf h now = m
    · by_cases h3 : now.length < b.length
      · exact .inr (.inl ⟨h1, h2, h3, if_pos (.inr ⟨h2, h3⟩)⟩)
      · exact .inr (.inr (.inl ⟨h1, h2, h3, if_neg (by simp only; omega)⟩))
    · exact .inr (.inr (.inr ⟨h1, h2, if_neg (by simp only; omega)⟩))
theorem call_dc {f : Nat} {fn : Func} {args caps : List VV} {M M1 : Mem} {v : VV} (hf : T.fn f = some fn) (hk : T.keeps f = false) (h : VC Try.prog f ((args ++ caps).map strip1) M (fun r M' => r = v ∧ M' = M1)) {R : VV → Mem → Prop} (hq : R v M1) : DCallK Try.prog (.fn (.func f) [] caps) args M R :=
  ⟨v, M1, VCall_fn T_ok hf (by
    have : (sarg T f) = strip1 := funext fun v => by simp [sarg, hk]
    simpa [this] using h), hq⟩
theorem call_c {f : Nat} {fn : Func} {args caps : List VV} {M M1 : Mem} {v : VV} (hf : T.fn f = some fn) (hk : T.keeps f = false) (h : VC Try.prog f ((args ++ caps).map strip1) M (fun r M' => r = v ∧ M' = M1)) {Q : VV → Mem → Prop} (hq : Q v M1) : VCall Try.prog (.fn (.func f) [] caps) args M Q :=
  (VCall_fn T_ok hf (by
    have : (sarg T f) = strip1 := funext fun v => by simp [sarg, hk]
    simpa [this] using h)).mono fun r M' e => by obtain ⟨rfl, rfl⟩ := e; exact hq
theorem fl_refs : ∀ fl : List Int, refsL (fl.map vi) = []
  | [] => rfl
  | _ :: fl => by
    simp only [List.map_cons, refsL, refs]
    rw [List.nil_append]
    exact fl_refs fl
def TrySpec (h : Ha) (g ih im ib id io it : Nat) (cs : List Pl) : Prop :=
  ∀ (n0 : Nat) (A : List Pu → Int → List VObj) (_ : Fr h g ih im ib id io it n0 A) (now : List Pu) (fl : List Int) (b : List Pu) (m : Int) (lg : List (Nat × Nat)) (n : Nat) (_ : (openL h).drop n = cs) (_ : n ≤ (openL h).length) (_ : FlOk h fl now cs) (_ : allowedB h now = true),
    VC Try.prog 65 [floorV fl, vi n, vi (rentOf h now), .ptr ih 0, .ptr im 0, .ptr ib 0, .ptr id 0, .ptr io 0, .ptr it 0] ⟨A b m, lg⟩ (fun r M' => r = .tup [] ∧ M' = ⟨A (tryS h cs now (b, m)).1 (tryS h cs now (b, m)).2, lg⟩)
set_option maxRecDepth 100000 in
set_option maxHeartbeats 1000000 in
theorem try_step (h : Ha) (V : VH h) (hop : (openL h).length ≤ 8) (g ih im ib id io it : Nat) (cs : List Pl) (hind : ∀ c cs', cs = c :: cs' → TrySpec h g ih im ib id io it cs') : TrySpec h g ih im ib id io it cs := by
  intro n0 A F now fl b m lg n hcs hn hfl ha
  have fc := fl_cells fl
  have f24 : (24 ≤ fl.length) = True := eq_true (by rw [hfl.len]; omega)
  have f25 : fl.take 24 = fl := List.take_of_length_le (by rw [hfl.len]; omega)
  have f26 := fl_strip fl
  have hl := F.len b m
  have hlay := (allowedB_iff.1 ha).1
  have hnow := hlay.1
  have hre := rent_le V hlay.good
  have hrb : 0 ≤ rentOf h now ∧ rentOf h now ≤ 24000000 := by omega
  refine VC_ownK T_ok (f := 65) (fn := Try.f65) (by kernel_rfl) rfl Try.ntmps65 (by rfl) (by rfl) ?_
  ((repeat refine W_seq ?_); refine W_region0 T_ok ?_)
  simp (maxSteps := 1000000) only [VL, VM, ↓Gd_none, ↓Gd_t, ↓Gd_f, reduceIte, reduceCtorEq, Int.reduceLE, Int.reduceLT, Int.reduceToNat, Int.reduceNeg, Nat.reduceLT, Nat.reduceEqDiff, Nat.reduceAdd, Nat.reduceSub, Nat.reduceMul, Nat.reduceLeDiff, fc]
  ((repeat refine W_seq ?_); refine W_region0 T_ok ?_)
  simp (maxSteps := 1000000) only [VL, VM, ↓Gd_none, ↓Gd_t, ↓Gd_f, reduceIte, reduceCtorEq, Int.reduceLE, Int.reduceLT, Int.reduceToNat, Int.reduceNeg, Nat.reduceLT, Nat.reduceEqDiff, Nat.reduceAdd, Nat.reduceSub, Nat.reduceMul, Nat.reduceLeDiff, f24, f25, f26, F.len, F.get, F.get0, F.set, F.set0, F.gh, F.gm, F.gb, F.gd, F.go, F.gt, F.sm, F.sb]
  refine fn_callk (f := 66) (fn := Try.f66) (by kernel_rfl) (by rfl) ?_
  refine (puts_vm h fl _ V hfl.len hfl.val).mono ?_
  rintro _ _ ⟨⟨X, rfl, hX⟩, rfl⟩
  obtain ⟨x1, x2, x3, x4, x5, x6, x7, rfl⟩ : ∃ x1 x2 x3 x4 x5 x6 x7, X = [x1, x2, x3, x4, x5, x6, x7] := by
    match X, hX with
    | [a, b, c, d, e, f, g], _ => exact ⟨_, _, _, _, _, _, _, rfl⟩
  rw [hfl.is]
  have hY : ∀ e ∈ [((A b m ++ [VObj.obj (fl.map vi)]).length + 2, (A b m ++ [VObj.obj (fl.map vi)]).length + 3)], n0 ≤ e.1 := by
    intro e he
    rw [List.mem_singleton] at he
    subst he
    simp only [List.length_append, F.len]
    omega
  generalize [((A b m ++ [VObj.obj (fl.map vi)]).length + 2, (A b m ++ [VObj.obj (fl.map vi)]).length + 3)] = Y at hY
  simp (maxSteps := 1000000) only [VL, VM, ↓Gd_none, ↓Gd_t, ↓Gd_f, reduceIte, reduceCtorEq, Int.reduceLE, Int.reduceLT, Int.reduceToNat, Int.reduceNeg, Nat.reduceLT, Nat.reduceEqDiff, Nat.reduceAdd, Nat.reduceSub, Nat.reduceMul, Nat.reduceLeDiff, F.len, F.get, F.get0, F.set, F.set0, F.gh, F.gm, F.gb, F.gd, F.go, F.gt, F.sm, F.sb]
  refine W_strip (t := 12) rfl ?_
  refine W_seq ?_
  refine W_then [(1, vi n), (2, vi (rentOf h now)), (3, .ptr ih 0), (4, .ptr im 0), (5, .ptr ib 0), (6, .ptr id 0), (7, .ptr io 0), (8, .ptr it 0), (9, .ptr n0 0), (12, pusV now)] ⟨A (stepB h (b, m) now).1 (stepB h (b, m) now).2 ++ VObj.obj (fl.map vi) :: [x1, x2, x3, x4, x5, x6, x7], lg ++ Y⟩ ?_ (fun e' hS => WCode.weak (e' := [(1, vi n), (2, vi (rentOf h now)), (3, .ptr ih 0), (4, .ptr im 0), (5, .ptr ib 0), (6, .ptr id 0), (7, .ptr io 0), (8, .ptr it 0), (9, .ptr n0 0), (12, pusV now)]) ?_ hS.ok)
--[
  · ((repeat refine W_seq ?_); refine W_region0 T_ok ?_)
    rcases stepB_cases h b now m with ⟨s1, s2⟩ | ⟨s1, s2, s3, s4⟩ | ⟨s1, s2, s3, s4⟩ | ⟨s1, s2, s4⟩
    · have t1 : (m < rentOf h now) = True := eq_true s1
      simp (maxSteps := 1000000) only [VL, VM, ↓Gd_none, ↓Gd_t, ↓Gd_f, reduceIte, reduceCtorEq, Int.reduceLE, Int.reduceLT, Int.reduceToNat, Int.reduceNeg, Nat.reduceLT, Nat.reduceEqDiff, Nat.reduceAdd, Nat.reduceSub, Nat.reduceMul, Nat.reduceLeDiff, F.len, F.get, F.get0, F.set, F.set0, F.gh, F.gm, F.gb, F.gd, F.go, F.gt, F.sm, F.sb, t1]
      ((repeat refine W_seq ?_); refine W_cond (b := true) (by first | rfl | simp only [ev, get_cons, Nat.reduceEqDiff, if_true, if_false, reduceIte]) (fun _ => ?_) (fun h => by cases h))
      ((repeat refine W_seq ?_); refine W_region0 T_ok ?_)
      simp (maxSteps := 1000000) only [VL, VM, ↓Gd_none, ↓Gd_t, ↓Gd_f, reduceIte, reduceCtorEq, Int.reduceLE, Int.reduceLT, Int.reduceToNat, Int.reduceNeg, Nat.reduceLT, Nat.reduceEqDiff, Nat.reduceAdd, Nat.reduceSub, Nat.reduceMul, Nat.reduceLeDiff, F.len, F.get, F.get0, F.set, F.set0, F.gh, F.gm, F.gb, F.gd, F.go, F.gt, F.sm, F.sb]
      rw [s2]
      exact ⟨rfl, rfl, rfl, rfl, rfl, rfl, rfl, rfl, rfl, rfl, rfl, trivial⟩
    · have t1 : (m < rentOf h now) = False := eq_false s1
      have t2 : (rentOf h now = m) = True := eq_true s2
      have t3 : ((now.length : Int) < (b.length : Int)) = True := eq_true (by omega)
      simp (maxSteps := 1000000) only [VL, VM, ↓Gd_none, ↓Gd_t, ↓Gd_f, reduceIte, reduceCtorEq, Int.reduceLE, Int.reduceLT, Int.reduceToNat, Int.reduceNeg, Nat.reduceLT, Nat.reduceEqDiff, Nat.reduceAdd, Nat.reduceSub, Nat.reduceMul, Nat.reduceLeDiff, F.len, F.get, F.get0, F.set, F.set0, F.gh, F.gm, F.gb, F.gd, F.go, F.gt, F.sm, F.sb, t1, t2, t3]
      ((repeat refine W_seq ?_); refine W_cond (b := true) (by first | rfl | simp only [ev, get_cons, Nat.reduceEqDiff, if_true, if_false, reduceIte]) (fun _ => ?_) (fun h => by cases h))
      ((repeat refine W_seq ?_); refine W_region0 T_ok ?_)
      simp (maxSteps := 1000000) only [VL, VM, ↓Gd_none, ↓Gd_t, ↓Gd_f, reduceIte, reduceCtorEq, Int.reduceLE, Int.reduceLT, Int.reduceToNat, Int.reduceNeg, Nat.reduceLT, Nat.reduceEqDiff, Nat.reduceAdd, Nat.reduceSub, Nat.reduceMul, Nat.reduceLeDiff, F.len, F.get, F.get0, F.set, F.set0, F.gh, F.gm, F.gb, F.gd, F.go, F.gt, F.sm, F.sb]
      rw [s4]
      exact ⟨rfl, rfl, rfl, rfl, rfl, rfl, rfl, rfl, rfl, rfl, rfl, trivial⟩
    · have t1 : (m < rentOf h now) = False := eq_false s1
      have t2 : (rentOf h now = m) = True := eq_true s2
      have t3 : ((now.length : Int) < (b.length : Int)) = False := eq_false (by omega)
      simp (maxSteps := 1000000) only [VL, VM, ↓Gd_none, ↓Gd_t, ↓Gd_f, reduceIte, reduceCtorEq, Int.reduceLE, Int.reduceLT, Int.reduceToNat, Int.reduceNeg, Nat.reduceLT, Nat.reduceEqDiff, Nat.reduceAdd, Nat.reduceSub, Nat.reduceMul, Nat.reduceLeDiff, F.len, F.get, F.get0, F.set, F.set0, F.gh, F.gm, F.gb, F.gd, F.go, F.gt, F.sm, F.sb, t1, t2, t3]
      ((repeat refine W_seq ?_); refine W_cond (b := false) (by first | rfl | simp only [ev, get_cons, Nat.reduceEqDiff, if_true, if_false, reduceIte]) (fun h => by cases h) (fun _ => ?_))
      ((repeat refine W_seq ?_); refine W_skip ?_)
      rw [s4]
      exact ⟨rfl, rfl, rfl, rfl, rfl, rfl, rfl, rfl, rfl, rfl, rfl, rfl, rfl, trivial⟩
    · have t1 : (m < rentOf h now) = False := eq_false s1
      have t2 : (rentOf h now = m) = False := eq_false s2
      simp (maxSteps := 1000000) only [VL, VM, ↓Gd_none, ↓Gd_t, ↓Gd_f, reduceIte, reduceCtorEq, Int.reduceLE, Int.reduceLT, Int.reduceToNat, Int.reduceNeg, Nat.reduceLT, Nat.reduceEqDiff, Nat.reduceAdd, Nat.reduceSub, Nat.reduceMul, Nat.reduceLeDiff, F.len, F.get, F.get0, F.set, F.set0, F.gh, F.gm, F.gb, F.gd, F.go, F.gt, F.sm, F.sb, t1, t2]
      ((repeat refine W_seq ?_); refine W_cond (b := false) (by first | rfl | simp only [ev, get_cons, Nat.reduceEqDiff, if_true, if_false, reduceIte]) (fun h => by cases h) (fun _ => ?_))
      ((repeat refine W_seq ?_); refine W_skip ?_)
      rw [s4]
      exact ⟨rfl, rfl, rfl, rfl, rfl, rfl, rfl, rfl, rfl, rfl, rfl, rfl, rfl, trivial⟩
--]
  generalize hst : stepB h (b, m) now = st
  obtain ⟨b1, m1⟩ := st
  have hd := dear_le V
  have hdl := congrArg List.length hcs
  rw [List.length_drop] at hdl
  have fin : ∀ (e : Env) (L : List VObj), tryS h cs now (b, m) = (b1, m1) → ownK T Try.f65 ⟨A b m, lg⟩ (fun r M' => r = .tup [] ∧ M' = ⟨A (tryS h cs now (b, m)).1 (tryS h cs now (b, m)).2, lg⟩) .ret e ⟨A b1 m1 ++ L, lg ++ Y⟩ [] := fun e L he =>
    ⟨.inr rfl, ⟨Y, rfl, fun x hx => by simp only [F.len]; exact hY x hx⟩, A b1 m1, L, rfl, by simp only [F.len], [], rfl, _, rfl, by simp [vtup, frz, frzL, refs, refsL], rfl, by rw [he]⟩
  cases cs with
  | nil =>
    have hq : ((openL h).length : Int) - (n : Int) = 0 := by simp at hdl; omega
    have hnn : ((n : Int) = ((openL h).length : Int)) = True := eq_true (by simp at hdl; omega)
    have a1 : (-9223372036854775808 : Int) ≤ 0 ∧ (0 : Int) < 9223372036854775808 := by omega
    have a3 : -9223372036854775808 ≤ rentOf h now ∧ rentOf h now < 9223372036854775808 := by omega
--[
    ((repeat refine W_seq ?_); refine W_region0 T_ok ?_)
    simp (maxSteps := 1000000) only [VL, VM, ↓Gd_none, ↓Gd_t, ↓Gd_f, reduceIte, reduceCtorEq, Int.reduceLE, Int.reduceLT, Int.reduceToNat, Int.reduceNeg, Nat.reduceLT, Nat.reduceEqDiff, Nat.reduceAdd, Nat.reduceSub, Nat.reduceMul, Nat.reduceLeDiff, F.len, F.get, F.get0, F.set, F.set0, F.gh, F.gm, F.gb, F.gd, F.go, F.gt, F.sm, F.sb, hq, a1, a3, Int.mul_zero, Int.add_zero]
    ((repeat refine W_seq ?_); refine W_region0 T_ok ?_)
    simp (maxSteps := 1000000) only [VL, VM, ↓Gd_none, ↓Gd_t, ↓Gd_f, reduceIte, reduceCtorEq, Int.reduceLE, Int.reduceLT, Int.reduceToNat, Int.reduceNeg, Nat.reduceLT, Nat.reduceEqDiff, Nat.reduceAdd, Nat.reduceSub, Nat.reduceMul, Nat.reduceLeDiff, F.len, F.get, F.get0, F.set, F.set0, F.gh, F.gm, F.gb, F.gd, F.go, F.gt, F.sm, F.sb, hnn]
    ((repeat refine W_seq ?_); refine W_cond (b := true) (by first | rfl | simp only [ev, get_cons, Nat.reduceEqDiff, if_true, if_false, reduceIte]) (fun _ => ?_) (fun h => by cases h))
    (repeat refine W_seq ?_)
    refine W_ret ?_
    try simp only [thenQ, blockQ]
    exact fin _ _ hst
--]
  | cons c cs =>
  have hq : ((openL h).length : Int) - (n : Int) = (cs.length : Int) + 1 := by simp at hdl; omega
  have hnn : ((n : Int) = ((openL h).length : Int)) = False := eq_false (by simp at hdl; omega)
  have hcl : cs.length ≤ 7 := by simp at hdl; omega
  have hmul : 0 ≤ dearL h * ((cs.length : Int) + 1) ∧ dearL h * ((cs.length : Int) + 1) ≤ 1000000 * 8 := ⟨Int.mul_nonneg hd.1 (by omega), Int.mul_le_mul hd.2 (by omega) (by omega) (by omega)⟩
  have a1 : -9223372036854775808 ≤ (cs.length : Int) + 1 ∧ (cs.length : Int) + 1 < 9223372036854775808 := by omega
  have a2 : -9223372036854775808 ≤ dearL h * ((cs.length : Int) + 1) ∧ dearL h * ((cs.length : Int) + 1) < 9223372036854775808 := by omega
  have a3 : -9223372036854775808 ≤ rentOf h now + dearL h * ((cs.length : Int) + 1) ∧ rentOf h now + dearL h * ((cs.length : Int) + 1) < 9223372036854775808 := by omega
  have htry : tryS h (c :: cs) now (b, m) = if rentOf h now + dearL h * ((cs.length : Int) + 1) < m1 ∨ rentOf h now + dearL h * ((cs.length : Int) + 1) = m1 ∧ b1.length ≤ now.length then (b1, m1) else tryS h cs now ((List.range h.kinds.length).foldl (fun s (k : Nat) => if allowedB h (now ++ [⟨c, (k : Int)⟩]) then tryS h cs (now ++ [⟨c, (k : Int)⟩]) s else s) (b1, m1)) := by
    rw [tryS, hst]
  ((repeat refine W_seq ?_); refine W_region0 T_ok ?_)
  simp (maxSteps := 1000000) only [VL, VM, ↓Gd_none, ↓Gd_t, ↓Gd_f, reduceIte, reduceCtorEq, Int.reduceLE, Int.reduceLT, Int.reduceToNat, Int.reduceNeg, Nat.reduceLT, Nat.reduceEqDiff, Nat.reduceAdd, Nat.reduceSub, Nat.reduceMul, Nat.reduceLeDiff, F.len, F.get, F.get0, F.set, F.set0, F.gh, F.gm, F.gb, F.gd, F.go, F.gt, F.sm, F.sb, hq, a1, a2, a3]
  generalize rentOf h now + dearL h * ((cs.length : Int) + 1) = could at htry
  by_cases hcond : could < m1 ∨ could = m1 ∧ b1.length ≤ now.length
--[
  · rw [if_pos hcond] at htry
    ((repeat refine W_seq ?_); refine W_region0 T_ok ?_)
    rcases hcond with c1 | ⟨c3, c4⟩
    · simp (maxSteps := 1000000) only [VL, VM, ↓Gd_none, ↓Gd_t, ↓Gd_f, reduceIte, reduceCtorEq, Int.reduceLE, Int.reduceLT, Int.reduceToNat, Int.reduceNeg, Nat.reduceLT, Nat.reduceEqDiff, Nat.reduceAdd, Nat.reduceSub, Nat.reduceMul, Nat.reduceLeDiff, F.len, F.get, F.get0, F.set, F.set0, F.gh, F.gm, F.gb, F.gd, F.go, F.gt, F.sm, F.sb, hnn, eq_true c1]
      ((repeat refine W_seq ?_); refine W_cond (b := true) (by first | rfl | simp only [ev, get_cons, Nat.reduceEqDiff, if_true, if_false, reduceIte]) (fun _ => ?_) (fun h => by cases h))
      (repeat refine W_seq ?_)
      refine W_ret ?_
      try simp only [thenQ, blockQ]
      exact fin _ _ htry
    · have c1 : ¬ could < m1 := by omega
      have c5 : ((b1.length : Int) ≤ (now.length : Int)) = True := eq_true (by omega)
      simp (maxSteps := 1000000) only [VL, VM, ↓Gd_none, ↓Gd_t, ↓Gd_f, reduceIte, reduceCtorEq, Int.reduceLE, Int.reduceLT, Int.reduceToNat, Int.reduceNeg, Nat.reduceLT, Nat.reduceEqDiff, Nat.reduceAdd, Nat.reduceSub, Nat.reduceMul, Nat.reduceLeDiff, F.len, F.get, F.get0, F.set, F.set0, F.gh, F.gm, F.gb, F.gd, F.go, F.gt, F.sm, F.sb, hnn, eq_false c1, eq_true c3, c5]
      ((repeat refine W_seq ?_); refine W_cond (b := true) (by first | rfl | simp only [ev, get_cons, Nat.reduceEqDiff, if_true, if_false, reduceIte]) (fun _ => ?_) (fun h => by cases h))
      (repeat refine W_seq ?_)
      refine W_ret ?_
      try simp only [thenQ, blockQ]
      exact fin _ _ htry
--]
  rw [if_neg hcond] at htry
  clear fin
  refine W_seq ?_
  refine W_then [(1, vi n), (2, vi (rentOf h now)), (3, .ptr ih 0), (4, .ptr im 0), (5, .ptr ib 0), (6, .ptr id 0), (7, .ptr io 0), (8, .ptr it 0), (9, .ptr n0 0), (12, pusV now)] ⟨A b1 m1 ++ VObj.obj (fl.map vi) :: [x1, x2, x3, x4, x5, x6, x7], lg ++ Y⟩ ?_ (fun e' hS => WCode.weak (e' := [(1, vi n), (2, vi (rentOf h now)), (3, .ptr ih 0), (4, .ptr im 0), (5, .ptr ib 0), (6, .ptr id 0), (7, .ptr io 0), (8, .ptr it 0), (9, .ptr n0 0), (12, pusV now)]) ?_ hS.ok)
--[
  · ((repeat refine W_seq ?_); refine W_region0 T_ok ?_)
    have c1 : ¬ could < m1 := fun e => hcond (.inl e)
    by_cases c3 : could = m1
    · have c5 : ((b1.length : Int) ≤ (now.length : Int)) = False := eq_false (fun e => hcond (.inr ⟨c3, by omega⟩))
      simp (maxSteps := 1000000) only [VL, VM, ↓Gd_none, ↓Gd_t, ↓Gd_f, reduceIte, reduceCtorEq, Int.reduceLE, Int.reduceLT, Int.reduceToNat, Int.reduceNeg, Nat.reduceLT, Nat.reduceEqDiff, Nat.reduceAdd, Nat.reduceSub, Nat.reduceMul, Nat.reduceLeDiff, F.len, F.get, F.get0, F.set, F.set0, F.gh, F.gm, F.gb, F.gd, F.go, F.gt, F.sm, F.sb, hnn, eq_false c1, eq_true c3, c5]
      ((repeat refine W_seq ?_); refine W_cond (b := false) (by first | rfl | simp only [ev, get_cons, Nat.reduceEqDiff, if_true, if_false, reduceIte]) (fun h => by cases h) (fun _ => ?_))
      ((repeat refine W_seq ?_); refine W_skip ?_)
      exact ⟨rfl, rfl, rfl, rfl, rfl, rfl, rfl, rfl, rfl, rfl, rfl, rfl, rfl, trivial⟩
    · simp (maxSteps := 1000000) only [VL, VM, ↓Gd_none, ↓Gd_t, ↓Gd_f, reduceIte, reduceCtorEq, Int.reduceLE, Int.reduceLT, Int.reduceToNat, Int.reduceNeg, Nat.reduceLT, Nat.reduceEqDiff, Nat.reduceAdd, Nat.reduceSub, Nat.reduceMul, Nat.reduceLeDiff, F.len, F.get, F.get0, F.set, F.set0, F.gh, F.gm, F.gb, F.gd, F.go, F.gt, F.sm, F.sb, hnn, eq_false c1, eq_false c3]
      ((repeat refine W_seq ?_); refine W_cond (b := false) (by first | rfl | simp only [ev, get_cons, Nat.reduceEqDiff, if_true, if_false, reduceIte]) (fun h => by cases h) (fun _ => ?_))
      ((repeat refine W_seq ?_); refine W_skip ?_)
      exact ⟨rfl, rfl, rfl, rfl, rfl, rfl, rfl, rfl, rfl, rfl, rfl, rfl, rfl, trivial⟩
--]
  have hc0 : (openL h)[n]? = some c := by
    have := congrArg (fun l : List Pl => l[0]?) hcs
    simpa using this
  have hc' := map_at (f := plP) hc0
  have hcm : c ∈ openL h := List.mem_of_getElem? hc0
  have hcb := mem_places V.w2 V.d2 (open_mem hcm)
  have hsort : (c :: cs).Pairwise plLt := by rw [← hcs]; exact (open_ord h).sublist (List.drop_sublist _ _)
  have hcs' : (openL h).drop (n + 1) = cs := by
    rw [← List.drop_drop, hcs]; rfl
  have hk6 := V.kinds6
  ((repeat refine W_seq ?_); refine W_region0 T_ok ?_)
  simp (maxSteps := 1000000) only [VL, VM, ↓Gd_none, ↓Gd_t, ↓Gd_f, reduceIte, reduceCtorEq, Int.reduceLE, Int.reduceLT, Int.reduceToNat, Int.reduceNeg, Nat.reduceLT, Nat.reduceEqDiff, Nat.reduceAdd, Nat.reduceSub, Nat.reduceMul, Nat.reduceLeDiff, F.len, F.get, F.get0, F.set, F.set0, F.gh, F.gm, F.gb, F.gd, F.go, F.gt, F.sm, F.sb, hc']
  obtain ⟨L0, hL0⟩ : ∃ L0, L0 = [VObj.obj (fl.map vi), x1, x2, x3, x4, x5, x6, x7, VObj.obj [vi c.x, vi c.y]] := ⟨_, rfl⟩
  obtain ⟨A2, hA2⟩ : ∃ A2 : List Pu → Int → List VObj, A2 = fun b m => A b m ++ L0 := ⟨_, rfl⟩
  obtain ⟨n2, hn2⟩ : ∃ n2, n2 = n0 + 9 := ⟨_, rfl⟩
  have F2 : Fr h g ih im ib id io it n2 A2 := by
    have := F.ext L0
    rw [← hA2, hL0] at this
    rw [hn2]
    exact this
  have g1 : ∀ b m L, (A2 b m ++ L)[n0]? = some (.obj (fl.map vi)) := fun b m L => by
    rw [hA2]
    simp only [List.append_assoc]
    rw [F.get0, hL0]; rfl
  have g2 : ∀ b m L, (A2 b m ++ L)[n0 + 8]? = some (.obj [vi c.x, vi c.y]) := fun b m L => by
    rw [hA2]
    simp only [List.append_assoc]
    rw [F.get, hL0]; rfl
  have hmem : A b1 m1 ++ [VObj.obj (fl.map vi), x1, x2, x3, x4, x5, x6, x7, VObj.obj [vi c.x, vi c.y]] = A2 b1 m1 := by rw [hA2, hL0]
  have hfl2 := hfl.tail
  have hk64 : -9223372036854775808 ≤ (h.kinds.length : Int) ∧ (h.kinds.length : Int) < 9223372036854775808 := by omega
  have gh0 : (A2 b1 m1)[ih]? = some (.obj (hallC h)) := by
    have := F2.gh b1 m1 []
    rwa [List.append_nil] at this
  rw [hmem]
  ((repeat refine W_seq ?_); refine W_region0 T_ok ?_)
  simp (maxSteps := 1000000) only [VL, VM, ↓Gd_none, ↓Gd_t, ↓Gd_f, reduceIte, reduceCtorEq, Int.reduceLE, Int.reduceLT, Int.reduceToNat, Int.reduceNeg, Nat.reduceLT, Nat.reduceEqDiff, Nat.reduceAdd, Nat.reduceSub, Nat.reduceMul, Nat.reduceLeDiff, gh0]
  ((repeat refine W_seq ?_); refine W_block ?_; (repeat refine W_seq ?_)); refine W_loopS (fun s : Nat × (List Pu × Int) × List VObj => [(1, vi n), (2, vi (rentOf h now)), (3, .ptr ih 0), (4, .ptr im 0), (5, .ptr ib 0), (6, .ptr id 0), (7, .ptr io 0), (8, .ptr it 0), (9, .ptr n0 0), (12, pusV now), (14, .ptr (n0 + 8) 0), (73, vi h.kinds.length), (74, vi s.1)]) (fun s => ⟨A2 s.2.1.1 s.2.1.2 ++ s.2.2, lg ++ Y⟩) (fun s => h.kinds.length - s.1) (fun s => s.1 ≤ h.kinds.length ∧ s.2.1 = (List.range s.1).foldl (fun s (k : Nat) => if allowedB h (now ++ [⟨c, (k : Int)⟩]) then tryS h cs (now ++ [⟨c, (k : Int)⟩]) s else s) (b1, m1)) (0, (b1, m1), []) ⟨Nat.zero_le _, rfl⟩ ⟨rfl, rfl, rfl, rfl, rfl, rfl, rfl, rfl, rfl, rfl, rfl, rfl, rfl, trivial⟩ (by simp) ?_
  rintro ⟨k, ⟨b2, m2⟩, junk⟩ ⟨hk, hst2⟩
  simp only at hk hst2
  have k1 : -9223372036854775808 ≤ (k : Int) + 1 ∧ (k : Int) + 1 < 9223372036854775808 := by omega
  ((repeat refine W_seq ?_); refine W_region0 T_ok ?_)
  rcases Nat.lt_or_ge k h.kinds.length with hlt | hge
  rotate_left
  · have k2 : ((k : Int) < (h.kinds.length : Int)) = False := eq_false (by omega)
    obtain rfl : k = h.kinds.length := by omega
    simp (maxSteps := 1000000) only [VL, VM, ↓Gd_none, ↓Gd_t, ↓Gd_f, reduceIte, reduceCtorEq, Int.reduceLE, Int.reduceLT, Int.reduceToNat, Int.reduceNeg, Nat.reduceLT, Nat.reduceEqDiff, Nat.reduceAdd, Nat.reduceSub, Nat.reduceMul, Nat.reduceLeDiff, k2]
    ((repeat refine W_seq ?_); refine W_cond (b := false) (by first | rfl | simp only [ev, get_cons, Nat.reduceEqDiff, if_true, if_false, reduceIte]) (fun h => by cases h) (fun _ => ?_))
    ((repeat refine W_seq ?_); refine W_exit ?_)
    simp (maxSteps := 1000000) only [VL, VM, ↓Gd_none, ↓Gd_t, ↓Gd_f, reduceIte, reduceCtorEq, Int.reduceLE, Int.reduceLT, Int.reduceToNat, Int.reduceNeg, Nat.reduceLT, Nat.reduceEqDiff, Nat.reduceAdd, Nat.reduceSub, Nat.reduceMul, Nat.reduceLeDiff]
    have hn1 : n + 1 ≤ (openL h).length := by
      have := (List.getElem?_eq_some_iff.1 hc0).1
      omega
    have n1 : -9223372036854775808 ≤ (n : Int) + 1 ∧ (n : Int) + 1 < 9223372036854775808 := by omega
    ((repeat refine W_seq ?_); refine W_region0 T_ok ?_)
    simp (maxSteps := 1000000) only [VL, VM, ↓Gd_none, ↓Gd_t, ↓Gd_f, reduceIte, reduceCtorEq, Int.reduceLE, Int.reduceLT, Int.reduceToNat, Int.reduceNeg, Nat.reduceLT, Nat.reduceEqDiff, Nat.reduceAdd, Nat.reduceSub, Nat.reduceMul, Nat.reduceLeDiff, f24, f25, f26, n1, F2.gt, g1]
    refine call_c (f := 65) (fn := Try.f65) (M1 := ⟨A2 (tryS h cs now (b2, m2)).1 (tryS h cs now (b2, m2)).2 ++ junk, lg ++ Y⟩) (v := .tup []) (by kernel_rfl) (by rfl) ?_ ?_
    · have := hind c cs rfl _ _ (F2.ext junk) now fl b2 m2 (lg ++ Y) (n + 1) hcs' hn1 hfl2 ha
      exact this
    · rw [htry, ← hst2]
      refine ⟨by decide, ?_⟩
      refine ⟨.inl rfl, ⟨Y, rfl, fun x hx => by simp only [F.len]; exact hY x hx⟩, A (tryS h cs now (b2, m2)).1 (tryS h cs now (b2, m2)).2, L0 ++ junk, ?_, by simp only [F.len], [], rfl, _, rfl, by simp [vtup, frz, frzL, refs, refsL], rfl, rfl⟩
      simp only [vkill, hA2, List.append_assoc]
  have k2 : ((k : Int) < (h.kinds.length : Int)) = True := eq_true (by omega)
  have hkk := map_at (f := kiP) (List.getElem?_eq_getElem hlt)
  simp (maxSteps := 1000000) only [VL, VM, ↓Gd_none, ↓Gd_t, ↓Gd_f, reduceIte, reduceCtorEq, Int.reduceLE, Int.reduceLT, Int.reduceToNat, Int.reduceNeg, Nat.reduceLT, Nat.reduceEqDiff, Nat.reduceAdd, Nat.reduceSub, Nat.reduceMul, Nat.reduceLeDiff, k2]
  ((repeat refine W_seq ?_); refine W_cond (b := true) (by first | rfl | simp only [ev, get_cons, Nat.reduceEqDiff, if_true, if_false, reduceIte]) (fun _ => ?_) (fun h => by cases h))
  ((repeat refine W_seq ?_); refine W_skip ?_)
  simp (maxSteps := 1000000) only [VL, VM, ↓Gd_none, ↓Gd_t, ↓Gd_f, reduceIte, reduceCtorEq, Int.reduceLE, Int.reduceLT, Int.reduceToNat, Int.reduceNeg, Nat.reduceLT, Nat.reduceEqDiff, Nat.reduceAdd, Nat.reduceSub, Nat.reduceMul, Nat.reduceLeDiff]
  ((repeat refine W_seq ?_); refine W_block ?_)
  ((repeat refine W_seq ?_); refine W_region0 T_ok ?_)
  simp (maxSteps := 1000000) only [VL, VM, ↓Gd_none, ↓Gd_t, ↓Gd_f, reduceIte, reduceCtorEq, Int.reduceLE, Int.reduceLT, Int.reduceToNat, Int.reduceNeg, Nat.reduceLT, Nat.reduceEqDiff, Nat.reduceAdd, Nat.reduceSub, Nat.reduceMul, Nat.reduceLeDiff]
  (repeat refine W_seq ?_)
  refine W_drawP T_ok [] (by kernel_rfl) (by kernel_rfl) ?_
  generalize hi : mkPlan _ = infs
  cbv at hi
  subst hi
  simp (maxSteps := 1000000) only [VL, VM, ↓Gd_none, ↓Gd_t, ↓Gd_f, reduceIte, reduceCtorEq, Int.reduceLE, Int.reduceLT, Int.reduceToNat, Int.reduceNeg, Nat.reduceLT, Nat.reduceEqDiff, Nat.reduceAdd, Nat.reduceSub, Nat.reduceMul, Nat.reduceLeDiff, F2.len, F2.get, F2.get0, F2.set, F2.set0, g1, g2]
  apply callk_d (f := 67) (fn := Try.f67) (by kernel_rfl) (by rfl)
  · exact clone_v 3 _ _ (.inl rfl) (by rw [List.length_map]; omega)
  have q1 : ((now.length + 1) * 24 ≤ 140737488355328) = True := eq_true (by omega)
  simp (maxSteps := 1000000) only [VL, VM, ↓Gd_none, ↓Gd_t, ↓Gd_f, reduceIte, reduceCtorEq, Int.reduceLE, Int.reduceLT, Int.reduceToNat, Int.reduceNeg, Nat.reduceLT, Nat.reduceEqDiff, Nat.reduceAdd, Nat.reduceSub, Nat.reduceMul, Nat.reduceLeDiff, F2.len, F2.get, F2.get0, F2.set, F2.set0, g1, g2, q1]
  generalize hl2 : now ++ [⟨c, (k : Int)⟩] = l2
  have hmap : now.map puP ++ [[PV.int .i64 c.x, .int .i64 c.y, .int .i64 k]] = l2.map puP := by rw [← hl2]; simp
  have hl2n : l2.length = now.length + 1 := by rw [← hl2]; simp
  rw [hmap]
  have hfold : (List.range (k + 1)).foldl (fun s (k : Nat) => if allowedB h (now ++ [⟨c, (k : Int)⟩]) then tryS h cs (now ++ [⟨c, (k : Int)⟩]) s else s) (b1, m1) = if allowedB h l2 then tryS h cs l2 (b2, m2) else (b2, m2) := by
    rw [List.range_succ, List.foldl_append, ← hst2, ← hl2]; rfl
  refine W_seq ?_
  ((repeat refine W_seq ?_); refine W_region0 T_ok ?_)
  simp (maxSteps := 1000000) only [VL, VM, ↓Gd_none, ↓Gd_t, ↓Gd_f, reduceIte, reduceCtorEq, Int.reduceLE, Int.reduceLT, Int.reduceToNat, Int.reduceNeg, Nat.reduceLT, Nat.reduceEqDiff, Nat.reduceAdd, Nat.reduceSub, Nat.reduceMul, Nat.reduceLeDiff, F2.gh]
  apply call_eq (f := 68) (fn := Try.f68) (by kernel_rfl) (by rfl)
  · exact checklayout_vm h l2 _ V (by omega)
  by_cases e2 : layErr h l2 = 0
  rotate_left
  · have ea : allowedB h l2 = false := by unfold allowedB; rw [decide_eq_false e2]; rfl
    rw [ea] at hfold
    simp (maxSteps := 1000000) only [VL, VM, ↓Gd_none, ↓Gd_t, ↓Gd_f, reduceIte, reduceCtorEq, Int.reduceLE, Int.reduceLT, Int.reduceToNat, Int.reduceNeg, Nat.reduceLT, Nat.reduceEqDiff, Nat.reduceAdd, Nat.reduceSub, Nat.reduceMul, Nat.reduceLeDiff, e2]
    ((repeat refine W_seq ?_); refine W_cond (b := true) (by first | rfl | simp only [ev, get_cons, Nat.reduceEqDiff, if_true, if_false, reduceIte]) (fun _ => ?_) (fun h => by cases h))
    ((repeat refine W_seq ?_); refine W_exit ?_)
    simp (maxSteps := 1000000) only [VL, VM, ↓Gd_none, ↓Gd_t, ↓Gd_f, reduceIte, reduceCtorEq, Int.reduceLE, Int.reduceLT, Int.reduceToNat, Int.reduceNeg, Nat.reduceLT, Nat.reduceEqDiff, Nat.reduceAdd, Nat.reduceSub, Nat.reduceMul, Nat.reduceLeDiff]
    ((repeat refine W_seq ?_); refine W_region0 T_ok ?_)
    simp (maxSteps := 1000000) only [VL, VM, ↓Gd_none, ↓Gd_t, ↓Gd_f, reduceIte, reduceCtorEq, Int.reduceLE, Int.reduceLT, Int.reduceToNat, Int.reduceNeg, Nat.reduceLT, Nat.reduceEqDiff, Nat.reduceAdd, Nat.reduceSub, Nat.reduceMul, Nat.reduceLeDiff, k1]
    refine LoopK.mk (k + 1, (b2, m2), junk ++ [.clm (now.length + 1) 3]) (by simp only; omega) ⟨by simp only; omega, hfold.symm⟩ ⟨rfl, rfl, rfl, rfl, rfl, rfl, rfl, rfl, rfl, rfl, rfl, rfl, rfl, trivial⟩ (by simp)
  simp (maxSteps := 1000000) only [VL, VM, ↓Gd_none, ↓Gd_t, ↓Gd_f, reduceIte, reduceCtorEq, Int.reduceLE, Int.reduceLT, Int.reduceToNat, Int.reduceNeg, Nat.reduceLT, Nat.reduceEqDiff, Nat.reduceAdd, Nat.reduceSub, Nat.reduceMul, Nat.reduceLeDiff, e2, F2.gh]
  apply call_eq (f := 69) (fn := Try.f69) (by kernel_rfl) (by rfl)
  · exact bears_vm h l2 _ V (lay_good e2) (by omega)
  by_cases e3 : verdictOf h l2 = 1
  rotate_left
  · have ea : allowedB h l2 = false := by unfold allowedB; rw [decide_eq_false e3]; simp
    rw [ea] at hfold
    simp (maxSteps := 1000000) only [VL, VM, ↓Gd_none, ↓Gd_t, ↓Gd_f, reduceIte, reduceCtorEq, Int.reduceLE, Int.reduceLT, Int.reduceToNat, Int.reduceNeg, Nat.reduceLT, Nat.reduceEqDiff, Nat.reduceAdd, Nat.reduceSub, Nat.reduceMul, Nat.reduceLeDiff, e3]
    ((repeat refine W_seq ?_); refine W_cond (b := true) (by first | rfl | simp only [ev, get_cons, Nat.reduceEqDiff, if_true, if_false, reduceIte]) (fun _ => ?_) (fun h => by cases h))
    ((repeat refine W_seq ?_); refine W_exit ?_)
    simp (maxSteps := 1000000) only [VL, VM, ↓Gd_none, ↓Gd_t, ↓Gd_f, reduceIte, reduceCtorEq, Int.reduceLE, Int.reduceLT, Int.reduceToNat, Int.reduceNeg, Nat.reduceLT, Nat.reduceEqDiff, Nat.reduceAdd, Nat.reduceSub, Nat.reduceMul, Nat.reduceLeDiff]
    ((repeat refine W_seq ?_); refine W_region0 T_ok ?_)
    simp (maxSteps := 1000000) only [VL, VM, ↓Gd_none, ↓Gd_t, ↓Gd_f, reduceIte, reduceCtorEq, Int.reduceLE, Int.reduceLT, Int.reduceToNat, Int.reduceNeg, Nat.reduceLT, Nat.reduceEqDiff, Nat.reduceAdd, Nat.reduceSub, Nat.reduceMul, Nat.reduceLeDiff, k1]
    refine LoopK.mk (k + 1, (b2, m2), junk ++ [.clm (now.length + 1) 3]) (by simp only; omega) ⟨by simp only; omega, hfold.symm⟩ ⟨rfl, rfl, rfl, rfl, rfl, rfl, rfl, rfl, rfl, rfl, rfl, rfl, rfl, trivial⟩ (by simp)
  have ea : allowedB h l2 = true := by unfold allowedB; rw [decide_eq_true e2, decide_eq_true e3]; rfl
  rw [ea, if_pos rfl] at hfold
  simp (maxSteps := 1000000) only [VL, VM, ↓Gd_none, ↓Gd_t, ↓Gd_f, reduceIte, reduceCtorEq, Int.reduceLE, Int.reduceLT, Int.reduceToNat, Int.reduceNeg, Nat.reduceLT, Nat.reduceEqDiff, Nat.reduceAdd, Nat.reduceSub, Nat.reduceMul, Nat.reduceLeDiff, e3]
  ((repeat refine W_seq ?_); refine W_cond (b := false) (by first | rfl | simp only [ev, get_cons, Nat.reduceEqDiff, if_true, if_false, reduceIte]) (fun h => by cases h) (fun _ => ?_))
  ((repeat refine W_seq ?_); refine W_skip ?_)
  simp (maxSteps := 1000000) only [VL, VM, ↓Gd_none, ↓Gd_t, ↓Gd_f, reduceIte, reduceCtorEq, Int.reduceLE, Int.reduceLT, Int.reduceToNat, Int.reduceNeg, Nat.reduceLT, Nat.reduceEqDiff, Nat.reduceAdd, Nat.reduceSub, Nat.reduceMul, Nat.reduceLeDiff]
  have f27 := fl_refs fl
  have f28 := hfl.len
  ((repeat refine W_seq ?_); refine W_region0 T_ok ?_)
  simp (maxSteps := 1000000) only [VL, VM, ↓Gd_none, ↓Gd_t, ↓Gd_f, reduceIte, reduceCtorEq, Int.reduceLE, Int.reduceLT, Int.reduceToNat, Int.reduceNeg, Nat.reduceLT, Nat.reduceEqDiff, Nat.reduceAdd, Nat.reduceSub, Nat.reduceMul, Nat.reduceLeDiff, fc, f24, f25, f26, f27, f28, F2.len, F2.get, F2.get0, F2.set, F2.set0, g1, g2]
  have x0 := hcb.1
  have y0 := hcb.2.2.1
  have d1 : (c.y.toNat < 4) = True := eq_true (by omega)
  have d2 : (c.x.toNat < 6) = True := eq_true (by omega)
  have d3 : (c.y.toNat * 6 + (c.x.toNat + 1) ≤ 24) = True := eq_true (by omega)
  have hput := hfl.put (k := k) V (open_mem hcm) hsort (by omega)
  rw [hl2] at hput
  have d4 : (fl.take (c.y.toNat * 6 + c.x.toNat)).map vi ++ vi ((k : Int) + 1) :: (fl.drop (c.y.toNat * 6 + (c.x.toNat + 1))).map vi = (fl.set (c.y.toNat * 6 + c.x.toNat) ((k : Int) + 1)).map vi := by
    rw [List.set_eq_take_append_cons_drop, if_pos (by omega), List.map_append, List.map_cons]; rfl
  generalize fl.set (c.y.toNat * 6 + c.x.toNat) ((k : Int) + 1) = fl2 at hput d4
  have e24 : (24 ≤ fl2.length) = True := eq_true (by rw [hput.len]; omega)
  have e25 : fl2.take 24 = fl2 := List.take_of_length_le (by rw [hput.len]; omega)
  have e26 := fl_strip fl2
  (repeat refine W_seq ?_)
  refine W_drawP T_ok [] (by kernel_rfl) (by kernel_rfl) ?_
  generalize hi : mkPlan _ = infs
  cbv at hi
  subst hi
  simp (maxSteps := 1000000) only [VL, VM, ↓Gd_none, ↓Gd_t, ↓Gd_f, reduceIte, reduceCtorEq, Int.reduceLE, Int.reduceLT, Int.reduceToNat, Int.reduceNeg, Nat.reduceLT, Nat.reduceEqDiff, Nat.reduceAdd, Nat.reduceSub, Nat.reduceMul, Nat.reduceLeDiff, f28, k1, x0, y0, d1, d2, d3, d4, F2.len, F2.get, F2.get0, F2.set, F2.set0, g1, g2]
  have hn1 : n + 1 ≤ (openL h).length := by
    have := (List.getElem?_eq_some_iff.1 hc0).1
    omega
  have n1 : -9223372036854775808 ≤ (n : Int) + 1 ∧ (n : Int) + 1 < 9223372036854775808 := by omega
  have kv := V.kind _ (List.getElem_mem hlt)
  have r0 := kv.rent0
  have r1 := kv.rent1
  have hre2 : rentOf h now + h.kinds[k].rent = rentOf h l2 := by rw [← hl2, rent_snoc, kAt_get hlt]
  have n3 : -9223372036854775808 ≤ rentOf h now + h.kinds[k].rent ∧ rentOf h now + h.kinds[k].rent < 9223372036854775808 := by omega
  generalize h.kinds[k] = kd at hkk r0 r1 hre2 n3
  (repeat refine W_seq ?_)
  refine W_drawP T_ok [] (by kernel_rfl) (by kernel_rfl) ?_
  generalize hi : mkPlan _ = infs
  cbv at hi
  subst hi
  simp (maxSteps := 1000000) only [VL, VM, ↓Gd_none, ↓Gd_t, ↓Gd_f, reduceIte, reduceCtorEq, Int.reduceLE, Int.reduceLT, Int.reduceToNat, Int.reduceNeg, Nat.reduceLT, Nat.reduceEqDiff, Nat.reduceAdd, Nat.reduceSub, Nat.reduceMul, Nat.reduceLeDiff, e24, e25, e26, n1, n3, hkk, F2.len, F2.get, F2.get0, F2.set, F2.set0, F2.gt, F2.gh]
  apply call_dc (f := 65) (fn := Try.f65) (by kernel_rfl) (by rfl)
  · rw [hre2]
    have := hind c cs rfl _ _ (F2.ext (junk ++ [.clm (now.length + 1) 3, .obj (fl2.map vi)])) l2 fl2 b2 m2 (lg ++ Y) (n + 1) hcs' hn1 hput ea
    exact this
  simp (maxSteps := 1000000) only [VL, VM, ↓Gd_none, ↓Gd_t, ↓Gd_f, reduceIte, reduceCtorEq, Int.reduceLE, Int.reduceLT, Int.reduceToNat, Int.reduceNeg, Nat.reduceLT, Nat.reduceEqDiff, Nat.reduceAdd, Nat.reduceSub, Nat.reduceMul, Nat.reduceLeDiff, e24, e25, e26, n1, n3, hkk, F2.len, F2.get, F2.get0, F2.set, F2.set0, F2.gt, F2.gh]
  ((repeat refine W_seq ?_); refine W_region0 T_ok ?_)
  simp (maxSteps := 1000000) only [VL, VM, ↓Gd_none, ↓Gd_t, ↓Gd_f, reduceIte, reduceCtorEq, Int.reduceLE, Int.reduceLT, Int.reduceToNat, Int.reduceNeg, Nat.reduceLT, Nat.reduceEqDiff, Nat.reduceAdd, Nat.reduceSub, Nat.reduceMul, Nat.reduceLeDiff, k1]
  refine LoopK.mk (k + 1, tryS h cs l2 (b2, m2), junk ++ [.clm (now.length + 1) 3, .obj (fl2.map vi)]) (by simp only; omega) ⟨by simp only; omega, hfold.symm⟩ ⟨rfl, rfl, rfl, rfl, rfl, rfl, rfl, rfl, rfl, rfl, rfl, rfl, rfl, trivial⟩ (by simp)
theorem try_vm (h : Ha) (V : VH h) (hop : (openL h).length ≤ 8) (g ih im ib id io it : Nat) : ∀ cs : List Pl, TrySpec h g ih im ib id io it cs
  | [] => try_step h V hop g ih im ib id io it [] fun c cs' e => by cases e
  | c :: cs => try_step h V hop g ih im ib id io it (c :: cs) fun d cs' e => by
    obtain ⟨_, rfl⟩ := List.cons.inj e
    exact try_vm h V hop g ih im ib id io it cs
end Go.Proofs.Ytijcmgfblpokhaa.Vm

/- The best layout, on values. (Vm) -/
namespace Go.Proofs.Ytijcmgfblpokhaa.Vm
open Go Go.Proofs
theorem filter_take1 {α : Type} (p : α → Bool) {l : List α} {i : Nat} {c : α} (h : l[i]? = some c) : (l.take (i + 1)).filter p = (l.take i).filter p ++ if p c then [c] else [] := by
  rw [List.take_add_one, h, List.filter_append]
  cases hp : p c <;> simp [hp]
def bestErr (h : Ha) : Int := if hallErr h ≠ 0 then hallErr h else if 8 < (openL h).length then 6 else 0
def bestR (h : Ha) : VV := if bestErr h = 0 then pusV (bestL h) else .p (.sl 0 [])
set_option maxRecDepth 100000 in
set_option maxHeartbeats 1000000 in
theorem best_vm (h : Ha) (M : Mem) (Fi : Fin h) : VC Try.prog 19 [hallV h] M (fun r M' => M' = M ∧ r = .tup [bestR h, vi (bestErr h)]) := by
  refine VC_ownK T_ok (f := 19) (fn := Try.f19) (by kernel_rfl) rfl Try.ntmps19 (by rfl) (by rfl) ?_
  ((repeat refine W_seq ?_); refine W_region0 T_ok ?_)
  simp (maxSteps := 1000000) only [VL, VM, ↓Gd_none, ↓Gd_t, ↓Gd_f, reduceIte, reduceCtorEq, Int.reduceLE, Int.reduceLT, Int.reduceToNat, Int.reduceNeg, Nat.reduceLT, Nat.reduceEqDiff, Nat.reduceAdd, Nat.reduceSub, Nat.reduceMul, Nat.reduceLeDiff]
  ((repeat refine W_seq ?_); refine W_region0 T_ok ?_)
  simp (maxSteps := 1000000) only [VL, VM, ↓Gd_none, ↓Gd_t, ↓Gd_f, reduceIte, reduceCtorEq, Int.reduceLE, Int.reduceLT, Int.reduceToNat, Int.reduceNeg, Nat.reduceLT, Nat.reduceEqDiff, Nat.reduceAdd, Nat.reduceSub, Nat.reduceMul, Nat.reduceLeDiff]
  apply call_eq (f := 36) (fn := Try.f36) (by kernel_rfl) (by rfl)
  · exact check_vm h _ Fi
  simp (maxSteps := 1000000) only [VL, VM, ↓Gd_none, ↓Gd_t, ↓Gd_f, reduceIte, reduceCtorEq, Int.reduceLE, Int.reduceLT, Int.reduceToNat, Int.reduceNeg, Nat.reduceLT, Nat.reduceEqDiff, Nat.reduceAdd, Nat.reduceSub, Nat.reduceMul, Nat.reduceLeDiff]
  ((repeat refine W_seq ?_); refine W_region0 T_ok ?_)
  by_cases e : hallErr h = 0
  rotate_left
  · simp (maxSteps := 1000000) only [VL, VM, ↓Gd_none, ↓Gd_t, ↓Gd_f, reduceIte, reduceCtorEq, Int.reduceLE, Int.reduceLT, Int.reduceToNat, Int.reduceNeg, Nat.reduceLT, Nat.reduceEqDiff, Nat.reduceAdd, Nat.reduceSub, Nat.reduceMul, Nat.reduceLeDiff, e]
    ((repeat refine W_seq ?_); refine W_cond (b := true) (by first | rfl | simp only [ev, get_cons, Nat.reduceEqDiff, if_true, if_false, reduceIte]) (fun _ => ?_) (fun h => by cases h))
    ((repeat refine W_seq ?_); refine W_region0 T_ok ?_)
    simp (maxSteps := 1000000) only [VL, VM, ↓Gd_none, ↓Gd_t, ↓Gd_f, reduceIte, reduceCtorEq, Int.reduceLE, Int.reduceLT, Int.reduceToNat, Int.reduceNeg, Nat.reduceLT, Nat.reduceEqDiff, Nat.reduceAdd, Nat.reduceSub, Nat.reduceMul, Nat.reduceLeDiff]
    (repeat refine W_seq ?_)
    refine W_ret ?_
    try simp only [thenQ, blockQ]
    refine ownK_ret0 rfl ?_ ?_
    · exact ⟨rfl, by simp [get_cons, frz, frzL, vtup, bestR, bestErr, e]⟩
    · simp [get_cons, frz, frzL, vtup, refs, refsL]
  have V := VH.of e
  have hk6 := V.kinds6
  simp (maxSteps := 1000000) only [VL, VM, ↓Gd_none, ↓Gd_t, ↓Gd_f, reduceIte, reduceCtorEq, Int.reduceLE, Int.reduceLT, Int.reduceToNat, Int.reduceNeg, Nat.reduceLT, Nat.reduceEqDiff, Nat.reduceAdd, Nat.reduceSub, Nat.reduceMul, Nat.reduceLeDiff, e]
  ((repeat refine W_seq ?_); refine W_cond (b := false) (by first | rfl | simp only [ev, get_cons, Nat.reduceEqDiff, if_true, if_false, reduceIte]) (fun h => by cases h) (fun _ => ?_))
  ((repeat refine W_seq ?_); refine W_skip ?_)
  simp (maxSteps := 1000000) only [VL, VM, ↓Gd_none, ↓Gd_t, ↓Gd_f, reduceIte, reduceCtorEq, Int.reduceLE, Int.reduceLT, Int.reduceToNat, Int.reduceNeg, Nat.reduceLT, Nat.reduceEqDiff, Nat.reduceAdd, Nat.reduceSub, Nat.reduceMul, Nat.reduceLeDiff]
  ((repeat refine W_seq ?_); refine W_region0 T_ok ?_)
  simp (maxSteps := 1000000) only [VL, VM, ↓Gd_none, ↓Gd_t, ↓Gd_f, reduceIte, reduceCtorEq, Int.reduceLE, Int.reduceLT, Int.reduceToNat, Int.reduceNeg, Nat.reduceLT, Nat.reduceEqDiff, Nat.reduceAdd, Nat.reduceSub, Nat.reduceMul, Nat.reduceLeDiff]
  (repeat refine W_seq ?_)
  refine W_ghost (id := M.H.length + 1) (off := 0) (k := 2) (k0 := 0) (cs := [.sf 0 []]) (by rw [hget]; rfl) rfl ?_
  ((repeat refine W_seq ?_); refine W_region0 T_ok ?_)
  simp (maxSteps := 1000000) only [VL, VM, ↓Gd_none, ↓Gd_t, ↓Gd_f, reduceIte, reduceCtorEq, Int.reduceLE, Int.reduceLT, Int.reduceToNat, Int.reduceNeg, Nat.reduceLT, Nat.reduceEqDiff, Nat.reduceAdd, Nat.reduceSub, Nat.reduceMul, Nat.reduceLeDiff]
  apply call_eq (f := 63) (fn := Try.f63) (by kernel_rfl) (by rfl)
  · exact placesF_v h _
  obtain ⟨wd, hwd⟩ := Int.eq_ofNat_of_zero_le (show 0 ≤ h.wide by have := V.w1; omega)
  obtain ⟨dp, hdp⟩ := Int.eq_ofNat_of_zero_le (show 0 ≤ h.deep by have := V.d1; omega)
  have w2 := V.w2
  have d2 := V.d2
  have w6 : wd ≤ 6 := by omega
  have d4 : dp ≤ 4 := by omega
  have hrows : placesL h = rowsOf dp wd := by rw [placesL, hwd, hdp]; rfl
  have hrl : (rowsOf dp wd).length ≤ 24 := by
    rw [rowsOf_len]
    have : dp * wd ≤ 4 * 6 := Nat.mul_le_mul d4 w6
    omega
  simp (maxSteps := 1000000) only [VL, VM, ↓Gd_none, ↓Gd_t, ↓Gd_f, reduceIte, reduceCtorEq, Int.reduceLE, Int.reduceLT, Int.reduceToNat, Int.reduceNeg, Nat.reduceLT, Nat.reduceEqDiff, Nat.reduceAdd, Nat.reduceSub, Nat.reduceMul, Nat.reduceLeDiff]
  refine W_block ?_
  refine W_places rfl rfl h hwd hdp (by omega) (by omega) [(1, VV.ptr M.H.length 0), (5, VV.ptr (M.H.length + 1) 0)] (fun s : List Pl => M.H ++ [.obj (hallC h), .obj [.so (M.H.length + 2) 2 (s.map plP)], .clm s.length 2, .obj (hallC h)]) (fun i s => s = ((rowsOf dp wd).take i).filter fun c => !hasPl h.shut c) [] rfl (fun s => by simp) (by simp) (fun s => by rw [hget]; rfl) (by rfl) ⟨rfl, rfl, trivial⟩ (by kernel_rfl) ?_ ?_
  · intro o o' i c s junk hc hs
    dsimp only
    have hft := filter_take1 (fun c => !hasPl h.shut c) hc
    rw [← hs] at hft
    have hsl : s.length ≤ 24 := by
      have h1 := List.length_filter_le (fun c => !hasPl h.shut c) ((rowsOf dp wd).take i)
      rw [← hs, List.length_take] at h1
      omega
    have q2 : ((s.length + 1) * 16 ≤ 140737488355328) = True := eq_true (by omega)
    ((repeat refine W_seq ?_); refine W_region0 T_ok ?_)
    simp (maxSteps := 1000000) only [VL, VM, ↓Gd_none, ↓Gd_t, ↓Gd_f, reduceIte, reduceCtorEq, Int.reduceLE, Int.reduceLT, Int.reduceToNat, Int.reduceNeg, Nat.reduceLT, Nat.reduceEqDiff, Nat.reduceAdd, Nat.reduceSub, Nat.reduceMul, Nat.reduceLeDiff]
    refine ⟨junk ++ [.obj [vi c.x, vi c.y]], by simp, ?_⟩
    ((repeat refine W_seq ?_); refine W_block ?_)
    ((repeat refine W_seq ?_); refine W_region0 T_ok ?_)
    simp (maxSteps := 1000000) only [VL, VM, ↓Gd_none, ↓Gd_t, ↓Gd_f, reduceIte, reduceCtorEq, Int.reduceLE, Int.reduceLT, Int.reduceToNat, Int.reduceNeg, Nat.reduceLT, Nat.reduceEqDiff, Nat.reduceAdd, Nat.reduceSub, Nat.reduceMul, Nat.reduceLeDiff]
    apply call_eq (f := 64) (fn := Try.f64) (by kernel_rfl) (by rfl)
    · exact containscells_vm c h.shut _ (V.shut_len)
    simp (maxSteps := 1000000) only [VL, VM, ↓Gd_none, ↓Gd_t, ↓Gd_f, reduceIte, reduceCtorEq, Int.reduceLE, Int.reduceLT, Int.reduceToNat, Int.reduceNeg, Nat.reduceLT, Nat.reduceEqDiff, Nat.reduceAdd, Nat.reduceSub, Nat.reduceMul, Nat.reduceLeDiff]
    cases hsh : hasPl h.shut c
    rotate_left
    · ((repeat refine W_seq ?_); refine W_cond (b := false) (by first | rfl | simp only [ev, get_cons, Nat.reduceEqDiff, if_true, if_false, reduceIte]) (fun h => by cases h) (fun _ => ?_))
      ((repeat refine W_seq ?_); refine W_skip ?_)
      simp only [blockQ]
      refine ⟨trivial, s, _, rfl, ?_⟩
      rw [hft, hsh]; simp
    ((repeat refine W_seq ?_); refine W_cond (b := true) (by first | rfl | simp only [ev, get_cons, Nat.reduceEqDiff, if_true, if_false, reduceIte]) (fun _ => ?_) (fun h => by cases h))
    ((repeat refine W_seq ?_); refine W_region0 T_ok ?_)
    simp (maxSteps := 1000000) only [VL, VM, ↓Gd_none, ↓Gd_t, ↓Gd_f, reduceIte, reduceCtorEq, Int.reduceLE, Int.reduceLT, Int.reduceToNat, Int.reduceNeg, Nat.reduceLT, Nat.reduceEqDiff, Nat.reduceAdd, Nat.reduceSub, Nat.reduceMul, Nat.reduceLeDiff, q2]
    refine ⟨s ++ [c], junk ++ [.obj [vi c.x, vi c.y]], ?_, by rw [hft, hsh]; rfl⟩
    rw [addLg_has (by simp)]
    simp
  intro o s hs
  simp only [thenQ, blockQ]
  rw [List.take_of_length_le (by rw [rowsOf_len]; exact Nat.le_refl _), ← hrows] at hs
  replace hs : s = openL h := hs
  subst hs
  ((repeat refine W_seq ?_); refine W_region0 T_ok ?_)
  by_cases hbig : 8 < (openL h).length
  · have b1 : ((8 : Int) < ((openL h).length : Int)) = True := eq_true (by omega)
    simp (maxSteps := 1000000) only [VL, VM, ↓Gd_none, ↓Gd_t, ↓Gd_f, reduceIte, reduceCtorEq, Int.reduceLE, Int.reduceLT, Int.reduceToNat, Int.reduceNeg, Nat.reduceLT, Nat.reduceEqDiff, Nat.reduceAdd, Nat.reduceSub, Nat.reduceMul, Nat.reduceLeDiff, b1]
    ((repeat refine W_seq ?_); refine W_cond (b := true) (by first | rfl | simp only [ev, get_cons, Nat.reduceEqDiff, if_true, if_false, reduceIte]) (fun _ => ?_) (fun h => by cases h))
    ((repeat refine W_seq ?_); refine W_region0 T_ok ?_)
    simp (maxSteps := 1000000) only [VL, VM, ↓Gd_none, ↓Gd_t, ↓Gd_f, reduceIte, reduceCtorEq, Int.reduceLE, Int.reduceLT, Int.reduceToNat, Int.reduceNeg, Nat.reduceLT, Nat.reduceEqDiff, Nat.reduceAdd, Nat.reduceSub, Nat.reduceMul, Nat.reduceLeDiff]
    (repeat refine W_seq ?_)
    refine W_ret ?_
    try simp only [thenQ, blockQ]
    refine ownK_ret (L' := _) (X := [(M.H.length + 1, M.H.length + 2)]) (by simp) (vkill_one (j := 4) rfl) rfl ?_ ?_
    · exact ⟨rfl, by simp [get_cons, frz, frzL, vtup, bestR, bestErr, e, hbig]⟩
    · simp [get_cons, frz, frzL, vtup, refs, refsL]
  have b1 : ((8 : Int) < ((openL h).length : Int)) = False := eq_false (by omega)
  simp (maxSteps := 1000000) only [VL, VM, ↓Gd_none, ↓Gd_t, ↓Gd_f, reduceIte, reduceCtorEq, Int.reduceLE, Int.reduceLT, Int.reduceToNat, Int.reduceNeg, Nat.reduceLT, Nat.reduceEqDiff, Nat.reduceAdd, Nat.reduceSub, Nat.reduceMul, Nat.reduceLeDiff, b1]
  ((repeat refine W_seq ?_); refine W_cond (b := false) (by first | rfl | simp only [ev, get_cons, Nat.reduceEqDiff, if_true, if_false, reduceIte]) (fun h => by cases h) (fun _ => ?_))
  ((repeat refine W_seq ?_); refine W_skip ?_)
  simp (maxSteps := 1000000) only [VL, VM, ↓Gd_none, ↓Gd_t, ↓Gd_f, reduceIte, reduceCtorEq, Int.reduceLE, Int.reduceLT, Int.reduceToNat, Int.reduceNeg, Nat.reduceLT, Nat.reduceEqDiff, Nat.reduceAdd, Nat.reduceSub, Nat.reduceMul, Nat.reduceLeDiff]
  ((repeat refine W_seq ?_); refine W_region0 T_ok ?_)
  simp (maxSteps := 1000000) only [VL, VM, ↓Gd_none, ↓Gd_t, ↓Gd_f, reduceIte, reduceCtorEq, Int.reduceLE, Int.reduceLT, Int.reduceToNat, Int.reduceNeg, Nat.reduceLT, Nat.reduceEqDiff, Nat.reduceAdd, Nat.reduceSub, Nat.reduceMul, Nat.reduceLeDiff]
  ((repeat refine W_seq ?_); refine W_region0 T_ok ?_)
  simp (maxSteps := 1000000) only [VL, VM, ↓Gd_none, ↓Gd_t, ↓Gd_f, reduceIte, reduceCtorEq, Int.reduceLE, Int.reduceLT, Int.reduceToNat, Int.reduceNeg, Nat.reduceLT, Nat.reduceEqDiff, Nat.reduceAdd, Nat.reduceSub, Nat.reduceMul, Nat.reduceLeDiff]
  have hkl : (h.kinds.take h.kinds.length) = h.kinds := List.take_length
  ((repeat refine W_seq ?_); refine W_block ?_; (repeat refine W_seq ?_)); refine W_loopS (fun s : Nat × List VObj => [(1, .ptr M.H.length 0), (5, .ptr (M.H.length + 1) 0), (7, .ptr (M.H.length + 6) 0), (34, kisV h.kinds), (35, vi h.kinds.length), (36, vi s.1)]) (fun s => ⟨M.H ++ (.obj (hallC h) :: .obj [.so (M.H.length + 2) 2 ((openL h).map plP)] :: .clm (openL h).length 2 :: .obj (hallC h) :: .dfr :: o :: .obj [vi ((h.kinds.take s.1).foldl (fun d k => max d k.rent) 0)] :: s.2), M.lg ++ [(M.H.length + 1, M.H.length + 2)]⟩) (fun s => h.kinds.length - s.1) (fun s => s.1 ≤ h.kinds.length) (0, []) (Nat.zero_le _) ⟨rfl, rfl, rfl, rfl, rfl, rfl, trivial⟩ rfl ?_
  rintro ⟨i, junk⟩ hi
  simp only at hi
  have k1 : -9223372036854775808 ≤ (i : Int) + 1 ∧ (i : Int) + 1 < 9223372036854775808 := by omega
  ((repeat refine W_seq ?_); refine W_region0 T_ok ?_)
  rcases Nat.lt_or_ge i h.kinds.length with hlt | hge
  · have k2 : ((i : Int) < (h.kinds.length : Int)) = True := eq_true (by omega)
    have hx := List.getElem?_eq_getElem hlt
    have hx' := map_at (f := kiP) hx
    have hfd : (h.kinds.take (i + 1)).foldl (fun d k => max d k.rent) 0 = max ((h.kinds.take i).foldl (fun d k => max d k.rent) 0) h.kinds[i].rent := by
      rw [List.take_add_one, hx, List.foldl_append]; rfl
    generalize h.kinds[i] = kd at hx hx' hfd
    generalize (h.kinds.take i).foldl (fun d k => max d k.rent) 0 = dd at hfd
    simp (maxSteps := 1000000) only [VL, VM, ↓Gd_none, ↓Gd_t, ↓Gd_f, reduceIte, reduceCtorEq, Int.reduceLE, Int.reduceLT, Int.reduceToNat, Int.reduceNeg, Nat.reduceLT, Nat.reduceEqDiff, Nat.reduceAdd, Nat.reduceSub, Nat.reduceMul, Nat.reduceLeDiff, k2]
    ((repeat refine W_seq ?_); refine W_cond (b := true) (by first | rfl | simp only [ev, get_cons, Nat.reduceEqDiff, if_true, if_false, reduceIte]) (fun _ => ?_) (fun h => by cases h))
    ((repeat refine W_seq ?_); refine W_skip ?_)
    simp (maxSteps := 1000000) only [VL, VM, ↓Gd_none, ↓Gd_t, ↓Gd_f, reduceIte, reduceCtorEq, Int.reduceLE, Int.reduceLT, Int.reduceToNat, Int.reduceNeg, Nat.reduceLT, Nat.reduceEqDiff, Nat.reduceAdd, Nat.reduceSub, Nat.reduceMul, Nat.reduceLeDiff]
    ((repeat refine W_seq ?_); refine W_block ?_)
    ((repeat refine W_seq ?_); refine W_region0 T_ok ?_)
    simp (maxSteps := 1000000) only [VL, VM, ↓Gd_none, ↓Gd_t, ↓Gd_f, reduceIte, reduceCtorEq, Int.reduceLE, Int.reduceLT, Int.reduceToNat, Int.reduceNeg, Nat.reduceLT, Nat.reduceEqDiff, Nat.reduceAdd, Nat.reduceSub, Nat.reduceMul, Nat.reduceLeDiff, hx']
    ((repeat refine W_seq ?_); refine W_region0 T_ok ?_)
    simp (maxSteps := 1000000) only [VL, VM, ↓Gd_none, ↓Gd_t, ↓Gd_f, reduceIte, reduceCtorEq, Int.reduceLE, Int.reduceLT, Int.reduceToNat, Int.reduceNeg, Nat.reduceLT, Nat.reduceEqDiff, Nat.reduceAdd, Nat.reduceSub, Nat.reduceMul, Nat.reduceLeDiff]
    ((repeat refine W_seq ?_); refine W_region0 T_ok ?_)
    simp (maxSteps := 1000000) only [VL, VM, ↓Gd_none, ↓Gd_t, ↓Gd_f, reduceIte, reduceCtorEq, Int.reduceLE, Int.reduceLT, Int.reduceToNat, Int.reduceNeg, Nat.reduceLT, Nat.reduceEqDiff, Nat.reduceAdd, Nat.reduceSub, Nat.reduceMul, Nat.reduceLeDiff, k1]
    refine LoopK.mk (i + 1, junk ++ [.obj [vi kd.lo, vi kd.hi, vb kd.water, intsV kd.away, vi kd.rent, vi kd.most]]) (by simp only; omega) (by simp only; omega) ⟨rfl, rfl, rfl, rfl, rfl, rfl, trivial⟩ (by simp only [hfd])
  have k2 : ((i : Int) < (h.kinds.length : Int)) = False := eq_false (by omega)
  obtain rfl : i = h.kinds.length := by omega
  rw [hkl, show h.kinds.foldl (fun d k => max d k.rent) 0 = dearL h from rfl]
  simp (maxSteps := 1000000) only [VL, VM, ↓Gd_none, ↓Gd_t, ↓Gd_f, reduceIte, reduceCtorEq, Int.reduceLE, Int.reduceLT, Int.reduceToNat, Int.reduceNeg, Nat.reduceLT, Nat.reduceEqDiff, Nat.reduceAdd, Nat.reduceSub, Nat.reduceMul, Nat.reduceLeDiff, k2]
  ((repeat refine W_seq ?_); refine W_cond (b := false) (by first | rfl | simp only [ev, get_cons, Nat.reduceEqDiff, if_true, if_false, reduceIte]) (fun h => by cases h) (fun _ => ?_))
  ((repeat refine W_seq ?_); refine W_exit ?_)
  simp (maxSteps := 1000000) only [VL, VM, ↓Gd_none, ↓Gd_t, ↓Gd_f, reduceIte, reduceCtorEq, Int.reduceLE, Int.reduceLT, Int.reduceToNat, Int.reduceNeg, Nat.reduceLT, Nat.reduceEqDiff, Nat.reduceAdd, Nat.reduceSub, Nat.reduceMul, Nat.reduceLeDiff]
  obtain ⟨P, hP⟩ : ∃ P, P = M.H ++ (.obj (hallC h) :: .obj [.so (M.H.length + 2) 2 ((openL h).map plP)] :: .clm (openL h).length 2 :: .obj (hallC h) :: .dfr :: o :: .obj [vi (dearL h)] :: junk) := ⟨_, rfl⟩
  rw [← hP]
  ((repeat refine W_seq ?_); refine W_region0 T_ok ?_)
  simp (maxSteps := 1000000) only [VL, VM, ↓Gd_none, ↓Gd_t, ↓Gd_f, reduceIte, reduceCtorEq, Int.reduceLE, Int.reduceLT, Int.reduceToNat, Int.reduceNeg, Nat.reduceLT, Nat.reduceEqDiff, Nat.reduceAdd, Nat.reduceSub, Nat.reduceMul, Nat.reduceLeDiff]
  (repeat refine W_seq ?_)
  refine W_nilobj (id := P.length) (off := 0) (k := 3) (k0 := 0) (cs := [.sf 0 []]) (by rw [hget0]; rfl) rfl ?_
  ((repeat refine W_seq ?_); refine W_region0 T_ok ?_)
  simp (maxSteps := 1000000) only [VL, VM, ↓Gd_none, ↓Gd_t, ↓Gd_f, reduceIte, reduceCtorEq, Int.reduceLE, Int.reduceLT, Int.reduceToNat, Int.reduceNeg, Nat.reduceLT, Nat.reduceEqDiff, Nat.reduceAdd, Nat.reduceSub, Nat.reduceMul, Nat.reduceLeDiff]
  ((repeat refine W_seq ?_); refine W_region0 T_ok ?_)
  simp (maxSteps := 1000000) only [VL, VM, ↓Gd_none, ↓Gd_t, ↓Gd_f, reduceIte, reduceCtorEq, Int.reduceLE, Int.reduceLT, Int.reduceToNat, Int.reduceNeg, Nat.reduceLT, Nat.reduceEqDiff, Nat.reduceAdd, Nat.reduceSub, Nat.reduceMul, Nat.reduceLeDiff]
  ((repeat refine W_seq ?_); refine W_region0 T_ok ?_)
  simp (maxSteps := 1000000) only [VL, VM, ↓Gd_none, ↓Gd_t, ↓Gd_f, reduceIte, reduceCtorEq, Int.reduceLE, Int.reduceLT, Int.reduceToNat, Int.reduceNeg, Nat.reduceLT, Nat.reduceEqDiff, Nat.reduceAdd, Nat.reduceSub, Nat.reduceMul, Nat.reduceLeDiff]
  obtain ⟨Xl, hXl, hX1⟩ := addLg_X (P.length + 2) [M.H.length, P.length + 1, P.length, M.H.length + 6, M.H.length + 1, P.length + 2] (M.lg ++ [(M.H.length + 1, M.H.length + 2)])
  rw [hXl]
  have hPl : M.H.length ≤ P.length := by rw [hP]; simp
  have gP : ∀ (L : List VObj) (j : Nat) (ob : VObj), (VObj.obj (hallC h) :: .obj [.so (M.H.length + 2) 2 ((openL h).map plP)] :: .clm (openL h).length 2 :: .obj (hallC h) :: .dfr :: o :: .obj [vi (dearL h)] :: junk)[j]? = some ob → (P ++ L)[M.H.length + j]? = some ob := fun L j ob hj => by
    refine app_get ?_ L
    rw [hP, hget]; exact hj
  have F : Fr h (M.H.length + 2) M.H.length (P.length + 1) P.length (M.H.length + 6) (M.H.length + 1) (P.length + 2) (P.length + 3) (fun b m => P ++ [.obj [pusV b], .obj [vi m], .obj [tryV M.H.length (P.length + 1) P.length (M.H.length + 6) (M.H.length + 1) (P.length + 2)]]) := by
    refine ⟨fun b m => by simp, fun b m L => ?_, fun b m L => ?_, fun b m L => ?_, fun b m L => ?_, fun b m L => ?_, fun b m L => ?_, fun b m L x => ?_, fun b m L x => ?_⟩
    · rw [List.append_assoc]; exact gP _ 0 _ rfl
    · rw [List.append_assoc, hget]; rfl
    · rw [List.append_assoc, hget0]; rfl
    · rw [List.append_assoc]; exact gP _ 6 _ rfl
    · rw [List.append_assoc]; exact gP _ 1 _ rfl
    · rw [List.append_assoc, hget]; rfl
    · rw [List.append_assoc, hset]; simp
    · rw [List.append_assoc, hset0]; simp
  have htv := try_vm h V (by omega) (M.H.length + 2) M.H.length (P.length + 1) P.length (M.H.length + 6) (M.H.length + 1) (P.length + 2) (openL h) _ _ F [] (List.replicate 24 0) [] 0 (M.lg ++ (M.H.length + 1, M.H.length + 2) :: Xl) 0 rfl (Nat.zero_le _) (FlOk.zero h _) (allowedB_nil V)
  ((repeat refine W_seq ?_); refine W_region0 T_ok ?_)
  simp (maxSteps := 1000000) only [VL, VM, ↓Gd_none, ↓Gd_t, ↓Gd_f, reduceIte, reduceCtorEq, Int.reduceLE, Int.reduceLT, Int.reduceToNat, Int.reduceNeg, Nat.reduceLT, Nat.reduceEqDiff, Nat.reduceAdd, Nat.reduceSub, Nat.reduceMul, Nat.reduceLeDiff]
  refine call_c (f := 65) (fn := Try.f65) (M1 := ⟨P ++ [.obj [pusV (bestL h)], .obj [vi (bestS h).2], .obj [tryV M.H.length (P.length + 1) P.length (M.H.length + 6) (M.H.length + 1) (P.length + 2)]], M.lg ++ (M.H.length + 1, M.H.length + 2) :: Xl⟩) (v := .tup []) (by kernel_rfl) (by rfl) ?_ ?_
  · exact htv
  refine ⟨by decide, ?_⟩
  try simp only [thenQ, blockQ]
  ((repeat refine W_seq ?_); refine W_region0 T_ok ?_)
  simp (maxSteps := 1000000) only [VL, VM, ↓Gd_none, ↓Gd_t, ↓Gd_f, reduceIte, reduceCtorEq, Int.reduceLE, Int.reduceLT, Int.reduceToNat, Int.reduceNeg, Nat.reduceLT, Nat.reduceEqDiff, Nat.reduceAdd, Nat.reduceSub, Nat.reduceMul, Nat.reduceLeDiff]
  rw [hP]
  simp only [List.append_assoc, List.cons_append]
  (repeat refine W_seq ?_)
  refine W_ret ?_
  try simp only [thenQ, blockQ]
  refine ownK_ret (L' := _) (X := (M.H.length + 1, M.H.length + 2) :: Xl) ?_ (vkill_one (j := 4) rfl) rfl ?_ ?_
  · intro x hx
    rcases List.mem_cons.1 hx with rfl | hx
    · simp
    · rw [hX1 x hx]; omega
  · exact ⟨rfl, by simp [get_cons, frz, frzL, vtup, bestR, bestErr, e, hbig]⟩
  · simp [get_cons, frz, frzL, vtup, refs, refsL]
end Go.Proofs.Ytijcmgfblpokhaa.Vm
