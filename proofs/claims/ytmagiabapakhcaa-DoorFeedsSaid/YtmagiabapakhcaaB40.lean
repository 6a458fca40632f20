/- A part of the proofs about the chapter of the doors; it states no condition of its own. -/
import Derived.Test.YtmagiabapakhcaaB35
import Derived.Test.YtmagiabapakhcaaB37
import Derived.Test.YtmagiabapakhcaaB39
set_option linter.unusedVariables false
set_option linter.unusedSimpArgs false
open Int renaming reduceLE → zA, reduceLT → zB, reduceToNat → zC, reduceNeg → zD
open Nat renaming reduceLT → zE, reduceEqDiff → zF, reduceAdd → zG, reduceSub → zH, reduceMul → zI, reduceLeDiff → zJ
/- Flows: places under other names, and the reference's ways of people, plain. -/
namespace Go.Proofs.Ytmagiabapakhcaa
structure Bij (N : Nat) (p q : Nat → Nat) : Prop where
 lt : ∀ i, i < N → p i < N
 lt' : ∀ i, i < N → q i < N
 qp : ∀ i, i < N → q (p i) = i
 pq : ∀ i, i < N → p (q i) = i
theorem sumTo_bij {N : Nat} {p q : Nat → Nat} (h : Bij N p q) (f : Nat → Int) : sumTo N (fun i => f (p i)) = sumTo N f := by
 have e1 : sumTo N (fun i => f (p i)) = sumTo N fun i => sumTo N fun j => if j = p i then f j else 0 := by
  refine sumTo_congr fun i hi => ?_
  rw [show (fun j => if j = p i then f j else 0) = fun j => if j = p i then f (p i) else 0 from funext fun j => by by_cases e : j = p i <;> simp [e], sumTo_one (h.lt i hi)]
 rw [e1, sumTo_swap]
 refine sumTo_congr fun j hj => ?_
 rw [sumTo_congr (g := fun i => if i = q j then f j else 0) fun i hi => ?_, sumTo_one (h.lt' j hj)]
 by_cases e : j = p i
 ·rw [if_pos e, if_pos (by rw [e, h.qp i hi])]
 ·rw [if_neg e, if_neg (fun e2 => e (by rw [e2, h.pq j hj]))]
def permG (p : Nat → Nat) (N : Nat) (R : List (List Int)) : List (List Int) := (List.range N).map fun i => (List.range N).map fun j => at2 R (p i) (p j)
theorem permG_sq (p : Nat → Nat) (N : Nat) (R : List (List Int)) : Sq N (permG p N R) := ⟨by simp [permG], fun r hr => by
 obtain ⟨i, _, rfl⟩ := List.mem_map.1 hr
 simp⟩
theorem permG_at {p : Nat → Nat} {N : Nat} (R : List (List Int)) {i j : Nat} (hi : i < N) (hj : j < N) : at2 (permG p N R) i j = at2 R (p i) (p j) := by
 have e : (permG p N R)[i]? = some ((List.range N).map fun j => at2 R (p i) (p j)) := by
  unfold permG
  rw [List.getElem?_map, List.getElem?_range hi]; rfl
 rw [at2, List.getD_eq_getElem?_getD (l := permG p N R), e, Option.getD_some, List.getD_eq_getElem?_getD, List.getElem?_map, List.getElem?_range hj]; rfl
theorem Res.perm {N : Nat} {C R : List (List Int)} {v : Int} {p q : Nat → Nat} (hN : 2 ≤ N) (b : Bij N p q) (p0 : p 0 = 0) (p1 : p 1 = 1) (h : Res N C R v) : Res N (permG p N C) (permG p N R) v := by
 refine ⟨fun i j hi hj => ?_, fun i j hi hj => ?_, ?_, fun i hi h0 h1 => ?_⟩
 ·rw [permG_at _ hi hj]; exact h.nn _ _ (b.lt i hi) (b.lt j hj)
 ·rw [permG_at _ hi hj, permG_at _ hj hi, permG_at _ hi hj, permG_at _ hj hi]; exact h.sk _ _ (b.lt i hi) (b.lt j hj)
 ·rw [sumTo_congr (g := fun j => at2 C 0 (p j) - at2 R 0 (p j)) fun j hj => by rw [permG_at _ (by omega) hj, permG_at _ (by omega) hj, p0], sumTo_bij b fun j => at2 C 0 j - at2 R 0 j]
  exact h.src
 ·rw [sumTo_congr (g := fun j => at2 C (p i) (p j) - at2 R (p i) (p j)) fun j hj => by rw [permG_at _ hi hj, permG_at _ hi hj], sumTo_bij b fun j => at2 C (p i) j - at2 R (p i) j]
  refine h.mid (p i) (b.lt i hi) (fun e => h0 ?_) (fun e => h1 ?_)
  ·have := b.qp 0 (by omega)
   rw [p0] at this
   rw [← b.qp i hi, e, this]
  ·have := b.qp 1 (by omega)
   rw [p1] at this
   rw [← b.qp i hi, e, this]
theorem cut_perm {N : Nat} {C : List (List Int)} {p q : Nat → Nat} (b : Bij N p q) (S : Nat → Bool) : cutOf N (permG p N C) (fun i => S (p i)) = cutOf N C S := by
 unfold cutOf
 rw [← sumTo_bij b fun i => sumTo N fun j => if S i && !S j then at2 C i j else 0]
 refine sumTo_congr fun i hi => ?_
 rw [← sumTo_bij b fun j => if S (p i) && !S j then at2 C (p i) j else 0]
 refine sumTo_congr fun j hj => ?_
 rw [permG_at _ hi hj]
theorem MF.perm {N : Nat} {C : List (List Int)} {v : Int} {p q : Nat → Nat} (hN : 2 ≤ N) (b : Bij N p q) (p0 : p 0 = 0) (p1 : p 1 = 1) (h : MF N C v) : MF N (permG p N C) v := by
 obtain ⟨⟨R, hR⟩, S, s0, s1, hS⟩ := h
 exact ⟨⟨_, hR.perm hN b p0 p1⟩, fun i => S (p i), by simpa [p0] using s0, by simpa [p1] using s1, by rw [cut_perm b, hS]⟩
theorem cell_uniq {n t t' i i' : Nat} (hi : i < n) (hi' : i' < n) (h : t * n + i = t' * n + i') : i = i' ∧ t = t' := by
 have h1 : (t * n + i) % n = i := by rw [Nat.add_comm, Nat.add_mul_mod_self_right, Nat.mod_eq_of_lt hi]
 have h2 : (t' * n + i') % n = i' := by rw [Nat.add_comm, Nat.add_mul_mod_self_right, Nat.mod_eq_of_lt hi']
 have h3 : i = i' := by rw [← h1, ← h2, h]
 subst h3
 refine ⟨rfl, Nat.eq_of_mul_eq_mul_right (show 0 < n by omega) (by omega)⟩
section
variable {N nH ticks : Nat} {ds : List Do} {closed : List Int} {come : Nat → Int}
def nameG (N k : Nat) : Nat := if k = 0 then 0 else if k = N - 1 then 1 else k + 1
def nameB (N k : Nat) : Nat := if k = 0 then 0 else if k = 1 then N - 1 else k - 1
theorem nameG_bij (hN : 2 ≤ N) : Bij N (nameG N) (nameB N) := by
 refine ⟨fun i hi => ?_, fun i hi => ?_, fun i hi => ?_, fun i hi => ?_⟩
 ·unfold nameG; split <;> (try split) <;> omega
 ·unfold nameB; split <;> (try split) <;> omega
 ·unfold nameG nameB
  by_cases h0 : i = 0
  ·simp [h0]
  ·by_cases h1 : i = N - 1
   ·rw [if_neg h0, if_pos h1, if_neg (by omega), if_pos rfl, h1]
   ·simp [h0, h1]
 ·unfold nameG nameB
  by_cases h0 : i = 0
  ·simp [h0]
  ·by_cases h1 : i = 1
   ·subst h1
    simp
    omega
   ·simp [h0, h1, show ¬ i - 1 = 0 by omega, show ¬ i - 1 = N - 1 by omega]
    omega
theorem tau_bij (hN : 2 ≤ N) : Bij N (tau N) (tau N) := ⟨fun _ hi => tau_lt hN hi, fun _ hi => tau_lt hN hi, fun i _ => tau_tau hN i, fun i _ => tau_tau hN i⟩
theorem Bij.comp {p q p' q' : Nat → Nat} (h : Bij N p q) (h' : Bij N p' q') : Bij N (fun i => p' (p i)) (fun i => q (q' i)) :=
 ⟨fun i hi => h'.lt _ (h.lt i hi), fun i hi => h.lt' _ (h'.lt' i hi), fun i hi => by show q (q' (p' (p i))) = i; rw [h'.qp _ (h.lt i hi), h.qp i hi], fun i hi => by show p' (p (q (q' i))) = i; rw [h.pq _ (h'.lt' i hi), h'.pq i hi]⟩
theorem nameG_last (hN : 2 ≤ N) : nameG N (N - 1) = 1 := by
 unfold nameG; rw [if_neg (by omega), if_pos rfl]
end
end Go.Proofs.Ytmagiabapakhcaa

/- The reference: how many people can be outside after some ticks, on values. (Vm) -/
namespace Go.Proofs.Ytmagiabapakhcaa
theorem HV.ne {h : Ho} (V : HV h) : ∀ d ∈ h.doors, DoOk h.holds.length d ∧ d.a ≠ d.b := fun d hd => ⟨(V.doors d hd).ok, (V.doors d hd).ne⟩
end Go.Proofs.Ytmagiabapakhcaa
namespace Go.Proofs.Ytmagiabapakhcaa.Vm
open Go Go.Proofs
theorem sum_r (l : List Int) (M : Mem) (hl : l.length ≤ 1000000) (hb : ∀ x ∈ l, 0 ≤ x ∧ x ≤ 2000000000) : VC Try.prog 80 [intsV l] M (fun r M' => M' = M ∧ r = vi l.sum) := by
 refine VC_own' T_ok (f := 80) (fn := Try.f80) (by kernel_rfl) rfl Try.ntmps80 (by rfl) (by rfl) ?_
 ((repeat refine Ws ?_);refine Wr ?_)
 simp (maxSteps := 1000000) only [VL,VM,↓VG,reduceIte,reduceCtorEq,zA,zB,zC,zD,zE,zF,zG,zH,zI,zJ]
 ((repeat refine Ws ?_);refine Wr ?_)
 simp (maxSteps := 1000000) only [VL,VM,↓VG,reduceIte,reduceCtorEq,zA,zB,zC,zD,zE,zF,zG,zH,zI,zJ]
 ((repeat refine Ws ?_);refine Wr ?_)
 simp (maxSteps := 1000000) only [VL,VM,↓VG,reduceIte,reduceCtorEq,zA,zB,zC,zD,zE,zF,zG,zH,zI,zJ]
 ((repeat refine Ws ?_);refine W_block ?_; (repeat refine Ws ?_)); refine W_loopS (fun i : Nat => [(0, intsV l), (3, vi (l.take i).sum), (4, vi i)]) (fun _ => M) (fun i => l.length - i) (fun i => i ≤ l.length ∧ 0 ≤ (l.take i).sum ∧ (l.take i).sum ≤ 2000000000 * i) 0 ⟨Nat.zero_le _, by simp, by simp⟩ ⟨rfl, rfl, rfl, trivial⟩ rfl ?_
 rintro i ⟨hi, hs0, hs1⟩
 have k1 : -9223372036854775808 ≤ (i : Int) + 1 ∧ (i : Int) + 1 < 9223372036854775808 := by omega
 ((repeat refine Ws ?_);refine Wr ?_)
 rcases Nat.lt_or_ge i l.length with hlt | hge
 ·have k2 : ((i : Int) < (l.length : Int)) = True := eq_true (by omega)
  have hx : l[i]? = some l[i] := List.getElem?_eq_getElem hlt
  have hm := hb _ (List.getElem_mem hlt)
  generalize l[i] = d at hx hm
  have hx' := map_at (f := intP) hx
  have hsum : (l.take (i + 1)).sum = (l.take i).sum + d := by rw [List.take_add_one, hx]; simp
  have k3 : -9223372036854775808 ≤ (l.take i).sum + d ∧ (l.take i).sum + d < 9223372036854775808 := by omega
  simp (maxSteps := 1000000) only [VL,VM,↓VG,reduceIte,reduceCtorEq,zA,zB,zC,zD,zE,zF,zG,zH,zI,zJ, k2]
  ((repeat refine Ws ?_);refine Wt (by first|rfl|simp only [EV,zF,reduceIte]) ?_)
  ((repeat refine Ws ?_);refine W_skip ?_)
  simp (maxSteps := 1000000) only [VL,VM,↓VG,reduceIte,reduceCtorEq,zA,zB,zC,zD,zE,zF,zG,zH,zI,zJ]
  ((repeat refine Ws ?_);refine W_block ?_)
  ((repeat refine Ws ?_);refine Wr ?_)
  simp (maxSteps := 1000000) only [VL,VM,↓VG,reduceIte,reduceCtorEq,zA,zB,zC,zD,zE,zF,zG,zH,zI,zJ, hx', k3]
  ((repeat refine Ws ?_);refine Wr ?_)
  simp (maxSteps := 1000000) only [VL,VM,↓VG,reduceIte,reduceCtorEq,zA,zB,zC,zD,zE,zF,zG,zH,zI,zJ, k1]
  refine LoopK.mk (i + 1) (by omega) ⟨by omega, by omega, by omega⟩ ⟨rfl, ?_, rfl, trivial⟩ rfl
  rw [hsum]; rfl
 have k2 : ((i : Int) < (l.length : Int)) = False := eq_false (by omega)
 obtain rfl : i = l.length := by omega
 simp (maxSteps := 1000000) only [VL,VM,↓VG,reduceIte,reduceCtorEq,zA,zB,zC,zD,zE,zF,zG,zH,zI,zJ, k2, List.take_length]
 ((repeat refine Ws ?_);refine Wf (by first|rfl|simp only [EV,zF,reduceIte]) ?_)
 ((repeat refine Ws ?_);refine W_exit ?_)
 simp (maxSteps := 1000000) only [VL,VM,↓VG,reduceIte,reduceCtorEq,zA,zB,zC,zD,zE,zF,zG,zH,zI,zJ]
 ((repeat refine Ws ?_);refine Wr ?_)
 simp (maxSteps := 1000000) only [VL,VM,↓VG,reduceIte,reduceCtorEq,zA,zB,zC,zD,zE,zF,zG,zH,zI,zJ]
 (repeat refine Ws ?_)
 refine W_ret ?_
 try simp only [thenQ, blockQ]
 refine own_ret10 rfl ?_ (by rfl)
 simp only [get_cons, frz, vtup, Nat.reduceEqDiff, if_true, if_false, reduceIte]
end Go.Proofs.Ytmagiabapakhcaa.Vm

/- The reference: a table of room that is filled, on values. (Vm) -/
namespace Go.Proofs.Ytmagiabapakhcaa.Vm
open Go Go.Proofs
def FB (H0 : List VObj) (N : Nat) (R : List (List Int)) : List VObj := H0 ++ (VObj.obj ((List.range N).map fun i => .bf (H0.length + 1 + i) 0 N 1) :: R.map rowO)
def rowsB (n0 N i : Nat) : List VV := (List.range i).map (fun j => VV.bf (n0 + 1 + j) 0 N 1) ++ List.replicate (N - i) (.sf 0 [])
theorem rowsB_len {n0 N i : Nat} (h : i ≤ N) : (rowsB n0 N i).length = N := by simp [rowsB]; omega
theorem rowsB_set {n0 N i : Nat} (h : i < N) : (rowsB n0 N i).set i (.bf (n0 + 1 + i) 0 N 1) = rowsB n0 N (i + 1) := by
 unfold rowsB
 rw [List.set_append_right _ _ (by simp), List.length_map, List.length_range, Nat.sub_self, show N - i = (N - (i + 1)) + 1 by omega, List.replicate_succ, List.set_cons_zero, List.range_succ, List.map_append, List.append_assoc]
 rfl
section
variable {H0 : List VObj} {N : Nat} {R : List (List Int)}
theorem FB_len (hs : Sq N R) : (FB H0 N R).length = H0.length + 1 + N := by simp [FB, hs.len]; omega
theorem FB_0 (L : List VObj) : (FB H0 N R ++ L)[H0.length]? = some (.obj ((List.range N).map fun i => .bf (H0.length + 1 + i) 0 N 1)) := by
 rw [FB, List.append_assoc, hget0]; rfl
theorem FB_row (hs : Sq N R) (L : List VObj) {i : Nat} (hi : i < N) : (FB H0 N R ++ L)[H0.length + 1 + i]? = some (.obj ((R.getD i []).map vi)) := by
 have h2 : i < R.length := by rw [hs.len]; exact hi
 rw [FB, List.append_assoc, Nat.add_assoc, hget, show 1 + i = i + 1 by omega, List.cons_append, List.getElem?_cons_succ, List.getElem?_append_left (by rw [List.length_map]; exact h2), List.getElem?_map, List.getElem?_eq_getElem h2, List.getD_eq_getElem?_getD, List.getElem?_eq_getElem h2]
 rfl
theorem FB_set (hs : Sq N R) (L : List VObj) {i : Nat} (hi : i < N) (j : Nat) (x : Int) : (FB H0 N R ++ L).set (H0.length + 1 + i) (.obj (((R.getD i []).set j x).map vi)) = FB H0 N (upd2 R i j x) ++ L := by
 have h2 : i < R.length := by rw [hs.len]; exact hi
 rw [FB, List.append_assoc, Nat.add_assoc, hset, show 1 + i = i + 1 by omega, List.cons_append, List.set_cons_succ, List.set_append_left _ _ (by rw [List.length_map]; exact h2), FB, List.append_assoc, upd2]
 simp [List.map_set, rowO]
theorem FB_old (L : List VObj) {i : Nat} {o : VObj} (h : H0[i]? = some o) : (FB H0 N R ++ L)[i]? = some o := by
 rw [FB, List.append_assoc]
 exact app_get h _
theorem FB_rowat {i : Nat} (hi : i < N) : ((List.range N).map fun i => VV.bf (H0.length + 1 + i) 0 N 1)[i]? = some (.bf (H0.length + 1 + i) 0 N 1) := by simp [hi]
theorem FB_cell (hs : Sq N R) {i j : Nat} (hi : i < N) (hj : j < N) : ((R.getD i []).map vi)[j]? = some (vi (at2 R i j)) := by
 have := hs.rowlen hi
 rw [List.getElem?_map, List.getElem?_eq_getElem (by omega)]
 unfold at2
 rw [List.getD_eq_getElem?_getD (l := R.getD i []), List.getElem?_eq_getElem (by omega)]
 rfl
theorem FB_sp (hs : Sq N R) {i j : Nat} (hi : i < N) (hj : j < N) (x : Int) : List.map vi (List.take j (R.getD i [])) ++ vi x :: List.map vi (List.drop (j + 1) (R.getD i [])) = List.map vi ((R.getD i []).set j x) := by
 rw [List.set_eq_take_append_cons_drop, if_pos (by rw [hs.rowlen hi]; exact hj)]
 simp
theorem FB_le (hs : Sq N R) {i j : Nat} (hi : i < N) (hj : j < N) : (j + 1 ≤ (R.getD i []).length) = True := eq_true (by rw [hs.rowlen hi]; exact hj)
theorem FB_rows (hs : Sq N R) (R' : List (List Int)) (hl : R'.length = N) (L : List VObj) : setRows (FB H0 N R ++ L) (H0.length + 1) R' = FB H0 N R' ++ L := by
 obtain ⟨P, hP⟩ : ∃ P, P = H0 ++ [VObj.obj ((List.range N).map fun i => .bf (H0.length + 1 + i) 0 N 1)] := ⟨_, rfl⟩
 have e : FB H0 N R ++ L = P ++ (R.map rowO ++ L) := by simp [FB, hP]
 have e2 : FB H0 N R' ++ L = P ++ (R'.map rowO ++ L) := by simp [FB, hP]
 have e3 : H0.length + 1 = P.length := by simp [hP]
 rw [e, e2, e3, setRows_mid _ _ _ _ (by rw [List.length_map, hs.len, hl])]
end
theorem rowsB_all (n0 N : Nat) : rowsB n0 N N = (List.range N).map fun j => VV.bf (n0 + 1 + j) 0 N 1 := by simp [rowsB]
end Go.Proofs.Ytmagiabapakhcaa.Vm
