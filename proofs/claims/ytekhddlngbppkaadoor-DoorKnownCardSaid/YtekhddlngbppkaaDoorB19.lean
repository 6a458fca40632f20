/- A part of the proofs about the chapter of the doors; it states no condition of its own. -/
import Derived.Test.YtekhddlngbppkaaDoorB15
import Derived.Test.YtekhddlngbppkaaDoorB18
set_option linter.unusedVariables false
set_option linter.unusedSimpArgs false
open Int renaming reduceLE → zA, reduceLT → zB, reduceToNat → zC, reduceNeg → zD
open Nat renaming reduceLT → zE, reduceEqDiff → zF, reduceAdd → zG, reduceSub → zH, reduceMul → zI, reduceLeDiff → zJ
/- Flows: the whole, on values. (Vm) -/
namespace Go.Proofs.YtekhddlngbppkaaDoor.Vm
open Go Go.Proofs
theorem addLg_low {id : Nat} {rs : List Nat} {lg : List (Nat × Nat)} (h : ∀ r ∈ rs, r ≤ id) : addLg id rs lg = lg := by
 unfold addLg
 have : rs.filter (fun r => Nat.blt id r && !(lg.any fun e => Nat.beq e.1 id && Nat.beq e.2 r)) = [] := by
  rw [List.filter_eq_nil_iff]
  intro r hr
  have := h r hr
  have h2 : Nat.blt id r = false := by rw [← Bool.not_eq_true, Nat.blt_eq]; omega
  simp [h2]
 rw [this]
theorem addLg_Y (id : Nat) (rs : List Nat) (lg : List (Nat × Nat)) : ∃ X, addLg id rs lg = lg ++ X ∧ ∀ e ∈ X, e.1 = id ∧ e.2 ∈ rs := by
 unfold addLg
 split
 ·exact ⟨[], by simp, by simp⟩
 ·refine ⟨_, rfl, fun e he => ?_⟩
  obtain ⟨r, hr, rfl⟩ := List.mem_map.1 he
  refine ⟨rfl, ?_⟩
  simp only [List.mem_filter] at hr
  first | exact hr.1 | exact hr
structure FbSt where
 i : Nat
 lg : List (Nat × Nat)
def rowsTo (n0 N i : Nat) : List VV := (List.range i).map (fun j => VV.bf (n0 + 2 + j) 0 N 1) ++ List.replicate (N - i) (.sf 0 [])
theorem rowsTo_len {n0 N i : Nat} (h : i ≤ N) : (rowsTo n0 N i).length = N := by simp [rowsTo]; omega
theorem rowsTo_set {n0 N i : Nat} (h : i < N) : (rowsTo n0 N i).set i (.bf (n0 + 2 + i) 0 N 1) = rowsTo n0 N (i + 1) := by
 unfold rowsTo
 rw [List.set_append_right _ _ (by simp), List.length_map, List.length_range, Nat.sub_self, show N - i = (N - (i + 1)) + 1 by omega, List.replicate_succ, List.set_cons_zero, List.range_succ, List.map_append, List.append_assoc]
 rfl
theorem rep_flat {α : Type} (N : Nat) (a : α) : (List.replicate N [a]).flatten = List.replicate N a := by
 induction N with
 | zero => rfl
 | succ N ih => rw [List.replicate_succ, List.flatten_cons, ih, List.replicate_succ]; rfl
theorem VC_escK {P : Program} {T : Tab} (hT : TabOk P T) {f : Nat} {fn : Func} {c : Code} {nt : Nat} {args : List VV} {M : Mem} {Q : VV → Mem → Prop} (hf : T.fn f = some fn) (hb : fn.body = some c) (hnt : fn.ntmps = nt) (hn : Nat.ble args.length nt = true) (hk : T.keeps f = false)
  (h : WCode P ⟨f, none, nt⟩ c (zipEnv 0 args) M [] (fun ex e M' D => (ex = .normal ∨ ex = .ret) ∧ ∃ H', vkill M.H.length D M'.H = some H' ∧ ∃ vs, vresL T e ⟨H', M'.lg⟩ fn.results.toList = some vs ∧ (∃ x ∈ refs (frz M.H.length H' (vtup vs)), M.H.length ≤ x) ∧ Q (vtup vs) ⟨H', M'.lg⟩)) : VC P f args M Q := by
 subst hnt
 refine VC_fn hT hf hb (Nat.le_of_ble_eq_true hn) fun hlg => h.mono ?_
 rintro ex e M' D ⟨hex, H', hH, vs, h1, ⟨x, hx, hx2⟩, h3⟩
 have key : retQ T f M.H.length fn Q .ret e M' D := by
  simp only [retQ, hH]
  have hM : ({ M' with H := H' } : Mem) = ⟨H', M'.lg⟩ := rfl
  rw [hM, h1]
  simp only
  have q3 : ((refs (frz M.H.length H' (vtup vs))).all (Nat.blt · M.H.length)) = false := by
   rw [List.all_eq_false]
   exact ⟨x, hx, by rw [Nat.blt_eq]; omega⟩
  unfold vfinish
  simp only
  rw [hk, q3, Bool.and_false]
  exact h3
 rcases hex with rfl | rfl
 ·exact key
 ·exact key
theorem setRows_mid : ∀ (R' : List (List Int)) (A B C : List VObj), B.length = R'.length → setRows (A ++ (B ++ C)) A.length R' = A ++ (R'.map rowO ++ C)
 | [], A, [], C, _ => rfl
 | r :: R', A, b :: B, C, h => by
  have ih := setRows_mid R' (A ++ [b]) B C (by simpa using h)
  have e : A ++ (b :: B ++ C) = (A ++ [b]) ++ (B ++ C) := by simp
  have e2 : A.length + 1 = (A ++ [b]).length := by simp
  rw [setRows, e, e2, ih, List.append_assoc, List.set_append_right _ _ (Nat.le_refl _)]
  simp
theorem HF_FA {H0 : List VObj} {N : Nat} {R R' : List (List Int)} {met : List Bool} {L : List VObj} (k : Nat) (hR : R.length = N) (hR' : R'.length = N) : HF (FA H0 N R ++ L) (H0.length + 2) (H0.length + 2 + N + k) R' met = FA H0 N R' ++ L.set k (.obj (met.map vb)) := by
 obtain ⟨P, hP⟩ : ∃ P, P = H0 ++ [VObj.obj ((List.range N).map fun i => .bf (H0.length + 2 + i) 0 N 1), .obj [.bf H0.length 0 N 1]] := ⟨_, rfl⟩
 have e : FA H0 N R ++ L = P ++ (R.map rowO ++ L) := by simp [FA, hP]
 have e2 : FA H0 N R' ++ L = P ++ (R'.map rowO ++ L) := by simp [FA, hP]
 have e3 : H0.length + 2 = P.length := by simp [hP]
 have e4 : setRows (FA H0 N R ++ L) (H0.length + 2) R' = FA H0 N R' ++ L := by
  rw [e, e2, e3]
  exact setRows_mid _ _ _ _ (by rw [List.length_map, hR, hR'])
 rw [HF, e4, List.set_append_right _ _ (by rw [FA_len, hR']; omega)]
 congr 2
 rw [FA_len, hR']
 omega
theorem sumTo_const (n : Nat) (c : Int) : sumTo n (fun _ => c) = (n : Int) * c := by
 induction n with
 | zero => simp [sumTo_zero]
 | succ n ih => rw [sumTo_succ, ih, Int.natCast_add, Int.add_mul]; simp
theorem res_bd {N : Nat} {C R : List (List Int)} {v K : Int} (h : Go.Proofs.YtekhddlngbppkaaDoor.Res N C R v) (hN : 2 ≤ N) (hC : ∀ a b, 0 ≤ at2 C a b ∧ at2 C a b ≤ K) : -((N : Int) * K) ≤ v ∧ v ≤ (N : Int) * K := by
 have h1 := h.src
 have a1 : sumTo N (fun j => at2 C 0 j - at2 R 0 j) ≤ sumTo N (fun _ => K) := sumTo_le fun j hj => by
  have := h.nn 0 j (by omega) hj
  have := hC 0 j
  omega
 have a2 : sumTo N (fun _ => -K) ≤ sumTo N (fun j => at2 C 0 j - at2 R 0 j) := sumTo_le fun j hj => by
  have := h.nn j 0 hj (by omega)
  have := h.sk 0 j (by omega) hj
  have := hC 0 j
  have := hC j 0
  omega
 rw [sumTo_const] at a1 a2
 rw [Int.mul_neg] at a2
 omega
theorem i_shr1 (t q : Nat) : vbin T .shr t (vi (q : Int)) (VV.p (.int .u64 1)) = some (vi ((q / 2 : Nat) : Int)) := by
 have h2 : Go.binOp .shr 0 (.int .i64 (q : Int)) (.int .u64 1) = .pure (.int .i64 ((q / 2 : Nat) : Int)) := by
  show Op.shift .shr .i64 (q : Int) .u64 1 = _
  unfold Op.shift
  rw [if_neg (by decide)]
  have h3 : (q : Int).fdiv (2 ^ (min (1 : Int).toNat IntKind.i64.bits)) = ((q / 2 : Nat) : Int) := by
   show (q : Int).fdiv 2 = _
   rw [Int.fdiv_eq_ediv_of_nonneg _ (by omega)]
   omega
  simp only [h3]
  rfl
 simp only [vbin, h2, pureOf, Option.map_some, ofValue]
structure FcSt where
 R : List (List Int)
 q : Nat
 sl : Nat
 L : List VObj
 X : List (Nat × Nat)
 v : Int
set_option maxHeartbeats 2000000 in
theorem flow_v {fi : Nat} {fni : Func} (hfn : T.fn fi = some fni) (hkf : T.keeps fi = false) {caps : List VV} (hcp : caps.map strip1 = caps) {N : Nat} {ws : List Wa} {Pk : List VObj → Prop} (hit : IterOf fi caps (ws.map wayV) Pk) (hPk : ∀ A L, Pk A → Pk (A ++ L)) (hN : 2 ≤ N) (hN2 : N ≤ 100000) (hws : ∀ w ∈ ws, WaOk N w) (hwl : ws.length ≤ 1000) (M : Mem) (hP : Pk M.H) :
  VC Tryd.prog 37 [vi N, .fn (.func fi) [] caps] M (fun r M' => M' = M ∧ r = .tup [vi (mfv N (tabOfW N ws)), .any]) := by
 refine VC_first rfl (by simp [refs]) (fun n H => by simp [frz]) ?_
 refine VC_escK T_ok (f := 37) (fn := Tryd.f37) (by kernel_rfl) rfl Tryd.ntmps37 (by rfl) (by rfl) ?_
 have q1 : (N * 24 ≤ 140737488355328) = True := eq_true (by omega)
 have q2 : (N ≤ 9223372036854775807) = True := eq_true (by omega)
 have q3 : (N * 8 ≤ 140737488355328) = True := eq_true (by omega)
 ((repeat refine Ws ?_);refine Wr ?_)
 simp (maxSteps := 1000000) only [VL,VM,↓VG,reduceIte,reduceCtorEq,zA,zB,zC,zD,zE,zF,zG,zH,zI,zJ]
 ((repeat refine Ws ?_);refine Wr ?_)
 simp (maxSteps := 1000000) only [VL,VM,↓VG,reduceIte,reduceCtorEq,zA,zB,zC,zD,zE,zF,zG,zH,zI,zJ, q1, q2, rep_flat]
 ((repeat refine Ws ?_);refine Wr ?_)
 simp (maxSteps := 1000000) only [VL,VM,↓VG,reduceIte,reduceCtorEq,zA,zB,zC,zD,zE,zF,zG,zH,zI,zJ]
 ((repeat refine Ws ?_);refine W_block ?_; (repeat refine Ws ?_)); refine W_loopS (fun s : FbSt => [(0, vi N), (1, .fn (.func fi) [] caps), (4, vi 0), (6, .ptr (M.H.length + 1) 0), (17, vi N), (18, vi s.i)]) (fun s => ⟨M.H ++ (.obj (rowsTo M.H.length N s.i) :: .obj [.bf M.H.length 0 N 1] :: List.replicate s.i (.obj (List.replicate N (vi 0)))), s.lg⟩) (fun s => N - s.i) (fun s => s.i ≤ N ∧ ∃ X, s.lg = M.lg ++ X ∧ ∀ e ∈ X, M.H.length ≤ e.1) ⟨0, M.lg⟩ ⟨Nat.zero_le _, [], by simp, by simp⟩ ⟨rfl, rfl, rfl, rfl, rfl, rfl, trivial⟩ (by simp [rowsTo]; exact addLg_low (by simp)) ?_
 rintro ⟨i, lg⟩ ⟨hi, X, rfl, hX⟩
 simp only at hi
 have k1 : -9223372036854775808 ≤ (i : Int) + 1 ∧ (i : Int) + 1 < 9223372036854775808 := by omega
 ((repeat refine Ws ?_);refine Wr ?_)
 rcases Nat.lt_or_ge i N with hlt | hge
 ·have k2 : ((i : Int) < (N : Int)) = True := eq_true (by omega)
  have hsp : List.take i (rowsTo M.H.length N i) ++ VV.bf (M.H.length + (i + 2)) 0 N 1 :: List.drop (i + 1) (rowsTo M.H.length N i) = rowsTo M.H.length N (i + 1) := by
   rw [← rowsTo_set hlt, List.set_eq_take_append_cons_drop, if_pos (by rw [rowsTo_len (by omega)]; exact hlt), show M.H.length + (i + 2) = M.H.length + 2 + i by omega]
  have hle : (i + 1 ≤ (rowsTo M.H.length N i).length) = True := eq_true (by rw [rowsTo_len (by omega)]; omega)
  have hltt : (i < N) = True := eq_true hlt
  simp (maxSteps := 1000000) only [VL,VM,↓VG,reduceIte,reduceCtorEq,zA,zB,zC,zD,zE,zF,zG,zH,zI,zJ, k2]
  ((repeat refine Ws ?_);refine Wt (by first|rfl|simp only [EV,zF,reduceIte]) ?_)
  ((repeat refine Ws ?_);refine W_skip ?_)
  simp (maxSteps := 1000000) only [VL,VM,↓VG,reduceIte,reduceCtorEq,zA,zB,zC,zD,zE,zF,zG,zH,zI,zJ]
  ((repeat refine Ws ?_);refine W_block ?_)
  ((repeat refine Ws ?_);refine Wr ?_)
  simp (maxSteps := 1000000) only [VL,VM,↓VG,reduceIte,reduceCtorEq,zA,zB,zC,zD,zE,zF,zG,zH,zI,zJ]
  (repeat refine Ws ?_)
  refine W_drawP T_ok [] (by kernel_rfl) (by kernel_rfl) ?_
  generalize hi : mkPlan _ = infs
  cbv at hi
  subst hi
  simp (maxSteps := 1000000) only [VL,VM,↓VG,reduceIte,reduceCtorEq,zA,zB,zC,zD,zE,zF,zG,zH,zI,zJ, q2, q3, rep_flat, hltt, List.length_replicate, hle, hsp]
  ((repeat refine Ws ?_);refine Wr ?_)
  simp (maxSteps := 1000000) only [VL,VM,↓VG,reduceIte,reduceCtorEq,zA,zB,zC,zD,zE,zF,zG,zH,zI,zJ, k1]
  obtain ⟨Y, y1, y2⟩ := addLg_Y M.H.length [M.H.length + (i + 2)] (M.lg ++ X)
  refine LoopK.mk ⟨i + 1, M.lg ++ (X ++ Y)⟩ (by simp only; omega) ⟨by simp only; omega, X ++ Y, rfl, fun e he => ?_⟩ ⟨rfl, rfl, rfl, rfl, rfl, rfl, trivial⟩ ?_
  ·rcases List.mem_append.1 he with he | he
   ·exact hX e he
   ·have := (y2 e he).1
    omega
  ·simp only
   rw [y1, List.append_assoc, List.replicate_succ']
 have k2 : ((i : Int) < (N : Int)) = False := eq_false (by omega)
 obtain rfl : i = N := by omega
 simp (maxSteps := 1000000) only [VL,VM,↓VG,reduceIte,reduceCtorEq,zA,zB,zC,zD,zE,zF,zG,zH,zI,zJ, k2]
 ((repeat refine Ws ?_);refine Wf (by first|rfl|simp only [EV,zF,reduceIte]) ?_)
 ((repeat refine Ws ?_);refine W_exit ?_)
 simp (maxSteps := 1000000) only [VL,VM,↓VG,reduceIte,reduceCtorEq,zA,zB,zC,zD,zE,zF,zG,zH,zI,zJ]
 have hFA : M.H ++ (VObj.obj (rowsTo M.H.length i i) :: .obj [.bf M.H.length 0 i 1] :: List.replicate i (.obj (List.replicate i (vi 0)))) = FA M.H i (zeros2 i) := by
  unfold FA rowsTo zeros2
  simp
 rw [hFA]
 clear hFA k2 hge k1 hi
 ((repeat refine Ws ?_);refine Wr ?_)
 simp (maxSteps := 1000000) only [VL,VM,↓VG,reduceIte,reduceCtorEq,zA,zB,zC,zD,zE,zF,zG,zH,zI,zJ]
 have htl : ∀ j, (tabOfW i (ws.take j)).length = i := fun j => (tabW_ok _ (ws.take j) rfl fun w hw => hws w (List.mem_of_mem_take hw)).1.1
 ((repeat refine Ws ?_);refine W_block ?_)
 refine W_iter rfl hfn hkf hcp rfl hit hPk [(0, vi i), (4, vi 0), (6, .ptr (M.H.length + 1) 0)] (fun j : Nat => FA M.H i (tabOfW i (ws.take j))) (fun j s => s = j) 0 rfl (fun s => by simp only [FA_len, htl]; simp [zeros2]) rfl (fun s => hPk _ _ hP) (by rfl) ⟨rfl, rfl, rfl, trivial⟩ (by kernel_rfl) ?_ ?_
 ·intro o o' j x s junk hx hs
  subst hs
  rw [List.getElem?_map] at hx
  obtain ⟨w, hw, rfl⟩ := Option.map_eq_some_iff.1 hx
  dsimp only
  refine ⟨s + 1, [.obj [vi w.fr, vi w.to, vi w.most]], rfl, ?_⟩
  ((repeat refine Ws ?_);refine Wr ?_)
  simp (maxSteps := 1000000) only [VL,VM,↓VG,reduceIte,reduceCtorEq,zA,zB,zC,zD,zE,zF,zG,zH,zI,zJ]
  refine ⟨junk ++ [.obj [vi w.fr, vi w.to, vi w.most]], by simp, ?_⟩
  have hf1 : ∀ R L, (FA M.H i R ++ L)[M.H.length + 1]? = some (.obj [.bf M.H.length 0 i 1]) := fun R L => by
   rw [List.getElem?_append_left (by rw [FA_len]; omega)]; exact FA_1
  have hf0 : ∀ R L, (FA M.H i R ++ L)[M.H.length]? = some (.obj ((List.range i).map fun j => .bf (M.H.length + 2 + j) 0 i 1)) := fun R L => by
   rw [List.getElem?_append_left (by rw [FA_len]; omega)]; exact FA_0
  have hww := hws w (List.mem_of_getElem? hw)
  have hfr : (w.fr < i) = True := eq_true hww.fr
  have hto : (w.to < i) = True := eq_true hww.to
  have hrw : (List.map (fun j => VV.bf (M.H.length + (2 + j)) 0 i 1) (List.range i))[w.fr]? = some (.bf (M.H.length + (2 + w.fr)) 0 i 1) := by simp [hww.fr]
  obtain ⟨hsq, hbd⟩ := tabW_ok _ (ws.take s) rfl fun w hw => hws w (List.mem_of_mem_take hw)
  have hnx : tabOfW i (ws.take (s + 1)) = add2 (tabOfW i (ws.take s)) w := by
   rw [List.take_add_one, hw]
   exact tabW_succ _ _ _
  have hlen2 : ((ws.take s).length : Int) ≤ 1000 := by
   have := List.length_take_le s ws
   have h2 : (ws.take s).length ≤ ws.length := by rw [List.length_take]; omega
   omega
  generalize tabOfW i (ws.take s) = R at hsq hbd hnx
  have hRl : R.length = i := hsq.1
  have hgr : ∀ L, (FA M.H i R ++ L)[M.H.length + (2 + w.fr)]? = some (.obj ((R.getD w.fr []).map vi)) := fun L => by
   rw [List.getElem?_append_left (by rw [FA_len]; have := hww.fr; omega), ← Nat.add_assoc]
   exact FA_row (by rw [hRl]; exact hww.fr)
  have hcell : ((R.getD w.fr []).map vi)[w.to]? = some (vi (at2 R w.fr w.to)) := by
   have := hsq.rowlen hww.fr
   have := hww.to
   rw [List.getElem?_map, List.getElem?_eq_getElem (by omega)]
   unfold at2
   rw [List.getD_eq_getElem?_getD (l := R.getD w.fr []), List.getElem?_eq_getElem (by omega)]
   rfl
  have b1 := hbd w.fr w.to
  have b2 := hww.lo
  have b3 := hww.hi
  have k3 : -9223372036854775808 ≤ at2 R w.fr w.to + w.most ∧ at2 R w.fr w.to + w.most < 9223372036854775808 := by omega
  have e1 : (w.to + 1 ≤ (R.getD w.fr []).length) = True := eq_true (by rw [hsq.rowlen hww.fr]; have := hww.to; omega)
  have sp : List.map vi (List.take w.to (R.getD w.fr [])) ++ vi (at2 R w.fr w.to + w.most) :: List.map vi (List.drop (w.to + 1) (R.getD w.fr [])) = List.map vi ((R.getD w.fr []).set w.to (at2 R w.fr w.to + w.most)) := by
   rw [List.set_eq_take_append_cons_drop, if_pos (by rw [hsq.rowlen hww.fr]; exact hww.to)]
   simp
  have st : ∀ L, (FA M.H i R ++ L).set (M.H.length + (2 + w.fr)) (.obj (List.map vi ((R.getD w.fr []).set w.to (at2 R w.fr w.to + w.most)))) = FA M.H i (add2 R w) ++ L := fun L => by
   rw [List.set_append_left _ _ (by rw [FA_len]; have := hww.fr; omega), ← Nat.add_assoc, FA_set]
   rfl
  ((repeat refine Ws ?_);refine W_block ?_)
  (repeat refine Ws ?_)
  refine W_drawP T_ok [] (by kernel_rfl) (by kernel_rfl) ?_
  generalize hi : mkPlan _ = infs
  cbv at hi
  subst hi
  simp (maxSteps := 1000000) only [VL,VM,↓VG,reduceIte,reduceCtorEq,zA,zB,zC,zD,zE,zF,zG,zH,zI,zJ, hf1, hf0, hfr, hto, hrw, hgr, hcell, k3, e1, sp, st]
  rw [hnx]
 ·intro o s hs
  subst hs
  simp only [thenQ, blockQ]
  ((repeat refine Ws ?_);refine Wr ?_)
  simp (maxSteps := 1000000) only [VL,VM,↓VG,reduceIte,reduceCtorEq,zA,zB,zC,zD,zE,zF,zG,zH,zI,zJ]
  rw [List.take_length]
  have hsq := tabW_ok _ ws rfl hws
  have hlw : (ws.length : Int) ≤ 1000 := by omega
  generalize tabOfW i ws = C at hsq
  obtain ⟨hsq, hcb⟩ := hsq
  have hCl : C.length = i := hsq.1
  clear htl
  obtain ⟨B, hB⟩ : ∃ B, B = M.H.length + 2 + i := ⟨_, rfl⟩
  have hzl : (FA M.H i (zeros2 i)).length = B := by rw [FA_len]; simp [zeros2, hB]
  have hFl : ∀ R : List (List Int), R.length = i → (FA M.H i R).length = B := fun R h => by rw [FA_len, h, hB]
  rw [hzl]
  have hg : ∀ (R : List (List Int)) (L : List VObj) k, R.length = i → (FA M.H i R ++ L)[B + k]? = L[k]? := fun R L k h => by
   rw [← hFl R h, List.getElem?_append_right (by omega), Nat.add_sub_cancel_left]
  have hst : ∀ (R : List (List Int)) (L : List VObj) k x, R.length = i → (FA M.H i R ++ L).set (B + k) x = FA M.H i R ++ L.set k x := fun R L k x h => by
   rw [← hFl R h, List.set_append_right _ _ (by omega), Nat.add_sub_cancel_left]
  ((repeat refine Ws ?_);refine Wr ?_)
  simp (maxSteps := 1000000) only [VL,VM,↓VG,reduceIte,reduceCtorEq,zA,zB,zC,zD,zE,zF,zG,zH,zI,zJ, hFl C hCl, hg _ _ _ hCl, hst _ _ _ _ hCl]
  ((repeat refine Ws ?_);refine W_block ?_; (repeat refine Ws ?_)); refine W_loopS (fun s : FcSt => [(0, vi i), (4, vi 0), (6, .ptr (M.H.length + 1) 0), (9, vi s.v), (10, .ptr (B + s.sl) 0)]) (fun s => ⟨FA M.H i s.R ++ s.L, M.lg ++ s.X⟩) (fun s => s.q) (fun s => Go.Proofs.YtekhddlngbppkaaDoor.Res i C s.R s.v ∧ Sq i s.R ∧ s.q ≤ 1073741824 ∧ s.L[s.sl]? = some (.obj [vi s.q]) ∧ s.L[0]? = some .dfr ∧ (∀ e ∈ s.X, M.H.length ≤ e.1) ∧ (s.q = 0 → MF i C s.v)) ⟨C, 1073741824, 2, [.dfr, o, .obj [vi 1073741824]], X, 0⟩ ?_ ⟨rfl, rfl, rfl, rfl, rfl, trivial⟩ rfl ?_
  ·exact ⟨Go.Proofs.YtekhddlngbppkaaDoor.Res.start fun a b _ _ => (hcb a b).1, hsq, by simp, rfl, rfl, hX, fun h => by simp at h⟩
  rintro ⟨R, q, sl, L, X, v⟩ ⟨g1, g2, g3, g4, g5, g6, g7⟩
  simp only at g1 g2 g3 g4 g5 g6 g7
  have hRl : R.length = i := g2.1
  ((repeat refine Ws ?_);refine Wr ?_)
  simp (maxSteps := 1000000) only [VL,VM,↓VG,reduceIte,reduceCtorEq,zA,zB,zC,zD,zE,zF,zG,zH,zI,zJ, hg _ _ _ hRl, g4]
  rcases Nat.eq_zero_or_pos q with hq0 | hq0
  ·have k2 : ((0 : Int) < (q : Int)) = False := eq_false (by omega)
   simp (maxSteps := 1000000) only [VL,VM,↓VG,reduceIte,reduceCtorEq,zA,zB,zC,zD,zE,zF,zG,zH,zI,zJ, k2]
   ((repeat refine Ws ?_);refine Wf (by first|rfl|simp only [EV,zF,reduceIte]) ?_)
   ((repeat refine Ws ?_);refine W_exit ?_)
   simp (maxSteps := 1000000) only [VL,VM,↓VG,reduceIte,reduceCtorEq,zA,zB,zC,zD,zE,zF,zG,zH,zI,zJ]
   have hf1 : ∀ R L, (FA M.H i R ++ L)[M.H.length + 1]? = some (.obj [.bf M.H.length 0 i 1]) := fun R L => by
    rw [List.getElem?_append_left (by rw [FA_len]; omega)]; exact FA_1
   (repeat refine Ws ?_)
   refine W_drawP T_ok [] (by kernel_rfl) (by kernel_rfl) ?_
   generalize hi : mkPlan _ = infs
   cbv at hi
   subst hi
   simp (maxSteps := 1000000) only [VL,VM,↓VG,reduceIte,reduceCtorEq,zA,zB,zC,zD,zE,zF,zG,zH,zI,zJ, hf1]
   (repeat refine Ws ?_)
   refine W_ret ?_
   try simp only [thenQ, blockQ]
   have hf0 : ∀ R L, (FA M.H i R ++ L)[M.H.length]? = some (.obj ((List.range i).map fun j => .bf (M.H.length + 2 + j) 0 i 1)) := fun R L => by
    rw [List.getElem?_append_left (by rw [FA_len]; omega)]; exact FA_0
   refine ⟨.inr trivial, FA M.H i R ++ L.set 0 .dead, ?_, [vi v, .bf M.H.length 0 i 1], rfl, ⟨M.H.length, ?_, Nat.le_refl _⟩, .bf M.H.length 0 i 1, (FA M.H i R ++ L.set 0 .dead).drop M.H.length, X, ?_, ?_, g6⟩
   ·have h0 := hg R L 0 hRl
    rw [Nat.add_zero, g5] at h0
    have h1 := hst R L 0 .dead hRl
    rw [Nat.add_zero] at h1
    simp only [vkill, h0, h1]
    rw [show Nat.ble M.H.length B = true from Nat.ble_eq_true_of_le (by omega)]
    rfl
   ·have hfz : frz M.H.length (FA M.H i R ++ L.set 0 .dead) (.bf M.H.length 0 i 1) = .bf M.H.length 0 i 1 := by
     have hnone : toPss (chunksOf ((List.range i).map fun j => VV.bf (M.H.length + 2 + j) 0 i 1) 1 0 i) = none := by
      obtain ⟨j, rfl⟩ : ∃ j, i = j + 1 := ⟨i - 1, by omega⟩
      rw [List.range_succ_eq_map]
      rfl
     simp only [frz, hf0, hnone]
     cases Nat.ble M.H.length M.H.length <;> cases Nat.ble (0 + i * 1) ((List.range i).map fun j => VV.bf (M.H.length + 2 + j) 0 i 1).length <;> rfl
    have hft : frz M.H.length (FA M.H i R ++ L.set 0 .dead) (vtup [vi v, .bf M.H.length 0 i 1]) = .tup [vi v, frz M.H.length (FA M.H i R ++ L.set 0 .dead) (.bf M.H.length 0 i 1)] := by
     simp only [vtup, frz, frzL]
    rw [hft, hfz]
    simp [refs, refsL]
   ·rw [mfv_eq hN (g7 hq0)]
    rfl
   ·have hd : M.H ++ (FA M.H i R ++ L.set 0 .dead).drop M.H.length = FA M.H i R ++ L.set 0 .dead := by
     unfold FA
     rw [List.append_assoc, List.drop_left]
    rw [hd]
  have k2 : ((0 : Int) < (q : Int)) = True := eq_true (by omega)
  simp (maxSteps := 1000000) only [VL,VM,↓VG,reduceIte,reduceCtorEq,zA,zB,zC,zD,zE,zF,zG,zH,zI,zJ, k2]
  ((repeat refine Ws ?_);refine Wt (by first|rfl|simp only [EV,zF,reduceIte]) ?_)
  ((repeat refine Ws ?_);refine W_skip ?_)
  simp (maxSteps := 1000000) only [VL,VM,↓VG,reduceIte,reduceCtorEq,zA,zB,zC,zD,zE,zF,zG,zH,zI,zJ]
  ((repeat refine Ws ?_);refine W_block ?_)
  ((repeat refine Ws ?_);refine W_block ?_; (repeat refine Ws ?_)); refine W_loopS (fun s : FcSt => [(0, vi i), (4, vi 0), (6, .ptr (M.H.length + 1) 0), (9, vi s.v), (10, .ptr (B + sl) 0)]) (fun s => ⟨FA M.H i s.R ++ s.L, M.lg ++ s.X⟩) (fun s => (sumTo i (at2 s.R 0)).toNat) (fun s => Go.Proofs.YtekhddlngbppkaaDoor.Res i C s.R s.v ∧ Sq i s.R ∧ s.L[sl]? = some (.obj [vi q]) ∧ s.L[0]? = some .dfr ∧ (∀ e ∈ s.X, M.H.length ≤ e.1)) ⟨R, q, sl, L, X, v⟩ ⟨g1, g2, g4, g5, g6⟩ ⟨rfl, rfl, rfl, rfl, rfl, trivial⟩ rfl ?_
  clear g1 g2 g4 g5 g6 g7 hRl
  rintro ⟨R, q', sl', L, X, v⟩ ⟨g1, g2, g4, g5, g6⟩
  simp only at g1 g2 g4 g5 g6
  have hRl : R.length = i := g2.1
  ((repeat refine Ws ?_);refine W_block ?_)
  ((repeat refine Ws ?_);refine Wr ?_)
  have q4 : (i ≤ 140737488355328) = True := eq_true (by omega)
  simp (maxSteps := 1000000) only [VL,VM,↓VG,reduceIte,reduceCtorEq,zA,zB,zC,zD,zE,zF,zG,zH,zI,zJ, q2, q4, rep_flat, hFl _ hRl, hg _ _ _ hRl, hst _ _ _ _ hRl]
  ((repeat refine Ws ?_);refine Wr ?_)
  simp (maxSteps := 1000000) only [VL,VM,↓VG,reduceIte,reduceCtorEq,zA,zB,zC,zD,zE,zF,zG,zH,zI,zJ, hFl _ hRl, hg _ _ _ hRl, hst _ _ _ _ hRl]
  ((repeat refine Ws ?_);refine Wr ?_)
  simp (maxSteps := 1000000) only [VL,VM,↓VG,reduceIte,reduceCtorEq,zA,zB,zC,zD,zE,zF,zG,zH,zI,zJ, hFl _ hRl, hg _ _ _ hRl, hst _ _ _ _ hRl]
  ((repeat refine Ws ?_);refine Wr ?_)
  simp (maxSteps := 1000000) only [VL,VM,↓VG,reduceIte,reduceCtorEq,zA,zB,zC,zD,zE,zF,zG,zH,zI,zJ, hFl _ hRl, hg _ _ _ hRl, hst _ _ _ _ hRl]
  obtain ⟨Y1, y1, y2⟩ := addLg_Y (B + (L.length + 1)) [B + L.length] (M.lg ++ X)
  rw [y1]
  obtain ⟨Y2, y3, y4⟩ := addLg_Y (B + (L.length + 2)) [B + (L.length + 1), M.H.length + 1, B + sl, B + (L.length + 2)] (M.lg ++ X ++ Y1)
  rw [y3]
  have hsl : sl < L.length := by
   rcases Nat.lt_or_ge sl L.length with h | h
   ·exact h
   ·rw [List.getElem?_eq_none h] at g4; cases g4
  obtain ⟨met, hmet⟩ : ∃ met, met = List.replicate i false := ⟨_, rfl⟩
  have hmf : ∀ a, mt met a = false := fun a => by
   subst hmet
   unfold mt
   rw [List.getD_eq_getElem?_getD, List.getElem?_replicate]
   split <;> rfl
  have hml : met.length = i := by rw [hmet, List.length_replicate]
  have hmm : List.replicate i (VV.p (PV.bool false)) = met.map vb := by rw [hmet, List.map_replicate]
  rw [hmm]
  obtain ⟨L2, hL2⟩ : ∃ L2, L2 = L ++ [VObj.obj (met.map vb), .obj [.bf (B + L.length) 0 i 1], .obj [.fn (Fn.func 50) [] [.ptr (B + (L.length + 1)) 0, .ptr (M.H.length + 1) 0, .ptr (B + sl) 0, .ptr (B + (L.length + 2)) 0]]] := ⟨_, rfl⟩
  rw [← hL2]
  have l20 : L2[0]? = some .dfr := by rw [hL2, List.getElem?_append_left (by omega)]; exact g5
  have l2s : L2[sl]? = some (.obj [vi q]) := by rw [hL2, List.getElem?_append_left hsl]; exact g4
  have l2n : L2.length = L.length + 3 := by rw [hL2]; simp
  have hHF : ∀ (R' : List (List Int)) (met' : List Bool), R'.length = i → HF (FA M.H i R ++ L2) (M.H.length + 2) (B + L.length) R' met' = FA M.H i R' ++ L2.set L.length (.obj (met'.map vb)) := fun R' met' h => by
   rw [hB]
   exact HF_FA L.length hRl h
  have hself : FA M.H i R ++ L2 = HF (FA M.H i R ++ L2) (M.H.length + 2) (B + L.length) R met := by
   rw [hHF R met hRl, hL2, List.set_append_right _ _ (Nat.le_refl _), Nat.sub_self]
   rfl
  have PQ : PM (FA M.H i R ++ L2) i (B + (L.length + 1)) (M.H.length + 1) (B + sl) (B + (L.length + 2)) M.H.length (M.H.length + 2) (B + L.length) q := by
   refine ⟨?_, ?_, ?_, ?_, ?_, ?_, ?_, ?_, ?_, ?_, ?_, ?_, ?_⟩
   ·rw [hg _ _ _ hRl, hL2, List.getElem?_append_right (by omega)]; simp
   ·rw [List.getElem?_append_left (by rw [FA_len]; omega)]; exact FA_1
   ·rw [hg _ _ _ hRl]; exact l2s
   ·rw [hg _ _ _ hRl, hL2, List.getElem?_append_right (by omega)]; simp
   ·rw [List.getElem?_append_left (by rw [FA_len]; omega)]; exact FA_0
   ·rw [List.length_append, hFl R hRl]; omega
   ·rw [List.length_append, hFl R hRl]; omega
   all_goals omega
  have hpv := push_v PQ hN (by omega) (by omega) (M.lg ++ X ++ Y1 ++ Y2) _ R met 0 1073741824 (Nat.le_refl _) g2 hml (by omega) (hmf 0) (hmf 1) (by omega) (by omega) g1.nn (fun a b ha hb => by
   have h1 := g1.sk a b ha hb
   have h2 := hcb a b
   have h3 := hcb b a
   omega)
  rw [← hself] at hpv
  refine VCall_fn T_ok (f := 50) (fn := Tryd.f50) (by kernel_rfl) ?_
  refine VC.mono (show VC Tryd.prog 50 ((([] : List VV) ++ [vi (0 : Nat), vi 1073741824] ++ [VV.ptr (B + (L.length + 1)) 0, VV.ptr (M.H.length + 1) 0, VV.ptr (B + sl) 0, VV.ptr (B + (L.length + 2)) 0]).map (sarg T 50)) _ _ from hpv) ?_
  rintro _ _ ⟨k, R', met', rfl, rfl, D⟩
  simp (maxSteps := 1000000) only [VL,VM,↓VG,reduceIte,reduceCtorEq,zA,zB,zC,zD,zE,zF,zG,zH,zI,zJ]
  have hR'l : R'.length = i := by
   by_cases hk : k = 0
   ·rw [(D.zero hk).1]; exact hRl
   ·exact (D.pos hk).2.1.sq.1
  rw [hHF R' met' hR'l]
  have h0l : L.length ≠ 0 := by omega
  obtain ⟨L3, hL3⟩ : ∃ L3, L3 = L2.set L.length (.obj (met'.map vb)) := ⟨_, rfl⟩
  have l30 : L3[0]? = some .dfr := by rw [hL3, List.getElem?_set_ne h0l]; exact l20
  have l3s : L3[sl]? = some (.obj [vi q]) := by rw [hL3, List.getElem?_set_ne (by omega)]; exact l2s
  rw [← hL3]
  have hX3 : ∀ e ∈ X ++ Y1 ++ Y2, M.H.length ≤ e.1 := fun e he => by
   rcases List.mem_append.1 he with he | he
   ·rcases List.mem_append.1 he with he | he
    ·exact g6 e he
    ·have := (y2 e he).1; omega
   ·have := (y4 e he).1; omega
  rw [List.append_assoc] at hX3
  generalize X ++ (Y1 ++ Y2) = X3 at hX3
  have dk := D.k0
  ((repeat refine Ws ?_);refine Wr ?_)
  by_cases hk : k = 0
  rotate_left
  ·obtain ⟨d1, d2, d3⟩ := D.pos hk
   have k3 : (k = 0) = False := eq_false hk
   have hres := Aug.res g1 hN d2
   have hb1 := res_bd g1 hN hcb
   have hb2 := res_bd hres hN hcb
   have hK : (i : Int) * (1073741824 * (ws.length : Int)) ≤ 100000 * (1073741824 * 1000) := Int.mul_le_mul (by omega) (by omega) (by omega) (by omega)
   have k4 : -9223372036854775808 ≤ v + k ∧ v + k < 9223372036854775808 := by omega
   simp (maxSteps := 1000000) only [VL,VM,↓VG,reduceIte,reduceCtorEq,zA,zB,zC,zD,zE,zF,zG,zH,zI,zJ, k3]
   ((repeat refine Ws ?_);refine Wf (by first|rfl|simp only [EV,zF,reduceIte]) ?_)
   ((repeat refine Ws ?_);refine W_skip ?_)
   simp (maxSteps := 1000000) only [VL,VM,↓VG,reduceIte,reduceCtorEq,zA,zB,zC,zD,zE,zF,zG,zH,zI,zJ]
   ((repeat refine Ws ?_);refine Wr ?_)
   simp (maxSteps := 1000000) only [VL,VM,↓VG,reduceIte,reduceCtorEq,zA,zB,zC,zD,zE,zF,zG,zH,zI,zJ, k4]
   refine LoopK.mk ⟨R', q, sl, L3, X3, v + k⟩ ?_ ⟨hres, d2.sq, l3s, l30, hX3⟩ ⟨rfl, rfl, rfl, rfl, rfl, trivial⟩ rfl
   have e1 := d2.sum 0 (by omega) (by omega)
   rw [if_pos rfl] at e1
   have e2 : (0 : Int) ≤ sumTo i (at2 R' 0) := by
    have := sumTo_le (n := i) (f := fun _ => 0) (g := at2 R' 0) fun j hj => d2.nn 0 j (by omega) hj
    rwa [sumTo_const0] at this
   simp only
   omega
  have k3 : (k = 0) = True := eq_true hk
  obtain ⟨rfl, d1, d2⟩ := D.zero hk
  simp (maxSteps := 1000000) only [VL,VM,↓VG,reduceIte,reduceCtorEq,zA,zB,zC,zD,zE,zF,zG,zH,zI,zJ, k3]
  ((repeat refine Ws ?_);refine Wt (by first|rfl|simp only [EV,zF,reduceIte]) ?_)
  ((repeat refine Ws ?_);refine W_exit ?_)
  simp (maxSteps := 1000000) only [VL,VM,↓VG,reduceIte,reduceCtorEq,zA,zB,zC,zD,zE,zF,zG,zH,zI,zJ]
  ((repeat refine Ws ?_);refine Wr ?_)
  simp (maxSteps := 1000000) only [VL,VM,↓VG,reduceIte,reduceCtorEq,zA,zB,zC,zD,zE,zF,zG,zH,zI,zJ, hFl _ hRl, hg _ _ _ hRl, hst _ _ _ _ hRl, l3s]
  ((repeat refine Ws ?_);refine Wr ?_)
  simp (maxSteps := 1000000) only [VL,VM,↓VG,reduceIte,reduceCtorEq,zA,zB,zC,zD,zE,zF,zG,zH,zI,zJ, hFl _ hRl, hg _ _ _ hRl, hst _ _ _ _ hRl, l3s]
  ((repeat refine Ws ?_);refine Wr ?_)
  simp (maxSteps := 1000000) only [VL,VM,↓VG,reduceIte,reduceCtorEq,zA,zB,zC,zD,zE,zF,zG,zH,zI,zJ, hFl _ hRl, hg _ _ _ hRl, hst _ _ _ _ hRl, l3s, i_shr1]
  refine LoopK.mk ⟨R', q / 2, L3.length, L3 ++ [.obj [vi ((q / 2 : Nat) : Int)]], X3, v⟩ (by simp only; omega) ⟨g1, g2, by simp only; omega, by simp, ?_, hX3, fun hz => ?_⟩ ⟨rfl, rfl, rfl, rfl, rfl, trivial⟩ ?_
  ·simp only
   have : 0 < L3.length := by rw [hL3, List.length_set]; omega
   rw [List.getElem?_append_left this]; exact l30
  ·simp only at hz ⊢
   have hm1 : mt met' 1 = false := by rw [D.one]; exact hmf 1
   refine Go.Proofs.YtekhddlngbppkaaDoor.Res.max g1 hN d1 hm1 fun a b ha hb h1 h2 => ?_
   have := d2 a b ha hb h1 (hmf a) h2
   omega
  ·try simp
end Go.Proofs.YtekhddlngbppkaaDoor.Vm

/- Kitchens, plain: errors, the ways of portions, and how they are served. -/
namespace Go.Proofs.YtekhddlngbppkaaDoor
def giErr (n : Nat) (x : Gi) : Int := if inR x.from_ 0 ((n : Int) - 1) && inR x.keeps 0 ((n : Int) - 1) then (if x.keeps < x.from_ then 5 else if inR x.portions 0 10000 then 0 else 1) else 3
def giftsErr (n : Nat) : List Gi → Int
 | [] => 0
 | x :: xs => if giErr n x = 0 then giftsErr n xs else giErr n x
def kitErr (k : Kn) : Int := if 5 < k.meals.length then 6 else if k.meals.all (fun n => inR n 0 10000) then (if 5 < k.gifts.length then 6 else giftsErr k.meals.length k.gifts) else 1
structure GiV (n : Nat) (x : Gi) : Prop where
 f0 : 0 ≤ x.from_
 fk : x.from_ ≤ x.keeps
 k1 : x.keeps < n
 p0 : 0 ≤ x.portions
 p1 : x.portions ≤ 10000
theorem giErr_ok {n : Nat} {x : Gi} : giErr n x = 0 ↔ GiV n x := by
 unfold giErr
 constructor
 ·intro h
  split at h
  ·rename_i h1
   simp only [Bool.and_eq_true, inR_true] at h1
   split at h
   ·simp at h
   ·split at h
    ·rename_i h2
     rw [inR_true] at h2
     exact ⟨by omega, by omega, by omega, by omega, by omega⟩
    ·simp at h
  ·simp at h
 ·rintro ⟨f0, fk, k1, p0, p1⟩
  rw [if_pos (by simp only [Bool.and_eq_true, inR_true]; omega), if_neg (by omega), if_pos (by rw [inR_true]; omega)]
theorem giftsErr_ok {n : Nat} : ∀ {xs : List Gi}, giftsErr n xs = 0 ↔ ∀ x ∈ xs, GiV n x
 | [] => by simp [giftsErr]
 | x :: xs => by
  rw [giftsErr]
  by_cases h : giErr n x = 0
  ·rw [if_pos h, giftsErr_ok (xs := xs)]
   simp [giErr_ok.1 h]
  ·rw [if_neg h]
   constructor
   ·intro h2; exact absurd h2 h
   ·intro h2; exact absurd (giErr_ok.2 (h2 x (by simp))) h
structure KV (k : Kn) : Prop where
 m1 : k.meals.length ≤ 5
 meals : ∀ n ∈ k.meals, 0 ≤ n ∧ n ≤ 10000
 g1 : k.gifts.length ≤ 5
 gifts : ∀ x ∈ k.gifts, GiV k.meals.length x
theorem kitErr_ok {k : Kn} : kitErr k = 0 ↔ KV k := by
 unfold kitErr
 constructor
 ·intro e
  split at e
  ·simp at e
  ·split at e
   ·rename_i h1
    split at e
    ·simp at e
    ·refine ⟨by omega, fun n hn => ?_, by omega, giftsErr_ok.1 e⟩
     have := List.all_eq_true.1 h1 n hn
     rwa [inR_true] at this
   ·simp at e
 ·rintro ⟨m1, meals, g1, gifts⟩
  rw [if_neg (by omega), if_pos (List.all_eq_true.2 fun n hn => by rw [inR_true]; exact meals n hn), if_neg (by omega)]
  exact giftsErr_ok.2 gifts
theorem giftsErr_drop {n : Nat} {ds : List Gi} {i : Nat} {d : Gi} (hx : ds[i]? = some d) (h : giftsErr n ds = giftsErr n (ds.drop i)) : giftsErr n ds = if giErr n d = 0 then giftsErr n (ds.drop (i + 1)) else giErr n d := by
 obtain ⟨hlt, hd⟩ := List.getElem?_eq_some_iff.1 hx
 rw [h, List.drop_eq_getElem_cons hlt, hd, giftsErr]
def goneT (S : List (List Int)) (g : Nat) (n : Nat) : Int := sumTo n fun m => at2 S m g
def eatenT (S : List (List Int)) (m : Nat) (n : Nat) : Int := sumTo n fun g => at2 S m g
def giftWs (nM nG : Nat) (S : List (List Int)) (room : Nat → Nat → Int) (g : Nat) (x : Gi) : List Wa :=
 ⟨0, 2 + g, x.portions - goneT S g nM⟩ :: (List.range' x.from_.toNat (x.keeps.toNat + 1 - x.from_.toNat)).map fun m => ⟨2 + g, 2 + nG + m, room m g⟩
def giftsWs (nM nG : Nat) (S : List (List Int)) (room : Nat → Nat → Int) : Nat → List Gi → List Wa
 | _, [] => []
 | g, x :: xs => giftWs nM nG S room g x ++ giftsWs nM nG S room (g + 1) xs
def mealsWs (nG : Nat) (S : List (List Int)) : Nat → List Int → List Wa
 | _, [] => []
 | m, n :: l => ⟨2 + nG + m, 1, n - eatenT S m nG⟩ :: mealsWs nG S (m + 1) l
def tabWs (k : Kn) (S : List (List Int)) (room : Nat → Nat → Int) : List Wa := giftsWs k.meals.length k.gifts.length S room 0 k.gifts ++ mealsWs k.gifts.length S 0 k.meals
def roomOf (meal gift : Int) (m g : Nat) : Int := if (m : Int) < meal ∨ (m : Int) = meal ∧ (g : Int) ≤ gift then 0 else 1073741824
noncomputable def fedV (k : Kn) (S : List (List Int)) (meal gift : Int) : Int := mfv (2 + k.gifts.length + k.meals.length) (tabOfW (2 + k.gifts.length + k.meals.length) (tabWs k S (roomOf meal gift)))
structure Srv (k : Kn) (S : List (List Int)) : Prop where
 len : S.length = k.meals.length
 row : ∀ r ∈ S, r.length = k.gifts.length
 nn : ∀ m g, 0 ≤ at2 S m g
 hi : ∀ m g, at2 S m g ≤ 10000
def giAt (k : Kn) (g : Nat) : Gi := k.gifts.getD g ⟨0, 0, 0⟩
def mealAt (k : Kn) (m : Nat) : Int := k.meals.getD m 0
def Fits (k : Kn) (S : List (List Int)) : Prop := (∀ g, g < k.gifts.length → goneT S g k.meals.length ≤ (giAt k g).portions) ∧ ∀ m, m < k.meals.length → eatenT S m k.gifts.length ≤ mealAt k m
def fitsB (k : Kn) (S : List (List Int)) (m g : Nat) : Bool := decide (goneT S g k.meals.length ≤ (giAt k g).portions) && decide (eatenT S m k.gifts.length ≤ mealAt k m)
theorem sumTo_bd {n : Nat} {f : Nat → Int} {a b : Int} (h : ∀ i, i < n → a ≤ f i ∧ f i ≤ b) : (n : Int) * a ≤ sumTo n f ∧ sumTo n f ≤ (n : Int) * b := by
 induction n with
 | zero => simp [sumTo_zero]
 | succ n ih =>
  have h1 := ih fun i hi => h i (by omega)
  have h2 := h n (by omega)
  rw [sumTo_succ]
  push_cast
  rw [Int.add_mul, Int.add_mul, Int.one_mul, Int.one_mul]
  omega
theorem Srv.gone {k : Kn} {S : List (List Int)} (h : Srv k S) (g n : Nat) : 0 ≤ goneT S g n ∧ goneT S g n ≤ (n : Int) * 10000 := by
 have := sumTo_bd (n := n) (f := fun m => at2 S m g) (a := 0) (b := 10000) fun i _ => ⟨h.nn i g, h.hi i g⟩
 simpa [goneT] using this
theorem Srv.eaten {k : Kn} {S : List (List Int)} (h : Srv k S) (m n : Nat) : 0 ≤ eatenT S m n ∧ eatenT S m n ≤ (n : Int) * 10000 := by
 have := sumTo_bd (n := n) (f := fun g => at2 S m g) (a := 0) (b := 10000) fun i _ => ⟨h.nn m i, h.hi m i⟩
 simpa [eatenT] using this
theorem mealsWs_ok {nG nM : Nat} {S : List (List Int)} : ∀ (l : List Int) (m : Nat), m + l.length ≤ nM → (∀ j, j < l.length → 0 ≤ l.getD j 0 - eatenT S (m + j) nG ∧ l.getD j 0 - eatenT S (m + j) nG ≤ 1073741824) → ∀ w ∈ mealsWs nG S m l, WaOk (2 + nG + nM) w
 | [], _, _, _, w, hw => by cases hw
 | n :: l, m, hm, h, w, hw => by
  rw [mealsWs] at hw
  rw [List.length_cons] at hm
  rcases List.mem_cons.1 hw with rfl | hw
  ·have := h 0 (by simp)
   simp only [List.getD_cons_zero, Nat.add_zero] at this
   exact ⟨by simp only; omega, by simp only; omega, this.1, this.2⟩
  ·refine mealsWs_ok l (m + 1) (by omega) (fun j hj => ?_) w hw
   have := h (j + 1) (by simp; omega)
   simpa [Nat.add_assoc, Nat.add_comm 1 j] using this
theorem giftsWs_ok {nG nM : Nat} {S : List (List Int)} {room : Nat → Nat → Int} (hr : ∀ m g, 0 ≤ room m g ∧ room m g ≤ 1073741824) : ∀ (l : List Gi) (g : Nat), g + l.length ≤ nG → (∀ x ∈ l, GiV nM x) → (∀ j, j < l.length → goneT S (g + j) nM ≤ (l.getD j ⟨0, 0, 0⟩).portions ∧ 0 ≤ goneT S (g + j) nM) → ∀ w ∈ giftsWs nM nG S room g l, WaOk (2 + nG + nM) w
 | [], _, _, _, _, w, hw => by cases hw
 | x :: l, g, hg, hv, h, w, hw => by
  rw [giftsWs] at hw
  rw [List.length_cons] at hg
  have hx := hv x (by simp)
  obtain ⟨f0, fk, k1, p0, p1⟩ := hx
  rcases List.mem_append.1 hw with hw | hw
  ·unfold giftWs at hw
   rcases List.mem_cons.1 hw with rfl | hw
   ·have := h 0 (by simp)
    simp only [List.getD_cons_zero, Nat.add_zero] at this
    exact ⟨by simp only; omega, by simp only; omega, by simp only; omega, by simp only; omega⟩
   ·obtain ⟨m, hm, rfl⟩ := List.mem_map.1 hw
    rw [List.mem_range'_1] at hm
    have := hr m g
    exact ⟨by simp only; omega, by simp only; omega, this.1, this.2⟩
  ·refine giftsWs_ok hr l (g + 1) (by omega) (fun y hy => hv y (by simp [hy])) (fun j hj => ?_) w hw
   have := h (j + 1) (by simp; omega)
   simpa [Nat.add_assoc, Nat.add_comm 1 j] using this
theorem tabWs_ok {k : Kn} {S : List (List Int)} {room : Nat → Nat → Int} (V : KV k) (H : Srv k S) (F : Fits k S) (hr : ∀ m g, 0 ≤ room m g ∧ room m g ≤ 1073741824) : ∀ w ∈ tabWs k S room, WaOk (2 + k.gifts.length + k.meals.length) w := by
 intro w hw
 rcases List.mem_append.1 hw with hw | hw
 ·refine giftsWs_ok hr k.gifts 0 (by omega) V.gifts (fun j hj => ?_) w hw
  rw [Nat.zero_add]
  exact ⟨F.1 j hj, (H.gone j _).1⟩
 ·refine mealsWs_ok k.meals 0 (by omega) (fun j hj => ?_) w hw
  rw [Nat.zero_add]
  have h1 := F.2 j hj
  have h2 := (H.eaten j k.gifts.length).1
  have h3 : k.meals.getD j 0 ≤ 10000 := by
   rw [List.getD_eq_getElem?_getD, List.getElem?_eq_getElem hj]
   exact (V.meals _ (List.getElem_mem hj)).2
  unfold mealAt at h1
  omega
theorem tabWs_len {k : Kn} {S : List (List Int)} {room : Nat → Nat → Int} (V : KV k) : (tabWs k S room).length ≤ 1000 := by
 have h1 : ∀ (l : List Int) (m : Nat), (mealsWs k.gifts.length S m l).length = l.length := by
  intro l
  induction l with
  | nil => intro m; rfl
  | cons n l ih => intro m; rw [mealsWs, List.length_cons, List.length_cons, ih]
 have h2 : ∀ (l : List Gi) (g : Nat), (∀ x ∈ l, GiV k.meals.length x) → (giftsWs k.meals.length k.gifts.length S room g l).length ≤ 6 * l.length := by
  intro l
  induction l with
  | nil => intro g _; simp [giftsWs]
  | cons x l ih =>
   intro g hv
   have h3 := ih (g + 1) fun y hy => hv y (by simp [hy])
   have h4 := (hv x (by simp)).k1
   have h5 := V.m1
   rw [giftsWs, List.length_append, List.length_cons]
   unfold giftWs
   rw [List.length_cons, List.length_map, List.length_range']
   omega
 have h3 := h2 k.gifts 0 V.gifts
 have h4 := V.g1
 have h5 := V.m1
 unfold tabWs
 rw [List.length_append, h1]
 omega
end Go.Proofs.YtekhddlngbppkaaDoor

/- The ways of people through time, plain. -/
namespace Go.Proofs.YtekhddlngbppkaaDoor
def placeOf (nH : Nat) (hall : Int) (t : Nat) : Nat := if hall = -1 then 1 else 2 + t * nH + hall.toNat
def startWs (nH : Nat) (come : Nat → Int) : List Wa := (List.range nH).map fun i : Nat => ⟨0, placeOf nH (i : Int) 0, come i⟩
def stayWs (nH t : Nat) : List Wa := (List.range nH).map fun i : Nat => ⟨placeOf nH (i : Int) t, placeOf nH (i : Int) (t + 1), 1073741824⟩
def doorWs (nH t : Nat) (d : Do) : List Wa := (if d.a = -1 then [] else [⟨placeOf nH d.a t, placeOf nH d.b (t + 1), d.flow⟩]) ++ (if d.b = -1 then [] else [⟨placeOf nH d.b t, placeOf nH d.a (t + 1), d.flow⟩])
def doorsWs (nH t : Nat) (closed : List Int) : Nat → List Do → List Wa
 | _, [] => []
 | i, d :: ds => (if closed.contains (i : Int) then [] else doorWs nH t d) ++ doorsWs nH t closed (i + 1) ds
def tickWs (nH : Nat) (ds : List Do) (closed : List Int) (t : Nat) : List Wa := stayWs nH t ++ doorsWs nH t closed 0 ds
def waysOf (nH : Nat) (ds : List Do) (ticks : Nat) (closed : List Int) (come : Nat → Int) : List Wa := startWs nH come ++ (List.range ticks).flatMap (tickWs nH ds closed)
structure DoOk (nH : Nat) (d : Do) : Prop where
 a0 : -1 ≤ d.a
 a1 : d.a < nH
 b0 : -1 ≤ d.b
 b1 : d.b < nH
 f0 : 0 ≤ d.flow
 f1 : d.flow ≤ 1073741824
theorem placeOf_lt {nH ticks t : Nat} {hall : Int} (h : hall < nH) (ht : t ≤ ticks) (h0 : -1 ≤ hall) : placeOf nH hall t < 2 + (ticks + 1) * nH := by
 unfold placeOf
 split
 ·omega
 ·have h1 : t * nH ≤ ticks * nH := Nat.mul_le_mul_right nH ht
  have h2 : (ticks + 1) * nH = ticks * nH + nH := by rw [Nat.add_mul, Nat.one_mul]
  omega
theorem doorWs_ok {nH ticks t : Nat} {d : Do} (hd : DoOk nH d) (ht : t < ticks) : ∀ w ∈ doorWs nH t d, WaOk (2 + (ticks + 1) * nH) w := by
 intro w hw
 unfold doorWs at hw
 rcases List.mem_append.1 hw with hw | hw
 ·split at hw
  ·cases hw
  ·rw [List.mem_singleton] at hw
   subst hw
   exact ⟨placeOf_lt hd.a1 (by omega) hd.a0, placeOf_lt hd.b1 (by omega) hd.b0, hd.f0, hd.f1⟩
 ·split at hw
  ·cases hw
  ·rw [List.mem_singleton] at hw
   subst hw
   exact ⟨placeOf_lt hd.b1 (by omega) hd.b0, placeOf_lt hd.a1 (by omega) hd.a0, hd.f0, hd.f1⟩
theorem doorsWs_ok {nH ticks t : Nat} {closed : List Int} (ht : t < ticks) : ∀ (ds : List Do) (i : Nat), (∀ d ∈ ds, DoOk nH d) → ∀ w ∈ doorsWs nH t closed i ds, WaOk (2 + (ticks + 1) * nH) w
 | [], _, _, w, hw => by cases hw
 | d :: ds, i, h, w, hw => by
  rw [doorsWs] at hw
  rcases List.mem_append.1 hw with hw | hw
  ·split at hw
   ·cases hw
   ·exact doorWs_ok (h d (by simp)) ht w hw
  ·exact doorsWs_ok ht ds (i + 1) (fun d hd => h d (by simp [hd])) w hw
theorem doorsWs_len {nH t : Nat} {closed : List Int} : ∀ (ds : List Do) (i : Nat), (doorsWs nH t closed i ds).length ≤ 2 * ds.length
 | [], _ => by simp [doorsWs]
 | d :: ds, i => by
  have ih := doorsWs_len (nH := nH) (t := t) (closed := closed) ds (i + 1)
  rw [doorsWs, List.length_append, List.length_cons]
  have : (if closed.contains (i : Int) then [] else doorWs nH t d).length ≤ 2 := by
   split
   ·simp
   ·unfold doorWs
    split <;> split <;> simp
  omega
theorem waysOf_ok {nH : Nat} {ds : List Do} {ticks : Nat} {closed : List Int} {come : Nat → Int} (hd : ∀ d ∈ ds, DoOk nH d) (hc : ∀ i, i < nH → 0 ≤ come i ∧ come i ≤ 1073741824) : ∀ w ∈ waysOf nH ds ticks closed come, WaOk (2 + (ticks + 1) * nH) w := by
 intro w hw
 unfold waysOf at hw
 rcases List.mem_append.1 hw with hw | hw
 ·obtain ⟨i, hi, rfl⟩ := List.mem_map.1 hw
  rw [List.mem_range] at hi
  exact ⟨by show 0 < _; omega, placeOf_lt (nH := nH) (ticks := ticks) (t := 0) (hall := (i : Int)) (by omega) (by omega) (by omega), (hc i hi).1, (hc i hi).2⟩
 ·obtain ⟨t, ht, hw⟩ := List.mem_flatMap.1 hw
  rw [List.mem_range] at ht
  unfold tickWs at hw
  rcases List.mem_append.1 hw with hw | hw
  ·obtain ⟨i, hi, rfl⟩ := List.mem_map.1 hw
   rw [List.mem_range] at hi
   exact ⟨placeOf_lt (nH := nH) (ticks := ticks) (t := t) (hall := (i : Int)) (by omega) (by omega) (by omega), placeOf_lt (nH := nH) (ticks := ticks) (t := t + 1) (hall := (i : Int)) (by omega) (by omega) (by omega), by show (0 : Int) ≤ 1073741824; omega, Int.le_refl _⟩
  ·exact doorsWs_ok ht ds 0 hd w hw
theorem flatMap_len {α β : Type} (f : α → List β) (k : Nat) : ∀ l : List α, (∀ x ∈ l, (f x).length ≤ k) → (l.flatMap f).length ≤ l.length * k
 | [], _ => by simp
 | x :: l, h => by
  rw [List.flatMap_cons, List.length_append, List.length_cons, Nat.add_mul, Nat.one_mul]
  have h1 := h x (by simp)
  have h2 := flatMap_len f k l fun y hy => h y (by simp [hy])
  omega
theorem waysOf_len {nH : Nat} {ds : List Do} {ticks : Nat} {closed : List Int} {come : Nat → Int} (h1 : nH ≤ 4) (h2 : ds.length ≤ 5) (h3 : ticks ≤ 12) : (waysOf nH ds ticks closed come).length ≤ 1000 := by
 unfold waysOf startWs
 rw [List.length_append, List.length_map, List.length_range]
 have := flatMap_len (tickWs nH ds closed) 14 (List.range ticks) fun t _ => by
  unfold tickWs stayWs
  rw [List.length_append, List.length_map, List.length_range]
  have := doorsWs_len (nH := nH) (t := t) (closed := closed) ds 0
  omega
 rw [List.length_range] at this
 omega
end Go.Proofs.YtekhddlngbppkaaDoor

/- The places of the ways, on values. (Vm) -/
namespace Go.Proofs.YtekhddlngbppkaaDoor.Vm
open Go Go.Proofs
theorem place_v (h : Ho) (hid : Nat) (hall : Int) (t : Nat) (M : Mem) (hH : M.H[hid]? = some (.obj (houseC h))) (h0 : -1 ≤ hall) (h1 : hall < 1000) (ht : t ≤ 1000) (hl : h.holds.length ≤ 1000) : VC Tryd.prog 54 [vi hall, vi t, .ptr hid 0] M (fun r M' => M' = M ∧ r = vi (placeOf h.holds.length hall t)) := by
 refine VC_own' T_ok (f := 54) (fn := Tryd.f54) (by kernel_rfl) rfl Tryd.ntmps54 (by rfl) (by rfl) ?_
 ((repeat refine Ws ?_);refine Wr ?_)
 simp (maxSteps := 1000000) only [VL,VM,↓VG,reduceIte,reduceCtorEq,zA,zB,zC,zD,zE,zF,zG,zH,zI,zJ]
 ((repeat refine Ws ?_);refine Wr ?_)
 by_cases e : hall = -1
 ·have k : (hall = -1) = True := eq_true e
  simp (maxSteps := 1000000) only [VL,VM,↓VG,reduceIte,reduceCtorEq,zA,zB,zC,zD,zE,zF,zG,zH,zI,zJ, k]
  ((repeat refine Ws ?_);refine Wt (by first|rfl|simp only [EV,zF,reduceIte]) ?_)
  ((repeat refine Ws ?_);refine Wr ?_)
  simp (maxSteps := 1000000) only [VL,VM,↓VG,reduceIte,reduceCtorEq,zA,zB,zC,zD,zE,zF,zG,zH,zI,zJ]
  (repeat refine Ws ?_)
  refine W_ret ?_
  try simp only [thenQ, blockQ]
  refine own_ret0 rfl rfl rfl ⟨rfl, ?_⟩
  unfold placeOf
  rw [if_pos e]
  rfl
 have k : (hall = -1) = False := eq_false e
 simp (maxSteps := 1000000) only [VL,VM,↓VG,reduceIte,reduceCtorEq,zA,zB,zC,zD,zE,zF,zG,zH,zI,zJ, k]
 ((repeat refine Ws ?_);refine Wf (by first|rfl|simp only [EV,zF,reduceIte]) ?_)
 ((repeat refine Ws ?_);refine W_skip ?_)
 simp (maxSteps := 1000000) only [VL,VM,↓VG,reduceIte,reduceCtorEq,zA,zB,zC,zD,zE,zF,zG,zH,zI,zJ]
 ((repeat refine Ws ?_);refine Wr ?_)
 have m1 : (t : Int) * (h.holds.length : Int) ≤ 1000 * 1000 := Int.mul_le_mul (by omega) (by omega) (by omega) (by omega)
 have m0 : 0 ≤ (t : Int) * (h.holds.length : Int) := Int.mul_nonneg (by omega) (by omega)
 generalize hp : (t : Int) * (h.holds.length : Int) = p at m0 m1
 have k1 : -9223372036854775808 ≤ p ∧ p < 9223372036854775808 := by omega
 have k2 : -9223372036854775808 ≤ 2 + p ∧ 2 + p < 9223372036854775808 := by omega
 have k3 : -9223372036854775808 ≤ 2 + p + hall ∧ 2 + p + hall < 9223372036854775808 := by omega
 simp (maxSteps := 1000000) only [VL,VM,↓VG,reduceIte,reduceCtorEq,zA,zB,zC,zD,zE,zF,zG,zH,zI,zJ, hH, hp, k1, k2, k3]
 (repeat refine Ws ?_)
 refine W_ret ?_
 try simp only [thenQ, blockQ]
 refine own_ret0 rfl rfl rfl ⟨rfl, ?_⟩
 unfold placeOf
 rw [if_neg e]
 have h2 : ((2 + t * h.holds.length + hall.toNat : Nat) : Int) = 2 + p + hall := by
  rw [← hp]
  push_cast
  omega
 rw [h2]
 rfl
end Go.Proofs.YtekhddlngbppkaaDoor.Vm
