/- A part of the proofs about the chapter of the ramps; it states no condition of its own. -/
import Derived.Test.YtkipednlefbfpaaDoorB19
import Derived.Test.YtkipednlefbfpaaDoorB20
set_option linter.unusedVariables false
set_option linter.unusedSimpArgs false
open Int renaming reduceLE → zA, reduceLT → zB, reduceToNat → zC, reduceNeg → zD
open Nat renaming reduceLT → zE, reduceEqDiff → zF, reduceAdd → zG, reduceSub → zH, reduceMul → zI, reduceLeDiff → zJ
/- When a ramp is done, on values. (Vm) -/
namespace Go.Proofs.YtkipednlefbfpaaDoor.Vm
open Go Go.Proofs
theorem v_min3 (a b c : Int) : vexts false (vi a) [vi b, vi c] = some (vi (min (min a b) c)) := by
 have h := v_min2 a b
 have h2 := v_min2 (min a b) c
 simp only [vexts] at h h2 ⊢
 cases hx : vext false (vi a) (vi b) with
 | none => rw [hx] at h; cases h
 | some z =>
  rw [hx] at h
  simp only [Option.some.injEq] at h
  subst h
  exact h2
theorem S_min3 {P : Program} {T : Tab} {nt : Nat} {all : Array Oper} {r : List Oper} {e : Env} {M : Mem} {Kn : Env → Mem → Prop} {ty : TypeId} {p : String} {af : Array Edge} {d : Nat} {x y z : Operand} {ts : Array TypeId} : WOps P T nt all ({ dst := some d, op := .call { callee := .builtin .min, args := #[x, y, z], argTypes := ts }, type := ty, pos := p, after := af, guard := none } :: r) e M Kn = Put P T nt all r Kn d e M (vexts false (ev e x) [ev e y, ev e z]) := by
 rw [S_op (by intros; simp)]; exact PutM_map
theorem all_vi (l : List Int) : (l.map vi).all isCell = true := by
 rw [List.all_map, List.all_eq_true]
 intro x _
 rfl
theorem zeros_vi : (List.replicate 128 (Value.int .i64 0)).map ofValue = (List.replicate 128 (0 : Int)).map vi := by
 rw [List.map_replicate, List.map_replicate]; rfl
theorem times_get {t : List Int} (h : t.length = 128) {i : Nat} (hi : i < 128) : (t.map vi)[i]? = some (vi (t.getD i 0)) := by
 have : i < t.length := by omega
 simp [this]
theorem splice_vi {t : List Int} {i : Nat} {x : Int} (h : i < t.length) : (t.take i).map vi ++ vi x :: (t.drop (i + 1)).map vi = (t.set i x).map vi := in_put h
theorem done_len {R : Ry} {r : Nat} {s : Nat} : ((List.range' 1 (s - 1)).foldl (rowD R r) (List.replicate 128 0)).length = 128 := by
 rw [foldD_len]; simp
theorem done_next {R : Ry} {r s : Nat} (h : 1 ≤ s) : (List.range' 1 (s + 1 - 1)).foldl (rowD R r) (List.replicate 128 0) = rowD R r ((List.range' 1 (s - 1)).foldl (rowD R r) (List.replicate 128 0)) s := by
 rw [show s + 1 - 1 = (s - 1) + 1 by omega, List.range'_1_concat, List.foldl_append, show 1 + (s - 1) = s by omega]
 rfl
structure DnS where
 c : Nat
 t : List Int
 J : List VObj
set_option maxRecDepth 4000 in
set_option maxHeartbeats 4000000 in
theorem done_v {R : Ry} (hR : RyOk R) (r : Nat) (M : Mem) (hr : r < R.y.ramps.length) : VC Tryd.prog 53 [ryV R, vi r] M (fun x M' => M' = M ∧ x = .ip ((doneL R r).map (PV.int .i64))) := by
 obtain ⟨n, hn⟩ : ∃ n, n = R.y.carts.length := ⟨_, rfl⟩
 have hm7 := hR.y.m1
 have hn3 := hR.y.n1
 rw [← hn] at hm7
 have hr3 : r < 3 := by omega
 have h2n : 2 ^ n ≤ 128 := Nat.pow_le_pow_right (n := 2) (by decide) hm7
 have h2p : 1 ≤ 2 ^ n := Nat.one_le_two_pow
 have hz' := map_at (f := raP) (raAt_get (y := R.y) (r := (r : Int)) (by omega) (by omega))
 rw [Int.toNat_natCast] at hz'
 have hra := hR.y.ra _ (raAt_mem (y := R.y) (r := (r : Int)) (by omega) (by omega))
 have hle := ry_le hR
 have hmust := (hR.w r).1
 have hsw0 := hR.y.s0
 have hsw1 := hR.y.s1
 refine VC_ipq (f := 53) (fn := Tryd.f53) (by kernel_rfl) rfl Tryd.ntmps53 (by rfl) (by rfl) ?_
 ((repeat refine Ws ?_);refine W_regionE T_ok ?_; intro Kn hKn)
 ((simp (maxSteps := 1000000) only [VL,VM,↓VG,reduceIte,reduceCtorEq,zA,zB,zC,zD,zE,zF,zG,zH,zI,zJ, ry_cells]); rw [hKn];clear hKn Kn;simp only [QV,reduceIte,reduceCtorEq,Nat.reduceEqDiff])
 ((repeat refine Ws ?_);refine W_regionE T_ok ?_; intro Kn hKn)
 ((simp (maxSteps := 1000000) only [VL,VM,↓VG,reduceIte,reduceCtorEq,zA,zB,zC,zD,zE,zF,zG,zH,zI,zJ, zeros_vi, all_vi]); rw [hKn];clear hKn Kn;simp only [QV,reduceIte,reduceCtorEq,Nat.reduceEqDiff])
 ((repeat refine Ws ?_);refine W_regionE T_ok ?_; intro Kn hKn)
 ((simp (maxSteps := 1000000) only [VL,VM,↓VG,reduceIte,reduceCtorEq,zA,zB,zC,zD,zE,zF,zG,zH,zI,zJ, ry_0, hz']); rw [hKn];clear hKn Kn;simp only [QV,reduceIte,reduceCtorEq,Nat.reduceEqDiff])
 ((repeat refine Ws ?_);refine W_regionE T_ok ?_; intro Kn hKn)
 ((simp (maxSteps := 1000000) only [VL,VM,↓VG,reduceIte,reduceCtorEq,zA,zB,zC,zD,zE,zF,zG,zH,zI,zJ]); rw [hKn];clear hKn Kn;simp only [QV,reduceIte,reduceCtorEq,Nat.reduceEqDiff])
 ((repeat refine Ws ?_);refine W_block ?_; (repeat refine Ws ?_)); refine W_loopS (fun s : Nat × List VObj => [(1, vi r), (2, .ptr M.H.length 0), (5, .ptr (M.H.length + 1) 0), (6, .ptr (M.H.length + 2) 0), (7, su s.1)]) (fun s => ⟨M.H ++ .obj (ryC R) :: .obj (((List.range' 1 (s.1 - 1)).foldl (rowD R r) (List.replicate 128 0)).map vi) :: .obj [vi (raAt R.y r).open_, vi (raAt R.y r).shut, vi (raAt R.y r).bears] :: s.2, M.lg⟩) (fun s => 2 ^ n - s.1) (fun s => 1 ≤ s.1 ∧ s.1 ≤ 2 ^ n) (1, []) ⟨by decide, h2p⟩ ⟨rfl, rfl, rfl, rfl, rfl, trivial⟩ rfl ?_
 rintro ⟨s, J⟩ ⟨hs1, hs2⟩
 simp only at hs1 hs2
 have hs256 : s < 256 := by omega
 ((repeat refine Ws ?_);refine W_regionE T_ok ?_; intro Kn hKn)
 rcases Nat.lt_or_ge s (2 ^ n) with hlt | hge
 ·have k2 : ((s : Int) < ((2 ^ n : Nat) : Int)) = True := eq_true (by omega)
  have hs128 : s < 128 := by omega
  have hs129 : s + 1 < 256 := by omega
  have hT0 := done_len (R := R) (r := r) (s := s)
  have hTB : TB ((List.range' 1 (s - 1)).foldl (rowD R r) (List.replicate 128 0)) := fold_inv (p := TB) (fun x hx => by rw [List.mem_replicate] at hx; omega) fun s _ t ht => rowD_tb hR hr ht
  have hnext := done_next (R := R) (r := r) hs1
  generalize (List.range' 1 (s - 1)).foldl (rowD R r) (List.replicate 128 0) = T0 at hT0 hTB hnext ⊢
  have hle0 : (s + 1 ≤ T0.length) = True := eq_true (by omega)
  ((simp (maxSteps := 1000000) only [VL,VM,↓VG,reduceIte,reduceCtorEq,zA,zB,zC,zD,zE,zF,zG,zH,zI,zJ, c_si, hs256, ry_1, ← hn, i_shl, hm7, k2]); rw [hKn];clear hKn Kn;simp only [QV,reduceIte,reduceCtorEq,Nat.reduceEqDiff])
  ((repeat refine Ws ?_);refine Wt (by first|rfl|simp only [EV,zF,reduceIte]) ?_)
  (((repeat refine Ws ?_);refine W_skip ?_); simp only [QV,reduceIte,reduceCtorEq,Nat.reduceEqDiff])
  ((repeat refine Ws ?_);refine W_block ?_)
  (repeat refine Ws ?_)
  refine W_scope ?_
  ((repeat refine Ws ?_);refine W_regionE T_ok ?_; intro Kn hKn)
  ((simp (maxSteps := 1000000) only [VL,VM,↓VG,reduceIte,reduceCtorEq,zA,zB,zC,zD,zE,zF,zG,zH,zI,zJ, idx_su, hs128, hle0]); rw [hKn];clear hKn Kn;simp only [QV,reduceIte,reduceCtorEq,Nat.reduceEqDiff])
  rw [splice_vi (by omega)]
  (repeat refine Ws ?_)
  refine W_label ?_
  simp only [thenQ.eq_1, thenQ.eq_2, blockQ.eq_1, blockQ.eq_2]
  ((repeat refine Ws ?_);refine W_regionE T_ok ?_; intro Kn hKn)
  ((simp (maxSteps := 1000000) only [VL,VM,↓VG,reduceIte,reduceCtorEq,zA,zB,zC,zD,zE,zF,zG,zH,zI,zJ, ry_1, ← hn]); rw [hKn];clear hKn Kn;simp only [QV,reduceIte,reduceCtorEq,Nat.reduceEqDiff])
  rw [show (1048576 : Int) = never from rfl]
  ((repeat refine Ws ?_);refine W_block ?_; (repeat refine Ws ?_)); refine W_loopS (fun q : DnS => [(1, vi r), (2, .ptr M.H.length 0), (5, .ptr (M.H.length + 1) 0), (6, .ptr (M.H.length + 2) 0), (7, su s), (37, ctsV R.y.carts), (38, vi n), (39, vi q.c)]) (fun q => ⟨M.H ++ .obj (ryC R) :: .obj (q.t.map vi) :: .obj [vi (raAt R.y r).open_, vi (raAt R.y r).shut, vi (raAt R.y r).bears] :: q.J, M.lg⟩) (fun q => n - q.c) (fun q => q.c ≤ n ∧ q.t = (List.range q.c).foldl (stepD R r s) (T0.set s never)) ⟨0, _, J⟩ ⟨Nat.zero_le _, rfl⟩ ⟨rfl, rfl, rfl, rfl, rfl, rfl, rfl, rfl, trivial⟩ rfl ?_
  ·rintro ⟨c, t, J2⟩ ⟨hc, ht⟩
   simp only at hc ht
   have j1 : -9223372036854775808 ≤ (c : Int) + 1 ∧ (c : Int) + 1 < 9223372036854775808 := by omega
   ((repeat refine Ws ?_);refine W_regionE T_ok ?_; intro Kn hKn)
   rcases Nat.lt_or_ge c n with hlt2 | hge2
   ·have j2 : ((c : Int) < (n : Int)) = True := eq_true (by omega)
    have hc' : c < R.y.carts.length := by omega
    have hc7 : c < 7 := by omega
    have hc8 : c ≤ 8 := by omega
    have hc77 : c ≤ 7 := by omega
    have hy' := map_at (f := ctP) (ctAt_get hc')
    have hct := hR.y.ct _ (ctAt_mem hc')
    have htl : t.length = 128 := by
     rw [ht]
     have : ∀ (l : List Nat) (t : List Int), (l.foldl (stepD R r s) t).length = t.length := by
      intro l
      induction l with
      | nil => intro t; rfl
      | cons c l ih => intro t; rw [List.foldl_cons, ih, stepD_len]
     rw [this]; simp [hT0]
    have htb : TB t := by
     rw [ht]
     exact fold_inv (p := TB) (hTB.set (by unfold never; omega)) fun c hc t ht => stepD_tb hR hr (by have := List.mem_range.1 hc; omega) ht
    have hstep : (List.range (c + 1)).foldl (stepD R r s) (T0.set s never) = stepD R r s t c := by
     rw [List.range_succ, List.foldl_append, ← ht]; rfl
    have hsd : sdiff s (2 ^ c) < 128 := sdiff_lt (n := 7) hs128
    have hpc : 2 ^ c < 256 := Nat.lt_of_le_of_lt (Nat.pow_le_pow_right (n := 2) (by decide) hc77) (by decide)
    have hts := times_get htl hs128
    have htd := times_get htl hsd
    have htb1 := htb.getD s
    have htb2 := htb.getD (sdiff s (2 ^ c))
    have hlf := lastF_bd (s := s) hR hr hc' htb
    have hfr := hR.f c
    have a1 := hct.l0
    have a2 := hct.lh
    have a3 := hct.h1
    have a4 := hct.f0
    have a5 := hct.fu
    have a6 := hct.u1
    have b1 := hra.o0
    have b2 := hra.os
    have b3 := hra.s1
    have q5 : -9223372036854775808 ≤ t.getD (sdiff s (2 ^ c)) 0 + R.y.sweep ∧ t.getD (sdiff s (2 ^ c)) 0 + R.y.sweep < 9223372036854775808 := by omega
    have e0 : stepD R r s t c = stepD R r s t c := rfl
    conv at e0 => rhs; unfold stepD
    have e1 : lastF R r c t s = lastF R r c t s := rfl
    conv at e1 => rhs; unfold lastF rAt; simp only
    have e2 : comeF R r c t s = comeF R r c t s := rfl
    conv at e2 => rhs; unfold comeF
    have e3 : limF R r c = min (min (ctAt R.y c).until_ (raAt R.y r).shut) R.til := rfl
    have hgo : stepD R r s t c = t → (List.range (c + 1)).foldl (stepD R r s) (T0.set s never) = t := fun h => hstep.trans h
    ((simp (maxSteps := 1000000) only [VL,VM,↓VG,reduceIte,reduceCtorEq,zA,zB,zC,zD,zE,zF,zG,zH,zI,zJ, j2]); rw [hKn];clear hKn Kn;simp only [QV,reduceIte,reduceCtorEq,Nat.reduceEqDiff])
    ((repeat refine Ws ?_);refine Wt (by first|rfl|simp only [EV,zF,reduceIte]) ?_)
    (((repeat refine Ws ?_);refine W_skip ?_); simp only [QV,reduceIte,reduceCtorEq,Nat.reduceEqDiff])
    ((repeat refine Ws ?_);refine W_block ?_)
    ((repeat refine Ws ?_);refine W_regionE T_ok ?_; intro Kn hKn)
    ((simp (maxSteps := 1000000) only [VL,VM,↓VG,reduceIte,reduceCtorEq,zA,zB,zC,zD,zE,zF,zG,zH,zI,zJ, hy']); rw [hKn];clear hKn Kn;simp only [QV,reduceIte,reduceCtorEq,Nat.reduceEqDiff])
    ((repeat refine Ws ?_);refine W_regionE T_ok ?_; intro Kn hKn)
    simp (maxSteps := 1000000) only [VL,VM,↓VG,reduceIte,reduceCtorEq,zA,zB,zC,zD,zE,zF,zG,zH,zI,zJ]
    apply call_eq (f := 51) (fn := Tryd.f51) (by kernel_rfl) (by rfl)
    ·exact has_v s c _ hs256 hc8
    cases hb : s.testBit c
    ·rw [hb] at e0
     ((simp (maxSteps := 1000000) only [VL,VM,↓VG,reduceIte,reduceCtorEq,zA,zB,zC,zD,zE,zF,zG,zH,zI,zJ]); rw [hKn];clear hKn Kn;simp only [QV,reduceIte,reduceCtorEq,Nat.reduceEqDiff])
     ((repeat refine Ws ?_);refine Wt (by first|rfl|simp only [EV,zF,reduceIte]) ?_)
     (((repeat refine Ws ?_);refine W_exit ?_); simp only [QV,reduceIte,reduceCtorEq,Nat.reduceEqDiff])
     ((repeat refine Ws ?_);refine W_regionE T_ok ?_; intro Kn hKn)
     ((simp (maxSteps := 1000000) only [VL,VM,↓VG,reduceIte,reduceCtorEq,zA,zB,zC,zD,zE,zF,zG,zH,zI,zJ, j1]); rw [hKn];clear hKn Kn;simp only [QV,reduceIte,reduceCtorEq,Nat.reduceEqDiff])
     exact LoopK.mk ⟨c + 1, t, _⟩ (by simp; omega) ⟨by simp; omega, (hgo (by rw [e0]; rfl)).symm⟩ ⟨rfl, rfl, rfl, rfl, rfl, rfl, rfl, rfl, trivial⟩ rfl
    rw [hb, Bool.true_and] at e0
    simp (maxSteps := 1000000) only [VL,VM,↓VG,reduceIte,reduceCtorEq,zA,zB,zC,zD,zE,zF,zG,zH,zI,zJ, hle, ry_take hR, ry_strip]
    apply call_eq (f := 40) (fn := Tryd.f40) (by kernel_rfl) (by rfl)
    ·exact may_v hR c r _ hc' hr
    cases hmb : mayB R c r
    ·rw [hmb] at e0
     ((simp (maxSteps := 1000000) only [VL,VM,↓VG,reduceIte,reduceCtorEq,zA,zB,zC,zD,zE,zF,zG,zH,zI,zJ]); rw [hKn];clear hKn Kn;simp only [QV,reduceIte,reduceCtorEq,Nat.reduceEqDiff])
     ((repeat refine Ws ?_);refine Wt (by first|rfl|simp only [EV,zF,reduceIte]) ?_)
     (((repeat refine Ws ?_);refine W_exit ?_); simp only [QV,reduceIte,reduceCtorEq,Nat.reduceEqDiff])
     ((repeat refine Ws ?_);refine W_regionE T_ok ?_; intro Kn hKn)
     ((simp (maxSteps := 1000000) only [VL,VM,↓VG,reduceIte,reduceCtorEq,zA,zB,zC,zD,zE,zF,zG,zH,zI,zJ, j1]); rw [hKn];clear hKn Kn;simp only [QV,reduceIte,reduceCtorEq,Nat.reduceEqDiff])
     exact LoopK.mk ⟨c + 1, t, _⟩ (by simp; omega) ⟨by simp; omega, (hgo (by rw [e0]; rfl)).symm⟩ ⟨rfl, rfl, rfl, rfl, rfl, rfl, rfl, rfl, trivial⟩ rfl
    rw [hmb, if_pos rfl] at e0
    ((simp (maxSteps := 1000000) only [VL,VM,↓VG,reduceIte,reduceCtorEq,zA,zB,zC,zD,zE,zF,zG,zH,zI,zJ]); rw [hKn];clear hKn Kn;simp only [QV,reduceIte,reduceCtorEq,Nat.reduceEqDiff])
    ((repeat refine Ws ?_);refine Wf (by first|rfl|simp only [EV,zF,reduceIte]) ?_)
    (((repeat refine Ws ?_);refine W_skip ?_); simp only [QV,reduceIte,reduceCtorEq,Nat.reduceEqDiff])
    ((repeat refine Ws ?_);refine W_regionE T_ok ?_; intro Kn hKn)
    simp (maxSteps := 1000000) only [VL,VM,↓VG,reduceIte,reduceCtorEq,zA,zB,zC,zD,zE,zF,zG,zH,zI,zJ]
    apply call_eq (f := 39) (fn := Tryd.f39) (by kernel_rfl) (by rfl)
    ·exact one_s c _ hc77
    ((simp (maxSteps := 1000000) only [VL,VM,↓VG,reduceIte,reduceCtorEq,zA,zB,zC,zD,zE,zF,zG,zH,zI,zJ, u8_andNot, hs256, hpc]); rw [hKn];clear hKn Kn;simp only [QV,reduceIte,reduceCtorEq,Nat.reduceEqDiff])
    ((repeat refine Ws ?_);refine W_regionE T_ok ?_; intro Kn hKn)
    ((simp (maxSteps := 1000000) only [VL,VM,↓VG,reduceIte,reduceCtorEq,zA,zB,zC,zD,zE,zF,zG,zH,zI,zJ]); rw [hKn];clear hKn Kn;simp only [QV,reduceIte,reduceCtorEq,Nat.reduceEqDiff])
    -- from when it comes
    obtain ⟨A, hA⟩ : ∃ A, A = lastF R r c t s := ⟨_, rfl⟩
    rw [← hA] at e1 e2 hlf
    obtain ⟨M1, hM1⟩ : ∃ M1 : Mem, M1 = ⟨M.H ++ .obj (ryC R) :: .obj (t.map vi) :: .obj [vi (raAt R.y r).open_, vi (raAt R.y r).shut, vi (raAt R.y r).bears] :: (J2 ++ [.obj (ctC (ctAt R.y c))]), M.lg⟩ := ⟨_, rfl⟩
    obtain ⟨n9, hn9⟩ : ∃ n9, n9 = M.H.length + (J2.length + 3) := ⟨_, rfl⟩
    have g2 : M1.H[M.H.length]? = some (.obj (ryC R)) := by rw [hM1]; simp
    have g5 : M1.H[M.H.length + 1]? = some (.obj (t.map vi)) := by rw [hM1]; simp only; rw [hget]; rfl
    have g6 : M1.H[M.H.length + 2]? = some (.obj [vi (raAt R.y r).open_, vi (raAt R.y r).shut, vi (raAt R.y r).bears]) := by rw [hM1]; simp only; rw [hget]; rfl
    have g9 : M1.H[n9]? = some (.obj (ctC (ctAt R.y c))) := by
     rw [hM1, hn9]
     simp only
     rw [hget, List.getElem?_cons_succ, List.getElem?_cons_succ, List.getElem?_cons_succ, hget0]
     rfl
    have hset5 : ∀ x : Int, M1.H.set (M.H.length + 1) (.obj ((t.set s x).map vi)) = M.H ++ .obj (ryC R) :: .obj ((t.set s x).map vi) :: .obj [vi (raAt R.y r).open_, vi (raAt R.y r).shut, vi (raAt R.y r).bears] :: (J2 ++ [.obj (ctC (ctAt R.y c))]) := fun x => by
     rw [hM1]; simp only; rw [hset]; rfl
    refine W_seq ?_
    refine W_thenC [(1, vi r), (2, .ptr M.H.length 0), (5, .ptr (M.H.length + 1) 0), (6, .ptr (M.H.length + 2) 0), (7, su s), (8, vi c), (9, .ptr n9 0), (11, vi A), (37, ctsV R.y.carts), (38, vi n), (39, vi c)] M1 ?_ ?_
    ·skip
     ((repeat refine Ws ?_);refine W_regionE T_ok ?_; intro Kn hKn)
     by_cases hgt : 0 < sdiff s (2 ^ c)
     ·rw [if_pos hgt] at e1
      ((simp (maxSteps := 1000000) only [VL,VM,↓VG,reduceIte,reduceCtorEq,zA,zB,zC,zD,zE,zF,zG,zH,zI,zJ, u8_gtr0, hgt]); rw [hKn];clear hKn Kn;simp only [QV,reduceIte,reduceCtorEq,Nat.reduceEqDiff])
      ((repeat refine Ws ?_);refine Wt (by first|rfl|simp only [EV,zF,reduceIte]) ?_)
      (repeat refine Ws ?_)
      refine W_drawE T_ok [] (by kernel_rfl) (by kernel_rfl) ?_
      intro Kn hKn
      generalize hi : mkPlan _ = infs
      cbv at hi
      subst hi
      ((simp (maxSteps := 1000000) only [VL,VM,↓VG,reduceIte,reduceCtorEq,zA,zB,zC,zD,zE,zF,zG,zH,zI,zJ, idx_su, hsd, htd, ry_2, q5]); rw [hKn];clear hKn Kn;simp only [QV,reduceIte,reduceCtorEq,Nat.reduceEqDiff])
      exact ⟨trivial, trivial, hM1.symm, rfl, rfl, rfl, rfl, rfl, rfl, by rw [hn9]; rfl, by rw [e1]; rfl, rfl, rfl, rfl, trivial⟩
     ·rw [if_neg hgt] at e1
      ((simp (maxSteps := 1000000) only [VL,VM,↓VG,reduceIte,reduceCtorEq,zA,zB,zC,zD,zE,zF,zG,zH,zI,zJ, u8_gtr0, hgt]); rw [hKn];clear hKn Kn;simp only [QV,reduceIte,reduceCtorEq,Nat.reduceEqDiff])
      ((repeat refine Ws ?_);refine Wf (by first|rfl|simp only [EV,zF,reduceIte]) ?_)
      (((repeat refine Ws ?_);refine W_skip ?_); simp only [QV,reduceIte,reduceCtorEq,Nat.reduceEqDiff])
      exact ⟨trivial, trivial, hM1.symm, rfl, rfl, rfl, rfl, rfl, rfl, by rw [hn9]; rfl, by rw [e1]; rfl, rfl, rfl, rfl, trivial⟩
    have hlg : M1.lg = M.lg := by rw [hM1]
    have hs1291 : (s + 1 ≤ 128) = True := eq_true (by omega)
    have hst : s < t.length := by omega
    ((repeat refine Ws ?_);refine W_regionE T_ok ?_; intro Kn hKn)
    simp (maxSteps := 1000000) only [VL,VM,↓VG,reduceIte,reduceCtorEq,zA,zB,zC,zD,zE,zF,zG,zH,zI,zJ, g2, ry_m hR hr3, hr3]
    apply call_eq (f := 51) (fn := Tryd.f51) (by kernel_rfl) (by rfl)
    ·exact has_v (mustAt R r) c _ (by omega) hc8
    cases hmu : (mustAt R r).testBit c
    ·rw [hmu, if_neg (by decide)] at e2
     rw [e2] at e0
     simp only at e0
     ((simp (maxSteps := 1000000) only [VL,VM,↓VG,reduceIte,reduceCtorEq,zA,zB,zC,zD,zE,zF,zG,zH,zI,zJ]); rw [hKn];clear hKn Kn;simp only [QV,reduceIte,reduceCtorEq,Nat.reduceEqDiff])
     ((repeat refine Ws ?_);refine Wf (by first|rfl|simp only [EV,zF,reduceIte]) ?_)
     (((repeat refine Ws ?_);refine W_skip ?_); simp only [QV,reduceIte,reduceCtorEq,Nat.reduceEqDiff])
     have q6 : -9223372036854775808 ≤ A + (ctAt R.y c).takes.hi ∧ A + (ctAt R.y c).takes.hi < 9223372036854775808 := by omega
     ((repeat refine Ws ?_);refine W_regionE T_ok ?_; intro Kn hKn)
     ((simp (maxSteps := 1000000) only [VL,VM,↓VG,reduceIte,reduceCtorEq,zA,zB,zC,zD,zE,zF,zG,zH,zI,zJ, g9, q6]); rw [hKn];clear hKn Kn;simp only [QV,reduceIte,reduceCtorEq,Nat.reduceEqDiff])
     ((repeat refine Ws ?_);refine W_regionE T_ok ?_; intro Kn hKn)
     by_cases hlim : A + (ctAt R.y c).takes.hi ≤ min (min (ctAt R.y c).until_ (raAt R.y r).shut) R.til
     ·rw [e3, if_pos hlim] at e0
      ((simp (maxSteps := 1000000) only [VL,VM,↓VG,reduceIte,reduceCtorEq,zA,zB,zC,zD,zE,zF,zG,zH,zI,zJ, g2, g6, g9, ry_t hR, S_min3, v_min3, hlim]); rw [hKn];clear hKn Kn;simp only [QV,reduceIte,reduceCtorEq,Nat.reduceEqDiff])
      ((repeat refine Ws ?_);refine Wt (by first|rfl|simp only [EV,zF,reduceIte]) ?_)
      (repeat refine Ws ?_)
      refine W_drawE T_ok [] (by kernel_rfl) (by kernel_rfl) ?_
      intro Kn hKn
      generalize hi : mkPlan _ = infs
      cbv at hi
      subst hi
      ((simp (maxSteps := 1000000) only [VL,VM,↓VG,reduceIte,reduceCtorEq,zA,zB,zC,zD,zE,zF,zG,zH,zI,zJ, idx_su, hs128, g5, hts, htl, hs1291, hlg]); rw [hKn];clear hKn Kn;simp only [QV,reduceIte,reduceCtorEq,Nat.reduceEqDiff])
      rw [splice_vi hst, hset5]
      ((repeat refine Ws ?_);refine W_regionE T_ok ?_; intro Kn hKn)
      ((simp (maxSteps := 1000000) only [VL,VM,↓VG,reduceIte,reduceCtorEq,zA,zB,zC,zD,zE,zF,zG,zH,zI,zJ, j1]); rw [hKn];clear hKn Kn;simp only [QV,reduceIte,reduceCtorEq,Nat.reduceEqDiff])
      exact LoopK.mk ⟨c + 1, _, J2 ++ [.obj (ctC (ctAt R.y c))]⟩ (by simp; omega) ⟨by simp; omega, (hstep.trans e0).symm⟩ ⟨rfl, rfl, rfl, rfl, rfl, rfl, rfl, rfl, trivial⟩ rfl
     ·rw [e3, if_neg hlim] at e0
      ((simp (maxSteps := 1000000) only [VL,VM,↓VG,reduceIte,reduceCtorEq,zA,zB,zC,zD,zE,zF,zG,zH,zI,zJ, g2, g6, g9, ry_t hR, S_min3, v_min3, hlim]); rw [hKn];clear hKn Kn;simp only [QV,reduceIte,reduceCtorEq,Nat.reduceEqDiff])
      ((repeat refine Ws ?_);refine Wf (by first|rfl|simp only [EV,zF,reduceIte]) ?_)
      (((repeat refine Ws ?_);refine W_skip ?_); simp only [QV,reduceIte,reduceCtorEq,Nat.reduceEqDiff])
      ((repeat refine Ws ?_);refine W_regionE T_ok ?_; intro Kn hKn)
      ((simp (maxSteps := 1000000) only [VL,VM,↓VG,reduceIte,reduceCtorEq,zA,zB,zC,zD,zE,zF,zG,zH,zI,zJ, j1]); rw [hKn];clear hKn Kn;simp only [QV,reduceIte,reduceCtorEq,Nat.reduceEqDiff])
      exact LoopK.mk ⟨c + 1, t, J2 ++ [.obj (ctC (ctAt R.y c))]⟩ (by simp; omega) ⟨by simp; omega, (hgo e0).symm⟩ ⟨rfl, rfl, rfl, rfl, rfl, rfl, rfl, rfl, trivial⟩ hM1
    ·rw [hmu, if_pos rfl] at e2
     ((simp (maxSteps := 1000000) only [VL,VM,↓VG,reduceIte,reduceCtorEq,zA,zB,zC,zD,zE,zF,zG,zH,zI,zJ]); rw [hKn];clear hKn Kn;simp only [QV,reduceIte,reduceCtorEq,Nat.reduceEqDiff])
     ((repeat refine Ws ?_);refine Wt (by first|rfl|simp only [EV,zF,reduceIte]) ?_)
     ((repeat refine Ws ?_);refine W_regionE T_ok ?_; intro Kn hKn)
     by_cases hfa : frmAt R c < A
     ·rw [if_pos hfa] at e2
      rw [e2] at e0
      simp only at e0
      ((simp (maxSteps := 1000000) only [VL,VM,↓VG,reduceIte,reduceCtorEq,zA,zB,zC,zD,zE,zF,zG,zH,zI,zJ, g2, ry_f hR hc7, hc7, hfa]); rw [hKn];clear hKn Kn;simp only [QV,reduceIte,reduceCtorEq,Nat.reduceEqDiff])
      ((repeat refine Ws ?_);refine Wt (by first|rfl|simp only [EV,zF,reduceIte]) ?_)
      (((repeat refine Ws ?_);refine W_exit ?_); simp only [QV,reduceIte,reduceCtorEq,Nat.reduceEqDiff])
      ((repeat refine Ws ?_);refine W_regionE T_ok ?_; intro Kn hKn)
      ((simp (maxSteps := 1000000) only [VL,VM,↓VG,reduceIte,reduceCtorEq,zA,zB,zC,zD,zE,zF,zG,zH,zI,zJ, j1]); rw [hKn];clear hKn Kn;simp only [QV,reduceIte,reduceCtorEq,Nat.reduceEqDiff])
      exact LoopK.mk ⟨c + 1, t, J2 ++ [.obj (ctC (ctAt R.y c))]⟩ (by simp; omega) ⟨by simp; omega, (hgo e0).symm⟩ ⟨rfl, rfl, rfl, rfl, rfl, rfl, rfl, rfl, trivial⟩ hM1
     rw [if_neg hfa] at e2
     rw [e2] at e0
     simp only at e0
     ((simp (maxSteps := 1000000) only [VL,VM,↓VG,reduceIte,reduceCtorEq,zA,zB,zC,zD,zE,zF,zG,zH,zI,zJ, g2, ry_f hR hc7, hc7, hfa]); rw [hKn];clear hKn Kn;simp only [QV,reduceIte,reduceCtorEq,Nat.reduceEqDiff])
     ((repeat refine Ws ?_);refine Wf (by first|rfl|simp only [EV,zF,reduceIte]) ?_)
     (((repeat refine Ws ?_);refine W_skip ?_); simp only [QV,reduceIte,reduceCtorEq,Nat.reduceEqDiff])
     ((repeat refine Ws ?_);refine W_regionE T_ok ?_; intro Kn hKn)
     ((simp (maxSteps := 1000000) only [VL,VM,↓VG,reduceIte,reduceCtorEq,zA,zB,zC,zD,zE,zF,zG,zH,zI,zJ, g2, ry_f hR hc7, hc7]); rw [hKn];clear hKn Kn;simp only [QV,reduceIte,reduceCtorEq,Nat.reduceEqDiff])
     have q6 : -9223372036854775808 ≤ frmAt R c + (ctAt R.y c).takes.hi ∧ frmAt R c + (ctAt R.y c).takes.hi < 9223372036854775808 := by omega
     ((repeat refine Ws ?_);refine W_regionE T_ok ?_; intro Kn hKn)
     ((simp (maxSteps := 1000000) only [VL,VM,↓VG,reduceIte,reduceCtorEq,zA,zB,zC,zD,zE,zF,zG,zH,zI,zJ, g9, q6]); rw [hKn];clear hKn Kn;simp only [QV,reduceIte,reduceCtorEq,Nat.reduceEqDiff])
     ((repeat refine Ws ?_);refine W_regionE T_ok ?_; intro Kn hKn)
     by_cases hlim : frmAt R c + (ctAt R.y c).takes.hi ≤ min (min (ctAt R.y c).until_ (raAt R.y r).shut) R.til
     ·rw [e3, if_pos hlim] at e0
      ((simp (maxSteps := 1000000) only [VL,VM,↓VG,reduceIte,reduceCtorEq,zA,zB,zC,zD,zE,zF,zG,zH,zI,zJ, g2, g6, g9, ry_t hR, S_min3, v_min3, hlim]); rw [hKn];clear hKn Kn;simp only [QV,reduceIte,reduceCtorEq,Nat.reduceEqDiff])
      ((repeat refine Ws ?_);refine Wt (by first|rfl|simp only [EV,zF,reduceIte]) ?_)
      (repeat refine Ws ?_)
      refine W_drawE T_ok [] (by kernel_rfl) (by kernel_rfl) ?_
      intro Kn hKn
      generalize hi : mkPlan _ = infs
      cbv at hi
      subst hi
      ((simp (maxSteps := 1000000) only [VL,VM,↓VG,reduceIte,reduceCtorEq,zA,zB,zC,zD,zE,zF,zG,zH,zI,zJ, idx_su, hs128, g5, hts, htl, hs1291, hlg]); rw [hKn];clear hKn Kn;simp only [QV,reduceIte,reduceCtorEq,Nat.reduceEqDiff])
      rw [splice_vi hst, hset5]
      ((repeat refine Ws ?_);refine W_regionE T_ok ?_; intro Kn hKn)
      ((simp (maxSteps := 1000000) only [VL,VM,↓VG,reduceIte,reduceCtorEq,zA,zB,zC,zD,zE,zF,zG,zH,zI,zJ, j1]); rw [hKn];clear hKn Kn;simp only [QV,reduceIte,reduceCtorEq,Nat.reduceEqDiff])
      exact LoopK.mk ⟨c + 1, _, J2 ++ [.obj (ctC (ctAt R.y c))]⟩ (by simp; omega) ⟨by simp; omega, (hstep.trans e0).symm⟩ ⟨rfl, rfl, rfl, rfl, rfl, rfl, rfl, rfl, trivial⟩ rfl
     ·rw [e3, if_neg hlim] at e0
      ((simp (maxSteps := 1000000) only [VL,VM,↓VG,reduceIte,reduceCtorEq,zA,zB,zC,zD,zE,zF,zG,zH,zI,zJ, g2, g6, g9, ry_t hR, S_min3, v_min3, hlim]); rw [hKn];clear hKn Kn;simp only [QV,reduceIte,reduceCtorEq,Nat.reduceEqDiff])
      ((repeat refine Ws ?_);refine Wf (by first|rfl|simp only [EV,zF,reduceIte]) ?_)
      (((repeat refine Ws ?_);refine W_skip ?_); simp only [QV,reduceIte,reduceCtorEq,Nat.reduceEqDiff])
      ((repeat refine Ws ?_);refine W_regionE T_ok ?_; intro Kn hKn)
      ((simp (maxSteps := 1000000) only [VL,VM,↓VG,reduceIte,reduceCtorEq,zA,zB,zC,zD,zE,zF,zG,zH,zI,zJ, j1]); rw [hKn];clear hKn Kn;simp only [QV,reduceIte,reduceCtorEq,Nat.reduceEqDiff])
      exact LoopK.mk ⟨c + 1, t, J2 ++ [.obj (ctC (ctAt R.y c))]⟩ (by simp; omega) ⟨by simp; omega, (hgo e0).symm⟩ ⟨rfl, rfl, rfl, rfl, rfl, rfl, rfl, rfl, trivial⟩ hM1
   ·have j2 : ((c : Int) < (n : Int)) = False := eq_false (by omega)
    obtain rfl : c = n := by omega
    ((simp (maxSteps := 1000000) only [VL,VM,↓VG,reduceIte,reduceCtorEq,zA,zB,zC,zD,zE,zF,zG,zH,zI,zJ, j2]); rw [hKn];clear hKn Kn;simp only [QV,reduceIte,reduceCtorEq,Nat.reduceEqDiff])
    ((repeat refine Ws ?_);refine Wf (by first|rfl|simp only [EV,zF,reduceIte]) ?_)
    (((repeat refine Ws ?_);refine W_exit ?_); simp only [QV,reduceIte,reduceCtorEq,Nat.reduceEqDiff])
    ((repeat refine Ws ?_);refine W_regionE T_ok ?_; intro Kn hKn)
    ((simp (maxSteps := 1000000) only [VL,VM,↓VG,reduceIte,reduceCtorEq,zA,zB,zC,zD,zE,zF,zG,zH,zI,zJ, u8_add1, hs129]); rw [hKn];clear hKn Kn;simp only [QV,reduceIte,reduceCtorEq,Nat.reduceEqDiff])
    refine LoopK.mk (s + 1, J2) (by simp; omega) ⟨by simp, by simp; omega⟩ ⟨rfl, rfl, rfl, rfl, rfl, trivial⟩ ?_
    rw [hnext, rowD, ← hn, ← ht]
 ·have k2 : ((s : Int) < ((2 ^ n : Nat) : Int)) = False := eq_false (by omega)
  obtain rfl : s = 2 ^ n := by omega
  ((simp (maxSteps := 1000000) only [VL,VM,↓VG,reduceIte,reduceCtorEq,zA,zB,zC,zD,zE,zF,zG,zH,zI,zJ, c_si, hs256, ry_1, ← hn, i_shl, hm7, k2]); rw [hKn];clear hKn Kn;simp only [QV,reduceIte,reduceCtorEq,Nat.reduceEqDiff])
  ((repeat refine Ws ?_);refine Wf (by first|rfl|simp only [EV,zF,reduceIte]) ?_)
  (((repeat refine Ws ?_);refine W_exit ?_); simp only [QV,reduceIte,reduceCtorEq,Nat.reduceEqDiff])
  ((repeat refine Ws ?_);refine W_regionE T_ok ?_; intro Kn hKn)
  ((simp (maxSteps := 1000000) only [VL,VM,↓VG,reduceIte,reduceCtorEq,zA,zB,zC,zD,zE,zF,zG,zH,zI,zJ]); rw [hKn];clear hKn Kn;simp only [QV,reduceIte,reduceCtorEq,Nat.reduceEqDiff])
  (repeat refine Ws ?_)
  refine W_ret ⟨.inr rfl, rfl, M.H.length + 1, _, rfl, by omega, rfl, rfl, ?_⟩
  rw [hget]
  simp only [List.getElem?_cons_succ, List.getElem?_cons_zero]
  rw [doneL, ← hn, List.map_map]
  rfl
end Go.Proofs.YtkipednlefbfpaaDoor.Vm

/- When sets of carts can be away, plain: as it is computed. -/
namespace Go.Proofs.YtkipednlefbfpaaDoor
def partF (R : Ry) (r : Nat) (t all : List Int) (s : Nat) (m : Int) (q : Nat) : Int :=
 if q &&& mustAt R r = s &&& mustAt R r then min m (max (t.getD q 0) (all.getD (sdiff s q) 0)) else m
def minP (R : Ry) (r : Nat) (t all : List Int) (s : Nat) : Int := (subsTo s s).foldl (partF R r t all s) never
def nextTo (R : Ry) (r : Nat) (t all : List Int) (k : Nat) : List Int := (List.range k).foldl (fun nx s => nx.set s (minP R r t all s)) (List.replicate 128 0)
def allL (R : Ry) : Nat → List Int
 | 0 => 0 :: List.replicate 127 never
 | r + 1 => nextTo R r (doneL R r) (allL R r) (2 ^ R.y.carts.length)
def soonestL (R : Ry) : List Int := allL R R.y.ramps.length
theorem nextTo_len (R : Ry) (r : Nat) (t all : List Int) (k : Nat) : (nextTo R r t all k).length = 128 := by
 unfold nextTo
 generalize List.range k = l
 have : ∀ (l : List Nat) (x : List Int), (l.foldl (fun nx s => nx.set s (minP R r t all s)) x).length = x.length := by
  intro l
  induction l with
  | nil => intro x; rfl
  | cons a l ih => intro x; rw [List.foldl_cons, ih]; simp
 rw [this]; simp
theorem nextTo_succ (R : Ry) (r : Nat) (t all : List Int) (k : Nat) : nextTo R r t all (k + 1) = (nextTo R r t all k).set k (minP R r t all k) := by
 unfold nextTo
 rw [List.range_succ, List.foldl_append]
 rfl
theorem allL_len (R : Ry) : ∀ r, (allL R r).length = 128
 | 0 => by simp [allL]
 | r + 1 => nextTo_len _ _ _ _ _
theorem nextTo_get {R : Ry} {r : Nat} {t all : List Int} : ∀ {k s : Nat}, s < k → k ≤ 128 → (nextTo R r t all k).getD s 0 = minP R r t all s
 | k + 1, s, h, hk => by
  rw [nextTo_succ, List.getD_eq_getElem?_getD, List.getElem?_set]
  by_cases e : k = s
  ·subst e
   rw [if_pos rfl, if_pos (by rw [nextTo_len]; omega)]; rfl
  ·rw [if_neg e, ← List.getD_eq_getElem?_getD]
   exact nextTo_get (by omega) (by omega)
theorem allL_get {R : Ry} {r s : Nat} (hm : R.y.carts.length ≤ 7) (h : s < 2 ^ R.y.carts.length) : (allL R (r + 1)).getD s 0 = minP R r (doneL R r) (allL R r) s := by
 rw [allL]
 exact nextTo_get h (Nat.pow_le_pow_right (n := 2) (by decide) hm)
end Go.Proofs.YtkipednlefbfpaaDoor
