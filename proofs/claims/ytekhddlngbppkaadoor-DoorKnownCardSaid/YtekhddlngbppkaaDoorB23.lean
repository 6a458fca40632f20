/- A part of the proofs about the chapter of the doors; it states no condition of its own. -/
import Derived.Test.YtekhddlngbppkaaDoorB19
import Derived.Test.YtekhddlngbppkaaDoorB22
set_option linter.unusedVariables false
set_option linter.unusedSimpArgs false
open Int renaming reduceLE → zA, reduceLT → zB, reduceToNat → zC, reduceNeg → zD
open Nat renaming reduceLT → zE, reduceEqDiff → zF, reduceAdd → zG, reduceSub → zH, reduceMul → zI, reduceLeDiff → zJ
/- The ways of portions handed out, on values. (Vm) -/
namespace Go.Proofs.YtekhddlngbppkaaDoor.Vm
open Go Go.Proofs
abbrev kitC (k : Kn) : List VV := [intsV k.meals, gisV k.gifts]
structure SBox (k : Kn) (S : List (List Int)) (sv : VV) (tid : Nat) (rid : Nat → Nat) (H : List VObj) : Prop where
 sv : k.meals.length ≠ 0 → sv = .bf tid 0 k.meals.length 1
 tab : k.meals.length ≠ 0 → H[tid]? = some (.obj ((List.range k.meals.length).map fun i => .bf (rid i) 0 k.gifts.length 1))
 row : ∀ m, m < k.meals.length → H[rid m]? = some (.obj ((S.getD m []).map vi))
theorem SBox.app {k : Kn} {S : List (List Int)} {sv : VV} {tid : Nat} {rid : Nat → Nat} {H : List VObj} (w : SBox k S sv tid rid H) (L : List VObj) : SBox k S sv tid rid (H ++ L) :=
 ⟨w.sv, fun h => get_app (w.tab h), fun m hm => get_app (w.row m hm)⟩
structure TBox (k : Kn) (cv : VV) (S : List (List Int)) (sv : VV) (tid : Nat) (rid : Nat → Nat) (kid sid mid : Nat) (H : List VObj) : Prop where
 hk : H[kid]? = some (.obj (kitC k))
 hs : H[sid]? = some (.obj [sv])
 hm : H[mid]? = some (.obj [cv])
 box : SBox k S sv tid rid H
theorem TBox.app {k : Kn} {cv : VV} {S : List (List Int)} {sv : VV} {tid : Nat} {rid : Nat → Nat} {kid sid mid : Nat} {H : List VObj} (w : TBox k cv S sv tid rid kid sid mid H) (L : List VObj) : TBox k cv S sv tid rid kid sid mid (H ++ L) :=
 ⟨get_app w.hk, get_app w.hs, get_app w.hm, w.box.app L⟩
theorem rows_at {M G : Nat} {rid : Nat → Nat} {m : Nat} (hm : m < M) : ((List.range M).map fun i => VV.bf (rid i) 0 G 1)[m]? = some (.bf (rid m) 0 G 1) := by simp [hm]
theorem cell_at {S : List (List Int)} {m g G : Nat} (hr : (S.getD m []).length = G) (hg : g < G) : ((S.getD m []).map vi)[g]? = some (vi (at2 S m g)) := by
 rw [List.getElem?_map, List.getElem?_eq_getElem (by omega)]
 unfold at2
 rw [List.getD_eq_getElem?_getD (l := S.getD m []), List.getElem?_eq_getElem (by omega)]
 rfl
theorem srv_rowl {k : Kn} {S : List (List Int)} (h : Srv k S) {m : Nat} (hm : m < k.meals.length) : (S.getD m []).length = k.gifts.length := by
 rw [List.getD_eq_getElem?_getD, List.getElem?_eq_getElem (by rw [h.len]; exact hm)]
 exact h.row _ (List.getElem_mem _)
set_option maxHeartbeats 1000000 in
set_option maxRecDepth 8000 in
theorem table_it (k : Kn) (V : KV k) {S : List (List Int)} (H : Srv k S) {room : Nat → Nat → Int} {cf : Nat} {cfn : Func} (hcf : T.fn cf = some cfn) (hkc : T.keeps cf = false) {ccaps : List VV} (hcs : ccaps.map strip1 = ccaps) {sv : VV} {tid : Nat} {rid : Nat → Nat} {kid sid mid : Nat} {PkC : List VObj → Prop} (hstab : ∀ A L, PkC A → PkC (A ++ L)) (hroom : ∀ (m g : Nat) (M : Mem), m < 100 → g < 100 → PkC M.H → VC Tryd.prog cf (vi m :: vi g :: ccaps) M (fun r M' => M' = M ∧ r = vi (room m g))) :
  IterOf 51 [.ptr kid 0, .ptr sid 0, .ptr mid 0] ((tabWs k S room).map wayV) (fun A => TBox k (.fn (.func cf) [] ccaps) S sv tid rid kid sid mid A ∧ PkC A) := by
 intro σ id M A good s0 g0 hA hM hPk hy
 obtain ⟨H0, lg⟩ := M
 simp only at hA hM hy
 subst hM
 have hb := fun s L => (hPk s).1.app L
 have vm1 := V.m1
 have vg1 := V.g1
 have hd0 : ((tabWs k S room).map wayV).drop 0 = (giftsWs k.meals.length k.gifts.length S room 0 (k.gifts.drop 0)).map wayV ++ (mealsWs k.gifts.length S 0 k.meals).map wayV := by
  rw [List.drop_zero, List.drop_zero, tabWs, List.map_append]
 generalize (tabWs k S room).map wayV = xs at hy hd0 ⊢
 have hlt_of : ∀ {pos : Nat} {x : VV}, xs[pos]? = some x → pos + 1 ≤ xs.length := fun {pos x} h => by
  rcases Nat.lt_or_ge pos xs.length with q | q
  ·exact q
  ·rw [List.getElem?_eq_none q] at h; cases h
 refine VC_own' T_ok (f := 51) (fn := Tryd.f51) (by kernel_rfl) rfl Tryd.ntmps51 (by rfl) (by rfl) ?_
 have hw0 := (hPk s0).1
 ((repeat refine Ws ?_);refine Wr ?_)
 simp (maxSteps := 1000000) only [VL,VM,↓VG,reduceIte,reduceCtorEq,zA,zB,zC,zD,zE,zF,zG,zH,zI,zJ, hw0.hk]
 ((repeat refine Ws ?_);refine W_block ?_; (repeat refine Ws ?_)); refine W_loopS (fun s : FwSt σ => [(0, .yl id), (1, .ptr kid 0), (2, .ptr sid 0), (3, .ptr mid 0), (15, gisV k.gifts), (16, vi k.gifts.length), (17, vi s.i)]) (fun s => ⟨A s.s ++ s.junk, lg⟩) (fun s => k.gifts.length - s.i) (fun s => s.i ≤ k.gifts.length ∧ s.pos ≤ xs.length ∧ good s.pos s.s ∧ xs.drop s.pos = (giftsWs k.meals.length k.gifts.length S room s.i (k.gifts.drop s.i)).map wayV ++ (mealsWs k.gifts.length S 0 k.meals).map wayV) ⟨s0, 0, 0, []⟩ ⟨Nat.zero_le _, Nat.zero_le _, g0, hd0⟩ ⟨rfl, rfl, rfl, rfl, rfl, rfl, rfl, trivial⟩ (by simp) ?_
 clear hd0 hw0
 rintro ⟨s, pos, i, junk⟩ ⟨hi, hpos, gs, hdr⟩
 simp only at hi hpos gs hdr
 have k1 : -9223372036854775808 ≤ (i : Int) + 1 ∧ (i : Int) + 1 < 9223372036854775808 := by omega
 ((repeat refine Ws ?_);refine Wr ?_)
 rcases Nat.lt_or_ge i k.gifts.length with hlt | hge
 ·have k2 : ((i : Int) < (k.gifts.length : Int)) = True := eq_true (by omega)
  have hx : k.gifts[i]? = some k.gifts[i] := List.getElem?_eq_getElem hlt
  have hdd : k.gifts.drop i = k.gifts[i] :: k.gifts.drop (i + 1) := List.drop_eq_getElem_cons hlt
  have hmem := V.gifts _ (List.getElem_mem hlt)
  generalize k.gifts[i] = x at hx hdd hmem
  have hx' := map_at (f := giP) hx
  rw [hdd, giftsWs, giftWs, List.map_append, List.map_cons, List.append_assoc, List.cons_append] at hdr
  obtain ⟨hx1, hdr⟩ := drop_step hdr
  obtain ⟨rest, hrest⟩ : ∃ rest, rest = (giftsWs k.meals.length k.gifts.length S room (i + 1) (k.gifts.drop (i + 1))).map wayV ++ (mealsWs k.gifts.length S 0 k.meals).map wayV := ⟨_, rfl⟩
  rw [← hrest] at hdr
  obtain ⟨fr, ke, po⟩ := x
  obtain ⟨f0, fk, kk, p0, p1⟩ := hmem
  simp only at f0 fk kk p0 p1 hx1 hdr
  obtain ⟨f, rfl⟩ : ∃ f : Nat, fr = (f : Int) := ⟨fr.toNat, by omega⟩
  obtain ⟨q, rfl⟩ : ∃ q : Nat, ke = (q : Int) := ⟨ke.toNat, by omega⟩
  rw [Int.toNat_natCast, Int.toNat_natCast] at hdr
  simp (maxSteps := 1000000) only [VL,VM,↓VG,reduceIte,reduceCtorEq,zA,zB,zC,zD,zE,zF,zG,zH,zI,zJ, k2]
  ((repeat refine Ws ?_);refine Wt (by first|rfl|simp only [EV,zF,reduceIte]) ?_)
  ((repeat refine Ws ?_);refine W_skip ?_)
  simp (maxSteps := 1000000) only [VL,VM,↓VG,reduceIte,reduceCtorEq,zA,zB,zC,zD,zE,zF,zG,zH,zI,zJ]
  ((repeat refine Ws ?_);refine W_block ?_)
  have hw1 := hb s (junk ++ [VObj.obj [vi (f : Int), vi (q : Int), vi po]])
  have hgo : ∀ (s' : σ) (X : List VObj), (A s' ++ (junk ++ VObj.obj [vi (f : Int), vi (q : Int), vi po] :: X))[(A s).length + junk.length]? = some (.obj [vi (f : Int), vi (q : Int), vi po]) := fun s' X => by
   rw [hA s, ← hA s', List.getElem?_append_right (by omega), Nat.add_sub_cancel_left, List.getElem?_append_right (Nat.le_refl _), Nat.sub_self]
   rfl
  ((repeat refine Ws ?_);refine Wr ?_)
  simp (maxSteps := 1000000) only [VL,VM,↓VG,reduceIte,reduceCtorEq,zA,zB,zC,zD,zE,zF,zG,zH,zI,zJ, hx']
  ((repeat refine Ws ?_);refine Wr ?_)
  simp (maxSteps := 1000000) only [VL,VM,↓VG,reduceIte,reduceCtorEq,zA,zB,zC,zD,zE,zF,zG,zH,zI,zJ, hgo s []]
  ((repeat refine Ws ?_);refine Wr ?_)
  simp (maxSteps := 1000000) only [VL,VM,↓VG,reduceIte,reduceCtorEq,zA,zB,zC,zD,zE,zF,zG,zH,zI,zJ, hw1.hk]
  ((repeat refine Ws ?_);refine W_block ?_; (repeat refine Ws ?_)); refine W_loopS (fun m : Nat => [(0, .yl id), (1, .ptr kid 0), (2, .ptr sid 0), (3, .ptr mid 0), (15, gisV k.gifts), (16, vi k.gifts.length), (17, vi i), (5, vi i), (6, .ptr ((A s).length + junk.length) 0), (7, vi (po - goneT S i m)), (25, intsV k.meals), (26, vi k.meals.length), (27, vi m)]) (fun _ => ⟨A s ++ (junk ++ [VObj.obj [vi (f : Int), vi (q : Int), vi po]]), lg⟩) (fun m => k.meals.length - m) (fun m => m ≤ k.meals.length) 0 (Nat.zero_le _) ⟨rfl, rfl, rfl, rfl, rfl, rfl, rfl, rfl, rfl, by rw [show goneT S i 0 = 0 from rfl, Int.sub_zero]; rfl, rfl, rfl, rfl, trivial⟩ rfl ?_
  intro m hm
  have j1 : -9223372036854775808 ≤ (m : Int) + 1 ∧ (m : Int) + 1 < 9223372036854775808 := by omega
  have hgn := H.gone i m
  ((repeat refine Ws ?_);refine Wr ?_)
  rcases Nat.lt_or_ge m k.meals.length with hlt2 | hge2
  ·have j2 : ((m : Int) < (k.meals.length : Int)) = True := eq_true (by omega)
   have m0 : k.meals.length ≠ 0 := by omega
   have hsv := hw1.box.sv m0
   have htab := hw1.box.tab m0
   have hrow := hw1.box.row m hlt2
   have c1 := rows_at (rid := rid) (G := k.gifts.length) hlt2
   have c2 := cell_at (srv_rowl H hlt2) hlt
   have c3 : (m < k.meals.length) = True := eq_true hlt2
   have c4 : (i < k.gifts.length) = True := eq_true hlt
   have h1 := H.nn m i
   have h2 := H.hi m i
   have j3 : -9223372036854775808 ≤ po - goneT S i m - at2 S m i ∧ po - goneT S i m - at2 S m i < 9223372036854775808 := by omega
   have hnx : goneT S i (m + 1) = goneT S i m + at2 S m i := sumTo_succ _ _
   have hsv2 := hw1.hs
   rw [hsv] at hsv2
   simp (maxSteps := 1000000) only [VL,VM,↓VG,reduceIte,reduceCtorEq,zA,zB,zC,zD,zE,zF,zG,zH,zI,zJ, j2]
   ((repeat refine Ws ?_);refine Wt (by first|rfl|simp only [EV,zF,reduceIte]) ?_)
   ((repeat refine Ws ?_);refine W_skip ?_)
   simp (maxSteps := 1000000) only [VL,VM,↓VG,reduceIte,reduceCtorEq,zA,zB,zC,zD,zE,zF,zG,zH,zI,zJ]
   ((repeat refine Ws ?_);refine W_block ?_)
   ((repeat refine Ws ?_);refine Wr ?_)
   simp (maxSteps := 1000000) only [VL,VM,↓VG,reduceIte,reduceCtorEq,zA,zB,zC,zD,zE,zF,zG,zH,zI,zJ]
   ((repeat refine Ws ?_);refine Wr ?_)
   simp (maxSteps := 1000000) only [VL,VM,↓VG,reduceIte,reduceCtorEq,zA,zB,zC,zD,zE,zF,zG,zH,zI,zJ, hsv2, htab, hrow, c1, c2, c3, c4, j3]
   ((repeat refine Ws ?_);refine Wr ?_)
   simp (maxSteps := 1000000) only [VL,VM,↓VG,reduceIte,reduceCtorEq,zA,zB,zC,zD,zE,zF,zG,zH,zI,zJ, j1]
   refine LoopK.mk (m + 1) (by omega) (by omega) ⟨rfl, rfl, rfl, rfl, rfl, rfl, rfl, rfl, rfl, ?_, rfl, rfl, rfl, trivial⟩ rfl
   rw [hnx, ← Int.sub_sub]; rfl
  have j2 : ((m : Int) < (k.meals.length : Int)) = False := eq_false (by omega)
  have hm3 : m = k.meals.length := by omega
  subst hm3
  simp (maxSteps := 1000000) only [VL,VM,↓VG,reduceIte,reduceCtorEq,zA,zB,zC,zD,zE,zF,zG,zH,zI,zJ, j2]
  ((repeat refine Ws ?_);refine Wf (by first|rfl|simp only [EV,zF,reduceIte]) ?_)
  ((repeat refine Ws ?_);refine W_exit ?_)
  simp (maxSteps := 1000000) only [VL,VM,↓VG,reduceIte,reduceCtorEq,zA,zB,zC,zD,zE,zF,zG,zH,zI,zJ]
  have j4 : -9223372036854775808 ≤ (2 : Int) + (i : Int) ∧ (2 : Int) + (i : Int) < 9223372036854775808 := by omega
  obtain ⟨s2, X2, hyv, hg2⟩ := hy pos _ s (junk ++ [VObj.obj [vi (f : Int), vi (q : Int), vi po]]) hx1 gs
  have hpl := hlt_of hx1
  ((repeat refine Ws ?_);refine Wr ?_)
  simp (maxSteps := 1000000) only [VL,VM,↓VG,reduceIte,reduceCtorEq,zA,zB,zC,zD,zE,zF,zG,zH,zI,zJ, j4]
  refine VCall.mono (by exact hyv) ?_
  rintro _ _ ⟨rfl, rfl⟩
  simp (maxSteps := 1000000) only [VL,VM,↓VG,reduceIte,reduceCtorEq,zA,zB,zC,zD,zE,zF,zG,zH,zI,zJ]
  ((repeat refine Ws ?_);refine Wf (by first|rfl|simp only [EV,zF,reduceIte]) ?_)
  ((repeat refine Ws ?_);refine W_skip ?_)
  simp (maxSteps := 1000000) only [VL,VM,↓VG,reduceIte,reduceCtorEq,zA,zB,zC,zD,zE,zF,zG,zH,zI,zJ]
  ((repeat refine Ws ?_);refine Wr ?_)
  have hgo2 := hgo s2
  rw [show (A s).length = (A s2).length by rw [hA s, hA s2]] at hgo2
  simp (maxSteps := 1000000) only [VL,VM,↓VG,reduceIte,reduceCtorEq,zA,zB,zC,zD,zE,zF,zG,zH,zI,zJ, hgo s2 X2]
  ((repeat refine Ws ?_);refine W_block ?_; (repeat refine Ws ?_)); refine W_loopS (fun z : FwSt σ => [(0, .yl id), (1, .ptr kid 0), (2, .ptr sid 0), (3, .ptr mid 0), (15, gisV k.gifts), (16, vi k.gifts.length), (17, vi i), (5, vi i), (6, .ptr ((A s).length + junk.length) 0), (9, vi ((f + z.i : Nat) : Int))]) (fun z => ⟨A z.s ++ (junk ++ VObj.obj [vi (f : Int), vi (q : Int), vi po] :: z.junk), lg⟩) (fun z => q + 1 - f - z.i) (fun z => z.i ≤ q + 1 - f ∧ z.pos ≤ xs.length ∧ good z.pos z.s ∧ xs.drop z.pos = ((List.range' (f + z.i) (q + 1 - f - z.i)).map fun m => (⟨2 + i, 2 + k.gifts.length + m, room m i⟩ : Wa)).map wayV ++ rest) ⟨s2, pos + 1, 0, X2⟩ ⟨Nat.zero_le _, hpl, hg2, hdr⟩ ⟨rfl, rfl, rfl, rfl, rfl, rfl, rfl, rfl, rfl, rfl, trivial⟩ rfl ?_
  clear hyv hg2 hdr hgo2 hpl j1 j2 hge2 hw1 hgn hm gs hpos hx1
  rintro ⟨s2, pos, j, X⟩ ⟨hj, hpos, gs, hdr⟩
  simp only at hj hpos gs hdr
  ((repeat refine Ws ?_);refine Wr ?_)
  rcases Nat.lt_or_ge (f + j) (q + 1) with hlt3 | hge3
  ·have j2 : (((f + j : Nat) : Int) ≤ (q : Int)) = True := eq_true (by omega)
   have j5 : -9223372036854775808 ≤ ((f + j : Nat) : Int) + 1 ∧ ((f + j : Nat) : Int) + 1 < 9223372036854775808 := by omega
   have j6 : -9223372036854775808 ≤ (2 : Int) + (k.gifts.length : Int) ∧ (2 : Int) + (k.gifts.length : Int) < 9223372036854775808 := by omega
   have j7 : -9223372036854775808 ≤ (2 : Int) + (k.gifts.length : Int) + ((f + j : Nat) : Int) ∧ (2 : Int) + (k.gifts.length : Int) + ((f + j : Nat) : Int) < 9223372036854775808 := by omega
   have zm : f + j < 100 := by omega
   have zi : i < 100 := by omega
   have zj : j + 1 ≤ q + 1 - f := by omega
   have zl : q + 1 - f - (j + 1) < q + 1 - f - j := by omega
   rw [show q + 1 - f - j = (q + 1 - f - (j + 1)) + 1 by omega, List.range'_succ, List.map_cons, List.map_cons, List.cons_append] at hdr
   obtain ⟨hx2, hdr⟩ := drop_step hdr
   have hpl := hlt_of hx2
   have hdr4 : xs.drop (pos + 1) = ((List.range' (f + (j + 1)) (q + 1 - f - (j + 1))).map fun m => (⟨2 + i, 2 + k.gifts.length + m, room m i⟩ : Wa)).map wayV ++ rest := by
    rw [← Nat.add_assoc]; exact hdr
   have hw2 := hb s2 (junk ++ VObj.obj [vi (f : Int), vi (q : Int), vi po] :: X)
   have hpc := hstab _ (junk ++ VObj.obj [vi (f : Int), vi (q : Int), vi po] :: X) (hPk s2).2
   obtain ⟨s3, X3, hyv, hg3⟩ := hy pos _ s2 (junk ++ VObj.obj [vi (f : Int), vi (q : Int), vi po] :: X) hx2 gs
   simp (maxSteps := 1000000) only [VL,VM,↓VG,reduceIte,reduceCtorEq,zA,zB,zC,zD,zE,zF,zG,zH,zI,zJ, hgo s2 X, j2]
   ((repeat refine Ws ?_);refine Wt (by first|rfl|simp only [EV,zF,reduceIte]) ?_)
   ((repeat refine Ws ?_);refine W_skip ?_)
   simp (maxSteps := 1000000) only [VL,VM,↓VG,reduceIte,reduceCtorEq,zA,zB,zC,zD,zE,zF,zG,zH,zI,zJ]
   ((repeat refine Ws ?_);refine W_block ?_)
   (repeat refine Ws ?_)
   refine W_drawP T_ok [] (by kernel_rfl) (by kernel_rfl) ?_
   generalize hi : mkPlan _ = infs
   cbv at hi
   subst hi
   simp (maxSteps := 1000000) only [VL,VM,↓VG,reduceIte,reduceCtorEq,zA,zB,zC,zD,zE,zF,zG,zH,zI,zJ, j4, j6, j7, hw2.hk, hw2.hm]
   refine callf_d (M1 := ⟨A s2 ++ (junk ++ VObj.obj [vi (f : Int), vi (q : Int), vi po] :: X), lg⟩) (v := vi (room (f + j) i)) hcf hkc (by simpa [strip1, hcs] using hroom (f + j) i ⟨A s2 ++ (junk ++ VObj.obj [vi (f : Int), vi (q : Int), vi po] :: X), lg⟩ zm zi hpc) ?_
   simp (maxSteps := 1000000) only [VL,VM,↓VG,reduceIte,reduceCtorEq,zA,zB,zC,zD,zE,zF,zG,zH,zI,zJ, j4, j6, j7, hw2.hk, hw2.hm]
   refine ⟨vb true, ⟨A s3 ++ ((junk ++ VObj.obj [vi (f : Int), vi (q : Int), vi po] :: X) ++ X3), lg⟩, by exact hyv, ?_⟩
   simp (maxSteps := 1000000) only [VL,VM,↓VG,reduceIte,reduceCtorEq,zA,zB,zC,zD,zE,zF,zG,zH,zI,zJ]
   ((repeat refine Ws ?_);refine Wf (by first|rfl|simp only [EV,zF,reduceIte]) ?_)
   ((repeat refine Ws ?_);refine W_skip ?_)
   simp (maxSteps := 1000000) only [VL,VM,↓VG,reduceIte,reduceCtorEq,zA,zB,zC,zD,zE,zF,zG,zH,zI,zJ]
   ((repeat refine Ws ?_);refine Wr ?_)
   simp (maxSteps := 1000000) only [VL,VM,↓VG,reduceIte,reduceCtorEq,zA,zB,zC,zD,zE,zF,zG,zH,zI,zJ, j5]
   refine LoopK.mk ⟨s3, pos + 1, j + 1, X ++ X3⟩ zl ⟨zj, hpl, hg3, (by simp only [Nat.add_assoc] at hdr4 ⊢; exact hdr4)⟩ ⟨rfl, rfl, rfl, rfl, rfl, rfl, rfl, rfl, rfl, rfl, trivial⟩ rfl
  have j2 : (((f + j : Nat) : Int) ≤ (q : Int)) = False := eq_false (by omega)
  rw [show q + 1 - f - j = 0 by omega] at hdr
  simp only [List.range'_zero, List.map_nil, List.nil_append] at hdr
  simp (maxSteps := 1000000) only [VL,VM,↓VG,reduceIte,reduceCtorEq,zA,zB,zC,zD,zE,zF,zG,zH,zI,zJ, hgo s2 X, j2]
  ((repeat refine Ws ?_);refine Wf (by first|rfl|simp only [EV,zF,reduceIte]) ?_)
  ((repeat refine Ws ?_);refine W_exit ?_)
  simp (maxSteps := 1000000) only [VL,VM,↓VG,reduceIte,reduceCtorEq,zA,zB,zC,zD,zE,zF,zG,zH,zI,zJ]
  ((repeat refine Ws ?_);refine Wr ?_)
  simp (maxSteps := 1000000) only [VL,VM,↓VG,reduceIte,reduceCtorEq,zA,zB,zC,zD,zE,zF,zG,zH,zI,zJ, k1]
  refine LoopK.mk ⟨s2, pos, i + 1, junk ++ VObj.obj [vi (f : Int), vi (q : Int), vi po] :: X⟩ (by simp only; omega) ⟨by simp only; omega, hpos, gs, by rw [hdr, hrest]⟩ ⟨rfl, rfl, rfl, rfl, rfl, rfl, rfl, trivial⟩ rfl
 have k2 : ((i : Int) < (k.gifts.length : Int)) = False := eq_false (by omega)
 have hi3 : i = k.gifts.length := by omega
 subst hi3
 have hsn : k.gifts.drop k.gifts.length = [] := List.drop_length
 rw [hsn, giftsWs, List.map_nil, List.nil_append] at hdr
 simp (maxSteps := 1000000) only [VL,VM,↓VG,reduceIte,reduceCtorEq,zA,zB,zC,zD,zE,zF,zG,zH,zI,zJ, k2]
 ((repeat refine Ws ?_);refine Wf (by first|rfl|simp only [EV,zF,reduceIte]) ?_)
 ((repeat refine Ws ?_);refine W_exit ?_)
 simp (maxSteps := 1000000) only [VL,VM,↓VG,reduceIte,reduceCtorEq,zA,zB,zC,zD,zE,zF,zG,zH,zI,zJ]
 have hw := hb s junk
 ((repeat refine Ws ?_);refine Wr ?_)
 simp (maxSteps := 1000000) only [VL,VM,↓VG,reduceIte,reduceCtorEq,zA,zB,zC,zD,zE,zF,zG,zH,zI,zJ, hw.hk]
 have hd0 : xs.drop pos = (mealsWs k.gifts.length S 0 (k.meals.drop 0)).map wayV := hdr
 ((repeat refine Ws ?_);refine W_block ?_; (repeat refine Ws ?_)); refine W_loopS (fun s : FwSt σ => [(0, .yl id), (1, .ptr kid 0), (2, .ptr sid 0), (3, .ptr mid 0), (73, intsV k.meals), (74, vi k.meals.length), (75, vi s.i)]) (fun s => ⟨A s.s ++ s.junk, lg⟩) (fun s => k.meals.length - s.i) (fun s => s.i ≤ k.meals.length ∧ s.pos ≤ xs.length ∧ good s.pos s.s ∧ xs.drop s.pos = (mealsWs k.gifts.length S s.i (k.meals.drop s.i)).map wayV) ⟨s, pos, 0, junk⟩ ⟨Nat.zero_le _, hpos, gs, hd0⟩ ⟨rfl, rfl, rfl, rfl, rfl, rfl, rfl, trivial⟩ rfl ?_
 clear hd0 hw hdr gs hpos hsn hge k2 k1 hi
 rintro ⟨s, pos, m, junk⟩ ⟨hi, hpos, gs, hdr⟩
 simp only at hi hpos gs hdr
 have k1 : -9223372036854775808 ≤ (m : Int) + 1 ∧ (m : Int) + 1 < 9223372036854775808 := by omega
 have hw := hb s junk
 ((repeat refine Ws ?_);refine Wr ?_)
 rcases Nat.lt_or_ge m k.meals.length with hlt | hge
 ·have k2 : ((m : Int) < (k.meals.length : Int)) = True := eq_true (by omega)
  have hx : k.meals[m]? = some k.meals[m] := List.getElem?_eq_getElem hlt
  have hdd : k.meals.drop m = k.meals[m] :: k.meals.drop (m + 1) := List.drop_eq_getElem_cons hlt
  have hmem := V.meals _ (List.getElem_mem hlt)
  generalize k.meals[m] = n at hx hdd hmem
  have hx' := map_at (f := intP) hx
  rw [hdd, mealsWs, List.map_cons] at hdr
  obtain ⟨hx1, hdr⟩ := drop_step hdr
  have hpl := hlt_of hx1
  have m0 : k.meals.length ≠ 0 := by omega
  have hsv := hw.box.sv m0
  have htab := hw.box.tab m0
  have hrow := hw.box.row m hlt
  have c1 := rows_at (rid := rid) (G := k.gifts.length) hlt
  have c3 : (m < k.meals.length) = True := eq_true hlt
  have hsv2 := hw.hs
  rw [hsv] at hsv2
  simp (maxSteps := 1000000) only [VL,VM,↓VG,reduceIte,reduceCtorEq,zA,zB,zC,zD,zE,zF,zG,zH,zI,zJ, k2]
  ((repeat refine Ws ?_);refine Wt (by first|rfl|simp only [EV,zF,reduceIte]) ?_)
  ((repeat refine Ws ?_);refine W_skip ?_)
  simp (maxSteps := 1000000) only [VL,VM,↓VG,reduceIte,reduceCtorEq,zA,zB,zC,zD,zE,zF,zG,zH,zI,zJ]
  ((repeat refine Ws ?_);refine W_block ?_)
  ((repeat refine Ws ?_);refine Wr ?_)
  simp (maxSteps := 1000000) only [VL,VM,↓VG,reduceIte,reduceCtorEq,zA,zB,zC,zD,zE,zF,zG,zH,zI,zJ, hx']
  ((repeat refine Ws ?_);refine Wr ?_)
  simp (maxSteps := 1000000) only [VL,VM,↓VG,reduceIte,reduceCtorEq,zA,zB,zC,zD,zE,zF,zG,zH,zI,zJ, hsv2, htab, hrow, c1, c3]
  ((repeat refine Ws ?_);refine W_block ?_; (repeat refine Ws ?_)); refine W_loopS (fun g : Nat => [(0, .yl id), (1, .ptr kid 0), (2, .ptr sid 0), (3, .ptr mid 0), (73, intsV k.meals), (74, vi k.meals.length), (75, vi m), (10, vi m), (11, vi (n - eatenT S m g)), (83, .bf (rid m) 0 k.gifts.length 1), (84, vi k.gifts.length), (85, vi g)]) (fun _ => ⟨A s ++ junk, lg⟩) (fun g => k.gifts.length - g) (fun g => g ≤ k.gifts.length) 0 (Nat.zero_le _) ⟨rfl, rfl, rfl, rfl, rfl, rfl, rfl, rfl, by rw [show eatenT S m 0 = 0 from rfl, Int.sub_zero]; rfl, rfl, rfl, rfl, trivial⟩ rfl ?_
  intro g hg
  have j1 : -9223372036854775808 ≤ (g : Int) + 1 ∧ (g : Int) + 1 < 9223372036854775808 := by omega
  have hgn := H.eaten m g
  ((repeat refine Ws ?_);refine Wr ?_)
  rcases Nat.lt_or_ge g k.gifts.length with hlt2 | hge2
  ·have j2 : ((g : Int) < (k.gifts.length : Int)) = True := eq_true (by omega)
   have c2 := cell_at (srv_rowl H hlt) hlt2
   have c4 : (g < k.gifts.length) = True := eq_true hlt2
   have h1 := H.nn m g
   have h2 := H.hi m g
   have j3 : -9223372036854775808 ≤ n - eatenT S m g - at2 S m g ∧ n - eatenT S m g - at2 S m g < 9223372036854775808 := by omega
   have hnx : eatenT S m (g + 1) = eatenT S m g + at2 S m g := sumTo_succ _ _
   simp (maxSteps := 1000000) only [VL,VM,↓VG,reduceIte,reduceCtorEq,zA,zB,zC,zD,zE,zF,zG,zH,zI,zJ, j2]
   ((repeat refine Ws ?_);refine Wt (by first|rfl|simp only [EV,zF,reduceIte]) ?_)
   ((repeat refine Ws ?_);refine W_skip ?_)
   simp (maxSteps := 1000000) only [VL,VM,↓VG,reduceIte,reduceCtorEq,zA,zB,zC,zD,zE,zF,zG,zH,zI,zJ]
   ((repeat refine Ws ?_);refine W_block ?_)
   ((repeat refine Ws ?_);refine Wr ?_)
   simp (maxSteps := 1000000) only [VL,VM,↓VG,reduceIte,reduceCtorEq,zA,zB,zC,zD,zE,zF,zG,zH,zI,zJ, hrow, c2, c4]
   ((repeat refine Ws ?_);refine Wr ?_)
   simp (maxSteps := 1000000) only [VL,VM,↓VG,reduceIte,reduceCtorEq,zA,zB,zC,zD,zE,zF,zG,zH,zI,zJ, j3]
   ((repeat refine Ws ?_);refine Wr ?_)
   simp (maxSteps := 1000000) only [VL,VM,↓VG,reduceIte,reduceCtorEq,zA,zB,zC,zD,zE,zF,zG,zH,zI,zJ, j1]
   refine LoopK.mk (g + 1) (by omega) (by omega) ⟨rfl, rfl, rfl, rfl, rfl, rfl, rfl, rfl, ?_, rfl, rfl, rfl, trivial⟩ rfl
   rw [hnx, ← Int.sub_sub]; rfl
  have j2 : ((g : Int) < (k.gifts.length : Int)) = False := eq_false (by omega)
  have hm3 : g = k.gifts.length := by omega
  subst hm3
  simp (maxSteps := 1000000) only [VL,VM,↓VG,reduceIte,reduceCtorEq,zA,zB,zC,zD,zE,zF,zG,zH,zI,zJ, j2]
  ((repeat refine Ws ?_);refine Wf (by first|rfl|simp only [EV,zF,reduceIte]) ?_)
  ((repeat refine Ws ?_);refine W_exit ?_)
  simp (maxSteps := 1000000) only [VL,VM,↓VG,reduceIte,reduceCtorEq,zA,zB,zC,zD,zE,zF,zG,zH,zI,zJ]
  have j6 : -9223372036854775808 ≤ (2 : Int) + (k.gifts.length : Int) ∧ (2 : Int) + (k.gifts.length : Int) < 9223372036854775808 := by omega
  have j7 : -9223372036854775808 ≤ (2 : Int) + (k.gifts.length : Int) + (m : Int) ∧ (2 : Int) + (k.gifts.length : Int) + (m : Int) < 9223372036854775808 := by omega
  obtain ⟨s2, X2, hyv, hg2⟩ := hy pos _ s junk hx1 gs
  have zl : k.meals.length - (m + 1) < k.meals.length - m := by omega
  ((repeat refine Ws ?_);refine Wr ?_)
  simp (maxSteps := 1000000) only [VL,VM,↓VG,reduceIte,reduceCtorEq,zA,zB,zC,zD,zE,zF,zG,zH,zI,zJ, j6, j7, hw.hk]
  refine VCall.mono (by exact hyv) ?_
  rintro _ _ ⟨rfl, rfl⟩
  simp (maxSteps := 1000000) only [VL,VM,↓VG,reduceIte,reduceCtorEq,zA,zB,zC,zD,zE,zF,zG,zH,zI,zJ]
  ((repeat refine Ws ?_);refine Wf (by first|rfl|simp only [EV,zF,reduceIte]) ?_)
  ((repeat refine Ws ?_);refine W_skip ?_)
  simp (maxSteps := 1000000) only [VL,VM,↓VG,reduceIte,reduceCtorEq,zA,zB,zC,zD,zE,zF,zG,zH,zI,zJ]
  ((repeat refine Ws ?_);refine Wr ?_)
  simp (maxSteps := 1000000) only [VL,VM,↓VG,reduceIte,reduceCtorEq,zA,zB,zC,zD,zE,zF,zG,zH,zI,zJ, k1]
  refine LoopK.mk ⟨s2, pos + 1, m + 1, junk ++ X2⟩ zl ⟨hlt, hpl, hg2, hdr⟩ ⟨rfl, rfl, rfl, rfl, rfl, rfl, rfl, trivial⟩ rfl
 have k2 : ((m : Int) < (k.meals.length : Int)) = False := eq_false (by omega)
 simp (maxSteps := 1000000) only [VL,VM,↓VG,reduceIte,reduceCtorEq,zA,zB,zC,zD,zE,zF,zG,zH,zI,zJ, k2]
 ((repeat refine Ws ?_);refine Wf (by first|rfl|simp only [EV,zF,reduceIte]) ?_)
 ((repeat refine Ws ?_);refine W_exit ?_)
 simp (maxSteps := 1000000) only [VL,VM,↓VG,reduceIte,reduceCtorEq,zA,zB,zC,zD,zE,zF,zG,zH,zI,zJ]
 have hend : pos = xs.length := by
  have ht2 : m = k.meals.length := by omega
  rw [ht2, List.drop_length, mealsWs, List.map_nil] at hdr
  have h3 : xs.length - pos = 0 := by rw [← List.length_drop, hdr]; rfl
  omega
 subst hend
 exact ⟨.inl rfl, rfl, ⟨[], by simp, by simp⟩, A s, junk, rfl, by rw [hA s, hA s0], [], rfl, .tup [], rfl, by intro x hx; simp [refs, refsL] at hx, s, rfl, gs⟩
end Go.Proofs.YtekhddlngbppkaaDoor.Vm

/- How much more can be eaten, on values. (Vm) -/
namespace Go.Proofs.YtekhddlngbppkaaDoor.Vm
open Go Go.Proofs
theorem room_v (meal gift : Int) (m g a b : Nat) (M : Mem) (ha : M.H[a]? = some (.obj [vi meal])) (hb : M.H[b]? = some (.obj [vi gift])) : VC Tryd.prog 39 [vi m, vi g, .ptr a 0, .ptr b 0] M (fun r M' => M' = M ∧ r = vi (roomOf meal gift m g)) := by
 refine VC_own' T_ok (f := 39) (fn := Tryd.f39) (by kernel_rfl) rfl Tryd.ntmps39 (by rfl) (by rfl) ?_
 ((repeat refine Ws ?_);refine Wr ?_)
 simp (maxSteps := 1000000) only [VL,VM,↓VG,reduceIte,reduceCtorEq,zA,zB,zC,zD,zE,zF,zG,zH,zI,zJ]
 ((repeat refine Ws ?_);refine Wr ?_)
 by_cases h1 : (m : Int) < meal
 ·have k1 : ((m : Int) < meal) = True := eq_true h1
  simp (maxSteps := 1000000) only [VL,VM,↓VG,reduceIte,reduceCtorEq,zA,zB,zC,zD,zE,zF,zG,zH,zI,zJ, ha, hb, k1]
  ((repeat refine Ws ?_);refine Wt (by first|rfl|simp only [EV,zF,reduceIte]) ?_)
  ((repeat refine Ws ?_);refine Wr ?_)
  simp (maxSteps := 1000000) only [VL,VM,↓VG,reduceIte,reduceCtorEq,zA,zB,zC,zD,zE,zF,zG,zH,zI,zJ]
  (repeat refine Ws ?_)
  refine W_ret ?_
  try simp only [thenQ, blockQ]
  refine own_ret10 rfl ?_ (by rfl)
  simp only [get_cons, frz, vtup, Nat.reduceEqDiff, if_true, if_false, reduceIte]
  unfold roomOf
  rw [if_pos (.inl h1)]
 have k1 : ((m : Int) < meal) = False := eq_false h1
 by_cases h2 : (m : Int) = meal
 ·have k2 : ((m : Int) = meal) = True := eq_true h2
  by_cases h3 : (g : Int) ≤ gift
  ·have k3 : ((g : Int) ≤ gift) = True := eq_true h3
   simp (maxSteps := 1000000) only [VL,VM,↓VG,reduceIte,reduceCtorEq,zA,zB,zC,zD,zE,zF,zG,zH,zI,zJ, ha, hb, k1, k2, k3]
   ((repeat refine Ws ?_);refine Wt (by first|rfl|simp only [EV,zF,reduceIte]) ?_)
   ((repeat refine Ws ?_);refine Wr ?_)
   simp (maxSteps := 1000000) only [VL,VM,↓VG,reduceIte,reduceCtorEq,zA,zB,zC,zD,zE,zF,zG,zH,zI,zJ]
   (repeat refine Ws ?_)
   refine W_ret ?_
   try simp only [thenQ, blockQ]
   refine own_ret10 rfl ?_ (by rfl)
   simp only [get_cons, frz, vtup, Nat.reduceEqDiff, if_true, if_false, reduceIte]
   unfold roomOf
   rw [if_pos (.inr ⟨h2, h3⟩)]
  have k3 : ((g : Int) ≤ gift) = False := eq_false h3
  simp (maxSteps := 1000000) only [VL,VM,↓VG,reduceIte,reduceCtorEq,zA,zB,zC,zD,zE,zF,zG,zH,zI,zJ, ha, hb, k1, k2, k3]
  ((repeat refine Ws ?_);refine Wf (by first|rfl|simp only [EV,zF,reduceIte]) ?_)
  ((repeat refine Ws ?_);refine W_skip ?_)
  simp (maxSteps := 1000000) only [VL,VM,↓VG,reduceIte,reduceCtorEq,zA,zB,zC,zD,zE,zF,zG,zH,zI,zJ]
  ((repeat refine Ws ?_);refine Wr ?_)
  simp (maxSteps := 1000000) only [VL,VM,↓VG,reduceIte,reduceCtorEq,zA,zB,zC,zD,zE,zF,zG,zH,zI,zJ]
  (repeat refine Ws ?_)
  refine W_ret ?_
  try simp only [thenQ, blockQ]
  refine own_ret10 rfl ?_ (by rfl)
  simp only [get_cons, frz, vtup, Nat.reduceEqDiff, if_true, if_false, reduceIte]
  unfold roomOf
  rw [if_neg (by omega)]
 have k2 : ((m : Int) = meal) = False := eq_false h2
 simp (maxSteps := 1000000) only [VL,VM,↓VG,reduceIte,reduceCtorEq,zA,zB,zC,zD,zE,zF,zG,zH,zI,zJ, ha, hb, k1, k2]
 ((repeat refine Ws ?_);refine Wf (by first|rfl|simp only [EV,zF,reduceIte]) ?_)
 ((repeat refine Ws ?_);refine W_skip ?_)
 simp (maxSteps := 1000000) only [VL,VM,↓VG,reduceIte,reduceCtorEq,zA,zB,zC,zD,zE,zF,zG,zH,zI,zJ]
 ((repeat refine Ws ?_);refine Wr ?_)
 simp (maxSteps := 1000000) only [VL,VM,↓VG,reduceIte,reduceCtorEq,zA,zB,zC,zD,zE,zF,zG,zH,zI,zJ]
 (repeat refine Ws ?_)
 refine W_ret ?_
 try simp only [thenQ, blockQ]
 refine own_ret10 rfl ?_ (by rfl)
 simp only [get_cons, frz, vtup, Nat.reduceEqDiff, if_true, if_false, reduceIte]
 unfold roomOf
 rw [if_neg (by omega)]
abbrev tableV (n : Nat) : VV := .fn (.func 51) [] [.ptr n 0, .ptr (n + 1) 0, .ptr (n + 2) 0]
theorem table_v (k : Kn) (sv : VV) (cf : Nat) (ccaps : List VV) (hc : isCell sv = true) (hcs : cellsOf sv = [sv]) (M : Mem) : VC Tryd.prog 38 [kitV k, sv, .fn (.func cf) [] ccaps] M (fun r M' => M' = ⟨M.H ++ [.obj (kitC k), .obj [sv], .obj [.fn (.func cf) [] ccaps]], M.lg⟩ ∧ r = tableV M.H.length) := by
 refine VC_escK T_ok (f := 38) (fn := Tryd.f38) (by kernel_rfl) rfl Tryd.ntmps38 (by rfl) (by rfl) ?_
 ((repeat refine Ws ?_);refine Wr ?_)
 simp (maxSteps := 1000000) only [VL,VM,↓VG,reduceIte,reduceCtorEq,zA,zB,zC,zD,zE,zF,zG,zH,zI,zJ]
 rw [hcs]
 refine ⟨by simp [hc], ?_⟩
 ((repeat refine Ws ?_);refine Wr ?_)
 simp (maxSteps := 1000000) only [VL,VM,↓VG,reduceIte,reduceCtorEq,zA,zB,zC,zD,zE,zF,zG,zH,zI,zJ]
 (repeat refine Ws ?_)
 refine W_ret ?_
 try simp only [thenQ, blockQ]
 refine ⟨.inr trivial, _, rfl, [tableV M.H.length], rfl, ⟨M.H.length, ?_, Nat.le_refl _⟩, rfl, rfl⟩
 simp [vtup, frz, frzL, refs, refsL]
set_option maxHeartbeats 1000000 in
set_option maxRecDepth 8000 in
theorem fed_v (k : Kn) (V : KV k) {S : List (List Int)} (H : Srv k S) (F : Fits k S) (meal gift : Int) {sv : VV} {tid : Nat} {rid : Nat → Nat} {kid sid : Nat} (hc : isCell (strip1 sv) = true) (hcs : cellsOf (strip1 sv) = [strip1 sv]) (M : Mem) (hk : M.H[kid]? = some (.obj (kitC k))) (hsv : M.H[sid]? = some (.obj [sv])) (hB : SBox k S (strip1 sv) tid rid M.H) :
  VC Tryd.prog 36 [vi meal, vi gift, .ptr kid 0, .ptr sid 0] M (fun r M' => M' = M ∧ r = vi (fedV k S meal gift)) := by
 have vm1 := V.m1
 have vg1 := V.g1
 have j1 : -9223372036854775808 ≤ (2 : Int) + (k.gifts.length : Int) ∧ (2 : Int) + (k.gifts.length : Int) < 9223372036854775808 := by omega
 have j2 : -9223372036854775808 ≤ (2 : Int) + (k.gifts.length : Int) + (k.meals.length : Int) ∧ (2 : Int) + (k.gifts.length : Int) + (k.meals.length : Int) < 9223372036854775808 := by omega
 have hk1 : ∀ L, (M.H ++ L)[kid]? = some (.obj (kitC k)) := fun L => get_app hk
 have hs1 : ∀ L, (M.H ++ L)[sid]? = some (.obj [sv]) := fun L => get_app hsv
 obtain ⟨M2, hM2⟩ : ∃ M2 : Mem, M2 = ⟨M.H ++ [.obj [vi meal], .obj [vi gift]], M.lg⟩ := ⟨_, rfl⟩
 refine VC_own' T_ok (f := 36) (fn := Tryd.f36) (by kernel_rfl) rfl Tryd.ntmps36 (by rfl) (by rfl) ?_
 ((repeat refine Ws ?_);refine Wr ?_)
 simp (maxSteps := 1000000) only [VL,VM,↓VG,reduceIte,reduceCtorEq,zA,zB,zC,zD,zE,zF,zG,zH,zI,zJ]
 (repeat refine Ws ?_)
 refine W_drawP T_ok [] (by kernel_rfl) (by kernel_rfl) ?_
 generalize hi : mkPlan _ = infs
 cbv at hi
 subst hi
 simp (maxSteps := 1000000) only [VL,VM,↓VG,reduceIte,reduceCtorEq,zA,zB,zC,zD,zE,zF,zG,zH,zI,zJ, hk1, hs1, j1, j2]
 refine callf_d (f := 38) (fn := Tryd.f38) (caps := []) (M1 := ⟨M.H ++ [.obj [vi meal], .obj [vi gift]] ++ [.obj (kitC k), .obj [strip1 sv], .obj [.fn (.func 39) [] [.ptr M.H.length 0, .ptr (M.H.length + 1) 0]]], M.lg⟩) (v := tableV (M.H ++ [VObj.obj [vi meal], .obj [vi gift]]).length) (by kernel_rfl) (by rfl) ?_ ?_
 ·have := table_v k (strip1 sv) 39 [.ptr M.H.length 0, .ptr (M.H.length + 1) 0] hc hcs ⟨M.H ++ [.obj [vi meal], .obj [vi gift]], M.lg⟩
  show VC Tryd.prog 38 [kitV k, strip1 sv, .fn (.func 39) [] [.ptr M.H.length 0, .ptr (M.H.length + 1) 0]] _ _
  exact this
 simp (maxSteps := 1000000) only [VL,VM,↓VG,reduceIte,reduceCtorEq,zA,zB,zC,zD,zE,zF,zG,zH,zI,zJ, hk1, hs1, j1, j2]
 have hN : (2 : Int) + (k.gifts.length : Int) + (k.meals.length : Int) = ((2 + k.gifts.length + k.meals.length : Nat) : Int) := by push_cast; rfl
 rw [hN]
 have hit := @table_it k V S H (roomOf meal gift) 39 Tryd.f39 (by kernel_rfl) (by rfl) [.ptr M.H.length 0, .ptr (M.H.length + 1) 0] rfl (strip1 sv) tid rid (M.H.length + 2) (M.H.length + 2 + 1) (M.H.length + 2 + 2) (fun A => A[M.H.length]? = some (.obj [vi meal]) ∧ A[M.H.length + 1]? = some (.obj [vi gift])) (fun A L q => ⟨get_app q.1, get_app q.2⟩) (fun m g M' _ _ q => room_v meal gift m g _ _ M' q.1 q.2)
 have hrm : ∀ m g, 0 ≤ roomOf meal gift m g ∧ roomOf meal gift m g ≤ 1073741824 := fun m g => by unfold roomOf; split <;> omega
 apply call_d (f := 37) (fn := Tryd.f37) (by kernel_rfl) (by rfl)
 ·exact flow_v (fi := 51) (fni := Tryd.f51) (by kernel_rfl) (by rfl) (by rfl) (@hit) (fun A L q => ⟨q.1.app L, get_app q.2.1, get_app q.2.2⟩) (by omega) (by omega) (tabWs_ok V H F hrm) (tabWs_len V) _ ⟨⟨by simp only [hget]; rfl, by simp only [Nat.add_assoc, hget]; rfl, by simp only [Nat.add_assoc, hget]; rfl, hB.app _⟩, by simp only [hget0]; rfl, by simp only [hget]; rfl⟩
 simp (maxSteps := 1000000) only [VL,VM,↓VG,reduceIte,reduceCtorEq,zA,zB,zC,zD,zE,zF,zG,zH,zI,zJ, hk1, hs1, j1, j2]
 ((repeat refine Ws ?_);refine Wr ?_)
 simp (maxSteps := 1000000) only [VL,VM,↓VG,reduceIte,reduceCtorEq,zA,zB,zC,zD,zE,zF,zG,zH,zI,zJ]
 (repeat refine Ws ?_)
 refine W_ret ?_
 try simp only [thenQ, blockQ]
 refine own_ret1 rfl ?_ (by rfl)
 simp only [get_cons, frz, vtup, Nat.reduceEqDiff, if_true, if_false, reduceIte]
 simp only [fedV, Nat.add_assoc]
end Go.Proofs.YtekhddlngbppkaaDoor.Vm
