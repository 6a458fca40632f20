/- A part of the proofs about the chapter of the doors; it states no condition of its own. -/
import Derived.Test.YtekhddlngbppkaaDoorB19
set_option linter.unusedVariables false
set_option linter.unusedSimpArgs false
open Int renaming reduceLE → zA, reduceLT → zB, reduceToNat → zC, reduceNeg → zD
open Nat renaming reduceLT → zE, reduceEqDiff → zF, reduceAdd → zG, reduceSub → zH, reduceMul → zI, reduceLeDiff → zJ
/- The ways handed out, on values. (Vm) -/
namespace Go.Proofs.YtekhddlngbppkaaDoor.Vm
open Go Go.Proofs
theorem drop_step {α : Type} {xs : List α} {pos : Nat} {x : α} {R : List α} (h : xs.drop pos = x :: R) : xs[pos]? = some x ∧ xs.drop (pos + 1) = R := by
 have h1 : (xs.drop pos)[0]? = some x := by rw [h]; rfl
 rw [List.getElem?_drop, Nat.add_zero] at h1
 refine ⟨h1, ?_⟩
 have h2 : (xs.drop pos).drop 1 = R := by rw [h]; rfl
 rwa [List.drop_drop] at h2
structure WBox (h : Ho) (cv : VV) (ticks : Nat) (closed : List Int) (hid cid tid xid : Nat) (H : List VObj) : Prop where
 hh : H[hid]? = some (.obj (houseC h))
 hc : H[cid]? = some (.obj [cv])
 ht : H[tid]? = some (.obj [vi ticks])
 hx : H[xid]? = some (.obj [intsV closed])
theorem WBox.app {h : Ho} {cv : VV} {ticks : Nat} {closed : List Int} {hid cid tid xid : Nat} {H : List VObj} (w : WBox h cv ticks closed hid cid tid xid H) (L : List VObj) : WBox h cv ticks closed hid cid tid xid (H ++ L) := by
 have k : ∀ {i : Nat} {o : VObj}, H[i]? = some o → (H ++ L)[i]? = some o := fun {i o} hi => by
  have hl : i < H.length := by
   rcases Nat.lt_or_ge i H.length with q | q
   ·exact q
   ·rw [List.getElem?_eq_none q] at hi; cases hi
  rw [List.getElem?_append_left hl]; exact hi
 exact ⟨k w.hh, k w.hc, k w.ht, k w.hx⟩
theorem callf_d {f : Nat} {fn : Func} {args caps : List VV} {M M1 : Mem} {v : VV} (hf : T.fn f = some fn) (hk : T.keeps f = false) (h : VC Tryd.prog f ((args ++ caps).map strip1) M (fun r M' => M' = M1 ∧ r = v)) {R : VV → Mem → Prop} (hq : R v M1) : DCallK Tryd.prog (.fn (.func f) [] caps) args M R := by
 refine ⟨v, M1, ?_, hq⟩
 refine VCall_fn T_ok hf ?_
 have : (sarg T f) = strip1 := funext fun v => by simp [sarg, hk]
 rw [this, List.nil_append]
 exact h.mono fun r M' e => ⟨e.2, e.1⟩
theorem callf_u {f : Nat} {fn : Func} {args caps : List VV} {M M1 : Mem} {v : VV} (hf : T.fn f = some fn) (hk : T.keeps f = false) (h : VC Tryd.prog f ((args ++ caps).map strip1) M (fun r M' => M' = M1 ∧ r = v)) {R : VV → Mem → Prop} (hq : R v M1) : VCall Tryd.prog (.fn (.func f) [] caps) args M R := by
 refine VCall_fn T_ok hf ?_
 have : (sarg T f) = strip1 := funext fun v => by simp [sarg, hk]
 rw [this, List.nil_append]
 exact h.mono fun r M' e => by obtain ⟨rfl, rfl⟩ := e; exact hq
theorem find_from (l : List Int) (x : Int) (i : Nat) (h : ∀ j, j < i → l[j]? ≠ some x) : (l.contains x = true ↔ ∃ j, i ≤ j ∧ l[j]? = some x) := by
 rw [List.contains_iff_mem, List.mem_iff_getElem?]
 constructor
 ·rintro ⟨j, hj⟩
  refine ⟨j, ?_, hj⟩
  rcases Nat.lt_or_ge j i with q | q
  ·exact absurd hj (h j q)
  ·exact q
 ·rintro ⟨j, _, hj⟩
  exact ⟨j, hj⟩
theorem index_v (l : List Int) (x : Int) (M : Mem) (hl : l.length ≤ 1000000) : VC Tryd.prog 58 [intsV l, vi x] M (fun r M' => M' = M ∧ ∃ k : Int, r = vi k ∧ (0 ≤ k ↔ l.contains x = true)) := by
 refine VC_own' T_ok (f := 58) (fn := Tryd.f58) (by kernel_rfl) rfl Tryd.ntmps58 (by rfl) (by rfl) ?_
 ((repeat refine Ws ?_);refine Wr ?_)
 simp (maxSteps := 1000000) only [VL,VM,↓VG,reduceIte,reduceCtorEq,zA,zB,zC,zD,zE,zF,zG,zH,zI,zJ]
 ((repeat refine Ws ?_);refine Wr ?_)
 simp (maxSteps := 1000000) only [VL,VM,↓VG,reduceIte,reduceCtorEq,zA,zB,zC,zD,zE,zF,zG,zH,zI,zJ]
 ((repeat refine Ws ?_);refine W_block ?_; (repeat refine Ws ?_)); refine W_loopS (fun i : Nat => [(0, intsV l), (1, vi x), (7, vi l.length), (8, vi i)]) (fun _ => M) (fun i => l.length - i) (fun i => i ≤ l.length ∧ ∀ j, j < i → l[j]? ≠ some x) 0 ⟨Nat.zero_le _, fun j hj => absurd hj (Nat.not_lt_zero j)⟩ ⟨rfl, rfl, rfl, rfl, trivial⟩ rfl ?_
 rintro i ⟨hi, hn⟩
 have k1 : -9223372036854775808 ≤ (i : Int) + 1 ∧ (i : Int) + 1 < 9223372036854775808 := by omega
 ((repeat refine Ws ?_);refine Wr ?_)
 rcases Nat.lt_or_ge i l.length with hlt | hge
 ·have k2 : ((i : Int) < (l.length : Int)) = True := eq_true (by omega)
  have hx : l[i]? = some l[i] := List.getElem?_eq_getElem hlt
  have hx' := map_at (f := intP) hx
  generalize l[i] = y at hx hx'
  simp (maxSteps := 1000000) only [VL,VM,↓VG,reduceIte,reduceCtorEq,zA,zB,zC,zD,zE,zF,zG,zH,zI,zJ, k2]
  ((repeat refine Ws ?_);refine Wt (by first|rfl|simp only [EV,zF,reduceIte]) ?_)
  ((repeat refine Ws ?_);refine W_skip ?_)
  simp (maxSteps := 1000000) only [VL,VM,↓VG,reduceIte,reduceCtorEq,zA,zB,zC,zD,zE,zF,zG,zH,zI,zJ]
  ((repeat refine Ws ?_);refine W_block ?_)
  ((repeat refine Ws ?_);refine Wr ?_)
  simp (maxSteps := 1000000) only [VL,VM,↓VG,reduceIte,reduceCtorEq,zA,zB,zC,zD,zE,zF,zG,zH,zI,zJ]
  ((repeat refine Ws ?_);refine Wr ?_)
  by_cases e : x = y
  ·have k3 : (x = y) = True := eq_true e
   simp (maxSteps := 1000000) only [VL,VM,↓VG,reduceIte,reduceCtorEq,zA,zB,zC,zD,zE,zF,zG,zH,zI,zJ, hx', k3]
   ((repeat refine Ws ?_);refine Wt (by first|rfl|simp only [EV,zF,reduceIte]) ?_)
   ((repeat refine Ws ?_);refine Wr ?_)
   simp (maxSteps := 1000000) only [VL,VM,↓VG,reduceIte,reduceCtorEq,zA,zB,zC,zD,zE,zF,zG,zH,zI,zJ]
   (repeat refine Ws ?_)
   refine W_ret ?_
   try simp only [thenQ, blockQ]
   refine own_ret0 rfl rfl rfl ⟨rfl, _, rfl, ?_⟩
   subst e
   rw [find_from l x i hn]
   constructor
   ·intro _; exact ⟨i, Nat.le_refl _, hx⟩
   ·intro _; omega
  ·have k3 : (x = y) = False := eq_false e
   simp (maxSteps := 1000000) only [VL,VM,↓VG,reduceIte,reduceCtorEq,zA,zB,zC,zD,zE,zF,zG,zH,zI,zJ, hx', k3]
   ((repeat refine Ws ?_);refine Wf (by first|rfl|simp only [EV,zF,reduceIte]) ?_)
   ((repeat refine Ws ?_);refine W_skip ?_)
   simp (maxSteps := 1000000) only [VL,VM,↓VG,reduceIte,reduceCtorEq,zA,zB,zC,zD,zE,zF,zG,zH,zI,zJ]
   ((repeat refine Ws ?_);refine Wr ?_)
   simp (maxSteps := 1000000) only [VL,VM,↓VG,reduceIte,reduceCtorEq,zA,zB,zC,zD,zE,zF,zG,zH,zI,zJ, k1]
   refine LoopK.mk (i + 1) (by omega) ⟨by omega, fun j hj => ?_⟩ ⟨rfl, rfl, rfl, rfl, trivial⟩ rfl
   rcases Nat.lt_succ_iff_lt_or_eq.1 hj with q | rfl
   ·exact hn j q
   ·rw [hx]
    intro h2
    exact e (Option.some.inj h2).symm
 have k2 : ((i : Int) < (l.length : Int)) = False := eq_false (by omega)
 simp (maxSteps := 1000000) only [VL,VM,↓VG,reduceIte,reduceCtorEq,zA,zB,zC,zD,zE,zF,zG,zH,zI,zJ, k2]
 ((repeat refine Ws ?_);refine Wf (by first|rfl|simp only [EV,zF,reduceIte]) ?_)
 ((repeat refine Ws ?_);refine W_exit ?_)
 simp (maxSteps := 1000000) only [VL,VM,↓VG,reduceIte,reduceCtorEq,zA,zB,zC,zD,zE,zF,zG,zH,zI,zJ]
 ((repeat refine Ws ?_);refine Wr ?_)
 simp (maxSteps := 1000000) only [VL,VM,↓VG,reduceIte,reduceCtorEq,zA,zB,zC,zD,zE,zF,zG,zH,zI,zJ]
 (repeat refine Ws ?_)
 refine W_ret ?_
 try simp only [thenQ, blockQ]
 refine own_ret0 rfl rfl rfl ⟨rfl, _, rfl, ?_⟩
 rw [find_from l x i hn]
 constructor
 ·intro h2; omega
 ·rintro ⟨j, h1, h2⟩
  rw [List.getElem?_eq_none (by omega)] at h2
  cases h2
theorem contains_v (l : List Int) (x : Int) (M : Mem) (hl : l.length ≤ 1000000) : VC Tryd.prog 55 [intsV l, vi x] M (fun r M' => M' = M ∧ r = vb (l.contains x)) := by
 refine VC_own' T_ok (f := 55) (fn := Tryd.f55) (by kernel_rfl) rfl Tryd.ntmps55 (by rfl) (by rfl) ?_
 ((repeat refine Ws ?_);refine Wr ?_)
 simp (maxSteps := 1000000) only [VL,VM,↓VG,reduceIte,reduceCtorEq,zA,zB,zC,zD,zE,zF,zG,zH,zI,zJ]
 ((repeat refine Ws ?_);refine Wr ?_)
 simp (maxSteps := 1000000) only [VL,VM,↓VG,reduceIte,reduceCtorEq,zA,zB,zC,zD,zE,zF,zG,zH,zI,zJ]
 refine VCall_fn T_ok (f := 58) (fn := Tryd.f58) (by kernel_rfl) ?_
 refine VC.mono (show VC Tryd.prog 58 ((([] : List VV) ++ [intsV l, vi x] ++ []).map (sarg T 58)) _ _ from index_v l x M hl) ?_
 rintro _ _ ⟨rfl, k, rfl, hk⟩
 simp (maxSteps := 1000000) only [VL,VM,↓VG,reduceIte,reduceCtorEq,zA,zB,zC,zD,zE,zF,zG,zH,zI,zJ]
 (repeat refine Ws ?_)
 refine W_ret ?_
 try simp only [thenQ, blockQ]
 refine own_ret0 rfl rfl rfl ⟨rfl, ?_⟩
 by_cases h : 0 ≤ k
 ·rw [decide_eq_true h, hk.1 h]
  rfl
 ·rw [decide_eq_false h]
  cases h2 : l.contains x with
  | false => rfl
  | true => exact absurd (hk.2 h2) h
structure FwSt (σ : Type) where
 s : σ
 pos : Nat
 i : Nat
 junk : List VObj
set_option maxHeartbeats 1000000 in
set_option maxRecDepth 8000 in
theorem ways_it (h : Ho) {cf : Nat} {cfn : Func} (hcf : T.fn cf = some cfn) (hkc : T.keeps cf = false) {ccaps : List VV} (hcs : ccaps.map strip1 = ccaps) {ticks : Nat} {closed : List Int} {come : Nat → Int} {hid cid tid xid : Nat} {PkC : List VObj → Prop} (hstab : ∀ A L, PkC A → PkC (A ++ L)) (hcome : ∀ (j : Nat) (M : Mem), j < h.holds.length → PkC M.H → VC Tryd.prog cf (vi j :: ccaps) M (fun r M' => M' = M ∧ r = vi (come j))) (hn : h.holds.length ≤ 4) (hd : h.doors.length ≤ 5) (ht : ticks ≤ 12) (hcl : closed.length ≤ 1000000) (hdo : ∀ d ∈ h.doors, DoOk h.holds.length d) :
  IterOf 53 [.ptr hid 0, .ptr cid 0, .ptr tid 0, .ptr xid 0] ((waysOf h.holds.length h.doors ticks closed come).map wayV) (fun A => WBox h (.fn (.func cf) [] ccaps) ticks closed hid cid tid xid A ∧ PkC A) := by
 intro σ id M A good s0 g0 hA hM hPk hy
 obtain ⟨H, lg⟩ := M
 simp only at hA hM hy
 subst hM
 generalize hxs : (waysOf h.holds.length h.doors ticks closed come).map wayV = xs at hy ⊢
 have hb := fun s L => (hPk s).1.app L
 refine VC_own' T_ok (f := 53) (fn := Tryd.f53) (by kernel_rfl) rfl Tryd.ntmps53 (by rfl) (by rfl) ?_
 ((repeat refine Ws ?_);refine Wr ?_)
 simp (maxSteps := 1000000) only [VL,VM,↓VG,reduceIte,reduceCtorEq,zA,zB,zC,zD,zE,zF,zG,zH,zI,zJ]
 have hw0 := (hPk s0).1
 ((repeat refine Ws ?_);refine Wr ?_)
 simp (maxSteps := 1000000) only [VL,VM,↓VG,reduceIte,reduceCtorEq,zA,zB,zC,zD,zE,zF,zG,zH,zI,zJ, hw0.hh, hw0.hc, hw0.ht, hw0.hx]
 have hx1 : ∀ i, i < h.holds.length → xs[i]? = some (wayV ⟨0, placeOf h.holds.length (i : Int) 0, come i⟩) := fun i hi => by
  rw [← hxs, List.getElem?_map]
  unfold waysOf startWs
  rw [List.getElem?_append_left (by simpa using hi), List.getElem?_map, List.getElem?_range hi]
  rfl
 ((repeat refine Ws ?_);refine W_block ?_; (repeat refine Ws ?_)); refine W_loopS (fun s : FwSt σ => [(0, .yl id), (1, .ptr hid 0), (2, .ptr cid 0), (3, .ptr tid 0), (4, .ptr xid 0), (6, .fn (.func 54) [] [.ptr hid 0]), (15, vi h.holds.length), (16, vi s.i)]) (fun s => ⟨A s.s ++ s.junk, lg⟩) (fun s => h.holds.length - s.i) (fun s => s.i ≤ h.holds.length ∧ good s.i s.s) ⟨s0, 0, 0, []⟩ ⟨Nat.zero_le _, g0⟩ ⟨rfl, rfl, rfl, rfl, rfl, rfl, rfl, rfl, trivial⟩ (by simp) ?_
 rintro ⟨s, pos, i, junk⟩ ⟨hi, gs⟩
 simp only at hi gs
 have k1 : -9223372036854775808 ≤ (i : Int) + 1 ∧ (i : Int) + 1 < 9223372036854775808 := by omega
 ((repeat refine Ws ?_);refine Wr ?_)
 rcases Nat.lt_or_ge i h.holds.length with hlt | hge
 ·have k2 : ((i : Int) < (h.holds.length : Int)) = True := eq_true (by omega)
  simp (maxSteps := 1000000) only [VL,VM,↓VG,reduceIte,reduceCtorEq,zA,zB,zC,zD,zE,zF,zG,zH,zI,zJ, k2]
  ((repeat refine Ws ?_);refine Wt (by first|rfl|simp only [EV,zF,reduceIte]) ?_)
  ((repeat refine Ws ?_);refine W_skip ?_)
  simp (maxSteps := 1000000) only [VL,VM,↓VG,reduceIte,reduceCtorEq,zA,zB,zC,zD,zE,zF,zG,zH,zI,zJ]
  ((repeat refine Ws ?_);refine W_block ?_)
  ((repeat refine Ws ?_);refine Wr ?_)
  simp (maxSteps := 1000000) only [VL,VM,↓VG,reduceIte,reduceCtorEq,zA,zB,zC,zD,zE,zF,zG,zH,zI,zJ]
  have hw := hb s junk
  (repeat refine Ws ?_)
  refine W_drawP T_ok [] (by kernel_rfl) (by kernel_rfl) ?_
  generalize hi : mkPlan _ = infs
  cbv at hi
  subst hi
  simp (maxSteps := 1000000) only [VL,VM,↓VG,reduceIte,reduceCtorEq,zA,zB,zC,zD,zE,zF,zG,zH,zI,zJ, hw.hh, hw.hc, hw.ht, hw.hx]
  have hpl := place_v h hid (i : Int) 0 ⟨A s ++ junk, lg⟩ hw.hh (by omega) (by omega) (by omega) (by omega)
  refine callf_d (f := 54) (fn := Tryd.f54) (M1 := ⟨A s ++ junk, lg⟩) (v := vi (placeOf h.holds.length (i : Int) 0)) (by kernel_rfl) (by rfl) (by exact hpl) ?_
  simp (maxSteps := 1000000) only [VL,VM,↓VG,reduceIte,reduceCtorEq,zA,zB,zC,zD,zE,zF,zG,zH,zI,zJ, hw.hh, hw.hc, hw.ht, hw.hx]
  refine callf_d (M1 := ⟨A s ++ junk, lg⟩) (v := vi (come i)) hcf hkc (by simpa [strip1, hcs] using hcome i ⟨A s ++ junk, lg⟩ hlt (hstab _ _ (hPk s).2)) ?_
  obtain ⟨s', junk', hyv, hg'⟩ := hy i _ s junk (hx1 i hlt) gs
  simp (maxSteps := 1000000) only [VL,VM,↓VG,reduceIte,reduceCtorEq,zA,zB,zC,zD,zE,zF,zG,zH,zI,zJ, hw.hh, hw.hc, hw.ht, hw.hx]
  refine ⟨vb true, ⟨A s' ++ (junk ++ junk'), lg⟩, by exact hyv, ?_⟩
  simp (maxSteps := 1000000) only [VL,VM,↓VG,reduceIte,reduceCtorEq,zA,zB,zC,zD,zE,zF,zG,zH,zI,zJ]
  ((repeat refine Ws ?_);refine Wf (by first|rfl|simp only [EV,zF,reduceIte]) ?_)
  ((repeat refine Ws ?_);refine W_skip ?_)
  simp (maxSteps := 1000000) only [VL,VM,↓VG,reduceIte,reduceCtorEq,zA,zB,zC,zD,zE,zF,zG,zH,zI,zJ]
  ((repeat refine Ws ?_);refine Wr ?_)
  simp (maxSteps := 1000000) only [VL,VM,↓VG,reduceIte,reduceCtorEq,zA,zB,zC,zD,zE,zF,zG,zH,zI,zJ, k1]
  refine LoopK.mk ⟨s', 0, i + 1, junk ++ junk'⟩ (by simp only; omega) ⟨by simp only; omega, hg'⟩ ⟨rfl, rfl, rfl, rfl, rfl, rfl, rfl, rfl, trivial⟩ rfl
 have k2 : ((i : Int) < (h.holds.length : Int)) = False := eq_false (by omega)
 obtain rfl : i = h.holds.length := by omega
 have hw := hb s junk
 simp (maxSteps := 1000000) only [VL,VM,↓VG,reduceIte,reduceCtorEq,zA,zB,zC,zD,zE,zF,zG,zH,zI,zJ, k2]
 ((repeat refine Ws ?_);refine Wf (by first|rfl|simp only [EV,zF,reduceIte]) ?_)
 ((repeat refine Ws ?_);refine W_exit ?_)
 simp (maxSteps := 1000000) only [VL,VM,↓VG,reduceIte,reduceCtorEq,zA,zB,zC,zD,zE,zF,zG,zH,zI,zJ]
 ((repeat refine Ws ?_);refine Wr ?_)
 simp (maxSteps := 1000000) only [VL,VM,↓VG,reduceIte,reduceCtorEq,zA,zB,zC,zD,zE,zF,zG,zH,zI,zJ, hw.ht]
 have hdr : xs.drop h.holds.length = ((List.range ticks).flatMap (tickWs h.holds.length h.doors closed)).map wayV := by
  rw [← hxs]
  unfold waysOf startWs
  rw [List.map_append, List.drop_left' (by simp)]
 ((repeat refine Ws ?_);refine W_block ?_; (repeat refine Ws ?_)); refine W_loopS (fun s : FwSt σ => [(0, .yl id), (1, .ptr hid 0), (2, .ptr cid 0), (3, .ptr tid 0), (4, .ptr xid 0), (6, .fn (.func 54) [] [.ptr hid 0]), (30, vi ticks), (31, vi s.i)]) (fun s => ⟨A s.s ++ s.junk, lg⟩) (fun s => ticks - s.i) (fun s => s.i ≤ ticks ∧ s.pos ≤ xs.length ∧ good s.pos s.s ∧ xs.drop s.pos = (((List.range ticks).drop s.i).flatMap (tickWs h.holds.length h.doors closed)).map wayV) ⟨s, h.holds.length, 0, junk⟩ ⟨Nat.zero_le _, by rw [← hxs]; simp [waysOf, startWs], gs, hdr⟩ ⟨rfl, rfl, rfl, rfl, rfl, rfl, rfl, rfl, trivial⟩ rfl ?_
 clear gs hdr hw k2 hge hi k1
 rintro ⟨s, pos, t, junk⟩ ⟨hi, hpos, gs, hdr⟩
 simp only at hi hpos gs hdr
 have k1 : -9223372036854775808 ≤ (t : Int) + 1 ∧ (t : Int) + 1 < 9223372036854775808 := by omega
 have hw := hb s junk
 ((repeat refine Ws ?_);refine Wr ?_)
 rcases Nat.lt_or_ge t ticks with hlt | hge
 ·have k2 : ((t : Int) < (ticks : Int)) = True := eq_true (by omega)
  simp (maxSteps := 1000000) only [VL,VM,↓VG,reduceIte,reduceCtorEq,zA,zB,zC,zD,zE,zF,zG,zH,zI,zJ, k2]
  ((repeat refine Ws ?_);refine Wt (by first|rfl|simp only [EV,zF,reduceIte]) ?_)
  ((repeat refine Ws ?_);refine W_skip ?_)
  simp (maxSteps := 1000000) only [VL,VM,↓VG,reduceIte,reduceCtorEq,zA,zB,zC,zD,zE,zF,zG,zH,zI,zJ]
  ((repeat refine Ws ?_);refine W_block ?_)
  ((repeat refine Ws ?_);refine Wr ?_)
  simp (maxSteps := 1000000) only [VL,VM,↓VG,reduceIte,reduceCtorEq,zA,zB,zC,zD,zE,zF,zG,zH,zI,zJ]
  ((repeat refine Ws ?_);refine Wr ?_)
  simp (maxSteps := 1000000) only [VL,VM,↓VG,reduceIte,reduceCtorEq,zA,zB,zC,zD,zE,zF,zG,zH,zI,zJ, hw.hh]
  have hrg : (List.range ticks).drop t = t :: (List.range ticks).drop (t + 1) := by
   rw [List.drop_eq_getElem_cons (by simpa using hlt)]
   simp
  obtain ⟨rest, hrest⟩ : ∃ rest, rest = (((List.range ticks).drop (t + 1)).flatMap (tickWs h.holds.length h.doors closed)).map wayV := ⟨_, rfl⟩
  have hd2 : xs.drop pos = (stayWs h.holds.length t).map wayV ++ ((doorsWs h.holds.length t closed 0 h.doors).map wayV ++ rest) := by
   rw [hdr, hrg, List.flatMap_cons, hrest]
   simp [tickWs]
  ((repeat refine Ws ?_);refine W_block ?_; (repeat refine Ws ?_)); refine W_loopS (fun s : FwSt σ => [(0, .yl id), (1, .ptr hid 0), (2, .ptr cid 0), (3, .ptr tid 0), (4, .ptr xid 0), (6, .fn (.func 54) [] [.ptr hid 0]), (8, vi t), (30, vi ticks), (31, vi t), (36, vi h.holds.length), (37, vi s.i)]) (fun s => ⟨A s.s ++ s.junk, lg⟩) (fun s => h.holds.length - s.i) (fun s => s.i ≤ h.holds.length ∧ s.pos ≤ xs.length ∧ good s.pos s.s ∧ xs.drop s.pos = ((stayWs h.holds.length t).drop s.i).map wayV ++ ((doorsWs h.holds.length t closed 0 h.doors).map wayV ++ rest)) ⟨s, pos, 0, junk⟩ ⟨Nat.zero_le _, hpos, gs, hd2⟩ ⟨rfl, rfl, rfl, rfl, rfl, rfl, rfl, rfl, rfl, rfl, rfl, trivial⟩ rfl ?_
  clear hd2 hdr gs hw hpos
  rintro ⟨s, pos, i, junk⟩ ⟨hi2, hpos, gs, hdr⟩
  simp only at hi2 hpos gs hdr
  have j1 : -9223372036854775808 ≤ (i : Int) + 1 ∧ (i : Int) + 1 < 9223372036854775808 := by omega
  have hw := hb s junk
  ((repeat refine Ws ?_);refine Wr ?_)
  rcases Nat.lt_or_ge i h.holds.length with hlt2 | hge2
  ·have j2 : ((i : Int) < (h.holds.length : Int)) = True := eq_true (by omega)
   have hsd : (stayWs h.holds.length t).drop i = ⟨placeOf h.holds.length (i : Int) t, placeOf h.holds.length (i : Int) (t + 1), 1073741824⟩ :: (stayWs h.holds.length t).drop (i + 1) := by
    rw [List.drop_eq_getElem_cons (by simpa [stayWs] using hlt2)]
    simp [stayWs]
   rw [hsd, List.map_cons, List.cons_append] at hdr
   obtain ⟨hx, hdr⟩ := drop_step hdr
   have hpl : pos + 1 ≤ xs.length := by
    rcases Nat.lt_or_ge pos xs.length with q | q
    ·exact q
    ·rw [List.getElem?_eq_none q] at hx; cases hx
   simp (maxSteps := 1000000) only [VL,VM,↓VG,reduceIte,reduceCtorEq,zA,zB,zC,zD,zE,zF,zG,zH,zI,zJ, j2]
   ((repeat refine Ws ?_);refine Wt (by first|rfl|simp only [EV,zF,reduceIte]) ?_)
   ((repeat refine Ws ?_);refine W_skip ?_)
   simp (maxSteps := 1000000) only [VL,VM,↓VG,reduceIte,reduceCtorEq,zA,zB,zC,zD,zE,zF,zG,zH,zI,zJ]
   ((repeat refine Ws ?_);refine W_block ?_)
   ((repeat refine Ws ?_);refine Wr ?_)
   simp (maxSteps := 1000000) only [VL,VM,↓VG,reduceIte,reduceCtorEq,zA,zB,zC,zD,zE,zF,zG,zH,zI,zJ]
   ((repeat refine Ws ?_);refine Wr ?_)
   simp (maxSteps := 1000000) only [VL,VM,↓VG,reduceIte,reduceCtorEq,zA,zB,zC,zD,zE,zF,zG,zH,zI,zJ, k1]
   refine callf_u (f := 54) (fn := Tryd.f54) (M1 := ⟨A s ++ junk, lg⟩) (v := vi (placeOf h.holds.length (i : Int) t)) (by kernel_rfl) (by rfl) (by exact place_v h hid (i : Int) t ⟨A s ++ junk, lg⟩ hw.hh (by omega) (by omega) (by omega) (by omega)) ?_
   simp (maxSteps := 1000000) only [VL,VM,↓VG,reduceIte,reduceCtorEq,zA,zB,zC,zD,zE,zF,zG,zH,zI,zJ, k1]
   refine callf_u (f := 54) (fn := Tryd.f54) (M1 := ⟨A s ++ junk, lg⟩) (v := vi (placeOf h.holds.length (i : Int) (t + 1))) (by kernel_rfl) (by rfl) (by exact place_v h hid (i : Int) (t + 1) ⟨A s ++ junk, lg⟩ hw.hh (by omega) (by omega) (by omega) (by omega)) ?_
   obtain ⟨s', junk', hyv, hg'⟩ := hy pos _ s junk hx gs
   simp (maxSteps := 1000000) only [VL,VM,↓VG,reduceIte,reduceCtorEq,zA,zB,zC,zD,zE,zF,zG,zH,zI,zJ]
   refine VCall.mono (by exact hyv) ?_
   rintro _ _ ⟨rfl, rfl⟩
   simp (maxSteps := 1000000) only [VL,VM,↓VG,reduceIte,reduceCtorEq,zA,zB,zC,zD,zE,zF,zG,zH,zI,zJ]
   ((repeat refine Ws ?_);refine Wf (by first|rfl|simp only [EV,zF,reduceIte]) ?_)
   ((repeat refine Ws ?_);refine W_skip ?_)
   simp (maxSteps := 1000000) only [VL,VM,↓VG,reduceIte,reduceCtorEq,zA,zB,zC,zD,zE,zF,zG,zH,zI,zJ]
   ((repeat refine Ws ?_);refine Wr ?_)
   simp (maxSteps := 1000000) only [VL,VM,↓VG,reduceIte,reduceCtorEq,zA,zB,zC,zD,zE,zF,zG,zH,zI,zJ, j1]
   refine LoopK.mk ⟨s', pos + 1, i + 1, junk ++ junk'⟩ (by simp only; omega) ⟨by simp only; omega, hpl, hg', hdr⟩ ⟨rfl, rfl, rfl, rfl, rfl, rfl, rfl, rfl, rfl, rfl, rfl, trivial⟩ rfl
  have j2 : ((i : Int) < (h.holds.length : Int)) = False := eq_false (by omega)
  have hi3 : i = h.holds.length := by omega
  subst hi3
  simp (maxSteps := 1000000) only [VL,VM,↓VG,reduceIte,reduceCtorEq,zA,zB,zC,zD,zE,zF,zG,zH,zI,zJ, j2]
  ((repeat refine Ws ?_);refine Wf (by first|rfl|simp only [EV,zF,reduceIte]) ?_)
  ((repeat refine Ws ?_);refine W_exit ?_)
  try simp (maxSteps := 1000000) only [VL,VM,↓VG,reduceIte,reduceCtorEq,zA,zB,zC,zD,zE,zF,zG,zH,zI,zJ]
  have hsn : (stayWs h.holds.length t).drop h.holds.length = [] := List.drop_eq_nil_of_le (by simp [stayWs])
  rw [hsn, List.map_nil, List.nil_append] at hdr
  clear hsn j2 hge2 hi2 j1
  ((repeat refine Ws ?_);refine Wr ?_)
  simp (maxSteps := 1000000) only [VL,VM,↓VG,reduceIte,reduceCtorEq,zA,zB,zC,zD,zE,zF,zG,zH,zI,zJ, hw.hh]
  have hd0 : xs.drop pos = (doorsWs h.holds.length t closed 0 (h.doors.drop 0)).map wayV ++ rest := hdr
  ((repeat refine Ws ?_);refine W_block ?_; (repeat refine Ws ?_)); refine W_loopS (fun s : FwSt σ => [(0, .yl id), (1, .ptr hid 0), (2, .ptr cid 0), (3, .ptr tid 0), (4, .ptr xid 0), (6, .fn (.func 54) [] [.ptr hid 0]), (8, vi t), (30, vi ticks), (31, vi t), (55, dosV h.doors), (56, vi h.doors.length), (57, vi s.i)]) (fun s => ⟨A s.s ++ s.junk, lg⟩) (fun s => h.doors.length - s.i) (fun s => s.i ≤ h.doors.length ∧ s.pos ≤ xs.length ∧ good s.pos s.s ∧ xs.drop s.pos = (doorsWs h.holds.length t closed s.i (h.doors.drop s.i)).map wayV ++ rest) ⟨s, pos, 0, junk⟩ ⟨Nat.zero_le _, hpos, gs, hd0⟩ ⟨rfl, rfl, rfl, rfl, rfl, rfl, rfl, rfl, rfl, rfl, rfl, rfl, trivial⟩ rfl ?_
  clear hd0 hdr gs hw hpos
  rintro ⟨s, pos, i, junk⟩ ⟨hi2, hpos, gs, hdr⟩
  simp only at hi2 hpos gs hdr
  have j1 : -9223372036854775808 ≤ (i : Int) + 1 ∧ (i : Int) + 1 < 9223372036854775808 := by omega
  have hw := hb s junk
  ((repeat refine Ws ?_);refine Wr ?_)
  rcases Nat.lt_or_ge i h.doors.length with hlt2 | hge2
  ·have j2 : ((i : Int) < (h.doors.length : Int)) = True := eq_true (by omega)
   have hx : h.doors[i]? = some h.doors[i] := List.getElem?_eq_getElem hlt2
   have hdd : h.doors.drop i = h.doors[i] :: h.doors.drop (i + 1) := List.drop_eq_getElem_cons hlt2
   have hmem := List.getElem_mem hlt2
   generalize h.doors[i] = d at hx hdd hmem
   have hx' := map_at (f := doP) hx
   have hdk := hdo d hmem
   rw [hdd, doorsWs] at hdr
   simp (maxSteps := 1000000) only [VL,VM,↓VG,reduceIte,reduceCtorEq,zA,zB,zC,zD,zE,zF,zG,zH,zI,zJ, j2]
   ((repeat refine Ws ?_);refine Wt (by first|rfl|simp only [EV,zF,reduceIte]) ?_)
   ((repeat refine Ws ?_);refine W_skip ?_)
   simp (maxSteps := 1000000) only [VL,VM,↓VG,reduceIte,reduceCtorEq,zA,zB,zC,zD,zE,zF,zG,zH,zI,zJ]
   ((repeat refine Ws ?_);refine W_block ?_)
   ((repeat refine Ws ?_);refine Wr ?_)
   simp (maxSteps := 1000000) only [VL,VM,↓VG,reduceIte,reduceCtorEq,zA,zB,zC,zD,zE,zF,zG,zH,zI,zJ, hx']
   ((repeat refine Ws ?_);refine Wr ?_)
   have hw1 := hb s (junk ++ [VObj.obj [vi d.a, vi d.b, vi d.flow]])
   have hg : ∀ (s' : σ) (X : List VObj), (A s' ++ (junk ++ VObj.obj [vi d.a, vi d.b, vi d.flow] :: X))[(A s).length + junk.length]? = some (VObj.obj [vi d.a, vi d.b, vi d.flow]) := fun s' X => by
    rw [hA s, ← hA s', List.getElem?_append_right (by omega), Nat.add_sub_cancel_left, List.getElem?_append_right (Nat.le_refl _), Nat.sub_self]
    rfl
   have hbd := hdk.b0
   have hbd1 := hdk.b1
   have had := hdk.a0
   have had1 := hdk.a1
   have zb : d.b < 1000 := by omega
   have za : d.a < 1000 := by omega
   have zt : t ≤ 1000 := by omega
   have zt1 : t + 1 ≤ 1000 := by omega
   have zn : h.holds.length ≤ 1000 := by omega
   simp (maxSteps := 1000000) only [VL,VM,↓VG,reduceIte,reduceCtorEq,zA,zB,zC,zD,zE,zF,zG,zH,zI,zJ, hw1.hx]
   apply call_eq (f := 55) (fn := Tryd.f55) (by kernel_rfl) (by rfl)
   ·exact contains_v closed (i : Int) _ hcl
   simp (maxSteps := 1000000) only [VL,VM,↓VG,reduceIte,reduceCtorEq,zA,zB,zC,zD,zE,zF,zG,zH,zI,zJ]
   by_cases hc : closed.contains (i : Int) = true
   ·rw [if_pos hc, List.nil_append] at hdr
    simp (maxSteps := 1000000) only [hc]
    ((repeat refine Ws ?_);refine Wt (by first|rfl|simp only [EV,zF,reduceIte]) ?_)
    ((repeat refine Ws ?_);refine W_exit ?_)
    simp (maxSteps := 1000000) only [VL,VM,↓VG,reduceIte,reduceCtorEq,zA,zB,zC,zD,zE,zF,zG,zH,zI,zJ]
    ((repeat refine Ws ?_);refine Wr ?_)
    simp (maxSteps := 1000000) only [VL,VM,↓VG,reduceIte,reduceCtorEq,zA,zB,zC,zD,zE,zF,zG,zH,zI,zJ, j1]
    refine LoopK.mk ⟨s, pos, i + 1, (junk ++ [VObj.obj [vi d.a, vi d.b, vi d.flow]])⟩ (by simp only; omega) ⟨by simp only; omega, hpos, gs, hdr⟩ ⟨rfl, rfl, rfl, rfl, rfl, rfl, rfl, rfl, rfl, rfl, rfl, rfl, trivial⟩ rfl
   rw [if_neg hc, List.map_append, List.append_assoc] at hdr
   obtain ⟨rest2, hrest2⟩ : ∃ rest2, rest2 = (doorsWs h.holds.length t closed (i + 1) (h.doors.drop (i + 1))).map wayV ++ rest := ⟨_, rfl⟩
   rw [← hrest2] at hdr
   unfold doorWs at hdr
   rw [List.map_append, List.append_assoc] at hdr
   rw [Bool.not_eq_true] at hc
   simp (maxSteps := 1000000) only [hc]
   ((repeat refine Ws ?_);refine Wf (by first|rfl|simp only [EV,zF,reduceIte]) ?_)
   ((repeat refine Ws ?_);refine W_skip ?_)
   simp (maxSteps := 1000000) only [VL,VM,↓VG,reduceIte,reduceCtorEq,zA,zB,zC,zD,zE,zF,zG,zH,zI,zJ]
   (repeat refine Ws ?_)
   refine W_drawP T_ok [] (by kernel_rfl) (by kernel_rfl) ?_
   generalize hi : mkPlan _ = infs
   cbv at hi
   subst hi
   by_cases ea : d.a = -1
   ·have ka : (d.a = -1) = True := eq_true ea
    rw [if_pos ea, List.map_nil, List.nil_append] at hdr
    simp (maxSteps := 1000000) only [VL,VM,↓VG,reduceIte,reduceCtorEq,zA,zB,zC,zD,zE,zF,zG,zH,zI,zJ, hg s [], ka]
    ((repeat refine Ws ?_);refine Wf (by first|rfl|simp only [EV,zF,reduceIte]) ?_)
    ((repeat refine Ws ?_);refine W_skip ?_)
    simp (maxSteps := 1000000) only [VL,VM,↓VG,reduceIte,reduceCtorEq,zA,zB,zC,zD,zE,zF,zG,zH,zI,zJ]
    (repeat refine Ws ?_)
    refine W_drawP T_ok [] (by kernel_rfl) (by kernel_rfl) ?_
    generalize hi : mkPlan _ = infs
    cbv at hi
    subst hi
    by_cases eb : d.b = -1
    ·have kb : (d.b = -1) = True := eq_true eb
     rw [if_pos eb, List.map_nil, List.nil_append] at hdr
     simp (maxSteps := 1000000) only [VL,VM,↓VG,reduceIte,reduceCtorEq,zA,zB,zC,zD,zE,zF,zG,zH,zI,zJ, hg s [], kb]
     ((repeat refine Ws ?_);refine Wf (by first|rfl|simp only [EV,zF,reduceIte]) ?_)
     ((repeat refine Ws ?_);refine W_skip ?_)
     simp (maxSteps := 1000000) only [VL,VM,↓VG,reduceIte,reduceCtorEq,zA,zB,zC,zD,zE,zF,zG,zH,zI,zJ]
     ((repeat refine Ws ?_);refine Wr ?_)
     simp (maxSteps := 1000000) only [VL,VM,↓VG,reduceIte,reduceCtorEq,zA,zB,zC,zD,zE,zF,zG,zH,zI,zJ, j1]
     refine LoopK.mk ⟨s, pos, i + 1, (junk ++ [VObj.obj [vi d.a, vi d.b, vi d.flow]])⟩ (by simp only; omega) ⟨by simp only; omega, hpos, gs,  by rw [hdr, hrest2]⟩ ⟨rfl, rfl, rfl, rfl, rfl, rfl, rfl, rfl, rfl, rfl, rfl, rfl, trivial⟩ rfl
    ·have kb : (d.b = -1) = False := eq_false eb
     rw [if_neg eb, List.map_cons, List.map_nil, List.cons_append, List.nil_append] at hdr
     obtain ⟨hx2, hdr⟩ := drop_step hdr
     have hpl2 : pos + 1 ≤ xs.length := by
      rcases Nat.lt_or_ge (pos) xs.length with q | q
      ·exact q
      ·rw [List.getElem?_eq_none q] at hx2; cases hx2
     simp (maxSteps := 1000000) only [VL,VM,↓VG,reduceIte,reduceCtorEq,zA,zB,zC,zD,zE,zF,zG,zH,zI,zJ, hg s [], kb, k1]
     refine callf_d (f := 54) (fn := Tryd.f54) (M1 := ⟨A s ++ (junk ++ [VObj.obj [vi d.a, vi d.b, vi d.flow]]), lg⟩) (v := vi (placeOf h.holds.length d.b t)) (by kernel_rfl) (by rfl) (by exact place_v h hid d.b t ⟨A s ++ (junk ++ [VObj.obj [vi d.a, vi d.b, vi d.flow]]), lg⟩ (hw1).hh hbd zb zt zn) ?_
     simp (maxSteps := 1000000) only [VL,VM,↓VG,reduceIte,reduceCtorEq,zA,zB,zC,zD,zE,zF,zG,zH,zI,zJ, hg s [], kb, k1]
     refine callf_d (f := 54) (fn := Tryd.f54) (M1 := ⟨A s ++ (junk ++ [VObj.obj [vi d.a, vi d.b, vi d.flow]]), lg⟩) (v := vi (placeOf h.holds.length d.a (t + 1))) (by kernel_rfl) (by rfl) (by exact place_v h hid d.a (t + 1) ⟨A s ++ (junk ++ [VObj.obj [vi d.a, vi d.b, vi d.flow]]), lg⟩ (hw1).hh had za zt1 zn) ?_
     obtain ⟨s3, X3, hyv2, hg3⟩ := hy (pos) _ s ((junk ++ [VObj.obj [vi d.a, vi d.b, vi d.flow]])) hx2 gs
     simp (maxSteps := 1000000) only [VL,VM,↓VG,reduceIte,reduceCtorEq,zA,zB,zC,zD,zE,zF,zG,zH,zI,zJ, hg s [], kb, k1]
     refine ⟨vb true, ⟨A s3 ++ ((junk ++ [VObj.obj [vi d.a, vi d.b, vi d.flow]]) ++ X3), lg⟩, by exact hyv2, ?_⟩
     simp (maxSteps := 1000000) only [VL,VM,↓VG,reduceIte,reduceCtorEq,zA,zB,zC,zD,zE,zF,zG,zH,zI,zJ]
     ((repeat refine Ws ?_);refine Wf (by first|rfl|simp only [EV,zF,reduceIte]) ?_)
     ((repeat refine Ws ?_);refine W_skip ?_)
     simp (maxSteps := 1000000) only [VL,VM,↓VG,reduceIte,reduceCtorEq,zA,zB,zC,zD,zE,zF,zG,zH,zI,zJ]
     ((repeat refine Ws ?_);refine Wr ?_)
     simp (maxSteps := 1000000) only [VL,VM,↓VG,reduceIte,reduceCtorEq,zA,zB,zC,zD,zE,zF,zG,zH,zI,zJ, j1]
     refine LoopK.mk ⟨s3, pos + 1, i + 1, (junk ++ [VObj.obj [vi d.a, vi d.b, vi d.flow]]) ++ X3⟩ (by simp only; omega) ⟨by simp only; omega, hpl2, hg3,  by rw [hdr, hrest2]⟩ ⟨rfl, rfl, rfl, rfl, rfl, rfl, rfl, rfl, rfl, rfl, rfl, rfl, trivial⟩ (by simp only [List.append_assoc, List.cons_append, List.nil_append])
   have ka : (d.a = -1) = False := eq_false ea
   rw [if_neg ea, List.map_cons, List.map_nil, List.cons_append, List.nil_append] at hdr
   obtain ⟨hx1, hdr⟩ := drop_step hdr
   have hpl1 : pos + 1 ≤ xs.length := by
    rcases Nat.lt_or_ge pos xs.length with q | q
    ·exact q
    ·rw [List.getElem?_eq_none q] at hx1; cases hx1
   simp (maxSteps := 1000000) only [VL,VM,↓VG,reduceIte,reduceCtorEq,zA,zB,zC,zD,zE,zF,zG,zH,zI,zJ, hg s [], ka, k1]
   refine callf_d (f := 54) (fn := Tryd.f54) (M1 := ⟨A s ++ (junk ++ [VObj.obj [vi d.a, vi d.b, vi d.flow]]), lg⟩) (v := vi (placeOf h.holds.length d.a t)) (by kernel_rfl) (by rfl) (by exact place_v h hid d.a t ⟨A s ++ (junk ++ [VObj.obj [vi d.a, vi d.b, vi d.flow]]), lg⟩ (hw1).hh had za zt zn) ?_
   simp (maxSteps := 1000000) only [VL,VM,↓VG,reduceIte,reduceCtorEq,zA,zB,zC,zD,zE,zF,zG,zH,zI,zJ, hg s [], ka, k1]
   refine callf_d (f := 54) (fn := Tryd.f54) (M1 := ⟨A s ++ (junk ++ [VObj.obj [vi d.a, vi d.b, vi d.flow]]), lg⟩) (v := vi (placeOf h.holds.length d.b (t + 1))) (by kernel_rfl) (by rfl) (by exact place_v h hid d.b (t + 1) ⟨A s ++ (junk ++ [VObj.obj [vi d.a, vi d.b, vi d.flow]]), lg⟩ (hw1).hh hbd zb zt1 zn) ?_
   obtain ⟨s2, X2, hyv, hg2⟩ := hy pos _ s (junk ++ [VObj.obj [vi d.a, vi d.b, vi d.flow]]) hx1 gs
   simp (maxSteps := 1000000) only [VL,VM,↓VG,reduceIte,reduceCtorEq,zA,zB,zC,zD,zE,zF,zG,zH,zI,zJ, hg s [], ka, k1]
   refine ⟨vb true, ⟨A s2 ++ ((junk ++ [VObj.obj [vi d.a, vi d.b, vi d.flow]]) ++ X2), lg⟩, by exact hyv, ?_⟩
   simp (maxSteps := 1000000) only [VL,VM,↓VG,reduceIte,reduceCtorEq,zA,zB,zC,zD,zE,zF,zG,zH,zI,zJ]
   ((repeat refine Ws ?_);refine Wf (by first|rfl|simp only [EV,zF,reduceIte]) ?_)
   ((repeat refine Ws ?_);refine W_skip ?_)
   simp (maxSteps := 1000000) only [VL,VM,↓VG,reduceIte,reduceCtorEq,zA,zB,zC,zD,zE,zF,zG,zH,zI,zJ]
   have hw2 := hb s2 (junk ++ VObj.obj [vi d.a, vi d.b, vi d.flow] :: X2)
   clear gs hpos
   have gs := hg2
   have hpos := hpl1
   (repeat refine Ws ?_)
   refine W_drawP T_ok [] (by kernel_rfl) (by kernel_rfl) ?_
   generalize hi : mkPlan _ = infs
   cbv at hi
   subst hi
   by_cases eb : d.b = -1
   ·have kb : (d.b = -1) = True := eq_true eb
    rw [if_pos eb, List.map_nil, List.nil_append] at hdr
    simp (maxSteps := 1000000) only [VL,VM,↓VG,reduceIte,reduceCtorEq,zA,zB,zC,zD,zE,zF,zG,zH,zI,zJ, hg s2 X2, kb]
    ((repeat refine Ws ?_);refine Wf (by first|rfl|simp only [EV,zF,reduceIte]) ?_)
    ((repeat refine Ws ?_);refine W_skip ?_)
    simp (maxSteps := 1000000) only [VL,VM,↓VG,reduceIte,reduceCtorEq,zA,zB,zC,zD,zE,zF,zG,zH,zI,zJ]
    ((repeat refine Ws ?_);refine Wr ?_)
    simp (maxSteps := 1000000) only [VL,VM,↓VG,reduceIte,reduceCtorEq,zA,zB,zC,zD,zE,zF,zG,zH,zI,zJ, j1]
    refine LoopK.mk ⟨s2, (pos + 1), i + 1, (junk ++ VObj.obj [vi d.a, vi d.b, vi d.flow] :: X2)⟩ (by simp only; omega) ⟨by simp only; omega, hpos, gs,  by rw [hdr, hrest2]⟩ ⟨rfl, rfl, rfl, rfl, rfl, rfl, rfl, rfl, rfl, rfl, rfl, rfl, trivial⟩ rfl
   ·have kb : (d.b = -1) = False := eq_false eb
    rw [if_neg eb, List.map_cons, List.map_nil, List.cons_append, List.nil_append] at hdr
    obtain ⟨hx2, hdr⟩ := drop_step hdr
    have hpl2 : (pos + 1) + 1 ≤ xs.length := by
     rcases Nat.lt_or_ge ((pos + 1)) xs.length with q | q
     ·exact q
     ·rw [List.getElem?_eq_none q] at hx2; cases hx2
    simp (maxSteps := 1000000) only [VL,VM,↓VG,reduceIte,reduceCtorEq,zA,zB,zC,zD,zE,zF,zG,zH,zI,zJ, hg s2 X2, kb, k1]
    refine callf_d (f := 54) (fn := Tryd.f54) (M1 := ⟨A s2 ++ (junk ++ VObj.obj [vi d.a, vi d.b, vi d.flow] :: X2), lg⟩) (v := vi (placeOf h.holds.length d.b t)) (by kernel_rfl) (by rfl) (by exact place_v h hid d.b t ⟨A s2 ++ (junk ++ VObj.obj [vi d.a, vi d.b, vi d.flow] :: X2), lg⟩ (hw2).hh hbd zb zt zn) ?_
    simp (maxSteps := 1000000) only [VL,VM,↓VG,reduceIte,reduceCtorEq,zA,zB,zC,zD,zE,zF,zG,zH,zI,zJ, hg s2 X2, kb, k1]
    refine callf_d (f := 54) (fn := Tryd.f54) (M1 := ⟨A s2 ++ (junk ++ VObj.obj [vi d.a, vi d.b, vi d.flow] :: X2), lg⟩) (v := vi (placeOf h.holds.length d.a (t + 1))) (by kernel_rfl) (by rfl) (by exact place_v h hid d.a (t + 1) ⟨A s2 ++ (junk ++ VObj.obj [vi d.a, vi d.b, vi d.flow] :: X2), lg⟩ (hw2).hh had za zt1 zn) ?_
    obtain ⟨s3, X3, hyv2, hg3⟩ := hy ((pos + 1)) _ s2 ((junk ++ VObj.obj [vi d.a, vi d.b, vi d.flow] :: X2)) hx2 gs
    simp (maxSteps := 1000000) only [VL,VM,↓VG,reduceIte,reduceCtorEq,zA,zB,zC,zD,zE,zF,zG,zH,zI,zJ, hg s2 X2, kb, k1]
    refine ⟨vb true, ⟨A s3 ++ ((junk ++ VObj.obj [vi d.a, vi d.b, vi d.flow] :: X2) ++ X3), lg⟩, by exact hyv2, ?_⟩
    simp (maxSteps := 1000000) only [VL,VM,↓VG,reduceIte,reduceCtorEq,zA,zB,zC,zD,zE,zF,zG,zH,zI,zJ]
    ((repeat refine Ws ?_);refine Wf (by first|rfl|simp only [EV,zF,reduceIte]) ?_)
    ((repeat refine Ws ?_);refine W_skip ?_)
    simp (maxSteps := 1000000) only [VL,VM,↓VG,reduceIte,reduceCtorEq,zA,zB,zC,zD,zE,zF,zG,zH,zI,zJ]
    ((repeat refine Ws ?_);refine Wr ?_)
    simp (maxSteps := 1000000) only [VL,VM,↓VG,reduceIte,reduceCtorEq,zA,zB,zC,zD,zE,zF,zG,zH,zI,zJ, j1]
    refine LoopK.mk ⟨s3, (pos + 1) + 1, i + 1, (junk ++ VObj.obj [vi d.a, vi d.b, vi d.flow] :: X2) ++ X3⟩ (by simp only; omega) ⟨by simp only; omega, hpl2, hg3,  by rw [hdr, hrest2]⟩ ⟨rfl, rfl, rfl, rfl, rfl, rfl, rfl, rfl, rfl, rfl, rfl, rfl, trivial⟩ (by simp only [List.append_assoc, List.cons_append, List.nil_append])
  have j2 : ((i : Int) < (h.doors.length : Int)) = False := eq_false (by omega)
  have hi3 : i = h.doors.length := by omega
  subst hi3
  simp (maxSteps := 1000000) only [VL,VM,↓VG,reduceIte,reduceCtorEq,zA,zB,zC,zD,zE,zF,zG,zH,zI,zJ, j2]
  ((repeat refine Ws ?_);refine Wf (by first|rfl|simp only [EV,zF,reduceIte]) ?_)
  ((repeat refine Ws ?_);refine W_exit ?_)
  try simp (maxSteps := 1000000) only [VL,VM,↓VG,reduceIte,reduceCtorEq,zA,zB,zC,zD,zE,zF,zG,zH,zI,zJ]
  have hsn : h.doors.drop h.doors.length = [] := List.drop_eq_nil_of_le (Nat.le_refl _)
  rw [hsn, doorsWs, List.map_nil, List.nil_append, hrest] at hdr
  ((repeat refine Ws ?_);refine Wr ?_)
  simp (maxSteps := 1000000) only [VL,VM,↓VG,reduceIte,reduceCtorEq,zA,zB,zC,zD,zE,zF,zG,zH,zI,zJ, k1]
  refine LoopK.mk ⟨s, pos, t + 1, junk⟩ (by simp only; omega) ⟨by simp only; omega, hpos, gs, hdr⟩ ⟨rfl, rfl, rfl, rfl, rfl, rfl, rfl, rfl, trivial⟩ rfl
 have k2 : ((t : Int) < (ticks : Int)) = False := eq_false (by omega)
 simp (maxSteps := 1000000) only [VL,VM,↓VG,reduceIte,reduceCtorEq,zA,zB,zC,zD,zE,zF,zG,zH,zI,zJ, k2]
 ((repeat refine Ws ?_);refine Wf (by first|rfl|simp only [EV,zF,reduceIte]) ?_)
 ((repeat refine Ws ?_);refine W_exit ?_)
 simp (maxSteps := 1000000) only [VL,VM,↓VG,reduceIte,reduceCtorEq,zA,zB,zC,zD,zE,zF,zG,zH,zI,zJ]
 have hend : pos = xs.length := by
  have ht2 : t = ticks := by omega
  rw [ht2, List.drop_eq_nil_of_le (Nat.le_of_eq List.length_range)] at hdr
  have h3 : xs.length - pos = 0 := by rw [← List.length_drop, hdr]; rfl
  omega
 subst hend
 exact ⟨.inl rfl, rfl, ⟨[], by simp, by simp⟩, A s, junk, rfl, by rw [hA s, hA s0], [], rfl, .tup [], rfl, by intro x hx; simp [refs, refsL] at hx, s, rfl, gs⟩
end Go.Proofs.YtekhddlngbppkaaDoor.Vm
