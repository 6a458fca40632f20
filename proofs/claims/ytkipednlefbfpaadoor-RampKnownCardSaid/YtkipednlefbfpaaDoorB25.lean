/- A part of the proofs about the chapter of the ramps; it states no condition of its own. -/
import Derived.Test.YtkipednlefbfpaaDoorB23
import Derived.Test.YtkipednlefbfpaaDoorB24
set_option linter.unusedVariables false
set_option linter.unusedSimpArgs false
open Int renaming reduceLE → zA, reduceLT → zB, reduceToNat → zC, reduceNeg → zD
open Nat renaming reduceLT → zE, reduceEqDiff → zF, reduceAdd → zG, reduceSub → zH, reduceMul → zI, reduceLeDiff → zJ
/- The program's best plan, on values. (Vm) -/
namespace Go.Proofs.YtkipednlefbfpaaDoor.Vm
open Go Go.Proofs
theorem callf_eq {f : Nat} {fn : Func} {caps args : List VV} {M M1 : Mem} {v : VV} (hf : T.fn f = some fn) (hk : T.keeps f = false) (h : VC Tryd.prog f ((args ++ caps).map strip1) M (fun r M' => M' = M1 ∧ r = v)) {Q : VV → Mem → Prop} (hq : Q v M1) : VCall Tryd.prog (.fn (.func f) [] caps) args M Q :=
 (VCall_fn T_ok hf (by
   have : (sarg T f) = strip1 := funext fun v => by simp [sarg, hk]
   simpa [this] using h)).mono fun r M' e => by obtain ⟨rfl, rfl⟩ := e; exact hq
theorem W_eqM {P : Program} {cx : Cx} {e : Env} {M M' : Mem} {D : List Nat} {Q : PQ} {c : Code} (h : M = M') (k : WCode P cx c e M' D Q) : WCode P cx c e M D Q := h ▸ k
def SM (H : List VObj) (y : Ya) (R : Ry) (c : Nat) (J : List VObj) : List VObj := H ++ .obj (yardC y) :: .obj (ryC R) :: .clm c 2 :: J
section
variable {H : List VObj} {y : Ya} {R : Ry} {c : Nat} {J : List VObj}
theorem SM_app (X : List VObj) : SM H y R c J ++ X = SM H y R c (J ++ X) := by simp [SM]
theorem SM_y : (SM H y R c J)[H.length]? = some (.obj (yardC y)) := by unfold SM; rw [hget0]; rfl
theorem SM_w : (SM H y R c J)[H.length + 1]? = some (.obj (ryC R)) := by unfold SM; rw [hget]; rfl
theorem SM_t : (SM H y R c J)[H.length + 2]? = some (.clm c 2) := by unfold SM; rw [hget]; rfl
theorem SM_sett (c' : Nat) : (SM H y R c J).set (H.length + 2) (.clm c' 2) = SM H y R c' J := by unfold SM; rw [hset]; rfl
theorem SM_setw (R' : Ry) : (SM H y R c J).set (H.length + 1) (.obj (ryC R')) = SM H y R' c J := by unfold SM; rw [hset]; rfl
theorem SM_len : H.length + 3 ≤ (SM H y R c J).length := by simp [SM]
end
theorem ry_sett {R : Ry} (h : RyOk R) {v : Int} : (ryC R).take 16 ++ vi v :: (ryC R).drop 17 = ryC { R with til := v } := by
 have hl := ry_len h
 have hw := h.wl
 have hf := h.fl
 have hwl := wkC_len R.wk
 rw [show (17 : Nat) = 16 + 1 by rfl, td_set (by omega)]
 unfold ryC
 rw [List.set_append_right _ _ (by simp), List.set_append_right _ _ (by simp; omega), List.set_append_right _ _ (by simp; omega)]
 rw [show 16 - (yardC R.y).length - (wkC R.wk).length - (R.frm.map vi).length = 0 by simp; omega]
 rfl
theorem soon_get {R : Ry} {i : Nat} (h : i < 128) : (((soonestL R).drop i).map (PV.int .i64))[0]? = some (.int .i64 ((soonestL R).getD i 0)) := by
 have : i < (soonestL R).length := by rw [soonestL, allL_len]; exact h
 simp [this]
structure FrS where
 f : Int
 p : Nat
 J : List VObj
set_option maxRecDepth 8000 in
set_option maxHeartbeats 8000000 in
theorem pserve_v (y : Ya) (M : Mem) (hnr : y.ramps.length ≤ 1000000) (hmm : y.carts.length ≤ 1000000) (hl : ∀ c ∈ y.carts, c.ramps.length ≤ 1000000) : VC Tryd.prog 13 [yardV y] M (fun r M' => M' = M ∧ r = serveV y) := by
 refine VC_own' T_ok (f := 13) (fn := Tryd.f13) (by kernel_rfl) rfl Tryd.ntmps13 (by rfl) (by rfl) ?_
 ((repeat refine Ws ?_);refine W_regionE T_ok ?_; intro Kn hKn)
 ((simp (maxSteps := 1000000) only [VL,VM,↓VG,reduceIte,reduceCtorEq,zA,zB,zC,zD,zE,zF,zG,zH,zI,zJ]); rw [hKn];clear hKn Kn;simp only [QV,reduceIte,reduceCtorEq,Nat.reduceEqDiff])
 (repeat refine Ws ?_)
 refine W_scope ?_
 ((repeat refine Ws ?_);refine W_regionE T_ok ?_; intro Kn hKn)
 simp (maxSteps := 1000000) only [VL,VM,↓VG,reduceIte,reduceCtorEq,zA,zB,zC,zD,zE,zF,zG,zH,zI,zJ]
 apply call_eq (f := 7) (fn := Tryd.f7) (by kernel_rfl) (by rfl)
 ·exact check_v y _ hnr hmm hl
 ((simp (maxSteps := 1000000) only [VL,VM,↓VG,reduceIte,reduceCtorEq,zA,zB,zC,zD,zE,zF,zG,zH,zI,zJ]); rw [hKn];clear hKn Kn;simp only [QV,reduceIte,reduceCtorEq,Nat.reduceEqDiff])
 ((repeat refine Ws ?_);refine W_regionE T_ok ?_; intro Kn hKn)
 by_cases h1 : yErr y = 0
 ·have hy := yErr_ok.1 h1
  have hm7 := hy.m1
  have hn3 := hy.n1
  obtain ⟨n, hn⟩ : ∃ n, n = y.carts.length := ⟨_, rfl⟩
  rw [← hn] at hm7
  have hR0 := ry0_ok hy
  have h2n : 2 ^ n ≤ 128 := Nat.pow_le_pow_right (n := 2) (by decide) hm7
  have h2p : 1 ≤ 2 ^ n := Nat.one_le_two_pow
  have h2l : 2 ^ n < 256 := by omega
  have hall : 2 ^ n - 1 < 128 := by omega
  have hle0 := ry_le hR0
  have hsg := soon_get (R := ry0 y) hall
  ((simp (maxSteps := 1000000) only [VL,VM,↓VG,reduceIte,reduceCtorEq,zA,zB,zC,zD,zE,zF,zG,zH,zI,zJ, h1]); rw [hKn];clear hKn Kn;simp only [QV,reduceIte,reduceCtorEq,Nat.reduceEqDiff])
  ((repeat refine Ws ?_);refine Wf (by first|rfl|simp only [EV,zF,reduceIte]) ?_)
  (((repeat refine Ws ?_);refine W_skip ?_); simp only [QV,reduceIte,reduceCtorEq,Nat.reduceEqDiff])
  ((repeat refine Ws ?_);refine W_regionE T_ok ?_; intro Kn hKn)
  ((simp (maxSteps := 1000000) only [VL,VM,↓VG,reduceIte,reduceCtorEq,zA,zB,zC,zD,zE,zF,zG,zH,zI,zJ, ← hn, u8_shl1, hm7, u8_sub1, h2p, h2l]); rw [hKn];clear hKn Kn;simp only [QV,reduceIte,reduceCtorEq,Nat.reduceEqDiff])
  ((repeat refine Ws ?_);refine W_regionE T_ok ?_; intro Kn hKn)
  ((simp (maxSteps := 1000000) only [VL,VM,↓VG,reduceIte,reduceCtorEq,zA,zB,zC,zD,zE,zF,zG,zH,zI,zJ]); rw [hKn];clear hKn Kn;simp only [QV,reduceIte,reduceCtorEq,Nat.reduceEqDiff])
  (repeat refine Ws ?_)
  refine W_eqM (M' := ⟨M.H ++ [.obj (yardC y), .obj (ryC (ry0 y))], M.lg⟩) rfl ?_
  ((repeat refine Ws ?_);refine W_regionE T_ok ?_; intro Kn hKn)
  simp (maxSteps := 1000000) only [VL,VM,↓VG,reduceIte,reduceCtorEq,zA,zB,zC,zD,zE,zF,zG,zH,zI,zJ, hle0, ry_take hR0, ry_strip]
  apply call_eq (f := 37) (fn := Tryd.f37) (by kernel_rfl) (by rfl)
  ·exact soonest_v hR0 _
  ((simp (maxSteps := 1000000) only [VL,VM,↓VG,reduceIte,reduceCtorEq,zA,zB,zC,zD,zE,zF,zG,zH,zI,zJ, idx_su, hall, hsg]); rw [hKn];clear hKn Kn;simp only [QV,reduceIte,reduceCtorEq,Nat.reduceEqDiff])
  ((repeat refine Ws ?_);refine W_regionE T_ok ?_; intro Kn hKn)
  cases hs : servedR y with
  | none =>
   have hv := first_never hy hs
   rw [← hn] at hv
   have hv' : ((1048576 : Int) ≤ (soonestL (ry0 y)).getD (2 ^ n - 1) 0) = True := eq_true hv
   ((simp (maxSteps := 1000000) only [VL,VM,↓VG,reduceIte,reduceCtorEq,zA,zB,zC,zD,zE,zF,zG,zH,zI,zJ, hv']); rw [hKn];clear hKn Kn;simp only [QV,reduceIte,reduceCtorEq,Nat.reduceEqDiff])
   ((repeat refine Ws ?_);refine Wt (by first|rfl|simp only [EV,zF,reduceIte]) ?_)
   ((repeat refine Ws ?_);refine W_regionE T_ok ?_; intro Kn hKn)
   ((simp (maxSteps := 1000000) only [VL,VM,↓VG,reduceIte,reduceCtorEq,zA,zB,zC,zD,zE,zF,zG,zH,zI,zJ]); rw [hKn];clear hKn Kn;simp only [QV,reduceIte,reduceCtorEq,Nat.reduceEqDiff])
   (repeat refine Ws ?_)
   refine W_nil (t := 2) (k := 2) rfl ?_
   rw [show serveV y = .tup [stsV [], vi 0, vi 3] by simp only [serveV, serveT, h1, hs]; rfl]
   (repeat refine Ws ?_)
   refine W_ret ?_
   try simp only [thenQ, blockQ]
   refine own_ret3 rfl ?_ ?_ ?_ (by rfl) (by rfl) (by rfl)
   ·rfl
   ·rfl
   ·rfl
  | some b =>
   have hb := (servedR_best hy).1 b hs
   have hbl := hb.len
   rw [← hn] at hbl
   have hv := first_last hy hs
   rw [← hn] at hv
   have hl0 := lastV_nn y b
   have hl1 := last_bd hy hb
   have hmiss := fun (c r : Nat) (f : Int) (hc : c < n) => put_miss hy hs (c := c) (r := r) (f := f) (by omega)
   have hown := fun (c : Nat) (hc : c < n) => put_own hy hs (c := c) (by omega)
   have hfok := fun (c : Nat) (hc : c ≤ n) => fixR_ok hy hb hl0 hl1 c (by omega)
   have hbd := fun (c : Nat) (hc : c < n) => hb.bd hy (i := c) (by omega)
   have hsv : serveV y = .tup [stsV b, vi (lastV y b), vi 0] := by simp only [serveV, serveT, h1, hs]; rfl
   obtain ⟨last, hlast⟩ : ∃ last, last = lastV y b := ⟨_, rfl⟩
   rw [← hlast] at hv hl0 hl1 hmiss hown hfok hsv
   rw [← hn] at hmiss hown
   rw [hv]
   have hv' : ((1048576 : Int) ≤ last) = False := eq_false (by omega)
   have hl16 : (17 ≤ (ryC (ry0 y)).length) = True := hle0
   ((simp (maxSteps := 1000000) only [VL,VM,↓VG,reduceIte,reduceCtorEq,zA,zB,zC,zD,zE,zF,zG,zH,zI,zJ, hv']); rw [hKn];clear hKn Kn;simp only [QV,reduceIte,reduceCtorEq,Nat.reduceEqDiff])
   ((repeat refine Ws ?_);refine Wf (by first|rfl|simp only [EV,zF,reduceIte]) ?_)
   (((repeat refine Ws ?_);refine W_skip ?_); simp only [QV,reduceIte,reduceCtorEq,Nat.reduceEqDiff])
   ((repeat refine Ws ?_);refine W_regionE T_ok ?_; intro Kn hKn)
   ((simp (maxSteps := 1000000) only [VL,VM,↓VG,reduceIte,reduceCtorEq,zA,zB,zC,zD,zE,zF,zG,zH,zI,zJ, hl16]); rw [hKn];clear hKn Kn;simp only [QV,reduceIte,reduceCtorEq,Nat.reduceEqDiff])
   rw [ry_sett hR0]
   (repeat refine Ws ?_)
   refine W_label ?_
   simp only [thenQ.eq_1, thenQ.eq_2, blockQ.eq_1, blockQ.eq_2]
   (repeat refine Ws ?_)
   refine W_tok (t := 2) (k := 2) rfl ?_
   ((repeat refine Ws ?_);refine W_regionE T_ok ?_; intro Kn hKn)
   ((simp (maxSteps := 1000000) only [VL,VM,↓VG,reduceIte,reduceCtorEq,zA,zB,zC,zD,zE,zF,zG,zH,zI,zJ, ← hn]); rw [hKn];clear hKn Kn;simp only [QV,reduceIte,reduceCtorEq,Nat.reduceEqDiff])
   ((repeat refine Ws ?_);refine W_block ?_; (repeat refine Ws ?_)); refine W_loopS (fun s : Nat × List VObj => [(1, .ptr M.H.length 0), (2, .so (M.H.length + 2) 2 ((b.take s.1).map stP)), (3, vi last), (6, su (2 ^ n - 1)), (7, .ptr (M.H.length + 1) 0), (38, ctsV y.carts), (39, vi n), (40, vi s.1)]) (fun s => ⟨SM M.H y (fixR y last b s.1) s.1 s.2, M.lg⟩) (fun s => n - s.1) (fun s => s.1 ≤ n) (0, []) (Nat.zero_le _) ⟨rfl, rfl, rfl, rfl, rfl, rfl, rfl, rfl, trivial⟩ rfl ?_
   rintro ⟨c, J⟩ hc
   simp only at hc
   have k1 : -9223372036854775808 ≤ (c : Int) + 1 ∧ (c : Int) + 1 < 9223372036854775808 := by omega
   ((repeat refine Ws ?_);refine W_regionE T_ok ?_; intro Kn hKn)
   rcases Nat.lt_or_ge c n with hlt | hge
   ·have k2 : ((c : Int) < (n : Int)) = True := eq_true (by omega)
    have hc2 : c < y.carts.length := by omega
    have hy' := map_at (f := ctP) (ctAt_get hc2)
    have hcv := hy.ct _ (ctAt_mem hc2)
    obtain ⟨Hc, hHc⟩ : ∃ Hc, Hc = SM M.H y (fixR y last b c) c J := ⟨_, rfl⟩
    rw [← hHc]
    ((simp (maxSteps := 1000000) only [VL,VM,↓VG,reduceIte,reduceCtorEq,zA,zB,zC,zD,zE,zF,zG,zH,zI,zJ, k2]); rw [hKn];clear hKn Kn;simp only [QV,reduceIte,reduceCtorEq,Nat.reduceEqDiff])
    ((repeat refine Ws ?_);refine Wt (by first|rfl|simp only [EV,zF,reduceIte]) ?_)
    (((repeat refine Ws ?_);refine W_skip ?_); simp only [QV,reduceIte,reduceCtorEq,Nat.reduceEqDiff])
    ((repeat refine Ws ?_);refine W_block ?_)
    ((repeat refine Ws ?_);refine W_regionE T_ok ?_; intro Kn hKn)
    ((simp (maxSteps := 1000000) only [VL,VM,↓VG,reduceIte,reduceCtorEq,zA,zB,zC,zD,zE,zF,zG,zH,zI,zJ, hy']); rw [hKn];clear hKn Kn;simp only [QV,reduceIte,reduceCtorEq,Nat.reduceEqDiff])
    obtain ⟨H1, hH1⟩ : ∃ H1, H1 = Hc ++ [.obj [vi c], .obj (ctC (ctAt y c))] := ⟨_, rfl⟩
    obtain ⟨p8, hp8⟩ : ∃ p8, p8 = Hc.length := ⟨_, rfl⟩
    obtain ⟨p9, hp9⟩ : ∃ p9, p9 = p8 + 1 := ⟨_, rfl⟩
    have g8 : ∀ X, (H1 ++ X)[p8]? = some (.obj [vi c]) := fun X => by rw [hH1, hp8, List.append_assoc, hget0]; rfl
    have g9 : ∀ X, (H1 ++ X)[p9]? = some (.obj (ctC (ctAt y c))) := fun X => by rw [hH1, hp9, hp8, List.append_assoc, hget]; rfl
    have gS : ∀ X, H1 ++ X = SM M.H y (fixR y last b c) c (J ++ ([.obj [vi c], .obj (ctC (ctAt y c))] ++ X)) := fun X => by rw [hH1, hHc, SM_app, SM_app, List.append_assoc]
    have gy : ∀ X, (H1 ++ X)[M.H.length]? = some (.obj (yardC y)) := fun X => by rw [gS]; exact SM_y
    have gw : ∀ X, (H1 ++ X)[M.H.length + 1]? = some (.obj (ryC (fixR y last b c))) := fun X => by rw [gS]; exact SM_w
    obtain ⟨idx, hidx⟩ := List.getElem?_of_mem (hb.r c (by omega))
    have hidl := (List.getElem?_eq_some_iff.1 hidx).1
    have hrl : (ctAt y c).ramps.length ≤ 1000000 := hl _ (ctAt_mem hc2)
    obtain ⟨rb, hrb⟩ : ∃ rb : Nat, (stAt b c).ramp = rb := ⟨(stAt b c).ramp.toNat, by have := hbd c hlt; omega⟩
    obtain ⟨fb, hfb⟩ : ∃ fb : Int, (stAt b c).from_ = fb := ⟨_, rfl⟩
    have hbb := hbd c hlt
    have hstb : stAt b c = ⟨rb, fb⟩ := by rw [← hrb, ← hfb]
    have hlastc : fb + (ctAt y c).takes.hi ≤ last := by rw [hlast, ← hfb]; exact lastV_at (by omega) hc2
    have hf1b : (ctAt y c).from_ ≤ fb := by rw [← hfb]; exact hb.f1 c (by omega)
    have hf2b : (raAt y rb).open_ ≤ fb := by rw [← hfb, ← hrb]; exact hb.f2 c (by omega)
    rw [hrb] at hidx hbb
    rw [hfb] at hbb
    have hfix : fixR y last b (c + 1) = putR (fixR y last b c) c rb fb := by
     rw [fixR, hstb]; simp
    have hmissc := fun r f => hmiss c r f hlt
    have hownc := hown c hlt
    rw [hfix, hstb] at hownc
    rw [hstb] at hmissc
    simp only [Int.toNat_natCast] at hownc
    have hRc := hfok c (by omega)
    have hRcy := fixR_y y last b c
    have hc7 : c < 7 := by omega
    ((repeat refine Ws ?_);refine W_regionE T_ok ?_; intro Kn hKn)
    ((simp (maxSteps := 1000000) only [VL,VM,↓VG,reduceIte,reduceCtorEq,zA,zB,zC,zD,zE,zF,zG,zH,zI,zJ]); rw [hKn];clear hKn Kn;simp only [QV,reduceIte,reduceCtorEq,Nat.reduceEqDiff])
    have g9' := g9 []
    rw [List.append_nil] at g9'
    rw [← hH1, ← hp8, ← hp9]
    ((repeat refine Ws ?_);refine W_block ?_; (repeat refine Ws ?_)); refine W_loopS (fun q : Nat × List VObj => [(1, .ptr M.H.length 0), (2, .so (M.H.length + 2) 2 ((b.take c).map stP)), (3, vi last), (6, su (2 ^ n - 1)), (7, .ptr (M.H.length + 1) 0), (8, .ptr p8 0), (9, .ptr p9 0), (38, ctsV y.carts), (39, vi n), (40, vi c), (46, intsV (ctAt y c).ramps), (47, vi (ctAt y c).ramps.length), (48, vi q.1)]) (fun q => ⟨H1 ++ q.2, M.lg⟩) (fun q => (ctAt y c).ramps.length - q.1) (fun q => q.1 ≤ idx) (0, []) (Nat.zero_le _) ⟨rfl, rfl, rfl, rfl, rfl, rfl, rfl, rfl, rfl, rfl, rfl, rfl, rfl, trivial⟩ (by simp) ?_
    rintro ⟨k, J2⟩ hk
    simp only at hk
    have hkl : k < (ctAt y c).ramps.length := by omega
    have j1 : -9223372036854775808 ≤ (k : Int) + 1 ∧ (k : Int) + 1 < 9223372036854775808 := by omega
    have j2 : ((k : Int) < ((ctAt y c).ramps.length : Int)) = True := eq_true (by omega)
    have hr : (ctAt y c).ramps[k]? = some (ctAt y c).ramps[k] := List.getElem?_eq_getElem hkl
    have hrv := hcv.r _ (List.getElem_mem hkl)
    have hrlt : k < idx → (ctAt y c).ramps[k] < (rb : Int) := fun h => by
     have h1 := List.pairwise_iff_getElem.1 hcv.asc k idx hkl hidl h
     have h2 : (ctAt y c).ramps[idx] = (rb : Int) := by
      have := List.getElem?_eq_getElem hidl
      rw [hidx] at this
      exact (Option.some.inj this).symm
     omega
    have hreq : k = idx → (ctAt y c).ramps[k] = (rb : Int) := fun h => by
     subst h
     have := List.getElem?_eq_getElem hidl
     rw [hidx] at this
     exact (Option.some.inj this).symm
    generalize (ctAt y c).ramps[k] = r0 at hr hrv hrlt hreq
    obtain ⟨rn, rfl⟩ : ∃ rn : Nat, r0 = rn := ⟨r0.toNat, by omega⟩
    have hrn : rn < y.ramps.length := by omega
    have hr' := map_at (f := intP) hr
    have hz' := map_at (f := raP) (raAt_get (y := y) (r := (rn : Int)) (by omega) (by omega))
    rw [Int.toNat_natCast] at hz'
    have hrav := hy.ra _ (raAt_mem (y := y) (r := (rn : Int)) (by omega) (by omega))
    have r0a := hrav.o0
    have r0b := hrav.os
    have r0c := hrav.s1
    have c0a := hcv.f0
    have c0b := hcv.fu
    have c0c := hcv.u1
    have c0d := hcv.l0
    have c0e := hcv.lh
    have hcmp : (k < idx ∧ rn < rb) ∨ (k = idx ∧ rn = rb) := by
     rcases Nat.lt_or_ge k idx with h | h
     ·have := hrlt h
      exact .inl ⟨h, by omega⟩
     ·have := hreq (by omega)
      exact .inr ⟨by omega, by omega⟩
    obtain ⟨f0, hf0⟩ : ∃ f0, f0 = max (ctAt y c).from_ (raAt y rn).open_ := ⟨_, rfl⟩
    have hf00 : 0 ≤ f0 ∧ f0 ≤ 480 := by omega
    have hf0b : rn = rb → f0 ≤ fb := fun e => by subst e; omega
    ((repeat refine Ws ?_);refine W_regionE T_ok ?_; intro Kn hKn)
    ((simp (maxSteps := 1000000) only [VL,VM,↓VG,reduceIte,reduceCtorEq,zA,zB,zC,zD,zE,zF,zG,zH,zI,zJ, j2]); rw [hKn];clear hKn Kn;simp only [QV,reduceIte,reduceCtorEq,Nat.reduceEqDiff])
    ((repeat refine Ws ?_);refine Wt (by first|rfl|simp only [EV,zF,reduceIte]) ?_)
    (((repeat refine Ws ?_);refine W_skip ?_); simp only [QV,reduceIte,reduceCtorEq,Nat.reduceEqDiff])
    ((repeat refine Ws ?_);refine W_block ?_)
    ((repeat refine Ws ?_);refine W_regionE T_ok ?_; intro Kn hKn)
    ((simp (maxSteps := 1000000) only [VL,VM,↓VG,reduceIte,reduceCtorEq,zA,zB,zC,zD,zE,zF,zG,zH,zI,zJ, hr']); rw [hKn];clear hKn Kn;simp only [QV,reduceIte,reduceCtorEq,Nat.reduceEqDiff])
    obtain ⟨p11, hp11⟩ : ∃ p11, p11 = H1.length + J2.length := ⟨_, rfl⟩
    obtain ⟨H2, hH2⟩ : ∃ H2, H2 = H1 ++ (J2 ++ [.obj [vi rn]]) := ⟨_, rfl⟩
    have b8 : ∀ X, (H2 ++ X)[p8]? = some (.obj [vi c]) := fun X => by rw [hH2, List.append_assoc]; exact g8 _
    have b9 : ∀ X, (H2 ++ X)[p9]? = some (.obj (ctC (ctAt y c))) := fun X => by rw [hH2, List.append_assoc]; exact g9 _
    have by_ : ∀ X, (H2 ++ X)[M.H.length]? = some (.obj (yardC y)) := fun X => by rw [hH2, List.append_assoc]; exact gy _
    have bw : ∀ X, (H2 ++ X)[M.H.length + 1]? = some (.obj (ryC (fixR y last b c))) := fun X => by rw [hH2, List.append_assoc]; exact gw _
    have b11 : ∀ X, (H2 ++ X)[p11]? = some (.obj [vi rn]) := fun X => by rw [hH2, hp11, List.append_assoc, hget, List.append_assoc, hget0]; rfl
    have bS : ∀ X, H2 ++ X = SM M.H y (fixR y last b c) c (J ++ ([.obj [vi c], .obj (ctC (ctAt y c))] ++ ((J2 ++ [.obj [vi rn]]) ++ X))) := fun X => by rw [hH2, List.append_assoc]; exact gS _
    rw [← hH2, ← hp11]
    (repeat refine Ws ?_)
    refine W_drawE T_ok [.obj [vi 0]] (by kernel_rfl) (by kernel_rfl) ?_
    intro Kn hKn
    generalize hi : mkPlan _ = infs
    cbv at hi
    subst hi
    ((simp (maxSteps := 1000000) only [VL,VM,↓VG,reduceIte,reduceCtorEq,zA,zB,zC,zD,zE,zF,zG,zH,zI,zJ, b9, by_, b11, hz']); rw [hKn];clear hKn Kn;simp only [QV,reduceIte,reduceCtorEq,Nat.reduceEqDiff])
    rw [← hf0]
    ((repeat refine Ws ?_);refine W_block ?_; (repeat refine Ws ?_)); refine W_loopS (fun q : FrS => [(1, .ptr M.H.length 0), (2, .so (M.H.length + 2) 2 ((b.take c).map stP)), (3, vi last), (6, su (2 ^ n - 1)), (7, .ptr (M.H.length + 1) 0), (8, .ptr p8 0), (9, .ptr p9 0), (11, .ptr p11 0), (12, .ptr q.p 0), (38, ctsV y.carts), (39, vi n), (40, vi c), (46, intsV (ctAt y c).ramps), (47, vi (ctAt y c).ramps.length), (48, vi k)]) (fun q => ⟨H2 ++ q.J, M.lg⟩) (fun q => (last + 1 - q.f).toNat) (fun q => f0 ≤ q.f ∧ q.f ≤ last + 1 + 481 ∧ (rn = rb → q.f ≤ fb) ∧ (H2 ++ q.J)[q.p]? = some (.obj [vi q.f])) ⟨f0, H2.length, [.obj [vi f0]]⟩ ⟨Int.le_refl _, by simp only; omega, hf0b, by simp only; rw [hget0]; rfl⟩ ⟨rfl, rfl, rfl, rfl, rfl, rfl, rfl, rfl, rfl, rfl, rfl, rfl, rfl, rfl, rfl, trivial⟩ rfl ?_
    rintro ⟨f, p12, J3⟩ ⟨hq1, hq2, hq3, g12⟩
    simp only at hq1 hq2 hq3 g12
    have g12x : ∀ X, (H2 ++ (J3 ++ X))[p12]? = some (.obj [vi f]) := fun X => by rw [← List.append_assoc]; exact app_get g12 X
    ((repeat refine Ws ?_);refine W_regionE T_ok ?_; intro Kn hKn)
    by_cases hfl : f ≤ last
    ·have kf : -9223372036854775808 ≤ f + 1 ∧ f + 1 < 9223372036854775808 := by omega
     obtain ⟨R', hR'⟩ : ∃ R', R' = putR (fixR y last b c) c rn f := ⟨_, rfl⟩
     have hok : RyOk R' := by rw [hR']; exact putR_ok hRc hc7 (by omega) (by omega)
     have hRy : R'.y = y := by rw [hR']; exact hRcy
     have hlen' := ry_len hok
     have hle' := ry_le hok
     have hput := put_v (c := c) (r := rn) (f := f) hRc ⟨H2 ++ J3, M.lg⟩ (bw J3) (by rw [hRcy]; exact by_ J3) (b11 J3) (b8 J3) g12 hc7
     rw [← hR'] at hput
     ((simp (maxSteps := 1000000) only [VL,VM,↓VG,reduceIte,reduceCtorEq,zA,zB,zC,zD,zE,zF,zG,zH,zI,zJ, g12, hfl]); rw [hKn];clear hKn Kn;simp only [QV,reduceIte,reduceCtorEq,Nat.reduceEqDiff])
     ((repeat refine Ws ?_);refine Wt (by first|rfl|simp only [EV,zF,reduceIte]) ?_)
     (((repeat refine Ws ?_);refine W_skip ?_); simp only [QV,reduceIte,reduceCtorEq,Nat.reduceEqDiff])
     ((repeat refine Ws ?_);refine W_block ?_)
     ((repeat refine Ws ?_);refine W_regionE T_ok ?_; intro Kn hKn)
     ((simp (maxSteps := 1000000) only [VL,VM,↓VG,reduceIte,reduceCtorEq,zA,zB,zC,zD,zE,zF,zG,zH,zI,zJ]); rw [hKn];clear hKn Kn;simp only [QV,reduceIte,reduceCtorEq,Nat.reduceEqDiff])
     ((repeat refine Ws ?_);refine W_regionE T_ok ?_; intro Kn hKn)
     simp (maxSteps := 1000000) only [VL,VM,↓VG,reduceIte,reduceCtorEq,zA,zB,zC,zD,zE,zF,zG,zH,zI,zJ]
     refine callf_eq (f := 38) (fn := Tryd.f38) (caps := [.ptr (M.H.length + 1) 0, .ptr M.H.length 0, .ptr p11 0, .ptr p8 0, .ptr p12 0]) (args := []) (by kernel_rfl) (by rfl) hput ?_
     ((simp (maxSteps := 1000000) only [VL,VM,↓VG,reduceIte,reduceCtorEq,zA,zB,zC,zD,zE,zF,zG,zH,zI,zJ, hlen', ry_cells, ry_refs]); rw [hKn];clear hKn Kn;simp only [QV,reduceIte,reduceCtorEq,Nat.reduceEqDiff])
     ((repeat refine Ws ?_);refine W_regionE T_ok ?_; intro Kn hKn)
     simp (maxSteps := 1000000) only [VL,VM,↓VG,reduceIte,reduceCtorEq,zA,zB,zC,zD,zE,zF,zG,zH,zI,zJ, hle', ry_take hok, ry_strip, b8, b11]
     apply call_eq (f := 40) (fn := Tryd.f40) (by kernel_rfl) (by rfl)
     ·exact may_v hok c rn _ (by rw [hRy]; exact hc2) (by rw [hRy]; exact hrn)
     have hgo0 : ¬ (mayB R' c rn = true ∧ (soonestL R').getD (2 ^ n - 1) 0 ≤ last) → rn = rb → f + 1 ≤ fb := fun h e => by
      have := hq3 e
      by_cases hfe : f = fb
      ·subst hfe
       rw [hR', e] at h
       exact absurd hownc h
      ·omega
     cases hmb : mayB R' c rn
     ·have hgo := hgo0 (by rw [hmb]; simp)
      ((simp (maxSteps := 1000000) only [VL,VM,↓VG,reduceIte,reduceCtorEq,zA,zB,zC,zD,zE,zF,zG,zH,zI,zJ]); rw [hKn];clear hKn Kn;simp only [QV,reduceIte,reduceCtorEq,Nat.reduceEqDiff])
      ((repeat refine Ws ?_);refine Wf (by first|rfl|simp only [EV,zF,reduceIte]) ?_)
      (((repeat refine Ws ?_);refine W_skip ?_); simp only [QV,reduceIte,reduceCtorEq,Nat.reduceEqDiff])
      ((repeat refine Ws ?_);refine W_regionE T_ok ?_; intro Kn hKn)
      ((simp (maxSteps := 1000000) only [VL,VM,↓VG,reduceIte,reduceCtorEq,zA,zB,zC,zD,zE,zF,zG,zH,zI,zJ, g12x]); rw [hKn];clear hKn Kn;simp only [QV,reduceIte,reduceCtorEq,Nat.reduceEqDiff])
      ((repeat refine Ws ?_);refine W_regionE T_ok ?_; intro Kn hKn)
      ((simp (maxSteps := 1000000) only [VL,VM,↓VG,reduceIte,reduceCtorEq,zA,zB,zC,zD,zE,zF,zG,zH,zI,zJ]); rw [hKn];clear hKn Kn;simp only [QV,reduceIte,reduceCtorEq,Nat.reduceEqDiff])
      ((repeat refine Ws ?_);refine W_regionE T_ok ?_; intro Kn hKn)
      ((simp (maxSteps := 1000000) only [VL,VM,↓VG,reduceIte,reduceCtorEq,zA,zB,zC,zD,zE,zF,zG,zH,zI,zJ, kf]); rw [hKn];clear hKn Kn;simp only [QV,reduceIte,reduceCtorEq,Nat.reduceEqDiff])
      exact LoopK.mk ⟨f + 1, H2.length + (J3.length + 1), J3 ++ [.obj (ryC R'), .obj [vi (f + 1)]]⟩ (by simp only; omega) ⟨by simp only; omega, by simp only; omega, fun e => by have := hgo e; simp only; omega, by simp only; rw [hget, hget]; rfl⟩ ⟨rfl, rfl, rfl, rfl, rfl, rfl, rfl, rfl, rfl, rfl, rfl, rfl, rfl, rfl, rfl, trivial⟩ rfl
     ·have hsgc := soon_get (R := R') hall
      simp (maxSteps := 1000000) only [VL,VM,↓VG,reduceIte,reduceCtorEq,zA,zB,zC,zD,zE,zF,zG,zH,zI,zJ, hle', ry_take hok, ry_strip]
      apply call_eq (f := 37) (fn := Tryd.f37) (by kernel_rfl) (by rfl)
      ·exact soonest_v hok _
      by_cases hso : (soonestL R').getD (2 ^ n - 1) 0 ≤ last
      ·have hhit : rn = rb ∧ f = fb := by
        refine Classical.byContradiction fun hne => ?_
        have hslt : sltB ⟨(rn : Int), f⟩ ⟨(rb : Int), fb⟩ = true := by
         rw [sltB_true]
         simp only
         rcases hcmp with h | h
         ·left; exact Int.ofNat_lt.2 h.2
         ·right
          refine ⟨by rw [h.2], ?_⟩
          have h1 := hq3 h.2
          have h2 : ¬ f = fb := fun e => hne ⟨h.2, e⟩
          omega
        have := hmissc rn f hrn (by omega) (by omega) hslt
        rw [← hR'] at this
        exact this hso
       obtain ⟨hrr, hff⟩ := hhit
       obtain ⟨H4, hH4⟩ : ∃ H4, H4 = H2 ++ (J3 ++ [.obj (ryC R')]) := ⟨_, rfl⟩
       obtain ⟨p14, hp14⟩ : ∃ p14, p14 = H2.length + J3.length := ⟨_, rfl⟩
       obtain ⟨JJ, hS⟩ : ∃ JJ, H4 = SM M.H y (fixR y last b c) c JJ := ⟨_, by rw [hH4]; exact bS _⟩
       have hH2l : M.H.length + 3 ≤ p11 ∧ p11 < H2.length := by
        have h1 : H1.length + J2.length < H2.length := by rw [hH2]; simp
        have h2 : M.H.length + 3 ≤ H1.length := by
         have := gS []
         rw [List.append_nil] at this
         rw [this]; exact SM_len
        rw [hp11]
        exact ⟨by omega, h1⟩
       have e14 : H4[p14]? = some (.obj (ryC R')) := by rw [hH4, hp14, hget, hget0]; rfl
       have e11 : H4[p11]? = some (.obj [vi rn]) := by rw [hH4]; exact b11 _
       have e12 : H4[p12]? = some (.obj [vi f]) := by rw [hH4]; exact g12x _
       have ew : H4[M.H.length + 1]? = some (.obj (ryC (fixR y last b c))) := by rw [hS]; exact SM_w
       have et : H4[M.H.length + 2]? = some (.clm c 2) := by rw [hS]; exact SM_t
       have n14 : M.H.length + 1 ≠ p14 ∧ M.H.length + 2 ≠ p14 := by omega
       have n11 : M.H.length + 1 ≠ p11 ∧ M.H.length + 2 ≠ p11 := by omega
       have n12 : M.H.length + 1 ≠ p12 ∧ M.H.length + 2 ≠ p12 := by
        constructor
        ·intro e
         rw [e, e12] at ew
         have h1 := congrArg List.length (VObj.obj.inj (Option.some.inj ew))
         rw [ry_len hRc] at h1
         simp at h1
        ·intro e
         rw [e, e12] at et
         cases et
       have n21 : M.H.length + 2 ≠ M.H.length + 1 := by omega
       have s14 : ∀ o, (H4.set (M.H.length + 2) o)[p14]? = some (.obj (ryC R')) := fun o => by rw [List.getElem?_set_ne n14.2]; exact e14
       have s11 : ∀ o, (H4.set (M.H.length + 2) o)[p11]? = some (.obj [vi rn]) := fun o => by rw [List.getElem?_set_ne n11.2]; exact e11
       have s12 : ∀ o, (H4.set (M.H.length + 2) o)[p12]? = some (.obj [vi f]) := fun o => by rw [List.getElem?_set_ne n12.2]; exact e12
       have sw : ∀ o, (H4.set (M.H.length + 2) o)[M.H.length + 1]? = some (.obj (ryC (fixR y last b c))) := fun o => by rw [List.getElem?_set_ne n21]; exact ew
       have t14 : ∀ o o', ((H4.set (M.H.length + 2) o).set (M.H.length + 1) o')[p14]? = some (.obj (ryC R')) := fun o o' => by rw [List.getElem?_set_ne n14.1]; exact s14 o
       have t11 : ∀ o o', ((H4.set (M.H.length + 2) o).set (M.H.length + 1) o')[p11]? = some (.obj [vi rn]) := fun o o' => by rw [List.getElem?_set_ne n11.1]; exact s11 o
       have t12 : ∀ o o', ((H4.set (M.H.length + 2) o).set (M.H.length + 1) o')[p12]? = some (.obj [vi f]) := fun o o' => by rw [List.getElem?_set_ne n12.1]; exact s12 o
       have u14 : ∀ o', (H4.set (M.H.length + 1) o')[p14]? = some (.obj (ryC R')) := fun o' => by rw [List.getElem?_set_ne n14.1]; exact e14
       have hss : (H4.set (M.H.length + 2) (.clm (c + 1) 2)).set (M.H.length + 1) (.obj (ryC R')) = SM M.H y R' (c + 1) JJ := by rw [hS, SM_sett, SM_setw]
       have hmin : (b.take c).length = c := by rw [List.length_take]; omega
       have hq16 : ((c + 1) * 16 ≤ 140737488355328) = True := eq_true (by omega)
       have hRcl := ry_len hRc
       have hdrop : List.drop 17 (ryC (fixR y last b c)) = [] := List.drop_of_length_le (by omega)
       have htk : (b.take (c + 1)).map stP = (b.take c).map stP ++ [[.int .i64 rn, .int .i64 f]] := by
        rw [List.take_add_one, stAt_get (by omega), hstb, hrr, hff, List.map_append]
        rfl
       have hR2 : fixR y last b (c + 1) = R' := by rw [hfix, hR', hrr, hff]
       ((simp (maxSteps := 1000000) only [VL,VM,↓VG,reduceIte,reduceCtorEq,zA,zB,zC,zD,zE,zF,zG,zH,zI,zJ, idx_su, hall, hsgc, hso]); rw [hKn];clear hKn Kn;simp only [QV,reduceIte,reduceCtorEq,Nat.reduceEqDiff])
       ((repeat refine Ws ?_);refine Wt (by first|rfl|simp only [EV,zF,reduceIte]) ?_)
       rw [← hp14, ← hH4]
       (repeat refine Ws ?_)
       refine W_drawE T_ok [] (by kernel_rfl) (by kernel_rfl) ?_
       intro Kn hKn
       generalize hi : mkPlan _ = infs
       cbv at hi
       subst hi
       ((simp (maxSteps := 1000000) only [VL,VM,↓VG,reduceIte,reduceCtorEq,zA,zB,zC,zD,zE,zF,zG,zH,zI,zJ, e14, e11, e12, ew, et, s14, s11, s12, sw, t14, t11, t12, u14, hle', ry_take hok, ry_strip, hlen', ry_cells, ry_refs, hRcl, hmin, hq16, hdrop]); rw [hKn];clear hKn Kn;simp only [QV,reduceIte,reduceCtorEq,Nat.reduceEqDiff])
       rw [hss, ← htk, ← hR2]
       (((repeat refine Ws ?_);refine W_exit ?_); simp only [QV,reduceIte,reduceCtorEq,Nat.reduceEqDiff])
       ((repeat refine Ws ?_);refine W_regionE T_ok ?_; intro Kn hKn)
       ((simp (maxSteps := 1000000) only [VL,VM,↓VG,reduceIte,reduceCtorEq,zA,zB,zC,zD,zE,zF,zG,zH,zI,zJ, k1]); rw [hKn];clear hKn Kn;simp only [QV,reduceIte,reduceCtorEq,Nat.reduceEqDiff])
       exact LoopK.mk (c + 1, JJ) (by simp only; omega) (by simp only; omega) ⟨rfl, rfl, rfl, rfl, rfl, rfl, rfl, rfl, trivial⟩ rfl
      ·have hgo := hgo0 (fun h => hso h.2)
       ((simp (maxSteps := 1000000) only [VL,VM,↓VG,reduceIte,reduceCtorEq,zA,zB,zC,zD,zE,zF,zG,zH,zI,zJ, idx_su, hall, hsgc, hso]); rw [hKn];clear hKn Kn;simp only [QV,reduceIte,reduceCtorEq,Nat.reduceEqDiff])
       ((repeat refine Ws ?_);refine Wf (by first|rfl|simp only [EV,zF,reduceIte]) ?_)
       (((repeat refine Ws ?_);refine W_skip ?_); simp only [QV,reduceIte,reduceCtorEq,Nat.reduceEqDiff])
       ((repeat refine Ws ?_);refine W_regionE T_ok ?_; intro Kn hKn)
       ((simp (maxSteps := 1000000) only [VL,VM,↓VG,reduceIte,reduceCtorEq,zA,zB,zC,zD,zE,zF,zG,zH,zI,zJ, g12x]); rw [hKn];clear hKn Kn;simp only [QV,reduceIte,reduceCtorEq,Nat.reduceEqDiff])
       ((repeat refine Ws ?_);refine W_regionE T_ok ?_; intro Kn hKn)
       ((simp (maxSteps := 1000000) only [VL,VM,↓VG,reduceIte,reduceCtorEq,zA,zB,zC,zD,zE,zF,zG,zH,zI,zJ]); rw [hKn];clear hKn Kn;simp only [QV,reduceIte,reduceCtorEq,Nat.reduceEqDiff])
       ((repeat refine Ws ?_);refine W_regionE T_ok ?_; intro Kn hKn)
       ((simp (maxSteps := 1000000) only [VL,VM,↓VG,reduceIte,reduceCtorEq,zA,zB,zC,zD,zE,zF,zG,zH,zI,zJ, kf]); rw [hKn];clear hKn Kn;simp only [QV,reduceIte,reduceCtorEq,Nat.reduceEqDiff])
       exact LoopK.mk ⟨f + 1, H2.length + (J3.length + 1), J3 ++ [.obj (ryC R'), .obj [vi (f + 1)]]⟩ (by simp only; omega) ⟨by simp only; omega, by simp only; omega, fun e => by have := hgo e; simp only; omega, by simp only; rw [hget, hget]; rfl⟩ ⟨rfl, rfl, rfl, rfl, rfl, rfl, rfl, rfl, rfl, rfl, rfl, rfl, rfl, rfl, rfl, trivial⟩ rfl
    ·have hki : k < idx := by
      rcases hcmp with h | h
      ·exact h.1
      ·have := hq3 h.2
       omega
     ((simp (maxSteps := 1000000) only [VL,VM,↓VG,reduceIte,reduceCtorEq,zA,zB,zC,zD,zE,zF,zG,zH,zI,zJ, g12, hfl]); rw [hKn];clear hKn Kn;simp only [QV,reduceIte,reduceCtorEq,Nat.reduceEqDiff])
     ((repeat refine Ws ?_);refine Wf (by first|rfl|simp only [EV,zF,reduceIte]) ?_)
     (((repeat refine Ws ?_);refine W_exit ?_); simp only [QV,reduceIte,reduceCtorEq,Nat.reduceEqDiff])
     ((repeat refine Ws ?_);refine W_regionE T_ok ?_; intro Kn hKn)
     ((simp (maxSteps := 1000000) only [VL,VM,↓VG,reduceIte,reduceCtorEq,zA,zB,zC,zD,zE,zF,zG,zH,zI,zJ, j1]); rw [hKn];clear hKn Kn;simp only [QV,reduceIte,reduceCtorEq,Nat.reduceEqDiff])
     exact LoopK.mk (k + 1, J2 ++ (.obj [vi rn] :: J3)) (by simp only; omega) (by simp only; omega) ⟨rfl, rfl, rfl, rfl, rfl, rfl, rfl, rfl, rfl, rfl, rfl, rfl, rfl, trivial⟩ (by rw [hH2]; simp)
   ·have k2 : ((c : Int) < (n : Int)) = False := eq_false (by omega)
    obtain rfl : c = n := by omega
    rw [List.take_of_length_le (by omega)]
    ((simp (maxSteps := 1000000) only [VL,VM,↓VG,reduceIte,reduceCtorEq,zA,zB,zC,zD,zE,zF,zG,zH,zI,zJ, k2]); rw [hKn];clear hKn Kn;simp only [QV,reduceIte,reduceCtorEq,Nat.reduceEqDiff])
    ((repeat refine Ws ?_);refine Wf (by first|rfl|simp only [EV,zF,reduceIte]) ?_)
    (((repeat refine Ws ?_);refine W_exit ?_); simp only [QV,reduceIte,reduceCtorEq,Nat.reduceEqDiff])
    ((repeat refine Ws ?_);refine W_regionE T_ok ?_; intro Kn hKn)
    ((simp (maxSteps := 1000000) only [VL,VM,↓VG,reduceIte,reduceCtorEq,zA,zB,zC,zD,zE,zF,zG,zH,zI,zJ]); rw [hKn];clear hKn Kn;simp only [QV,reduceIte,reduceCtorEq,Nat.reduceEqDiff])
    unfold SM
    rw [hsv]
    (repeat refine Ws ?_)
    refine W_ret ?_
    try simp only [thenQ, blockQ]
    refine own_ret3 rfl ?_ ?_ ?_ (by rfl) (by rfl) (by rfl)
    ·rfl
    ·rfl
    ·rfl
 ·((simp (maxSteps := 1000000) only [VL,VM,↓VG,reduceIte,reduceCtorEq,zA,zB,zC,zD,zE,zF,zG,zH,zI,zJ, h1]); rw [hKn];clear hKn Kn;simp only [QV,reduceIte,reduceCtorEq,Nat.reduceEqDiff])
  ((repeat refine Ws ?_);refine Wt (by first|rfl|simp only [EV,zF,reduceIte]) ?_)
  ((repeat refine Ws ?_);refine W_regionE T_ok ?_; intro Kn hKn)
  ((simp (maxSteps := 1000000) only [VL,VM,↓VG,reduceIte,reduceCtorEq,zA,zB,zC,zD,zE,zF,zG,zH,zI,zJ]); rw [hKn];clear hKn Kn;simp only [QV,reduceIte,reduceCtorEq,Nat.reduceEqDiff])
  (repeat refine Ws ?_)
  refine W_nil (t := 2) (k := 2) rfl ?_
  rw [show serveV y = .tup [stsV [], vi 0, vi (yErr y)] by simp only [serveV, serveT, if_neg h1]]
  (repeat refine Ws ?_)
  refine W_ret ?_
  try simp only [thenQ, blockQ]
  refine own_ret3 rfl ?_ ?_ ?_ (by rfl) (by rfl) (by rfl)
  ·rfl
  ·rfl
  ·rfl
end Go.Proofs.YtkipednlefbfpaaDoor.Vm

/- Comparing lists, and the first of some, plain. -/
namespace Go.Proofs.YtkipednlefbfpaaDoor
def cmpI (a b : Int) : Int := if a < b then -1 else if b < a then 1 else 0
def cmpL : List Int → List Int → Int
 | [], [] => 0
 | [], _ :: _ => -1
 | _ :: _, [] => 1
 | a :: x, b :: z => if cmpI a b = 0 then cmpL x z else cmpI a b
def orI : List Int → Int
 | [] => 0
 | a :: l => if a = 0 then orI l else a
def firstF (cf : Nat → Nat → Int) : List Nat → Nat
 | [] => 0
 | x :: l => l.foldl (fun o x => if cf x o < 0 then x else o) x
def bitsI (s : Nat) : List Int := (bitsL s).map Int.ofNat
def cmpS (a b : Nat) : Int := orI [cmpI ((bitsL a).length : Nat) ((bitsL b).length : Nat), cmpL (bitsI a) (bitsI b)]
def cmpM (a b : Nat) : Int := orI [cmpI ((bitsL b).length : Nat) ((bitsL a).length : Nat), cmpL (bitsI a) (bitsI b)]
def canS (y : Ya) (s : Nat) : Bool := decide ((soonestL (ry0 y)).getD s 0 < never)
end Go.Proofs.YtkipednlefbfpaaDoor
