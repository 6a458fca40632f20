/- A part of the proofs about the chapter of the ramps; it states no condition of its own. -/
import Derived.Test.YthcicaelnchfdaaB15
import Derived.Test.YthcicaelnchfdaaB51
set_option linter.unusedVariables false
set_option linter.unusedSimpArgs false
open Int renaming reduceLE → zA, reduceLT → zB, reduceToNat → zC, reduceNeg → zD
open Nat renaming reduceLT → zE, reduceEqDiff → zF, reduceAdd → zG, reduceSub → zH, reduceMul → zI, reduceLeDiff → zJ
/- A call that hands out one buffer: what it left beside it is forgotten. (Vm) -/
namespace Go.Proofs.Ythcicaelnchfdaa.Vm
open Go Go.Proofs
def upd2 (K : Nat → Option Nat) (n id : Nat) : Nat → Option Nat := fun i => if i = n then K id else K i
theorem pack_keep {w : World} {K : Nat → Option Nat} {H L : List VObj} {id : Nat} {cs : List VV} (hid : (H ++ L)[id]? = some (.obj cs)) : Keep (· < H.length) w K (H ++ L) w (upd2 K H.length id) (H ++ [.obj cs]) := by
 have hlo : ∀ i, i < H.length → (H ++ [VObj.obj cs])[i]? = (H ++ L)[i]? := fun i hi => by rw [List.getElem?_append_left hi, List.getElem?_append_left hi]
 have hK : ∀ i, i < H.length → upd2 K H.length id i = K i := fun i hi => by unfold upd2; rw [if_neg (by omega)]
 refine ⟨Szp.refl _, fun b o _ hi => ⟨fun i ob hob hKb => ?_, rfl⟩, fun i hp hn => ⟨fun b h => by rw [hK i hp]; exact h, fun m k => by rw [hlo i hp]; exact hn m k⟩, fun i m k hp hm => ⟨m, by rw [← hlo i hp]; exact hm, Nat.le_refl _, fun _ => ⟨hK i hp, fun _ _ => rfl⟩⟩⟩
 rcases Nat.lt_or_ge i H.length with h | h
 ·rw [hlo i h] at hob
  rw [hK i h] at hKb
  exact hi i ob hob hKb
 ·have hl := (List.getElem?_eq_some_iff.1 hob).1
  simp only [List.length_append, List.length_cons, List.length_nil] at hl
  obtain rfl : i = H.length := by omega
  have : ob = .obj cs := by simpa using hob.symm
  subst this
  have e : upd2 K H.length id H.length = K id := by unfold upd2; rw [if_pos rfl]
  rw [e] at hKb
  exact hi id _ hid hKb
theorem pack_inv {G : Ghost} {w : World} {K : Nat → Option Nat} {H L : List VObj} {lg : List (Nat × Nat)} {id : Nat} {cs : List PV} (hI : Inv G w K ⟨H ++ L, lg⟩) (hid : (H ++ L)[id]? = some (.obj (cs.map .p))) (hge : H.length ≤ id) (hlg : ∀ e ∈ lg, e.1 < H.length ∧ e.2 < H.length) : Inv G w (upd2 K H.length id) ⟨H ++ [.obj (cs.map .p)], lg⟩ := by
 have hk := pack_keep (w := w) (K := K) hid
 have hil := (List.getElem?_eq_some_iff.1 hid).1
 have hlo : ∀ i, i < H.length → (H ++ [VObj.obj (cs.map .p)])[i]? = (H ++ L)[i]? := fun i hi => by rw [List.getElem?_append_left hi, List.getElem?_append_left hi]
 have hhi : (H ++ [VObj.obj (cs.map .p)])[H.length]? = some (.obj (cs.map .p)) := by simp
 have hK : ∀ i, i < H.length → upd2 K H.length id i = K i := fun i hi => by unfold upd2; rw [if_neg (by omega)]
 have hKn : upd2 K H.length id H.length = K id := by unfold upd2; rw [if_pos rfl]
 have hlen : (H ++ [VObj.obj (cs.map .p)]).length = H.length + 1 := by simp
 have hle : (H ++ L).length = H.length + L.length := by simp
 have hsp : ∀ i, i < H.length + 1 → i < H.length ∨ i = H.length := fun i hi => by omega
 have hg : ∀ i, i < H.length + 1 → ∃ j, (j = i ∧ i < H.length ∨ j = id ∧ i = H.length) ∧ j < (H ++ L).length ∧ upd2 K H.length id i = K j ∧ (H ++ [VObj.obj (cs.map .p)])[i]? = (H ++ L)[j]? := fun i hi => by
  rcases hsp i hi with h | h
  ·exact ⟨i, .inl ⟨rfl, h⟩, by omega, hK i h, hlo i h⟩
  ·subst h
   exact ⟨id, .inr ⟨rfl, rfl⟩, hil, hKn, by rw [hhi, hid]⟩
 refine ⟨hI.os, hI.tape, hI.output, hI.size, hI.gB, hI.old, fun i j b hi hj n1 n2 e1 e2 => ?_, fun i b hi e => ?_, fun i o ho => ?_, fun i o ho c hc r hr => ?_, fun e he => ?_, fun i l hl => ?_⟩
 ·simp only [hlen] at hi hj
  obtain ⟨i', p1, q1, r1, s1⟩ := hg i hi
  obtain ⟨j', p2, q2, r2, s2⟩ := hg j hj
  simp only [s1] at n1
  simp only [s2] at n2
  have := hI.inj i' j' b q1 q2 n1 n2 (by rw [← r1]; exact e1) (by rw [← r2]; exact e2)
  omega
 ·simp only [hlen] at hi
  obtain ⟨i', p1, q1, r1, s1⟩ := hg i hi
  exact hI.blk i' b q1 (by rw [← r1]; exact e)
 ·have hi := (List.getElem?_eq_some_iff.1 ho).1
  simp only [hlen] at hi
  obtain ⟨i', p1, q1, r1, s1⟩ := hg i hi
  have ho' : (H ++ L)[i']? = some o := by rw [← s1]; exact ho
  rw [r1]
  refine (hI.obj i' o ho').keep hk (fun _ _ => rfl) (fun c hc r hr => ?_) fun l e => ?_
  ·rcases p1 with ⟨rfl, h⟩ | ⟨rfl, h⟩
   ·obtain ⟨_, h2 | h2⟩ := hI.cl _ o ho' c hc r hr
    ·omega
    ·exact (hlg _ h2).2
   ·rw [hid] at ho'
    cases ho'
    obtain ⟨u, _, rfl⟩ := List.mem_map.1 hc
    cases hr
  ·subst e
   rcases p1 with ⟨rfl, h⟩ | ⟨rfl, h⟩
   ·have := hI.lpd _ l ho'
    exact ⟨by omega, by rw [hlen]; omega⟩
   ·rw [hid] at ho'; cases ho'
 ·have hi := (List.getElem?_eq_some_iff.1 ho).1
  simp only [hlen] at hi
  obtain ⟨i', p1, q1, r1, s1⟩ := hg i hi
  have ho' : (H ++ L)[i']? = some o := by rw [← s1]; exact ho
  rcases p1 with ⟨rfl, h⟩ | ⟨rfl, h⟩
  ·obtain ⟨_, h2 | h2⟩ := hI.cl _ o ho' c hc r hr
   ·exact ⟨by simp only [hlen]; omega, .inl h2⟩
   ·have := (hlg _ h2).2
    exact ⟨by simp only [hlen]; omega, .inr h2⟩
  ·rw [hid] at ho'
   cases ho'
   obtain ⟨u, _, rfl⟩ := List.mem_map.1 hc
   cases hr
 ·have := hlg e he
  simp only [hlen]
  omega
 ·have hi := (List.getElem?_eq_some_iff.1 hl).1
  simp only [hlen] at hi
  obtain ⟨i', p1, q1, r1, s1⟩ := hg i hi
  have ho' : (H ++ L)[i']? = some (.lp l) := by rw [← s1]; exact hl
  rcases p1 with ⟨rfl, h⟩ | ⟨rfl, h⟩
  ·exact hI.lpd _ l ho'
  ·rw [hid] at ho'; cases ho'
theorem VC_pack {P : Program} {f n k : Nat} {t : Bool} {args : List VV} {M : Mem} {cs : List PV} (h : VC P f args M (fun r M' => ∃ L id, M' = ⟨M.H ++ L, M.lg⟩ ∧ r = .tup [.bf id 0 n k, vb t] ∧ M.H.length ≤ id ∧ (M.H ++ L)[id]? = some (.obj (cs.map .p)))) : VC P f args M (fun r M' => r = .tup [.bf M.H.length 0 n k, vb t] ∧ M' = ⟨M.H ++ [.obj (cs.map .p)], M.lg⟩) := by
 intro G w K rargs hI ha
 refine (h G w K rargs hI ha).mono ?_
 intro e w'
 rintro ⟨rv, r, K', M', he, ⟨L, id, rfl, rfl, hge, hid⟩, h1, h2, h3, h4⟩
 have hk := pack_keep (w := w') (K := K') hid
 have hKn : upd2 K' M.H.length id M.H.length = K' id := by unfold upd2; rw [if_pos rfl]
 refine ⟨rv, _, upd2 K' M.H.length id, _, he, ⟨rfl, rfl⟩, ?_, fun q hq => ?_, ?_, pack_inv h4 hid hge hI.lg⟩
 ·cases h1 with
  | tup vs _ hs h =>
   refine .tup vs _ hs fun i v c a b => ?_
   rcases i with _ | _ | i
   ·have r0 := h 0 v _ a rfl
    cases b
    cases r0 with
    | bf _ _ _ _ bb c A q1 q2 q3 q4 q5 q6 => exact .bf _ _ _ _ bb c A (fun hne => hKn.trans (q1 hne)) (fun m k hm => by simp at hm) q3 q4 q5 q6
   ·have r0 := h 1 v _ a rfl
    cases b
    exact r0.keep hk fun r hr => by cases hr
   ·cases b
 ·simp [refs, refsL] at hq
  subst hq
  simp
 ·refine h3.keep hk (Nat.le_refl _) fun i hi => ⟨?_, ?_, fun _ _ _ => rfl⟩
  ·simp only
   rw [List.getElem?_append_left hi, List.getElem?_append_left hi]
  ·unfold upd2; rw [if_neg (by omega)]
end Go.Proofs.Ythcicaelnchfdaa.Vm

/- The reference's best plan, in a buffer of our own. (Vm) -/
-- TABLE TV
namespace Go.Proofs.Ythcicaelnchfdaa.Vm
open Go Go.Proofs
def svP (n m : Nat) (o : Option (List St)) : VV := match o with
 | none => .tup [stsV [], vb false]
 | some _ => .tup [.bf m 0 n 2, vb true]
def svM (o : Option (List St)) : List VObj := match o with
 | none => []
 | some b => [.obj (stC b)]
theorem VC_cut0 {P : Program} {f : Nat} {args : List VV} {M : Mem} {R : VV} (hR : refs R = []) (h : VC P f args M (fun r M' => ∃ L, M' = ⟨M.H ++ L, M.lg⟩ ∧ r = R)) : VC P f args M (fun r M' => M' = M ∧ r = R) := by
 intro G w K rargs hI ha
 refine (h G w K rargs hI ha).mono ?_
 intro e w'
 rintro ⟨rv, r, K', M', he, ⟨L, rfl, rfl⟩, h1, h2, h3, h4⟩
 have ht : (M.H ++ L).take M.H.length = M.H := by simp
 have hk := keep_take (w := w') (K := K') (H := M.H ++ L) M.H.length
 rw [ht] at hk
 have hi := inv_take (n := M.H.length) h4 (by simp) (lg' := M.lg) (fun e he _ => ⟨(hI.lg e he).2, he⟩) hI.lg
 simp only [ht] at hi
 refine ⟨rv, _, K', M, he, ⟨rfl, rfl⟩, h1.keep hk fun q hq => by rw [hR] at hq; simp at hq, fun q hq => by rw [hR] at hq; simp at hq, ?_, hi⟩
 refine h3.keep hk (Nat.le_refl _) fun i hi => ⟨?_, rfl, fun _ _ _ => rfl⟩
 simp only
 rw [List.getElem?_append_left hi]
theorem sv_pack {f n : Nat} {args : List VV} {M : Mem} {o : Option (List St)} (h : VC Try.prog f args M (fun r M' => ∃ L, M' = ⟨M.H ++ L, M.lg⟩ ∧ SvR n M.H.length (M.H ++ L) o r)) : VC Try.prog f args M (fun r M' => M' = ⟨M.H ++ svM o, M.lg⟩ ∧ r = svP n M.H.length o) := by
 cases o with
 | none =>
  refine (VC_cut0 (R := .tup [stsV [], vb false]) (by rfl) (h.mono ?_)).mono ?_
  ·rintro r _ ⟨L, rfl, hr⟩
   exact ⟨L, rfl, hr⟩
  ·rintro r _ ⟨rfl, rfl⟩
   exact ⟨by simp [svM], rfl⟩
 | some b =>
  refine (VC_pack (n := n) (k := 2) (t := true) (cs := (b.map stP).flatten) (h.mono ?_)).mono ?_
  ·rintro r _ ⟨L, rfl, id, rfl, hm, hid⟩
   exact ⟨L, id, rfl, rfl, hm, by rw [hid, ← flat_sts]⟩
  ·rintro r _ ⟨rfl, rfl⟩
   exact ⟨by rw [flat_sts]; rfl, rfl⟩
theorem served_own {y : Ya} (hy : YaV y) (M : Mem) : VC Try.prog 42 [yardV y] M (fun r M' => M' = ⟨M.H ++ svM (servedR y), M.lg⟩ ∧ r = svP y.carts.length M.H.length (servedR y)) := by
 refine sv_pack ?_
 have hm1 := hy.m1
 have hn1 := hy.n1
 have q1 : (y.carts.length * 16 ≤ 140737488355328) = True := eq_true (by omega)
 have q2 : (y.carts.length ≤ 9223372036854775807) = True := eq_true (by omega)
 have q3 : (y.ramps.length * 8 ≤ 140737488355328) = True := eq_true (by omega)
 have q4 : (y.ramps.length ≤ 9223372036854775807) = True := eq_true (by omega)
 obtain ⟨n, hn⟩ : ∃ n, n = y.carts.length := ⟨_, rfl⟩
 have hsv : SvOk y (List.replicate n ⟨-1, 0⟩) (List.replicate y.ramps.length 0) := by
  refine ⟨by simp [hn], by simp, fun i hi => ?_, fun r hr => ?_⟩
  ·have : stAt (List.replicate n (⟨-1, 0⟩ : St)) i = ⟨-1, 0⟩ := by
    have hi' : i < n := by simpa using hi
    simp [stAt, hi']
   rw [this]; simp
  ·have : tkAt (List.replicate y.ramps.length 0) r = 0 := by
    have hr' : r < y.ramps.length := by simpa using hr
    simp [tkAt, hr']
   rw [this]; simp
 have hun : un (List.replicate n ⟨-1, 0⟩) ≤ n := by
  unfold un
  exact Nat.le_trans List.countP_le_length (by simp)
 refine VC_keep TV_ok (f := 42) (fn := Try.f42) (by rw [xV_fn]; kernel_rfl) rfl Try.ntmps42 (by rfl) (by rw [TV_keeps]; rfl) ?_
 ((repeat refine Ws ?_);refine W_regionE TV_ok ?_; intro Kn hKn)
 ((simp (maxSteps := 1000000) only [xV_ty, xV_fn, xV_bin, xV_oi, xV_oc, xV_ok, VL,VM,↓VG,reduceIte,reduceCtorEq,zA,zB,zC,zD,zE,zF,zG,zH,zI,zJ]); rw [hKn];clear hKn Kn;simp only [QV,reduceIte,reduceCtorEq,Nat.reduceEqDiff])
 ((repeat refine Ws ?_);refine W_regionE TV_ok ?_; intro Kn hKn)
 ((simp (maxSteps := 1000000) only [xV_ty, xV_fn, xV_bin, xV_oi, xV_oc, xV_ok, VL,VM,↓VG,reduceIte,reduceCtorEq,zA,zB,zC,zD,zE,zF,zG,zH,zI,zJ, q1, q2]); rw [hKn];clear hKn Kn;simp only [QV,reduceIte,reduceCtorEq,Nat.reduceEqDiff])
 ((repeat refine Ws ?_);refine W_regionE TV_ok ?_; intro Kn hKn)
 ((simp (maxSteps := 1000000) only [xV_ty, xV_fn, xV_bin, xV_oi, xV_oc, xV_ok, VL,VM,↓VG,reduceIte,reduceCtorEq,zA,zB,zC,zD,zE,zF,zG,zH,zI,zJ]); rw [hKn];clear hKn Kn;simp only [QV,reduceIte,reduceCtorEq,Nat.reduceEqDiff])
 rw [repl_stC, ← hn]
 ((repeat refine Ws ?_);refine W_block ?_; (repeat refine Ws ?_)); refine W_loopS (fun i : Nat => [(1, .ptr M.H.length 0), (4, .bf (M.H.length + 1) 0 n 2), (5, vi i)]) (fun i => ⟨M.H ++ [.obj (yardC y), .obj (stC (List.replicate i (⟨-1, 0⟩ : St) ++ List.replicate (n - i) (⟨0, 0⟩ : St)))], M.lg⟩) (fun i => n - i) (fun i => i ≤ n) 0 (Nat.zero_le _) ⟨rfl, rfl, rfl, trivial⟩ rfl ?_
 intro i hi
 have k1 : -9223372036854775808 ≤ (i : Int) + 1 ∧ (i : Int) + 1 < 9223372036854775808 := by omega
 ((repeat refine Ws ?_);refine W_regionE TV_ok ?_; intro Kn hKn)
 rcases Nat.lt_or_ge i n with hlt | hge
 ·have k2 : ((i : Int) < (n : Int)) = True := eq_true (by omega)
  have hlen : (List.replicate i (⟨-1, 0⟩ : St) ++ List.replicate (n - i) (⟨0, 0⟩ : St)).length = n := by simp; omega
  have hc : (i * 2 + 1 ≤ (stC (List.replicate i (⟨-1, 0⟩ : St) ++ List.replicate (n - i) (⟨0, 0⟩ : St))).length) = True := eq_true (by rw [stC_len, hlen]; omega)
  have hset : (List.replicate i (⟨-1, 0⟩ : St) ++ List.replicate (n - i) (⟨0, 0⟩ : St)).set i ⟨-1, (stAt (List.replicate i (⟨-1, 0⟩ : St) ++ List.replicate (n - i) (⟨0, 0⟩ : St)) i).from_⟩ = List.replicate (i + 1) (⟨-1, 0⟩ : St) ++ List.replicate (n - (i + 1)) (⟨0, 0⟩ : St) := by
   have h0 : stAt (List.replicate i (⟨-1, 0⟩ : St) ++ List.replicate (n - i) (⟨0, 0⟩ : St)) i = ⟨0, 0⟩ := by
    unfold stAt
    rw [List.getD_eq_getElem?_getD, List.getElem?_append_right (by simp), List.length_replicate, Nat.sub_self, List.getElem?_replicate, if_pos (by omega)]
    rfl
   rw [h0, List.set_append_right _ _ (by simp), List.length_replicate, Nat.sub_self, show n - i = (n - (i + 1)) + 1 by omega, List.replicate_succ, List.set_cons_zero, List.replicate_succ']
   simp
  generalize List.replicate i (⟨-1, 0⟩ : St) ++ List.replicate (n - i) (⟨0, 0⟩ : St) = l at hlen hc hset ⊢
  ((simp (maxSteps := 1000000) only [xV_ty, xV_fn, xV_bin, xV_oi, xV_oc, xV_ok, VL,VM,↓VG,reduceIte,reduceCtorEq,zA,zB,zC,zD,zE,zF,zG,zH,zI,zJ, k2]); rw [hKn];clear hKn Kn;simp only [QV,reduceIte,reduceCtorEq,Nat.reduceEqDiff])
  ((repeat refine Ws ?_);refine Wt (by first|rfl|simp only [EV,zF,reduceIte]) ?_)
  (((repeat refine Ws ?_);refine W_skip ?_); simp only [QV,reduceIte,reduceCtorEq,Nat.reduceEqDiff])
  ((repeat refine Ws ?_);refine W_block ?_)
  ((repeat refine Ws ?_);refine W_regionE TV_ok ?_; intro Kn hKn)
  ((simp (maxSteps := 1000000) only [xV_ty, xV_fn, xV_bin, xV_oi, xV_oc, xV_ok, VL,VM,↓VG,reduceIte,reduceCtorEq,zA,zB,zC,zD,zE,zF,zG,zH,zI,zJ, hlt, hc]); rw [hKn];clear hKn Kn;simp only [QV,reduceIte,reduceCtorEq,Nat.reduceEqDiff])
  rw [st_put1 (by omega), hset]
  ((repeat refine Ws ?_);refine W_regionE TV_ok ?_; intro Kn hKn)
  ((simp (maxSteps := 1000000) only [xV_ty, xV_fn, xV_bin, xV_oi, xV_oc, xV_ok, VL,VM,↓VG,reduceIte,reduceCtorEq,zA,zB,zC,zD,zE,zF,zG,zH,zI,zJ, k1]); rw [hKn];clear hKn Kn;simp only [QV,reduceIte,reduceCtorEq,Nat.reduceEqDiff])
  exact LoopK.mk (i + 1) (by omega) (by omega) ⟨rfl, rfl, rfl, trivial⟩ rfl
 ·have k2 : ((i : Int) < (n : Int)) = False := eq_false (by omega)
  obtain rfl : i = n := by omega
  rw [Nat.sub_self, List.replicate_zero, List.append_nil]
  ((simp (maxSteps := 1000000) only [xV_ty, xV_fn, xV_bin, xV_oi, xV_oc, xV_ok, VL,VM,↓VG,reduceIte,reduceCtorEq,zA,zB,zC,zD,zE,zF,zG,zH,zI,zJ, k2]); rw [hKn];clear hKn Kn;simp only [QV,reduceIte,reduceCtorEq,Nat.reduceEqDiff])
  ((repeat refine Ws ?_);refine Wf (by first|rfl|simp only [EV,zF,reduceIte]) ?_)
  (((repeat refine Ws ?_);refine W_exit ?_); simp only [QV,reduceIte,reduceCtorEq,Nat.reduceEqDiff])
  have hfin : servR y i (List.replicate i ⟨-1, 0⟩) (List.replicate y.ramps.length 0) = servedR y := by rw [servedR, hn]
  rcases Nat.eq_zero_or_pos i with h0 | h0
  ·subst h0
   have hall : (List.replicate 0 (⟨-1, 0⟩ : St)).all placed = true := rfl
   rw [servR_all hall] at hfin
   (repeat refine Ws ?_)
   refine W_drawE TV_ok [] (by kernel_rfl) (by kernel_rfl) ?_
   intro Kn hKn
   generalize hi : mkPlan _ = infs
   cbv at hi
   subst hi
   simp (maxSteps := 1000000) only [xV_ty, xV_fn, xV_bin, xV_oi, xV_oc, xV_ok, VL,VM,↓VG,reduceIte,reduceCtorEq,zA,zB,zC,zD,zE,zF,zG,zH,zI,zJ, q3, q4]
   apply call_d (f := 80) (fn := Try.f80) (by kernel_rfl) (by rfl)
   ·refine VC_frzA (us := [yardV y, .bf (M.H.length + 1) 0 0 2]) (vs := []) (k := 1) (xs := (List.replicate y.ramps.length (0 : Int)).map intP) ?_ ?_ ?_ (serve_full [] _ _ (M.H.length + 1) ?_ (by simp) rfl)
    ·rw [flat_ints, hget]
     simp
    ·intro x hx
     obtain ⟨z, _, rfl⟩ := List.mem_map.1 hx; rfl
    ·simp
    ·simp [hset, hget]
   ((simp (maxSteps := 1000000) only [xV_ty, xV_fn, xV_bin, xV_oi, xV_oc, xV_ok, VL,VM,↓VG,reduceIte,reduceCtorEq,zA,zB,zC,zD,zE,zF,zG,zH,zI,zJ]); rw [hKn];clear hKn Kn;simp only [QV,reduceIte,reduceCtorEq,Nat.reduceEqDiff])
   (repeat refine Ws ?_)
   refine W_ret ?_
   rw [← hfin]
   exact ⟨.inr rfl, rfl, [.bf (M.H.length + 1) 0 0 2, vb true], by simp [vresL, Try.f42, get_cons], _, rfl, M.H.length + 1, rfl, by omega, by rw [hget]; rfl⟩
  ·have hnf : (List.replicate i (⟨-1, 0⟩ : St)).all placed = false := by
    obtain ⟨k, rfl⟩ : ∃ k, i = k + 1 := ⟨i - 1, by omega⟩
    rfl
   (repeat refine Ws ?_)
   refine W_frzT (t := 4) (id := M.H.length + 1) (n := i) (k := 2) (xs := (List.replicate i (⟨-1, 0⟩ : St)).map stP) (by rw [flat_sts, hget]; rfl) rfl (fun x hx => by obtain ⟨z, _, rfl⟩ := List.mem_map.1 hx; rfl) (by simp) ?_
   simp only [hset, List.set_cons_succ, List.set_cons_zero]
   have hpk := fun M => sv_pack (serve_part hy i _ _ M hsv hun hnf)
   rw [hfin, List.length_replicate] at hpk
   clear hfin
   generalize servedR y = o at hpk ⊢
   cases o with
   | none =>
    (repeat refine Ws ?_)
    refine W_drawE TV_ok [] (by kernel_rfl) (by kernel_rfl) ?_
    intro Kn hKn
    generalize hi : mkPlan _ = infs
    cbv at hi
    subst hi
    simp (maxSteps := 1000000) only [xV_ty, xV_fn, xV_bin, xV_oi, xV_oc, xV_ok, VL,VM,↓VG,reduceIte,reduceCtorEq,zA,zB,zC,zD,zE,zF,zG,zH,zI,zJ, q3, q4]
    apply call_d (f := 80) (fn := Try.f80) (by kernel_rfl) (by rfl)
    ·refine VC_frzA (us := [yardV y, stsV (List.replicate i (⟨-1, 0⟩ : St))]) (vs := []) (k := 1) (xs := (List.replicate y.ramps.length (0 : Int)).map intP) ?_ ?_ ?_ (hpk _)
     ·rw [flat_ints, hget]
      simp
     ·intro x hx
      obtain ⟨z, _, rfl⟩ := List.mem_map.1 hx; rfl
     ·simp
    ((simp (maxSteps := 1000000) only [xV_ty, xV_fn, xV_bin, xV_oi, xV_oc, xV_ok, VL,VM,↓VG,reduceIte,reduceCtorEq,zA,zB,zC,zD,zE,zF,zG,zH,zI,zJ, svP, svM]); rw [hKn];clear hKn Kn;simp only [QV,reduceIte,reduceCtorEq,Nat.reduceEqDiff])
    (repeat refine Ws ?_)
    refine W_ret ?_
    exact ⟨.inr rfl, rfl, [stsV [], vb false], by simp [vresL, Try.f42, get_cons], _, rfl, rfl⟩
   | some b =>
    (repeat refine Ws ?_)
    refine W_drawE TV_ok [] (by kernel_rfl) (by kernel_rfl) ?_
    intro Kn hKn
    generalize hi : mkPlan _ = infs
    cbv at hi
    subst hi
    simp (maxSteps := 1000000) only [xV_ty, xV_fn, xV_bin, xV_oi, xV_oc, xV_ok, VL,VM,↓VG,reduceIte,reduceCtorEq,zA,zB,zC,zD,zE,zF,zG,zH,zI,zJ, q3, q4]
    apply call_d (f := 80) (fn := Try.f80) (by kernel_rfl) (by rfl)
    ·refine VC_frzA (us := [yardV y, stsV (List.replicate i (⟨-1, 0⟩ : St))]) (vs := []) (k := 1) (xs := (List.replicate y.ramps.length (0 : Int)).map intP) ?_ ?_ ?_ (hpk _)
     ·rw [flat_ints, hget]
      simp
     ·intro x hx
      obtain ⟨z, _, rfl⟩ := List.mem_map.1 hx; rfl
     ·simp
    ((simp (maxSteps := 1000000) only [xV_ty, xV_fn, xV_bin, xV_oi, xV_oc, xV_ok, VL,VM,↓VG,reduceIte,reduceCtorEq,zA,zB,zC,zD,zE,zF,zG,zH,zI,zJ, svP, svM]); rw [hKn];clear hKn Kn;simp only [QV,reduceIte,reduceCtorEq,Nat.reduceEqDiff])
    (repeat refine Ws ?_)
    refine W_ret ?_
    exact ⟨.inr rfl, rfl, [.bf (M.H.length + 3) 0 i 2, vb true], by simp [vresL, Try.f42, get_cons], _, rfl, M.H.length + 3, rfl, by omega, by rw [hget]; rfl⟩
end Go.Proofs.Ythcicaelnchfdaa.Vm
