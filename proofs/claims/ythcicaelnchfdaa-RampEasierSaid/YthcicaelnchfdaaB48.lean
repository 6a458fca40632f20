/- A part of the proofs about the chapter of the ramps; it states no condition of its own. -/
import Derived.Test.YthcicaelnchfdaaB12
import Derived.Test.YthcicaelnchfdaaB30
import Derived.Test.YthcicaelnchfdaaB31
import Derived.Test.YthcicaelnchfdaaB39
set_option linter.unusedVariables false
set_option linter.unusedSimpArgs false
open Int renaming reduceLE → zA, reduceLT → zB, reduceToNat → zC, reduceNeg → zD
open Nat renaming reduceLT → zE, reduceEqDiff → zF, reduceAdd → zG, reduceSub → zH, reduceMul → zI, reduceLeDiff → zJ
/- Yards copied into slices of their own, by growth. (Vm) -/
-- TABLE TB
namespace Go.Proofs.Ythcicaelnchfdaa.Vm
open Go Go.Proofs
def ownB (t : Nat) : Bool := Nat.beq t 22 || Nat.beq t 23
def keepsY (f : Nat) : Bool := Nat.beq f 20
noncomputable def TB : Tab := ownT2 T ownB keepsY
theorem TB_ok : TabOk Try.prog TB := ownT2_ok T_ok
theorem xB_ty : TB.ty = T.ty := ownT2_ty
theorem xB_fn : TB.fn = T.fn := ownT2_fn
theorem xB_bin : vbin TB = vbin T ∧ TB.ownS = T.ownS := ⟨ownT2_bin, rfl⟩
theorem xB_oi : TB.own 22 = true := by rw [TB, ownT2_own]; rfl
theorem xB_oc : TB.own 23 = true := by rw [TB, ownT2_own]; rfl
theorem xB_ok : TB.own 26 = false ∧ TB.own 37 = false := by rw [TB, ownT2_own]; exact ⟨rfl, rfl⟩
theorem TB_keeps : TB.keeps = keepsY := ownT2_keeps
def raF (l : List Ra) : List VV := (l.map raP).flatten.map .p
def ctF (l : List Ct) : List VV := (l.map ctP).flatten.map .p
theorem raF_cons (r : Ra) (l : List Ra) : raF (r :: l) = vi r.open_ :: vi r.shut :: vi r.bears :: raF l := rfl
theorem ctF_cons (c : Ct) (l : List Ct) : ctF (c :: l) = vi c.from_ :: vi c.until_ :: vi c.takes.lo :: vi c.takes.hi :: vi c.grams :: intsV c.ramps :: ctF l := rfl
theorem ctF_app (l : List Ct) (c : Ct) : ctF (l ++ [c]) = ctF l ++ ctC c := by simp [ctF]
theorem raF_len : ∀ l : List Ra, (raF l).length = l.length * 3
 | [] => rfl
 | r :: l => by rw [raF_cons]; simp only [List.length_cons, raF_len l]; omega
theorem ctF_len : ∀ l : List Ct, (ctF l).length = l.length * 6
 | [] => rfl
 | c :: l => by rw [ctF_cons]; simp only [List.length_cons, ctF_len l]; omega
def cvO (i id : Nat) : VV := if i = 0 then .sf 0 [] else .bf id 0 i 6
def cvP (i id : Nat) : VV := if i = 0 then .p (.sl 0 []) else .bf id 0 i 6
structure CyA where
 i : Nat
 J : List VObj
 q : Nat
 X : List (Nat × Nat)
set_option maxHeartbeats 4000000 in
theorem copyYard_own (y : Ya) (M : Mem) (hn : y.ramps.length ≤ 1000000) (hm : y.carts.length ≤ 1000000) (hl : ∀ c ∈ y.carts, c.ramps.length ≤ 1000000) : VC Try.prog 20 [yardV y] M (fun r M' => ∃ (J : List VObj) (q : Nat) (X : List (Nat × Nat)) (c c2 : List VV), M' = ⟨M.H ++ .obj c :: .obj c2 :: .obj (raF y.ramps) :: J, M.lg ++ X⟩ ∧ (∀ e ∈ X, M.H.length ≤ e.1) ∧ r = .agg [.bf (M.H.length + 2) 0 y.ramps.length 3, cvP y.carts.length (M.H.length + (3 + q)), vi y.sweep] ∧ (y.carts.length ≠ 0 → J[q]? = some (.obj (ctF y.carts)))) := by
 have q3 : (y.ramps.length * 24 ≤ 140737488355328) = True := eq_true (by omega)
 refine VC_keep TB_ok (f := 20) (fn := Try.f20) (by rw [xB_fn]; kernel_rfl) rfl Try.ntmps20 (by rfl) (by rw [TB_keeps]; rfl) ?_
 ((repeat refine Ws ?_);refine W_region0 TB_ok ?_)
 simp (maxSteps := 1000000) only [xB_ty, xB_fn, xB_bin, xB_oi, xB_oc, xB_ok, VL,VM,↓VG,reduceIte,reduceCtorEq,zA,zB,zC,zD,zE,zF,zG,zH,zI,zJ]
 ((repeat refine Ws ?_);refine W_region0 TB_ok ?_)
 simp (maxSteps := 1000000) only [xB_ty, xB_fn, xB_bin, xB_oi, xB_oc, xB_ok, VL,VM,↓VG,reduceIte,reduceCtorEq,zA,zB,zC,zD,zE,zF,zG,zH,zI,zJ]
 ((repeat refine Ws ?_);refine W_region0 TB_ok ?_)
 simp (maxSteps := 1000000) only [xB_ty, xB_fn, xB_bin, xB_oi, xB_oc, xB_ok, VL,VM,↓VG,reduceIte,reduceCtorEq,zA,zB,zC,zD,zE,zF,zG,zH,zI,zJ, q3]
 ((repeat refine Ws ?_);refine W_region0 TB_ok ?_)
 simp (maxSteps := 1000000) only [xB_ty, xB_fn, xB_bin, xB_oi, xB_oc, xB_ok, VL,VM,↓VG,reduceIte,reduceCtorEq,zA,zB,zC,zD,zE,zF,zG,zH,zI,zJ]
 obtain ⟨Y0, hY0, g0⟩ := addLg_Y M.H.length [M.H.length + 2] M.lg
 rw [hY0]
 rw [show (List.map VV.p (List.map raP y.ramps).flatten) = raF y.ramps from rfl]
 obtain ⟨n, hnn⟩ : ∃ n, n = M.H.length := ⟨_, rfl⟩
 rw [← hnn] at g0 ⊢
 ((repeat refine Ws ?_);refine W_block ?_; (repeat refine Ws ?_)); refine W_loopS (fun s : CyA => [(1, .ptr n 0), (2, .ptr (n + 1) 0), (3, ctsV y.carts), (4, vi s.i)]) (fun s => ⟨M.H ++ .obj [.bf (n + 2) 0 y.ramps.length 3, cvO s.i (n + (3 + s.q)), vi y.sweep] :: .obj [.sf 0 [], .sf 0 [], vi 0] :: .obj (raF y.ramps) :: s.J, M.lg ++ s.X⟩) (fun s => y.carts.length - s.i) (fun s => s.i ≤ y.carts.length ∧ (∀ e ∈ s.X, n ≤ e.1) ∧ (s.i ≠ 0 → s.J[s.q]? = some (.obj (ctF (y.carts.take s.i))))) ⟨0, [], 0, Y0⟩ ⟨Nat.zero_le _, fun e he => by rw [(g0 e he).1]; exact Nat.le_refl _, fun h => absurd rfl h⟩ ⟨rfl, rfl, rfl, rfl, trivial⟩ rfl ?_
 rintro ⟨i, J, q, X⟩ ⟨hi, hX, hq⟩
 simp only at hi hX hq
 have k1 : -9223372036854775808 ≤ (i : Int) + 1 ∧ (i : Int) + 1 < 9223372036854775808 := by omega
 ((repeat refine Ws ?_);refine W_regionE TB_ok ?_; intro Kn hKn)
 rcases Nat.lt_or_ge i y.carts.length with hlt | hge2
 ·have k2 : ((i : Int) < (y.carts.length : Int)) = True := eq_true (by omega)
  have hx : y.carts[i]? = some y.carts[i] := List.getElem?_eq_getElem hlt
  have hx' := map_at (f := ctP) hx
  have hml := hl _ (List.getElem_mem hlt)
  have q0 : (y.carts.take i).length = i := by simp; omega
  have q1 : ((i + 1) * 64 ≤ 140737488355328) = True := eq_true (by omega)
  have key : y.carts.take (i + 1) = y.carts.take i ++ [y.carts[i]] := by
   rw [List.take_add_one, hx]; rfl
  generalize y.carts.take i = c at q0 key hq
  generalize y.carts[i] = u at hx hx' hml key
  ((simp (maxSteps := 1000000) only [xB_ty, xB_fn, xB_bin, xB_oi, xB_oc, xB_ok, VL,VM,↓VG,reduceIte,reduceCtorEq,zA,zB,zC,zD,zE,zF,zG,zH,zI,zJ, k2]); rw [hKn];clear hKn Kn;simp only [QV,reduceIte,reduceCtorEq,Nat.reduceEqDiff])
  ((repeat refine Ws ?_);refine Wt (by first|rfl|simp only [EV,zF,reduceIte]) ?_)
  (((repeat refine Ws ?_);refine W_skip ?_); simp only [QV,reduceIte,reduceCtorEq,Nat.reduceEqDiff])
  ((repeat refine Ws ?_);refine W_block ?_)
  ((repeat refine Ws ?_);refine W_regionE TB_ok ?_; intro Kn hKn)
  ((simp (maxSteps := 1000000) only [xB_ty, xB_fn, xB_bin, xB_oi, xB_oc, xB_ok, VL,VM,↓VG,reduceIte,reduceCtorEq,zA,zB,zC,zD,zE,zF,zG,zH,zI,zJ, hx', hnn]); rw [hKn];clear hKn Kn;simp only [QV,reduceIte,reduceCtorEq,Nat.reduceEqDiff])
  ((repeat refine Ws ?_);refine W_regionE TB_ok ?_; intro Kn hKn)
  simp (maxSteps := 1000000) only [xB_ty, xB_fn, xB_bin, xB_oi, xB_oc, xB_ok, VL,VM,↓VG,reduceIte,reduceCtorEq,zA,zB,zC,zD,zE,zF,zG,zH,zI,zJ, hnn]
  apply call_eq (f := 37) (fn := Try.f37) (by kernel_rfl) (by rfl)
  ·exact copyInts_v u.ramps _ hml
  ((simp (maxSteps := 1000000) only [xB_ty, xB_fn, xB_bin, xB_oi, xB_oc, xB_ok, VL,VM,↓VG,reduceIte,reduceCtorEq,zA,zB,zC,zD,zE,zF,zG,zH,zI,zJ, hnn]); rw [hKn];clear hKn Kn;simp only [QV,reduceIte,reduceCtorEq,Nat.reduceEqDiff])
  ((repeat refine Ws ?_);refine W_regionE TB_ok ?_; intro Kn hKn)
  rcases Nat.eq_zero_or_pos i with h0 | h0
  ·subst h0
   obtain rfl := List.length_eq_zero_iff.1 q0
   simp only [cvO, if_true]
   ((simp (maxSteps := 1000000) only [xB_ty, xB_fn, xB_bin, xB_oi, xB_oc, xB_ok, VL,VM,↓VG,reduceIte,reduceCtorEq,zA,zB,zC,zD,zE,zF,zG,zH,zI,zJ, hnn]); rw [hKn];clear hKn Kn;simp only [QV,reduceIte,reduceCtorEq,Nat.reduceEqDiff])
   ((repeat refine Ws ?_);refine W_regionE TB_ok ?_; intro Kn hKn)
   ((simp (maxSteps := 1000000) only [xB_ty, xB_fn, xB_bin, xB_oi, xB_oc, xB_ok, VL,VM,↓VG,reduceIte,reduceCtorEq,zA,zB,zC,zD,zE,zF,zG,zH,zI,zJ, k1]); rw [hKn];clear hKn Kn;simp only [QV,reduceIte,reduceCtorEq,Nat.reduceEqDiff])
   obtain ⟨Y2, hY2, g2⟩ := addLg_Y M.H.length [M.H.length + (J.length + 4)] (M.lg ++ X)
   rw [hY2, List.append_assoc]
   refine LoopK.mk ⟨1, J ++ [.obj (ctC u), .obj (ctC u)], J.length + 1, X ++ Y2⟩ (by simp only; omega) ⟨by simp only; omega, fun e he => ?_, fun _ => ?_⟩ ⟨by rw [hnn]; rfl, by rw [hnn]; rfl, rfl, rfl, trivial⟩ ?_
   ·rcases List.mem_append.1 he with he | he
    ·exact hX e he
    ·rw [(g2 e he).1]; omega
   ·rw [key]; simp [ctF]
   ·rw [hnn]; simp [cvO]; omega
  ·have hi0 : ¬ i = 0 := by omega
   have hq2 := hq hi0
   have hqJ := (List.getElem?_eq_some_iff.1 hq2).1
   have hcl : (ctF c).length = i * 6 := by rw [ctF_len, q0]
   have hi1 : (0 < i) = True := eq_true h0
   have gq : ∀ a b c' Z, (M.H ++ a :: b :: c' :: (J ++ Z))[M.H.length + (3 + q)]? = some (.obj (ctF c)) := fun a b c' Z => by
    rw [hget, show 3 + q = q + 1 + 1 + 1 by omega]
    simp only [List.getElem?_cons_succ]
    rw [List.getElem?_append_left hqJ, hq2]
   have gs : ∀ a b c' Z, (M.H ++ a :: b :: c' :: (J ++ Z)).set (M.H.length + (3 + q)) .gone = M.H ++ a :: b :: c' :: (J.set q .gone ++ Z) := fun a b c' Z => by
    rw [hset, show 3 + q = q + 1 + 1 + 1 by omega]
    simp only [List.set_cons_succ]
    rw [List.set_append_left _ _ hqJ]
   simp only [cvO, if_neg hi0]
   ((simp (maxSteps := 1000000) only [xB_ty, xB_fn, xB_bin, xB_oi, xB_oc, xB_ok, VL,VM,↓VG,reduceIte,reduceCtorEq,zA,zB,zC,zD,zE,zF,zG,zH,zI,zJ, hnn, vgrow, gq, gs, hcl, hi1, q1, List.flatten_cons, List.flatten_nil]); rw [hKn];clear hKn Kn;simp only [QV,reduceIte,reduceCtorEq,Nat.reduceEqDiff])
   ((repeat refine Ws ?_);refine W_regionE TB_ok ?_; intro Kn hKn)
   ((simp (maxSteps := 1000000) only [xB_ty, xB_fn, xB_bin, xB_oi, xB_oc, xB_ok, VL,VM,↓VG,reduceIte,reduceCtorEq,zA,zB,zC,zD,zE,zF,zG,zH,zI,zJ, k1]); rw [hKn];clear hKn Kn;simp only [QV,reduceIte,reduceCtorEq,Nat.reduceEqDiff])
   obtain ⟨Y2, hY2, g2⟩ := addLg_Y M.H.length [M.H.length + (J.length + 4)] (M.lg ++ X)
   rw [hY2, List.append_assoc]
   refine LoopK.mk ⟨i + 1, J.set q .gone ++ [.obj (ctC u), .obj (ctF c ++ ctC u)], J.length + 1, X ++ Y2⟩ (by simp only; omega) ⟨by simp only; omega, fun e he => ?_, fun _ => ?_⟩ ⟨by rw [hnn]; rfl, by rw [hnn]; rfl, rfl, rfl, trivial⟩ ?_
   ·rcases List.mem_append.1 he with he | he
    ·exact hX e he
    ·rw [(g2 e he).1]; omega
   ·rw [key, ctF_app]; simp
   ·rw [hnn]; simp [cvO]; omega
 ·have k2 : ((i : Int) < (y.carts.length : Int)) = False := eq_false (by omega)
  obtain rfl : i = y.carts.length := by omega
  rw [List.take_length] at hq
  ((simp (maxSteps := 1000000) only [xB_ty, xB_fn, xB_bin, xB_oi, xB_oc, xB_ok, VL,VM,↓VG,reduceIte,reduceCtorEq,zA,zB,zC,zD,zE,zF,zG,zH,zI,zJ, k2]); rw [hKn];clear hKn Kn;simp only [QV,reduceIte,reduceCtorEq,Nat.reduceEqDiff])
  ((repeat refine Ws ?_);refine Wf (by first|rfl|simp only [EV,zF,reduceIte]) ?_)
  (((repeat refine Ws ?_);refine W_exit ?_); simp only [QV,reduceIte,reduceCtorEq,Nat.reduceEqDiff])
  by_cases h0 : y.carts.length = 0
  ·have hcv : cvO y.carts.length (n + (3 + q)) = .sf 0 [] := by rw [cvO, if_pos h0]
   rw [hcv]
   ((repeat refine Ws ?_);refine W_regionE TB_ok ?_; intro Kn hKn)
   ((simp (maxSteps := 1000000) only [xB_ty, xB_fn, xB_bin, xB_oi, xB_oc, xB_ok, VL,VM,↓VG,reduceIte,reduceCtorEq,zA,zB,zC,zD,zE,zF,zG,zH,zI,zJ, hnn]); rw [hKn];clear hKn Kn;simp only [QV,reduceIte,reduceCtorEq,Nat.reduceEqDiff])
   obtain ⟨Y2, hY2, g2⟩ := addLg_Y (M.H.length + 1) [M.H.length + 2] (M.lg ++ X)
   rw [hY2, List.append_assoc]
   (repeat refine Ws ?_)
   refine W_ret ?_
   try simp only [thenQ, blockQ]
   refine ⟨.inr (by trivial), by trivial, [.agg [.bf (M.H.length + 2) 0 y.ramps.length 3, .p (.sl 0 []), vi y.sweep]], ?_, J, q, X ++ Y2, _, _, rfl, fun e he => ?_, by rw [cvP, if_pos h0, hnn]; rfl, hq⟩
   ·simp [Try.f20, vresL, vload, xB_ty, t_yard, get_cons, hget, hget0, nat_ble, strip1]
   ·rcases List.mem_append.1 he with he | he
    ·exact hnn ▸ hX e he
    ·rw [(g2 e he).1]; omega
  ·have hcv : cvO y.carts.length (n + (3 + q)) = .bf (n + (3 + q)) 0 y.carts.length 6 := by rw [cvO, if_neg h0]
   rw [hcv]
   ((repeat refine Ws ?_);refine W_regionE TB_ok ?_; intro Kn hKn)
   ((simp (maxSteps := 1000000) only [xB_ty, xB_fn, xB_bin, xB_oi, xB_oc, xB_ok, VL,VM,↓VG,reduceIte,reduceCtorEq,zA,zB,zC,zD,zE,zF,zG,zH,zI,zJ, hnn]); rw [hKn];clear hKn Kn;simp only [QV,reduceIte,reduceCtorEq,Nat.reduceEqDiff])
   obtain ⟨Y2, hY2, g2⟩ := addLg_Y (M.H.length + 1) [M.H.length + 2, M.H.length + (3 + q)] (M.lg ++ X)
   rw [hY2, List.append_assoc]
   (repeat refine Ws ?_)
   refine W_ret ?_
   try simp only [thenQ, blockQ]
   refine ⟨.inr (by trivial), by trivial, [.agg [.bf (M.H.length + 2) 0 y.ramps.length 3, .bf (M.H.length + (3 + q)) 0 y.carts.length 6, vi y.sweep]], ?_, J, q, X ++ Y2, _, _, rfl, fun e he => ?_, by rw [cvP, if_neg h0, hnn]; rfl, hq⟩
   ·simp [Try.f20, vresL, vload, xB_ty, t_yard, get_cons, hget, hget0, nat_ble, strip1]
   ·rcases List.mem_append.1 he with he | he
    ·exact hnn ▸ hX e he
    ·rw [(g2 e he).1]; omega
end Go.Proofs.Ythcicaelnchfdaa.Vm

/- A cell of an object that is known in another way. (Vm) -/
namespace Go.Proofs.Ythcicaelnchfdaa.Vm
open Go Go.Proofs
section
variable {P : Program} {T : Tab} {cx : Cx} {e : Env} {M : Mem} {D : List Nat} {Q : PQ} {c : Code}
theorem W_cell {id off : Nat} {cs : List VV} {x y : VV} (ho : M.H[id]? = some (.obj cs)) (hc : cs[off]? = some x) (hr : ∀ r ∈ refs y, r ∈ refs x) (hk : ∀ w K v, RepV w K M.H v x → RepV w K M.H v y)
  (h : WCode P cx c e ⟨M.H.set id (.obj (cs.set off y)), M.lg⟩ D Q) : WCode P cx c e M D Q := by
 intro G w K a hs
 have i1 := hs.inv
 have hil := (List.getElem?_eq_some_iff.1 ho).1
 obtain ⟨H2, hH2⟩ : ∃ H2, H2 = M.H.set id (.obj (cs.set off y)) := ⟨_, rfl⟩
 rw [← hH2] at h
 have hl2 : H2.length = M.H.length := by rw [hH2]; simp
 have hs2 : ∀ i x, H2[i]? = some x → (i = id ∧ x = .obj (cs.set off y)) ∨ (i ≠ id ∧ M.H[i]? = some x) := fun i x hx => by
  rw [hH2] at hx
  rcases set_get hx with ⟨rfl, rfl, _⟩ | ⟨b1, b2⟩
  ·exact .inl ⟨rfl, rfl⟩
  ·exact .inr ⟨b1, b2⟩
 have hE : Ext w K M.H w K H2 := by
  refine ⟨Nat.le_refl _, Szp.refl _, fun b q _ him i ob hi hb => ?_, fun _ _ _ _ => rfl, fun i x hi => ?_⟩
  ·rcases hs2 i ob hi with ⟨rfl, rfl⟩ | ⟨_, h2⟩
   ·rcases him i _ ho hb with e2 | ⟨m, k', e2, _⟩
    ·exact e2.elim
    ·cases e2
   ·exact him i ob h2 hb
  ·by_cases hid : i = id
   ·subst hid
    rw [ho] at hi
    cases hi
    exact ⟨_, by rw [hH2, List.getElem?_set_self hil], fun _ _ e => VObj.noConfusion e, rfl⟩
   ·exact ⟨x, by rw [hH2, List.getElem?_set_ne (Ne.symm hid)]; exact hi, objLe_same rfl fun b _ => rfl⟩
 have hI2 : Inv G w K { H := H2, lg := M.lg } := by
  refine ⟨i1.os, i1.tape, i1.output, i1.size, i1.gB, i1.old, inj_set i1 hl2 (fun i hg => by
   by_cases e1 : i = id
   ·rw [e1, ho]; simp
   ·rw [hH2, List.getElem?_set_ne (fun h => e1 h.symm)] at hg
    exact hg), fun i b hi => i1.blk i b (by simpa [hl2] using hi), fun i x hi => ?_, fun i x hi cc hcc r hr2 => ?_, fun en hen => ?_, fun i L hi => ?_⟩
  ·rcases hs2 i x hi with ⟨rfl, rfl⟩ | ⟨_, h2⟩
   ·intro b hb
    obtain ⟨vs, t, q1, q2, q3⟩ := i1.obj i _ ho b hb
    refine ⟨vs, t, q1, by simpa using q2, fun l v cv hv hcv => ?_⟩
    rw [List.getElem?_set] at hcv
    by_cases hj : off = l
    ·subst hj
     have hlt := (List.getElem?_eq_some_iff.1 hc).1
     rw [if_pos rfl, if_pos hlt] at hcv
     cases hcv
     obtain ⟨r1, r2⟩ := q3 off v _ hv hc
     refine ⟨(hk w K v r1).ext hE fun r hr3 => ?_, r2⟩
     exact i1.content ho x (by simp only [contents]; exact List.mem_of_getElem? hc) r (hr r hr3)
    ·rw [if_neg hj] at hcv
     obtain ⟨r1, r2⟩ := q3 l v cv hv hcv
     exact ⟨r1.ext hE (i1.content ho cv (by simp only [contents]; exact List.mem_of_getElem? hcv)), r2⟩
   ·exact (i1.obj i x h2).ext hE (fun _ _ => rfl) (i1.content h2)
  ·simp only [hl2]
   rcases hs2 i x hi with ⟨rfl, rfl⟩ | ⟨_, h2⟩
   ·simp only [contents] at hcc
    rcases List.mem_or_eq_of_mem_set hcc with hm | rfl
    ·exact i1.cl i _ ho cc (by simp only [contents]; exact hm) r hr2
    ·exact i1.cl i _ ho _ (by simp only [contents]; exact List.mem_of_getElem? hc) r (hr r hr2)
   ·exact i1.cl i x h2 cc hcc r hr2
  ·simp only [hl2]
   exact i1.lg en hen
  ·rcases hs2 i _ hi with ⟨rfl, e2⟩ | ⟨_, h2⟩
   ·cases e2
   ·exact i1.lpd i L h2
 have hs3 : StOk cx G w K { H := H2, lg := M.lg } a e D := ⟨hs.fr.ext (M' := { H := H2, lg := M.lg }) hE, df_ext (M' := { H := H2, lg := M.lg }) hE hs.df, hI2, (rd_ext (M' := { H := H2, lg := M.lg }) hE hs.rd).1⟩
 have h2 := h G w _ a hs3
 exact wpIn_mono h2 fun ex a' w' ⟨e', M', K', D', q1, q2, q3, q4⟩ => ⟨e', M', K', D', q1, q2, q3, hE.trans q4⟩
end
end Go.Proofs.Ythcicaelnchfdaa.Vm

/- Memory with a yard in buffers of our own. (Vm) -/
namespace Go.Proofs.Ythcicaelnchfdaa.Vm
open Go Go.Proofs
def GX (G : List VObj) (rid cid nc : Nat) (R C : List VV) : List VObj := if nc = 0 then G.set rid (.obj R) else (G.set rid (.obj R)).set cid (.obj C)
theorem GX_len (G : List VObj) (rid cid nc : Nat) (R C : List VV) : (GX G rid cid nc R C).length = G.length := by
 unfold GX
 split <;> simp
section
variable {G : List VObj} {rid cid nc d : Nat} (hr : rid < G.length) (hc : nc ≠ 0 → cid < G.length ∧ cid ≠ rid ∧ d ≠ cid) (hd : d ≠ rid) (u : Int) (R C : List VV) (L : List VObj)
include hr hc hd
theorem GX_r : (DH (GX G rid cid nc R C) d u L)[rid]? = some (.obj R) := by
 unfold DH
 rw [List.getElem?_set_ne hd, List.getElem?_append_left (by rw [GX_len]; exact hr)]
 unfold GX
 split
 ·exact List.getElem?_set_self hr
 ·rename_i h
  rw [List.getElem?_set_ne (hc h).2.1]
  exact List.getElem?_set_self hr
theorem GX_rs (R' : List VV) : (DH (GX G rid cid nc R C) d u L).set rid (.obj R') = DH (GX G rid cid nc R' C) d u L := by
 unfold DH
 rw [List.set_comm _ _ hd, List.set_append_left _ _ (by rw [GX_len]; exact hr)]
 congr 2
 unfold GX
 split
 ·exact List.set_set ..
 ·rename_i h
  rw [List.set_comm _ _ (hc h).2.1, List.set_set]
omit hr hd in
theorem GX_c (h : nc ≠ 0) : (DH (GX G rid cid nc R C) d u L)[cid]? = some (.obj C) := by
 unfold DH
 rw [List.getElem?_set_ne (hc h).2.2, List.getElem?_append_left (by rw [GX_len]; exact (hc h).1)]
 unfold GX
 rw [if_neg h]
 exact List.getElem?_set_self (by simpa using (hc h).1)
omit hr hd in
theorem GX_cs (h : nc ≠ 0) (C' : List VV) : (DH (GX G rid cid nc R C) d u L).set cid (.obj C') = DH (GX G rid cid nc R C') d u L := by
 unfold DH
 rw [List.set_comm _ _ (hc h).2.2, List.set_append_left _ _ (by rw [GX_len]; exact (hc h).1)]
 congr 2
 unfold GX
 rw [if_neg h, if_neg h, List.set_set]
omit hr hc hd in
theorem GX_o {i : Nat} (h1 : i ≠ rid) (h2 : nc ≠ 0 → i ≠ cid) (h3 : i ≠ d) (h4 : i < G.length) : (DH (GX G rid cid nc R C) d u L)[i]? = G[i]? := by
 unfold DH
 rw [List.getElem?_set_ne (Ne.symm h3), List.getElem?_append_left (by rw [GX_len]; exact h4)]
 unfold GX
 split
 ·rw [List.getElem?_set_ne (Ne.symm h1)]
 ·rename_i h
  rw [List.getElem?_set_ne (Ne.symm (h2 h)), List.getElem?_set_ne (Ne.symm h1)]
end
theorem GX_self {G : List VObj} {rid cid nc : Nat} {R C : List VV} (hr : G[rid]? = some (.obj R)) (hc : nc ≠ 0 → G[cid]? = some (.obj C)) : GX G rid cid nc R C = G := by
 have e : ∀ (i : Nat) (o : VObj), G[i]? = some o → G.set i o = G := fun i o h => by
  refine List.ext_getElem? fun j => ?_
  rw [List.getElem?_set]
  by_cases hij : i = j
  ·subst hij; rw [if_pos rfl, if_pos (List.getElem?_eq_some_iff.1 h).1, h]
  ·rw [if_neg hij]
 unfold GX
 split
 ·exact e _ _ hr
 ·rename_i h
  rw [e _ _ hr, e _ _ (hc h)]
theorem raF_at : ∀ (l : List Ra) (i : Nat) (r : Ra), l[i]? = some r → (raF l)[i * 3]? = some (vi r.open_) ∧ (raF l)[i * 3 + 1]? = some (vi r.shut) ∧ (raF l)[i * 3 + 2]? = some (vi r.bears)
 | [], i, r, h => by simp at h
 | x :: l, 0, r, h => by
  simp only [List.getElem?_cons_zero, Option.some.injEq] at h
  subst h
  exact ⟨rfl, rfl, rfl⟩
 | x :: l, i + 1, r, h => by
  rw [List.getElem?_cons_succ] at h
  rw [raF_cons, show (i + 1) * 3 = i * 3 + 1 + 1 + 1 by omega, show i * 3 + 1 + 1 + 1 + 1 = i * 3 + 1 + 1 + 1 + 1 from rfl, show i * 3 + 1 + 1 + 1 + 2 = i * 3 + 2 + 1 + 1 + 1 by omega]
  simp only [List.getElem?_cons_succ]
  exact raF_at l i r h
theorem ctF_at : ∀ (l : List Ct) (i : Nat) (c : Ct), l[i]? = some c → (ctF l)[i * 6]? = some (vi c.from_) ∧ (ctF l)[i * 6 + 1]? = some (vi c.until_) ∧ (ctF l)[i * 6 + 2]? = some (vi c.takes.lo) ∧ (ctF l)[i * 6 + 3]? = some (vi c.takes.hi) ∧ (ctF l)[i * 6 + 4]? = some (vi c.grams)
 | [], i, r, h => by simp at h
 | x :: l, 0, r, h => by
  simp only [List.getElem?_cons_zero, Option.some.injEq] at h
  subst h
  exact ⟨rfl, rfl, rfl, rfl, rfl⟩
 | x :: l, i + 1, r, h => by
  rw [List.getElem?_cons_succ] at h
  have e : ∀ k, (i + 1) * 6 + k = i * 6 + k + 1 + 1 + 1 + 1 + 1 + 1 := fun k => by omega
  have e0 : (i + 1) * 6 = i * 6 + 1 + 1 + 1 + 1 + 1 + 1 := by omega
  rw [ctF_cons, e 1, e 2, e 3, e 4, e0]
  simp only [List.getElem?_cons_succ]
  exact ctF_at l i r h
theorem nil_kind {w : World} {K : Nat → Option Nat} {H : List VObj} {v : Value} {k k0 : Nat} (h : RepV w K H v (.p (.sl k0 []))) : RepV w K H v (.p (.sl k [])) := by
 cases h with
 | p _ _ hp =>
  cases hp with
  | sl A c _ b off _ g q1 q2 q3 q4 q5 q6 q7 => exact .p _ _ (.sl A c k b off [] g q1 q2 (fun x hx => by cases hx) q4 (fun i x j u hx => by simp at hx) (fun i x j u hx => by simp at hx) (fun i x j u hx => by simp at hx))
theorem own_ret1X {f : Nat} {fn : Func} {M : Mem} {L : List VObj} {Y : List (Nat × Nat)} {e : Env} {t : Nat} {X : VV} (hY : ∀ x ∈ Y, M.H.length ≤ x.1) (h1 : fn.results.toList = [.tmp t]) (hr : frz M.H.length (M.H ++ L) (get e t) = X) (h2 : refs X = []) : ownQ T f fn M (fun r M' => M' = M ∧ r = X) .ret e ⟨M.H ++ L, M.lg ++ Y⟩ [] :=
 ⟨.inr rfl, rfl, ⟨Y, rfl, hY⟩, M.H, L, rfl, rfl, [get e t], by rw [h1]; rfl, X, hr, by simp [h2], rfl, rfl⟩
end Go.Proofs.Ythcicaelnchfdaa.Vm

/- A yard in buffers of our own is read as plain data from then on. (Vm) -/
namespace Go.Proofs.Ythcicaelnchfdaa.Vm
open Go Go.Proofs
theorem cvP_cell (a b : Nat) : isCell (cvP a b) = true := by unfold cvP; split <;> rfl
theorem W_frzY {P : Program} {cx : Cx} {e : Env} {lg : List (Nat × Nat)} {D : List Nat} {Q : PQ} {c : Code} {G : List VObj} {rid cid nc nr d : Nat} (hr : rid < G.length) (hc : nc ≠ 0 → cid < G.length ∧ cid ≠ rid ∧ d ≠ cid) (hd : d ≠ rid) (hdl : d < G.length) {u : Int} {rs : List Ra} {cs : List Ct} {sw : Int} (hnr : rs.length = nr) (hnc : cs.length = nc)
  (h : ∀ Hf : List VObj, (∀ i, i ≠ rid → (nc ≠ 0 → i ≠ cid) → i < G.length → Hf[i]? = (DH (GX G rid cid nc (raF rs) (ctF cs)) d u [.obj [.bf rid 0 nr 3, cvP nc cid, vi sw]])[i]?) → Hf.length = G.length + 1 → Hf[G.length]? = some (.obj [rasV rs, ctsV cs, vi sw]) → WCode P cx c e ⟨Hf, lg⟩ D Q) :
  WCode P cx c e ⟨DH (GX G rid cid nc (raF rs) (ctF cs)) d u [.obj [.bf rid 0 nr 3, cvP nc cid, vi sw]], lg⟩ D Q := by
 have hl : (DH (GX G rid cid nc (raF rs) (ctF cs)) d u [.obj [.bf rid 0 nr 3, cvP nc cid, vi sw]]).length = G.length + 1 := by rw [DH_len, GX_len]; rfl
 have hx : (DH (GX G rid cid nc (raF rs) (ctF cs)) d u [.obj [.bf rid 0 nr 3, cvP nc cid, vi sw]])[G.length]? = some (.obj [.bf rid 0 nr 3, cvP nc cid, vi sw]) := by
  have := DH_get0 (H0 := GX G rid cid nc (raF rs) (ctF cs)) (d := d) (by rw [GX_len]; exact hdl) (u := u) (L := [.obj [.bf rid 0 nr 3, cvP nc cid, vi sw]])
  rw [GX_len] at this
  exact this
 have hlt : G.length < (DH (GX G rid cid nc (raF rs) (ctF cs)) d u [.obj [.bf rid 0 nr 3, cvP nc cid, vi sw]]).length := by rw [hl]; omega
 refine W_frz1 (id := rid) (n := nr) (k := 3) (o := G.length) (j := 0) (xs := rs.map raP) (GX_r hr hc hd u _ _ _) hx rfl (by simp) (by simp [hnr]) (by omega) ?_
 by_cases h0 : nc = 0
 ·have hcs : cs = [] := List.length_eq_zero_iff.1 (by omega)
  subst hcs
  have hcv : cvP nc cid = .p (.sl 0 []) := by rw [cvP, if_pos h0]
  refine W_cell (id := G.length) (off := 1) (x := .p (.sl 0 [])) (y := .p (.sl 6 [])) (by rw [List.getElem?_set_self (by rw [List.length_set]; exact hlt)]) (by rw [hcv]; rfl) (fun r hr => by simp [refs] at hr) (fun w K v h => nil_kind h) ?_
  refine h _ (fun i h1 _ h3 => ?_) (by simp only [List.length_set]; exact hl) ?_
  ·rw [List.getElem?_set_ne (by omega), List.getElem?_set_ne (by omega), List.getElem?_set_ne (Ne.symm h1)]
  ·rw [List.getElem?_set_self (by simp only [List.length_set]; exact hlt)]
   simp
 ·have hcv : cvP nc cid = .bf cid 0 nc 6 := by rw [cvP, if_neg h0]
  obtain ⟨c1, c2, c3⟩ := hc h0
  refine W_frz1 (id := cid) (n := nc) (k := 6) (o := G.length) (j := 1) (xs := cs.map ctP) (cs := [.p (.sl 3 (rs.map raP)), .bf cid 0 nc 6, vi sw]) ?_ ?_ rfl (by simp) (by simp [hnc]) (by omega) ?_
  ·rw [List.getElem?_set_ne (by omega), List.getElem?_set_ne (Ne.symm c2)]
   exact GX_c hc u _ _ _ h0
  ·rw [List.getElem?_set_self (by rw [List.length_set]; exact hlt), hcv]; rfl
  ·refine h _ (fun i h1 h2 h3 => ?_) (by simp only [List.length_set]; exact hl) ?_
   ·rw [List.getElem?_set_ne (by omega), List.getElem?_set_ne (Ne.symm (h2 h0)), List.getElem?_set_ne (by omega), List.getElem?_set_ne (Ne.symm h1)]
   ·rw [List.getElem?_set_self (by simp only [List.length_set]; exact hlt)]
    simp
end Go.Proofs.Ythcicaelnchfdaa.Vm
