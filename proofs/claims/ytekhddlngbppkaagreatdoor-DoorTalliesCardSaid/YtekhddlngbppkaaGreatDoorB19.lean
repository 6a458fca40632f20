/- A part of the proofs about the doors; no condition. -/
import Derived.Test.YtekhddlngbppkaaGreatDoorB13
import Derived.Test.YtekhddlngbppkaaGreatDoorB14
import Derived.Test.YtekhddlngbppkaaGreatDoorB18
set_option linter.unusedVariables false
set_option linter.unusedSimpArgs false
open Int renaming reduceLE → zA, reduceLT → zB, reduceToNat → zC, reduceNeg → zD
open Nat renaming reduceLT → zE, reduceEqDiff → zF, reduceAdd → zG, reduceSub → zH, reduceMul → zI, reduceLeDiff → zJ
/- Dice, on values. (Vm) -/
namespace Go.Proofs.YtekhddlngbppkaaGreatDoor.Vm
open Go Go.Proofs
abbrev uv (n:Int):VV:=.p (.int .u64 n)
def xorU (a b:Int):Int:=IntKind.u64.wrap (BitVec.ofInt 64 a ^^^ BitVec.ofInt 64 b).toNat
def wrU (a:Int):Int:=IntKind.u64.wrap a
def shU (a y:Int):Int:=a.fdiv (2 ^ (min y.toNat 64))
theorem u_add (t:Nat) (a b:Int):vbin T .add t (uv a) (uv b) = some (uv (wrU (a + b))):=rfl
theorem u_mul (t:Nat) (a b:Int):vbin T .mul t (uv a) (uv b) = some (uv (wrU (a * b))):=rfl
theorem u_xor (t:Nat) (a b:Int):vbin T .xor t (uv a) (uv b) = some (uv (xorU a b)):=rfl
theorem u_shr (t:Nat) (a y:Int) (hy:0≤y):vbin T .shr t (uv a) (uv y) = some (uv (shU a y)):=by
 have h0:¬ y < 0:=by omega
 have h2:Go.binOp .shr 0 (.int .u64 a) (.int .u64 y) = .pure (.int .u64 (shU a y)):=by
  show Op.shift .shr .u64 a .u64 y = _
  unfold Op.shift
  rw [if_neg h0]
  rfl
 simp only [vbin,h2,pureOf,Option.map_some,ofValue]
theorem u_rem (t:Nat) (a b:Int) (hb:b≠0):vbin T .rem t (uv a) (uv b) = some (uv (a.tmod b)):=by
 have h2:Go.binOp .rem 0 (.int .u64 a) (.int .u64 b) = .pure (.int .u64 (a.tmod b)):=by
  show Op.intDiv .rem .u64 a b = _
  unfold Op.intDiv
  rw [if_neg hb]
  rfl
 simp only [vbin,h2,pureOf,Option.map_some,ofValue]
theorem c_iu (n:Int):vconvert T 3 72 (vi n) = some (uv (wrU n)):=by
 simp only [vconvert,t_int,t_u64]; rfl
theorem c_ui (n:Int):vconvert T 72 3 (uv n) = some (vi (IntKind.i64.wrap n)):=by
 simp only [vconvert,t_int,t_u64]; rfl
theorem xorU_range (a b:Int):0≤xorU a b∧xorU a b < 18446744073709551616:=wrap_u64 _
theorem shU_range {a y:Int} (h:0≤a):0≤shU a y:=by
 unfold shU
 have h2:(0:Int)≤2 ^ (min y.toNat 64):=Int.pow_nonneg (by decide)
 rw [Int.fdiv_eq_ediv_of_nonneg _ h2]
 exact Int.ediv_nonneg h h2
def DH (H0:List VObj) (d:Nat) (u:Int) (L:List VObj):List VObj:=(H0++L).set d (.obj [uv u])
section
variable {H0:List VObj} {d:Nat} (hd:d < H0.length) {u:Int} {L:List VObj}
theorem DH_len:(DH H0 d u L).length = H0.length + L.length:=by simp [DH]
include hd
theorem DH_eq:DH H0 d u L = DH H0 d u []++L:=by
 unfold DH
 rw [List.set_append_left _ _ hd,List.append_nil]
omit hd in
theorem DH_len0:(DH H0 d u []).length = H0.length:=by rw [DH_len]; simp
theorem DH_get (k:Nat):(DH H0 d u L)[H0.length + k]? = L[k]?:=by
 rw [DH_eq hd]
 have:=hget (DH H0 d u []) L k
 rwa [DH_len0] at this
theorem DH_get0:(DH H0 d u L)[H0.length]? = L[0]?:=DH_get hd 0
theorem DH_die:(DH H0 d u L)[d]? = some (.obj [uv u]):=by
 unfold DH
 rw [List.getElem?_set_self (by rw [List.length_append]; omega)]
theorem DH_app (X:List VObj):DH H0 d u L++X = DH H0 d u (L++X):=by
 rw [DH_eq hd,DH_eq hd (L:=L++X),List.append_assoc]
theorem DH_set (k:Nat) (o:VObj):(DH H0 d u L).set (H0.length + k) o = DH H0 d u (L.set k o):=by
 rw [DH_eq hd,DH_eq hd (L:=L.set k o)]
 have:=hset (DH H0 d u []) L k o
 rwa [DH_len0] at this
theorem DH_set0 (o:VObj):(DH H0 d u L).set H0.length o = DH H0 d u (L.set 0 o):=DH_set hd 0 o
omit hd in
theorem DH_setd (v:Int):(DH H0 d u L).set d (.obj [uv v]) = DH H0 d v L:=by
 unfold DH
 rw [List.set_set]
omit hd in
theorem DH_base:DH H0 d u L = DH (H0++L) d u []:=by
 unfold DH
 rw [List.append_nil]
theorem own_retD {f:Nat} {fn:Func} {lg:List (Nat×Nat)} {v:Int} {e:Env} {t:Nat} {X:VV} (h1:fn.results.toList = [.tmp t]) (hr:frz H0.length (DH H0 d v L) (get e t) = X) (h2:refs X = []):ownQ T f fn ⟨DH H0 d u [],lg⟩ (fun r M'=>M' = ⟨DH H0 d v [],lg⟩∧r = X) .ret e ⟨DH H0 d v L,lg⟩ [] :=
 ⟨.inr rfl,rfl,⟨[],by simp,by simp⟩,DH H0 d v [],L,DH_eq hd,by rw [DH_len,DH_len],[get e t],by rw [h1]; rfl,X,by rw [DH_len0]; exact hr,by simp [h2],rfl,rfl⟩
end
def nextU (u:Int):Int:=wrU (u + 11562461410679940143)
def rollV (u:Int):Int :=
 let x0:=nextU u
 let x1:=wrU (xorU x0 (shU x0 30) * 13787848793156543929)
 let x2:=wrU (xorU x1 (shU x1 27) * 10723151780598845931)
 xorU x2 (shU x2 31)
theorem rollV_range (u:Int):0≤rollV u:=(xorU_range _ _).1
theorem roll_v {H0:List VObj} {d:Nat} (hd:d < H0.length) (u:Int) (lg:List (Nat×Nat)):VC Tryz.prog 30 [.ptr d 0] ⟨DH H0 d u [],lg⟩ (fun r M'=>M' = ⟨DH H0 d (nextU u) [],lg⟩∧r = uv (rollV u)):=by
 have g1:=fun u=>DH_die hd (u:=u) (L:=[])
 have g2:=fun u v=>DH_setd (H0:=H0) (d:=d) (u:=u) (L:=[]) v
 refine VC_own' T_ok (f := 30) (fn:=Tryz.f30) (by kernel_rfl) rfl Tryz.ntmps30 (by rfl) (by rfl) ?_
 (repeat refine Ws ?_);refine Wr ?_
 simp(maxSteps:=1000000)only[VL,VM,↓VG,reduceIte,reduceCtorEq,zA,zB,zC,zD,zE,zF,zG,zH,zI,zJ]
 (repeat refine Ws ?_);refine Wr ?_
 simp(maxSteps:=1000000)only[VL,VM,↓VG,reduceIte,reduceCtorEq,zA,zB,zC,zD,zE,zF,zG,zH,zI,zJ,g1,g2,u_add]
 (repeat refine Ws ?_);refine Wr ?_
 simp(maxSteps:=1000000)only[VL,VM,↓VG,reduceIte,reduceCtorEq,zA,zB,zC,zD,zE,zF,zG,zH,zI,zJ,g1]
 (repeat refine Ws ?_);refine Wr ?_
 simp(maxSteps:=1000000)only[VL,VM,↓VG,reduceIte,reduceCtorEq,zA,zB,zC,zD,zE,zF,zG,zH,zI,zJ,u_shr,u_xor,u_mul]
 (repeat refine Ws ?_);refine Wr ?_
 simp(maxSteps:=1000000)only[VL,VM,↓VG,reduceIte,reduceCtorEq,zA,zB,zC,zD,zE,zF,zG,zH,zI,zJ,u_shr,u_xor,u_mul]
 (repeat refine Ws ?_);refine Wr ?_
 simp(maxSteps:=1000000)only[VL,VM,↓VG,reduceIte,reduceCtorEq,zA,zB,zC,zD,zE,zF,zG,zH,zI,zJ,u_shr,u_xor,u_mul]
 (repeat refine Ws ?_)
 refine W_ret ?_
 try simp only [thenQ,blockQ]
 refine own_retD hd rfl ?_ (by rfl)
 simp only [get_cons,frz,vtup,zF,if_true,if_false,reduceIte]
 rfl
def castF (u n:Int):Int:=if n < 2 then 0 else IntKind.i64.wrap ((shU (rollV u) 2).tmod (wrU n))
def castU (u n:Int):Int:=if n < 2 then u else nextU u
theorem castF_range {u n:Int} (hn:n < 9223372036854775808):0≤castF u n∧castF u n < max n 1:=by
 unfold castF
 by_cases h:n < 2
 ·rw [if_pos h]; omega
 ·rw [if_neg h]
  have hw:wrU n = n:=by
   unfold wrU
   rw [IntKind.wrap_u64]
   omega
  rw [hw]
  have hs:=shU_range (y:=2) (rollV_range u)
  have h1:=Int.tmod_nonneg n hs
  have h2:=Int.tmod_lt_of_pos (shU (rollV u) 2) (show 0 < n by omega)
  rw [IntWalk.i64_in _ (by omega)]
  omega
theorem cast_v {H0:List VObj} {d:Nat} (hd:d < H0.length) (u n:Int) (lg:List (Nat×Nat)) (hn:n < 9223372036854775808):VC Tryz.prog 25 [.ptr d 0,vi n] ⟨DH H0 d u [],lg⟩ (fun r M'=>M' = ⟨DH H0 d (castU u n) [],lg⟩∧r = vi (castF u n)):=by
 refine VC_own' T_ok (f := 25) (fn:=Tryz.f25) (by kernel_rfl) rfl Tryz.ntmps25 (by rfl) (by rfl) ?_
 (repeat refine Ws ?_);refine Wr ?_
 simp(maxSteps:=1000000)only[VL,VM,↓VG,reduceIte,reduceCtorEq,zA,zB,zC,zD,zE,zF,zG,zH,zI,zJ]
 (repeat refine Ws ?_);refine Wr ?_
 by_cases h:n < 2
 ·simp(maxSteps:=1000000)only[VL,VM,↓VG,reduceIte,reduceCtorEq,zA,zB,zC,zD,zE,zF,zG,zH,zI,zJ,h]
  (repeat refine Ws ?_);refine Wt ?_
  (repeat refine Ws ?_);refine Wr ?_
  simp(maxSteps:=1000000)only[VL,VM,↓VG,reduceIte,reduceCtorEq,zA,zB,zC,zD,zE,zF,zG,zH,zI,zJ]
  rw [castU,if_pos h,castF,if_pos h]
  (repeat refine Ws ?_)
  refine W_ret ?_
  try simp only [thenQ,blockQ]
  refine own_retD hd rfl ?_ (by rfl)
  simp only [get_cons,frz,vtup,zF,if_true,if_false,reduceIte]
 ·have hw:¬ wrU n = 0:=by
   unfold wrU
   rw [IntKind.wrap_u64]
   omega
  simp(maxSteps:=1000000)only[VL,VM,↓VG,reduceIte,reduceCtorEq,zA,zB,zC,zD,zE,zF,zG,zH,zI,zJ,h]
  (repeat refine Ws ?_);refine Wf ?_
  (repeat refine Ws ?_);refine W_skip ?_
  simp(maxSteps:=1000000)only[VL,VM,↓VG,reduceIte,reduceCtorEq,zA,zB,zC,zD,zE,zF,zG,zH,zI,zJ]
  rw [castU,if_neg h,castF,if_neg h]
  (repeat refine Ws ?_);refine Wr ?_
  simp(maxSteps:=1000000)only[VL,VM,↓VG,reduceIte,reduceCtorEq,zA,zB,zC,zD,zE,zF,zG,zH,zI,zJ]
  apply call_eq (f := 30) (fn:=Tryz.f30) (by kernel_rfl) (by rfl)
  ·exact roll_v hd u lg
  simp(maxSteps:=1000000)only[VL,VM,↓VG,reduceIte,reduceCtorEq,zA,zB,zC,zD,zE,zF,zG,zH,zI,zJ,u_shr,c_iu,u_rem,hw,c_ui,ne_eq]
  (repeat refine Ws ?_)
  refine W_ret ?_
  try simp only [thenQ,blockQ]
  refine own_retD hd rfl ?_ (by rfl)
  simp only [get_cons,frz,vtup,zF,if_true,if_false,reduceIte]
def fromF (u lo hi:Int):Int:=lo + castF u (hi - lo + 1)
def fromU (u lo hi:Int):Int:=castU u (hi - lo + 1)
theorem fromF_range {u lo hi:Int} (h:hi - lo < 1000000000000):lo≤fromF u lo hi∧fromF u lo hi≤max lo hi:=by
 unfold fromF
 have:=castF_range (u:=u) (n:=hi - lo + 1) (by omega)
 omega
theorem from_v {H0:List VObj} {d:Nat} (hd:d < H0.length) (u lo hi:Int) (lg:List (Nat×Nat)) (h0 : -1000000000000≤lo) (h1:hi≤1000000000000) (h2:lo≤1000000000000) (h3 : -1000000000000≤hi):VC Tryz.prog 24 [.ptr d 0,vi lo,vi hi] ⟨DH H0 d u [],lg⟩ (fun r M'=>M' = ⟨DH H0 d (fromU u lo hi) [],lg⟩∧r = vi (fromF u lo hi)):=by
 have k1 : -9223372036854775808≤hi - lo∧hi - lo < 9223372036854775808:=by omega
 have k2 : -9223372036854775808≤hi - lo + 1∧hi - lo + 1 < 9223372036854775808:=by omega
 have hc:=castF_range (u:=u) (n:=hi - lo + 1) (by omega)
 have k3 : -9223372036854775808≤lo + castF u (hi - lo + 1)∧lo + castF u (hi - lo + 1) < 9223372036854775808:=by omega
 refine VC_own' T_ok (f := 24) (fn:=Tryz.f24) (by kernel_rfl) rfl Tryz.ntmps24 (by rfl) (by rfl) ?_
 (repeat refine Ws ?_);refine Wr ?_
 simp(maxSteps:=1000000)only[VL,VM,↓VG,reduceIte,reduceCtorEq,zA,zB,zC,zD,zE,zF,zG,zH,zI,zJ]
 (repeat refine Ws ?_);refine Wr ?_
 simp(maxSteps:=1000000)only[VL,VM,↓VG,reduceIte,reduceCtorEq,zA,zB,zC,zD,zE,zF,zG,zH,zI,zJ,k1,k2]
 apply call_eq (f := 25) (fn:=Tryz.f25) (by kernel_rfl) (by rfl)
 ·exact cast_v hd u (hi - lo + 1) lg (by omega)
 simp(maxSteps:=1000000)only[VL,VM,↓VG,reduceIte,reduceCtorEq,zA,zB,zC,zD,zE,zF,zG,zH,zI,zJ,k3]
 (repeat refine Ws ?_)
 refine W_ret ?_
 try simp only [thenQ,blockQ]
 refine own_retD hd rfl ?_ (by rfl)
 simp only [get_cons,frz,vtup,zF,if_true,if_false,reduceIte]
 rfl
def onceF (u n:Int):Bool:=decide (castF u n = 0)
theorem once_v {H0:List VObj} {d:Nat} (hd:d < H0.length) (u n:Int) (lg:List (Nat×Nat)) (hn:n < 9223372036854775808):VC Tryz.prog 28 [.ptr d 0,vi n] ⟨DH H0 d u [],lg⟩ (fun r M'=>M' = ⟨DH H0 d (castU u n) [],lg⟩∧r = vb (onceF u n)):=by
 refine VC_own' T_ok (f := 28) (fn:=Tryz.f28) (by kernel_rfl) rfl Tryz.ntmps28 (by rfl) (by rfl) ?_
 (repeat refine Ws ?_);refine Wr ?_
 simp(maxSteps:=1000000)only[VL,VM,↓VG,reduceIte,reduceCtorEq,zA,zB,zC,zD,zE,zF,zG,zH,zI,zJ]
 (repeat refine Ws ?_);refine Wr ?_
 simp(maxSteps:=1000000)only[VL,VM,↓VG,reduceIte,reduceCtorEq,zA,zB,zC,zD,zE,zF,zG,zH,zI,zJ]
 apply call_eq (f := 25) (fn:=Tryz.f25) (by kernel_rfl) (by rfl)
 ·exact cast_v hd u n lg hn
 simp(maxSteps:=1000000)only[VL,VM,↓VG,reduceIte,reduceCtorEq,zA,zB,zC,zD,zE,zF,zG,zH,zI,zJ]
 (repeat refine Ws ?_)
 refine W_ret ?_
 try simp only [thenQ,blockQ]
 refine own_retD hd rfl ?_ (by rfl)
 simp only [get_cons,frz,vtup,zF,if_true,if_false,reduceIte]
 rfl
def oneF (u:Int) (xs:List Int):Int:=xs.getD (castF u xs.length).toNat 0
def oneU (u:Int) (xs:List Int):Int:=castU u xs.length
theorem one_v {H0:List VObj} {d:Nat} (hd:d < H0.length) (u:Int) (xs:List Int) (lg:List (Nat×Nat)) (h0:xs.length≠0) (hl:xs.length≤1000000):VC Tryz.prog 26 [.ptr d 0,intsV xs] ⟨DH H0 d u [],lg⟩ (fun r M'=>M' = ⟨DH H0 d (oneU u xs) [],lg⟩∧r = vi (oneF u xs)):=by
 have k1:((xs.length:Int) = 0) = False:=eq_false (by omega)
 have hc:=castF_range (u:=u) (n:=xs.length) (by omega)
 have hc0:=hc.1
 have hlt:(castF u xs.length).toNat < xs.length:=by omega
 have hx:xs[(castF u xs.length).toNat]? = some (oneF u xs):=by simp [oneF,hlt]
 have hx':=map_at (f:=intP) hx
 refine VC_own' T_ok (f := 26) (fn:=Tryz.f26) (by kernel_rfl) rfl Tryz.ntmps26 (by rfl) (by rfl) ?_
 (repeat refine Ws ?_);refine Wr ?_
 simp(maxSteps:=1000000)only[VL,VM,↓VG,reduceIte,reduceCtorEq,zA,zB,zC,zD,zE,zF,zG,zH,zI,zJ]
 (repeat refine Ws ?_);refine Wr ?_
 simp(maxSteps:=1000000)only[VL,VM,↓VG,reduceIte,reduceCtorEq,zA,zB,zC,zD,zE,zF,zG,zH,zI,zJ,k1]
 (repeat refine Ws ?_);refine Wf ?_
 (repeat refine Ws ?_);refine W_skip ?_
 simp(maxSteps:=1000000)only[VL,VM,↓VG,reduceIte,reduceCtorEq,zA,zB,zC,zD,zE,zF,zG,zH,zI,zJ]
 (repeat refine Ws ?_);refine Wr ?_
 simp(maxSteps:=1000000)only[VL,VM,↓VG,reduceIte,reduceCtorEq,zA,zB,zC,zD,zE,zF,zG,zH,zI,zJ]
 apply call_eq (f := 25) (fn:=Tryz.f25) (by kernel_rfl) (by rfl)
 ·exact cast_v hd u xs.length lg (by omega)
 simp(maxSteps:=1000000)only[VL,VM,↓VG,reduceIte,reduceCtorEq,zA,zB,zC,zD,zE,zF,zG,zH,zI,zJ,hc0,hx']
 (repeat refine Ws ?_)
 refine W_ret ?_
 try simp only [thenQ,blockQ]
 refine own_retD hd rfl ?_ (by rfl)
 simp only [get_cons,frz,vtup,zF,if_true,if_false,reduceIte]
end Go.Proofs.YtekhddlngbppkaaGreatDoor.Vm

/- Dice, on values, part 2. (Vm) -/
namespace Go.Proofs.YtekhddlngbppkaaGreatDoor.Vm
open Go Go.Proofs
section
variable {H0:List VObj} {d:Nat} (hd:d < H0.length) {u:Int} {L:List VObj}
include hd
theorem own_retDc {f:Nat} {fn:Func} {lg:List (Nat×Nat)} {v:Int} {e:Env} {ex:Exit} {a t:Nat} {X Y:VV} (hex:ex = .normal∨ex = .ret) (h1:fn.results.toList = [.cell a t]) (hr:vload T t (get e a) ⟨DH H0 d v L,lg⟩ = some Y) (hY:frz H0.length (DH H0 d v L) Y = X) (h2:refs X = []):ownQ T f fn ⟨DH H0 d u [],lg⟩ (fun r M'=>M' = ⟨DH H0 d v [],lg⟩∧r = X) ex e ⟨DH H0 d v L,lg⟩ [] :=
 ⟨hex,rfl,⟨[],by simp,by simp⟩,DH H0 d v [],L,DH_eq hd,by rw [DH_len,DH_len],[Y],by rw [h1]; simp [vresL,hr],X,by rw [DH_len0]; exact hY,by simp [h2],rfl,rfl⟩
theorem from_c (u lo hi:Int) (lg:List (Nat×Nat)) (h0 : -1000000000000≤lo) (h1:hi≤1000000000000) (h2:lo≤1000000000000) (h3 : -1000000000000≤hi):VC Tryz.prog 24 [.ptr d 0,vi lo,vi hi] ⟨DH H0 d u L,lg⟩ (fun r M'=>M' = ⟨DH H0 d (fromU u lo hi) L,lg⟩∧r = vi (fromF u lo hi)):=by
 rw [DH_base,DH_base (u:=fromU u lo hi)]
 exact from_v (by rw [List.length_append]; omega) u lo hi lg h0 h1 h2 h3
theorem cast_c (u n:Int) (lg:List (Nat×Nat)) (hn:n < 9223372036854775808):VC Tryz.prog 25 [.ptr d 0,vi n] ⟨DH H0 d u L,lg⟩ (fun r M'=>M' = ⟨DH H0 d (castU u n) L,lg⟩∧r = vi (castF u n)):=by
 rw [DH_base,DH_base (u:=castU u n)]
 exact cast_v (by rw [List.length_append]; omega) u n lg hn
theorem once_c (u n:Int) (lg:List (Nat×Nat)) (hn:n < 9223372036854775808):VC Tryz.prog 28 [.ptr d 0,vi n] ⟨DH H0 d u L,lg⟩ (fun r M'=>M' = ⟨DH H0 d (castU u n) L,lg⟩∧r = vb (onceF u n)):=by
 rw [DH_base,DH_base (u:=castU u n)]
 exact once_v (by rw [List.length_append]; omega) u n lg hn
theorem one_c (u:Int) (xs:List Int) (lg:List (Nat×Nat)) (h0:xs.length≠0) (hl:xs.length≤1000000):VC Tryz.prog 26 [.ptr d 0,intsV xs] ⟨DH H0 d u L,lg⟩ (fun r M'=>M' = ⟨DH H0 d (oneU u xs) L,lg⟩∧r = vi (oneF u xs)):=by
 rw [DH_base,DH_base (u:=oneU u xs)]
 exact one_v (by rw [List.length_append]; omega) u xs lg h0 hl
end
theorem oneF_mem {u:Int} {xs:List Int} (h0:xs.length≠0) (hl:xs.length≤1000000):oneF u xs∈xs:=by
 have hc:=castF_range (u:=u) (n:=xs.length) (by omega)
 have hlt:(castF u xs.length).toNat < xs.length:=by omega
 have hx:xs[(castF u xs.length).toNat]? = some (oneF u xs):=by simp [oneF,hlt]
 exact List.mem_of_getElem? hx
end Go.Proofs.YtekhddlngbppkaaGreatDoor.Vm

/- Dice, on values, part 3. (Vm) -/
namespace Go.Proofs.YtekhddlngbppkaaGreatDoor.Vm
open Go Go.Proofs
end Go.Proofs.YtekhddlngbppkaaGreatDoor.Vm

/- Dice made of numbers, places, loads, on values. (Vm) -/
namespace Go.Proofs.YtekhddlngbppkaaGreatDoor.Vm
open Go Go.Proofs
theorem VC_esc {P:Program} {T:Tab} (hT:TabOk P T) {f:Nat} {fn:Func} {c:Code} {nt:Nat} {args:List VV} {M:Mem} {Q:VV→Mem→Prop} (hf:T.fn f = some fn) (hb:fn.body = some c) (hnt:fn.ntmps = nt) (hn:Nat.ble args.length nt = true) (hk:T.keeps f = false)
  (h:WCode P ⟨f,none,nt⟩ c (zipEnv 0 args) M [] (fun ex e M' D=>(ex = .normal∨ex = .ret)∧D = []∧∃ vs,vresL T e M' fn.results.toList = some vs∧(∃ x∈refs (frz M.H.length M'.H (vtup vs)),M.H.length≤x)∧Q (vtup vs) M')):VC P f args M Q:=by
 subst hnt
 refine VC_fn hT hf hb (Nat.le_of_ble_eq_true hn) fun hlg=>h.mono ?_
 rintro ex e M' D ⟨hex,rfl,vs,h1,⟨x,hx,hx2⟩,h3⟩
 have key:retQ T f M.H.length fn Q .ret e M' []:=by
  simp only [retQ,vkill]
  have hM:({ M' with H:=M'.H }:Mem) = M':=rfl
  rw [hM,h1]
  simp only
  have q3:((refs (frz M.H.length M'.H (vtup vs))).all (Nat.blt · M.H.length)) = false:=by
   rw [List.all_eq_false]
   exact ⟨x,hx,by rw [Nat.blt_eq]; omega⟩
  unfold vfinish
  rw [hk,q3,Bool.and_false]
  exact h3
 rcases hex with rfl | rfl
 ·exact key
 ·exact key
def dieU:List Int→Int:=List.foldl (fun u x=>nextU (wrU (xorU u (wrU x) * 11507291218515648293))) 2611923443488327891
theorem dieU_take {xs:List Int} {i:Nat} {x:Int} (h:xs[i]? = some x):dieU (xs.take (i + 1)) = nextU (wrU (xorU (dieU (xs.take i)) (wrU x) * 11507291218515648293)):=by
 rw [List.take_add_one,h]
 simp [dieU,Option.toList]
theorem dieOf_v (xs:List Int) (M:Mem) (hl:xs.length≤maxLen):VC Tryz.prog 8 [intsV xs] M (fun r M'=>M' = ⟨DH (M.H++[.dead]) M.H.length (dieU xs) [],M.lg⟩∧r = .ptr M.H.length 0):=by
 have hmx:maxLen < 9223372036854775808:=by decide
 have hd:M.H.length < (M.H++[VObj.dead]).length:=by simp
 refine VC_esc T_ok (f := 8) (fn:=Tryz.f8) (by kernel_rfl) rfl Tryz.ntmps8 (by rfl) (by rfl) ?_
 (repeat refine Ws ?_);refine Wr ?_
 simp(maxSteps:=1000000)only[VL,VM,↓VG,reduceIte,reduceCtorEq,zA,zB,zC,zD,zE,zF,zG,zH,zI,zJ]
 (repeat refine Ws ?_);refine Wr ?_
 simp(maxSteps:=1000000)only[VL,VM,↓VG,reduceIte,reduceCtorEq,zA,zB,zC,zD,zE,zF,zG,zH,zI,zJ]
 rw [show M.H++[VObj.obj [uv 2611923443488327891]] = DH (M.H++[VObj.dead]) M.H.length (dieU []) [] by simp [DH,dieU]]
 (repeat refine Ws ?_);refine Wr ?_
 simp(maxSteps:=1000000)only[VL,VM,↓VG,reduceIte,reduceCtorEq,zA,zB,zC,zD,zE,zF,zG,zH,zI,zJ]
 ((repeat refine Ws ?_);refine W_block ?_; (repeat refine Ws ?_)); refine W_loopS (fun i:Nat=>[(0,intsV xs),(3,.ptr M.H.length 0),(4,vi i)]) (fun i=>⟨DH (M.H++[VObj.dead]) M.H.length (dieU (xs.take i)) [],M.lg⟩) (fun i=>xs.length - i) (fun i=>i≤xs.length) 0 (Nat.zero_le _) ⟨rfl,rfl,rfl,trivial⟩ rfl ?_
 rintro i hi
 (repeat refine Ws ?_);refine Wr ?_
 rcases Nat.lt_or_ge i xs.length with hlt | hge
 ·have k1 : -9223372036854775808≤(i:Int) + 1∧(i:Int) + 1 < 9223372036854775808:=by omega
  have k2:((i:Int) < (xs.length:Int)) = True:=eq_true (by omega)
  have hx:xs[i]? = some xs[i]:=List.getElem?_eq_getElem hlt
  have hx':=map_at (f:=intP) hx
  generalize hc:xs[i] = x at hx hx'
  simp(maxSteps:=1000000)only[VL,VM,↓VG,reduceIte,reduceCtorEq,zA,zB,zC,zD,zE,zF,zG,zH,zI,zJ,k2]
  (repeat refine Ws ?_);refine Wt ?_
  (repeat refine Ws ?_);refine W_skip ?_
  simp(maxSteps:=1000000)only[VL,VM,↓VG,reduceIte,reduceCtorEq,zA,zB,zC,zD,zE,zF,zG,zH,zI,zJ]
  (repeat refine Ws ?_);refine W_block ?_
  (repeat refine Ws ?_)
  refine W_drawP T_ok [] (by kernel_rfl) (by kernel_rfl) ?_
  generalize hi:mkPlan _ = infs
  cbv at hi
  subst hi
  simp(maxSteps:=1000000)only[VL,VM,↓VG,reduceIte,reduceCtorEq,zA,zB,zC,zD,zE,zF,zG,zH,zI,zJ,DH_die hd,DH_setd,hx',c_iu,u_xor,u_mul]
  (repeat refine Ws ?_);refine Wr ?_
  simp(maxSteps:=1000000)only[VL,VM,↓VG,reduceIte,reduceCtorEq,zA,zB,zC,zD,zE,zF,zG,zH,zI,zJ]
  apply call_eq (f := 30) (fn:=Tryz.f30) (by kernel_rfl) (by rfl)
  ·exact roll_v hd (wrU (xorU (dieU (xs.take i)) (wrU x) * 11507291218515648293)) M.lg
  simp(maxSteps:=1000000)only[VL,VM,↓VG,reduceIte,reduceCtorEq,zA,zB,zC,zD,zE,zF,zG,zH,zI,zJ]
  (repeat refine Ws ?_);refine Wr ?_
  simp(maxSteps:=1000000)only[VL,VM,↓VG,reduceIte,reduceCtorEq,zA,zB,zC,zD,zE,zF,zG,zH,zI,zJ,k1]
  refine LoopK.mk (i + 1) (by omega) (by omega) ⟨rfl,rfl,rfl,trivial⟩ ?_
  simp only [dieU_take hx]
 ·have k2:((i:Int) < (xs.length:Int)) = False:=eq_false (by omega)
  obtain rfl:i = xs.length:=by omega
  rw [List.take_length]
  simp(maxSteps:=1000000)only[VL,VM,↓VG,reduceIte,reduceCtorEq,zA,zB,zC,zD,zE,zF,zG,zH,zI,zJ,k2]
  (repeat refine Ws ?_);refine Wf ?_
  (repeat refine Ws ?_);refine W_exit ?_
  simp(maxSteps:=1000000)only[VL,VM,↓VG,reduceIte,reduceCtorEq,zA,zB,zC,zD,zE,zF,zG,zH,zI,zJ]
  (repeat refine Ws ?_);refine Wr ?_
  simp(maxSteps:=1000000)only[VL,VM,↓VG,reduceIte,reduceCtorEq,zA,zB,zC,zD,zE,zF,zG,zH,zI,zJ]
  (repeat refine Ws ?_)
  refine W_ret ⟨.inr rfl,rfl,[.ptr M.H.length 0],rfl,⟨M.H.length,by simp [vtup,frz,refs],Nat.le_refl _⟩,rfl,rfl⟩
end Go.Proofs.YtekhddlngbppkaaGreatDoor.Vm

/- Flows through a network of places: plain facts. -/
namespace Go.Proofs.YtekhddlngbppkaaGreatDoor
def at2 (R:List (List Int)) (i j:Nat):Int:=(R.getD i []).getD j 0
structure Sq (N:Nat) (R:List (List Int)):Prop where
 len:R.length = N
 row:∀ r∈R,r.length = N
def sumTo (n:Nat) (f:Nat→Int):Int:=((List.range n).map f).sum
theorem sumTo_zero (f:Nat→Int):sumTo 0 f = 0:=rfl
theorem sumTo_succ (n:Nat) (f:Nat→Int):sumTo (n + 1) f = sumTo n f + f n:=by
 simp [sumTo,List.range_succ,List.sum_append]
theorem sumTo_add (n:Nat) (f g:Nat→Int):sumTo n (fun i=>f i + g i) = sumTo n f + sumTo n g:=by
 induction n with
 | zero=>rfl
 | succ n ih=>simp only [sumTo_succ,ih]; omega
theorem sumTo_sub (n:Nat) (f g:Nat→Int):sumTo n (fun i=>f i - g i) = sumTo n f - sumTo n g:=by
 induction n with
 | zero=>rfl
 | succ n ih=>simp only [sumTo_succ,ih]; omega
theorem sumTo_congr {n:Nat} {f g:Nat→Int} (h:∀ i,i < n→f i = g i):sumTo n f = sumTo n g:=by
 induction n with
 | zero=>rfl
 | succ n ih=>rw [sumTo_succ,sumTo_succ,ih fun i hi=>h i (by omega),h n (by omega)]
theorem sumTo_le {n:Nat} {f g:Nat→Int} (h:∀ i,i < n→f i≤g i):sumTo n f≤sumTo n g:=by
 induction n with
 | zero=>exact Int.le_refl _
 | succ n ih =>
  rw [sumTo_succ,sumTo_succ]
  have:=ih fun i hi=>h i (by omega)
  have:=h n (by omega)
  omega
theorem sumTo_const0 (n:Nat):sumTo n (fun _=>0) = 0:=by
 induction n with
 | zero=>rfl
 | succ n ih=>rw [sumTo_succ,ih]; rfl
theorem sumTo_swap (n m:Nat) (f:Nat→Nat→Int):sumTo n (fun i=>sumTo m (f i)) = sumTo m (fun j=>sumTo n fun i=>f i j):=by
 induction n with
 | zero=>simp only [sumTo_zero]; rw [sumTo_const0]
 | succ n ih =>
  simp only [sumTo_succ,ih]
  rw [sumTo_add]
theorem sumTo_one {n k:Nat} (hk:k < n) (x:Int):sumTo n (fun i=>if i = k then x else 0) = x:=by
 induction n with
 | zero=>omega
 | succ n ih =>
  rw [sumTo_succ]
  by_cases h:n = k
  ·subst h
   rw [if_pos rfl,sumTo_congr (g:=fun _=>0) fun i hi=>if_neg (by omega),sumTo_const0]
   omega
  ·rw [ih (by omega),if_neg h]
   omega
structure Res (N:Nat) (C R:List (List Int)) (v:Int):Prop where
 nn:∀ i j,i < N→j < N→0≤at2 R i j
 sk:∀ i j,i < N→j < N→at2 R i j + at2 R j i = at2 C i j + at2 C j i
 src:sumTo N (fun j=>at2 C 0 j - at2 R 0 j) = v
 mid:∀ i,i < N→i≠0→i≠1→sumTo N (fun j=>at2 C i j - at2 R i j) = 0
def cutOf (N:Nat) (C:List (List Int)) (S:Nat→Bool):Int:=sumTo N fun i=>sumTo N fun j=>if S i && !S j then at2 C i j else 0
theorem antisym_sum (N:Nat) (g:Nat→Nat→Int) (S:Nat→Bool) (h:∀ i j,i < N→j < N→g i j + g j i = 0):sumTo N (fun i=>sumTo N fun j=>if S i && S j then g i j else 0) = 0:=by
 have h1:=sumTo_swap N N (fun i j=>if S i && S j then g i j else 0)
 have h2:sumTo N (fun j=>sumTo N fun i=>if S i && S j then g i j else 0) = sumTo N (fun i=>sumTo N fun j => -(if S i && S j then g i j else 0)):=by
  refine sumTo_congr fun j hj=>sumTo_congr fun i hi => ?_
  have:=h i j hi hj
  cases S i <;> cases S j <;> simp <;> omega
 have h3:sumTo N (fun i=>sumTo N fun j => -(if S i && S j then g i j else 0)) = - sumTo N (fun i=>sumTo N fun j=>if S i && S j then g i j else 0):=by
  have e:∀ f:Nat→Int,∀ n,sumTo n (fun i => - f i) = - sumTo n f:=fun f n=>by
   have:=sumTo_sub n (fun _=>0) f
   rw [sumTo_const0] at this
   simp only [Int.zero_sub] at this
   exact this
  rw [← e]
  exact sumTo_congr fun i _=>e _ _
 rw [h2,h3] at h1
 omega
theorem Res.across {N:Nat} {C R:List (List Int)} {v:Int} (h:Res N C R v) (hN:2≤N) {S:Nat→Bool} (h0:S 0 = true) (h1:S 1 = false):v = sumTo N fun i=>sumTo N fun j=>if S i && !S j then at2 C i j - at2 R i j else 0:=by
 have e1:sumTo N (fun i=>if S i then sumTo N (fun j=>at2 C i j - at2 R i j) else 0) = v:=by
  rw [sumTo_congr (g:=fun i=>if i = 0 then v else 0),sumTo_one (by omega)]
  intro i hi
  by_cases hi0:i = 0
  ·subst hi0
   rw [h0,if_pos rfl,if_pos rfl]
   exact h.src
  ·rw [if_neg hi0]
   cases hs:S i with
   | false=>rfl
   | true =>
    have:i≠1:=by rintro rfl; rw [h1] at hs; cases hs
    exact h.mid i hi hi0 this
 have e2:=antisym_sum N (fun i j=>at2 C i j - at2 R i j) S (fun i j hi hj=>by have:=h.sk i j hi hj; omega)
 have e3:sumTo N (fun i=>if S i then sumTo N (fun j=>at2 C i j - at2 R i j) else 0) = sumTo N (fun i=>(sumTo N fun j=>if S i && S j then at2 C i j - at2 R i j else 0) + sumTo N fun j=>if S i && !S j then at2 C i j - at2 R i j else 0):=by
  refine sumTo_congr fun i hi => ?_
  rw [← sumTo_add]
  cases hs:S i with
  | false =>
   simp only [Bool.false_and,Bool.false_eq_true,if_false,Int.add_zero]
   rw [sumTo_const0]
  | true =>
   simp only [Bool.true_and,if_true]
   refine sumTo_congr fun j hj => ?_
   cases S j <;> simp
 rw [sumTo_add,e2,e1] at e3
 omega
theorem Res.le_cut {N:Nat} {C R:List (List Int)} {v:Int} (h:Res N C R v) (hN:2≤N) {S:Nat→Bool} (h0:S 0 = true) (h1:S 1 = false):v≤cutOf N C S:=by
 rw [h.across hN h0 h1]
 refine sumTo_le fun i hi=>sumTo_le fun j hj => ?_
 have:=h.nn i j hi hj
 split <;> omega
def MF (N:Nat) (C:List (List Int)) (v:Int):Prop:=(∃ R,Res N C R v)∧∃ S:Nat→Bool,S 0 = true∧S 1 = false∧cutOf N C S = v
theorem MF.unique {N:Nat} {C:List (List Int)} {v w:Int} (hN:2≤N) (h:MF N C v) (h':MF N C w):v = w:=by
 obtain ⟨⟨R,hR⟩,S,s0,s1,hS⟩:=h
 obtain ⟨⟨R',hR'⟩,S',s0',s1',hS'⟩:=h'
 have a:=hR.le_cut hN s0' s1'
 have b:=hR'.le_cut hN s0 s1
 omega
theorem Res.max {N:Nat} {C R:List (List Int)} {v:Int} (h:Res N C R v) (hN:2≤N) {S:Nat→Bool} (h0:S 0 = true) (h1:S 1 = false) (hc:∀ i j,i < N→j < N→S i = true→S j = false→at2 R i j≤0):MF N C v:=by
 refine ⟨⟨R,h⟩,S,h0,h1,?_⟩
 rw [h.across hN h0 h1]
 refine sumTo_congr fun i hi=>sumTo_congr fun j hj => ?_
 cases hs:S i with
 | false=>simp
 | true =>
  cases hj':S j with
  | true=>simp
  | false =>
   have:=h.nn i j hi hj
   have:=hc i j hi hj hs hj'
   simp
   omega
theorem Res.start {N:Nat} {C:List (List Int)} (h:∀ i j,i < N→j < N→0≤at2 C i j):Res N C C 0:=by
 refine ⟨h,fun _ _ _ _=>rfl,?_,fun i _ _ _ => ?_⟩ <;> simp only [Int.sub_self] <;> exact sumTo_const0 N
structure Aug (N:Nat) (R R':List (List Int)) (a:Nat) (k:Int):Prop where
 sq:Sq N R'
 nn:∀ i j,i < N→j < N→0≤at2 R' i j
 sk:∀ i j,i < N→j < N→at2 R' i j + at2 R' j i = at2 R i j + at2 R j i
 sum:∀ i,i < N→i≠1→sumTo N (at2 R' i) = sumTo N (at2 R i) - if i = a then k else 0
theorem Aug.res {N:Nat} {C R R':List (List Int)} {v k:Int} (h:Res N C R v) (hN:2≤N) (ha:Aug N R R' 0 k):Res N C R' (v + k):=by
 refine ⟨ha.nn,fun i j hi hj=>(ha.sk i j hi hj).trans (h.sk i j hi hj),?_,fun i hi h0 h1 => ?_⟩
 ·have h1:=h.src
  have h2:=ha.sum 0 (by omega) (by omega)
  rw [sumTo_sub] at h1 ⊢
  rw [if_pos rfl] at h2
  omega
 ·have h3:=h.mid i hi h0 h1
  have h2:=ha.sum i hi h1
  rw [sumTo_sub] at h3 ⊢
  rw [if_neg h0] at h2
  omega
end Go.Proofs.YtekhddlngbppkaaGreatDoor

/- Flows: a way through places that were not met, plain facts and memory. -/
namespace Go.Proofs.YtekhddlngbppkaaGreatDoor
def upd2 (R:List (List Int)) (i j:Nat) (x:Int):List (List Int):=R.set i ((R.getD i []).set j x)
theorem Sq.rowlen {N:Nat} {R:List (List Int)} (h:Sq N R) {i:Nat} (hi:i < N):(R.getD i []).length = N:=by
 rw [List.getD_eq_getElem?_getD,List.getElem?_eq_getElem (by rw [h.len]; exact hi)]
 exact h.row _ (List.getElem_mem _)
theorem Sq.upd {N:Nat} {R:List (List Int)} (h:Sq N R) {i:Nat} (hi:i < N) (j:Nat) (x:Int):Sq N (upd2 R i j x):=by
 refine ⟨by rw [upd2,List.length_set]; exact h.len,fun r hr => ?_⟩
 rcases List.mem_or_eq_of_mem_set hr with hr | rfl
 ·exact h.row r hr
 ·rw [List.length_set]
  exact h.rowlen hi
theorem at2_upd {N:Nat} {R:List (List Int)} (h:Sq N R) {i j:Nat} (hi:i < N) (hj:j < N) (x:Int) (k l:Nat):at2 (upd2 R i j x) k l = if i = k∧j = l then x else at2 R k l:=by
 unfold at2 upd2
 have hrl:=h.rowlen hi
 rw [List.getD_eq_getElem?_getD (l:=R.set _ _),List.getElem?_set]
 by_cases e:i = k
 ·subst e
  rw [if_pos rfl,if_pos (by rw [h.len]; exact hi),Option.getD_some,List.getD_eq_getElem?_getD,List.getElem?_set]
  by_cases e2:j = l
  ·subst e2
   rw [if_pos rfl,if_pos (by omega),if_pos ⟨rfl,rfl⟩]; rfl
  ·rw [if_neg e2,if_neg (by simp [e2]),← List.getD_eq_getElem?_getD]
 ·rw [if_neg e,if_neg (by simp [e]),← List.getD_eq_getElem?_getD]
theorem sum_upd {N:Nat} {R:List (List Int)} (h:Sq N R) {i j:Nat} (hi:i < N) (hj:j < N) (x:Int) (k:Nat):sumTo N (at2 (upd2 R i j x) k) = sumTo N (at2 R k) + if i = k then x - at2 R i j else 0:=by
 have e:sumTo N (at2 (upd2 R i j x) k) = sumTo N (fun l=>at2 R k l + if l = j then (if i = k then x - at2 R i j else 0) else 0):=by
  refine sumTo_congr fun l _ => ?_
  rw [at2_upd h hi hj]
  by_cases e1:i = k
  ·subst e1
   by_cases e2:j = l
   ·subst e2
    simp
    omega
   ·simp [e2,Ne.symm e2]
  ·simp [e1]
 rw [e,sumTo_add,sumTo_one hj]
theorem Aug.step {N:Nat} {R R1:List (List Int)} {a t:Nat} {k:Int} (hs:Sq N R) (ha:a < N) (ht:t < N) (hne:a≠t) (h1:Aug N R R1 t k) (hk:k≤at2 R a t) (hk0:0≤k) (hr:at2 R1 a t = at2 R a t) (hsum:sumTo N (at2 R1 a) = sumTo N (at2 R a)) (ha1:a≠1) :
  Aug N R (upd2 (upd2 R1 a t (at2 R1 a t - k)) t a (at2 R1 t a + k)) a k:=by
 have q1:=h1.sq.upd ha t (at2 R1 a t - k)
 have ev:∀ i j,at2 (upd2 (upd2 R1 a t (at2 R1 a t - k)) t a (at2 R1 t a + k)) i j = if t = i∧a = j then at2 R1 t a + k else if a = i∧t = j then at2 R1 a t - k else at2 R1 i j:=fun i j=>by
  rw [at2_upd q1 ht ha,at2_upd h1.sq ha ht]
 refine ⟨q1.upd ht a _,fun i j hi hj => ?_,fun i j hi hj => ?_,fun i hi hi1 => ?_⟩
 ·rw [ev]
  have h2:=h1.nn i j hi hj
  have h3:=h1.nn t a ht ha
  split
  ·omega
  ·split <;> omega
 ·rw [ev,ev,← h1.sk i j hi hj]
  by_cases c1:t = i∧a = j
  ·obtain ⟨rfl,rfl⟩:=c1
   simp [hne,Ne.symm hne]
   omega
  ·by_cases c2:a = i∧t = j
   ·obtain ⟨rfl,rfl⟩:=c2
    simp [hne,Ne.symm hne]
    omega
   ·have c3:¬ (t = j∧a = i):=fun ⟨x,y⟩=>c2 ⟨y,x⟩
    have c4:¬ (a = j∧t = i):=fun ⟨x,y⟩=>c1 ⟨y,x⟩
    rw [if_neg c1,if_neg c2,if_neg c3,if_neg c4]
 ·rw [sum_upd q1 ht ha,sum_upd h1.sq ha ht,h1.sum i hi hi1,at2_upd h1.sq ha ht]
  have c:¬ (a = t∧t = a):=fun h=>hne h.1
  rw [if_neg c]
  by_cases e1:i = a
  ·subst e1
   simp [hne,Ne.symm hne]
   omega
  ·by_cases e2:i = t
   ·subst e2
    simp [hne,Ne.symm hne,e1]
    omega
   ·simp [Ne.symm e1,Ne.symm e2,e1,e2]
abbrev mt (met:List Bool) (i:Nat):Bool:=met.getD i false
structure Dfs (N:Nat) (least:Int) (R:List (List Int)) (met:List Bool) (a:Nat) (n k:Int) (R':List (List Int)) (met':List Bool):Prop where
 len:met'.length = N
 mono:∀ i,mt met i = true→mt met' i = true
 one:mt met' 1 = mt met 1
 k0:0≤k
 zero:k = 0→R' = R∧mt met' a = true∧∀ i j,i < N→j < N→mt met' i = true→mt met i = false→mt met' j = false→at2 R i j < least
 pos:k≠0→k≤n∧Aug N R R' a k∧∀ i,i < N→mt met i = true→∀ j,j < N→at2 R' i j = at2 R i j
def unmet (met:List Bool):Nat:=(met.filter fun b => !b).length
theorem mt_set {met:List Bool} {a:Nat} (ha:a < met.length) (b:Bool) (i:Nat):mt (met.set a b) i = if a = i then b else mt met i:=by
 unfold mt
 rw [List.getD_eq_getElem?_getD,List.getElem?_set]
 by_cases e:a = i
 ·subst e
  rw [if_pos rfl,if_pos ha,if_pos rfl]; rfl
 ·rw [if_neg e,if_neg e,← List.getD_eq_getElem?_getD]
theorem unmet_le:∀ {met met':List Bool},met.length = met'.length→(∀ i,mt met i = true→mt met' i = true)→unmet met'≤unmet met
 | [],[],_,_=>Nat.le_refl _
 | b :: m,c :: m',hl,h=>by
  have ih:=unmet_le (met:=m) (met':=m') (by simpa using hl) fun i hi=>h (i + 1) hi
  have h0:=h 0
  unfold unmet at ih ⊢
  cases b <;> cases c <;> simp_all [mt] <;> omega
theorem unmet_set:∀ {met:List Bool} {a:Nat},a < met.length→mt met a = false→unmet (met.set a true) + 1 = unmet met
 | b :: m,0,_,h=>by
  have:b = false:=h
  subst this
  simp [unmet]
 | b :: m,a + 1,hl,h=>by
  have ih:=unmet_set (met:=m) (a:=a) (by simpa using hl) h
  unfold unmet at ih ⊢
  cases b <;> simp_all
end Go.Proofs.YtekhddlngbppkaaGreatDoor
namespace Go.Proofs.YtekhddlngbppkaaGreatDoor.Vm
open Go Go.Proofs
def setRows (H:List VObj):Nat→List (List Int)→List VObj
 | _,[]=>H
 | rid,r :: R=>(setRows H (rid + 1) R).set rid (.obj (r.map vi))
def HF (H:List VObj) (rid mb:Nat) (R:List (List Int)) (met:List Bool):List VObj:=(setRows H rid R).set mb (.obj (met.map vb))
section
variable {H:List VObj} {rid mb:Nat} {R:List (List Int)} {met:List Bool}
theorem setRows_len:∀ (R:List (List Int)) (rid:Nat),(setRows H rid R).length = H.length
 | [],_=>rfl
 | r :: R,rid=>by rw [setRows,List.length_set,setRows_len]
theorem HF_len:(HF H rid mb R met).length = H.length:=by rw [HF,List.length_set,setRows_len]
theorem setRows_other:∀ (R:List (List Int)) (rid i:Nat),(i < rid∨rid + R.length≤i)→(setRows H rid R)[i]? = H[i]?
 | [],_,_,_=>rfl
 | r :: R,rid,i,h=>by
  rw [List.length_cons] at h
  rw [setRows,List.getElem?_set_ne (by omega)]
  exact setRows_other R (rid + 1) i (by omega)
theorem setRows_get:∀ (R:List (List Int)) (rid i:Nat),rid + R.length≤H.length→i < R.length→(setRows H rid R)[rid + i]? = some (.obj ((R.getD i []).map vi))
 | r :: R,rid,0,h,_=>by
  show ((setRows H (rid + 1) R).set rid (.obj (r.map vi)))[rid]? = _
  rw [List.getElem?_set_self (by rw [setRows_len]; simp at h; omega)]
  rfl
 | r :: R,rid,i + 1,h,hi=>by
  rw [List.length_cons] at h hi
  rw [setRows,List.getElem?_set_ne (by omega),show rid + (i + 1) = rid + 1 + i by omega,setRows_get R (rid + 1) i (by omega) (by omega)]
  rfl
theorem setRows_set:∀ (R:List (List Int)) (rid i:Nat) (r:List Int),i < R.length→(setRows H rid R).set (rid + i) (.obj (r.map vi)) = setRows H rid (R.set i r)
 | q :: R,rid,0,r,_=>by
  show ((setRows H (rid + 1) R).set rid (.obj (q.map vi))).set rid (.obj (r.map vi)) = _
  rw [List.set_set]
  rfl
 | q :: R,rid,i + 1,r,hi=>by
  rw [List.length_cons] at hi
  rw [setRows,List.set_comm _ _ (by omega),show rid + (i + 1) = rid + 1 + i by omega,setRows_set R (rid + 1) i r (by omega)]
  rfl
theorem HF_other {i:Nat} (h1:i≠mb) (h2:i < rid∨rid + R.length≤i):(HF H rid mb R met)[i]? = H[i]?:=by
 rw [HF,List.getElem?_set_ne (Ne.symm h1),setRows_other R rid i h2]
theorem HF_row {i:Nat} (hr:rid + R.length≤H.length) (hd:mb < rid∨rid + R.length≤mb) (hi:i < R.length):(HF H rid mb R met)[rid + i]? = some (.obj ((R.getD i []).map vi)):=by
 rw [HF,List.getElem?_set_ne (by omega),setRows_get R rid i hr hi]
theorem HF_mb (hm:mb < H.length):(HF H rid mb R met)[mb]? = some (.obj (met.map vb)):=by
 rw [HF,List.getElem?_set_self (by rw [setRows_len]; exact hm)]
theorem HF_setmb (met':List Bool):(HF H rid mb R met).set mb (.obj (met'.map vb)) = HF H rid mb R met':=by
 rw [HF,List.set_set]; rfl
theorem HF_setrow {i:Nat} (hd:mb < rid∨rid + R.length≤mb) (hi:i < R.length) (r:List Int):(HF H rid mb R met).set (rid + i) (.obj (r.map vi)) = HF H rid mb (R.set i r) met:=by
 rw [HF,List.set_comm _ _ (by omega),setRows_set R rid i r hi]; rfl
end
end Go.Proofs.YtekhddlngbppkaaGreatDoor.Vm
