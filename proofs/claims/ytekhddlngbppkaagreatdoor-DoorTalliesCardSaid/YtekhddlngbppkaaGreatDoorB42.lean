/- A part of the proofs about the doors; no condition. -/
import Derived.Test.YtekhddlngbppkaaGreatDoorB14
import Derived.Test.YtekhddlngbppkaaGreatDoorB16
import Derived.Test.YtekhddlngbppkaaGreatDoorB36
import Derived.Test.YtekhddlngbppkaaGreatDoorB37
import Derived.Test.YtekhddlngbppkaaGreatDoorB39
import Derived.Test.YtekhddlngbppkaaGreatDoorB41
set_option linter.unusedVariables false
set_option linter.unusedSimpArgs false
open Int renaming reduceLE → zA, reduceLT → zB, reduceToNat → zC, reduceNeg → zD
open Nat renaming reduceLT → zE, reduceEqDiff → zF, reduceAdd → zG, reduceSub → zH, reduceMul → zI, reduceLeDiff → zJ
/- Numbers brought within bounds. (Vm) -/
namespace Go.Proofs.YtekhddlngbppkaaGreatDoor.Vm
open Go Go.Proofs
theorem i_remt (t:Nat) (a b:Int) (hb:b≠0):vbin T .rem t (vi a) (vi b) = some (vi (a.tmod b)):=by
 have h2:Go.binOp .rem 0 (.int .i64 a) (.int .i64 b) = .pure (.int .i64 (a.tmod b)):=by
  show Op.intDiv .rem .i64 a b = _
  unfold Op.intDiv
  rw [if_neg hb]
  rfl
 simp only [vbin,h2,pureOf,Option.map_some,ofValue]
def bringF (a n:Int):Int:=if n < 2 then 0 else if a.tmod n < 0 then a.tmod n + n else a.tmod n
theorem bringA_v (a n:Int) (M:Mem) (hn:n≤1000000000000):VC Tryz.prog 27 [vi a,vi n] M (fun r M'=>M' = M∧r = vi (bringF a n)):=by
 refine VC_own' T_ok (f := 27) (fn:=Tryz.f27) (by kernel_rfl) rfl Tryz.ntmps27 (by rfl) (by rfl) ?_
 (repeat refine Ws ?_);refine We ?_;intro Kn hKn
 ((simp(maxSteps:=1000000)only[VL,VM,↓VG,reduceIte,reduceCtorEq,zA,zB,zC,zD,zE,zF,zG,zH,zI,zJ]); rw [hKn];clear hKn Kn;simp only [QV,reduceIte,reduceCtorEq,zF])
 (repeat refine Ws ?_);refine We ?_;intro Kn hKn
 by_cases h:n < 2
 ·((simp(maxSteps:=1000000)only[VL,VM,↓VG,reduceIte,reduceCtorEq,zA,zB,zC,zD,zE,zF,zG,zH,zI,zJ,h]); rw [hKn];clear hKn Kn;simp only [QV,reduceIte,reduceCtorEq,zF])
  (repeat refine Ws ?_);refine Wt ?_
  (repeat refine Ws ?_);refine We ?_;intro Kn hKn
  ((simp(maxSteps:=1000000)only[VL,VM,↓VG,reduceIte,reduceCtorEq,zA,zB,zC,zD,zE,zF,zG,zH,zI,zJ]); rw [hKn];clear hKn Kn;simp only [QV,reduceIte,reduceCtorEq,zF])
  (repeat refine Ws ?_)
  refine W_ret ?_
  try simp only [thenQ,blockQ]
  refine own_ret10 rfl ?_ (by rfl)
  simp only [get_cons,frz,vtup,zF,if_true,if_false,reduceIte]
  rw [bringF,if_pos h]
 ·have hn0:n≠0:=by omega
  ((simp(maxSteps:=1000000)only[VL,VM,↓VG,reduceIte,reduceCtorEq,zA,zB,zC,zD,zE,zF,zG,zH,zI,zJ,h]); rw [hKn];clear hKn Kn;simp only [QV,reduceIte,reduceCtorEq,zF])
  (repeat refine Ws ?_);refine Wf ?_
  (((repeat refine Ws ?_);refine W_skip ?_); simp only [QV,reduceIte,reduceCtorEq,zF])
  (repeat refine Ws ?_);refine We ?_;intro Kn hKn
  ((simp(maxSteps:=1000000)only[VL,VM,↓VG,reduceIte,reduceCtorEq,zA,zB,zC,zD,zE,zF,zG,zH,zI,zJ,i_remt _ _ _ hn0]); rw [hKn];clear hKn Kn;simp only [QV,reduceIte,reduceCtorEq,zF])
  (repeat refine Ws ?_);refine We ?_;intro Kn hKn
  by_cases hm:a.tmod n < 0
  ·have hlt : -n < a.tmod n:=by
    have:=Int.lt_tmod_of_pos a (show 0 < n by omega)
    omega
   have k1 : -9223372036854775808≤a.tmod n + n∧a.tmod n + n < 9223372036854775808:=by omega
   ((simp(maxSteps:=1000000)only[VL,VM,↓VG,reduceIte,reduceCtorEq,zA,zB,zC,zD,zE,zF,zG,zH,zI,zJ,hm]); rw [hKn];clear hKn Kn;simp only [QV,reduceIte,reduceCtorEq,zF])
   (repeat refine Ws ?_);refine Wt ?_
   (repeat refine Ws ?_);refine We ?_;intro Kn hKn
   ((simp(maxSteps:=1000000)only[VL,VM,↓VG,reduceIte,reduceCtorEq,zA,zB,zC,zD,zE,zF,zG,zH,zI,zJ,k1]); rw [hKn];clear hKn Kn;simp only [QV,reduceIte,reduceCtorEq,zF])
   (repeat refine Ws ?_)
   refine W_ret ?_
   try simp only [thenQ,blockQ]
   refine own_ret10 rfl ?_ (by rfl)
   simp only [get_cons,frz,vtup,zF,if_true,if_false,reduceIte]
   rw [bringF,if_neg h,if_pos hm]
  ·((simp(maxSteps:=1000000)only[VL,VM,↓VG,reduceIte,reduceCtorEq,zA,zB,zC,zD,zE,zF,zG,zH,zI,zJ,hm]); rw [hKn];clear hKn Kn;simp only [QV,reduceIte,reduceCtorEq,zF])
   (repeat refine Ws ?_);refine Wf ?_
   (((repeat refine Ws ?_);refine W_skip ?_); simp only [QV,reduceIte,reduceCtorEq,zF])
   (repeat refine Ws ?_);refine We ?_;intro Kn hKn
   ((simp(maxSteps:=1000000)only[VL,VM,↓VG,reduceIte,reduceCtorEq,zA,zB,zC,zD,zE,zF,zG,zH,zI,zJ]); rw [hKn];clear hKn Kn;simp only [QV,reduceIte,reduceCtorEq,zF])
   (repeat refine Ws ?_)
   refine W_ret ?_
   try simp only [thenQ,blockQ]
   refine own_ret10 rfl ?_ (by rfl)
   simp only [get_cons,frz,vtup,zF,if_true,if_false,reduceIte]
   rw [bringF,if_neg h,if_neg hm]
end Go.Proofs.YtekhddlngbppkaaGreatDoor.Vm

/- Mar: a text that is changed at a place, on values. (Vm) -/
namespace Go.Proofs.YtekhddlngbppkaaGreatDoor.Vm
open Go Go.Proofs
def marF (s:By) (a h:Int) (c:Int):By:=if s = [] then [] else
 s.take (bringF a s.length).toNat++(if bringF h 3 = 1 then [] else [UInt8.ofNat c.toNat])++s.drop (if bringF h 3 = 2 then (bringF a s.length).toNat else (bringF a s.length).toNat + 1)
theorem bringF_rg (a:Int) {n:Int} (h:1≤n):0≤bringF a n∧bringF a n < n:=by
 unfold bringF
 have h1:=Int.tmod_lt_of_pos a (show 0 < n by omega)
 have h2:=Int.lt_tmod_of_pos a (show 0 < n by omega)
 split
 ·omega
 ·split <;> omega
theorem v_convB (c:Int):vconvert T 78 9 (.sf 1 [[.int .u8 c]]) = some (vs [UInt8.ofNat c.toNat]):=by
 simp only [vconvert,t_texts,t_str,t_byte]
 rfl
theorem marF_len (s:By) (a h c:Int):(marF s a h c).length≤s.length + 1:=by
 unfold marF
 split
 ·simp
 ·rename_i hs
  have:0 < s.length:=List.length_pos_iff.2 hs
  simp only [List.length_append,List.length_take,List.length_drop]
  split <;> split <;> simp <;> omega
theorem mar_v (s:By) (a h c:Int) (M:Mem) (hs:s.length≤1000000):VC Tryz.prog 11 [vs s,vi a,vi h,.p (.int .u8 c)] M (fun r M'=>M' = M∧r = vs (marF s a h c)):=by
 refine VC_own' T_ok (f := 11) (fn:=Tryz.f11) (by kernel_rfl) rfl Tryz.ntmps11 (by rfl) (by rfl) ?_
 (repeat refine Ws ?_);refine We ?_;intro Kn hKn
 ((simp(maxSteps:=1000000)only[VL,VM,↓VG,reduceIte,reduceCtorEq,zA,zB,zC,zD,zE,zF,zG,zH,zI,zJ]); rw [hKn];clear hKn Kn;simp only [QV,reduceIte,reduceCtorEq,zF])
 (repeat refine Ws ?_);refine We ?_;intro Kn hKn
 by_cases h0:s = []
 ·have k1:(s = []) = True:=eq_true h0
  ((simp(maxSteps:=1000000)only[VL,VM,↓VG,reduceIte,reduceCtorEq,zA,zB,zC,zD,zE,zF,zG,zH,zI,zJ,litNil,v_eqS,k1]); rw [hKn];clear hKn Kn;simp only [QV,reduceIte,reduceCtorEq,zF])
  (repeat refine Ws ?_);refine Wt ?_
  (repeat refine Ws ?_);refine We ?_;intro Kn hKn
  ((simp(maxSteps:=1000000)only[VL,VM,↓VG,reduceIte,reduceCtorEq,zA,zB,zC,zD,zE,zF,zG,zH,zI,zJ]); rw [hKn];clear hKn Kn;simp only [QV,reduceIte,reduceCtorEq,zF])
  (repeat refine Ws ?_)
  refine W_ret ?_
  try simp only [thenQ,blockQ]
  refine own_ret10 rfl ?_ (by rfl)
  simp only [get_cons,frz,vtup,zF,if_true,if_false,reduceIte]
  rw [show marF s a h c = [] from if_pos h0,h0]
 have k1:(s = []) = False:=eq_false h0
 have hpos:0 < s.length:=List.length_pos_iff.2 h0
 have hF:marF s a h c = s.take (bringF a s.length).toNat++(if bringF h 3 = 1 then [] else [UInt8.ofNat c.toNat])++s.drop (if bringF h 3 = 2 then (bringF a s.length).toNat else (bringF a s.length).toNat + 1):=if_neg h0
 ((simp(maxSteps:=1000000)only[VL,VM,↓VG,reduceIte,reduceCtorEq,zA,zB,zC,zD,zE,zF,zG,zH,zI,zJ,litNil,v_eqS,k1]); rw [hKn];clear hKn Kn;simp only [QV,reduceIte,reduceCtorEq,zF])
 (repeat refine Ws ?_);refine Wf ?_
 (((repeat refine Ws ?_);refine W_skip ?_); simp only [QV,reduceIte,reduceCtorEq,zF])
 (repeat refine Ws ?_);refine We ?_;intro Kn hKn
 simp(maxSteps:=1000000)only[VL,VM,↓VG,reduceIte,reduceCtorEq,zA,zB,zC,zD,zE,zF,zG,zH,zI,zJ,tx_size]
 apply call_eq (f := 27) (fn:=Tryz.f27) (by kernel_rfl) (by rfl)
 ·exact bringA_v a (s.length:Int) _ (by omega)
 ((simp(maxSteps:=1000000)only[VL,VM,↓VG,reduceIte,reduceCtorEq,zA,zB,zC,zD,zE,zF,zG,zH,zI,zJ]); rw [hKn];clear hKn Kn;simp only [QV,reduceIte,reduceCtorEq,zF])
 have hr:=bringF_rg a (n:=(s.length:Int)) (by omega)
 obtain ⟨k,hk⟩:∃ k:Nat,bringF a s.length = (k:Int):=⟨(bringF a s.length).toNat,by omega⟩
 rw [hk] at hr hF ⊢
 rw [Int.toNat_natCast] at hF
 have k2 : -9223372036854775808≤(k:Int) + 1∧(k:Int) + 1 < 9223372036854775808:=by omega
 (repeat refine Ws ?_);refine We ?_;intro Kn hKn
 ((simp(maxSteps:=1000000)only[VL,VM,↓VG,reduceIte,reduceCtorEq,zA,zB,zC,zD,zE,zF,zG,zH,zI,zJ,k2]); rw [hKn];clear hKn Kn;simp only [QV,reduceIte,reduceCtorEq,zF])
 (repeat refine Ws ?_);refine We ?_;intro Kn hKn
 ((simp(maxSteps:=1000000)only[VL,VM,↓VG,reduceIte,reduceCtorEq,zA,zB,zC,zD,zE,zF,zG,zH,zI,zJ,v_convB]); rw [hKn];clear hKn Kn;simp only [QV,reduceIte,reduceCtorEq,zF])
 (repeat refine Ws ?_);refine We ?_;intro Kn hKn
 simp(maxSteps:=1000000)only[VL,VM,↓VG,reduceIte,reduceCtorEq,zA,zB,zC,zD,zE,zF,zG,zH,zI,zJ]
 apply call_eq (f := 27) (fn:=Tryz.f27) (by kernel_rfl) (by rfl)
 ·exact bringA_v h 3 _ (by omega)
 ((simp(maxSteps:=1000000)only[VL,VM,↓VG,reduceIte,reduceCtorEq,zA,zB,zC,zD,zE,zF,zG,zH,zI,zJ]); rw [hKn];clear hKn Kn;simp only [QV,reduceIte,reduceCtorEq,zF])
 have n1:(k≤s.length) = True:=eq_true (by omega)
 have n2:(k + 1≤s.length) = True:=eq_true (by omega)
 have n3:(s.length≤s.length) = True:=eq_true (Nat.le_refl _)
 have n4:(0≤k) = True:=eq_true (Nat.zero_le _)
 have n5:((k:Int) + 1).toNat = k + 1:=by omega
 have n6:(0≤(k:Int) + 1) = True:=eq_true (by omega)
 have hlen:∀ x:By,x.length≤1→∀ j,(s.take k++x).length + (s.drop j).length≤9223372036854775807:=fun x hx j=>by
  rw [List.length_append,List.length_take,List.length_drop]
  omega
 have qs:∀ x:By,x.length≤1→vbin T .add 9 (vs (s.take k)) (vs x) = some (vs (s.take k++x)):=fun x hx=>v_addS _ _ _ (by rw [List.length_take]; omega)
 have qd:∀ (x:By) (j:Nat),x.length≤1→vbin T .add 9 (vs (s.take k++x)) (vs (s.drop j)) = some (vs (s.take k++x++s.drop j)):=fun x j hx=>v_addS _ _ _ (hlen x hx j)
 (repeat refine Ws ?_);refine W_block ?_
 (repeat refine Ws ?_);refine We ?_;intro Kn hKn
 have k0:(s.take k).length + (s.drop (k + 1)).length≤9223372036854775807:=by have:=hlen [] (by simp) (k + 1); simpa using this
 by_cases h1:bringF h 3 = 1
 ·have m1:(bringF h 3 = 1) = True:=eq_true h1
  have r1:vbin T .add 9 (vs (s.take k)) (vs []) = some (vs (s.take k)):=by rw [qs [] (by simp),List.append_nil]
  have r2:vbin T .add 9 (vs (s.take k)) (vs (s.drop (k + 1))) = some (vs (s.take k++s.drop (k + 1))):=v_addS _ _ _ k0
  rw [h1,if_pos rfl,if_neg (by decide),List.append_nil] at hF
  ((simp(maxSteps:=1000000)only[VL,VM,↓VG,reduceIte,reduceCtorEq,zA,zB,zC,zD,zE,zF,zG,zH,zI,zJ,m1]); rw [hKn];clear hKn Kn;simp only [QV,reduceIte,reduceCtorEq,zF])
  (repeat refine Ws ?_);refine Wt ?_
  (repeat refine Ws ?_);refine We ?_;intro Kn hKn
  ((simp(maxSteps:=1000000)only[VL,VM,↓VG,reduceIte,reduceCtorEq,zA,zB,zC,zD,zE,zF,zG,zH,zI,zJ,litNil]); rw [hKn];clear hKn Kn;simp only [QV,reduceIte,reduceCtorEq,zF])
  (repeat refine Ws ?_)
  refine W_drawE T_ok [] (by kernel_rfl) (by kernel_rfl) ?_
  intro Kn hKn
  generalize hi:mkPlan _ = infs
  cbv at hi
  subst hi
  ((simp(maxSteps:=1000000)only[VL,VM,↓VG,reduceIte,reduceCtorEq,zA,zB,zC,zD,zE,zF,zG,zH,zI,zJ,tx_size,n1,n2,n3,n4,n5,n6,decide_true,Bool.and_true,tx_extract,List.drop_zero,List.take_length,r1,r2]); rw [hKn];clear hKn Kn;simp only [QV,reduceIte,reduceCtorEq,zF])
  (repeat refine Ws ?_)
  refine W_ret ?_
  try simp only [thenQ,blockQ]
  refine own_ret10 rfl ?_ (by rfl)
  simp only [get_cons,frz,vtup,zF,if_true,if_false,reduceIte]
  rw [hF]
 have r1:=qs [UInt8.ofNat c.toNat] (by simp)
 have r2:=fun j=>qd [UInt8.ofNat c.toNat] j (by simp)
 have m1:(bringF h 3 = 1) = False:=eq_false h1
 rw [if_neg h1] at hF
 ((simp(maxSteps:=1000000)only[VL,VM,↓VG,reduceIte,reduceCtorEq,zA,zB,zC,zD,zE,zF,zG,zH,zI,zJ,m1]); rw [hKn];clear hKn Kn;simp only [QV,reduceIte,reduceCtorEq,zF])
 (repeat refine Ws ?_);refine Wf ?_
 (repeat refine Ws ?_);refine We ?_;intro Kn hKn
 by_cases h2:bringF h 3 = 2
 ·have m2:(bringF h 3 = 2) = True:=eq_true h2
  rw [if_pos h2] at hF
  ((simp(maxSteps:=1000000)only[VL,VM,↓VG,reduceIte,reduceCtorEq,zA,zB,zC,zD,zE,zF,zG,zH,zI,zJ,m2]); rw [hKn];clear hKn Kn;simp only [QV,reduceIte,reduceCtorEq,zF])
  (repeat refine Ws ?_);refine Wt ?_
  (repeat refine Ws ?_);refine We ?_;intro Kn hKn
  ((simp(maxSteps:=1000000)only[VL,VM,↓VG,reduceIte,reduceCtorEq,zA,zB,zC,zD,zE,zF,zG,zH,zI,zJ]); rw [hKn];clear hKn Kn;simp only [QV,reduceIte,reduceCtorEq,zF])
  (repeat refine Ws ?_)
  refine W_drawE T_ok [] (by kernel_rfl) (by kernel_rfl) ?_
  intro Kn hKn
  generalize hi:mkPlan _ = infs
  cbv at hi
  subst hi
  ((simp(maxSteps:=1000000)only[VL,VM,↓VG,reduceIte,reduceCtorEq,zA,zB,zC,zD,zE,zF,zG,zH,zI,zJ,tx_size,n1,n2,n3,n4,n5,n6,decide_true,Bool.and_true,tx_extract,List.drop_zero,List.take_length,r1,r2]); rw [hKn];clear hKn Kn;simp only [QV,reduceIte,reduceCtorEq,zF])
  (repeat refine Ws ?_)
  refine W_ret ?_
  try simp only [thenQ,blockQ]
  refine own_ret10 rfl ?_ (by rfl)
  simp only [get_cons,frz,vtup,zF,if_true,if_false,reduceIte]
  rw [hF]
  try simp
 ·have m2:(bringF h 3 = 2) = False:=eq_false h2
  rw [if_neg h2] at hF
  ((simp(maxSteps:=1000000)only[VL,VM,↓VG,reduceIte,reduceCtorEq,zA,zB,zC,zD,zE,zF,zG,zH,zI,zJ,m2]); rw [hKn];clear hKn Kn;simp only [QV,reduceIte,reduceCtorEq,zF])
  (repeat refine Ws ?_);refine Wf ?_
  (((repeat refine Ws ?_);refine W_skip ?_); simp only [QV,reduceIte,reduceCtorEq,zF])
  (repeat refine Ws ?_)
  refine W_drawE T_ok [] (by kernel_rfl) (by kernel_rfl) ?_
  intro Kn hKn
  generalize hi:mkPlan _ = infs
  cbv at hi
  subst hi
  ((simp(maxSteps:=1000000)only[VL,VM,↓VG,reduceIte,reduceCtorEq,zA,zB,zC,zD,zE,zF,zG,zH,zI,zJ,tx_size,n1,n2,n3,n4,n5,n6,decide_true,Bool.and_true,tx_extract,List.drop_zero,List.take_length,r1,r2]); rw [hKn];clear hKn Kn;simp only [QV,reduceIte,reduceCtorEq,zF])
  (repeat refine Ws ?_)
  refine W_ret ?_
  try simp only [thenQ,blockQ]
  refine own_ret10 rfl ?_ (by rfl)
  simp only [get_cons,frz,vtup,zF,if_true,if_false,reduceIte]
  rw [hF]
  try simp
end Go.Proofs.YtekhddlngbppkaaGreatDoor.Vm

/- The law of the tallies: the program writes and reads as the reference. (Vm) -/
namespace Go.Proofs.YtekhddlngbppkaaGreatDoor.Vm
open Go Go.Proofs
theorem writeT_len (y:Ho):(writeT y).length≤2000:=by
 unfold writeT
 split
 ·rename_i h; exact writeS_len (houseErr_ok.1 h)
 ·simp
attribute [local irreducible] castF castU fromF fromU oneF oneU
def txsK (s:By) (ys:List Ho) (i:Nat):List By:=s :: (ys.take i).map writeT
def txV (n:Nat) (s:By) (ys:List Ho):Nat→VV
 | 0 => .sf 1 (strsV [s])
 | i + 1 => .so n 1 (strsV (txsK s ys (i + 1)))
def txL (i:Nat):List VObj:=match i with
 | 0=>[]
 | i + 1=>[.clm (i + 2) 1]
structure JSk where
 i:Nat
 junk:List VObj
set_option maxHeartbeats 8000000 in
set_option maxRecDepth 100000 in
theorem tallies_law_v (awake_v:∀ M,VC Tryz.prog 6 [] M (fun r M'=>M' = M∧r = vb true)) (y:Ho) (s:By) (xs:List Int) (a h c:Int) (M:Mem) (hl:xs.length≤maxLen) (hs:s.length≤9223372036854775807):VC Tryz.prog 3 [houseV y,vs s,intsV xs,vi a,vi h,.p (.int .u8 c)] M (fun r M'=>M' = M∧r = vb true):=by
 refine VC_own' T_ok (f := 3) (fn:=Tryz.f3) (by kernel_rfl) rfl Tryz.ntmps3 (by rfl) (by rfl) ?_
 (repeat refine Ws ?_);refine We ?_;intro Kn hKn
 ((simp(maxSteps:=1000000)only[VL,VM,↓VG,reduceIte,reduceCtorEq,zA,zB,zC,zD,zE,zF,zG,zH,zI,zJ]); rw [hKn];clear hKn Kn;simp only [QV,reduceIte,reduceCtorEq,zF])
 by_cases hbig:vastB y = true∨(900 < s.length∧s.length≤2000)
 ·(repeat refine Ws ?_)
  refine W_then [(6,.ptr M.H.length 0),(40,vb true)] ⟨M.H++[.obj (houseC y)],M.lg⟩ ?_ ?_
  ·(repeat refine Ws ?_);refine Wr ?_
   simp(maxSteps:=1000000)only[VL,VM,↓VG,reduceIte,reduceCtorEq,zA,zB,zC,zD,zE,zF,zG,zH,zI,zJ]
   apply call_eq (f := 5) (fn:=Tryz.f5) (by kernel_rfl) (by rfl)
   ·exact vast_v y _
   cases hvast:vastB y with
   | true =>
    simp(maxSteps:=1000000)only[VL,VM,↓VG,reduceIte,reduceCtorEq,zA,zB,zC,zD,zE,zF,zG,zH,zI,zJ,tx_size]
    exact ⟨rfl,rfl,trivial⟩
   | false =>
    have h3:900 < s.length∧s.length≤2000:=by
     rcases hbig with h | h
     ·rw [hvast] at h; cases h
     ·exact h
    have k1:((900:Int) < (s.length:Int)) = True:=eq_true (by omega)
    have k2:((s.length:Int)≤(2000:Int)) = True:=eq_true (by omega)
    simp(maxSteps:=1000000)only[VL,VM,↓VG,reduceIte,reduceCtorEq,zA,zB,zC,zD,zE,zF,zG,zH,zI,zJ,tx_size,k1,k2]
    exact ⟨rfl,rfl,trivial⟩
  intro e' hS
  refine WCode.weak (e':=[(6,.ptr M.H.length 0),(40,vb true)]) ?_ (Sub.ok hS)
  (repeat refine Ws ?_);refine Wt ?_
  (repeat refine Ws ?_);refine Wr ?_
  simp(maxSteps:=1000000)only[VL,VM,↓VG,reduceIte,reduceCtorEq,zA,zB,zC,zD,zE,zF,zG,zH,zI,zJ]
  apply call_eq (f := 6) (fn:=Tryz.f6) (by kernel_rfl) (by rfl)
  ·exact awake_v _
  simp(maxSteps:=1000000)only[VL,VM,↓VG,reduceIte,reduceCtorEq,zA,zB,zC,zD,zE,zF,zG,zH,zI,zJ]
  (repeat refine Ws ?_)
  refine W_ret ?_
  try simp only [thenQ,blockQ]
  refine own_ret1 rfl ?_ (by rfl)
  simp only [get_cons,frz,vtup,zF,if_true,if_false,reduceIte]
 have hvast:vastB y = false:=by
  cases h:vastB y with
  | true=>exact absurd (.inl h) hbig
  | false=>rfl
 obtain ⟨b1,b2,b3⟩:=not_vast hvast
 have F0:FinH y:=⟨by omega,by omega,by omega⟩
 have b4:¬ (900 < s.length∧s.length≤2000):=fun h=>hbig (.inr h)
 (repeat refine Ws ?_)
 refine W_then [(1,vs s),(2,intsV xs),(3,vi a),(4,vi h),(5,.p (.int .u8 c)),(6,.ptr M.H.length 0),(40,vb false)] ⟨M.H++[.obj (houseC y)],M.lg⟩ ?_ ?_
 ·(repeat refine Ws ?_);refine Wr ?_
  simp(maxSteps:=1000000)only[VL,VM,↓VG,reduceIte,reduceCtorEq,zA,zB,zC,zD,zE,zF,zG,zH,zI,zJ]
  apply call_eq (f := 5) (fn:=Tryz.f5) (by kernel_rfl) (by rfl)
  ·exact vast_v y _
  rw [hvast]
  by_cases h3:900 < s.length
  ·have k1:((900:Int) < (s.length:Int)) = True:=eq_true (by omega)
   have k2:((s.length:Int)≤(2000:Int)) = False:=eq_false (by omega)
   simp(maxSteps:=1000000)only[VL,VM,↓VG,reduceIte,reduceCtorEq,zA,zB,zC,zD,zE,zF,zG,zH,zI,zJ,tx_size,k1,k2]
   exact ⟨rfl,rfl,rfl,rfl,rfl,rfl,rfl,trivial⟩
  ·have k1:((900:Int) < (s.length:Int)) = False:=eq_false (by omega)
   simp(maxSteps:=1000000)only[VL,VM,↓VG,reduceIte,reduceCtorEq,zA,zB,zC,zD,zE,zF,zG,zH,zI,zJ,tx_size,k1]
   exact ⟨rfl,rfl,rfl,rfl,rfl,rfl,rfl,trivial⟩
 intro e' hS
 refine WCode.weak (e':=[(1,vs s),(2,intsV xs),(3,vi a),(4,vi h),(5,.p (.int .u8 c)),(6,.ptr M.H.length 0),(40,vb false)]) ?_ (Sub.ok hS)
 (repeat refine Ws ?_);refine Wf ?_
 (repeat refine Ws ?_);refine W_skip ?_
 (repeat refine Ws ?_);refine We ?_;intro Kn hKn
 obtain ⟨M1,hM1⟩:∃ M1,M1 = M.H++[VObj.obj (houseC y)]:=⟨_,rfl⟩
 obtain ⟨H0,hH0⟩:∃ H0,H0 = M1++[VObj.dead]:=⟨_,rfl⟩
 obtain ⟨d,hdd⟩:∃ d,d = M1.length:=⟨_,rfl⟩
 have hd:d < H0.length:=by rw [hH0,hdd]; simp
 have hlen0:H0.length = M.H.length + 2:=by rw [hH0,hM1]; simp
 have hlen1:d = M.H.length + 1:=by rw [hdd,hM1]; simp
 have tail:∀ u L,DH H0 d u L = M.H++(VObj.obj (houseC y) :: .obj [uv u] :: L):=fun u L=>by
  rw [hH0,hdd]
  have:=DH_tl ⟨M1,M.lg⟩ u L
  rw [this,hM1]
  simp
 have hbx:∀ u L,(DH H0 d u L)[M.H.length]? = some (VObj.obj (houseC y)):=fun u L=>by
  rw [tail]; simp
 simp(maxSteps:=1000000)only[VL,VM,↓VG,reduceIte,reduceCtorEq,zA,zB,zC,zD,zE,zF,zG,zH,zI,zJ]
 apply call_eq (f := 8) (fn:=Tryz.f8) (by kernel_rfl) (by rfl)
 ·exact dieOf_v xs _ hl
 rw [← hM1,← hH0,← hdd]
 generalize dieU xs = u0
 simp(maxSteps:=1000000)only[VL,VM,↓VG,reduceIte,reduceCtorEq,zA,zB,zC,zD,zE,zF,zG,zH,zI,zJ]
 refine fn_call (f := 7) (fn:=Tryz.f7) (by kernel_rfl) (by rfl) ?_
 refine (houseOf_v hd u0 M.lg 3 4 5 60 (by omega) (by omega) (by omega) (by omega)).mono ?_
 rintro _ _ ⟨z,ts,u1,rfl,rfl,hG⟩
 have hm:=shFin hG.V.short
 rw [tail]
 ((simp(maxSteps:=1000000)only[VL,VM,↓VG,reduceIte,reduceCtorEq,zA,zB,zC,zD,zE,zF,zG,zH,zI,zJ]); rw [hKn];clear hKn Kn;simp only [QV,reduceIte,reduceCtorEq,zF])
 (repeat refine Ws ?_);refine We ?_;intro Kn hKn
 ((simp(maxSteps:=1000000)only[VL,VM,↓VG,reduceIte,reduceCtorEq,zA,zB,zC,zD,zE,zF,zG,zH,zI,zJ]); rw [hKn];clear hKn Kn;simp only [QV,reduceIte,reduceCtorEq,zF])
 (repeat refine Ws ?_);refine We ?_;intro Kn hKn
 ((simp(maxSteps:=1000000)only[VL,VM,↓VG,reduceIte,reduceCtorEq,zA,zB,zC,zD,zE,zF,zG,zH,zI,zJ]); rw [hKn];clear hKn Kn;simp only [QV,reduceIte,reduceCtorEq,zF])
 obtain ⟨ys,hys⟩:∃ ys,ys = [y,z]:=⟨_,rfl⟩
 have hys2:ys.length = 2:=by rw [hys]; rfl
 have hFs:∀ x∈ys,FinH x:=by
  rw [hys]
  intro x hx
  simp only [List.mem_cons,List.not_mem_nil,or_false] at hx
  rcases hx with rfl | rfl
  ·exact F0
  ·exact hm
 ((repeat refine Ws ?_);refine W_block ?_; (repeat refine Ws ?_)); refine W_loopS (fun q:Nat=>[(3,vi a),(4,vi h),(5,.p (.int .u8 c)),(15,.sf 6 (ys.map housePP)),(16,txV (M.H.length + 3) s ys q),(17,vi q)]) (fun q=>⟨M.H++(VObj.obj (houseC y) :: VObj.obj [uv u1] :: VObj.obj (houseC z) :: txL q),M.lg⟩) (fun q=>2 - q) (fun q=>q≤2) 0 (Nat.zero_le _) ⟨rfl,rfl,rfl,?_,rfl,rfl,trivial⟩ (by simp [txL]) ?_
 ·rw [hys]; simp [get_cons]
 intro i hi
 have k1 : -9223372036854775808≤(i:Int) + 1∧(i:Int) + 1 < 9223372036854775808:=by omega
 (repeat refine Ws ?_);refine We ?_;intro Kn hKn
 rcases Nat.lt_or_ge i 2 with hlt | hge
 rotate_left
 ·obtain rfl:i = 2:=by omega
  ((simp(maxSteps:=1000000)only[VL,VM,↓VG,reduceIte,reduceCtorEq,zA,zB,zC,zD,zE,zF,zG,zH,zI,zJ,List.length_map,hys2]); rw [hKn];clear hKn Kn;simp only [QV,reduceIte,reduceCtorEq,zF])
  (repeat refine Ws ?_);refine Wf ?_
  (((repeat refine Ws ?_);refine W_exit ?_); simp only [QV,reduceIte,reduceCtorEq,zF])
  obtain ⟨l,hl3⟩:∃ l,l = txsK s ys 2:=⟨_,rfl⟩
  have hl4:l.length = 3:=by rw [hl3]; simp [txsK,hys2]
  have hlb:∀ t∈l,t.length≤9223372036854775807:=by
   rw [hl3]
   intro t ht
   rcases List.mem_cons.1 ht with rfl | ht
   ·exact hs
   ·obtain ⟨w,_,rfl⟩:=List.mem_map.1 ht
    have:=writeT_len w
    omega
  obtain ⟨w,hw2,hwl⟩:∃ w,l[2]? = some w∧w.length≤2000:=by
   rw [hl3,hys]
   exact ⟨writeT z,rfl,writeT_len z⟩
  have hw3:=strs_at hw2
  have hsl:(strsV l).length = 3:=by rw [strs_len,hl4]
  (repeat refine Ws ?_);refine We ?_;intro Kn hKn
  simp(maxSteps:=1000000)only[VL,VM,↓VG,reduceIte,reduceCtorEq,zA,zB,zC,zD,zE,zF,zG,zH,zI,zJ,txV,txL,← hl3,hw3]
  apply call_eq (f := 11) (fn:=Tryz.f11) (by kernel_rfl) (by rfl)
  ·exact mar_v w a h c _ (by omega)
  ((simp(maxSteps:=1000000)only[VL,VM,↓VG,reduceIte,reduceCtorEq,zA,zB,zC,zD,zE,zF,zG,zH,zI,zJ,hsl]); rw [hKn];clear hKn Kn;simp only [QV,reduceIte,reduceCtorEq,zF])
  have hml:=marF_len w a h c
  generalize marF w a h c = m at hml ⊢
  obtain ⟨l2,hl2⟩:∃ l2,l2 = l++[m]:=⟨_,rfl⟩
  have hl24:l2.length = 4:=by rw [hl2]; simp [hl4]
  have hlb2:∀ t∈l2,t.length≤9223372036854775807:=by
   rw [hl2]
   intro t ht
   rcases List.mem_append.1 ht with ht | ht
   ·exact hlb t ht
   ·simp only [List.mem_singleton] at ht
    rw [ht]; omega
  have hsl2:(strsV l2).length = 4:=by rw [strs_len,hl24]
  (repeat refine Ws ?_);refine We ?_;intro Kn hKn
  ((simp(maxSteps:=1000000)only[VL,VM,↓VG,reduceIte,reduceCtorEq,zA,zB,zC,zD,zE,zF,zG,zH,zI,zJ]); rw [hKn];clear hKn Kn;simp only [QV,reduceIte,reduceCtorEq,zF])
  ((repeat refine Ws ?_);refine W_block ?_; (repeat refine Ws ?_)); refine W_loopS (fun q:JSk=>[(16,.so (M.H.length + 3) 1 (strsV l2)),(22,vi q.i)]) (fun q=>⟨M.H++(VObj.obj (houseC y) :: VObj.obj [uv u1] :: VObj.obj (houseC z) :: .clm 4 1 :: q.junk),M.lg⟩) (fun q=>4 - q.i) (fun q=>q.i≤4) ⟨0,[]⟩ (Nat.zero_le _) ⟨?_,rfl,trivial⟩ ?_ ?_
  ·rw [hl2]; simp [get_cons,strsV]
  ·simp
  rintro ⟨i,junk⟩ hi
  simp only at hi
  have k1 : -9223372036854775808≤(i:Int) + 1∧(i:Int) + 1 < 9223372036854775808:=by omega
  (repeat refine Ws ?_);refine We ?_;intro Kn hKn
  rcases Nat.lt_or_ge i 4 with hlt | hge
  rotate_left
  ·have k2:((i:Int) < ((4:Nat):Int)) = False:=eq_false (by omega)
   ((simp(maxSteps:=1000000)only[VL,VM,↓VG,reduceIte,reduceCtorEq,zA,zB,zC,zD,zE,zF,zG,zH,zI,zJ,hsl2,k2]); rw [hKn];clear hKn Kn;simp only [QV,reduceIte,reduceCtorEq,zF])
   (repeat refine Ws ?_);refine Wf ?_
   (((repeat refine Ws ?_);refine W_exit ?_); simp only [QV,reduceIte,reduceCtorEq,zF])
   (repeat refine Ws ?_);refine We ?_;intro Kn hKn
   simp(maxSteps:=1000000)only[VL,VM,↓VG,reduceIte,reduceCtorEq,zA,zB,zC,zD,zE,zF,zG,zH,zI,zJ]
   apply call_eq (f := 6) (fn:=Tryz.f6) (by kernel_rfl) (by rfl)
   ·exact awake_v _
   ((simp(maxSteps:=1000000)only[VL,VM,↓VG,reduceIte,reduceCtorEq,zA,zB,zC,zD,zE,zF,zG,zH,zI,zJ]); rw [hKn];clear hKn Kn;simp only [QV,reduceIte,reduceCtorEq,zF])
   (repeat refine Ws ?_)
   refine W_ret ?_
   try simp only [thenQ,blockQ]
   refine own_ret1 rfl ?_ (by rfl)
   simp only [get_cons,frz,vtup,zF,if_true,if_false,reduceIte]
  have k2:((i:Int) < ((4:Nat):Int)) = True:=eq_true (by omega)
  have hx:l2[i]? = some (l2[i]'(by omega)):=List.getElem?_eq_getElem (by omega)
  have hxl:=hlb2 _ (List.getElem_mem (l:=l2) (n:=i) (by omega))
  generalize l2[i]'(by omega) = x at hx hxl
  have hx':=strs_at hx
  ((simp(maxSteps:=1000000)only[VL,VM,↓VG,reduceIte,reduceCtorEq,zA,zB,zC,zD,zE,zF,zG,zH,zI,zJ,hsl2,k2]); rw [hKn];clear hKn Kn;simp only [QV,reduceIte,reduceCtorEq,zF])
  (repeat refine Ws ?_);refine Wt ?_
  (((repeat refine Ws ?_);refine W_skip ?_); simp only [QV,reduceIte,reduceCtorEq,zF])
  (repeat refine Ws ?_);refine W_block ?_
  (repeat refine Ws ?_);refine We ?_;intro Kn hKn
  simp(maxSteps:=1000000)only[VL,VM,↓VG,reduceIte,reduceCtorEq,zA,zB,zC,zD,zE,zF,zG,zH,zI,zJ,hx']
  apply call_eq (f := 12) (fn:=Tryz.f12) (by kernel_rfl) (by rfl)
  ·exact pread_v x _ hxl
  have r1:=rsRead_short x
  generalize ho:rsRead x = o at r1 ⊢
  obtain ⟨v,n1,n2⟩:=o
  simp only at r1
  ((simp(maxSteps:=1000000)only[VL,VM,↓VG,reduceIte,reduceCtorEq,zA,zB,zC,zD,zE,zF,zG,zH,zI,zJ]); rw [hKn];clear hKn Kn;simp only [QV,reduceIte,reduceCtorEq,zF])
  (repeat refine Ws ?_);refine We ?_;intro Kn hKn
  simp(maxSteps:=1000000)only[VL,VM,↓VG,reduceIte,reduceCtorEq,zA,zB,zC,zD,zE,zF,zG,zH,zI,zJ,hx']
  apply call_eq (f := 13) (fn:=Tryz.f13) (by kernel_rfl) (by rfl)
  ·exact rread_v x _ hxl
  rw [ho]
  ((simp(maxSteps:=1000000)only[VL,VM,↓VG,reduceIte,reduceCtorEq,zA,zB,zC,zD,zE,zF,zG,zH,zI,zJ]); rw [hKn];clear hKn Kn;simp only [QV,reduceIte,reduceCtorEq,zF])
  (repeat refine Ws ?_);refine We ?_;intro Kn hKn
  simp(maxSteps:=1000000)only[VL,VM,↓VG,reduceIte,reduceCtorEq,zA,zB,zC,zD,zE,zF,zG,zH,zI,zJ]
  apply call_eq (f := 14) (fn:=Tryz.f14) (by kernel_rfl) (by rfl)
  ·exact sameHouse_v v _ (shFin r1).h (shFin r1).d (shFin r1).c
  ((simp(maxSteps:=1000000)only[VL,VM,↓VG,reduceIte,reduceCtorEq,zA,zB,zC,zD,zE,zF,zG,zH,zI,zJ]); rw [hKn];clear hKn Kn;simp only [QV,reduceIte,reduceCtorEq,zF])
  (repeat refine Ws ?_);refine Wf ?_
  (((repeat refine Ws ?_);refine W_skip ?_); simp only [QV,reduceIte,reduceCtorEq,zF])
  (repeat refine Ws ?_);refine We ?_;intro Kn hKn
  ((simp(maxSteps:=1000000)only[VL,VM,↓VG,reduceIte,reduceCtorEq,zA,zB,zC,zD,zE,zF,zG,zH,zI,zJ,k1]); rw [hKn];clear hKn Kn;simp only [QV,reduceIte,reduceCtorEq,zF])
  refine LoopK.mk ⟨i + 1,junk++[VObj.obj (houseC v),VObj.obj (houseC v)]⟩ (by simp only; omega) (by simp only; omega) ⟨rfl,rfl,trivial⟩ ?_
  simp
 have k2:((i:Int) < ((2:Nat):Int)) = True:=eq_true (by omega)
 have hx:ys[i]? = some (ys[i]'(by omega)):=List.getElem?_eq_getElem (by omega)
 have F1:=hFs _ (List.getElem_mem (l:=ys) (n:=i) (by omega))
 generalize ys[i]'(by omega) = x at hx F1
 have hx':=map_at (f:=housePP) hx
 clear hFs
 ((simp(maxSteps:=1000000)only[VL,VM,↓VG,reduceIte,reduceCtorEq,zA,zB,zC,zD,zE,zF,zG,zH,zI,zJ,List.length_map,hys2,k2]); rw [hKn];clear hKn Kn;simp only [QV,reduceIte,reduceCtorEq,zF])
 (repeat refine Ws ?_);refine Wt ?_
 (((repeat refine Ws ?_);refine W_skip ?_); simp only [QV,reduceIte,reduceCtorEq,zF])
 (repeat refine Ws ?_);refine W_block ?_
 (repeat refine Ws ?_);refine We ?_;intro Kn hKn
 simp(maxSteps:=1000000)only[VL,VM,↓VG,reduceIte,reduceCtorEq,zA,zB,zC,zD,zE,zF,zG,zH,zI,zJ,hx']
 apply call_eq (f := 9) (fn:=Tryz.f9) (by kernel_rfl) (by rfl)
 ·exact pwrite_v x _ F1
 ((simp(maxSteps:=1000000)only[VL,VM,↓VG,reduceIte,reduceCtorEq,zA,zB,zC,zD,zE,zF,zG,zH,zI,zJ]); rw [hKn];clear hKn Kn;simp only [QV,reduceIte,reduceCtorEq,zF])
 (repeat refine Ws ?_);refine We ?_;intro Kn hKn
 simp(maxSteps:=1000000)only[VL,VM,↓VG,reduceIte,reduceCtorEq,zA,zB,zC,zD,zE,zF,zG,zH,zI,zJ,hx']
 apply call_eq (f := 10) (fn:=Tryz.f10) (by kernel_rfl) (by rfl)
 ·exact rwrite_v x _ F1
 ((simp(maxSteps:=1000000)only[VL,VM,↓VG,reduceIte,reduceCtorEq,zA,zB,zC,zD,zE,zF,zG,zH,zI,zJ]); rw [hKn];clear hKn Kn;simp only [QV,reduceIte,reduceCtorEq,zF])
 (repeat refine Ws ?_);refine We ?_;intro Kn hKn
 ((simp(maxSteps:=1000000)only[VL,VM,↓VG,reduceIte,reduceCtorEq,zA,zB,zC,zD,zE,zF,zG,zH,zI,zJ,v_neS]); rw [hKn];clear hKn Kn;simp only [QV,reduceIte,reduceCtorEq,zF])
 (repeat refine Ws ?_);refine Wf ?_
 (((repeat refine Ws ?_);refine W_skip ?_); simp only [QV,reduceIte,reduceCtorEq,zF])
 obtain rfl | rfl:i = 0∨i = 1:=by omega
 ·have e1:txsK s ys 1 = [s,writeT x]:=by
   obtain ⟨_,hx⟩:=List.getElem?_eq_some_iff.1 hx
   rw [txsK,List.take_succ_eq_append_getElem (by omega),hx]
   rfl
  (repeat refine Ws ?_);refine We ?_;intro Kn hKn
  ((simp(maxSteps:=1000000)only[VL,VM,↓VG,reduceIte,reduceCtorEq,zA,zB,zC,zD,zE,zF,zG,zH,zI,zJ,txV,txL,strsV]); rw [hKn];clear hKn Kn;simp only [QV,reduceIte,reduceCtorEq,zF])
  (repeat refine Ws ?_);refine We ?_;intro Kn hKn
  ((simp(maxSteps:=1000000)only[VL,VM,↓VG,reduceIte,reduceCtorEq,zA,zB,zC,zD,zE,zF,zG,zH,zI,zJ,k1]); rw [hKn];clear hKn Kn;simp only [QV,reduceIte,reduceCtorEq,zF])
  refine LoopK.mk 1 (by omega) (by omega) ⟨rfl,rfl,rfl,rfl,?_,rfl,trivial⟩ ?_
  ·rw [txV,e1]; simp [get_cons,strsV]
  ·simp [txL]
 ·have e2:txsK s ys 2 = txsK s ys 1++[writeT x]:=by
   obtain ⟨_,hx⟩:=List.getElem?_eq_some_iff.1 hx
   rw [txsK,List.take_succ_eq_append_getElem (by omega),hx]
   simp [txsK]
  have e3:(txsK s ys 1).length = 2:=by simp [txsK,hys2]
  have e4:(strsV (txsK s ys 1)).length = 2:=by rw [strs_len,e3]
  (repeat refine Ws ?_);refine We ?_;intro Kn hKn
  ((simp(maxSteps:=1000000)only[VL,VM,↓VG,reduceIte,reduceCtorEq,zA,zB,zC,zD,zE,zF,zG,zH,zI,zJ,txV,txL,e4]); rw [hKn];clear hKn Kn;simp only [QV,reduceIte,reduceCtorEq,zF])
  (repeat refine Ws ?_);refine We ?_;intro Kn hKn
  ((simp(maxSteps:=1000000)only[VL,VM,↓VG,reduceIte,reduceCtorEq,zA,zB,zC,zD,zE,zF,zG,zH,zI,zJ,k1]); rw [hKn];clear hKn Kn;simp only [QV,reduceIte,reduceCtorEq,zF])
  refine LoopK.mk 2 (by omega) (by omega) ⟨rfl,rfl,rfl,rfl,?_,rfl,trivial⟩ ?_
  ·rw [txV,e2]; simp [get_cons,strsV]
  ·simp [txL]
end Go.Proofs.YtekhddlngbppkaaGreatDoor.Vm
