/- A part of the proofs about the doors; no condition. -/
import Derived.Test.YtekhddlngbppkaaGreatDoorB16
import Derived.Test.YtekhddlngbppkaaGreatDoorB32
import Derived.Test.YtekhddlngbppkaaGreatDoorB39
set_option linter.unusedVariables false
set_option linter.unusedSimpArgs false
open Int renaming reduceLE → zA, reduceLT → zB, reduceToNat → zC, reduceNeg → zD
open Nat renaming reduceLT → zE, reduceEqDiff → zF, reduceAdd → zG, reduceSub → zH, reduceMul → zI, reduceLeDiff → zJ
/- The reference's number, on values. (Vm) -/
namespace Go.Proofs.YtekhddlngbppkaaGreatDoor.Vm
open Go Go.Proofs
theorem b_lss (t:Nat) (a b:Int):vbin T .lss t (.p (.int .u8 a)) (.p (.int .u8 b)) = some (vb (decide (a < b))):=by
 have h:Go.binOp .lss 0 (.int .u8 a) (.int .u8 b) = .pure (.bool (decide (a < b))):=rfl
 simp only [vbin,h,pureOf,Option.map_some,ofValue]
theorem b_gtr (t:Nat) (a b:Int):vbin T .gtr t (.p (.int .u8 a)) (.p (.int .u8 b)) = some (vb (decide (b < a))):=by
 have h:Go.binOp .gtr 0 (.int .u8 a) (.int .u8 b) = .pure (.bool (decide (a > b))):=rfl
 simp only [vbin,h,pureOf,Option.map_some,ofValue,gt_iff_lt]
theorem b_eql (t:Nat) (a b:Int):vbin T .eql t (.p (.int .u8 a)) (.p (.int .u8 b)) = some (vb (decide (a = b))):=by
 have h:Go.binOp .eql 0 (.int .u8 a) (.int .u8 b) = .pure (.bool (decide (a = b))):=rfl
 simp only [vbin,h,pureOf,Option.map_some,ofValue]
theorem b_sub (t:Nat) (a b:Int) (h1:b≤a) (h0:0≤b) (h2:a < 256):vbin T .sub t (.p (.int .u8 a)) (.p (.int .u8 b)) = some (.p (.int .u8 (a - b))):=by
 refine bin_pure t ?_
 show Sem.pure (Value.int .u8 (IntKind.u8.wrap (a - b))) = _
 rw [IntWalk.u8_in _ (by omega)]
theorem c_bi (a:Int) (h0:0≤a) (h:a < 256):vconvert T 5 3 (.p (.int .u8 a)) = some (vi a):=by
 simp only [vconvert,t_byte,t_int]
 have:Conv.intToInt .i64 a = .pure (.int .i64 (IntKind.i64.wrap a)):=rfl
 rw [this,IntWalk.i64_in _ (by omega)]
 rfl
theorem own_ret20t {T:Tab} {f:Nat} {fn:Func} {M:Mem} {e:Env} {t t':Nat} {X Y:VV} (h1:fn.results.toList = [.tmp t,.tmp t']) (hr:frz M.H.length M.H (get e t) = X) (hr':frz M.H.length M.H (get e t') = Y) (h2:refs X = []) (h2':refs Y = []):ownQ T f fn M (fun r M'=>M' = M∧r = .tup [X,Y]) .ret e M []:=by
 have h:=own_ret2t (T:=T) (f:=f) (fn:=fn) (M:=M) (L:=[]) (e:=e) (X:=X) (Y:=Y) h1 (by simpa using hr) (by simpa using hr') h2 h2'
 simpa using h
def numT (s:By):Int×Bool:=match numZ 6 s with
 | some n=>(n,true)
 | none=>(0,false)
def sgS (s:By):Int:=if s.head? = some 45 then -1 else 1
theorem numZ_sg (s:By):numZ 6 s = if (unS s).length < 1∨6 < (unS s).length∨((unS s).head? = some 48∧(1 < (unS s).length∨sgS s < 0)) then none else (Lib.decFrom 0 (unS s)).map fun (n:Nat)=>sgS s * (n:Int):=by
 unfold numZ unS sgS
 by_cases h:s.head? = some 45
 ·simp only [if_pos h]
  by_cases h2:(s.drop 1).length < 1∨6 < (s.drop 1).length∨(s.drop 1).head? = some 48
  ·rw [if_pos h2,if_pos]
   rcases h2 with h2 | h2 | h2
   ·exact .inl h2
   ·exact .inr (.inl h2)
   ·exact .inr (.inr ⟨h2,.inr (by decide)⟩)
  ·rw [if_neg h2,if_neg]
   ·congr 1
    funext n
    omega
   ·rintro (h3 | h3 | h3)
    ·exact h2 (.inl h3)
    ·exact h2 (.inr (.inl h3))
    ·exact h2 (.inr (.inr h3.1))
 ·simp only [if_neg h]
  unfold numR
  by_cases h2:s.length < 1∨6 < s.length∨(s.head? = some 48∧1 < s.length)
  ·rw [if_pos h2,if_pos]
   rcases h2 with h2 | h2 | h2
   ·exact .inl h2
   ·exact .inr (.inl h2)
   ·exact .inr (.inr ⟨h2.1,.inl h2.2⟩)
  ·rw [if_neg h2,if_neg]
   ·congr 1
    funext n
    omega
   ·rintro (h3 | h3 | ⟨h3,h4 | h4⟩)
    ·exact h2 (.inl h3)
    ·exact h2 (.inr (.inl h3))
    ·exact h2 (.inr (.inr ⟨h3,h4⟩))
    ·omega
theorem dec_step {s:By} {i n:Nat} (hi:i < s.length) (h:Lib.decFrom 0 (s.take i) = some n):Lib.decFrom 0 (s.take (i + 1)) = match Lib.digitVal s[i] with
  | some d=>some (n * 10 + d)
  | none=>none:=by
 rw [List.take_succ_eq_append_getElem hi,dec_app,h]
 simp only [Option.bind_some,Lib.decFrom]
 cases Lib.digitVal s[i] <;> rfl
theorem dec_none {s:By} {i:Nat} (h:Lib.decFrom 0 (s.take i) = none):Lib.decFrom 0 s = none:=by
 conv=>lhs; rw [← List.take_append_drop i s]
 rw [dec_app,h]
 rfl
set_option maxRecDepth 8000 in
set_option maxHeartbeats 2000000 in
theorem rnumber_v (s0:By) (M:Mem) (hs0:s0.length≤1000000):VC Tryz.prog 72 [vs s0] M (fun r M'=>M' = M∧r = .tup [vi (numT s0).1,vb (numT s0).2]):=by
 refine VC_own' T_ok (f := 72) (fn:=Tryz.f72) (by kernel_rfl) rfl Tryz.ntmps72 (by rfl) (by rfl) ?_
 (repeat refine Ws ?_);refine We ?_;intro Kn hKn
 ((simp(maxSteps:=1000000)only[VL,VM,↓VG,reduceIte,reduceCtorEq,zA,zB,zC,zD,zE,zF,zG,zH,zI,zJ]); rw [hKn];clear hKn Kn;simp only [QV,reduceIte,reduceCtorEq,zF])
 (repeat refine Ws ?_);refine We ?_;intro Kn hKn
 ((simp(maxSteps:=1000000)only[VL,VM,↓VG,reduceIte,reduceCtorEq,zA,zB,zC,zD,zE,zF,zG,zH,zI,zJ]); rw [hKn];clear hKn Kn;simp only [QV,reduceIte,reduceCtorEq,zF])
 obtain ⟨s,hs⟩:∃ s,s = unS s0:=⟨_,rfl⟩
 obtain ⟨sg,hsg⟩:∃ g,g = sgS s0:=⟨_,rfl⟩
 have hsl:s.length≤1000000:=by have:=unS_len s0; rw [hs]; omega
 have hsg1:sg = 1∨sg = -1:=by rw [hsg]; unfold sgS; split <;> simp
 refine W_seq ?_
 refine W_then [(0,vs s),(4,vi sg)] M ?_ (fun e' hS=>WCode.weak (e':=[(0,vs s),(4,vi sg)]) ?_ (Sub.ok hS))
 ·have no:¬ s0.head? = some 45→s = s0∧sg = 1:=fun h=>⟨by rw [hs]; exact if_neg h,by rw [hsg]; exact if_neg h⟩
  (repeat refine Ws ?_);refine We ?_;intro Kn hKn
  rcases Nat.eq_zero_or_pos s0.length with h0 | h0
  ·have k1:((0:Int) < (s0.length:Int)) = False:=eq_false (by omega)
   obtain ⟨e1,e2⟩:=no (by rw [List.eq_nil_of_length_eq_zero h0]; simp)
   ((simp(maxSteps:=1000000)only[VL,VM,↓VG,reduceIte,reduceCtorEq,zA,zB,zC,zD,zE,zF,zG,zH,zI,zJ,tx_size,k1]); rw [hKn];clear hKn Kn;simp only [QV,reduceIte,reduceCtorEq,zF])
   (repeat refine Ws ?_);refine Wf ?_
   (repeat refine Ws ?_);refine W_skip ?_
   rw [e1,e2]
   exact ⟨rfl,rfl,rfl,rfl,rfl,trivial⟩
  have k1:((0:Int) < (s0.length:Int)) = True:=eq_true (by omega)
  have hx0:(tx s0)[0]? = some s0[0]:=by rw [tx_get,List.getElem?_eq_getElem h0]
  have hh:s0.head? = some s0[0]:=by rw [List.head?_eq_getElem?,List.getElem?_eq_getElem h0]
  by_cases h45:s0[0] = 45
  ·have k2:((s0[0].toNat:Int) = 45) = True:=eq_true (by rw [h45]; rfl)
   have k5:(1≤s0.length) = True:=eq_true h0
   have k6:(s0.length≤s0.length) = True:=eq_true (Nat.le_refl _)
   have hs':s = s0.drop 1:=by rw [hs]; exact if_pos (by rw [hh,h45])
   have hg':sg = -1:=by rw [hsg]; exact if_pos (by rw [hh,h45])
   ((simp(maxSteps:=1000000)only[VL,VM,↓VG,reduceIte,reduceCtorEq,zA,zB,zC,zD,zE,zF,zG,zH,zI,zJ,tx_size,k1,hx0,b_eql,k2]); rw [hKn];clear hKn Kn;simp only [QV,reduceIte,reduceCtorEq,zF])
   (repeat refine Ws ?_);refine Wt ?_
   (repeat refine Ws ?_)
   refine W_drawE T_ok [] (by kernel_rfl) (by kernel_rfl) ?_
   intro Kn hKn
   generalize hi:mkPlan _ = infs
   cbv at hi
   subst hi
   simp(maxSteps:=1000000)only[VL,VM,↓VG,reduceIte,reduceCtorEq,zA,zB,zC,zD,zE,zF,zG,zH,zI,zJ,tx_size,k5,k6,tx_extract,List.take_length]
   rw [hKn,hs',hg']
   exact ⟨rfl,rfl,rfl,rfl,rfl,trivial⟩
  ·have k2:((s0[0].toNat:Int) = 45) = False:=eq_false (fun e=>h45 (by
    apply UInt8.toNat_inj.1
    have:s0[0].toNat = 45:=by omega
    rw [this]; rfl))
   obtain ⟨e1,e2⟩:=no (by rw [hh]; simpa using h45)
   ((simp(maxSteps:=1000000)only[VL,VM,↓VG,reduceIte,reduceCtorEq,zA,zB,zC,zD,zE,zF,zG,zH,zI,zJ,tx_size,k1,hx0,b_eql,k2]); rw [hKn];clear hKn Kn;simp only [QV,reduceIte,reduceCtorEq,zF])
   (repeat refine Ws ?_);refine Wf ?_
   (repeat refine Ws ?_);refine W_skip ?_
   rw [e1,e2]
   exact ⟨rfl,rfl,rfl,rfl,rfl,trivial⟩
 have hz0:=numZ_sg s0
 rw [← hs,← hsg] at hz0
 clear hS hs hsg
 have fall:(s.length < 1∨6 < s.length∨(s.head? = some 48∧(1 < s.length∨sg < 0)))→numT s0 = (0,false):=fun h=>by
  unfold numT
  rw [hz0,if_pos h]
 (repeat refine Ws ?_);refine We ?_;intro Kn hKn
 rcases Nat.eq_zero_or_pos s.length with h0 | h0
 ·have k1:((s.length:Int) < 1) = True:=eq_true (by omega)
  ((simp(maxSteps:=1000000)only[VL,VM,↓VG,reduceIte,reduceCtorEq,zA,zB,zC,zD,zE,zF,zG,zH,zI,zJ,tx_size,k1]); rw [hKn];clear hKn Kn;simp only [QV,reduceIte,reduceCtorEq,zF])
  (repeat refine Ws ?_);refine Wt ?_
  (repeat refine Ws ?_);refine We ?_;intro Kn hKn
  ((simp(maxSteps:=1000000)only[VL,VM,↓VG,reduceIte,reduceCtorEq,zA,zB,zC,zD,zE,zF,zG,zH,zI,zJ]); rw [hKn];clear hKn Kn;simp only [QV,reduceIte,reduceCtorEq,zF])
  (repeat refine Ws ?_)
  refine W_ret ?_
  try simp only [thenQ,blockQ]
  refine own_ret20t rfl ?_ ?_ (by rfl) (by rfl)
  ·simp only [get_cons,frz,vtup,zF,if_true,if_false,reduceIte]
   rw [fall (.inl (by omega))]
  ·simp only [get_cons,frz,vtup,zF,if_true,if_false,reduceIte]
   rw [fall (.inl (by omega))]
 have k1:((s.length:Int) < 1) = False:=eq_false (by omega)
 rcases Nat.lt_or_ge 6 s.length with h7 | h7
 ·have k2:((6:Int) < (s.length:Int)) = True:=eq_true (by omega)
  ((simp(maxSteps:=1000000)only[VL,VM,↓VG,reduceIte,reduceCtorEq,zA,zB,zC,zD,zE,zF,zG,zH,zI,zJ,tx_size,k1,k2]); rw [hKn];clear hKn Kn;simp only [QV,reduceIte,reduceCtorEq,zF])
  (repeat refine Ws ?_);refine Wt ?_
  (repeat refine Ws ?_);refine We ?_;intro Kn hKn
  ((simp(maxSteps:=1000000)only[VL,VM,↓VG,reduceIte,reduceCtorEq,zA,zB,zC,zD,zE,zF,zG,zH,zI,zJ]); rw [hKn];clear hKn Kn;simp only [QV,reduceIte,reduceCtorEq,zF])
  (repeat refine Ws ?_)
  refine W_ret ?_
  try simp only [thenQ,blockQ]
  refine own_ret20t rfl ?_ ?_ (by rfl) (by rfl)
  ·simp only [get_cons,frz,vtup,zF,if_true,if_false,reduceIte]
   rw [fall (.inr (.inl h7))]
  ·simp only [get_cons,frz,vtup,zF,if_true,if_false,reduceIte]
   rw [fall (.inr (.inl h7))]
 have k2:((6:Int) < (s.length:Int)) = False:=eq_false (by omega)
 have hx0:(tx s)[0]? = some s[0]:=by rw [tx_get,List.getElem?_eq_getElem h0]
 have hh:s.head? = some s[0]:=by rw [List.head?_eq_getElem?,List.getElem?_eq_getElem h0]
 have hK:¬ (s[0] = 48∧(1 < s.length∨sg < 0))→∀ e',get e' 0 = vs s→get e' 4 = vi sg→get e' 38 = vb false→Kn e' M:=by
  intro hno e' he h4 h38
  have hnum:numZ 6 s0 = (Lib.decFrom 0 s).map fun (n:Nat)=>sg * (n:Int):=by
   rw [hz0,if_neg]
   rintro (h | h | ⟨h,h'⟩)
   ·omega
   ·omega
   ·rw [hh] at h
    exact hno ⟨Option.some.inj h,h'⟩
  rw [hKn]
  simp only [QV,reduceIte,reduceCtorEq,zF]
  clear hKn Kn
  (repeat refine Ws ?_)
  refine W_cond (b:=false) (by simp only [ev]; exact h38) (fun h=>by cases h) (fun _ => ?_)
  (((repeat refine Ws ?_);refine W_skip ?_); simp only [QV,reduceIte,reduceCtorEq,zF])
  (repeat refine Ws ?_);refine We ?_;intro Kn hKn
  ((simp(maxSteps:=1000000)only[VL,VM,↓VG,reduceIte,reduceCtorEq,zA,zB,zC,zD,zE,zF,zG,zH,zI,zJ]); rw [hKn];clear hKn Kn;simp only [QV,reduceIte,reduceCtorEq,zF])
  (repeat refine Ws ?_);refine We ?_;intro Kn hKn
  ((simp(maxSteps:=1000000)only[VL,VM,↓VG,reduceIte,reduceCtorEq,zA,zB,zC,zD,zE,zF,zG,zH,zI,zJ]); rw [hKn];clear hKn Kn;simp only [QV,reduceIte,reduceCtorEq,zF])
  ((repeat refine Ws ?_);refine W_block ?_; (repeat refine Ws ?_)); refine W_loopS (fun z:Nat×Nat=>[(0,vs s),(4,vi sg),(5,vi z.2),(6,vi z.1)]) (fun _=>M) (fun z=>s.length - z.1) (fun z=>z.1≤s.length∧Lib.decFrom 0 (s.take z.1) = some z.2∧z.2 < 10 ^ z.1) (0,0) ⟨Nat.zero_le _,rfl,by simp⟩ ⟨by simp [get_cons,he],by simp [get_cons,h4],rfl,rfl,trivial⟩ (by simp) ?_
  rintro ⟨i,n⟩ ⟨hi,hdec,hn⟩
  simp only at hi hdec hn
  have k3 : -9223372036854775808≤(i:Int) + 1∧(i:Int) + 1 < 9223372036854775808:=by omega
  (repeat refine Ws ?_);refine We ?_;intro Kn hKn
  rcases Nat.lt_or_ge i s.length with hlt | hge
  rotate_left
  ·have k4:((i:Int) < (s.length:Int)) = False:=eq_false (by omega)
   obtain rfl:i = s.length:=by omega
   rw [List.take_length] at hdec
   have hT:numT s0 = (sg * (n:Int),true):=by
    unfold numT
    rw [hnum,hdec]
    rfl
   ((simp(maxSteps:=1000000)only[VL,VM,↓VG,reduceIte,reduceCtorEq,zA,zB,zC,zD,zE,zF,zG,zH,zI,zJ,tx_size,k4]); rw [hKn];clear hKn Kn;simp only [QV,reduceIte,reduceCtorEq,zF])
   (repeat refine Ws ?_);refine Wf ?_
   (((repeat refine Ws ?_);refine W_exit ?_); simp only [QV,reduceIte,reduceCtorEq,zF])
   have hp:10 ^ s.length≤10 ^ 6:=Nat.pow_le_pow_right (by omega) (by omega)
   have q5 : -9223372036854775808≤sg * (n:Int)∧sg * (n:Int) < 9223372036854775808:=by
    rcases hsg1 with e | e <;> rw [e] <;> omega
   (repeat refine Ws ?_);refine We ?_;intro Kn hKn
   ((simp(maxSteps:=1000000)only[VL,VM,↓VG,reduceIte,reduceCtorEq,zA,zB,zC,zD,zE,zF,zG,zH,zI,zJ,q5]); rw [hKn];clear hKn Kn;simp only [QV,reduceIte,reduceCtorEq,zF])
   (repeat refine Ws ?_)
   refine W_ret ?_
   try simp only [thenQ,blockQ]
   refine own_ret20t rfl ?_ ?_ (by rfl) (by rfl)
   ·simp only [get_cons,frz,vtup,zF,if_true,if_false,reduceIte]
    rw [hT]
   ·simp only [get_cons,frz,vtup,zF,if_true,if_false,reduceIte]
    rw [hT]
  have k4:((i:Int) < (s.length:Int)) = True:=eq_true (by omega)
  have hx:(tx s)[i]? = some s[i]:=by rw [tx_get,List.getElem?_eq_getElem hlt]
  have hst:=dec_step hlt hdec
  have hb:=s[i].toNat_lt
  ((simp(maxSteps:=1000000)only[VL,VM,↓VG,reduceIte,reduceCtorEq,zA,zB,zC,zD,zE,zF,zG,zH,zI,zJ,tx_size,k4]); rw [hKn];clear hKn Kn;simp only [QV,reduceIte,reduceCtorEq,zF])
  (repeat refine Ws ?_);refine Wt ?_
  (((repeat refine Ws ?_);refine W_skip ?_); simp only [QV,reduceIte,reduceCtorEq,zF])
  (repeat refine Ws ?_);refine W_block ?_
  (repeat refine Ws ?_);refine We ?_;intro Kn hKn
  by_cases hd:48≤s[i].toNat∧s[i].toNat≤57
  ·have k5:((s[i].toNat:Int) < 48) = False:=eq_false (by omega)
   have k6:((57:Int) < (s[i].toNat:Int)) = False:=eq_false (by omega)
   have hdv:Lib.digitVal s[i] = some (s[i].toNat - 48):=by unfold Lib.digitVal; rw [if_pos hd]
   rw [hdv] at hst
   have hp:10 ^ i≤10 ^ 6:=Nat.pow_le_pow_right (by omega) (by omega)
   have q1:=b_sub 5 (s[i].toNat:Int) 48 (by omega) (by omega) (by omega)
   have q2:=c_bi ((s[i].toNat:Int) - 48) (by omega) (by omega)
   have q3 : -9223372036854775808≤(10:Int) * n∧(10:Int) * n < 9223372036854775808:=by omega
   have q4 : -9223372036854775808≤(10:Int) * n + ((s[i].toNat:Int) - 48)∧(10:Int) * n + ((s[i].toNat:Int) - 48) < 9223372036854775808:=by omega
   ((simp(maxSteps:=1000000)only[VL,VM,↓VG,reduceIte,reduceCtorEq,zA,zB,zC,zD,zE,zF,zG,zH,zI,zJ,hx,b_lss,b_gtr,k5,k6]); rw [hKn];clear hKn Kn;simp only [QV,reduceIte,reduceCtorEq,zF])
   (repeat refine Ws ?_);refine Wf ?_
   (((repeat refine Ws ?_);refine W_skip ?_); simp only [QV,reduceIte,reduceCtorEq,zF])
   (repeat refine Ws ?_);refine We ?_;intro Kn hKn
   ((simp(maxSteps:=1000000)only[VL,VM,↓VG,reduceIte,reduceCtorEq,zA,zB,zC,zD,zE,zF,zG,zH,zI,zJ,hx,q1,q2,q3,q4]); rw [hKn];clear hKn Kn;simp only [QV,reduceIte,reduceCtorEq,zF])
   (repeat refine Ws ?_);refine We ?_;intro Kn hKn
   ((simp(maxSteps:=1000000)only[VL,VM,↓VG,reduceIte,reduceCtorEq,zA,zB,zC,zD,zE,zF,zG,zH,zI,zJ,k3]); rw [hKn];clear hKn Kn;simp only [QV,reduceIte,reduceCtorEq,zF])
   refine LoopK.mk (i + 1,n * 10 + (s[i].toNat - 48)) (by simp only; omega) ⟨by simp only; omega,hst,by simp only [Nat.pow_succ]; omega⟩ ⟨?_,?_,?_,rfl,trivial⟩ rfl
   ·simp [get_cons,he]
   ·simp [get_cons]
   ·simp only [get_cons,Nat.reduceEqDiff,if_true,if_false,reduceIte]
    congr 2
    omega
  ·have hdv:Lib.digitVal s[i] = none:=by unfold Lib.digitVal; rw [if_neg hd]
   rw [hdv] at hst
   have hT:numT s0 = (0,false):=by
    unfold numT
    rw [hnum,dec_none hst]
    rfl
   by_cases h48:s[i].toNat < 48
   ·have k5:((s[i].toNat:Int) < 48) = True:=eq_true (by omega)
    ((simp(maxSteps:=1000000)only[VL,VM,↓VG,reduceIte,reduceCtorEq,zA,zB,zC,zD,zE,zF,zG,zH,zI,zJ,hx,b_lss,b_gtr,k5]); rw [hKn];clear hKn Kn;simp only [QV,reduceIte,reduceCtorEq,zF])
    (repeat refine Ws ?_);refine Wt ?_
    (repeat refine Ws ?_);refine We ?_;intro Kn hKn
    ((simp(maxSteps:=1000000)only[VL,VM,↓VG,reduceIte,reduceCtorEq,zA,zB,zC,zD,zE,zF,zG,zH,zI,zJ]); rw [hKn];clear hKn Kn;simp only [QV,reduceIte,reduceCtorEq,zF])
    (repeat refine Ws ?_)
    refine W_ret ?_
    try simp only [thenQ,blockQ]
    refine own_ret20t rfl ?_ ?_ (by rfl) (by rfl)
    ·simp only [get_cons,frz,vtup,zF,if_true,if_false,reduceIte]
     rw [hT]
    ·simp only [get_cons,frz,vtup,zF,if_true,if_false,reduceIte]
     rw [hT]
   ·have k5:((s[i].toNat:Int) < 48) = False:=eq_false (by omega)
    have k6:((57:Int) < (s[i].toNat:Int)) = True:=eq_true (by omega)
    ((simp(maxSteps:=1000000)only[VL,VM,↓VG,reduceIte,reduceCtorEq,zA,zB,zC,zD,zE,zF,zG,zH,zI,zJ,hx,b_lss,b_gtr,k5,k6]); rw [hKn];clear hKn Kn;simp only [QV,reduceIte,reduceCtorEq,zF])
    (repeat refine Ws ?_);refine Wt ?_
    (repeat refine Ws ?_);refine We ?_;intro Kn hKn
    ((simp(maxSteps:=1000000)only[VL,VM,↓VG,reduceIte,reduceCtorEq,zA,zB,zC,zD,zE,zF,zG,zH,zI,zJ]); rw [hKn];clear hKn Kn;simp only [QV,reduceIte,reduceCtorEq,zF])
    (repeat refine Ws ?_)
    refine W_ret ?_
    try simp only [thenQ,blockQ]
    refine own_ret20t rfl ?_ ?_ (by rfl) (by rfl)
    ·simp only [get_cons,frz,vtup,zF,if_true,if_false,reduceIte]
     rw [hT]
    ·simp only [get_cons,frz,vtup,zF,if_true,if_false,reduceIte]
     rw [hT]
 by_cases hz:s[0] = 48
 ·have k3:((s[0].toNat:Int) = 48) = True:=eq_true (by rw [hz]; rfl)
  by_cases h1:1 < s.length
  ·have k4:((1:Int) < (s.length:Int)) = True:=eq_true (by omega)
   clear hK
   ((simp(maxSteps:=1000000)only[VL,VM,↓VG,reduceIte,reduceCtorEq,zA,zB,zC,zD,zE,zF,zG,zH,zI,zJ,tx_size,k1,k2,hx0,b_eql,k3,k4]); rw [hKn];clear hKn Kn;simp only [QV,reduceIte,reduceCtorEq,zF])
   (repeat refine Ws ?_);refine Wt ?_
   (repeat refine Ws ?_);refine We ?_;intro Kn hKn
   ((simp(maxSteps:=1000000)only[VL,VM,↓VG,reduceIte,reduceCtorEq,zA,zB,zC,zD,zE,zF,zG,zH,zI,zJ]); rw [hKn];clear hKn Kn;simp only [QV,reduceIte,reduceCtorEq,zF])
   (repeat refine Ws ?_)
   refine W_ret ?_
   try simp only [thenQ,blockQ]
   refine own_ret20t rfl ?_ ?_ (by rfl) (by rfl)
   ·simp only [get_cons,frz,vtup,zF,if_true,if_false,reduceIte]
    rw [fall (.inr (.inr ⟨by rw [hh,hz],.inl h1⟩))]
   ·simp only [get_cons,frz,vtup,zF,if_true,if_false,reduceIte]
    rw [fall (.inr (.inr ⟨by rw [hh,hz],.inl h1⟩))]
  ·have k4:((1:Int) < (s.length:Int)) = False:=eq_false (by omega)
   by_cases hg:sg < 0
   ·have k5:(sg < 0) = True:=eq_true hg
    clear hK
    ((simp(maxSteps:=1000000)only[VL,VM,↓VG,reduceIte,reduceCtorEq,zA,zB,zC,zD,zE,zF,zG,zH,zI,zJ,tx_size,k1,k2,hx0,b_eql,k3,k4,k5]); rw [hKn];clear hKn Kn;simp only [QV,reduceIte,reduceCtorEq,zF])
    (repeat refine Ws ?_);refine Wt ?_
    (repeat refine Ws ?_);refine We ?_;intro Kn hKn
    ((simp(maxSteps:=1000000)only[VL,VM,↓VG,reduceIte,reduceCtorEq,zA,zB,zC,zD,zE,zF,zG,zH,zI,zJ]); rw [hKn];clear hKn Kn;simp only [QV,reduceIte,reduceCtorEq,zF])
    (repeat refine Ws ?_)
    refine W_ret ?_
    try simp only [thenQ,blockQ]
    refine own_ret20t rfl ?_ ?_ (by rfl) (by rfl)
    ·simp only [get_cons,frz,vtup,zF,if_true,if_false,reduceIte]
     rw [fall (.inr (.inr ⟨by rw [hh,hz],.inr hg⟩))]
    ·simp only [get_cons,frz,vtup,zF,if_true,if_false,reduceIte]
     rw [fall (.inr (.inr ⟨by rw [hh,hz],.inr hg⟩))]
   ·have k5:(sg < 0) = False:=eq_false hg
    simp(maxSteps:=1000000)only[VL,VM,↓VG,reduceIte,reduceCtorEq,zA,zB,zC,zD,zE,zF,zG,zH,zI,zJ,tx_size,k1,k2,hx0,b_eql,k3,k4,k5]
    exact hK (fun h=>by rcases h.2 with h | h; exact h1 h; exact hg h) _ rfl rfl rfl
 ·have k3:((s[0].toNat:Int) = 48) = False:=eq_false (fun e=>hz (by
   apply UInt8.toNat_inj.1
   have:s[0].toNat = 48:=by omega
   rw [this]; rfl))
  simp(maxSteps:=1000000)only[VL,VM,↓VG,reduceIte,reduceCtorEq,zA,zB,zC,zD,zE,zF,zG,zH,zI,zJ,tx_size,k1,k2,hx0,b_eql,k3]
  exact hK (fun h=>hz h.1) _ rfl rfl rfl
end Go.Proofs.YtekhddlngbppkaaGreatDoor.Vm

/- The reference's numbers behind a word, on values. (Vm) -/
namespace Go.Proofs.YtekhddlngbppkaaGreatDoor.Vm
open Go Go.Proofs
def numsN (s w:By) (k:Nat):Option (List Int):=if (cutL 32 s).headD [] = w∧(cutL 32 s).length = k + 1 then numsZ 6 ((cutL 32 s).drop 1) else none
def nuL (s w:By) (k:Nat):VV:=match numsN s w k with
 | some l=>intsV l
 | none => .p (.sl 0 [])
def nuB (s w:By) (k:Nat):Bool:=(numsN s w k).isSome
theorem numsN_none {s w:By} {k:Nat} (h:numsN s w k = none):nuL s w k = .p (.sl 0 [])∧nuB s w k = false:=by
 unfold nuL nuB
 rw [h]
 exact ⟨rfl,rfl⟩
theorem numsN_some {s w:By} {k:Nat} {l:List Int} (h:numsN s w k = some l):nuL s w k = intsV l∧nuB s w k = true:=by
 unfold nuL nuB
 rw [h]
 exact ⟨rfl,rfl⟩
theorem nuL_refs (s w:By) (k:Nat):refs (nuL s w k) = []:=by unfold nuL; split <;> rfl
theorem numsZ_step {m:Nat} {ws:List By} {i:Nat} {l:List Int} (h1:1≤i) (hi:i < ws.length) (h:numsZ m ((ws.take i).drop 1) = some l):numsZ m ((ws.take (i + 1)).drop 1) = match numZ m ws[i] with
  | some n=>some (l++[n])
  | none=>none:=by
 rw [List.take_succ_eq_append_getElem hi,List.drop_append_of_le_length (by rw [List.length_take]; omega),numsZ_app,h]
 simp only [numsZ]
 cases numZ m ws[i] <;> rfl
theorem numsZ_none {m:Nat} {ws:List By} {i:Nat} (h1:1≤i) (hi:i≤ws.length) (h:numsZ m ((ws.take i).drop 1) = none):numsZ m (ws.drop 1) = none:=by
 have e:ws.drop 1 = (ws.take i).drop 1++ws.drop i:=by
  conv=>lhs; rw [← List.take_append_drop i ws]
  rw [List.drop_append_of_le_length (by rw [List.length_take]; omega)]
 rw [e,numsZ_app,h]
structure ParS where
 i:Nat
 l:List Int
set_option maxHeartbeats 2000000 in
theorem rnumbers_v (s w:By) (k:Nat) (M:Mem) (hs:s.length≤100000) (hk:k≤100):VC Tryz.prog 43 [vs s,vs w,vi k] M (fun r M'=>M' = M∧r = .tup [nuL s w k,vb (nuB s w k)]):=by
 refine VC_own' T_ok (f := 43) (fn:=Tryz.f43) (by kernel_rfl) rfl Tryz.ntmps43 (by rfl) (by rfl) ?_
 (repeat refine Ws ?_);refine We ?_;intro Kn hKn
 ((simp(maxSteps:=1000000)only[VL,VM,↓VG,reduceIte,reduceCtorEq,zA,zB,zC,zD,zE,zF,zG,zH,zI,zJ]); rw [hKn];clear hKn Kn;simp only [QV,reduceIte,reduceCtorEq,zF])
 have hlen:=cutL_len 32 s
 have hpos:=cutL_pos 32 s
 have hpart:=cutL_part 32 s
 (repeat refine Ws ?_);refine We ?_;intro Kn hKn
 simp(maxSteps:=1000000)only[VL,VM,↓VG,reduceIte,reduceCtorEq,zA,zB,zC,zD,zE,zF,zG,zH,zI,zJ]
 apply call_eq (f := 42) (fn:=Tryz.f42) (by kernel_rfl) (by rfl)
 ·exact rsplit_v 32 s _ (by omega)
 ((simp(maxSteps:=1000000)only[VL,VM,↓VG,reduceIte,reduceCtorEq,zA,zB,zC,zD,zE,zF,zG,zH,zI,zJ]); rw [hKn];clear hKn Kn;simp only [QV,reduceIte,reduceCtorEq,zF])
 have hN:numsN s w k = if (cutL 32 s).headD [] = w∧(cutL 32 s).length = k + 1 then numsZ 6 ((cutL 32 s).drop 1) else none:=rfl
 generalize cutL 32 s = ws at hlen hpos hpart hN ⊢
 have hx0:=strs_at (List.getElem?_eq_getElem hpos)
 have hw0:ws.headD [] = ws[0]:=by rw [List.headD_eq_head?_getD,List.head?_eq_getElem?,List.getElem?_eq_getElem hpos]; rfl
 rw [hw0] at hN
 have k1 : -9223372036854775808≤(k:Int) + 1∧(k:Int) + 1 < 9223372036854775808:=by omega
 (repeat refine Ws ?_);refine We ?_;intro Kn hKn
 by_cases h1:ws[0] = w
 rotate_left
 ·have e1:(ws[0] = w) = False:=eq_false h1
  rw [if_neg (fun h=>h1 h.1)] at hN
  obtain ⟨hL,hB⟩:=numsN_none hN
  ((simp(maxSteps:=1000000)only[VL,VM,↓VG,reduceIte,reduceCtorEq,zA,zB,zC,zD,zE,zF,zG,zH,zI,zJ,hx0,v_neS,e1]); rw [hKn];clear hKn Kn;simp only [QV,reduceIte,reduceCtorEq,zF])
  (repeat refine Ws ?_);refine Wt ?_
  (repeat refine Ws ?_);refine We ?_;intro Kn hKn
  ((simp(maxSteps:=1000000)only[VL,VM,↓VG,reduceIte,reduceCtorEq,zA,zB,zC,zD,zE,zF,zG,zH,zI,zJ]); rw [hKn];clear hKn Kn;simp only [QV,reduceIte,reduceCtorEq,zF])
  (repeat refine Ws ?_)
  refine W_ret ?_
  try simp only [thenQ,blockQ]
  refine own_ret20t rfl ?_ ?_ (nuL_refs s w k) (by rfl)
  ·simp only [get_cons,frz,vtup,zF,if_true,if_false,reduceIte]
   rw [hL]
  ·simp only [get_cons,frz,vtup,zF,if_true,if_false,reduceIte]
   rw [hB]
 have e1:(ws[0] = w) = True:=eq_true h1
 by_cases h2:ws.length = k + 1
 rotate_left
 ·have e2:((ws.length:Int) = (k:Int) + 1) = False:=eq_false (by omega)
  rw [if_neg (fun h=>h2 h.2)] at hN
  obtain ⟨hL,hB⟩:=numsN_none hN
  ((simp(maxSteps:=1000000)only[VL,VM,↓VG,reduceIte,reduceCtorEq,zA,zB,zC,zD,zE,zF,zG,zH,zI,zJ,hx0,v_neS,e1,strs_len,k1,e2]); rw [hKn];clear hKn Kn;simp only [QV,reduceIte,reduceCtorEq,zF])
  (repeat refine Ws ?_);refine Wt ?_
  (repeat refine Ws ?_);refine We ?_;intro Kn hKn
  ((simp(maxSteps:=1000000)only[VL,VM,↓VG,reduceIte,reduceCtorEq,zA,zB,zC,zD,zE,zF,zG,zH,zI,zJ]); rw [hKn];clear hKn Kn;simp only [QV,reduceIte,reduceCtorEq,zF])
  (repeat refine Ws ?_)
  refine W_ret ?_
  try simp only [thenQ,blockQ]
  refine own_ret20t rfl ?_ ?_ (nuL_refs s w k) (by rfl)
  ·simp only [get_cons,frz,vtup,zF,if_true,if_false,reduceIte]
   rw [hL]
  ·simp only [get_cons,frz,vtup,zF,if_true,if_false,reduceIte]
   rw [hB]
 have e2:((ws.length:Int) = (k:Int) + 1) = True:=eq_true (by omega)
 rw [if_pos ⟨h1,h2⟩] at hN
 ((simp(maxSteps:=1000000)only[VL,VM,↓VG,reduceIte,reduceCtorEq,zA,zB,zC,zD,zE,zF,zG,zH,zI,zJ,hx0,v_neS,e1,strs_len,k1,e2]); rw [hKn];clear hKn Kn;simp only [QV,reduceIte,reduceCtorEq,zF])
 (repeat refine Ws ?_);refine Wf ?_
 (((repeat refine Ws ?_);refine W_skip ?_); simp only [QV,reduceIte,reduceCtorEq,zF])
 (repeat refine Ws ?_);refine We ?_;intro Kn hKn
 ((simp(maxSteps:=1000000)only[VL,VM,↓VG,reduceIte,reduceCtorEq,zA,zB,zC,zD,zE,zF,zG,zH,zI,zJ]); rw [hKn];clear hKn Kn;simp only [QV,reduceIte,reduceCtorEq,zF])
 (repeat refine Ws ?_)
 refine W_tok (t:=9) (k:=1) rfl ?_
 (repeat refine Ws ?_);refine We ?_;intro Kn hKn
 ((simp(maxSteps:=1000000)only[VL,VM,↓VG,reduceIte,reduceCtorEq,zA,zB,zC,zD,zE,zF,zG,zH,zI,zJ]); rw [hKn];clear hKn Kn;simp only [QV,reduceIte,reduceCtorEq,zF])
 ((repeat refine Ws ?_);refine W_block ?_; (repeat refine Ws ?_)); refine W_loopS (fun z:ParS=>[(8,strsW ws),(9,.so M.H.length 1 (z.l.map intP)),(10,vi z.i)]) (fun z=>⟨M.H++[.clm z.l.length 1],M.lg⟩) (fun z=>ws.length - z.i) (fun z=>1≤z.i∧z.i≤ws.length∧numsZ 6 ((ws.take z.i).drop 1) = some z.l) ⟨1,[]⟩ ⟨Nat.le_refl _,hpos,by simp [numsZ]⟩ ⟨rfl,rfl,rfl,trivial⟩ (by simp) ?_
 rintro ⟨i,l⟩ ⟨h3,hi,hl⟩
 simp only at h3 hi hl
 have k3 : -9223372036854775808≤(i:Int) + 1∧(i:Int) + 1 < 9223372036854775808:=by omega
 have hll:=numsZ_len hl
 rw [List.length_drop,List.length_take] at hll
 (repeat refine Ws ?_);refine We ?_;intro Kn hKn
 rcases Nat.lt_or_ge i ws.length with hlt | hge
 rotate_left
 ·have k2:((i:Int) < (ws.length:Int)) = False:=eq_false (by omega)
  obtain rfl:i = ws.length:=by omega
  rw [List.take_length] at hl
  rw [hl] at hN
  obtain ⟨hL,hB⟩:=numsN_some hN
  ((simp(maxSteps:=1000000)only[VL,VM,↓VG,reduceIte,reduceCtorEq,zA,zB,zC,zD,zE,zF,zG,zH,zI,zJ,strs_len,k2]); rw [hKn];clear hKn Kn;simp only [QV,reduceIte,reduceCtorEq,zF])
  (repeat refine Ws ?_);refine Wf ?_
  (((repeat refine Ws ?_);refine W_exit ?_); simp only [QV,reduceIte,reduceCtorEq,zF])
  (repeat refine Ws ?_);refine We ?_;intro Kn hKn
  ((simp(maxSteps:=1000000)only[VL,VM,↓VG,reduceIte,reduceCtorEq,zA,zB,zC,zD,zE,zF,zG,zH,zI,zJ]); rw [hKn];clear hKn Kn;simp only [QV,reduceIte,reduceCtorEq,zF])
  (repeat refine Ws ?_)
  refine W_ret ?_
  try simp only [thenQ,blockQ]
  refine own_ret2t rfl ?_ ?_ (nuL_refs s w k) (by rfl)
  ·simp only [get_cons,frz,vtup,zF,if_true,if_false,reduceIte]
   rw [hL]
  ·simp only [get_cons,frz,vtup,zF,if_true,if_false,reduceIte]
   rw [hB]
 have k2:((i:Int) < (ws.length:Int)) = True:=eq_true (by omega)
 have hx:=strs_at (List.getElem?_eq_getElem hlt)
 have hst:=numsZ_step h3 hlt hl
 have hp:=hpart ws[i] (List.getElem_mem hlt)
 ((simp(maxSteps:=1000000)only[VL,VM,↓VG,reduceIte,reduceCtorEq,zA,zB,zC,zD,zE,zF,zG,zH,zI,zJ,strs_len,k2]); rw [hKn];clear hKn Kn;simp only [QV,reduceIte,reduceCtorEq,zF])
 (repeat refine Ws ?_);refine Wt ?_
 (((repeat refine Ws ?_);refine W_skip ?_); simp only [QV,reduceIte,reduceCtorEq,zF])
 (repeat refine Ws ?_);refine W_block ?_
 (repeat refine Ws ?_);refine We ?_;intro Kn hKn
 simp(maxSteps:=1000000)only[VL,VM,↓VG,reduceIte,reduceCtorEq,zA,zB,zC,zD,zE,zF,zG,zH,zI,zJ,hx]
 apply call_eq (f := 72) (fn:=Tryz.f72) (by kernel_rfl) (by rfl)
 ·exact rnumber_v ws[i] _ (by omega)
 cases hn:numZ 6 ws[i] with
 | none =>
  have hT:numT ws[i] = (0,false):=by unfold numT; rw [hn]
  rw [hn] at hst
  rw [numsZ_none (i:=i + 1) (by omega) (by omega) hst] at hN
  obtain ⟨hL,hB⟩:=numsN_none hN
  ((simp(maxSteps:=1000000)only[VL,VM,↓VG,reduceIte,reduceCtorEq,zA,zB,zC,zD,zE,zF,zG,zH,zI,zJ,hT]); rw [hKn];clear hKn Kn;simp only [QV,reduceIte,reduceCtorEq,zF])
  (repeat refine Ws ?_);refine We ?_;intro Kn hKn
  ((simp(maxSteps:=1000000)only[VL,VM,↓VG,reduceIte,reduceCtorEq,zA,zB,zC,zD,zE,zF,zG,zH,zI,zJ]); rw [hKn];clear hKn Kn;simp only [QV,reduceIte,reduceCtorEq,zF])
  (repeat refine Ws ?_);refine Wt ?_
  (repeat refine Ws ?_);refine We ?_;intro Kn hKn
  ((simp(maxSteps:=1000000)only[VL,VM,↓VG,reduceIte,reduceCtorEq,zA,zB,zC,zD,zE,zF,zG,zH,zI,zJ]); rw [hKn];clear hKn Kn;simp only [QV,reduceIte,reduceCtorEq,zF])
  (repeat refine Ws ?_)
  refine W_ret ?_
  try simp only [thenQ,blockQ]
  refine own_ret2t rfl ?_ ?_ (nuL_refs s w k) (by rfl)
  ·simp only [get_cons,frz,vtup,zF,if_true,if_false,reduceIte]
   rw [hL]
  ·simp only [get_cons,frz,vtup,zF,if_true,if_false,reduceIte]
   rw [hB]
 | some n =>
  have hT:numT ws[i] = (n,true):=by unfold numT; rw [hn]
  rw [hn] at hst
  have q1:((l.length + 1) * 8≤140737488355328) = True:=eq_true (by omega)
  ((simp(maxSteps:=1000000)only[VL,VM,↓VG,reduceIte,reduceCtorEq,zA,zB,zC,zD,zE,zF,zG,zH,zI,zJ,hT]); rw [hKn];clear hKn Kn;simp only [QV,reduceIte,reduceCtorEq,zF])
  (repeat refine Ws ?_);refine We ?_;intro Kn hKn
  ((simp(maxSteps:=1000000)only[VL,VM,↓VG,reduceIte,reduceCtorEq,zA,zB,zC,zD,zE,zF,zG,zH,zI,zJ]); rw [hKn];clear hKn Kn;simp only [QV,reduceIte,reduceCtorEq,zF])
  (repeat refine Ws ?_);refine Wf ?_
  (((repeat refine Ws ?_);refine W_skip ?_); simp only [QV,reduceIte,reduceCtorEq,zF])
  (repeat refine Ws ?_);refine We ?_;intro Kn hKn
  ((simp(maxSteps:=1000000)only[VL,VM,↓VG,reduceIte,reduceCtorEq,zA,zB,zC,zD,zE,zF,zG,zH,zI,zJ,q1]); rw [hKn];clear hKn Kn;simp only [QV,reduceIte,reduceCtorEq,zF])
  (repeat refine Ws ?_);refine We ?_;intro Kn hKn
  ((simp(maxSteps:=1000000)only[VL,VM,↓VG,reduceIte,reduceCtorEq,zA,zB,zC,zD,zE,zF,zG,zH,zI,zJ,k3]); rw [hKn];clear hKn Kn;simp only [QV,reduceIte,reduceCtorEq,zF])
  refine LoopK.mk ⟨i + 1,l++[n]⟩ (by simp only; omega) ⟨by simp only; omega,by simp only; omega,hst⟩ ⟨rfl,?_,rfl,trivial⟩ ?_
  ·simp [get_cons]
  ·simp
end Go.Proofs.YtekhddlngbppkaaGreatDoor.Vm
