/- A part of the proofs about the doors; no condition. -/
import Derived.Test.YtekhddlngbppkaaGreatDoorB18
import Derived.Test.YtekhddlngbppkaaGreatDoorB30
set_option linter.unusedVariables false
set_option linter.unusedSimpArgs false
open Int renaming reduceLE → zA, reduceLT → zB, reduceToNat → zC, reduceNeg → zD
open Nat renaming reduceLT → zE, reduceEqDiff → zF, reduceAdd → zG, reduceSub → zH, reduceMul → zI, reduceLeDiff → zJ
/- Houses made of numbers, on values. (Vm) -/
namespace Go.Proofs.YtekhddlngbppkaaGreatDoor.Vm
open Go Go.Proofs
attribute [local irreducible] castF castU fromF fromU oneF oneU aboutF aboutU
theorem addLg_has {id r:Nat} {lg:List (Nat×Nat)} (h:(id,r)∈lg):addLg id [r] lg = lg:=by
 unfold addLg
 have h1:(lg.any fun e=>Nat.beq e.1 id && Nat.beq e.2 r) = true:=List.any_eq_true.2 ⟨(id,r),h,by simp⟩
 have h2:List.filter (fun r=>Nat.blt id r && !(lg.any fun e=>Nat.beq e.1 id && Nat.beq e.2 r)) [r] = []:=by
  rw [List.filter_cons]
  simp [h1]
 rw [h2]
structure HoA where
 u:Int
 hs:List Int
structure HoB where
 u:Int
 ds:List Do
 junk:List VObj
theorem about_c {H0:List VObj} {d:Nat} (hd:d < H0.length) {L:List VObj} (u n:Int) (lg:List (Nat×Nat)) (h0:0≤n) (h1:n≤1000000):VC Tryz.prog 29 [.ptr d 0,vi n] ⟨DH H0 d u L,lg⟩ (fun r M'=>M' = ⟨DH H0 d (aboutU u) L,lg⟩∧r = spV (aboutF u n)):=by
 rw [DH_base,DH_base (u:=aboutU u)]
 exact about_v (by rw [List.length_append]; omega) u n lg h0 h1
def tvOf (n t k:Nat) (ts:List Int):VV:=if t = 0 then .sf 1 (ts.map intP) else .so (n + (k + 5)) 1 (ts.map intP)
def jkOf (t:Nat) (J:List VObj):List VObj:=if t = 0 then J else J++[.clm (t + 1) 1]
structure HoC where
 u:Int
 cs:List Co
 ts:List Int
 now:Int
 t:Nat
structure HoD where
 u:Int
 cs:List Co
 now:Int
 i:Nat
abbrev zeroHo:List VV:=[.sf 0 [],.sf 0 [],vi 0,vi 0,vi 0,.sf 0 []]
set_option maxHeartbeats 8000000 in
set_option maxRecDepth 8000 in
theorem houseOf_v {H0:List VObj} {d:Nat} (hd:d < H0.length) (u:Int) (lg:List (Nat×Nat)) (W D K P:Int) (hW:1≤W∧W≤4) (hD:0≤D∧D≤5) (hK:0≤K∧K≤12) (hP:1≤P∧P≤1000) :
  VC Tryz.prog 7 [.ptr d 0,vi W,vi D,vi K,vi P] ⟨DH H0 d u [],lg⟩ (fun r M'=>∃ (h:Ho) (ts:List Int) (u':Int),M' = ⟨DH H0 d u' [],lg⟩∧r = .tup [houseV h,intsV ts]∧MadeH W D K P h ts):=by
 have rw1:=fromF_range (u:=u) (lo:=1) (hi:=W) (by omega)
 refine VC_own' T_ok (f := 7) (fn:=Tryz.f7) (by kernel_rfl) rfl Tryz.ntmps7 (by rfl) (by rfl) ?_
 (repeat refine Ws ?_);refine Wr ?_
 simp(maxSteps:=1000000)only[VL,VM,↓VG,reduceIte,reduceCtorEq,zA,zB,zC,zD,zE,zF,zG,zH,zI,zJ,DH_app hd,DH_len,DH_len0,DH_get hd,DH_get0 hd,DH_set hd,DH_set0 hd,DH_setd,DH_die hd]
 (repeat refine Ws ?_);refine Wr ?_
 simp(maxSteps:=1000000)only[VL,VM,↓VG,reduceIte,reduceCtorEq,zA,zB,zC,zD,zE,zF,zG,zH,zI,zJ,DH_app hd,DH_len,DH_len0,DH_get hd,DH_get0 hd,DH_set hd,DH_set0 hd,DH_setd,DH_die hd]
 (repeat refine Ws ?_);refine Wr ?_
 simp(maxSteps:=1000000)only[VL,VM,↓VG,reduceIte,reduceCtorEq,zA,zB,zC,zD,zE,zF,zG,zH,zI,zJ,DH_app hd,DH_len,DH_len0,DH_get hd,DH_get0 hd,DH_set hd,DH_set0 hd,DH_setd,DH_die hd]
 apply call_eq (f := 24) (fn:=Tryz.f24) (by kernel_rfl) (by rfl)
 ·exact from_c hd u 1 W lg (by omega) (by omega) (by omega) (by omega)
 generalize fromU u 1 W = u1
 generalize fromF u 1 W = w at rw1
 obtain ⟨nh,rfl⟩:∃ m:Nat,w = (m:Int):=⟨w.toNat,by omega⟩
 have hnh:1≤nh∧nh≤4:=by omega
 have hnW:(nh:Int)≤W:=by omega
 clear rw1
 simp(maxSteps:=1000000)only[VL,VM,↓VG,reduceIte,reduceCtorEq,zA,zB,zC,zD,zE,zF,zG,zH,zI,zJ,DH_app hd,DH_len,DH_len0,DH_get hd,DH_get0 hd,DH_set hd,DH_set0 hd,DH_setd,DH_die hd]
 refine W_ghost (id:=H0.length + 1) (off:=0) (k:=1) (k0:=0) (by rw [DH_get hd]; rfl) rfl ?_
 simp(maxSteps:=1000000)only[VL,VM,↓VG,reduceIte,reduceCtorEq,zA,zB,zC,zD,zE,zF,zG,zH,zI,zJ,DH_app hd,DH_len,DH_len0,DH_get hd,DH_get0 hd,DH_set hd,DH_set0 hd,DH_setd,DH_die hd]
 refine W_ghost (id:=H0.length + 1) (off:=1) (k:=3) (k0:=0) (by rw [DH_get hd]; rfl) rfl ?_
 simp(maxSteps:=1000000)only[VL,VM,↓VG,reduceIte,reduceCtorEq,zA,zB,zC,zD,zE,zF,zG,zH,zI,zJ,DH_app hd,DH_len,DH_len0,DH_get hd,DH_get0 hd,DH_set hd,DH_set0 hd,DH_setd,DH_die hd]
 refine W_ghost (id:=H0.length + 1) (off:=5) (k:=6) (k0:=0) (by rw [DH_get hd]; rfl) rfl ?_
 simp(maxSteps:=1000000)only[VL,VM,↓VG,reduceIte,reduceCtorEq,zA,zB,zC,zD,zE,zF,zG,zH,zI,zJ,DH_app hd,DH_len,DH_len0,DH_get hd,DH_get0 hd,DH_set hd,DH_set0 hd,DH_setd,DH_die hd]
 obtain ⟨n,hn⟩:∃ n,H0.length = n:=⟨_,rfl⟩
 rw [hn] at hd ⊢
 obtain ⟨lgA,hlg⟩:∃ lgA,lgA = lg++[(n + 1,n + 2),(n + 1,n + 3),(n + 1,n + 4)]:=⟨_,rfl⟩
 rw [← hlg]
 have A2:addLg (n + 1) [n + 2] lgA = lgA:=addLg_has (by rw [hlg]; simp)
 have A3:addLg (n + 1) [n + 3] lgA = lgA:=addLg_has (by rw [hlg]; simp)
 have A4:addLg (n + 1) [n + 4] lgA = lgA:=addLg_has (by rw [hlg]; simp)
 have dg:∀ u L k,(DH H0 d u L)[n + k]? = L[k]?:=fun u L k=>by rw [← hn]; exact DH_get (hn ▸ hd) k
 have dg0:∀ u L,(DH H0 d u L)[n]? = L[0]?:=fun u L=>by rw [← hn]; exact DH_get0 (hn ▸ hd)
 have ds:∀ u L k o,(DH H0 d u L).set (n + k) o = DH H0 d u (L.set k o):=fun u L k o=>by rw [← hn]; exact DH_set (hn ▸ hd) k o
 have ds0:∀ u L o,(DH H0 d u L).set n o = DH H0 d u (L.set 0 o):=fun u L o=>by rw [← hn]; exact DH_set0 (hn ▸ hd) o
 have dl:∀ u L,(DH H0 d u L).length = n + L.length:=fun u L=>by rw [← hn]; exact DH_len
 have da:∀ u L X,DH H0 d u L++X = DH H0 d u (L++X):=fun u L X=>DH_app (hn ▸ hd) X
 have hd':d < H0.length:=by rw [hn]; exact hd
 have kP : -9223372036854775808≤P + 1∧P + 1 < 9223372036854775808:=by omega
 ((repeat refine Ws ?_);refine W_block ?_; (repeat refine Ws ?_)); refine W_loopS (fun s:HoA=>[(0,.ptr d 0),(2,vi D),(3,vi K),(4,vi P),(10,.ptr n 0),(11,.sf 0 []),(12,.ptr (n + 1) 0),(13,vi ((nh:Int) - (s.hs.length:Int)))]) (fun s=>⟨DH H0 d s.u [.obj zeroHo,.obj [.so (n + 2) 1 (s.hs.map intP),.so (n + 3) 3 [],vi 0,vi 0,vi 0,.so (n + 4) 6 []],.clm s.hs.length 1,.clm 0 3,.clm 0 6],lgA⟩) (fun s=>nh - s.hs.length) (fun s=>s.hs.length≤nh∧∀ b∈s.hs,0≤b∧b≤P) ⟨u1,[]⟩ ⟨Nat.zero_le _,by simp⟩ ⟨rfl,rfl,rfl,rfl,rfl,rfl,rfl,by simp [get_cons],trivial⟩ rfl ?_
 rintro ⟨v,hs⟩ ⟨hhl,hhs⟩
 simp only at hhl hhs
 (repeat refine Ws ?_);refine Wr ?_
 rcases Nat.lt_or_ge hs.length nh with hlt | hge
 ·have k2:((0:Int) < (nh:Int) - (hs.length:Int)) = True:=eq_true (by omega)
  have k3 : -9223372036854775808≤(nh:Int) - (hs.length:Int) - 1∧(nh:Int) - (hs.length:Int) - 1 < 9223372036854775808:=by omega
  have q1:((hs.length + 1) * 8≤140737488355328) = True:=eq_true (by omega)
  have c1:=castF_range (u:=v) (n:=P + 1) (by omega)
  simp(maxSteps:=1000000)only[VL,VM,↓VG,reduceIte,reduceCtorEq,zA,zB,zC,zD,zE,zF,zG,zH,zI,zJ,k2]
  (repeat refine Ws ?_);refine Wt ?_
  (repeat refine Ws ?_);refine W_skip ?_
  simp(maxSteps:=1000000)only[VL,VM,↓VG,reduceIte,reduceCtorEq,zA,zB,zC,zD,zE,zF,zG,zH,zI,zJ]
  (repeat refine Ws ?_);refine W_block ?_
  (repeat refine Ws ?_)
  refine W_drawP T_ok [] (by kernel_rfl) (by kernel_rfl) ?_
  generalize hi:mkPlan _ = infs
  cbv at hi
  subst hi
  simp(maxSteps:=1000000)only[VL,VM,↓VG,reduceIte,reduceCtorEq,zA,zB,zC,zD,zE,zF,zG,zH,zI,zJ,dg,dg0,ds,ds0,dl,da,kP]
  apply call_d (f := 25) (fn:=Tryz.f25) (by kernel_rfl) (by rfl)
  ·exact cast_c hd' v (P + 1) lgA (by omega)
  generalize castF v (P + 1) = b at *
  generalize castU v (P + 1) = v2
  simp(maxSteps:=1000000)only[VL,VM,↓VG,reduceIte,reduceCtorEq,zA,zB,zC,zD,zE,zF,zG,zH,zI,zJ,dg,dg0,ds,ds0,dl,da,kP,q1,A2]
  (repeat refine Ws ?_);refine Wr ?_
  simp(maxSteps:=1000000)only[VL,VM,↓VG,reduceIte,reduceCtorEq,zA,zB,zC,zD,zE,zF,zG,zH,zI,zJ,k3]
  refine LoopK.mk ⟨v2,hs++[b]⟩ (by simp; omega) ⟨by simp; omega,?_⟩ ⟨rfl,rfl,rfl,rfl,rfl,rfl,rfl,?_,trivial⟩ (by simp)
  ·intro x hx
   rcases List.mem_append.1 hx with hx | hx
   ·exact hhs x hx
   ·rw [List.mem_singleton] at hx
    subst hx
    omega
  ·simp only [List.length_append,List.length_cons,List.length_nil]
   have e9:(nh:Int) - (hs.length:Int) - 1 = (nh:Int) - ((hs.length + 1:Nat):Int):=by omega
   show vi ((nh:Int) - (hs.length:Int) - 1) = vi ((nh:Int) - ((hs.length + 1:Nat):Int))
   rw [e9]
 have k2:((0:Int) < (nh:Int) - (hs.length:Int)) = False:=eq_false (by omega)
 have hnl:hs.length = nh:=by omega
 simp(maxSteps:=1000000)only[VL,VM,↓VG,reduceIte,reduceCtorEq,zA,zB,zC,zD,zE,zF,zG,zH,zI,zJ,k2]
 (repeat refine Ws ?_);refine Wf ?_
 (repeat refine Ws ?_);refine W_exit ?_
 simp(maxSteps:=1000000)only[VL,VM,↓VG,reduceIte,reduceCtorEq,zA,zB,zC,zD,zE,zF,zG,zH,zI,zJ]
 have kD : -9223372036854775808≤D + 1∧D + 1 < 9223372036854775808:=by omega
 have rd1:=castF_range (u:=v) (n:=D + 1) (by omega)
 (repeat refine Ws ?_);refine Wr ?_
 simp(maxSteps:=1000000)only[VL,VM,↓VG,reduceIte,reduceCtorEq,zA,zB,zC,zD,zE,zF,zG,zH,zI,zJ,kD]
 apply call_eq (f := 25) (fn:=Tryz.f25) (by kernel_rfl) (by rfl)
 ·exact cast_c hd' v (D + 1) lgA (by omega)
 generalize castU v (D + 1) = u2
 generalize castF v (D + 1) = w at rd1
 obtain ⟨nd,rfl⟩:∃ m:Nat,w = (m:Int):=⟨w.toNat,by omega⟩
 have hnd:nd≤5:=by omega
 have hnD:(nd:Int)≤D:=by omega
 clear rd1 k2 hge hhl u1
 simp(maxSteps:=1000000)only[VL,VM,↓VG,reduceIte,reduceCtorEq,zA,zB,zC,zD,zE,zF,zG,zH,zI,zJ]
 ((repeat refine Ws ?_);refine W_block ?_; (repeat refine Ws ?_)); refine W_loopS (fun s:HoB=>[(0,.ptr d 0),(3,vi K),(4,vi P),(10,.ptr n 0),(11,.sf 0 []),(12,.ptr (n + 1) 0),(14,vi ((nd:Int) - (s.ds.length:Int)))]) (fun s=>⟨DH H0 d s.u (.obj zeroHo :: .obj [.so (n + 2) 1 (hs.map intP),.so (n + 3) 3 (s.ds.map doP),vi 0,vi 0,vi 0,.so (n + 4) 6 []] :: .clm hs.length 1 :: .clm s.ds.length 3 :: .clm 0 6 :: s.junk),lgA⟩) (fun s=>nd - s.ds.length) (fun s=>s.ds.length≤nd∧∀ x∈s.ds,DoV hs.length x∧x.flow≤P) ⟨u2,[],[]⟩ ⟨Nat.zero_le _,by simp⟩ ⟨rfl,rfl,rfl,rfl,rfl,rfl,by simp [get_cons],trivial⟩ rfl ?_
 rintro ⟨v,dl0,junk⟩ ⟨hdl,hds⟩
 simp only at hdl hds
 (repeat refine Ws ?_);refine Wr ?_
 rcases Nat.lt_or_ge dl0.length nd with hlt | hge
 ·have k2:((0:Int) < (nd:Int) - (dl0.length:Int)) = True:=eq_true (by omega)
  have k3 : -9223372036854775808≤(nd:Int) - (dl0.length:Int) - 1∧(nd:Int) - (dl0.length:Int) - 1 < 9223372036854775808:=by omega
  have q1:((dl0.length + 1) * 24≤140737488355328) = True:=eq_true (by omega)
  have c1:=castF_range (u:=v) (n:=(hs.length:Int)) (by omega)
  simp(maxSteps:=1000000)only[VL,VM,↓VG,reduceIte,reduceCtorEq,zA,zB,zC,zD,zE,zF,zG,zH,zI,zJ,k2]
  (repeat refine Ws ?_);refine Wt ?_
  (repeat refine Ws ?_);refine W_skip ?_
  simp(maxSteps:=1000000)only[VL,VM,↓VG,reduceIte,reduceCtorEq,zA,zB,zC,zD,zE,zF,zG,zH,zI,zJ]
  (repeat refine Ws ?_);refine W_block ?_
  (repeat refine Ws ?_);refine Wr ?_
  simp(maxSteps:=1000000)only[VL,VM,↓VG,reduceIte,reduceCtorEq,zA,zB,zC,zD,zE,zF,zG,zH,zI,zJ,dg,dg0,ds,ds0,dl,da]
  apply call_eq (f := 25) (fn:=Tryz.f25) (by kernel_rfl) (by rfl)
  ·exact cast_c hd' v hs.length lgA (by omega)
  have kq:0≤P∧P < 9223372036854775808:=by omega
  have kq2 : -9223372036854775808≤P / 2 + 1∧P / 2 + 1 < 9223372036854775808:=by omega
  have h4:1≤(hs.length:Int)∧(hs.length:Int)≤4:=by omega
  generalize castF v (hs.length:Int) = a at c1 ⊢
  generalize castU v (hs.length:Int) = v2
  have ha:0≤a∧a < (hs.length:Int):=by omega
  have c2:=castF_range (u:=v2) (n:=P / 2 + 1) (by omega)
  simp(maxSteps:=1000000)only[VL,VM,↓VG,reduceIte,reduceCtorEq,zA,zB,zC,zD,zE,zF,zG,zH,zI,zJ,dg,dg0,ds,ds0,dl,da,kq,kq2]
  apply call_eq (f := 25) (fn:=Tryz.f25) (by kernel_rfl) (by rfl)
  ·exact cast_c hd' v2 (P / 2 + 1) lgA (by omega)
  generalize castF v2 (P / 2 + 1) = f1 at c2 ⊢
  generalize castU v2 (P / 2 + 1) = v3
  have o1:=oneF_mem (u:=v3) (xs:=[1,f1,P]) (by simp) (by simp)
  simp(maxSteps:=1000000)only[VL,VM,↓VG,reduceIte,reduceCtorEq,zA,zB,zC,zD,zE,zF,zG,zH,zI,zJ,dg,dg0,ds,ds0,dl,da]
  apply call_eq (f := 26) (fn:=Tryz.f26) (by kernel_rfl) (by rfl)
  ·exact one_c hd' v3 [1,f1,P] lgA (by simp) (by simp)
  generalize oneF v3 [1,f1,P] = fl at o1 ⊢
  generalize oneU v3 [1,f1,P] = v4
  have hfl:0≤fl∧fl≤P:=by
   simp only [List.mem_cons,List.not_mem_nil,or_false] at o1
   rcases o1 with e | e | e <;> rw [e] <;> omega
  clear o1 c1 c2
  simp(maxSteps:=1000000)only[VL,VM,↓VG,reduceIte,reduceCtorEq,zA,zB,zC,zD,zE,zF,zG,zH,zI,zJ,dg,dg0,ds,ds0,dl,da]
  have c3:=fromF_range (u:=v4) (lo:=1) (hi:=(hs.length:Int)) (by omega)
  (repeat refine Ws ?_)
  refine W_drawP T_ok [] (by kernel_rfl) (by kernel_rfl) ?_
  generalize hi:mkPlan _ = infs
  cbv at hi
  subst hi
  replace ha:0≤a∧a < (hs.length:Int):=ha
  replace h4:1≤(hs.length:Int)∧(hs.length:Int)≤4:=h4
  replace c3:1≤fromF v4 1 (hs.length:Int)∧fromF v4 1 (hs.length:Int)≤max 1 (hs.length:Int):=c3
  replace hfl:0≤fl∧fl≤P:=hfl
  simp(maxSteps:=1000000)only[VL,VM,↓VG,reduceIte,reduceCtorEq,zA,zB,zC,zD,zE,zF,zG,zH,zI,zJ,dg,dg0,ds,ds0,dl,da]
  apply call_d (f := 24) (fn:=Tryz.f24) (by kernel_rfl) (by rfl)
  ·exact from_c hd' v4 1 hs.length lgA (by omega) (by omega) (by omega) (by omega)
  generalize fromF v4 1 (hs.length:Int) = fr at c3 ⊢
  generalize fromU v4 1 (hs.length:Int) = v5
  have k4 : -9223372036854775808≤a + fr∧a + fr < 9223372036854775808:=by omega
  have k5 : -9223372036854775808≤(hs.length:Int) + 1∧(hs.length:Int) + 1 < 9223372036854775808:=by omega
  have hb0:=Int.emod_nonneg (a + fr) (show (hs.length:Int) + 1≠0 by omega)
  have hb1:=Int.emod_lt_of_pos (a + fr) (show (0:Int) < (hs.length:Int) + 1 by omega)
  have zf0:0≤a + fr:=by omega
  have zf1:2≤(hs.length:Int) + 1:=by omega
  simp(maxSteps:=1000000)only[VL,VM,↓VG,reduceIte,reduceCtorEq,zA,zB,zC,zD,zE,zF,zG,zH,zI,zJ,dg,dg0,ds,ds0,dl,da,k4,k5]
  apply call_d (f := 27) (fn:=Tryz.f27) (by kernel_rfl) (by rfl)
  ·exact bring_v (a + fr) ((hs.length:Int) + 1) _ zf0 zf1
  generalize (a + fr) % ((hs.length:Int) + 1) = br at hb0 hb1 ⊢
  have k6 : -9223372036854775808≤br - 1∧br - 1 < 9223372036854775808:=by omega
  have o2:=oneF_mem (u:=v5) (xs:=[-1,br - 1]) (by simp) (by simp)
  simp(maxSteps:=1000000)only[VL,VM,↓VG,reduceIte,reduceCtorEq,zA,zB,zC,zD,zE,zF,zG,zH,zI,zJ,dg,dg0,ds,ds0,dl,da,k4,k5,k6]
  apply call_d (f := 26) (fn:=Tryz.f26) (by kernel_rfl) (by rfl)
  ·exact one_c hd' v5 [-1,br - 1] lgA (by simp) (by simp)
  generalize oneF v5 [-1,br - 1] = b at o2 ⊢
  generalize oneU v5 [-1,br - 1] = v5
  have hbb : -1≤b∧b < (hs.length:Int):=by
   simp only [List.mem_cons,List.not_mem_nil,or_false] at o2
   rcases o2 with e | e <;> rw [e] <;> omega
  clear o2 hb0 hb1 c3 k4 k5 k6 zf0 zf1
  obtain ⟨v6,hv6⟩:∃ v6,v6 = castU v5 3:=⟨_,rfl⟩
  simp(maxSteps:=1000000)only[VL,VM,↓VG,reduceIte,reduceCtorEq,zA,zB,zC,zD,zE,zF,zG,zH,zI,zJ,dg,dg0,ds,ds0,dl,da]
  (repeat refine Ws ?_);refine Wr ?_
  by_cases eab:a = b
  ·have kab:(a = b) = True:=eq_true eab
   simp(maxSteps:=1000000)only[VL,VM,↓VG,reduceIte,reduceCtorEq,zA,zB,zC,zD,zE,zF,zG,zH,zI,zJ,dg,dg0,ds,ds0,dl,da,kab]
   (repeat refine Ws ?_);refine Wt ?_
   (repeat refine Ws ?_);refine Wr ?_
   simp(maxSteps:=1000000)only[VL,VM,↓VG,reduceIte,reduceCtorEq,zA,zB,zC,zD,zE,zF,zG,zH,zI,zJ,dg,dg0,ds,ds0,dl,da]
   (repeat refine Ws ?_);refine Wr ?_
   simp(maxSteps:=1000000)only[VL,VM,↓VG,reduceIte,reduceCtorEq,zA,zB,zC,zD,zE,zF,zG,zH,zI,zJ]
   apply call_eq (f := 28) (fn:=Tryz.f28) (by kernel_rfl) (by rfl)
   ·exact once_c hd' v5 3 lgA (by omega)
   rw [← hv6]
   cases onceF v5 3
   ·simp(maxSteps:=1000000)only[VL,VM,↓VG,reduceIte,reduceCtorEq,zA,zB,zC,zD,zE,zF,zG,zH,zI,zJ]
    (repeat refine Ws ?_);refine Wf ?_
    (repeat refine Ws ?_);refine W_skip ?_
    simp(maxSteps:=1000000)only[VL,VM,↓VG,reduceIte,reduceCtorEq,zA,zB,zC,zD,zE,zF,zG,zH,zI,zJ]
    (repeat refine Ws ?_);refine Wr ?_
    simp(maxSteps:=1000000)only[VL,VM,↓VG,reduceIte,reduceCtorEq,zA,zB,zC,zD,zE,zF,zG,zH,zI,zJ,dg,dg0,ds,ds0,dl,da,q1,A3]
    (repeat refine Ws ?_);refine Wr ?_
    simp(maxSteps:=1000000)only[VL,VM,↓VG,reduceIte,reduceCtorEq,zA,zB,zC,zD,zE,zF,zG,zH,zI,zJ,k3]
    refine LoopK.mk ⟨v6,dl0++[⟨a,(-1),fl⟩],junk++[.obj [vi a,vi (-1),vi fl]]⟩ (by simp; omega) ⟨by simp; omega,?_⟩ ⟨rfl,rfl,rfl,rfl,rfl,rfl,?_,trivial⟩ (by simp)
    ·intro x hx
     rcases List.mem_append.1 hx with hx | hx
     ·exact hds x hx
     ·rw [List.mem_singleton] at hx
      subst hx
      exact ⟨⟨by simp only; omega,by simp only; omega,by simp only; omega,by simp only; omega,by simp only; omega,by simp only; omega,by simp only; omega⟩,by simp only; omega⟩
    ·simp only [List.length_append,List.length_cons,List.length_nil]
     have e9:(nd:Int) - (dl0.length:Int) - 1 = (nd:Int) - ((dl0.length + 1:Nat):Int):=by omega
     show vi ((nd:Int) - (dl0.length:Int) - 1) = vi ((nd:Int) - ((dl0.length + 1:Nat):Int))
     rw [e9]
   ·simp(maxSteps:=1000000)only[VL,VM,↓VG,reduceIte,reduceCtorEq,zA,zB,zC,zD,zE,zF,zG,zH,zI,zJ]
    (repeat refine Ws ?_);refine Wt ?_
    (repeat refine Ws ?_);refine Wr ?_
    simp(maxSteps:=1000000)only[VL,VM,↓VG,reduceIte,reduceCtorEq,zA,zB,zC,zD,zE,zF,zG,zH,zI,zJ,dg,dg0,ds,ds0,dl,da]
    (repeat refine Ws ?_);refine Wr ?_
    simp(maxSteps:=1000000)only[VL,VM,↓VG,reduceIte,reduceCtorEq,zA,zB,zC,zD,zE,zF,zG,zH,zI,zJ,dg,dg0,ds,ds0,dl,da,q1,A3]
    (repeat refine Ws ?_);refine Wr ?_
    simp(maxSteps:=1000000)only[VL,VM,↓VG,reduceIte,reduceCtorEq,zA,zB,zC,zD,zE,zF,zG,zH,zI,zJ,k3]
    refine LoopK.mk ⟨v6,dl0++[⟨(-1),a,fl⟩],junk++[.obj [vi (-1),vi a,vi fl]]⟩ (by simp; omega) ⟨by simp; omega,?_⟩ ⟨rfl,rfl,rfl,rfl,rfl,rfl,?_,trivial⟩ (by simp)
    ·intro x hx
     rcases List.mem_append.1 hx with hx | hx
     ·exact hds x hx
     ·rw [List.mem_singleton] at hx
      subst hx
      exact ⟨⟨by simp only; omega,by simp only; omega,by simp only; omega,by simp only; omega,by simp only; omega,by simp only; omega,by simp only; omega⟩,by simp only; omega⟩
    ·simp only [List.length_append,List.length_cons,List.length_nil]
     have e9:(nd:Int) - (dl0.length:Int) - 1 = (nd:Int) - ((dl0.length + 1:Nat):Int):=by omega
     show vi ((nd:Int) - (dl0.length:Int) - 1) = vi ((nd:Int) - ((dl0.length + 1:Nat):Int))
     rw [e9]
  have kab:(a = b) = False:=eq_false eab
  simp(maxSteps:=1000000)only[VL,VM,↓VG,reduceIte,reduceCtorEq,zA,zB,zC,zD,zE,zF,zG,zH,zI,zJ,dg,dg0,ds,ds0,dl,da,kab]
  (repeat refine Ws ?_);refine Wf ?_
  (repeat refine Ws ?_);refine W_skip ?_
  simp(maxSteps:=1000000)only[VL,VM,↓VG,reduceIte,reduceCtorEq,zA,zB,zC,zD,zE,zF,zG,zH,zI,zJ]
  (repeat refine Ws ?_);refine Wr ?_
  simp(maxSteps:=1000000)only[VL,VM,↓VG,reduceIte,reduceCtorEq,zA,zB,zC,zD,zE,zF,zG,zH,zI,zJ]
  apply call_eq (f := 28) (fn:=Tryz.f28) (by kernel_rfl) (by rfl)
  ·exact once_c hd' v5 3 lgA (by omega)
  rw [← hv6]
  cases onceF v5 3
  ·simp(maxSteps:=1000000)only[VL,VM,↓VG,reduceIte,reduceCtorEq,zA,zB,zC,zD,zE,zF,zG,zH,zI,zJ]
   (repeat refine Ws ?_);refine Wf ?_
   (repeat refine Ws ?_);refine W_skip ?_
   simp(maxSteps:=1000000)only[VL,VM,↓VG,reduceIte,reduceCtorEq,zA,zB,zC,zD,zE,zF,zG,zH,zI,zJ]
   (repeat refine Ws ?_);refine Wr ?_
   simp(maxSteps:=1000000)only[VL,VM,↓VG,reduceIte,reduceCtorEq,zA,zB,zC,zD,zE,zF,zG,zH,zI,zJ,dg,dg0,ds,ds0,dl,da,q1,A3]
   (repeat refine Ws ?_);refine Wr ?_
   simp(maxSteps:=1000000)only[VL,VM,↓VG,reduceIte,reduceCtorEq,zA,zB,zC,zD,zE,zF,zG,zH,zI,zJ,k3]
   refine LoopK.mk ⟨v6,dl0++[⟨a,b,fl⟩],junk++[.obj [vi a,vi b,vi fl]]⟩ (by simp; omega) ⟨by simp; omega,?_⟩ ⟨rfl,rfl,rfl,rfl,rfl,rfl,?_,trivial⟩ (by simp)
   ·intro x hx
    rcases List.mem_append.1 hx with hx | hx
    ·exact hds x hx
    ·rw [List.mem_singleton] at hx
     subst hx
     exact ⟨⟨by simp only; omega,by simp only; omega,by simp only; omega,by simp only; omega,by simp only; omega,by simp only; omega,by simp only; omega⟩,by simp only; omega⟩
   ·simp only [List.length_append,List.length_cons,List.length_nil]
    have e9:(nd:Int) - (dl0.length:Int) - 1 = (nd:Int) - ((dl0.length + 1:Nat):Int):=by omega
    show vi ((nd:Int) - (dl0.length:Int) - 1) = vi ((nd:Int) - ((dl0.length + 1:Nat):Int))
    rw [e9]
  ·simp(maxSteps:=1000000)only[VL,VM,↓VG,reduceIte,reduceCtorEq,zA,zB,zC,zD,zE,zF,zG,zH,zI,zJ]
   (repeat refine Ws ?_);refine Wt ?_
   (repeat refine Ws ?_);refine Wr ?_
   simp(maxSteps:=1000000)only[VL,VM,↓VG,reduceIte,reduceCtorEq,zA,zB,zC,zD,zE,zF,zG,zH,zI,zJ,dg,dg0,ds,ds0,dl,da]
   (repeat refine Ws ?_);refine Wr ?_
   simp(maxSteps:=1000000)only[VL,VM,↓VG,reduceIte,reduceCtorEq,zA,zB,zC,zD,zE,zF,zG,zH,zI,zJ,dg,dg0,ds,ds0,dl,da,q1,A3]
   (repeat refine Ws ?_);refine Wr ?_
   simp(maxSteps:=1000000)only[VL,VM,↓VG,reduceIte,reduceCtorEq,zA,zB,zC,zD,zE,zF,zG,zH,zI,zJ,k3]
   refine LoopK.mk ⟨v6,dl0++[⟨b,a,fl⟩],junk++[.obj [vi b,vi a,vi fl]]⟩ (by simp; omega) ⟨by simp; omega,?_⟩ ⟨rfl,rfl,rfl,rfl,rfl,rfl,?_,trivial⟩ (by simp)
   ·intro x hx
    rcases List.mem_append.1 hx with hx | hx
    ·exact hds x hx
    ·rw [List.mem_singleton] at hx
     subst hx
     exact ⟨⟨by simp only; omega,by simp only; omega,by simp only; omega,by simp only; omega,by simp only; omega,by simp only; omega,by simp only; omega⟩,by simp only; omega⟩
   ·simp only [List.length_append,List.length_cons,List.length_nil]
    have e9:(nd:Int) - (dl0.length:Int) - 1 = (nd:Int) - ((dl0.length + 1:Nat):Int):=by omega
    show vi ((nd:Int) - (dl0.length:Int) - 1) = vi ((nd:Int) - ((dl0.length + 1:Nat):Int))
    rw [e9]
 have k2:((0:Int) < (nd:Int) - (dl0.length:Int)) = False:=eq_false (by omega)
 have hndl:dl0.length = nd:=by omega
 obtain ⟨dls,hdls⟩:∃ dls,dls = dl0:=⟨_,rfl⟩
 obtain ⟨J0,hJ0⟩:∃ J0,J0 = junk:=⟨_,rfl⟩
 subst hdls
 subst hJ0
 simp(maxSteps:=1000000)only[VL,VM,↓VG,reduceIte,reduceCtorEq,zA,zB,zC,zD,zE,zF,zG,zH,zI,zJ,k2]
 (repeat refine Ws ?_);refine Wf ?_
 (repeat refine Ws ?_);refine W_exit ?_
 simp(maxSteps:=1000000)only[VL,VM,↓VG,reduceIte,reduceCtorEq,zA,zB,zC,zD,zE,zF,zG,zH,zI,zJ]
 have rn:=castF_range (u:=v) (n:=P + 1) (by omega)
 (repeat refine Ws ?_);refine Wr ?_
 simp(maxSteps:=1000000)only[VL,VM,↓VG,reduceIte,reduceCtorEq,zA,zB,zC,zD,zE,zF,zG,zH,zI,zJ,kP]
 apply call_eq (f := 25) (fn:=Tryz.f25) (by kernel_rfl) (by rfl)
 ·exact cast_c hd' v (P + 1) lgA (by omega)
 generalize castU v (P + 1) = v1
 generalize castF v (P + 1) = now0 at rn ⊢
 simp(maxSteps:=1000000)only[VL,VM,↓VG,reduceIte,reduceCtorEq,zA,zB,zC,zD,zE,zF,zG,zH,zI,zJ]
 have c1:=castF_range (u:=v1) (n:=3) (by omega)
 (repeat refine Ws ?_);refine Wr ?_
 simp(maxSteps:=1000000)only[VL,VM,↓VG,reduceIte,reduceCtorEq,zA,zB,zC,zD,zE,zF,zG,zH,zI,zJ]
 apply call_eq (f := 25) (fn:=Tryz.f25) (by kernel_rfl) (by rfl)
 ·exact cast_c hd' v1 3 lgA (by omega)
 generalize castU v1 3 = v2
 generalize castF v1 3 = x1 at c1 ⊢
 have c2:=castF_range (u:=v2) (n:=3) (by omega)
 have k5 : -9223372036854775808≤now0 - x1∧now0 - x1 < 9223372036854775808:=by omega
 simp(maxSteps:=1000000)only[VL,VM,↓VG,reduceIte,reduceCtorEq,zA,zB,zC,zD,zE,zF,zG,zH,zI,zJ,k5]
 apply call_eq (f := 25) (fn:=Tryz.f25) (by kernel_rfl) (by rfl)
 ·exact cast_c hd' v2 3 lgA (by omega)
 generalize castU v2 3 = v3
 generalize castF v2 3 = x2 at c2 ⊢
 have k6 : -9223372036854775808≤now0 + x2∧now0 + x2 < 9223372036854775808:=by omega
 simp(maxSteps:=1000000)only[VL,VM,↓VG,reduceIte,reduceCtorEq,zA,zB,zC,zD,zE,zF,zG,zH,zI,zJ,k6,dg,dg0,ds,ds0,dl,da]
 obtain ⟨first,hfirst⟩:∃ first:Sp,first = ⟨max 0 (now0 - x1),now0 + x2⟩:=⟨_,rfl⟩
 have hf1:max 0 (now0 - x1) = first.lo:=by rw [hfirst]
 have hf2:now0 + x2 = first.hi:=by rw [hfirst]
 have hfo:SpOk first:=by rw [hfirst]; exact ⟨by simp only; omega,by simp only; omega,by simp only; omega⟩
 have hfi:In first now0:=by rw [hfirst]; exact ⟨by simp only; omega,by simp only; omega⟩
 rw [hf1,hf2]
 have kK : -9223372036854775808≤K + 1∧K + 1 < 9223372036854775808:=by omega
 have c3:=castF_range (u:=v3) (n:=K + 1) (by omega)
 (repeat refine Ws ?_);refine Wr ?_
 simp(maxSteps:=1000000)only[VL,VM,↓VG,reduceIte,reduceCtorEq,zA,zB,zC,zD,zE,zF,zG,zH,zI,zJ,kK]
 apply call_eq (f := 25) (fn:=Tryz.f25) (by kernel_rfl) (by rfl)
 ·exact cast_c hd' v3 (K + 1) lgA (by omega)
 generalize castU v3 (K + 1) = v4
 generalize castF v3 (K + 1) = w at c3 ⊢
 obtain ⟨T',rfl⟩:∃ m:Nat,w = (m:Int):=⟨w.toNat,by omega⟩
 have hTK:(T':Int)≤K:=by omega
 have hT12:T'≤12:=by omega
 simp(maxSteps:=1000000)only[VL,VM,↓VG,reduceIte,reduceCtorEq,zA,zB,zC,zD,zE,zF,zG,zH,zI,zJ,dg,dg0,ds,ds0,dl,da]
 (repeat refine Ws ?_);refine Wr ?_
 simp(maxSteps:=1000000)only[VL,VM,↓VG,reduceIte,reduceCtorEq,zA,zB,zC,zD,zE,zF,zG,zH,zI,zJ]
 (repeat refine Ws ?_);refine Wr ?_
 simp(maxSteps:=1000000)only[VL,VM,↓VG,reduceIte,reduceCtorEq,zA,zB,zC,zD,zE,zF,zG,zH,zI,zJ]
 have hnow0:0≤now0∧now0≤8000:=by omega
 clear c1 c2 c3 k5 k6 kK hf1 hf2 hfirst rn k2
 ((repeat refine Ws ?_);refine W_block ?_; (repeat refine Ws ?_)); refine W_loopS (fun s:HoC=>[(0,.ptr d 0),(4,vi P),(10,.ptr n 0),(11,.sf 0 []),(12,.ptr (n + 1) 0),(16,vi s.now),(17,tvOf n s.t J0.length s.ts),(18,vi s.t)]) (fun s=>⟨DH H0 d s.u (.obj zeroHo :: .obj [.so (n + 2) 1 (hs.map intP),.so (n + 3) 3 (dls.map doP),vi first.lo,vi first.hi,vi T',.so (n + 4) 6 (s.cs.map coP)] :: .clm hs.length 1 :: .clm dls.length 3 :: .clm s.cs.length 6 :: jkOf s.t J0),lgA⟩) (fun s=>T' - s.t) (fun s=>s.t≤T'∧Grow hs dls T' s.cs s.ts s.t 0 s.now∧s.ts.getD 0 0 = now0) ⟨v4,[],[now0],now0,0⟩ ⟨Nat.zero_le _,Grow.start hnow0.1 hnow0.2,rfl⟩ ⟨rfl,rfl,rfl,rfl,rfl,rfl,rfl,rfl,trivial⟩ rfl ?_
 rintro ⟨v,cs,ts,now,t⟩ ⟨hi,g,hts0⟩
 simp only at hi g hts0
 have k1 : -9223372036854775808≤(t:Int) + 1∧(t:Int) + 1 < 9223372036854775808:=by omega
 (repeat refine Ws ?_);refine Wr ?_
 rcases Nat.lt_or_ge t T' with hlt | hge
 ·have k2:((t:Int) < (T':Int)) = True:=eq_true (by omega)
  simp(maxSteps:=1000000)only[VL,VM,↓VG,reduceIte,reduceCtorEq,zA,zB,zC,zD,zE,zF,zG,zH,zI,zJ,dg,dg0,k2]
  (repeat refine Ws ?_);refine Wt ?_
  (repeat refine Ws ?_);refine W_skip ?_
  simp(maxSteps:=1000000)only[VL,VM,↓VG,reduceIte,reduceCtorEq,zA,zB,zC,zD,zE,zF,zG,zH,zI,zJ]
  (repeat refine Ws ?_);refine W_block ?_
  (repeat refine Ws ?_);refine Wr ?_
  simp(maxSteps:=1000000)only[VL,VM,↓VG,reduceIte,reduceCtorEq,zA,zB,zC,zD,zE,zF,zG,zH,zI,zJ]
  ((repeat refine Ws ?_);refine W_block ?_; (repeat refine Ws ?_)); refine W_loopS (fun s:HoD=>[(0,.ptr d 0),(4,vi P),(10,.ptr n 0),(11,.sf 0 []),(12,.ptr (n + 1) 0),(16,vi s.now),(17,tvOf n t J0.length ts),(18,vi t),(19,vi s.i)]) (fun s=>⟨DH H0 d s.u (.obj zeroHo :: .obj [.so (n + 2) 1 (hs.map intP),.so (n + 3) 3 (dls.map doP),vi first.lo,vi first.hi,vi T',.so (n + 4) 6 (s.cs.map coP)] :: .clm hs.length 1 :: .clm dls.length 3 :: .clm s.cs.length 6 :: jkOf t J0),lgA⟩) (fun s=>dls.length - s.i) (fun s=>s.i≤dls.length∧Grow hs dls T' s.cs ts t s.i s.now) ⟨v,cs,now,0⟩ ⟨Nat.zero_le _,g⟩ ⟨rfl,rfl,rfl,rfl,rfl,rfl,rfl,rfl,rfl,trivial⟩ rfl ?_
  clear g
  rintro ⟨v,cs,now,i⟩ ⟨hi2,g⟩
  simp only at hi2 g
  have j1 : -9223372036854775808≤(i:Int) + 1∧(i:Int) + 1 < 9223372036854775808:=by omega
  (repeat refine Ws ?_);refine Wr ?_
  rcases Nat.lt_or_ge i dls.length with hlt2 | hge2
  ·have j2:((i:Int) < (dls.length:Int)) = True:=eq_true (by omega)
   have hx:dls[i]? = some dls[i]:=List.getElem?_eq_getElem hlt2
   have hkd0:doAt ⟨hs,dls,⟨0,0⟩,T',[]⟩ (i:Int) = dls[i]:=by
    unfold doAt
    simp only [Int.toNat_natCast]
    rw [List.getD_eq_getElem?_getD,hx]; rfl
   generalize dls[i] = dd at hx hkd0
   have hx':=map_at (f:=doP) hx
   simp(maxSteps:=1000000)only[VL,VM,↓VG,reduceIte,reduceCtorEq,zA,zB,zC,zD,zE,zF,zG,zH,zI,zJ,dg,dg0,j2]
   (repeat refine Ws ?_);refine Wt ?_
   (repeat refine Ws ?_);refine W_skip ?_
   simp(maxSteps:=1000000)only[VL,VM,↓VG,reduceIte,reduceCtorEq,zA,zB,zC,zD,zE,zF,zG,zH,zI,zJ]
   (repeat refine Ws ?_);refine W_block ?_
   (repeat refine Ws ?_);refine Wr ?_
   by_cases hA:0≤dd.a
   ·have kA:(0≤dd.a) = True:=eq_true hA
    by_cases hB:0≤dd.b
    ·have kB:(0≤dd.b) = True:=eq_true hB
     simp(maxSteps:=1000000)only[VL,VM,↓VG,reduceIte,reduceCtorEq,zA,zB,zC,zD,zE,zF,zG,zH,zI,zJ,dg,dg0,ds,ds0,dl,da,hx',kA,kB]
     (repeat refine Ws ?_);refine Wt ?_
     (repeat refine Ws ?_);refine W_exit ?_
     simp(maxSteps:=1000000)only[VL,VM,↓VG,reduceIte,reduceCtorEq,zA,zB,zC,zD,zE,zF,zG,zH,zI,zJ]
     (repeat refine Ws ?_);refine Wr ?_
     simp(maxSteps:=1000000)only[VL,VM,↓VG,reduceIte,reduceCtorEq,zA,zB,zC,zD,zE,zF,zG,zH,zI,zJ,j1]
     refine LoopK.mk ⟨v,cs,now,i + 1⟩ (by simp only; omega) ⟨hlt2,g.skip⟩ ⟨rfl,rfl,rfl,rfl,rfl,rfl,rfl,rfl,rfl,trivial⟩ rfl
    have kB:(0≤dd.b) = False:=eq_false hB
    have hkd:¬ (0≤(doAt ⟨hs,dls,⟨0,0⟩,T',[]⟩ (i:Int)).a∧0≤(doAt ⟨hs,dls,⟨0,0⟩,T',[]⟩ (i:Int)).b):=by rw [hkd0]; exact fun q=>hB q.2
    simp(maxSteps:=1000000)only[VL,VM,↓VG,reduceIte,reduceCtorEq,zA,zB,zC,zD,zE,zF,zG,zH,zI,zJ,dg,dg0,ds,ds0,dl,da,hx',kA,kB]
    apply call_eq (f := 28) (fn:=Tryz.f28) (by kernel_rfl) (by rfl)
    ·exact once_c hd' v 3 lgA (by omega)
    generalize castU v 3 = v2
    cases onceF v 3
    rotate_left
    ·simp(maxSteps:=1000000)only[VL,VM,↓VG,reduceIte,reduceCtorEq,zA,zB,zC,zD,zE,zF,zG,zH,zI,zJ,dg,dg0,ds,ds0,dl,da]
     (repeat refine Ws ?_);refine Wt ?_
     (repeat refine Ws ?_);refine W_exit ?_
     simp(maxSteps:=1000000)only[VL,VM,↓VG,reduceIte,reduceCtorEq,zA,zB,zC,zD,zE,zF,zG,zH,zI,zJ]
     (repeat refine Ws ?_);refine Wr ?_
     simp(maxSteps:=1000000)only[VL,VM,↓VG,reduceIte,reduceCtorEq,zA,zB,zC,zD,zE,zF,zG,zH,zI,zJ,j1]
     refine LoopK.mk ⟨v2,cs,now,i + 1⟩ (by simp only; omega) ⟨hlt2,g.skip⟩ ⟨rfl,rfl,rfl,rfl,rfl,rfl,rfl,rfl,rfl,trivial⟩ rfl
    by_cases e24:cs.length = 24
    ·have k24:((cs.length:Int) = 24) = True:=eq_true (by omega)
     simp(maxSteps:=1000000)only[VL,VM,↓VG,reduceIte,reduceCtorEq,zA,zB,zC,zD,zE,zF,zG,zH,zI,zJ,dg,dg0,ds,ds0,dl,da,k24]
     (repeat refine Ws ?_);refine Wt ?_
     (repeat refine Ws ?_);refine W_exit ?_
     simp(maxSteps:=1000000)only[VL,VM,↓VG,reduceIte,reduceCtorEq,zA,zB,zC,zD,zE,zF,zG,zH,zI,zJ]
     (repeat refine Ws ?_);refine Wr ?_
     simp(maxSteps:=1000000)only[VL,VM,↓VG,reduceIte,reduceCtorEq,zA,zB,zC,zD,zE,zF,zG,zH,zI,zJ,j1]
     refine LoopK.mk ⟨v2,cs,now,i + 1⟩ (by simp only; omega) ⟨hlt2,g.skip⟩ ⟨rfl,rfl,rfl,rfl,rfl,rfl,rfl,rfl,rfl,trivial⟩ rfl
    have k24:((cs.length:Int) = 24) = False:=eq_false (by omega)
    have cl24:cs.length < 24:=by have:=g.c24; omega
    simp(maxSteps:=1000000)only[VL,VM,↓VG,reduceIte,reduceCtorEq,zA,zB,zC,zD,zE,zF,zG,zH,zI,zJ,dg,dg0,ds,ds0,dl,da,k24]
    (repeat refine Ws ?_);refine Wf ?_
    (repeat refine Ws ?_);refine W_skip ?_
    simp(maxSteps:=1000000)only[VL,VM,↓VG,reduceIte,reduceCtorEq,zA,zB,zC,zD,zE,zF,zG,zH,zI,zJ]
    have kq:0≤P∧P < 9223372036854775808:=by omega
    have kq2 : -9223372036854775808≤P / 2 + 1∧P / 2 + 1 < 9223372036854775808:=by omega
    have c2:=castF_range (u:=v2) (n:=P / 2 + 1) (by omega)
    have gn0:=g.now0
    have gn1:=g.now1
    (repeat refine Ws ?_);refine Wr ?_
    simp(maxSteps:=1000000)only[VL,VM,↓VG,reduceIte,reduceCtorEq,zA,zB,zC,zD,zE,zF,zG,zH,zI,zJ,kq,kq2]
    apply call_eq (f := 25) (fn:=Tryz.f25) (by kernel_rfl) (by rfl)
    ·exact cast_c hd' v2 (P / 2 + 1) lgA (by omega)
    generalize castF v2 (P / 2 + 1) = a at c2 ⊢
    generalize castU v2 (P / 2 + 1) = v3
    have k5 : -9223372036854775808≤now + a∧now + a < 9223372036854775808:=by omega
    have k6 : -9223372036854775808≤now + a - 8000∧now + a - 8000 < 9223372036854775808:=by omega
    have c3:=fromF_range (u:=v3) (lo:=max 0 (now + a - 8000)) (hi:=now + a) (by omega)
    simp(maxSteps:=1000000)only[VL,VM,↓VG,reduceIte,reduceCtorEq,zA,zB,zC,zD,zE,zF,zG,zH,zI,zJ]
    (repeat refine Ws ?_);refine Wr ?_
    simp(maxSteps:=1000000)only[VL,VM,↓VG,reduceIte,reduceCtorEq,zA,zB,zC,zD,zE,zF,zG,zH,zI,zJ,k5,k6]
    apply call_eq (f := 24) (fn:=Tryz.f24) (by kernel_rfl) (by rfl)
    ·exact from_c hd' v3 (max 0 (now + a - 8000)) (now + a) lgA (by omega) (by omega) (by omega) (by omega)
    generalize fromF v3 (max 0 (now + a - 8000)) (now + a) = b at c3 ⊢
    generalize fromU v3 (max 0 (now + a - 8000)) (now + a) = v4
    have k7 : -9223372036854775808≤now + a - b∧now + a - b < 9223372036854775808:=by omega
    simp(maxSteps:=1000000)only[VL,VM,↓VG,reduceIte,reduceCtorEq,zA,zB,zC,zD,zE,zF,zG,zH,zI,zJ]
    (repeat refine Ws ?_);refine Wr ?_
    simp(maxSteps:=1000000)only[VL,VM,↓VG,reduceIte,reduceCtorEq,zA,zB,zC,zD,zE,zF,zG,zH,zI,zJ,k5,k7]
    have za:0≤a∧a≤500:=by omega
    have zb:0≤b∧b≤8500:=by omega
    have ra:=aboutF_range (u:=v4) za.1
    have rb:=aboutF_range (u:=aboutU v4) zb.1
    have hsa:SpOk (aboutF v4 a):=⟨by omega,by omega,by omega⟩
    have hsb:SpOk (aboutF (aboutU v4) b):=⟨by omega,by omega,by omega⟩
    have g2:=g.add (c:=⟨t,i,aboutF v4 a,aboutF (aboutU v4) b⟩) (a:=a) (b:=b) rfl rfl ⟨by simp only; omega,by simp only; omega,by simp only; omega,by simp only; omega,hkd,hsa,hsb⟩ cl24 ⟨ra.2.1,ra.2.2.1⟩ ⟨rb.2.1,rb.2.2.1⟩ (by omega) (by omega)
    have q1:((cs.length + 1) * 48≤140737488355328) = True:=eq_true (by omega)
    (repeat refine Ws ?_)
    refine W_drawP T_ok [] (by kernel_rfl) (by kernel_rfl) ?_
    generalize hi:mkPlan _ = infs
    cbv at hi
    subst hi
    simp(maxSteps:=1000000)only[VL,VM,↓VG,reduceIte,reduceCtorEq,zA,zB,zC,zD,zE,zF,zG,zH,zI,zJ,dg,dg0,ds,ds0,dl,da]
    apply call_d (f := 29) (fn:=Tryz.f29) (by kernel_rfl) (by rfl)
    ·exact about_c hd' v4 a lgA za.1 (by omega)
    simp(maxSteps:=1000000)only[VL,VM,↓VG,reduceIte,reduceCtorEq,zA,zB,zC,zD,zE,zF,zG,zH,zI,zJ,dg,dg0,ds,ds0,dl,da]
    apply call_d (f := 29) (fn:=Tryz.f29) (by kernel_rfl) (by rfl)
    ·exact about_c hd' (aboutU v4) b lgA zb.1 (by omega)
    generalize aboutF v4 a = sa at g2 ⊢
    generalize aboutF (aboutU v4) b = sb at g2 ⊢
    generalize aboutU (aboutU v4) = v5
    simp(maxSteps:=1000000)only[VL,VM,↓VG,reduceIte,reduceCtorEq,zA,zB,zC,zD,zE,zF,zG,zH,zI,zJ,dg,dg0,ds,ds0,dl,da,q1,A4]
    (repeat refine Ws ?_);refine Wr ?_
    simp(maxSteps:=1000000)only[VL,VM,↓VG,reduceIte,reduceCtorEq,zA,zB,zC,zD,zE,zF,zG,zH,zI,zJ,j1]
    refine LoopK.mk ⟨v5,cs++[⟨t,i,sa,sb⟩],now + a - b,i + 1⟩ (by simp only; omega) ⟨hlt2,g2⟩ ⟨rfl,rfl,rfl,rfl,rfl,rfl,rfl,rfl,rfl,trivial⟩ (by simp)
   have kA:(0≤dd.a) = False:=eq_false hA
   have kB:=kA
   have hkd:¬ (0≤(doAt ⟨hs,dls,⟨0,0⟩,T',[]⟩ (i:Int)).a∧0≤(doAt ⟨hs,dls,⟨0,0⟩,T',[]⟩ (i:Int)).b):=by rw [hkd0]; exact fun q=>hA q.1
   simp(maxSteps:=1000000)only[VL,VM,↓VG,reduceIte,reduceCtorEq,zA,zB,zC,zD,zE,zF,zG,zH,zI,zJ,dg,dg0,ds,ds0,dl,da,hx',kA,kB]
   apply call_eq (f := 28) (fn:=Tryz.f28) (by kernel_rfl) (by rfl)
   ·exact once_c hd' v 3 lgA (by omega)
   generalize castU v 3 = v2
   cases onceF v 3
   rotate_left
   ·simp(maxSteps:=1000000)only[VL,VM,↓VG,reduceIte,reduceCtorEq,zA,zB,zC,zD,zE,zF,zG,zH,zI,zJ,dg,dg0,ds,ds0,dl,da]
    (repeat refine Ws ?_);refine Wt ?_
    (repeat refine Ws ?_);refine W_exit ?_
    simp(maxSteps:=1000000)only[VL,VM,↓VG,reduceIte,reduceCtorEq,zA,zB,zC,zD,zE,zF,zG,zH,zI,zJ]
    (repeat refine Ws ?_);refine Wr ?_
    simp(maxSteps:=1000000)only[VL,VM,↓VG,reduceIte,reduceCtorEq,zA,zB,zC,zD,zE,zF,zG,zH,zI,zJ,j1]
    refine LoopK.mk ⟨v2,cs,now,i + 1⟩ (by simp only; omega) ⟨hlt2,g.skip⟩ ⟨rfl,rfl,rfl,rfl,rfl,rfl,rfl,rfl,rfl,trivial⟩ rfl
   by_cases e24:cs.length = 24
   ·have k24:((cs.length:Int) = 24) = True:=eq_true (by omega)
    simp(maxSteps:=1000000)only[VL,VM,↓VG,reduceIte,reduceCtorEq,zA,zB,zC,zD,zE,zF,zG,zH,zI,zJ,dg,dg0,ds,ds0,dl,da,k24]
    (repeat refine Ws ?_);refine Wt ?_
    (repeat refine Ws ?_);refine W_exit ?_
    simp(maxSteps:=1000000)only[VL,VM,↓VG,reduceIte,reduceCtorEq,zA,zB,zC,zD,zE,zF,zG,zH,zI,zJ]
    (repeat refine Ws ?_);refine Wr ?_
    simp(maxSteps:=1000000)only[VL,VM,↓VG,reduceIte,reduceCtorEq,zA,zB,zC,zD,zE,zF,zG,zH,zI,zJ,j1]
    refine LoopK.mk ⟨v2,cs,now,i + 1⟩ (by simp only; omega) ⟨hlt2,g.skip⟩ ⟨rfl,rfl,rfl,rfl,rfl,rfl,rfl,rfl,rfl,trivial⟩ rfl
   have k24:((cs.length:Int) = 24) = False:=eq_false (by omega)
   have cl24:cs.length < 24:=by have:=g.c24; omega
   simp(maxSteps:=1000000)only[VL,VM,↓VG,reduceIte,reduceCtorEq,zA,zB,zC,zD,zE,zF,zG,zH,zI,zJ,dg,dg0,ds,ds0,dl,da,k24]
   (repeat refine Ws ?_);refine Wf ?_
   (repeat refine Ws ?_);refine W_skip ?_
   simp(maxSteps:=1000000)only[VL,VM,↓VG,reduceIte,reduceCtorEq,zA,zB,zC,zD,zE,zF,zG,zH,zI,zJ]
   have kq:0≤P∧P < 9223372036854775808:=by omega
   have kq2 : -9223372036854775808≤P / 2 + 1∧P / 2 + 1 < 9223372036854775808:=by omega
   have c2:=castF_range (u:=v2) (n:=P / 2 + 1) (by omega)
   have gn0:=g.now0
   have gn1:=g.now1
   (repeat refine Ws ?_);refine Wr ?_
   simp(maxSteps:=1000000)only[VL,VM,↓VG,reduceIte,reduceCtorEq,zA,zB,zC,zD,zE,zF,zG,zH,zI,zJ,kq,kq2]
   apply call_eq (f := 25) (fn:=Tryz.f25) (by kernel_rfl) (by rfl)
   ·exact cast_c hd' v2 (P / 2 + 1) lgA (by omega)
   generalize castF v2 (P / 2 + 1) = a at c2 ⊢
   generalize castU v2 (P / 2 + 1) = v3
   have k5 : -9223372036854775808≤now + a∧now + a < 9223372036854775808:=by omega
   have k6 : -9223372036854775808≤now + a - 8000∧now + a - 8000 < 9223372036854775808:=by omega
   have c3:=fromF_range (u:=v3) (lo:=max 0 (now + a - 8000)) (hi:=now + a) (by omega)
   simp(maxSteps:=1000000)only[VL,VM,↓VG,reduceIte,reduceCtorEq,zA,zB,zC,zD,zE,zF,zG,zH,zI,zJ]
   (repeat refine Ws ?_);refine Wr ?_
   simp(maxSteps:=1000000)only[VL,VM,↓VG,reduceIte,reduceCtorEq,zA,zB,zC,zD,zE,zF,zG,zH,zI,zJ,k5,k6]
   apply call_eq (f := 24) (fn:=Tryz.f24) (by kernel_rfl) (by rfl)
   ·exact from_c hd' v3 (max 0 (now + a - 8000)) (now + a) lgA (by omega) (by omega) (by omega) (by omega)
   generalize fromF v3 (max 0 (now + a - 8000)) (now + a) = b at c3 ⊢
   generalize fromU v3 (max 0 (now + a - 8000)) (now + a) = v4
   have k7 : -9223372036854775808≤now + a - b∧now + a - b < 9223372036854775808:=by omega
   simp(maxSteps:=1000000)only[VL,VM,↓VG,reduceIte,reduceCtorEq,zA,zB,zC,zD,zE,zF,zG,zH,zI,zJ]
   (repeat refine Ws ?_);refine Wr ?_
   simp(maxSteps:=1000000)only[VL,VM,↓VG,reduceIte,reduceCtorEq,zA,zB,zC,zD,zE,zF,zG,zH,zI,zJ,k5,k7]
   have za:0≤a∧a≤500:=by omega
   have zb:0≤b∧b≤8500:=by omega
   have ra:=aboutF_range (u:=v4) za.1
   have rb:=aboutF_range (u:=aboutU v4) zb.1
   have hsa:SpOk (aboutF v4 a):=⟨by omega,by omega,by omega⟩
   have hsb:SpOk (aboutF (aboutU v4) b):=⟨by omega,by omega,by omega⟩
   have g2:=g.add (c:=⟨t,i,aboutF v4 a,aboutF (aboutU v4) b⟩) (a:=a) (b:=b) rfl rfl ⟨by simp only; omega,by simp only; omega,by simp only; omega,by simp only; omega,hkd,hsa,hsb⟩ cl24 ⟨ra.2.1,ra.2.2.1⟩ ⟨rb.2.1,rb.2.2.1⟩ (by omega) (by omega)
   have q1:((cs.length + 1) * 48≤140737488355328) = True:=eq_true (by omega)
   (repeat refine Ws ?_)
   refine W_drawP T_ok [] (by kernel_rfl) (by kernel_rfl) ?_
   generalize hi:mkPlan _ = infs
   cbv at hi
   subst hi
   simp(maxSteps:=1000000)only[VL,VM,↓VG,reduceIte,reduceCtorEq,zA,zB,zC,zD,zE,zF,zG,zH,zI,zJ,dg,dg0,ds,ds0,dl,da]
   apply call_d (f := 29) (fn:=Tryz.f29) (by kernel_rfl) (by rfl)
   ·exact about_c hd' v4 a lgA za.1 (by omega)
   simp(maxSteps:=1000000)only[VL,VM,↓VG,reduceIte,reduceCtorEq,zA,zB,zC,zD,zE,zF,zG,zH,zI,zJ,dg,dg0,ds,ds0,dl,da]
   apply call_d (f := 29) (fn:=Tryz.f29) (by kernel_rfl) (by rfl)
   ·exact about_c hd' (aboutU v4) b lgA zb.1 (by omega)
   generalize aboutF v4 a = sa at g2 ⊢
   generalize aboutF (aboutU v4) b = sb at g2 ⊢
   generalize aboutU (aboutU v4) = v5
   simp(maxSteps:=1000000)only[VL,VM,↓VG,reduceIte,reduceCtorEq,zA,zB,zC,zD,zE,zF,zG,zH,zI,zJ,dg,dg0,ds,ds0,dl,da,q1,A4]
   (repeat refine Ws ?_);refine Wr ?_
   simp(maxSteps:=1000000)only[VL,VM,↓VG,reduceIte,reduceCtorEq,zA,zB,zC,zD,zE,zF,zG,zH,zI,zJ,j1]
   refine LoopK.mk ⟨v5,cs++[⟨t,i,sa,sb⟩],now + a - b,i + 1⟩ (by simp only; omega) ⟨hlt2,g2⟩ ⟨rfl,rfl,rfl,rfl,rfl,rfl,rfl,rfl,rfl,trivial⟩ (by simp)
  have j2:((i:Int) < (dls.length:Int)) = False:=eq_false (by omega)
  have g3:=g.tick g.ticks
  have hts1:(ts++[now]).getD 0 0 = now0:=by
   rw [← hts0,List.getD_eq_getElem?_getD,List.getElem?_append_left (by rw [g.len]; omega),← List.getD_eq_getElem?_getD]
  simp(maxSteps:=1000000)only[VL,VM,↓VG,reduceIte,reduceCtorEq,zA,zB,zC,zD,zE,zF,zG,zH,zI,zJ,dg,dg0,j2]
  (repeat refine Ws ?_);refine Wf ?_
  (repeat refine Ws ?_);refine W_exit ?_
  simp(maxSteps:=1000000)only[VL,VM,↓VG,reduceIte,reduceCtorEq,zA,zB,zC,zD,zE,zF,zG,zH,zI,zJ]
  rcases t with _ | p
  ·obtain ⟨x,rfl⟩:=List.length_eq_one_iff.1 g.len
   have z0:tvOf n 0 J0.length [x] = .sf 1 ([x].map intP):=rfl
   have z1:jkOf 0 J0 = J0:=rfl
   (repeat refine Ws ?_);refine Wr ?_
   simp(maxSteps:=1000000)only[VL,VM,↓VG,reduceIte,reduceCtorEq,zA,zB,zC,zD,zE,zF,zG,zH,zI,zJ,z0,z1,dg,dg0,ds,ds0,dl,da]
   (repeat refine Ws ?_);refine Wr ?_
   simp(maxSteps:=1000000)only[VL,VM,↓VG,reduceIte,reduceCtorEq,zA,zB,zC,zD,zE,zF,zG,zH,zI,zJ,k1]
   refine LoopK.mk ⟨v,cs,[x]++[now],now,0 + 1⟩ (by simp only; omega) ⟨hlt,g3,hts1⟩ ⟨rfl,rfl,rfl,rfl,rfl,rfl,rfl,rfl,trivial⟩ rfl
  ·have hgl:ts.length = p + 2:=g.len
   have z0:tvOf n (p + 1) J0.length ts = .so (n + (J0.length + 5)) 1 (ts.map intP):=rfl
   have z1:jkOf (p + 1) J0 = J0++[.clm (p + 2) 1]:=rfl
   have q1:((p + 3) * 8≤140737488355328) = True:=eq_true (by omega)
   (repeat refine Ws ?_);refine Wr ?_
   simp(maxSteps:=1000000)only[VL,VM,↓VG,reduceIte,reduceCtorEq,zA,zB,zC,zD,zE,zF,zG,zH,zI,zJ,z0,z1,dg,dg0,ds,ds0,dl,da,hgl,q1]
   (repeat refine Ws ?_);refine Wr ?_
   simp(maxSteps:=1000000)only[VL,VM,↓VG,reduceIte,reduceCtorEq,zA,zB,zC,zD,zE,zF,zG,zH,zI,zJ,k1]
   refine LoopK.mk ⟨v,cs,ts++[now],now,p + 1 + 1⟩ (by simp only; omega) ⟨hlt,g3,hts1⟩ ⟨rfl,rfl,rfl,rfl,rfl,rfl,?_,rfl,trivial⟩ rfl
   simp [get_cons,tvOf]
 have k2:((t:Int) < (T':Int)) = False:=eq_false (by omega)
 have ht3:t = T':=by omega
 subst ht3
 simp(maxSteps:=1000000)only[VL,VM,↓VG,reduceIte,reduceCtorEq,zA,zB,zC,zD,zE,zF,zG,zH,zI,zJ,dg,dg0,k2]
 (repeat refine Ws ?_);refine Wf ?_
 (repeat refine Ws ?_);refine W_exit ?_
 simp(maxSteps:=1000000)only[VL,VM,↓VG,reduceIte,reduceCtorEq,zA,zB,zC,zD,zE,zF,zG,zH,zI,zJ]
 (repeat refine Ws ?_);refine Wr ?_
 simp(maxSteps:=1000000)only[VL,VM,↓VG,reduceIte,reduceCtorEq,zA,zB,zC,zD,zE,zF,zG,zH,zI,zJ,dg,dg0,ds,ds0,dl,da]
 have hmade:MadeH W D K P ⟨hs,dls,first,t,cs⟩ ts:=MadeH.of g (by omega) (by omega) hhs (by omega) (by omega) hds hfo hT12 (by rw [hts0]; exact hfi) (by omega) (by omega) hTK
 (repeat refine Ws ?_)
 refine W_ret ?_
 try simp only [thenQ,blockQ]
 refine ⟨.inr rfl,rfl,⟨[(n + 1,n + 2),(n + 1,n + 3),(n + 1,n + 4)],by rw [hlg],fun e he => ?_⟩,DH H0 d v [],_,DH_eq hd',by rw [DH_len,DH_len],[houseV ⟨hs,dls,first,t,cs⟩,tvOf n t J0.length ts],?_,.tup [houseV ⟨hs,dls,first,t,cs⟩,intsV ts],?_,by simp [refs,refsL],⟨hs,dls,first,t,cs⟩,ts,v,rfl,rfl,hmade⟩
 ·rw [DH_len]
  simp only [List.length_nil,Nat.add_zero]
  rw [hn]
  simp only [List.mem_cons,List.not_mem_nil,or_false] at he
  rcases he with rfl | rfl | rfl <;> simp
 ·simp [Tryz.f7,vresL,get_cons,vload,t_house,dg0,nat_ble,strip1]
 ·unfold tvOf
  split <;> simp [vtup,frz,frzL]
end Go.Proofs.YtekhddlngbppkaaGreatDoor.Vm
