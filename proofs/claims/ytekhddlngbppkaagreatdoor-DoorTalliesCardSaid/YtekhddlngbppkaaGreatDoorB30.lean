/- A part of the proofs about the doors; no condition. -/
import Derived.Test.YtekhddlngbppkaaGreatDoorB18
import Derived.Test.YtekhddlngbppkaaGreatDoorB19
import Derived.Test.YtekhddlngbppkaaGreatDoorB21
import Derived.Test.YtekhddlngbppkaaGreatDoorB28
import Derived.Test.YtekhddlngbppkaaGreatDoorB29
set_option linter.unusedVariables false
set_option linter.unusedSimpArgs false
open Int renaming reduceLE → zA, reduceLT → zB, reduceToNat → zC, reduceNeg → zD
open Nat renaming reduceLT → zE, reduceEqDiff → zF, reduceAdd → zG, reduceSub → zH, reduceMul → zI, reduceLeDiff → zJ
/- Inside, and the chapter's examples as values. (Vm) -/
namespace Go.Proofs.YtekhddlngbppkaaGreatDoor.Vm
open Go Go.Proofs
def insideR (h:Ho):VV:=if houseErr h = 0 then (match insideH h with
 | some l => .tup [spsV l,vi 0]
 | none => .tup [.p (.sl 0 []),vi 9]) else .tup [.p (.sl 0 []),vi (houseErr h)]
theorem Inside_v (h:Ho) (M:Mem) (hl:h.holds.length≤1000000) (hld:h.doors.length≤1000000) (hlc:h.counts.length≤1000000):VC Tryz.prog 15 [houseV h] M (fun r M'=>M' = M∧r = insideR h):=by
 refine VC_own' T_ok (f := 15) (fn:=Tryz.f15) (by kernel_rfl) rfl Tryz.ntmps15 (by rfl) (by rfl) ?_
 (repeat refine Ws ?_);refine Wr ?_
 simp(maxSteps:=1000000)only[VL,VM,↓VG,reduceIte,reduceCtorEq,zA,zB,zC,zD,zE,zF,zG,zH,zI,zJ]
 (repeat refine Ws ?_);refine Wr ?_
 simp(maxSteps:=1000000)only[VL,VM,↓VG,reduceIte,reduceCtorEq,zA,zB,zC,zD,zE,zF,zG,zH,zI,zJ]
 apply call_eq (f := 31) (fn:=Tryz.f31) (by kernel_rfl) (by rfl)
 ·exact check_v h _ hl hld hlc
 simp(maxSteps:=1000000)only[VL,VM,↓VG,reduceIte,reduceCtorEq,zA,zB,zC,zD,zE,zF,zG,zH,zI,zJ]
 (repeat refine Ws ?_);refine Wr ?_
 by_cases a1:houseErr h = 0
 rotate_left
 ·simp(maxSteps:=1000000)only[VL,VM,↓VG,reduceIte,reduceCtorEq,zA,zB,zC,zD,zE,zF,zG,zH,zI,zJ,a1]
  (repeat refine Ws ?_);refine Wt ?_
  (repeat refine Ws ?_);refine Wr ?_
  simp(maxSteps:=1000000)only[VL,VM,↓VG,reduceIte,reduceCtorEq,zA,zB,zC,zD,zE,zF,zG,zH,zI,zJ]
  (repeat refine Ws ?_)
  refine W_ret ?_
  try simp only [thenQ,blockQ]
  refine own_ret (vs:=[.sf 0 [],vi (houseErr h)]) (r:=.tup [.p (.sl 0 []),vi (houseErr h)]) rfl (by simp [vtup,frz,frzL]) (by simp [refs,refsL]) ⟨rfl,?_⟩
  unfold insideR
  rw [if_neg a1]
 simp(maxSteps:=1000000)only[VL,VM,↓VG,reduceIte,reduceCtorEq,zA,zB,zC,zD,zE,zF,zG,zH,zI,zJ,a1]
 (repeat refine Ws ?_);refine Wf ?_
 (repeat refine Ws ?_);refine W_skip ?_
 simp(maxSteps:=1000000)only[VL,VM,↓VG,reduceIte,reduceCtorEq,zA,zB,zC,zD,zE,zF,zG,zH,zI,zJ]
 (repeat refine Ws ?_);refine Wr ?_
 simp(maxSteps:=1000000)only[VL,VM,↓VG,reduceIte,reduceCtorEq,zA,zB,zC,zD,zE,zF,zG,zH,zI,zJ]
 apply call_eq (f := 45) (fn:=Tryz.f45) (by kernel_rfl) (by rfl)
 ·exact inside_v h (houseErr_ok.1 a1) _
 have hR:insideR h = (match insideH h with
  | some l => .tup [spsV l,vi 0]
  | none => .tup [.p (.sl 0 []),vi 9]):=if_pos a1
 unfold insR
 cases hi:insideH h with
 | none =>
  rw [hi] at hR
  simp(maxSteps:=1000000)only[VL,VM,↓VG,reduceIte,reduceCtorEq,zA,zB,zC,zD,zE,zF,zG,zH,zI,zJ]
  (repeat refine Ws ?_);refine Wr ?_
  simp(maxSteps:=1000000)only[VL,VM,↓VG,reduceIte,reduceCtorEq,zA,zB,zC,zD,zE,zF,zG,zH,zI,zJ]
  (repeat refine Ws ?_);refine Wt ?_
  (repeat refine Ws ?_);refine Wr ?_
  simp(maxSteps:=1000000)only[VL,VM,↓VG,reduceIte,reduceCtorEq,zA,zB,zC,zD,zE,zF,zG,zH,zI,zJ]
  (repeat refine Ws ?_)
  refine W_ret ?_
  try simp only [thenQ,blockQ]
  refine own_ret (vs:=[.sf 0 [],vi 9]) (r:=.tup [.p (.sl 0 []),vi 9]) rfl (by simp [vtup,frz,frzL]) (by simp [refs,refsL]) ⟨rfl,hR.symm⟩
 | some l =>
  rw [hi] at hR
  simp(maxSteps:=1000000)only[VL,VM,↓VG,reduceIte,reduceCtorEq,zA,zB,zC,zD,zE,zF,zG,zH,zI,zJ]
  (repeat refine Ws ?_);refine Wr ?_
  simp(maxSteps:=1000000)only[VL,VM,↓VG,reduceIte,reduceCtorEq,zA,zB,zC,zD,zE,zF,zG,zH,zI,zJ]
  (repeat refine Ws ?_);refine Wf ?_
  (repeat refine Ws ?_);refine W_skip ?_
  simp(maxSteps:=1000000)only[VL,VM,↓VG,reduceIte,reduceCtorEq,zA,zB,zC,zD,zE,zF,zG,zH,zI,zJ]
  (repeat refine Ws ?_);refine Wr ?_
  simp(maxSteps:=1000000)only[VL,VM,↓VG,reduceIte,reduceCtorEq,zA,zB,zC,zD,zE,zF,zG,zH,zI,zJ]
  (repeat refine Ws ?_)
  refine W_ret ?_
  try simp only [thenQ,blockQ]
  refine own_ret (vs:=[spsV l,vi 0]) (r:=.tup [spsV l,vi 0]) rfl (by simp [vtup,frz,frzL]) (by simp [refs,refsL]) ⟨rfl,hR.symm⟩
theorem spanl_v (a b:Int) (M:Mem):VC Tryz.prog 22 [vi a,vi b] M (fun r M'=>M' = M∧r = spV ⟨a,b⟩):=by
 refine VC_own' T_ok (f := 22) (fn:=Tryz.f22) (by kernel_rfl) rfl Tryz.ntmps22 (by rfl) (by rfl) ?_
 (repeat refine Ws ?_);refine Wr ?_
 simp(maxSteps:=1000000)only[VL,VM,↓VG,reduceIte,reduceCtorEq,zA,zB,zC,zD,zE,zF,zG,zH,zI,zJ]
 (repeat refine Ws ?_);refine Wr ?_
 simp(maxSteps:=1000000)only[VL,VM,↓VG,reduceIte,reduceCtorEq,zA,zB,zC,zD,zE,zF,zG,zH,zI,zJ]
 (repeat refine Ws ?_)
 refine W_ret ?_
 try simp only [thenQ,blockQ]
 refine own_ret (L:=[.obj [vi a,vi b]]) (vs:=[spV ⟨a,b⟩]) ?_ rfl rfl ⟨rfl,rfl⟩
 simp [Tryz.f22,vresL,vload,t_span,get_cons,hget0,strip1]
 rfl
end Go.Proofs.YtekhddlngbppkaaGreatDoor.Vm
namespace Go.Proofs.YtekhddlngbppkaaGreatDoor
def hH:Ho:=⟨[100,50],[⟨0,-1,20⟩,⟨0,1,10⟩,⟨1,-1,5⟩],⟨10,15⟩,3,[⟨0,0,⟨20,25⟩,⟨0,5⟩⟩,⟨1,0,⟨5,5⟩,⟨10,20⟩⟩,⟨2,2,⟨0,0⟩,⟨30,30⟩⟩]⟩
def kK:Kn:=⟨[30,20,40],[⟨0,0,25⟩,⟨0,2,40⟩,⟨1,1,30⟩]⟩
theorem hH_err:houseErr hH = 0:=by decide +kernel
theorem hH_inside:insideH hH = some [⟨10,15⟩,⟨35,40⟩,⟨30,35⟩,⟨0,5⟩]:=by decide +kernel
theorem kK_err:kitErr kK = 0:=by decide +kernel
end Go.Proofs.YtekhddlngbppkaaGreatDoor
namespace Go.Proofs.YtekhddlngbppkaaGreatDoor.Vm
open Go Go.Proofs
theorem house_v (M:Mem):VC Tryz.prog 16 [] M (fun r M'=>M' = M∧r = houseV hH):=by
 refine VC_own' T_ok (f := 16) (fn:=Tryz.f16) (by kernel_rfl) rfl Tryz.ntmps16 (by rfl) (by rfl) ?_
 (repeat refine Ws ?_);refine Wr ?_
 simp(maxSteps:=1000000)only[VL,VM,↓VG,reduceIte,reduceCtorEq,zA,zB,zC,zD,zE,zF,zG,zH,zI,zJ]
 (repeat refine Ws ?_);refine Wr ?_
 simp(maxSteps:=1000000)only[VL,VM,↓VG,reduceIte,reduceCtorEq,zA,zB,zC,zD,zE,zF,zG,zH,zI,zJ]
 apply call_eq (f := 22) (fn:=Tryz.f22) (by kernel_rfl) (by rfl)
 ·exact spanl_v 10 15 _
 simp(maxSteps:=1000000)only[VL,VM,↓VG,reduceIte,reduceCtorEq,zA,zB,zC,zD,zE,zF,zG,zH,zI,zJ]
 apply call_eq (f := 22) (fn:=Tryz.f22) (by kernel_rfl) (by rfl)
 ·exact spanl_v 20 25 _
 simp(maxSteps:=1000000)only[VL,VM,↓VG,reduceIte,reduceCtorEq,zA,zB,zC,zD,zE,zF,zG,zH,zI,zJ]
 apply call_eq (f := 22) (fn:=Tryz.f22) (by kernel_rfl) (by rfl)
 ·exact spanl_v 0 5 _
 simp(maxSteps:=1000000)only[VL,VM,↓VG,reduceIte,reduceCtorEq,zA,zB,zC,zD,zE,zF,zG,zH,zI,zJ]
 apply call_eq (f := 22) (fn:=Tryz.f22) (by kernel_rfl) (by rfl)
 ·exact spanl_v 5 5 _
 simp(maxSteps:=1000000)only[VL,VM,↓VG,reduceIte,reduceCtorEq,zA,zB,zC,zD,zE,zF,zG,zH,zI,zJ]
 apply call_eq (f := 22) (fn:=Tryz.f22) (by kernel_rfl) (by rfl)
 ·exact spanl_v 10 20 _
 simp(maxSteps:=1000000)only[VL,VM,↓VG,reduceIte,reduceCtorEq,zA,zB,zC,zD,zE,zF,zG,zH,zI,zJ]
 apply call_eq (f := 22) (fn:=Tryz.f22) (by kernel_rfl) (by rfl)
 ·exact spanl_v 30 30 _
 simp(maxSteps:=1000000)only[VL,VM,↓VG,reduceIte,reduceCtorEq,zA,zB,zC,zD,zE,zF,zG,zH,zI,zJ]
 (repeat refine Ws ?_)
 refine W_ret ?_
 try simp only [thenQ,blockQ]
 refine own_ret (vs:=[houseV hH]) ?_ rfl rfl ⟨rfl,rfl⟩
 simp [Tryz.f16,vresL,vload,t_house,get_cons,hget0,strip1]
 rfl
theorem kitchen_v (M:Mem):VC Tryz.prog 20 [] M (fun r M'=>M' = M∧r = kitV kK):=by
 refine VC_own' T_ok (f := 20) (fn:=Tryz.f20) (by kernel_rfl) rfl Tryz.ntmps20 (by rfl) (by rfl) ?_
 (repeat refine Ws ?_);refine Wr ?_
 simp(maxSteps:=1000000)only[VL,VM,↓VG,reduceIte,reduceCtorEq,zA,zB,zC,zD,zE,zF,zG,zH,zI,zJ]
 (repeat refine Ws ?_);refine Wr ?_
 simp(maxSteps:=1000000)only[VL,VM,↓VG,reduceIte,reduceCtorEq,zA,zB,zC,zD,zE,zF,zG,zH,zI,zJ]
 (repeat refine Ws ?_)
 refine W_ret ?_
 try simp only [thenQ,blockQ]
 refine own_ret (vs:=[kitV kK]) ?_ rfl rfl ⟨rfl,rfl⟩
 simp [Tryz.f20,vresL,vload,t_kitchen,get_cons,hget0,strip1]
 rfl
end Go.Proofs.YtekhddlngbppkaaGreatDoor.Vm

/- Flows in numbers: a certificate that a computer checks. -/
namespace Go.Proofs.YtekhddlngbppkaaGreatDoor
structure Wn where
 fr:Nat
 to:Nat
 most:Nat
 deriving DecidableEq
def Wn.wa (w:Wn):Wa:=⟨w.fr,w.to,(w.most:Int)⟩
def atN (R:List (List Nat)) (i j:Nat):Nat:=(R.getD i []).getD j 0
def updN (R:List (List Nat)) (i j x:Nat):List (List Nat):=R.set i ((R.getD i []).set j x)
def zerosN (N:Nat):List (List Nat):=List.replicate N (List.replicate N 0)
def tabN (N:Nat) (ws:List Wn):List (List Nat):=ws.foldl (fun R w=>updN R w.fr w.to (Nat.add (atN R w.fr w.to) w.most)) (zerosN N)
def intT (R:List (List Nat)):List (List Int):=R.map fun r=>r.map fun n:Nat=>(n:Int)
theorem intT_at (R:List (List Nat)) (i j:Nat):at2 (intT R) i j = ((atN R i j:Nat):Int):=by
 unfold at2 atN intT
 simp only [List.getD_eq_getElem?_getD,List.getElem?_map]
 cases R[i]? with
 | none=>simp
 | some r =>
  simp only [Option.map_some,Option.getD_some,List.getElem?_map]
  cases r[j]? <;> simp
theorem intT_upd (R:List (List Nat)) (i j x:Nat):intT (updN R i j x) = upd2 (intT R) i j (x:Int):=by
 unfold intT updN upd2
 rw [List.map_set,List.map_set]
 congr 2
 simp only [List.getD_eq_getElem?_getD,List.getElem?_map]
 cases R[i]? <;> simp
theorem intT_tab (N:Nat) (ws:List Wn):tabOfW N (ws.map Wn.wa) = intT (tabN N ws):=by
 have key:∀ (ws:List Wn) (R:List (List Nat)),(ws.map Wn.wa).foldl add2 (intT R) = intT (ws.foldl (fun R w=>updN R w.fr w.to (Nat.add (atN R w.fr w.to) w.most)) R):=by
  intro ws
  induction ws with
  | nil=>intro R; rfl
  | cons w ws ih =>
   intro R
   rw [List.map_cons,List.foldl_cons,List.foldl_cons,← ih,intT_upd]
   congr 1
   unfold add2 Wn.wa
   simp only [intT_at]
   congr 1
 have h0:zeros2 N = intT (zerosN N):=by simp [zeros2,zerosN,intT]
 unfold tabOfW tabN
 rw [h0]
 exact key ws _
def rangeB:Nat→(Nat→Bool)→Bool
 | 0,_=>true
 | n + 1,f=>(f n).and (rangeB n f)
theorem rangeB_ok {f:Nat→Bool}:∀ {n:Nat},rangeB n f = true→∀ i,i < n→f i = true
 | n + 1,h,i,hi=>by
  simp only [rangeB,Bool.and_eq_true] at h
  rcases Nat.lt_succ_iff_lt_or_eq.1 hi with q | rfl
  ·exact rangeB_ok h.2 i q
  ·exact h.1
def sumUp:Nat→(Nat→Nat)→Nat
 | 0,_=>0
 | n + 1,f=>Nat.add (sumUp n f) (f n)
theorem sumUp_int (f:Nat→Nat):∀ n,((sumUp n f:Nat):Int) = sumTo n fun i=>((f i:Nat):Int)
 | 0=>rfl
 | n + 1=>by
  rw [sumTo_succ,← sumUp_int f n]
  rfl
def cutN (N:Nat) (C:List (List Nat)) (S:List Bool):Nat:=sumUp N fun i=>cond (S.getD i false) (sumUp N fun j=>cond (S.getD j false) 0 (atN C i j)) 0
def certN (N:Nat) (C R:List (List Nat)) (S:List Bool) (v:Nat):Bool :=
 (rangeB N fun i=>rangeB N fun j=>Nat.beq (Nat.add (atN R i j) (atN R j i)) (Nat.add (atN C i j) (atN C j i))).and
 ((Nat.beq (sumUp N (atN C 0)) (Nat.add (sumUp N (atN R 0)) v)).and
 ((rangeB N fun i=>(Nat.beq i 0).or ((Nat.beq i 1).or (Nat.beq (sumUp N (atN C i)) (sumUp N (atN R i))))).and
 ((S.getD 0 false).and ((!S.getD 1 false).and (Nat.beq (cutN N C S) v)))))
theorem certN_ok {N:Nat} {C R:List (List Nat)} {S:List Bool} {v:Nat} (h:certN N C R S v = true):MF N (intT C) (v:Int):=by
 unfold certN at h
 simp only [Bool.and_eq_true] at h
 obtain ⟨h1,h2,h3,h4,h5,h6⟩:=h
 refine ⟨⟨intT R,?_,?_,?_,?_⟩,fun i=>S.getD i false,h4,by simpa using h5,?_⟩
 ·intro i j _ _
  rw [intT_at]; omega
 ·intro i j hi hj
  have:=Nat.eq_of_beq_eq_true (rangeB_ok (rangeB_ok h1 i hi) j hj)
  simp only [intT_at]
  have e:atN R i j + atN R j i = atN C i j + atN C j i:=this
  omega
 ·rw [sumTo_sub]
  have e:sumUp N (atN C 0) = sumUp N (atN R 0) + v:=Nat.eq_of_beq_eq_true h2
  have a:=sumUp_int (atN C 0) N
  have b:=sumUp_int (atN R 0) N
  rw [show at2 (intT C) 0 = fun j=>((atN C 0 j:Nat):Int) from funext (intT_at C 0),show at2 (intT R) 0 = fun j=>((atN R 0 j:Nat):Int) from funext (intT_at R 0)]
  omega
 ·intro i hi h0 h1'
  have:=rangeB_ok h3 i hi
  simp only [Bool.or_eq_true] at this
  rcases this with q | q | q
  ·exact absurd (Nat.eq_of_beq_eq_true q) h0
  ·exact absurd (Nat.eq_of_beq_eq_true q) h1'
  ·have e:sumUp N (atN C i) = sumUp N (atN R i):=Nat.eq_of_beq_eq_true q
   have a:=sumUp_int (atN C i) N
   have b:=sumUp_int (atN R i) N
   rw [sumTo_sub]
   rw [show at2 (intT C) i = fun j=>((atN C i j:Nat):Int) from funext (intT_at C i),show at2 (intT R) i = fun j=>((atN R i j:Nat):Int) from funext (intT_at R i)]
   omega
 ·have e:cutN N C S = v:=Nat.eq_of_beq_eq_true h6
  rw [← e]
  unfold cutOf cutN
  rw [sumUp_int]
  refine sumTo_congr fun i hi => ?_
  show (sumTo N fun j=>if (S.getD i false && !S.getD j false) = true then at2 (intT C) i j else 0) = ((cond (S.getD i false) (sumUp N fun j=>cond (S.getD j false) 0 (atN C i j)) 0:Nat):Int)
  cases S.getD i false with
  | false =>
   have h0:=sumTo_const0 N
   simpa using h0
  | true =>
   rw [cond_true,sumUp_int]
   refine sumTo_congr fun j hj => ?_
   cases S.getD j false with
   | true=>rfl
   | false=>exact intT_at C i j
def dfsN (N:Nat):Nat→List (List Nat)→List Bool→Nat→Nat→List Nat→Nat×List (List Nat)×List Bool
 | 0,R,met,_,_,_=>(0,R,met)
 | _ + 1,R,met,_,_,[]=>(0,R,met)
 | f + 1,R,met,a,n,t :: ts =>
  cond ((met.getD t true).or (Nat.beq (atN R a t) 0)) (dfsN N f R met a n ts)
   (cond (Nat.beq t 1) (let k:=cond (Nat.ble n (atN R a t)) n (atN R a t); (k,updN (updN R a t (Nat.sub (atN R a t) k)) t a (Nat.add (atN R t a) k),met))
     (match dfsN N f R (met.set t true) t (cond (Nat.ble n (atN R a t)) n (atN R a t)) (List.range N) with
      | (0,_,met')=>dfsN N f R met' a n ts
      | (k + 1,R',met')=>(k + 1,updN (updN R' a t (Nat.sub (atN R' a t) (k + 1))) t a (Nat.add (atN R' t a) (k + 1)),met')))
def solveN (N:Nat):Nat→List (List Nat)→Nat→Nat×List (List Nat)×List Bool
 | 0,R,v=>(v,R,[])
 | f + 1,R,v=>match dfsN N 5000 R ((List.replicate N false).set 0 true) 0 1073741824 (List.range N) with
  | (0,_,met)=>(v,R,met)
  | (k + 1,R',_)=>solveN N f R' (Nat.add v (k + 1))
def mfN (N:Nat) (ws:List Wn):Option Nat :=
 match solveN N 200 (tabN N ws) 0 with
 | (v,R,S)=>cond (certN N (tabN N ws) R S v) (some v) none
theorem mfN_ok {N:Nat} (hN:2≤N) {ws:List Wn} {v:Nat} (h:mfN N ws = some v):mfv N (tabOfW N (ws.map Wn.wa)) = (v:Int):=by
 refine mfv_eq hN ?_
 rw [intT_tab]
 unfold mfN at h
 obtain ⟨⟨v',R,S⟩,hs⟩:∃ q,q = solveN N 200 (tabN N ws) 0:=⟨_,rfl⟩
 rw [← hs] at h
 simp only at h
 cases hc:certN N (tabN N ws) R S v' with
 | false=>rw [hc] at h; cases h
 | true =>
  rw [hc] at h
  cases h
  exact certN_ok hc
def Wa.wn (w:Wa):Wn:=⟨w.fr,w.to,w.most.toNat⟩
theorem mfW_ok {N:Nat} (hN:2≤N) {ws:List Wa} {v:Nat} (h0:∀ w∈ws,0≤w.most) (h:mfN N (ws.map Wa.wn) = some v):mfv N (tabOfW N ws) = (v:Int):=by
 have e:ws = (ws.map Wa.wn).map Wn.wa:=by
  rw [List.map_map]
  conv=>lhs; rw [← List.map_id ws]
  refine List.map_congr_left fun w hw => ?_
  have:=h0 w hw
  cases w with
  | mk a b m =>
   simp only [Function.comp,Wa.wn,Wn.wa,id]
   congr 1
   exact (Int.toNat_of_nonneg this).symm
 rw [e]
 exact mfN_ok hN h
end Go.Proofs.YtekhddlngbppkaaGreatDoor

/- The numbers of the chapter's examples. (Vm) -/
namespace Go.Proofs.YtekhddlngbppkaaGreatDoor
open Vm
theorem leaveV_of {nH t:Nat} {ds:List Do} {closed:List Int} {come:Nat→Int} {v:Nat} (h:mfN (2 + (t + 1) * nH) ((waysOf nH ds t closed come).map Wa.wn) = some v) (h0:((waysOf nH ds t closed come).all fun w=>decide (0≤w.most)) = true):leaveV nH ds t closed come = (v:Int):=mfW_ok (by omega) (fun w hw=>by simpa using List.all_eq_true.1 h0 w hw) h
theorem lv0:leaveV 2 hH.doors 0 [] (comeOf [0,50]) = (0:Nat):=leaveV_of (by decide +kernel) (by decide +kernel)
theorem lv1:leaveV 2 hH.doors 1 [] (comeOf [0,50]) = (5:Nat):=leaveV_of (by decide +kernel) (by decide +kernel)
theorem lv2:leaveV 2 hH.doors 2 [] (comeOf [0,50]) = (20:Nat):=leaveV_of (by decide +kernel) (by decide +kernel)
theorem lv3:leaveV 2 hH.doors 3 [] (comeOf [0,50]) = (35:Nat):=leaveV_of (by decide +kernel) (by decide +kernel)
theorem lv4:leaveV 2 hH.doors 4 [] (comeOf [0,50]) = (50:Nat):=leaveV_of (by decide +kernel) (by decide +kernel)
theorem hH_leave:leaveR hH [0,50] [] = (4,0):=by
 have he:leaveErr hH [0,50] [] = 0:=by decide +kernel
 have hT:leaveT hH [0,50] [] = some 4:=by
  refine find_range (by omega) (fun j hj=>decide_eq_false ?_) (decide_eq_true ?_)
  ·rcases j with _ | _ | _ | _ | j
   ·exact fun e=>absurd (lv0.symm.trans e) (by decide)
   ·exact fun e=>absurd (lv1.symm.trans e) (by decide)
   ·exact fun e=>absurd (lv2.symm.trans e) (by decide)
   ·exact fun e=>absurd (lv3.symm.trans e) (by decide)
   ·omega
  ·exact lv4
 unfold leaveR
 rw [if_pos he,hT]
 rfl
theorem as0:leaveV 2 hH.doors 3 [] (comeS 0) = (0:Nat):=leaveV_of (by decide +kernel) (by decide +kernel)
theorem as1:leaveV 2 hH.doors 3 [] (comeS 1) = (70:Nat):=leaveV_of (by decide +kernel) (by decide +kernel)
theorem as2:leaveV 2 hH.doors 3 [] (comeS 2) = (35:Nat):=leaveV_of (by decide +kernel) (by decide +kernel)
theorem as3:leaveV 2 hH.doors 3 [] (comeS 3) = (75:Nat):=leaveV_of (by decide +kernel) (by decide +kernel)
theorem hH_admit:admitR hH 3 [] = (35,0):=by
 have he:ticksErr hH 0 3 [] = 0:=by decide +kernel
 have hV:admitV hH 3 [] = 35:=by
  have o0:outS hH 3 [] 0 = 0:=as0
  have o1:outS hH 3 [] 1 = 70:=as1
  have o2:outS hH 3 [] 2 = 35:=as2
  have o3:outS hH 3 [] 3 = 75:=as3
  show bestS hH 3 [] (bestS hH 3 [] (bestS hH 3 [] (bestS hH 3 [] 150 0) 1) 2) 3 = 35
  unfold bestS
  rw [o0,o1,o2,o3]
  decide +kernel
 unfold admitR
 rw [if_pos he]
 exact congrArg (fun x=>(x,(0:Int))) hV
def fedO (k:Kn) (S:List (List Int)) (meal gift:Int):Option Int :=
 if (tabWs k S (roomOf meal gift)).all (fun w=>decide (0≤w.most)) then (mfN (2 + k.gifts.length + k.meals.length) ((tabWs k S (roomOf meal gift)).map Wa.wn)).map (fun n:Nat=>(n:Int)) else none
theorem fedO_ok {k:Kn} {S:List (List Int)} {meal gift v:Int} (h:fedO k S meal gift = some v):fedV k S meal gift = v:=by
 unfold fedO at h
 split at h
 ·rename_i h0
  obtain ⟨n,hn,rfl⟩:=Option.map_eq_some_iff.1 h
  exact mfW_ok (by omega) (fun w hw=>by simpa using List.all_eq_true.1 h0 w hw) hn
 ·cases h
def srchO (p:Int→Option Bool):Nat→Int→Int→Option Int
 | 0,lo,_=>some lo
 | f + 1,lo,hi=>if lo < hi then (match p ((lo + hi + 1) / 2) with
  | some true=>srchO p f ((lo + hi + 1) / 2) hi
  | some false=>srchO p f lo ((lo + hi + 1) / 2 - 1)
  | none=>none) else some lo
theorem srchO_ok {p:Int→Bool} {q:Int→Option Bool} (hq:∀ t b,q t = some b→p t = b):∀ (f:Nat) (lo hi r:Int),srchO q f lo hi = some r→srch p f lo hi = r
 | 0,lo,hi,r,h=>by
  rw [srchO] at h
  exact Option.some.inj h
 | f + 1,lo,hi,r,h=>by
  rw [srchO] at h
  rw [srch]
  split at h
  ·rename_i h1
   rw [if_pos h1]
   split at h
   ·rename_i h2
    rw [hq _ _ h2,if_pos rfl]
    exact srchO_ok hq f _ _ r h
   ·rename_i h2
    rw [hq _ _ h2,if_neg (by decide)]
    exact srchO_ok hq f _ _ r h
   ·cases h
  ·rename_i h1
   rw [if_neg h1]
   exact Option.some.inj h
def pairO (k:Kn) (S:List (List Int)) (m g:Nat) (rest t:Int):Option Bool :=
 if fitsB k (upd2 S m g t) m g then (fedO k (upd2 S m g t) m ((g:Int) - 1)).map (fun v=>decide (v = rest - t)) else some false
theorem pairO_ok {k:Kn} {S:List (List Int)} {m g:Nat} {rest t:Int} {b:Bool} (h:pairO k S m g rest t = some b):pairP k S m g rest t = b:=by
 unfold pairO at h
 unfold pairP
 split at h
 ·rename_i h1
  obtain ⟨v,hv,rfl⟩:=Option.map_eq_some_iff.1 h
  rw [h1,fedO_ok hv,Bool.true_and]
 ·rename_i h1
  rw [Bool.not_eq_true] at h1
  rw [h1,Bool.false_and]
  exact Option.some.inj h
def foldO {σ α:Type} (f:σ→α→Option σ):σ→List α→Option σ
 | s,[]=>some s
 | s,x :: l=>match f s x with
  | some s'=>foldO f s' l
  | none=>none
theorem foldO_ok {σ α:Type} {f:σ→α→σ} {q:σ→α→Option σ} (hq:∀ s x s',q s x = some s'→f s x = s'):∀ (l:List α) (s s':σ),foldO q s l = some s'→l.foldl f s = s'
 | [],s,s',h=>Option.some.inj h
 | x :: l,s,s',h=>by
  rw [foldO] at h
  split at h
  ·rename_i s2 h1
   rw [List.foldl_cons,hq _ _ _ h1]
   exact foldO_ok hq l s2 s' h
  ·cases h
def stepO (k:Kn) (m:Nat) (st:List (List Int)×Int) (g:Nat):Option (List (List Int)×Int) :=
 if inR (m:Int) (giAt k g).from_ (giAt k g).keeps then (srchO (pairO k st.1 m g st.2) (min st.2 (giAt k g).portions - 0).toNat 0 (min st.2 (giAt k g).portions)).map (fun v=>(upd2 st.1 m g v,st.2 - v)) else some st
theorem stepO_ok {k:Kn} {m:Nat} {st st':List (List Int)×Int} {g:Nat} (h:stepO k m st g = some st'):feedStep k m st g = st':=by
 unfold stepO at h
 unfold feedStep
 split at h
 ·rename_i h1
  obtain ⟨v,hv,rfl⟩:=Option.map_eq_some_iff.1 h
  have:pairV k st.1 m g st.2 = v:=srchO_ok (fun t b=>pairO_ok) _ _ _ _ hv
  rw [if_pos h1,this]
 ·rename_i h1
  rw [if_neg h1]
  exact Option.some.inj h
def feedO (k:Kn):Option (List (List Int)×Int) :=
 match fedO k (srv0 k) (-1) 0 with
 | some r=>foldO (fun st m=>foldO (stepO k m) st (List.range k.gifts.length)) (srv0 k,r) (List.range k.meals.length)
 | none=>none
theorem feedO_ok {k:Kn} {st:List (List Int)×Int} (h:feedO k = some st):feedTo k k.meals.length = st:=by
 unfold feedO at h
 split at h
 ·rename_i r hr
  unfold feedTo
  rw [fedO_ok hr]
  refine foldO_ok (f:=feedRow k) (fun s x s' hs => ?_) _ _ _ h
  exact foldO_ok (fun a b c hc=>stepO_ok hc) _ _ _ hs
 ·cases h
theorem kK_fed:fedV kK (srv0 kK) (-1) 0 = 85:=fedO_ok (by decide +kernel)
theorem kK_feed:(feedTo kK kK.meals.length).1 = [[25,5,0],[0,0,20],[0,35,0]]:=by
 have h:(feedO kK).map Prod.fst = some [[25,5,0],[0,0,20],[0,35,0]]:=by decide +kernel
 obtain ⟨st,hs,he⟩:=Option.map_eq_some_iff.1 h
 rw [feedO_ok hs,he]
theorem kK_R:feedR kK = .tup [tabV [[25,5,0],[0,0,20],[0,35,0]],vi 10,vi 0]:=by
 unfold feedR servR
 rw [if_pos kK_err,if_neg (by decide),kK_feed,kK_fed]
 rfl
end Go.Proofs.YtekhddlngbppkaaGreatDoor

/- What every statement of the doors looks at. (Vm) -/
namespace Go.Proofs.YtekhddlngbppkaaGreatDoor.Vm
open Go Go.Proofs
set_option maxHeartbeats 1000000 in
set_option maxRecDepth 8000 in
theorem awake_v (M:Mem):VC Tryz.prog 6 [] M (fun r M'=>M' = M∧r = vb true):=by
 have iR:insideR hH = .tup [spsV [⟨10,15⟩,⟨35,40⟩,⟨30,35⟩,⟨0,5⟩],vi 0]:=by unfold insideR; rw [if_pos hH_err,hH_inside]
 refine VC_own' T_ok (f := 6) (fn:=Tryz.f6) (by kernel_rfl) rfl Tryz.ntmps6 (by rfl) (by rfl) ?_
 (repeat refine Ws ?_);refine Wr ?_
 simp(maxSteps:=1000000)only[VL,VM,↓VG,reduceIte,reduceCtorEq,zA,zB,zC,zD,zE,zF,zG,zH,zI,zJ]
 (repeat refine Ws ?_);refine Wr ?_
 simp(maxSteps:=1000000)only[VL,VM,↓VG,reduceIte,reduceCtorEq,zA,zB,zC,zD,zE,zF,zG,zH,zI,zJ]
 apply call_eq (f := 16) (fn:=Tryz.f16) (by kernel_rfl) (by rfl)
 ·exact house_v _
 simp(maxSteps:=1000000)only[VL,VM,↓VG,reduceIte,reduceCtorEq,zA,zB,zC,zD,zE,zF,zG,zH,zI,zJ]
 apply call_eq (f := 15) (fn:=Tryz.f15) (by kernel_rfl) (by rfl)
 ·exact Inside_v hH _ (by decide) (by decide) (by decide)
 rw [iR]
 simp(maxSteps:=1000000)only[VL,VM,↓VG,reduceIte,reduceCtorEq,zA,zB,zC,zD,zE,zF,zG,zH,zI,zJ]
 (repeat refine Ws ?_);refine Wr ?_
 simp(maxSteps:=1000000)only[VL,VM,↓VG,reduceIte,reduceCtorEq,zA,zB,zC,zD,zE,zF,zG,zH,zI,zJ]
 apply call_eq (f := 16) (fn:=Tryz.f16) (by kernel_rfl) (by rfl)
 ·exact house_v _
 simp(maxSteps:=1000000)only[VL,VM,↓VG,reduceIte,reduceCtorEq,zA,zB,zC,zD,zE,zF,zG,zH,zI,zJ]
 apply call_eq (f := 17) (fn:=Tryz.f17) (by kernel_rfl) (by rfl)
 ·exact VC_nil0 (us:=[houseV hH,intsV [0,50]]) (k:=1) (vs:=[]) (Leave_v hH [0,50] [] _ (by decide) (by decide) (by decide) (by decide) (by decide))
 rw [hH_leave]
 simp(maxSteps:=1000000)only[VL,VM,↓VG,reduceIte,reduceCtorEq,zA,zB,zC,zD,zE,zF,zG,zH,zI,zJ]
 (repeat refine Ws ?_);refine Wr ?_
 simp(maxSteps:=1000000)only[VL,VM,↓VG,reduceIte,reduceCtorEq,zA,zB,zC,zD,zE,zF,zG,zH,zI,zJ]
 apply call_eq (f := 16) (fn:=Tryz.f16) (by kernel_rfl) (by rfl)
 ·exact house_v _
 simp(maxSteps:=1000000)only[VL,VM,↓VG,reduceIte,reduceCtorEq,zA,zB,zC,zD,zE,zF,zG,zH,zI,zJ]
 apply call_eq (f := 18) (fn:=Tryz.f18) (by kernel_rfl) (by rfl)
 ·exact VC_nil0 (us:=[houseV hH,vi 3]) (k:=1) (vs:=[]) (Admit_v hH 3 [] _ (by decide) (by decide) (by decide) (by decide))
 rw [hH_admit]
 simp(maxSteps:=1000000)only[VL,VM,↓VG,reduceIte,reduceCtorEq,zA,zB,zC,zD,zE,zF,zG,zH,zI,zJ]
 (repeat refine Ws ?_);refine Wr ?_
 simp(maxSteps:=1000000)only[VL,VM,↓VG,reduceIte,reduceCtorEq,zA,zB,zC,zD,zE,zF,zG,zH,zI,zJ]
 apply call_eq (f := 20) (fn:=Tryz.f20) (by kernel_rfl) (by rfl)
 ·exact kitchen_v _
 simp(maxSteps:=1000000)only[VL,VM,↓VG,reduceIte,reduceCtorEq,zA,zB,zC,zD,zE,zF,zG,zH,zI,zJ]
 apply call_eq (f := 19) (fn:=Tryz.f19) (by kernel_rfl) (by rfl)
 ·exact Feed_v kK _ (by decide) (by decide)
 rw [kK_R]
 simp(maxSteps:=1000000)only[VL,VM,↓VG,reduceIte,reduceCtorEq,zA,zB,zC,zD,zE,zF,zG,zH,zI,zJ]
 (repeat refine Ws ?_);refine Wr ?_
 simp(maxSteps:=1000000)only[VL,VM,↓VG,reduceIte,reduceCtorEq,zA,zB,zC,zD,zE,zF,zG,zH,zI,zJ]
 apply call_eq (f := 22) (fn:=Tryz.f22) (by kernel_rfl) (by rfl)
 ·exact spanl_v 10 15 _
 simp(maxSteps:=1000000)only[VL,VM,↓VG,reduceIte,reduceCtorEq,zA,zB,zC,zD,zE,zF,zG,zH,zI,zJ]
 apply call_eq (f := 22) (fn:=Tryz.f22) (by kernel_rfl) (by rfl)
 ·exact spanl_v 35 40 _
 simp(maxSteps:=1000000)only[VL,VM,↓VG,reduceIte,reduceCtorEq,zA,zB,zC,zD,zE,zF,zG,zH,zI,zJ]
 apply call_eq (f := 22) (fn:=Tryz.f22) (by kernel_rfl) (by rfl)
 ·exact spanl_v 30 35 _
 simp(maxSteps:=1000000)only[VL,VM,↓VG,reduceIte,reduceCtorEq,zA,zB,zC,zD,zE,zF,zG,zH,zI,zJ]
 apply call_eq (f := 22) (fn:=Tryz.f22) (by kernel_rfl) (by rfl)
 ·exact spanl_v 0 5 _
 simp(maxSteps:=1000000)only[VL,VM,↓VG,reduceIte,reduceCtorEq,zA,zB,zC,zD,zE,zF,zG,zH,zI,zJ]
 apply call_eq (f := 21) (fn:=Tryz.f21) (by kernel_rfl) (by rfl)
 ·exact sameSpans_v [⟨10,15⟩,⟨35,40⟩,⟨30,35⟩,⟨0,5⟩] [⟨10,15⟩,⟨35,40⟩,⟨30,35⟩,⟨0,5⟩] _ (by decide)
 simp(maxSteps:=1000000)only[VL,VM,↓VG,reduceIte,reduceCtorEq,zA,zB,zC,zD,zE,zF,zG,zH,zI,zJ]
 apply call_eq (f := 23) (fn:=Tryz.f23) (by kernel_rfl) (by rfl)
 ·exact sameTables_v [[25,5,0],[0,0,20],[0,35,0]] [[25,5,0],[0,0,20],[0,35,0]] _ (by decide) (by decide)
 simp(maxSteps:=1000000)only[VL,VM,↓VG,reduceIte,reduceCtorEq,zA,zB,zC,zD,zE,zF,zG,zH,zI,zJ]
 (repeat refine Ws ?_)
 refine W_ret ?_
 try simp only [thenQ,blockQ]
 refine own_ret10 rfl ?_ (by rfl)
 simp only [get_cons,frz,vtup,zF,if_true,if_false,reduceIte]
end Go.Proofs.YtekhddlngbppkaaGreatDoor.Vm

/- Houses made of numbers: their parts, on values. (Vm) -/
namespace Go.Proofs.YtekhddlngbppkaaGreatDoor.Vm
open Go Go.Proofs
theorem i_rem (t:Nat) (a b:Int) (ha:0≤a) (hb:0 < b):vbin T .rem t (vi a) (vi b) = some (vi (a % b)):=by
 have hb0:b≠0:=by omega
 have h2:Go.binOp .rem 0 (.int .i64 a) (.int .i64 b) = .pure (.int .i64 (a.tmod b)):=by
  show Op.intDiv .rem .i64 a b = _
  unfold Op.intDiv
  rw [if_neg hb0]
  rfl
 simp only [vbin,h2,pureOf,Option.map_some,ofValue]
 rw [Int.tmod_eq_emod_of_nonneg ha]
theorem bring_v (x n:Int) (M:Mem) (hx:0≤x) (hn:2≤n):VC Tryz.prog 27 [vi x,vi n] M (fun r M'=>M' = M∧r = vi (x % n)):=by
 have k1:(n < 2) = False:=eq_false (by omega)
 have k2:0 < n:=by omega
 have k3:(x % n < 0) = False:=eq_false (by have:=Int.emod_nonneg x (show n≠0 by omega); omega)
 refine VC_own' T_ok (f := 27) (fn:=Tryz.f27) (by kernel_rfl) rfl Tryz.ntmps27 (by rfl) (by rfl) ?_
 (repeat refine Ws ?_);refine Wr ?_
 simp(maxSteps:=1000000)only[VL,VM,↓VG,reduceIte,reduceCtorEq,zA,zB,zC,zD,zE,zF,zG,zH,zI,zJ]
 (repeat refine Ws ?_);refine Wr ?_
 simp(maxSteps:=1000000)only[VL,VM,↓VG,reduceIte,reduceCtorEq,zA,zB,zC,zD,zE,zF,zG,zH,zI,zJ,k1]
 (repeat refine Ws ?_);refine Wf ?_
 (repeat refine Ws ?_);refine W_skip ?_
 simp(maxSteps:=1000000)only[VL,VM,↓VG,reduceIte,reduceCtorEq,zA,zB,zC,zD,zE,zF,zG,zH,zI,zJ]
 (repeat refine Ws ?_);refine Wr ?_
 simp(maxSteps:=1000000)only[VL,VM,↓VG,reduceIte,reduceCtorEq,zA,zB,zC,zD,zE,zF,zG,zH,zI,zJ,i_rem,hx,k2]
 (repeat refine Ws ?_);refine Wr ?_
 simp(maxSteps:=1000000)only[VL,VM,↓VG,reduceIte,reduceCtorEq,zA,zB,zC,zD,zE,zF,zG,zH,zI,zJ,k3]
 (repeat refine Ws ?_);refine Wf ?_
 (repeat refine Ws ?_);refine W_skip ?_
 simp(maxSteps:=1000000)only[VL,VM,↓VG,reduceIte,reduceCtorEq,zA,zB,zC,zD,zE,zF,zG,zH,zI,zJ]
 (repeat refine Ws ?_);refine Wr ?_
 simp(maxSteps:=1000000)only[VL,VM,↓VG,reduceIte,reduceCtorEq,zA,zB,zC,zD,zE,zF,zG,zH,zI,zJ]
 (repeat refine Ws ?_)
 refine W_ret ?_
 try simp only [thenQ,blockQ]
 refine own_ret10 rfl ?_ (by rfl)
 simp only [get_cons,frz,vtup,zF,if_true,if_false,reduceIte]
attribute [local irreducible] castF castU fromF fromU oneF oneU
def aboutF (u n:Int):Sp:=⟨max 0 (n - oneF (castU u 4) [0,castF u 4]),n + oneF (castU (oneU (castU u 4) [0,castF u 4]) 4) [0,castF (oneU (castU u 4) [0,castF u 4]) 4]⟩
def aboutU (u:Int):Int:=oneU (castU (oneU (castU u 4) [0,castF u 4]) 4) [0,castF (oneU (castU u 4) [0,castF u 4]) 4]
theorem aboutF_range {u n:Int} (hn:0≤n):0≤(aboutF u n).lo∧(aboutF u n).lo≤n∧n≤(aboutF u n).hi∧(aboutF u n).hi≤n + 3:=by
 have c1:=castF_range (u:=u) (n:=4) (by omega)
 have o1:=oneF_mem (u:=castU u 4) (xs:=[0,castF u 4]) (by simp) (by simp)
 have c2:=castF_range (u:=oneU (castU u 4) [0,castF u 4]) (n:=4) (by omega)
 have o2:=oneF_mem (u:=castU (oneU (castU u 4) [0,castF u 4]) 4) (xs:=[0,castF (oneU (castU u 4) [0,castF u 4]) 4]) (by simp) (by simp)
 unfold aboutF
 generalize castF (oneU (castU u 4) [0,castF u 4]) 4 = y at *
 generalize castU (oneU (castU u 4) [0,castF u 4]) 4 = v at *
 generalize oneF v [0,y] = b at *
 generalize castF u 4 = x at *
 generalize oneF (castU u 4) [0,x] = a at *
 simp only [List.mem_cons,List.not_mem_nil,or_false] at o1 o2
 rcases o1 with rfl | rfl <;> rcases o2 with rfl | rfl <;> simp only <;> omega
theorem about_v {H0:List VObj} {d:Nat} (hd:d < H0.length) (u n:Int) (lg:List (Nat×Nat)) (h0:0≤n) (h1:n≤1000000):VC Tryz.prog 29 [.ptr d 0,vi n] ⟨DH H0 d u [],lg⟩ (fun r M'=>M' = ⟨DH H0 d (aboutU u) [],lg⟩∧r = spV (aboutF u n)):=by
 have hr:=aboutF_range (u:=u) h0
 refine VC_own' T_ok (f := 29) (fn:=Tryz.f29) (by kernel_rfl) rfl Tryz.ntmps29 (by rfl) (by rfl) ?_
 (repeat refine Ws ?_);refine Wr ?_
 simp(maxSteps:=1000000)only[VL,VM,↓VG,reduceIte,reduceCtorEq,zA,zB,zC,zD,zE,zF,zG,zH,zI,zJ,DH_app hd,DH_len,DH_len0,DH_get hd,DH_get0 hd,DH_set hd,DH_set0 hd,DH_setd,DH_die hd]
 (repeat refine Ws ?_);refine Wr ?_
 simp(maxSteps:=1000000)only[VL,VM,↓VG,reduceIte,reduceCtorEq,zA,zB,zC,zD,zE,zF,zG,zH,zI,zJ,DH_app hd,DH_len,DH_len0,DH_get hd,DH_get0 hd,DH_set hd,DH_set0 hd,DH_setd,DH_die hd]
 apply call_eq (f := 25) (fn:=Tryz.f25) (by kernel_rfl) (by rfl)
 ·exact cast_c hd u 4 lg (by omega)
 simp(maxSteps:=1000000)only[VL,VM,↓VG,reduceIte,reduceCtorEq,zA,zB,zC,zD,zE,zF,zG,zH,zI,zJ,DH_app hd,DH_len,DH_len0,DH_get hd,DH_get0 hd,DH_set hd,DH_set0 hd,DH_setd,DH_die hd]
 apply call_eq (f := 26) (fn:=Tryz.f26) (by kernel_rfl) (by rfl)
 ·exact one_c hd (castU u 4) [0,castF u 4] lg (by simp) (by simp)
 have e1:(aboutF u n).lo = max 0 (n - oneF (castU u 4) [0,castF u 4]):=rfl
 have c1:=castF_range (u:=u) (n:=4) (by omega)
 have o1:=oneF_mem (u:=castU u 4) (xs:=[0,castF u 4]) (by simp) (by simp)
 have q1 : -9223372036854775808≤n - oneF (castU u 4) [0,castF u 4]∧n - oneF (castU u 4) [0,castF u 4] < 9223372036854775808:=by
  simp only [List.mem_cons,List.not_mem_nil,or_false] at o1
  rcases o1 with e | e <;> rw [e] <;> omega
 simp(maxSteps:=1000000)only[VL,VM,↓VG,reduceIte,reduceCtorEq,zA,zB,zC,zD,zE,zF,zG,zH,zI,zJ,DH_app hd,DH_len,DH_len0,DH_get hd,DH_get0 hd,DH_set hd,DH_set0 hd,DH_setd,DH_die hd,q1]
 apply call_eq (f := 25) (fn:=Tryz.f25) (by kernel_rfl) (by rfl)
 ·exact cast_c hd (oneU (castU u 4) [0,castF u 4]) 4 lg (by omega)
 simp(maxSteps:=1000000)only[VL,VM,↓VG,reduceIte,reduceCtorEq,zA,zB,zC,zD,zE,zF,zG,zH,zI,zJ,DH_app hd,DH_len,DH_len0,DH_get hd,DH_get0 hd,DH_set hd,DH_set0 hd,DH_setd,DH_die hd,q1]
 apply call_eq (f := 26) (fn:=Tryz.f26) (by kernel_rfl) (by rfl)
 ·exact one_c hd (castU (oneU (castU u 4) [0,castF u 4]) 4) [0,castF (oneU (castU u 4) [0,castF u 4]) 4] lg (by simp) (by simp)
 have e2:(aboutF u n).hi = n + oneF (castU (oneU (castU u 4) [0,castF u 4]) 4) [0,castF (oneU (castU u 4) [0,castF u 4]) 4]:=rfl
 have q2 : -9223372036854775808≤n + oneF (castU (oneU (castU u 4) [0,castF u 4]) 4) [0,castF (oneU (castU u 4) [0,castF u 4]) 4]∧n + oneF (castU (oneU (castU u 4) [0,castF u 4]) 4) [0,castF (oneU (castU u 4) [0,castF u 4]) 4] < 9223372036854775808:=by rw [← e2]; omega
 simp(maxSteps:=1000000)only[VL,VM,↓VG,reduceIte,reduceCtorEq,zA,zB,zC,zD,zE,zF,zG,zH,zI,zJ,DH_app hd,DH_len,DH_len0,DH_get hd,DH_get0 hd,DH_set hd,DH_set0 hd,DH_setd,DH_die hd,q1,q2]
 (repeat refine Ws ?_)
 refine W_ret ?_
 try simp only [thenQ,blockQ]
 refine own_retDc hd (.inr rfl) rfl (Y:=spV (aboutF u n)) ?_ rfl rfl
 simp [vload,t_span,get_cons,DH_get0 hd,strip1]
 rfl
end Go.Proofs.YtekhddlngbppkaaGreatDoor.Vm

/- Houses made of numbers, plain: what holds while they are made. -/
namespace Go.Proofs.YtekhddlngbppkaaGreatDoor
def In (x:Sp) (n:Int):Prop:=x.lo≤n∧n≤x.hi
theorem keysOk_snoc:∀ (cs bs:List Co) (c:Co),keysOk bs cs→(bs++cs).any (sameKey c) = false→keysOk bs (cs++[c])
 | [],bs,c,_,h=>by simpa [keysOk] using h
 | x :: cs,bs,c,hk,h=>by
  refine ⟨hk.1,keysOk_snoc cs (bs++[x]) c hk.2 ?_⟩
  simpa using h
def cntOk (hs:List Int) (ds:List Do) (T:Nat) (c:Co):Prop:=CoV ⟨hs,ds,⟨0,0⟩,T,[]⟩ c
structure Grow (hs:List Int) (ds:List Do) (T:Nat) (cs:List Co) (ts:List Int) (t i:Nat) (now:Int):Prop where
 len:ts.length = t + 1
 now0:0≤now
 now1:now≤8000
 keys:keysOk [] cs
 cv:∀ c∈cs,cntOk hs ds T c
 old:∀ c∈cs,c.tick < t∨(c.tick = t∧c.door < i)
 c24:cs.length≤24
 tr:∀ t':Nat,t' < t→In (chg cs (t':Int)) (ts.getD (t' + 1) 0 - ts.getD t' 0)
 cur:In (chg cs (t:Int)) (now - ts.getD t 0)
 pos:∀ x∈ts,0≤x∧x≤8000
section
variable {hs:List Int} {ds:List Do} {T:Nat} {cs:List Co} {ts:List Int} {t i:Nat} {now:Int}
theorem chg_new {t:Int} (h:∀ c∈cs,c.tick < t):chg cs t = ⟨0,0⟩:=by
 unfold chg
 have:cs.filter (fun c=>decide (c.tick = t)) = []:=by
  rw [List.filter_eq_nil_iff]
  intro c hc
  have:=h c hc
  simp only [decide_eq_true_eq]
  omega
 rw [this]
 rfl
theorem Grow.start (h0:0≤now) (h1:now≤8000):Grow hs ds T [] [now] 0 0 now :=
 ⟨rfl,h0,h1,trivial,by simp,by simp,by simp,fun t' ht=>absurd ht (Nat.not_lt_zero _),by simp [In,chg],by simpa using ⟨h0,h1⟩⟩
theorem Grow.skip (g:Grow hs ds T cs ts t i now):Grow hs ds T cs ts t (i + 1) now :=
 ⟨g.len,g.now0,g.now1,g.keys,g.cv,fun c hc=>by rcases g.old c hc with q | q; exact .inl q; exact .inr ⟨q.1,by omega⟩,g.c24,g.tr,g.cur,g.pos⟩
theorem Grow.add (g:Grow hs ds T cs ts t i now) {c:Co} {a b:Int} (ht:c.tick = t) (hi:c.door = i) (hc:cntOk hs ds T c) (hl:cs.length < 24) (ha:In c.i a) (hb:In c.o b) (h0:0≤now + a - b) (h1:now + a - b≤8000):Grow hs ds T (cs++[c]) ts t (i + 1) (now + a - b):=by
 refine ⟨g.len,h0,h1,keysOk_snoc cs [] c g.keys ?_,fun x hx => ?_,fun x hx => ?_,by simp; omega,fun t' ht' => ?_,?_,g.pos⟩
 ·rw [List.nil_append,List.any_eq_false]
  intro x hx
  have:=g.old x hx
  simp only [sameKey,Bool.and_eq_true,decide_eq_true_eq]
  omega
 ·rcases List.mem_append.1 hx with hx | hx
  ·exact g.cv x hx
  ·rw [List.mem_singleton] at hx; rw [hx]; exact hc
 ·rcases List.mem_append.1 hx with hx | hx
  ·rcases g.old x hx with q | q
   ·exact .inl q
   ·exact .inr ⟨q.1,by omega⟩
  ·rw [List.mem_singleton] at hx; rw [hx]; exact .inr ⟨ht,by omega⟩
 ·rw [chg_snoc,if_neg (by omega)]
  exact g.tr t' ht'
 ·rw [chg_snoc,if_pos ht]
  have:=g.cur
  unfold In at *
  simp only [addS,valS]
  omega
theorem Grow.tick (g:Grow hs ds T cs ts t i now) (hi:∀ c∈cs,c.tick < (t:Int) + 1):Grow hs ds T cs (ts++[now]) (t + 1) 0 now:=by
 have gl:=g.len
 refine ⟨by simp [gl],g.now0,g.now1,g.keys,g.cv,fun c hc => .inl (by have:=hi c hc; omega),g.c24,fun t' ht' => ?_,?_,fun x hx => ?_⟩
 ·by_cases e:t' = t
  ·subst e
   have h1:(ts++[now]).getD (t' + 1) 0 = now:=by rw [List.getD_eq_getElem?_getD,List.getElem?_append_right (by omega),show t' + 1 - ts.length = 0 by omega]; rfl
   have h2:(ts++[now]).getD t' 0 = ts.getD t' 0:=by rw [List.getD_eq_getElem?_getD,List.getElem?_append_left (by omega),← List.getD_eq_getElem?_getD]
   rw [h1,h2]
   exact g.cur
  ·have h1:(ts++[now]).getD (t' + 1) 0 = ts.getD (t' + 1) 0:=by rw [List.getD_eq_getElem?_getD,List.getElem?_append_left (by omega),← List.getD_eq_getElem?_getD]
   have h2:(ts++[now]).getD t' 0 = ts.getD t' 0:=by rw [List.getD_eq_getElem?_getD,List.getElem?_append_left (by omega),← List.getD_eq_getElem?_getD]
   rw [h1,h2]
   exact g.tr t' (by omega)
 ·have h1:(ts++[now]).getD (t + 1) 0 = now:=by rw [List.getD_eq_getElem?_getD,List.getElem?_append_right (by omega),show t + 1 - ts.length = 0 by omega]; rfl
  rw [h1,chg_new (fun c hc=>by have:=hi c hc; push_cast; omega)]
  simp [In]
 ·rcases List.mem_append.1 hx with hx | hx
  ·exact g.pos x hx
  ·rw [List.mem_singleton] at hx; rw [hx]; exact ⟨g.now0,g.now1⟩
theorem Grow.ticks (g:Grow hs ds T cs ts t i now):∀ c∈cs,c.tick < (t:Int) + 1:=fun c hc=>by
 rcases g.old c hc with q | q <;> omega
end
structure MadeH (halls doors ticks people:Int) (h:Ho) (ts:List Int):Prop where
 V:HV h
 n:(h.holds.length:Int)≤halls
 holds:∀ x∈h.holds,x≤people
 d:(h.doors.length:Int)≤doors
 flows:∀ x∈h.doors,x.flow≤people
 t:h.ticks≤ticks
 len:(ts.length:Int) = h.ticks + 1
 first:In h.first (ts.getD 0 0)
 tr:∀ t':Nat,(t':Int) < h.ticks→In (chg h.counts (t':Int)) (ts.getD (t' + 1) 0 - ts.getD t' 0)
 pos:∀ x∈ts,0≤x∧x≤8000
theorem MadeH.of {hs:List Int} {ds:List Do} {T:Nat} {cs:List Co} {ts:List Int} {now:Int} {first:Sp} {halls doors ticks people:Int} (g:Grow hs ds T cs ts T 0 now) (n0:1≤hs.length) (n1:hs.length≤4) (hh:∀ x∈hs,0≤x∧x≤people) (hp:people≤10000) (d1:ds.length≤5) (hd:∀ x∈ds,DoV hs.length x∧x.flow≤people) (hf:SpOk first) (hT:T≤12) (hfi:In first (ts.getD 0 0)) (c1:(hs.length:Int)≤halls) (c2:(ds.length:Int)≤doors) (c3:(T:Int)≤ticks) :
  MadeH halls doors ticks people ⟨hs,ds,first,T,cs⟩ ts:=by
 refine ⟨⟨n0,n1,fun x hx => ?_,d1,fun x hx=>(hd x hx).1,hf,by simp only; omega,by simp only; omega,g.c24,fun c hc => ?_,g.keys⟩,c1,fun x hx=>(hh x hx).2,c2,fun x hx=>(hd x hx).2,c3,by rw [g.len]; simp,hfi,fun t' ht' => ?_,g.pos⟩
 ·have:=hh x hx; omega
 ·obtain ⟨a,b,c',d',e,f,i⟩:=g.cv c hc
  exact ⟨a,b,c',d',e,f,i⟩
 ·simp only at ht'
  exact g.tr t' (by omega)
end Go.Proofs.YtekhddlngbppkaaGreatDoor
