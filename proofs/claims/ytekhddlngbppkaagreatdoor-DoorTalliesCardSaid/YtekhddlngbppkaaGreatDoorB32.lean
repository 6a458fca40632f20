/- A part of the proofs about the doors; no condition. -/
import Derived.Test.YtekhddlngbppkaaGreatDoorB15
import Derived.Test.YtekhddlngbppkaaGreatDoorB16
import Derived.Test.YtekhddlngbppkaaGreatDoorB28
import Derived.Test.YtekhddlngbppkaaGreatDoorB29
import Derived.Test.YtekhddlngbppkaaGreatDoorB31
import Derived.Lib.ItoaMem
import Derived.Lib.ItoaLen
import Derived.Shelf.Strings.Prefix
set_option linter.unusedVariables false
set_option linter.unusedSimpArgs false
open Int renaming reduceLE → zA, reduceLT → zB, reduceToNat → zC, reduceNeg → zD
open Nat renaming reduceLT → zE, reduceEqDiff → zF, reduceAdd → zG, reduceSub → zH, reduceMul → zI, reduceLeDiff → zJ
/- Kitchens made of numbers, on values. (Vm) -/
namespace Go.Proofs.YtekhddlngbppkaaGreatDoor.Vm
open Go Go.Proofs
attribute [local irreducible] castF castU fromF fromU oneF oneU
end Go.Proofs.YtekhddlngbppkaaGreatDoor.Vm

/- Houses and kitchens that are copied, and compared with what they were copied from, on values. (Vm) -/
namespace Go.Proofs.YtekhddlngbppkaaGreatDoor.Vm
open Go Go.Proofs
theorem sameHouse_v (h:Ho) (M:Mem) (hm:h.holds.length≤1000000) (hg:h.doors.length≤1000000) (hc:h.counts.length≤1000000):VC Tryz.prog 14 [houseV h,houseV h] M (fun r M'=>M' = M∧r = vb true):=by
 refine VC_own' T_ok (f := 14) (fn:=Tryz.f14) (by kernel_rfl) rfl Tryz.ntmps14 (by rfl) (by rfl) ?_
 (repeat refine Ws ?_);refine Wr ?_
 simp(maxSteps:=1000000)only[VL,VM,↓VG,reduceIte,reduceCtorEq,zA,zB,zC,zD,zE,zF,zG,zH,zI,zJ]
 (repeat refine Ws ?_);refine Wr ?_
 simp(maxSteps:=1000000)only[VL,VM,↓VG,reduceIte,reduceCtorEq,zA,zB,zC,zD,zE,zF,zG,zH,zI,zJ]
 apply call_eq (f := 44) (fn:=Tryz.f44) (by kernel_rfl) (by rfl)
 ·exact sameInts_v h.holds h.holds _ hm
 have es:vbin T .eql 25 (spV h.first) (spV h.first) = some (vb true):=by rw [v_eqSpan]; simp
 simp(maxSteps:=1000000)only[VL,VM,↓VG,reduceIte,reduceCtorEq,zA,zB,zC,zD,zE,zF,zG,zH,zI,zJ,es]
 (repeat refine Ws ?_);refine Wr ?_
 simp(maxSteps:=1000000)only[VL,VM,↓VG,reduceIte,reduceCtorEq,zA,zB,zC,zD,zE,zF,zG,zH,zI,zJ]
 ((repeat refine Ws ?_);refine W_block ?_; (repeat refine Ws ?_)); refine W_loopS (fun i:Nat=>[(2,.ptr M.H.length 0),(3,.ptr (M.H.length + 1) 0),(5,vb true),(6,vi i)]) (fun _=>⟨M.H++[.obj (houseC h),.obj (houseC h)],M.lg⟩) (fun i=>h.doors.length - i) (fun i=>i≤h.doors.length) 0 (Nat.zero_le _) ⟨rfl,rfl,rfl,rfl,trivial⟩ rfl ?_
 intro i hi
 have k1 : -9223372036854775808≤(i:Int) + 1∧(i:Int) + 1 < 9223372036854775808:=by omega
 (repeat refine Ws ?_);refine Wr ?_
 rcases Nat.lt_or_ge i h.doors.length with hlt | hge
 ·have k2:((i:Int) < (h.doors.length:Int)) = True:=eq_true (by omega)
  have hx:h.doors[i]? = some h.doors[i]:=List.getElem?_eq_getElem hlt
  generalize h.doors[i] = x at hx
  have hx':=map_at (f:=doP) hx
  have es:vbin T .eql 67 (doV x) (doV x) = some (vb true):=by rw [v_eqDoor]; simp
  simp(maxSteps:=1000000)only[VL,VM,↓VG,reduceIte,reduceCtorEq,zA,zB,zC,zD,zE,zF,zG,zH,zI,zJ,k2]
  (repeat refine Ws ?_);refine Wt ?_
  (repeat refine Ws ?_);refine W_skip ?_
  simp(maxSteps:=1000000)only[VL,VM,↓VG,reduceIte,reduceCtorEq,zA,zB,zC,zD,zE,zF,zG,zH,zI,zJ]
  (repeat refine Ws ?_);refine W_block ?_
  (repeat refine Ws ?_)
  refine W_drawP T_ok [] (by kernel_rfl) (by kernel_rfl) ?_
  generalize hi:mkPlan _ = infs
  cbv at hi
  subst hi
  simp(maxSteps:=1000000)only[VL,VM,↓VG,reduceIte,reduceCtorEq,zA,zB,zC,zD,zE,zF,zG,zH,zI,zJ,hx',es]
  (repeat refine Ws ?_);refine Wr ?_
  simp(maxSteps:=1000000)only[VL,VM,↓VG,reduceIte,reduceCtorEq,zA,zB,zC,zD,zE,zF,zG,zH,zI,zJ,k1]
  exact LoopK.mk (i + 1) (by omega) (by omega) ⟨rfl,rfl,rfl,rfl,trivial⟩ rfl
 have k2:((i:Int) < (h.doors.length:Int)) = False:=eq_false (by omega)
 simp(maxSteps:=1000000)only[VL,VM,↓VG,reduceIte,reduceCtorEq,zA,zB,zC,zD,zE,zF,zG,zH,zI,zJ,k2]
 (repeat refine Ws ?_);refine Wf ?_
 (repeat refine Ws ?_);refine W_exit ?_
 simp(maxSteps:=1000000)only[VL,VM,↓VG,reduceIte,reduceCtorEq,zA,zB,zC,zD,zE,zF,zG,zH,zI,zJ]
 clear hge k2 k1 hi
 (repeat refine Ws ?_);refine Wr ?_
 simp(maxSteps:=1000000)only[VL,VM,↓VG,reduceIte,reduceCtorEq,zA,zB,zC,zD,zE,zF,zG,zH,zI,zJ]
 ((repeat refine Ws ?_);refine W_block ?_; (repeat refine Ws ?_)); refine W_loopS (fun i:Nat=>[(2,.ptr M.H.length 0),(3,.ptr (M.H.length + 1) 0),(5,vb true),(7,vi i)]) (fun _=>⟨M.H++[.obj (houseC h),.obj (houseC h)],M.lg⟩) (fun i=>h.counts.length - i) (fun i=>i≤h.counts.length) 0 (Nat.zero_le _) ⟨rfl,rfl,rfl,rfl,trivial⟩ rfl ?_
 intro i hi
 have k1 : -9223372036854775808≤(i:Int) + 1∧(i:Int) + 1 < 9223372036854775808:=by omega
 (repeat refine Ws ?_);refine Wr ?_
 rcases Nat.lt_or_ge i h.counts.length with hlt | hge
 ·have k2:((i:Int) < (h.counts.length:Int)) = True:=eq_true (by omega)
  have hx:h.counts[i]? = some h.counts[i]:=List.getElem?_eq_getElem hlt
  generalize h.counts[i] = x at hx
  have hx':=map_at (f:=coP) hx
  have es:vbin T .eql 71 (coV x) (coV x) = some (vb true):=by rw [v_eqCount]; simp
  simp(maxSteps:=1000000)only[VL,VM,↓VG,reduceIte,reduceCtorEq,zA,zB,zC,zD,zE,zF,zG,zH,zI,zJ,k2]
  (repeat refine Ws ?_);refine Wt ?_
  (repeat refine Ws ?_);refine W_skip ?_
  simp(maxSteps:=1000000)only[VL,VM,↓VG,reduceIte,reduceCtorEq,zA,zB,zC,zD,zE,zF,zG,zH,zI,zJ]
  (repeat refine Ws ?_);refine W_block ?_
  (repeat refine Ws ?_)
  refine W_drawP T_ok [] (by kernel_rfl) (by kernel_rfl) ?_
  generalize hi:mkPlan _ = infs
  cbv at hi
  subst hi
  simp(maxSteps:=1000000)only[VL,VM,↓VG,reduceIte,reduceCtorEq,zA,zB,zC,zD,zE,zF,zG,zH,zI,zJ,hx',es]
  (repeat refine Ws ?_);refine Wr ?_
  simp(maxSteps:=1000000)only[VL,VM,↓VG,reduceIte,reduceCtorEq,zA,zB,zC,zD,zE,zF,zG,zH,zI,zJ,k1]
  exact LoopK.mk (i + 1) (by omega) (by omega) ⟨rfl,rfl,rfl,rfl,trivial⟩ rfl
 have k2:((i:Int) < (h.counts.length:Int)) = False:=eq_false (by omega)
 simp(maxSteps:=1000000)only[VL,VM,↓VG,reduceIte,reduceCtorEq,zA,zB,zC,zD,zE,zF,zG,zH,zI,zJ,k2]
 (repeat refine Ws ?_);refine Wf ?_
 (repeat refine Ws ?_);refine W_exit ?_
 simp(maxSteps:=1000000)only[VL,VM,↓VG,reduceIte,reduceCtorEq,zA,zB,zC,zD,zE,zF,zG,zH,zI,zJ]
 (repeat refine Ws ?_);refine Wr ?_
 simp(maxSteps:=1000000)only[VL,VM,↓VG,reduceIte,reduceCtorEq,zA,zB,zC,zD,zE,zF,zG,zH,zI,zJ]
 (repeat refine Ws ?_)
 refine W_ret ?_
 try simp only [thenQ,blockQ]
 refine own_ret (vs:=[vb true]) rfl ?_ (by rfl) ⟨rfl,rfl⟩
 rfl
end Go.Proofs.YtekhddlngbppkaaGreatDoor.Vm

/- Plain: a row of a word and numbers, as it is read. -/
namespace Go.Proofs.YtekhddlngbppkaaGreatDoor
open Go
theorem cutL_pos (c:UInt8) (s:By):0 < (cutL c s).length:=List.length_pos_iff.2 (cutL_ne c s)
theorem cutL_len (c:UInt8):∀ s:By,(cutL c s).length≤s.length + 1
 | []=>by simp [cutL]
 | x :: r=>by
  have:=cutL_len c r
  rw [cutL]
  split
  ·simp; omega
  ·split
   ·simp
   ·rename_i p ps he
    rw [he] at this
    simp at this ⊢
    omega
theorem cutL_part (c:UInt8):∀ (s:By),∀ p∈cutL c s,p.length≤s.length
 | [],p,h=>by simp [cutL] at h; simp [h]
 | x :: r,p,h=>by
  have ih:=cutL_part c r
  rw [cutL] at h
  split at h
  ·rcases List.mem_cons.1 h with rfl | h
   ·simp
   ·have:=ih p h; simp; omega
  ·split at h
   ·rename_i he
    exact absurd he (cutL_ne c r)
   ·rename_i q qs he
    rw [he] at ih
    rcases List.mem_cons.1 h with rfl | h
    ·have:=ih q (by simp); simp; omega
    ·have:=ih p (List.mem_cons_of_mem _ h); simp; omega
end Go.Proofs.YtekhddlngbppkaaGreatDoor

/- Plain: numbers with a sign, as texts. -/
namespace Go.Proofs.YtekhddlngbppkaaGreatDoor
open Go
def unS (s:By):By:=if s.head? = some 45 then s.drop 1 else s
theorem unS_len (s:By):(unS s).length≤s.length:=by
 unfold unS
 split
 ·rw [List.length_drop]; omega
 ·exact Nat.le_refl _
def numZ (m:Nat) (s:By):Option Int :=
 if s.head? = some 45 then (if (s.drop 1).length < 1∨m < (s.drop 1).length∨(s.drop 1).head? = some 48 then none else (Lib.decFrom 0 (s.drop 1)).map fun (n:Nat) => -(n:Int)) else numR m s
theorem digits_no {c:UInt8} (hc:c.toNat < 48∨57 < c.toNat) (u:Nat):c ∉ Lib.decDigits u:=by
 induction u using Nat.strongRecOn with
 | ind u ih =>
  intro hb
  rw [Lib.decDigits] at hb
  split at hb
  ·rename_i h
   simp only [List.mem_singleton] at hb
   rw [hb,u8_of u h] at hc; omega
  ·rename_i h
   rcases List.mem_append.1 hb with hb | hb
   ·exact ih (u / 10) (by omega) hb
   ·simp only [List.mem_singleton] at hb
    rw [hb,u8_of _ (by omega)] at hc; omega
theorem itoa_pos {n:Int} (h:0≤n):Lib.itoa n = Lib.decDigits n.toNat:=by rw [Lib.itoa,if_neg (by omega)]
theorem itoa_low {n:Int} (h:n < 0):Lib.itoa n = 45 :: Lib.decDigits n.natAbs:=by rw [Lib.itoa,if_pos h]
theorem digits_head45 (u:Nat):(Lib.decDigits u).head? ≠ some 45:=fun e=>digits_no (c:=45) (.inl (by decide)) u (List.mem_of_head? e)
theorem unS_pos {n:Int} (h:0≤n):unS (Lib.itoa n) = Lib.itoa n:=by
 unfold unS
 rw [itoa_pos h,if_neg (digits_head45 _)]
theorem unS_low {n:Int} (h:n < 0):unS (Lib.itoa n) = Lib.decDigits n.natAbs:=by
 unfold unS
 rw [itoa_low h,if_pos (by rfl)]
 rfl
theorem numZ_some {m:Nat} {s:By} {n:Int} (h:numZ m s = some n):s = Lib.itoa n∧1≤s.length∧(unS s).length≤m:=by
 unfold numZ at h
 unfold unS
 split at h
 ·rename_i hs
  rw [if_pos hs]
  obtain ⟨r,rfl⟩:∃ r,s = 45 :: r:=by
   cases s with
   | nil=>simp at hs
   | cons b r=>simp at hs; exact ⟨r,by rw [hs]⟩
  rw [List.drop_succ_cons,List.drop_zero] at h ⊢
  split at h
  ·cases h
  ·rename_i hc
   obtain ⟨u,h1,rfl⟩:=Option.map_eq_some_iff.1 h
   have hne:r≠[]:=by intro e; subst e; simp at hc
   have h2:=digits_of r.length r u rfl hne (fun e=>absurd (.inr (.inr e)) hc) h1
   have hu:1≤u:=by
    rcases Nat.eq_zero_or_pos u with rfl | hu
    ·rw [digits_zero] at h2
     subst h2
     exact absurd (.inr (.inr rfl)) hc
    ·exact hu
   exact ⟨by rw [Lib.itoa_neg u hu,h2],by simp,by omega⟩
 ·rename_i hs
  rw [if_neg hs]
  obtain ⟨h0,h1,h2,h3⟩:=numR_some h
  exact ⟨h1,h2,h3⟩
theorem numZ_itoa {m:Nat} {n:Int} (hl:(unS (Lib.itoa n)).length≤m):numZ m (Lib.itoa n) = some n:=by
 unfold numZ
 by_cases h:0≤n
 ·rw [unS_pos h] at hl
  rw [if_neg (by rw [itoa_pos h]; exact digits_head45 _),numR_itoa h hl]
 ·rw [unS_low (by omega)] at hl
  rw [itoa_low (by omega),if_pos (by rfl),List.drop_succ_cons,List.drop_zero]
  have h1:0 < (Lib.decDigits n.natAbs).length:=List.length_pos_iff.2 (digits_ne _)
  rw [if_neg,dec_digits,Option.map_some]
  ·congr 1; omega
  ·rintro (h2 | h2 | h2)
   ·omega
   ·omega
   ·have:=digits_head _ h2; omega
theorem atoi_itoaZ {n:Int} (hl:(Lib.itoa n).length≤18):Lib.atoiAll (Lib.itoa n) = .ok n:=by
 by_cases h:0≤n
 ·exact atoi_itoa h hl
 ·rw [Lib.atoiAll_short _ hl,itoa_low (by omega)]
  have h1:(Lib.decDigits n.natAbs).isEmpty = false:=by
   cases hd:Lib.decDigits n.natAbs with
   | nil=>exact absurd hd (digits_ne _)
   | cons b r=>rfl
  simp only [Lib.atoi,beq_self_eq_true,if_true,Lib.decNat,h1,Bool.false_eq_true,if_false,dec_digits,Option.map_some,Lib.NumEnd.ofOption]
  congr 1
  omega
theorem numZ_atoi {m:Nat} (hm:m≤17) (s:By):numZ m s = match Lib.atoiAll s with
  | .ok x=>if (unS s).length≤m∧Lib.itoa x = s then some x else none
  | _=>none:=by
 cases hr:numZ m s with
 | some n =>
  obtain ⟨h1,h2,h3⟩:=numZ_some hr
  have hl:(Lib.itoa n).length≤18:=by
   rw [h1] at h3
   by_cases h:0≤n
   ·rw [unS_pos h] at h3; omega
   ·rw [unS_low (by omega)] at h3
    rw [itoa_low (by omega),List.length_cons]
    omega
  rw [h1,atoi_itoaZ hl]
  simp only
  rw [if_pos ⟨by rw [← h1]; exact h3,trivial⟩]
 | none =>
  split
  ·rename_i x hx
   split
   ·rename_i hc
    obtain ⟨c2,c3⟩:=hc
    have:=numZ_itoa (m:=m) (n:=x) (by rw [c3]; exact c2)
    rw [c3,hr] at this
    cases this
   ·rfl
  ·rfl
def numsZ (m:Nat):List By→Option (List Int)
 | []=>some []
 | w :: ws=>match numZ m w,numsZ m ws with
  | some n,some l=>some (n :: l)
  | _,_=>none
theorem numsZ_app (m:Nat):∀ (a b:List By),numsZ m (a++b) = match numsZ m a,numsZ m b with
  | some l,some k=>some (l++k)
  | _,_=>none
 | [],b=>by
  simp only [List.nil_append,numsZ]
  cases numsZ m b <;> rfl
 | w :: a,b=>by
  simp only [List.cons_append,numsZ,numsZ_app m a b]
  cases numZ m w <;> cases numsZ m a <;> cases numsZ m b <;> rfl
theorem numsZ_len {m:Nat}:∀ {ws:List By} {l:List Int},numsZ m ws = some l→l.length = ws.length
 | [],l,h=>by cases h; rfl
 | w :: ws,l,h=>by
  simp only [numsZ] at h
  split at h
  ·rename_i n k h1 h2
   cases h
   rw [List.length_cons,List.length_cons,numsZ_len h2]
  ·cases h
theorem numsZ_take {m:Nat} {ws:List By} {k:Nat} (hk:k < ws.length):numsZ m (ws.take (k + 1)) = match numsZ m (ws.take k),numZ m ws[k] with
  | some l,some n=>some (l++[n])
  | _,_=>none:=by
 rw [List.take_succ_eq_append_getElem hk,numsZ_app]
 simp only [numsZ]
 cases numsZ m (ws.take k) <;> cases numZ m ws[k] <;> rfl
def parseZ (m:Nat) (s:By):Option (By×List Int):=(numsZ m ((cutL 32 s).drop 1)).map fun l=>((cutL 32 s).headD [],l)
end Go.Proofs.YtekhddlngbppkaaGreatDoor

/- Plain: the tally of a house. -/
namespace Go.Proofs.YtekhddlngbppkaaGreatDoor
open Go
def wHouse:By:=[104,111,117,115,101]
def wHall:By:=[104,97,108,108]
def wDoor:By:=[100,111,111,114]
def wCount:By:=[99,111,117,110,116]
def wEnd:By:=[101,110,100]
def numsS (l:List Int):By:=l.flatMap fun n=>32 :: Lib.itoa n
def rowS (w:By) (l:List Int):By:=w++numsS l++[10]
theorem numsS_take {l:List Int} {i:Nat} (h:i < l.length):numsS (l.take (i + 1)) = numsS (l.take i)++(32 :: Lib.itoa l[i]):=by
 rw [List.take_succ_eq_append_getElem h]
 unfold numsS
 rw [List.flatMap_append]
 simp
theorem itoa_len {n:Int} (h0 : -9223372036854775808≤n) (h1:n≤9223372036854775807):(Lib.itoa n).length≤21:=Lib.itoa_length_le n h0 h1
def FitL (l:List Int):Prop:=∀ n∈l,-9223372036854775808≤n∧n≤9223372036854775807
theorem numsS_len:∀ {l:List Int},FitL l→(numsS l).length≤22 * l.length
 | [],_=>by simp [numsS]
 | n :: l,h=>by
  have h1:=itoa_len (h n (by simp)).1 (h n (by simp)).2
  have h2:=numsS_len (l:=l) fun x hx=>h x (List.mem_cons_of_mem _ hx)
  unfold numsS at h2 ⊢
  rw [List.flatMap_cons,List.length_append,List.length_cons,List.length_cons]
  omega
theorem FitL.take {l:List Int} (h:FitL l) (i:Nat):FitL (l.take i):=fun n hn=>h n (List.mem_of_mem_take hn)
theorem byF_len {α:Type} {f:α→By} {k:Nat}:∀ {l:List α},(∀ r∈l,(f r).length≤k)→(l.flatMap f).length≤k * l.length
 | [],_=>by simp
 | r :: l,h=>by
  have h1:=h r (by simp)
  have h2:=byF_len (f:=f) (l:=l) fun x hx=>h x (List.mem_cons_of_mem _ hx)
  rw [List.flatMap_cons,List.length_append,List.length_cons,Nat.mul_add]
  omega
theorem byF_take {α:Type} {f:α→By} {l:List α} {i:Nat} (h:i < l.length):(l.take (i + 1)).flatMap f = (l.take i).flatMap f++f l[i]:=by
 rw [List.take_succ_eq_append_getElem h,List.flatMap_append]
 simp
def hoL (h:Ho):List Int:=[h.first.lo,h.first.hi,h.ticks]
def doL (d:Do):List Int:=[d.a,d.b,d.flow]
def coL (c:Co):List Int:=[c.tick,c.door,c.i.lo,c.i.hi,c.o.lo,c.o.hi]
def hlS (l:List Int):By:=l.flatMap fun n=>rowS wHall [n]
def drS (l:List Do):By:=l.flatMap fun d=>rowS wDoor (doL d)
def ctS (l:List Co):By:=l.flatMap fun c=>rowS wCount (coL c)
def writeS (h:Ho):By:=rowS wHouse (hoL h)++hlS h.holds++drS h.doors++ctS h.counts++rowS wEnd [(h.counts.length:Int)]
end Go.Proofs.YtekhddlngbppkaaGreatDoor

/- Plain: what is read of a tally. -/
namespace Go.Proofs.YtekhddlngbppkaaGreatDoor
open Go
def y0:Ho:=⟨[],[],⟨0,0⟩,0,[]⟩
def hoOf (h:Ho) (l:List Int):Ho:={ h with first:=⟨l.getD 0 0,l.getD 1 0⟩,ticks:=l.getD 2 0 }
def doOf (l:List Int):Do:=⟨l.getD 0 0,l.getD 1 0,l.getD 2 0⟩
def coOf (l:List Int):Co:=⟨l.getD 0 0,l.getD 1 0,⟨l.getD 2 0,l.getD 3 0⟩,⟨l.getD 4 0,l.getD 5 0⟩⟩
def rsPut (i:Nat) (h:Ho) (w:By) (l:List Int):Option (Ho×Bool) :=
 if i = 0 then (if w = wHouse∧l.length = 3 then some (hoOf h l,false) else none)
 else if w = wHall∧l.length = 1∧h.doors.length + h.counts.length = 0 then some ({ h with holds:=h.holds++[l.getD 0 0] },false)
 else if w = wDoor∧l.length = 3∧h.counts.length = 0 then some ({ h with doors:=h.doors++[doOf l] },false)
 else if w = wCount∧l.length = 6 then some ({ h with counts:=h.counts++[coOf l] },false)
 else if w = wEnd∧l.length = 1 then (if l.getD 0 0 = (h.counts.length:Int) then some (h,true) else none)
 else none
def rsStep (i:Nat) (st:Ho×Bool) (row:By):Option (Ho×Bool):=match parseZ 6 row with
 | none=>none
 | some (w,l)=>if st.2 then none else rsPut i st.1 w l
def rsRun:Nat→Ho×Bool→List By→Nat ⊕ (Ho×Bool)
 | _,st,[] => .inr st
 | i,st,r :: rs=>match rsStep i st r with
  | none => .inl i
  | some st'=>rsRun (i + 1) st' rs
def rsEnd (rows:List By) (st:Ho×Bool):Ho×Int×Int :=
 if st.2 = false∨rows.getD (rows.length - 1) []≠[] then (y0,(rows.length:Int),2)
 else if houseErr st.1 = 0 then (st.1,0,0) else (y0,0,houseErr st.1)
def rsRead (s:By):Ho×Int×Int :=
 if 2000 < s.length then (y0,0,10)
 else match rsRun 0 (y0,false) ((cutL 10 s).take ((cutL 10 s).length - 1)) with
  | .inl i=>(y0,(i:Int) + 1,2)
  | .inr st=>rsEnd (cutL 10 s) st
theorem rsRun_app:∀ (a b:List By) (i:Nat) (st:Ho×Bool),rsRun i st (a++b) = match rsRun i st a with
  | .inl k => .inl k
  | .inr st'=>rsRun (i + a.length) st' b
 | [],b,i,st=>rfl
 | r :: a,b,i,st=>by
  simp only [List.cons_append,rsRun]
  cases rsStep i st r with
  | none=>rfl
  | some st' =>
   simp only
   rw [rsRun_app a b (i + 1) st',List.length_cons,show i + 1 + a.length = i + (a.length + 1) by omega]
theorem rsRun_step {rows:List By} {i:Nat} {st:Ho×Bool} (hi:i < rows.length) (h:rsRun 0 (y0,false) (rows.take i) = .inr st):rsRun 0 (y0,false) (rows.take (i + 1)) = match rsStep i st rows[i] with
  | none => .inl i
  | some st' => .inr st':=by
 rw [List.take_succ_eq_append_getElem hi,rsRun_app,h]
 simp only
 rw [show 0 + (rows.take i).length = i by rw [List.length_take]; omega]
 simp only [rsRun]
theorem rsRun_bad {rows:List By} {i n k:Nat} (hn:i≤n) (h:rsRun 0 (y0,false) (rows.take i) = .inl k):rsRun 0 (y0,false) (rows.take n) = .inl k:=by
 have e:rows.take n = rows.take i++(rows.drop i).take (n - i):=by
  rw [show n = i + (n - i) by omega,List.take_add]
  simp
 rw [e,rsRun_app,h]
structure RsOk (i:Nat) (y:Ho):Prop where
 h:y.holds.length≤i
 d:y.doors.length≤i
 c:y.counts.length≤i
theorem rsPut_ok {i:Nat} {y y':Ho} {b:Bool} {w:By} {l:List Int} (h:rsPut i y w l = some (y',b)) (hy:RsOk i y):RsOk (i + 1) y':=by
 have hw:=hy.h
 have hs:=hy.d
 have hc:=hy.c
 unfold rsPut at h
 split at h
 ·split at h
  ·cases h; exact ⟨by simp only [hoOf]; omega,by simp only [hoOf]; omega,by simp only [hoOf]; omega⟩
  ·cases h
 ·split at h
  ·cases h; exact ⟨by simp; omega,by simp only; omega,by simp only; omega⟩
  ·split at h
   ·cases h; exact ⟨by simp only; omega,by simp; omega,by simp only; omega⟩
   ·split at h
    ·cases h; exact ⟨by simp only; omega,by simp only; omega,by simp; omega⟩
    ·split at h
     ·split at h
      ·cases h; exact ⟨by omega,by omega,by omega⟩
      ·cases h
     ·cases h
theorem rsStep_ok {i:Nat} {st st':Ho×Bool} {row:By} (h:rsStep i st row = some st') (hy:RsOk i st.1):RsOk (i + 1) st'.1:=by
 unfold rsStep at h
 split at h
 ·cases h
 ·split at h
  ·cases h
  ·exact rsPut_ok (b:=st'.2) h hy
end Go.Proofs.YtekhddlngbppkaaGreatDoor

/- strings.TrimPrefix, as a contract on values. (Vm) -/
namespace Go.Proofs.YtekhddlngbppkaaGreatDoor.Vm
open Go Go.Proofs Go.RowKit
theorem trim_eq (s:By):Lib.trimPrefix s [45] = unS s:=by
 unfold Lib.trimPrefix Lib.hasPrefix unS
 cases s with
 | nil=>rfl
 | cons b r =>
  by_cases h:b = 45
  ·subst h; simp [List.isPrefixOf]
  ·have h':¬ 45 = b:=fun e=>h e.symm
   simp [List.isPrefixOf,h,h']
theorem trim_v (s:By) (M:Mem):VC Tryz.prog 40 [.p (.str (tx s)),.p (.str (tx [45]))] M (fun r M'=>M' = M∧r = .p (.str (tx (unS s)))):=by
 refine VC_lib fun G w K rargs hI ha => ?_
 obtain ⟨v,u,rfl,hv,hu⟩:=args2 ha
 obtain rfl:=rep_str hv
 obtain rfl:=rep_str hu
 refine (Any.strings_TrimPrefix Tryz.lays101 (tx s) (tx [45]) w).mono ?_
 rintro e w' ⟨rfl,rfl⟩
 rw [show (tx s).data.toList = s from tx_list s,show (tx [45]).data.toList = [45] from tx_list _,trim_eq]
 exact ⟨_,_,rfl,Below.refl _ _,⟨rfl,rfl⟩,.p _ _ (.str _),cl_p _ _⟩
end Go.Proofs.YtekhddlngbppkaaGreatDoor.Vm

/- Plain: the words of a row, as the program reads them. -/
namespace Go.Proofs.YtekhddlngbppkaaGreatDoor
open Go Vm
theorem numZ_av (s:By):numZ 6 s = if (atoiV s).2 = true∧(unS s).length≤6∧Lib.itoa (atoiV s).1 = s then some (atoiV s).1 else none:=by
 rw [numZ_atoi (m:=6) (by omega) s]
 unfold atoiV
 cases Lib.atoiAll s with
 | ok x=>simp
 | «syntax» => simp
 | range=>simp
theorem atoiV_fit (s:By) : -9223372036854775808≤(atoiV s).1∧(atoiV s).1≤9223372036854775807:=by
 unfold atoiV
 cases h:Lib.atoiAll s with
 | ok x=>exact Lib.atoiAll_bounds h
 | «syntax» => exact ⟨show (-9223372036854775808:Int)≤0 by decide,show (0:Int)≤9223372036854775807 by decide⟩
 | range=>exact Lib.atoiSat_bounds s
structure WdI (is0:Bool) (ws:List By) (k:Nat) (xs:List Int) (is:Bool):Prop where
 len:xs.length = k
 t:is = true→is0 = true∧numsZ 6 (ws.take k) = some xs
 f:is = false→is0 = false∨numsZ 6 (ws.take k) = none
theorem WdI.step {is0:Bool} {ws:List By} {k:Nat} {xs:List Int} {is is':Bool} (h:WdI is0 ws k xs is) (hk:k < ws.length) (h1:is' = true↔is = true∧(atoiV ws[k]).2 = true∧(unS ws[k]).length≤6∧Lib.itoa (atoiV ws[k]).1 = ws[k]):WdI is0 ws (k + 1) (xs++[(atoiV ws[k]).1]) is':=by
 refine ⟨by simp [h.len],fun e => ?_,fun e => ?_⟩
 ·obtain ⟨h2,h3⟩:=h1.1 e
  obtain ⟨h4,h5⟩:=h.t h2
  refine ⟨h4,?_⟩
  rw [numsZ_take hk,h5,numZ_av,if_pos h3]
 ·cases hi:is with
  | false =>
   rcases h.f hi with h2 | h2
   ·exact .inl h2
   ·right
    rw [numsZ_take hk,h2]
  | true =>
   obtain ⟨h4,h5⟩:=h.t hi
   right
   have hn:¬ ((atoiV ws[k]).2 = true∧(unS ws[k]).length≤6∧Lib.itoa (atoiV ws[k]).1 = ws[k]):=fun h6=>by
    rw [h1.2 ⟨hi,h6⟩] at e
    cases e
   rw [numsZ_take hk,h5,numZ_av,if_neg hn]
theorem rsStep_none {i:Nat} {y:Ho} {b:Bool} {row:By} (h:(!b && (decide ((cutL 32 row).headD [] = wHouse) == decide (i = 0))) = false∨numsZ 6 ((cutL 32 row).drop 1) = none):rsStep i (y,b) row = none:=by
 unfold rsStep parseZ
 cases hn:numsZ 6 ((cutL 32 row).drop 1) with
 | none=>rfl
 | some l =>
  simp only [Option.map_some]
  rcases h with h | h
  ·cases b with
   | true=>rfl
   | false =>
    simp only [Bool.not_false,Bool.true_and,beq_eq_false_iff_ne,ne_eq] at h
    simp only [Bool.false_eq_true,if_false]
    generalize (cutL 32 row).headD [] = w at h
    unfold rsPut
    by_cases hi:i = 0
    ·have hw:¬ w = wHouse:=fun e=>h (by rw [decide_eq_true hi,decide_eq_true e])
     rw [if_pos hi,if_neg (fun e=>hw e.1)]
    ·have hw:w = wHouse:=by
      refine Decidable.byContradiction fun e=>h ?_
      rw [decide_eq_false hi,decide_eq_false e]
     subst hw
     rw [if_neg hi,if_neg (fun e=>absurd e.1 (by decide)),if_neg (fun e=>absurd e.1 (by decide)),if_neg (fun e=>absurd e.1 (by decide)),if_neg (fun e=>absurd e.1 (by decide))]
  ·rw [hn] at h
   cases h
theorem rsStep_some {i:Nat} {y:Ho} {row:By} {l:List Int} (h:numsZ 6 ((cutL 32 row).drop 1) = some l):rsStep i (y,false) row = rsPut i y ((cutL 32 row).headD []) l:=by
 unfold rsStep parseZ
 rw [h]
 rfl
theorem rsPut_1 {i:Nat} {y:Ho} {w:By} {l:List Int} (h:¬ i = 0):rsPut i y w l = rsPut 1 y w l:=by
 unfold rsPut
 rw [if_neg h,if_neg Nat.one_ne_zero]
theorem rsPut_end {i:Nat} {y:Ho} {l:List Int} (h:¬ i = 0):rsPut i y wEnd l = if l.length = 1∧l.getD 0 0 = (y.counts.length:Int) then some (y,true) else none:=by
 unfold rsPut
 rw [if_neg h,if_neg (fun e=>absurd e.1 (by decide)),if_neg (fun e=>absurd e.1 (by decide)),if_neg (fun e=>absurd e.1 (by decide))]
 by_cases h1:l.length = 1
 ·rw [if_pos ⟨rfl,h1⟩]
  by_cases h2:l.getD 0 0 = (y.counts.length:Int)
  ·rw [if_pos h2,if_pos ⟨h1,h2⟩]
  ·rw [if_neg h2,if_neg (fun e=>h2 e.2)]
 ·rw [if_neg (fun e=>h1 e.2),if_neg (fun e=>h1 e.1)]
theorem rsPut_goes {y:Ho} {w:By} {l:List Int} {p:Ho×Bool} (hw:w≠wEnd) (h:rsPut 1 y w l = some p):p.2 = false:=by
 unfold rsPut at h
 rw [if_neg (by omega)] at h
 repeat' split at h
 all_goals first | cases h; rfl | (rename_i hc _; exact absurd hc.1 hw) | cases h
end Go.Proofs.YtekhddlngbppkaaGreatDoor

/- The program's timely, on values. (Vm) -/
namespace Go.Proofs.YtekhddlngbppkaaGreatDoor.Vm
open Go Go.Proofs
theorem litHouse:(⟨#[104,111,117,115,101]⟩:ByteArray) = tx wHouse:=rfl
theorem litHall:(⟨#[104,97,108,108]⟩:ByteArray) = tx wHall:=rfl
theorem litDoor:(⟨#[100,111,111,114]⟩:ByteArray) = tx wDoor:=rfl
theorem litCount:(⟨#[99,111,117,110,116]⟩:ByteArray) = tx wCount:=rfl
theorem litEnd:(⟨#[101,110,100]⟩:ByteArray) = tx wEnd:=rfl
theorem ne21:wDoor≠wHall:=by decide
theorem ne31:wCount≠wHall:=by decide
theorem ne32:wCount≠wDoor:=by decide
def timelyB (h:Ho) (w:By) (n:Nat):Bool :=
 if w = wHall then decide (h.doors.length = 0) && (decide (n = 1) && decide (h.counts.length = 0))
 else if w = wDoor then decide (h.counts.length = 0) && decide (n = 3)
 else if w = wCount then decide (n = 6) else false
set_option maxHeartbeats 4000000 in
theorem timely_v (h:Ho) (w:By) (n:Nat) (M:Mem):VC Tryz.prog 71 [houseV h,vs w,vi n] M (fun r M'=>M' = M∧r = vb (timelyB h w n)):=by
 refine VC_own' T_ok (f := 71) (fn:=Tryz.f71) (by kernel_rfl) rfl Tryz.ntmps71 (by rfl) (by rfl) ?_
 (repeat refine Ws ?_);refine We ?_;intro Kn hKn
 ((simp(maxSteps:=1000000)only[VL,VM,↓VG,reduceIte,reduceCtorEq,zA,zB,zC,zD,zE,zF,zG,zH,zI,zJ]); rw [hKn];clear hKn Kn;simp only [QV,reduceIte,reduceCtorEq,zF])
 (repeat refine Ws ?_);refine We ?_;intro Kn hKn
 ((simp(maxSteps:=1000000)only[VL,VM,↓VG,reduceIte,reduceCtorEq,zA,zB,zC,zD,zE,zF,zG,zH,zI,zJ]); rw [hKn];clear hKn Kn;simp only [QV,reduceIte,reduceCtorEq,zF])
 (repeat refine Ws ?_);refine We ?_;intro Kn hKn
 ((simp(maxSteps:=1000000)only[VL,VM,↓VG,reduceIte,reduceCtorEq,zA,zB,zC,zD,zE,zF,zG,zH,zI,zJ]); rw [hKn];clear hKn Kn;simp only [QV,reduceIte,reduceCtorEq,zF])
 (repeat refine Ws ?_);refine W_block ?_
 (repeat refine Ws ?_);refine W_block ?_
 (repeat refine Ws ?_);refine W_block ?_
 (repeat refine Ws ?_);refine W_block ?_
 (repeat refine Ws ?_);refine W_block ?_
 by_cases h1:w = wHall
 ·have k1:(w = wHall) = True:=eq_true h1
  (repeat refine Ws ?_);refine We ?_;intro Kn hKn
  ((simp(maxSteps:=1000000)only[VL,VM,↓VG,reduceIte,reduceCtorEq,zA,zB,zC,zD,zE,zF,zG,zH,zI,zJ,litHall,litDoor,litCount,v_eqS,k1]); rw [hKn];clear hKn Kn;simp only [QV,reduceIte,reduceCtorEq,zF])
  (repeat refine Ws ?_);refine Wt ?_
  (((repeat refine Ws ?_);refine W_exit ?_); simp only [QV,reduceIte,reduceCtorEq,zF])
  by_cases zd:h.doors.length = 0
  ·have ed:((h.doors.length:Int) = 0) = True:=eq_true (by omega)
   by_cases z1:n = 1
   ·have e1:((n:Int) = 1) = True:=eq_true (by omega)
    have e3:((n:Int) = 3) = False:=eq_false (by omega)
    (repeat refine Ws ?_);refine We ?_;intro Kn hKn
    ((simp(maxSteps:=1000000)only[VL,VM,↓VG,reduceIte,reduceCtorEq,zA,zB,zC,zD,zE,zF,zG,zH,zI,zJ,ed,e1]); rw [hKn];clear hKn Kn;simp only [QV,reduceIte,reduceCtorEq,zF])
    by_cases zc:h.counts.length = 0
    ·have ec:((h.counts.length:Int) = 0) = True:=eq_true (by omega)
     (repeat refine Ws ?_);refine We ?_;intro Kn hKn
     ((simp(maxSteps:=1000000)only[VL,VM,↓VG,reduceIte,reduceCtorEq,zA,zB,zC,zD,zE,zF,zG,zH,zI,zJ,ec,e3,litHall,litDoor,litCount,v_eqS,k1]); rw [hKn];clear hKn Kn;simp only [QV,reduceIte,reduceCtorEq,zF])
     (((repeat refine Ws ?_);refine W_exit ?_); simp only [QV,reduceIte,reduceCtorEq,zF])
     (repeat refine Ws ?_);refine We ?_;intro Kn hKn
     ((simp(maxSteps:=1000000)only[VL,VM,↓VG,reduceIte,reduceCtorEq,zA,zB,zC,zD,zE,zF,zG,zH,zI,zJ]); rw [hKn];clear hKn Kn;simp only [QV,reduceIte,reduceCtorEq,zF])
     (repeat refine Ws ?_)
     refine W_ret ?_
     try simp only [thenQ,blockQ]
     refine own_ret1 rfl ?_ (by rfl)
     simp only [get_cons,frz,vtup,zF,if_true,if_false,reduceIte]
     simp [timelyB,h1,zd,z1,zc]
    ·have ec:((h.counts.length:Int) = 0) = False:=eq_false (by omega)
     (repeat refine Ws ?_);refine We ?_;intro Kn hKn
     ((simp(maxSteps:=1000000)only[VL,VM,↓VG,reduceIte,reduceCtorEq,zA,zB,zC,zD,zE,zF,zG,zH,zI,zJ,ec]); rw [hKn];clear hKn Kn;simp only [QV,reduceIte,reduceCtorEq,zF])
     (((repeat refine Ws ?_);refine W_exit ?_); simp only [QV,reduceIte,reduceCtorEq,zF])
     (repeat refine Ws ?_);refine We ?_;intro Kn hKn
     ((simp(maxSteps:=1000000)only[VL,VM,↓VG,reduceIte,reduceCtorEq,zA,zB,zC,zD,zE,zF,zG,zH,zI,zJ]); rw [hKn];clear hKn Kn;simp only [QV,reduceIte,reduceCtorEq,zF])
     (repeat refine Ws ?_)
     refine W_ret ?_
     try simp only [thenQ,blockQ]
     refine own_ret1 rfl ?_ (by rfl)
     simp only [get_cons,frz,vtup,zF,if_true,if_false,reduceIte]
     simp [timelyB,h1,zd,z1,zc]
   ·have e1:((n:Int) = 1) = False:=eq_false (by omega)
    (repeat refine Ws ?_);refine We ?_;intro Kn hKn
    ((simp(maxSteps:=1000000)only[VL,VM,↓VG,reduceIte,reduceCtorEq,zA,zB,zC,zD,zE,zF,zG,zH,zI,zJ,ed,e1]); rw [hKn];clear hKn Kn;simp only [QV,reduceIte,reduceCtorEq,zF])
    (repeat refine Ws ?_);refine We ?_;intro Kn hKn
    ((simp(maxSteps:=1000000)only[VL,VM,↓VG,reduceIte,reduceCtorEq,zA,zB,zC,zD,zE,zF,zG,zH,zI,zJ]); rw [hKn];clear hKn Kn;simp only [QV,reduceIte,reduceCtorEq,zF])
    (((repeat refine Ws ?_);refine W_exit ?_); simp only [QV,reduceIte,reduceCtorEq,zF])
    (repeat refine Ws ?_);refine We ?_;intro Kn hKn
    ((simp(maxSteps:=1000000)only[VL,VM,↓VG,reduceIte,reduceCtorEq,zA,zB,zC,zD,zE,zF,zG,zH,zI,zJ]); rw [hKn];clear hKn Kn;simp only [QV,reduceIte,reduceCtorEq,zF])
    (repeat refine Ws ?_)
    refine W_ret ?_
    try simp only [thenQ,blockQ]
    refine own_ret1 rfl ?_ (by rfl)
    simp only [get_cons,frz,vtup,zF,if_true,if_false,reduceIte]
    simp [timelyB,h1,zd,z1]
  ·have ed:((h.doors.length:Int) = 0) = False:=eq_false (by omega)
   (repeat refine Ws ?_);refine We ?_;intro Kn hKn
   ((simp(maxSteps:=1000000)only[VL,VM,↓VG,reduceIte,reduceCtorEq,zA,zB,zC,zD,zE,zF,zG,zH,zI,zJ,ed]); rw [hKn];clear hKn Kn;simp only [QV,reduceIte,reduceCtorEq,zF])
   (repeat refine Ws ?_);refine We ?_;intro Kn hKn
   ((simp(maxSteps:=1000000)only[VL,VM,↓VG,reduceIte,reduceCtorEq,zA,zB,zC,zD,zE,zF,zG,zH,zI,zJ]); rw [hKn];clear hKn Kn;simp only [QV,reduceIte,reduceCtorEq,zF])
   (((repeat refine Ws ?_);refine W_exit ?_); simp only [QV,reduceIte,reduceCtorEq,zF])
   (repeat refine Ws ?_);refine We ?_;intro Kn hKn
   ((simp(maxSteps:=1000000)only[VL,VM,↓VG,reduceIte,reduceCtorEq,zA,zB,zC,zD,zE,zF,zG,zH,zI,zJ]); rw [hKn];clear hKn Kn;simp only [QV,reduceIte,reduceCtorEq,zF])
   (repeat refine Ws ?_)
   refine W_ret ?_
   try simp only [thenQ,blockQ]
   refine own_ret1 rfl ?_ (by rfl)
   simp only [get_cons,frz,vtup,zF,if_true,if_false,reduceIte]
   simp [timelyB,h1,zd]
 have k1:(w = wHall) = False:=eq_false h1
 (repeat refine Ws ?_);refine We ?_;intro Kn hKn
 ((simp(maxSteps:=1000000)only[VL,VM,↓VG,reduceIte,reduceCtorEq,zA,zB,zC,zD,zE,zF,zG,zH,zI,zJ,litHall,litDoor,litCount,v_eqS,k1]); rw [hKn];clear hKn Kn;simp only [QV,reduceIte,reduceCtorEq,zF])
 (repeat refine Ws ?_);refine Wf ?_
 (((repeat refine Ws ?_);refine W_skip ?_); simp only [QV,reduceIte,reduceCtorEq,zF])
 by_cases h2:w = wDoor
 ·have k2:(w = wDoor) = True:=eq_true h2
  (repeat refine Ws ?_);refine We ?_;intro Kn hKn
  ((simp(maxSteps:=1000000)only[VL,VM,↓VG,reduceIte,reduceCtorEq,zA,zB,zC,zD,zE,zF,zG,zH,zI,zJ,litHall,litDoor,litCount,v_eqS,k2]); rw [hKn];clear hKn Kn;simp only [QV,reduceIte,reduceCtorEq,zF])
  (repeat refine Ws ?_);refine Wt ?_
  (((repeat refine Ws ?_);refine W_exit ?_); simp only [QV,reduceIte,reduceCtorEq,zF])
  by_cases zc:h.counts.length = 0
  ·have ec:((h.counts.length:Int) = 0) = True:=eq_true (by omega)
   by_cases z3:n = 3
   ·have e3:((n:Int) = 3) = True:=eq_true (by omega)
    (repeat refine Ws ?_);refine We ?_;intro Kn hKn
    ((simp(maxSteps:=1000000)only[VL,VM,↓VG,reduceIte,reduceCtorEq,zA,zB,zC,zD,zE,zF,zG,zH,zI,zJ,ec,e3]); rw [hKn];clear hKn Kn;simp only [QV,reduceIte,reduceCtorEq,zF])
    (((repeat refine Ws ?_);refine W_exit ?_); simp only [QV,reduceIte,reduceCtorEq,zF])
    (repeat refine Ws ?_);refine We ?_;intro Kn hKn
    ((simp(maxSteps:=1000000)only[VL,VM,↓VG,reduceIte,reduceCtorEq,zA,zB,zC,zD,zE,zF,zG,zH,zI,zJ]); rw [hKn];clear hKn Kn;simp only [QV,reduceIte,reduceCtorEq,zF])
    (repeat refine Ws ?_)
    refine W_ret ?_
    try simp only [thenQ,blockQ]
    refine own_ret1 rfl ?_ (by rfl)
    simp only [get_cons,frz,vtup,zF,if_true,if_false,reduceIte]
    simp [timelyB,h2,ne21,zc,z3]
   ·have e3:((n:Int) = 3) = False:=eq_false (by omega)
    (repeat refine Ws ?_);refine We ?_;intro Kn hKn
    ((simp(maxSteps:=1000000)only[VL,VM,↓VG,reduceIte,reduceCtorEq,zA,zB,zC,zD,zE,zF,zG,zH,zI,zJ,ec,e3,litHall,litDoor,litCount,v_eqS,k1]); rw [hKn];clear hKn Kn;simp only [QV,reduceIte,reduceCtorEq,zF])
    (((repeat refine Ws ?_);refine W_exit ?_); simp only [QV,reduceIte,reduceCtorEq,zF])
    (repeat refine Ws ?_);refine We ?_;intro Kn hKn
    ((simp(maxSteps:=1000000)only[VL,VM,↓VG,reduceIte,reduceCtorEq,zA,zB,zC,zD,zE,zF,zG,zH,zI,zJ]); rw [hKn];clear hKn Kn;simp only [QV,reduceIte,reduceCtorEq,zF])
    (repeat refine Ws ?_)
    refine W_ret ?_
    try simp only [thenQ,blockQ]
    refine own_ret1 rfl ?_ (by rfl)
    simp only [get_cons,frz,vtup,zF,if_true,if_false,reduceIte]
    simp [timelyB,h2,ne21,zc,z3]
  ·have ec:((h.counts.length:Int) = 0) = False:=eq_false (by omega)
   (repeat refine Ws ?_);refine We ?_;intro Kn hKn
   ((simp(maxSteps:=1000000)only[VL,VM,↓VG,reduceIte,reduceCtorEq,zA,zB,zC,zD,zE,zF,zG,zH,zI,zJ,ec]); rw [hKn];clear hKn Kn;simp only [QV,reduceIte,reduceCtorEq,zF])
   (((repeat refine Ws ?_);refine W_exit ?_); simp only [QV,reduceIte,reduceCtorEq,zF])
   (repeat refine Ws ?_);refine We ?_;intro Kn hKn
   ((simp(maxSteps:=1000000)only[VL,VM,↓VG,reduceIte,reduceCtorEq,zA,zB,zC,zD,zE,zF,zG,zH,zI,zJ]); rw [hKn];clear hKn Kn;simp only [QV,reduceIte,reduceCtorEq,zF])
   (repeat refine Ws ?_)
   refine W_ret ?_
   try simp only [thenQ,blockQ]
   refine own_ret1 rfl ?_ (by rfl)
   simp only [get_cons,frz,vtup,zF,if_true,if_false,reduceIte]
   simp [timelyB,h2,ne21,zc]
 have k2:(w = wDoor) = False:=eq_false h2
 (repeat refine Ws ?_);refine We ?_;intro Kn hKn
 ((simp(maxSteps:=1000000)only[VL,VM,↓VG,reduceIte,reduceCtorEq,zA,zB,zC,zD,zE,zF,zG,zH,zI,zJ,litHall,litDoor,litCount,v_eqS,k2]); rw [hKn];clear hKn Kn;simp only [QV,reduceIte,reduceCtorEq,zF])
 (repeat refine Ws ?_);refine Wf ?_
 (((repeat refine Ws ?_);refine W_skip ?_); simp only [QV,reduceIte,reduceCtorEq,zF])
 by_cases h3:w = wCount
 ·have k3:(w = wCount) = True:=eq_true h3
  (repeat refine Ws ?_);refine We ?_;intro Kn hKn
  ((simp(maxSteps:=1000000)only[VL,VM,↓VG,reduceIte,reduceCtorEq,zA,zB,zC,zD,zE,zF,zG,zH,zI,zJ,litHall,litDoor,litCount,v_eqS,k3]); rw [hKn];clear hKn Kn;simp only [QV,reduceIte,reduceCtorEq,zF])
  (repeat refine Ws ?_);refine Wt ?_
  (((repeat refine Ws ?_);refine W_exit ?_); simp only [QV,reduceIte,reduceCtorEq,zF])
  by_cases z6:n = 6
  ·have e6:((n:Int) = 6) = True:=eq_true (by omega)
   (repeat refine Ws ?_);refine We ?_;intro Kn hKn
   ((simp(maxSteps:=1000000)only[VL,VM,↓VG,reduceIte,reduceCtorEq,zA,zB,zC,zD,zE,zF,zG,zH,zI,zJ,e6]); rw [hKn];clear hKn Kn;simp only [QV,reduceIte,reduceCtorEq,zF])
   (((repeat refine Ws ?_);refine W_exit ?_); simp only [QV,reduceIte,reduceCtorEq,zF])
   (repeat refine Ws ?_);refine We ?_;intro Kn hKn
   ((simp(maxSteps:=1000000)only[VL,VM,↓VG,reduceIte,reduceCtorEq,zA,zB,zC,zD,zE,zF,zG,zH,zI,zJ]); rw [hKn];clear hKn Kn;simp only [QV,reduceIte,reduceCtorEq,zF])
   (repeat refine Ws ?_)
   refine W_ret ?_
   try simp only [thenQ,blockQ]
   refine own_ret1 rfl ?_ (by rfl)
   simp only [get_cons,frz,vtup,zF,if_true,if_false,reduceIte]
   simp [timelyB,h3,ne31,ne32,z6]
  ·have e6:((n:Int) = 6) = False:=eq_false (by omega)
   (repeat refine Ws ?_);refine We ?_;intro Kn hKn
   ((simp(maxSteps:=1000000)only[VL,VM,↓VG,reduceIte,reduceCtorEq,zA,zB,zC,zD,zE,zF,zG,zH,zI,zJ,e6]); rw [hKn];clear hKn Kn;simp only [QV,reduceIte,reduceCtorEq,zF])
   (((repeat refine Ws ?_);refine W_exit ?_); simp only [QV,reduceIte,reduceCtorEq,zF])
   (repeat refine Ws ?_);refine We ?_;intro Kn hKn
   ((simp(maxSteps:=1000000)only[VL,VM,↓VG,reduceIte,reduceCtorEq,zA,zB,zC,zD,zE,zF,zG,zH,zI,zJ]); rw [hKn];clear hKn Kn;simp only [QV,reduceIte,reduceCtorEq,zF])
   (repeat refine Ws ?_)
   refine W_ret ?_
   try simp only [thenQ,blockQ]
   refine own_ret1 rfl ?_ (by rfl)
   simp only [get_cons,frz,vtup,zF,if_true,if_false,reduceIte]
   simp [timelyB,h3,ne31,ne32,z6]
 have k3:(w = wCount) = False:=eq_false h3
 (repeat refine Ws ?_);refine We ?_;intro Kn hKn
 ((simp(maxSteps:=1000000)only[VL,VM,↓VG,reduceIte,reduceCtorEq,zA,zB,zC,zD,zE,zF,zG,zH,zI,zJ,litHall,litDoor,litCount,v_eqS,k3]); rw [hKn];clear hKn Kn;simp only [QV,reduceIte,reduceCtorEq,zF])
 (repeat refine Ws ?_);refine Wf ?_
 (((repeat refine Ws ?_);refine W_skip ?_); simp only [QV,reduceIte,reduceCtorEq,zF])
 (((repeat refine Ws ?_);refine W_exit ?_); simp only [QV,reduceIte,reduceCtorEq,zF])
 (repeat refine Ws ?_);refine We ?_;intro Kn hKn
 ((simp(maxSteps:=1000000)only[VL,VM,↓VG,reduceIte,reduceCtorEq,zA,zB,zC,zD,zE,zF,zG,zH,zI,zJ]); rw [hKn];clear hKn Kn;simp only [QV,reduceIte,reduceCtorEq,zF])
 (((repeat refine Ws ?_);refine W_exit ?_); simp only [QV,reduceIte,reduceCtorEq,zF])
 (repeat refine Ws ?_);refine We ?_;intro Kn hKn
 ((simp(maxSteps:=1000000)only[VL,VM,↓VG,reduceIte,reduceCtorEq,zA,zB,zC,zD,zE,zF,zG,zH,zI,zJ]); rw [hKn];clear hKn Kn;simp only [QV,reduceIte,reduceCtorEq,zF])
 (repeat refine Ws ?_)
 refine W_ret ?_
 try simp only [thenQ,blockQ]
 refine own_ret1 rfl ?_ (by rfl)
 simp only [get_cons,frz,vtup,zF,if_true,if_false,reduceIte]
 simp [timelyB,h1,h2,h3]
end Go.Proofs.YtekhddlngbppkaaGreatDoor.Vm
