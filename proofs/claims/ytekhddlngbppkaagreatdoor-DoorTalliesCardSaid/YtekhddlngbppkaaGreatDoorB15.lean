/- A part of the proofs about the doors; no condition. -/
import Derived.Test.YtekhddlngbppkaaGreatDoorB13
import Derived.Test.YtekhddlngbppkaaGreatDoorB14
import Derived.Shelf.Strings.BuilderK
import Derived.Shelf.LaysM
import Derived.Shelf.Strconv.Itoa3
import Derived.Shelf.LaysC
import Derived.Shelf.Strconv.AtoiAll
import Derived.Shelf.Strings.Split
import Derived.Shelf.Lays
import Derived.Shelf.Strings.Prefix
import Derived.Test.YtekhddlngbppkaaGreatDoorProg
import Derived.Lib.Split
import Derived.Lib.SplitLaws
import Derived.Lib.ItoaNum
import Derived.Lib.AtoiAll
import Derived.Test.YtekhddlngbppkaaGreatDoorRows
import Derived.Lib.AtoiTie
set_option linter.unusedVariables false
set_option linter.unusedSimpArgs false
/- Laws of numbers. (Vm) -/
namespace Go.Proofs.YtekhddlngbppkaaGreatDoor.Vm
open Go Go.Proofs Go.ChangeShapes Go.WideShapes Go.ChangeAt Go.RowKit
theorem cells_int:Tryz.prog.cellsOf 3 = 1:=by kernel_rfl
theorem ok_ints:okT Tryz.prog 2 22 = true:=by kernel_rfl
end Go.Proofs.YtekhddlngbppkaaGreatDoor.Vm

/- Laws of houses and numbers: what comes in, as values. (Vm) -/
namespace Go.Proofs.YtekhddlngbppkaaGreatDoor.Vm
open Go Go.Proofs Go.ChangeShapes Go.WideShapes Go.ChangeAt Go.RowKit
theorem cells_door:Tryz.prog.cellsOf 67 = 3:=by kernel_rfl
theorem cells_count:Tryz.prog.cellsOf 71 = 6:=by kernel_rfl
theorem ok_house:okT Tryz.prog 5 28 = true:=by kernel_rfl
theorem ok_int:okT Tryz.prog 1 3 = true:=by kernel_rfl
theorem sh_int {xs:List PV} {ts:List TypeId} (h:ShL (3 :: ts) xs):∃ n ys,xs = .int .i64 n :: ys∧(Lit.int .i64 n).wf = true∧ShL ts ys:=by
 obtain ⟨n,ys,rfl,hw,h1⟩:=h.int_inv Tryz.underlying3
 exact ⟨n,ys,rfl,hw,h1⟩
theorem sh_ints' {xs:List PV} {ts:List TypeId} (h:ShL (22 :: ts) xs):∃ (l:List Int) (ys:List PV),xs = .sl 1 (l.map intP) :: ys∧l.length≤maxLen∧ShL ts ys:=by
 obtain ⟨rows,ys,he,hl,hr,h1⟩:=h.sl_inv Tryz.underlying22
 obtain ⟨xs,rfl,_⟩:=rows_inv (f:=intP) (p:=fun _=>True) (fun x hx=>by
  obtain ⟨n,ys,rfl,_,h⟩:=sh_int hx
  obtain rfl:=h.nil_inv
  exact ⟨n,rfl,trivial⟩) hr
 rw [cells_int] at he
 exact ⟨xs,ys,he,by simpa using hl,h1⟩
theorem sh_span {xs:List PV} {ts:List TypeId} (h:ShL (25 :: ts) xs):∃ (c:Sp) (ys:List PV),xs = spP c++ys∧ShL ts ys:=by
 have h1:ShL (3 :: 3 :: ts) xs:=h.st_inv Tryz.underlying25
 obtain ⟨x,ys,rfl,_,h2⟩:=sh_int h1
 obtain ⟨y,ys,rfl,_,h3⟩:=sh_int h2
 exact ⟨⟨x,y⟩,ys,rfl,h3⟩
theorem sh_door {xs:List PV} {ts:List TypeId} (h:ShL (67 :: ts) xs):∃ (c:Do) (ys:List PV),xs = doP c++ys∧ShL ts ys:=by
 have h1:ShL (3 :: 3 :: 3 :: ts) xs:=h.st_inv Tryz.underlying67
 obtain ⟨x,ys,rfl,_,h2⟩:=sh_int h1
 obtain ⟨y,ys,rfl,_,h3⟩:=sh_int h2
 obtain ⟨z,ys,rfl,_,h4⟩:=sh_int h3
 exact ⟨⟨x,y,z⟩,ys,rfl,h4⟩
theorem sh_count {xs:List PV} {ts:List TypeId} (h:ShL (71 :: ts) xs):∃ (c:Co) (ys:List PV),xs = coP c++ys∧ShL ts ys:=by
 have h1:ShL (3 :: 3 :: 25 :: 25 :: ts) xs:=h.st_inv Tryz.underlying71
 obtain ⟨x,ys,rfl,_,h2⟩:=sh_int h1
 obtain ⟨y,ys,rfl,_,h3⟩:=sh_int h2
 obtain ⟨z,ys,rfl,h4⟩:=sh_span h3
 obtain ⟨z',ys,rfl,h5⟩:=sh_span h4
 exact ⟨⟨x,y,z,z'⟩,ys,rfl,h5⟩
theorem sh_doors {xs:List PV} {ts:List TypeId} (h:ShL (23 :: ts) xs):∃ (l:List Do) (ys:List PV),xs = .sl 3 (l.map doP) :: ys∧l.length≤maxLen∧ShL ts ys:=by
 obtain ⟨rows,ys,he,hl,hr,h1⟩:=h.sl_inv Tryz.underlying23
 obtain ⟨xs,rfl,_⟩:=rows_inv (f:=doP) (p:=fun _=>True) (fun x hx=>by
  obtain ⟨n,ys,rfl,h⟩:=sh_door hx
  obtain rfl:=h.nil_inv
  exact ⟨n,List.append_nil _,trivial⟩) hr
 rw [cells_door] at he
 exact ⟨xs,ys,he,by simpa using hl,h1⟩
theorem sh_counts {xs:List PV} {ts:List TypeId} (h:ShL (26 :: ts) xs):∃ (l:List Co) (ys:List PV),xs = .sl 6 (l.map coP) :: ys∧l.length≤maxLen∧ShL ts ys:=by
 obtain ⟨rows,ys,he,hl,hr,h1⟩:=h.sl_inv Tryz.underlying26
 obtain ⟨xs,rfl,_⟩:=rows_inv (f:=coP) (p:=fun _=>True) (fun x hx=>by
  obtain ⟨n,ys,rfl,h⟩:=sh_count hx
  obtain rfl:=h.nil_inv
  exact ⟨n,List.append_nil _,trivial⟩) hr
 rw [cells_count] at he
 exact ⟨xs,ys,he,by simpa using hl,h1⟩
theorem sh_house {xs:List PV} (h:ShL [28] xs):∃ c:Ho,xs = [.sl 1 (c.holds.map intP),.sl 3 (c.doors.map doP),.int .i64 c.first.lo,.int .i64 c.first.hi,.int .i64 c.ticks,.sl 6 (c.counts.map coP)]∧c.holds.length≤maxLen∧c.doors.length≤maxLen∧c.counts.length≤maxLen:=by
 have h1:ShL [22, 23, 25, 3, 26] xs:=h.st_inv Tryz.underlying28
 obtain ⟨a,ys,rfl,ha,h2⟩:=sh_ints' h1
 obtain ⟨b,ys,rfl,hb,h3⟩:=sh_doors h2
 obtain ⟨c,ys,rfl,h4⟩:=sh_span h3
 obtain ⟨d,ys,rfl,_,h5⟩:=sh_int h4
 obtain ⟨e,ys,rfl,he,h6⟩:=sh_counts h5
 obtain rfl:=h6.nil_inv
 exact ⟨⟨a,b,c,d,e⟩,rfl,ha,hb,he⟩
def Rd (t:TypeId) (p:VV→Prop):Prop:=(Tryz.prog.readableRec t = true∧t < Tryz.prog.types.size)∧∀ (H:Type) (enc:TypeId×Value→H) (W:World) (b0:Nat) (v:Value) (d:DataW H) (ps:List MemPlace),Value.okWide Tryz.prog W .any b0 t v→DataW.Trod enc Tryz.prog W 0 (fun _=>true) true t v d ps→∃ u,p u∧RepV W (fun _=>none) [] v u∧refs u = []
set_option maxRecDepth 100000 in
theorem rd_house:Rd 28 (fun u=>∃ c:Ho,u = houseV c∧c.holds.length≤maxLen∧c.doors.length≤maxLen∧c.counts.length≤maxLen):=by
 refine ⟨⟨by kernel_rfl,of_decide_eq_true (by kernel_rfl)⟩,fun H enc W b0 v d ps hv h => ?_⟩
 obtain ⟨xs,h1,h2⟩:=arg_st Tryz.underlying28 ok_house hv h
 obtain ⟨c,rfl,h3⟩:=sh_house h1
 exact ⟨_,⟨c,rfl,h3⟩,h2,rfl⟩
set_option maxRecDepth 100000 in
theorem rd_ints:Rd 22 (fun u=>∃ l:List Int,u = intsV l∧l.length≤maxLen):=by
 refine ⟨⟨by kernel_rfl,of_decide_eq_true (by kernel_rfl)⟩,fun H enc W b0 v d ps hv h => ?_⟩
 obtain ⟨u,h1,h2⟩:=arg_slice Tryz.underlying22 ok_ints hv h
 obtain ⟨l,ys,he,hl,h3⟩:=sh_ints' h1
 cases he
 exact ⟨_,⟨l,rfl,hl⟩,h2,rfl⟩
set_option maxRecDepth 100000 in
theorem rd_int:Rd 3 (fun u=>∃ n:Int,u = vi n ∧ -9223372036854775808≤n∧n < 9223372036854775808):=by
 refine ⟨⟨by kernel_rfl,of_decide_eq_true (by kernel_rfl)⟩,fun H enc W b0 v d ps hv h => ?_⟩
 obtain ⟨u,h1,h2⟩:=arg_int Tryz.underlying3 ok_int hv h
 obtain ⟨n,ys,he,hw,h3⟩:=sh_int h1
 cases he
 refine ⟨_,⟨n,rfl,?_⟩,h2,rfl⟩
 have h7:IntKind.i64.min = -9223372036854775808:=by decide
 have h8:IntKind.i64.max = 9223372036854775807:=by decide
 simp only [Lit.wf,Bool.and_eq_true,decide_eq_true_eq,h7,h8] at hw
 omega
inductive Rds:List TypeId→List (VV→Prop)→Prop
 | nil:Rds [] []
 | cons {t:TypeId} {p:VV→Prop} {ts:List TypeId} {ps:List (VV→Prop)} (h:Rd t p) (r:Rds ts ps):Rds (t :: ts) (p :: ps)
inductive Sat:List (VV→Prop)→List VV→Prop
 | nil:Sat [] []
 | cons {p:VV→Prop} {ps:List (VV→Prop)} {u:VV} {us:List VV} (h:p u) (r:Sat ps us):Sat (p :: ps) (u :: us)
theorem Sat.inv {p:VV→Prop} {ps:List (VV→Prop)} {us:List VV} (h:Sat (p :: ps) us):∃ u vs,us = u :: vs∧p u∧Sat ps vs:=by
 cases h with
 | cons h r=>exact ⟨_,_,rfl,h,r⟩
theorem Sat.inv0 {us:List VV} (h:Sat [] us):us = []:=by cases h; rfl
theorem pw_cons {α β:Type} {R:α→β→Prop} {a:α} {b:β} {xs:List α} {ys:List β} (h:R a b) (r:PW R xs ys):PW R (a :: xs) (b :: ys):=⟨by simp [r.1],fun i x y h1 h2=>by
 match i,h1,h2 with
 | 0,h1,h2=>cases h1; cases h2; exact h
 | i + 1,h1,h2=>exact r.2 i x y h1 h2⟩
set_option maxRecDepth 100000 in
theorem Rds.read {H:Type} {enc:TypeId×Value→H} {W:World} {b0:Nat}:∀ {ts:List TypeId} {pr:List (VV→Prop)},Rds ts pr→∀ {args:List Value} {ds:List (DataW H)} {ps:List MemPlace},DataW.TrodAll enc Tryz.prog W 0 (fun _=>true) true ts args ds ps→(∀ (j:Nat) t v,ts[j]? = some t→args[j]? = some v→Value.okWide Tryz.prog W .any b0 t v)→∃ us,Sat pr us∧PW (RepV W (fun _=>none) []) args us∧(∀ a∈us,refs a = [])∧ds.length = ts.length:=by
 intro ts pr R
 induction R with
 | nil =>
  intro args ds ps h _
  obtain ⟨rfl,rfl,rfl⟩:=trodAll_nil h
  exact ⟨[],.nil,⟨rfl,fun i a b h=>by simp at h⟩,by simp,rfl⟩
 | cons h r ih =>
  intro args ds ps hA hv
  obtain ⟨v0,vs0,d0,ds0,p0,q0,rfl,rfl,rfl,h0,r0⟩:=trodAll_cons hA
  obtain ⟨us,s1,s2,s3,s4⟩:=ih r0 fun j t v h1 h2=>hv (j + 1) t v (by simpa using h1) (by simpa using h2)
  obtain ⟨u,t1,t2,t3⟩:=h.2 H enc W b0 v0 d0 p0 (hv 0 _ _ rfl rfl) h0
  refine ⟨u :: us,.cons t1 s1,pw_cons t2 s2,fun a ha => ?_,by simp [s4]⟩
  rcases List.mem_cons.1 ha with rfl | ha
  ·exact t3
  ·exact s3 a ha
theorem Rds.types {ts:List TypeId} {pr:List (VV→Prop)} (R:Rds ts pr):∀ t∈ts,Tryz.prog.readableRec t = true∧t < Tryz.prog.types.size:=by
 induction R with
 | nil=>simp
 | cons h r ih =>
  intro t ht
  rcases List.mem_cons.1 ht with rfl | ht
  ·exact h.1
  ·exact ih t ht
set_option maxRecDepth 100000 in
theorem law_contract {f:Nat} {fn:Func} {s:ChangeSpec} {H:Type} {enc:TypeId×Value→H} {W:World} {args:Array Value} {ds gs:List (DataW H)} {before:List MemPlace} {b0:Nat} {pr:List (VV→Prop)} (R:Rds fn.params.toList pr) (hvs:s.vars = [])
  (hs:∀ ds:List (DataW H),ds.length = fn.params.toList.length→(s.fn H ds).results = [.lit (.bool true)]∧(s.fn H ds).args = ds∧(s.fn H ds).vars = []) (hres:fn.resultTypes = #[4])
  (hv:∀ us,Sat pr us→VC Tryz.prog f us ⟨[],[]⟩ (fun r M'=>M' = ⟨[],[]⟩∧r = vb true))
  (hlz:Lz W.heap.size W (fun _=>False))
  (hval:∀ (j:Nat) t v,fn.params[j]? = some t→args[j]? = some v→Value.okWide Tryz.prog W .any b0 t v)
  (hW:DataW.Whole enc Tryz.prog fn.params.toList s.vars false W args.toList ds gs before) :
  Calls Tryz.prog f args W fun e W'=>∃ v,e = .returned v∧s.post enc Tryz.prog fn false true false false W args v W':=by
 have hW':=hW
 obtain ⟨p,q,hA0,hV,rfl,hfz,hnd⟩:=hW
 have hA:DataW.TrodAll enc Tryz.prog W 0 (fun _=>true) true fn.params.toList args.toList ds p:=hA0
 obtain ⟨us,s1,s2,s3,s4⟩:=R.read hA fun j t v h1 h2=>hval j t v (by simpa using h1) (by simpa using h2)
 exact law_post hvs (hs ds s4) hres R.types hW' (law_run hlz s2 s3 (hv us s1))
end Go.Proofs.YtekhddlngbppkaaGreatDoor.Vm

/- The machine on values at work: regions whose continuation is kept out of sight. -/
namespace Go.Proofs.YtekhddlngbppkaaGreatDoor.Vm
open Go Go.Proofs
section
variable {P:Program} {T:Tab} {cx:Cx} {e:Env} {M:Mem} {D:List Nat} {Q:PQ}
theorem QV:type_of% (cA @thenQ.eq_1 (cA @thenQ.eq_2 (cA @blockQ.eq_1 @blockQ.eq_2))):=cA @thenQ.eq_1 (cA @thenQ.eq_2 (cA @blockQ.eq_1 @blockQ.eq_2))
theorem W_regionE (hT:TabOk P T) {id:Nat} {ops:Array Oper} (h:∀ Kn:Env→Mem→Prop,(∀ e' M',Kn e' M' = Q .normal e' M' D)→WOps P T cx.nt ops ops.toList e M Kn):WCode P cx (.region id ops false) e M D Q:=W_region0 hT (h _ fun _ _=>rfl)
theorem W_drawE (hT:TabOk P T) {id:Nat} {ops:Array Oper} (zs:List VObj) (hz:zerosOf T ops.toList = some zs) (hp:planOk ops (mkPlan ops) = true)
  (h:∀ Kn:Env→Mem→Prop,(∀ e' M',Kn e' M' = Q .normal e' M' D)→WDraw P T cx.nt ops ops.toList (mkPlan ops) e M.H.length { M with H:=M.H++zs } [] [] Kn):WCode P cx (.region id ops true) e M D Q:=W_drawP hT zs hz hp (h _ fun _ _=>rfl)
end
theorem We {cx:Cx} {e:Env} {M:Mem} {D:List Nat} {Q:PQ} {id:Nat} {ops:Array Oper} (h:∀ Kn:Env→Mem→Prop,(∀ e' M',Kn e' M' = Q .normal e' M' D)→WOps Tryz.prog T cx.nt ops ops.toList e M Kn):WCode Tryz.prog cx (.region id ops false) e M D Q:=W_regionE T_ok h
end Go.Proofs.YtekhddlngbppkaaGreatDoor.Vm

/- The machine on values: sets of carts. (Vm) -/
namespace Go.Proofs.YtekhddlngbppkaaGreatDoor.Vm
open Go Go.Proofs
section
variable (t:Nat) (a b:Nat)
theorem bin_pure {op:BinOp} {k k':IntKind} {x y z:Int} (h:Go.binOp op 0 (.int k x) (.int k' y) = .pure (.int k z)):vbin T op t (.p (.int k x)) (.p (.int k' y)) = some (.p (.int k z)):=by
 simp only [vbin,h,pureOf,Option.map_some,ofValue]
theorem u8_eql:vbin T .eql t (su a) (su b) = some (vb (decide (a = b))):=by
 have h:Go.binOp .eql 0 (.int .u8 a) (.int .u8 b) = .pure (.bool (decide ((a:Int) = b))):=rfl
 simp only [vbin,h,pureOf,Option.map_some,ofValue]
 by_cases e:a = b
 ·rw [decide_eq_true e,decide_eq_true (by omega)]
 ·rw [decide_eq_false e,decide_eq_false (by omega)]
end
end Go.Proofs.YtekhddlngbppkaaGreatDoor.Vm

/- The library contracts of the shelf, laid at this program (strings.Builder, strings.Split, strconv.Itoa, strconv.Atoi). -/
namespace Go.Proofs
open Go.Shelf
def Tryz.lays169_ren:Go.Shelf.Ren:=⟨fun | 169=>35 | n=>n,fun | 70=>77 | 9=>9 | 0=>0 | 72=>80 | 37=>78 | 127=>119 | 3=>3 | 5=>5 | n=>n,fun | n=>n⟩
theorem Tryz.Builder_Extra_169:Builder.Extra Tryz.prog Tryz.lays169_ren:={
 sizeBuilder:=by kernel_rfl
 liesBuilder:=by kernel_rfl
 t5:=Tryz.underlying5
 a5:=Tryz.isAgg5
 z5:=Tryz.sizeOf5
 v5:=Tryz.zeroValue5
 infoByte:=by kernel_rfl
 cellsByte:=by kernel_rfl
 sizeByte:=by kernel_rfl
 neB5:=by decide }
def Tryz.laysM171_ren:Go.Shelf.Ren:=⟨fun | 171=>34 | 243=>62 | 246=>86 | 283=>100 | 284=>101 | 285=>102 | 286=>103 | 129=>113 | 317=>112 | 318=>114 | 319=>115 | 320=>116 | 337=>124 | 338=>125 | n=>n,fun | 3=>3 | 9=>9 | 2=>2 | 4=>4 | 171=>154 | 0=>0 | 53=>72 | 37=>78 | 5=>5 | 173=>157 | 212=>171 | 51=>172 | 20=>20 | 213=>173 | 46=>114 | 232=>187 | 233=>188 | n=>n,fun | 17=>2 | 18=>6 | 19=>7 | n=>n⟩
theorem Tryz.laysM171:Go.Proofs.LaysM.n171 Tryz.prog Tryz.laysM171_ren:={
 mixed:=by kernel_rfl
 f129:=Tryz.func113.trans (congrArg some (by kernel_rfl))
 f171:=Tryz.func34.trans (congrArg some (by kernel_rfl))
 f243:=Tryz.func62.trans (congrArg some (by kernel_rfl))
 f246:=Tryz.func86.trans (congrArg some (by kernel_rfl))
 f283:=Tryz.func100.trans (congrArg some (by kernel_rfl))
 f284:=Tryz.func101.trans (congrArg some (by kernel_rfl))
 f285:=Tryz.func102.trans (congrArg some (by kernel_rfl))
 f286:=Tryz.func103.trans (congrArg some (by kernel_rfl))
 f317:=Tryz.func112.trans (congrArg some (by kernel_rfl))
 f318:=Tryz.func114.trans (congrArg some (by kernel_rfl))
 f319:=Tryz.func115.trans (congrArg some (by kernel_rfl))
 f320:=Tryz.func116.trans (congrArg some (by kernel_rfl))
 f337:=Tryz.func124.trans (congrArg some (by kernel_rfl))
 f338:=Tryz.func125.trans (congrArg some (by kernel_rfl))
 t0:=Tryz.underlying0
 a0:=Tryz.isAgg0
 z0:=Tryz.sizeOf0
 v0:=Tryz.zeroValue0
 t2:=Tryz.underlying2
 a2:=Tryz.isAgg2
 z2:=Tryz.sizeOf2
 v2:=Tryz.zeroValue2
 t3:=Tryz.underlying3
 a3:=Tryz.isAgg3
 z3:=Tryz.sizeOf3
 v3:=Tryz.zeroValue3
 t4:=Tryz.underlying4
 a4:=Tryz.isAgg4
 z4:=Tryz.sizeOf4
 v4:=Tryz.zeroValue4
 t5:=Tryz.underlying5
 a5:=Tryz.isAgg5
 z5:=Tryz.sizeOf5
 v5:=Tryz.zeroValue5
 t9:=Tryz.underlying9
 a9:=Tryz.isAgg9
 z9:=Tryz.sizeOf9
 v9:=Tryz.zeroValue9
 t20:=Tryz.underlying20
 a20:=Tryz.isAgg20
 z20:=Tryz.sizeOf20
 v20:=Tryz.zeroValue20
 t37:=Tryz.underlying78
 a37:=Tryz.isAgg78
 z37:=Tryz.sizeOf78
 v37:=Tryz.zeroValue78
 t46:=Tryz.underlying114
 a46:=Tryz.isAgg114
 z46:=Tryz.sizeOf114
 v46:=Tryz.zeroValue114
 t51:=Tryz.underlying172
 a51:=Tryz.isAgg172
 z51:=Tryz.sizeOf172
 v51:=Tryz.zeroValue172
 t53:=Tryz.underlying72
 a53:=Tryz.isAgg72
 z53:=Tryz.sizeOf72
 v53:=Tryz.zeroValue72
 t171:=Tryz.underlying154
 a171:=Tryz.isAgg154
 z171:=Tryz.sizeOf154
 v171:=Tryz.zeroValue154
 t173:=Tryz.underlying157
 a173:=Tryz.isAgg157
 z173:=Tryz.sizeOf157
 v173:=Tryz.zeroValue157
 t212:=Tryz.underlying171
 a212:=Tryz.isAgg171
 z212:=Tryz.sizeOf171
 v212:=Tryz.zeroValue171
 t213:=Tryz.underlying173
 a213:=Tryz.isAgg173
 z213:=Tryz.sizeOf173
 t232:=Tryz.underlying187
 a232:=Tryz.isAgg187
 z232:=Tryz.sizeOf187
 v232:=Tryz.zeroValue187
 t233:=Tryz.underlying188
 a233:=Tryz.isAgg188
 z233:=Tryz.sizeOf188
 v233:=Tryz.zeroValue188
 g17:=by kernel_rfl
 g18:=by kernel_rfl
 g19:=by kernel_rfl
 i0:=by kernel_rfl
 i2:=by kernel_rfl
 i3:=by kernel_rfl
 i4:=by kernel_rfl
 i5:=by kernel_rfl
 i9:=by kernel_rfl
 i20:=by kernel_rfl
 i37:=by kernel_rfl
 i46:=by kernel_rfl
 i51:=by kernel_rfl
 i53:=by kernel_rfl
 i171:=by kernel_rfl
 i173:=by kernel_rfl
 i212:=by kernel_rfl
 i232:=by kernel_rfl
 i233:=by kernel_rfl
 m17:=by kernel_rfl
 m18:=by kernel_rfl
 m19:=by kernel_rfl }
def Tryz.laysC172_ren:Go.Shelf.Ren:=⟨fun | 172=>39 | 244=>68 | 245=>69 | 247=>90 | 279=>91 | 280=>92 | 281=>93 | 282=>94 | 287=>108 | 316=>109 | 171=>34 | 205=>110 | 321=>122 | 322=>123 | 243=>62 | 246=>86 | 283=>100 | 284=>101 | 285=>102 | 286=>103 | 129=>113 | 317=>112 | 318=>114 | 319=>115 | 320=>116 | 337=>124 | 338=>125 | n=>n,fun | 9=>9 | 3=>3 | 75=>82 | 76=>83 | 4=>4 | 5=>5 | 167=>142 | 37=>78 | 0=>0 | 85=>143 | 2=>2 | 168=>145 | 53=>72 | 175=>163 | 46=>114 | 210=>167 | 127=>119 | 145=>179 | 143=>177 | 21=>21 | 171=>154 | 173=>157 | 212=>171 | 51=>172 | 20=>20 | 213=>173 | 232=>187 | 233=>188 | 80=>87 | n=>n,fun | 15=>0 | 16=>1 | 17=>2 | 18=>6 | 19=>7 | n=>n⟩
theorem Tryz.laysC172:Go.Proofs.LaysC.n172 Tryz.prog Tryz.laysC172_ren:={
 mixed:=by kernel_rfl
 f129:=Tryz.func113.trans (congrArg some (by kernel_rfl))
 f171:=Tryz.func34.trans (congrArg some (by kernel_rfl))
 f172:=Tryz.func39.trans (congrArg some (by kernel_rfl))
 f205:=Tryz.func110.trans (congrArg some (by kernel_rfl))
 f243:=Tryz.func62.trans (congrArg some (by kernel_rfl))
 f244:=Tryz.func68.trans (congrArg some (by kernel_rfl))
 f245:=Tryz.func69.trans (congrArg some (by kernel_rfl))
 f246:=Tryz.func86.trans (congrArg some (by kernel_rfl))
 f247:=Tryz.func90.trans (congrArg some (by kernel_rfl))
 f279:=Tryz.func91.trans (congrArg some (by kernel_rfl))
 f280:=Tryz.func92.trans (congrArg some (by kernel_rfl))
 f281:=Tryz.func93.trans (congrArg some (by kernel_rfl))
 f282:=Tryz.func94.trans (congrArg some (by kernel_rfl))
 f283:=Tryz.func100.trans (congrArg some (by kernel_rfl))
 f284:=Tryz.func101.trans (congrArg some (by kernel_rfl))
 f285:=Tryz.func102.trans (congrArg some (by kernel_rfl))
 f286:=Tryz.func103.trans (congrArg some (by kernel_rfl))
 f287:=Tryz.func108.trans (congrArg some (by kernel_rfl))
 f316:=Tryz.func109.trans (congrArg some (by kernel_rfl))
 f317:=Tryz.func112.trans (congrArg some (by kernel_rfl))
 f318:=Tryz.func114.trans (congrArg some (by kernel_rfl))
 f319:=Tryz.func115.trans (congrArg some (by kernel_rfl))
 f320:=Tryz.func116.trans (congrArg some (by kernel_rfl))
 f321:=Tryz.func122.trans (congrArg some (by kernel_rfl))
 f322:=Tryz.func123.trans (congrArg some (by kernel_rfl))
 f337:=Tryz.func124.trans (congrArg some (by kernel_rfl))
 f338:=Tryz.func125.trans (congrArg some (by kernel_rfl))
 t0:=Tryz.underlying0
 a0:=Tryz.isAgg0
 z0:=Tryz.sizeOf0
 v0:=Tryz.zeroValue0
 t2:=Tryz.underlying2
 a2:=Tryz.isAgg2
 z2:=Tryz.sizeOf2
 v2:=Tryz.zeroValue2
 t3:=Tryz.underlying3
 a3:=Tryz.isAgg3
 z3:=Tryz.sizeOf3
 v3:=Tryz.zeroValue3
 t4:=Tryz.underlying4
 a4:=Tryz.isAgg4
 z4:=Tryz.sizeOf4
 v4:=Tryz.zeroValue4
 t5:=Tryz.underlying5
 a5:=Tryz.isAgg5
 z5:=Tryz.sizeOf5
 v5:=Tryz.zeroValue5
 t9:=Tryz.underlying9
 a9:=Tryz.isAgg9
 z9:=Tryz.sizeOf9
 v9:=Tryz.zeroValue9
 t20:=Tryz.underlying20
 a20:=Tryz.isAgg20
 z20:=Tryz.sizeOf20
 v20:=Tryz.zeroValue20
 t21:=Tryz.underlying21
 a21:=Tryz.isAgg21
 z21:=Tryz.sizeOf21
 v21:=Tryz.zeroValue21
 t37:=Tryz.underlying78
 a37:=Tryz.isAgg78
 z37:=Tryz.sizeOf78
 v37:=Tryz.zeroValue78
 t46:=Tryz.underlying114
 a46:=Tryz.isAgg114
 z46:=Tryz.sizeOf114
 v46:=Tryz.zeroValue114
 t51:=Tryz.underlying172
 a51:=Tryz.isAgg172
 z51:=Tryz.sizeOf172
 v51:=Tryz.zeroValue172
 t53:=Tryz.underlying72
 a53:=Tryz.isAgg72
 z53:=Tryz.sizeOf72
 v53:=Tryz.zeroValue72
 t75:=Tryz.underlying82
 a75:=Tryz.isAgg82
 z75:=Tryz.sizeOf82
 v75:=Tryz.zeroValue82
 t76:=Tryz.underlying83
 a76:=Tryz.isAgg83
 z76:=Tryz.sizeOf83
 v76:=Tryz.zeroValue83
 t85:=Tryz.underlying143
 a85:=Tryz.isAgg143
 z85:=Tryz.sizeOf143
 v85:=Tryz.zeroValue143
 t127:=Tryz.underlying119
 a127:=Tryz.isAgg119
 z127:=Tryz.sizeOf119
 v127:=Tryz.zeroValue119
 t143:=Tryz.underlying177
 a143:=Tryz.isAgg177
 z143:=Tryz.sizeOf177
 v143:=Tryz.zeroValue177
 t145:=Tryz.underlying179
 a145:=Tryz.isAgg179
 z145:=Tryz.sizeOf179
 v145:=Tryz.zeroValue179
 t167:=Tryz.underlying142
 a167:=Tryz.isAgg142
 z167:=Tryz.sizeOf142
 v167:=Tryz.zeroValue142
 t168:=Tryz.underlying145
 a168:=Tryz.isAgg145
 z168:=Tryz.sizeOf145
 v168:=Tryz.zeroValue145
 t171:=Tryz.underlying154
 a171:=Tryz.isAgg154
 z171:=Tryz.sizeOf154
 v171:=Tryz.zeroValue154
 t173:=Tryz.underlying157
 a173:=Tryz.isAgg157
 z173:=Tryz.sizeOf157
 v173:=Tryz.zeroValue157
 t175:=Tryz.underlying163
 a175:=Tryz.isAgg163
 z175:=Tryz.sizeOf163
 v175:=Tryz.zeroValue163
 t210:=Tryz.underlying167
 a210:=Tryz.isAgg167
 z210:=Tryz.sizeOf167
 v210:=Tryz.zeroValue167
 t212:=Tryz.underlying171
 a212:=Tryz.isAgg171
 z212:=Tryz.sizeOf171
 v212:=Tryz.zeroValue171
 t213:=Tryz.underlying173
 a213:=Tryz.isAgg173
 z213:=Tryz.sizeOf173
 t232:=Tryz.underlying187
 a232:=Tryz.isAgg187
 z232:=Tryz.sizeOf187
 v232:=Tryz.zeroValue187
 t233:=Tryz.underlying188
 a233:=Tryz.isAgg188
 z233:=Tryz.sizeOf188
 v233:=Tryz.zeroValue188
 g15:=by kernel_rfl
 g16:=by kernel_rfl
 g17:=by kernel_rfl
 g18:=by kernel_rfl
 g19:=by kernel_rfl
 t80:=Tryz.underlying87
 a80:=Tryz.isAgg87
 z80:=Tryz.sizeOf87
 v80:=Tryz.zeroValue87
 i0:=by kernel_rfl
 i2:=by kernel_rfl
 i3:=by kernel_rfl
 i4:=by kernel_rfl
 i5:=by kernel_rfl
 i9:=by kernel_rfl
 i20:=by kernel_rfl
 i21:=by kernel_rfl
 i37:=by kernel_rfl
 i46:=by kernel_rfl
 i51:=by kernel_rfl
 i53:=by kernel_rfl
 i75:=by kernel_rfl
 i76:=by kernel_rfl
 i80:=by kernel_rfl
 i85:=by kernel_rfl
 i127:=by kernel_rfl
 i143:=by kernel_rfl
 i145:=by kernel_rfl
 i167:=by kernel_rfl
 i168:=by kernel_rfl
 i171:=by kernel_rfl
 i173:=by kernel_rfl
 i175:=by kernel_rfl
 i210:=by kernel_rfl
 i212:=by kernel_rfl
 i232:=by kernel_rfl
 i233:=by kernel_rfl
 m15:=by kernel_rfl
 m16:=by kernel_rfl
 m17:=by kernel_rfl
 m18:=by kernel_rfl
 m19:=by kernel_rfl
 c0:=by kernel_rfl
 c2:=by kernel_rfl
 c3:=by kernel_rfl
 c4:=by kernel_rfl
 c5:=by kernel_rfl
 c9:=by kernel_rfl
 c20:=by kernel_rfl
 c21:=by kernel_rfl
 c37:=by kernel_rfl
 c46:=by kernel_rfl
 c51:=by kernel_rfl
 c53:=by kernel_rfl
 c75:=by kernel_rfl
 c76:=by kernel_rfl
 c80:=by kernel_rfl
 c85:=by kernel_rfl
 c127:=by kernel_rfl
 c143:=by kernel_rfl
 c145:=by kernel_rfl
 c167:=by kernel_rfl
 c168:=by kernel_rfl
 c171:=by kernel_rfl
 c173:=by kernel_rfl
 c175:=by kernel_rfl
 c210:=by kernel_rfl
 c212:=by kernel_rfl
 c213:=by kernel_rfl
 c232:=by kernel_rfl
 c233:=by kernel_rfl }
def Tryz.lays146_ren:Go.Shelf.Ren:=⟨fun | 146=>38 | 221=>67 | 268=>87 | 138=>88 | 143=>89 | 195=>104 | 197=>105 | 218=>106 | 219=>107 | 260=>117 | 217=>118 | 225=>119 | 224=>120 | 267=>121 | 266=>126 | 314=>127 | n=>n,fun | 9=>9 | 31=>36 | 3=>3 | 4=>4 | 0=>0 | 105=>160 | 21=>21 | 5=>5 | 46=>114 | 119=>181 | 139=>184 | 138=>183 | 146=>185 | 51=>172 | n=>n,fun | 1=>3 | 3=>4 | 4=>5 | n=>n⟩
theorem Tryz.lays146:Go.Proofs.Lays.n146 Tryz.prog Tryz.lays146_ren:={
 mixed:=by kernel_rfl
 f138:=Tryz.func88.trans (congrArg some (by kernel_rfl))
 f143:=Tryz.func89.trans (congrArg some (by kernel_rfl))
 f146:=Tryz.func38.trans (congrArg some (by kernel_rfl))
 f195:=Tryz.func104.trans (congrArg some (by kernel_rfl))
 f197:=Tryz.func105.trans (congrArg some (by kernel_rfl))
 f217:=Tryz.func118.trans (congrArg some (by kernel_rfl))
 f218:=Tryz.func106.trans (congrArg some (by kernel_rfl))
 f219:=Tryz.func107.trans (congrArg some (by kernel_rfl))
 f221:=Tryz.func67.trans (congrArg some (by kernel_rfl))
 f224:=Tryz.func120.trans (congrArg some (by kernel_rfl))
 f225:=Tryz.func119.trans (congrArg some (by kernel_rfl))
 f260:=Tryz.func117.trans (congrArg some (by kernel_rfl))
 f266:=Tryz.func126.trans (congrArg some (by kernel_rfl))
 f267:=Tryz.func121.trans (congrArg some (by kernel_rfl))
 f268:=Tryz.func87.trans (congrArg some (by kernel_rfl))
 f314:=Tryz.func127.trans (congrArg some (by kernel_rfl))
 t0:=Tryz.underlying0
 a0:=Tryz.isAgg0
 z0:=Tryz.sizeOf0
 v0:=Tryz.zeroValue0
 t3:=Tryz.underlying3
 a3:=Tryz.isAgg3
 z3:=Tryz.sizeOf3
 v3:=Tryz.zeroValue3
 t4:=Tryz.underlying4
 a4:=Tryz.isAgg4
 z4:=Tryz.sizeOf4
 v4:=Tryz.zeroValue4
 t5:=Tryz.underlying5
 a5:=Tryz.isAgg5
 z5:=Tryz.sizeOf5
 v5:=Tryz.zeroValue5
 t9:=Tryz.underlying9
 a9:=Tryz.isAgg9
 z9:=Tryz.sizeOf9
 v9:=Tryz.zeroValue9
 t21:=Tryz.underlying21
 a21:=Tryz.isAgg21
 z21:=Tryz.sizeOf21
 v21:=Tryz.zeroValue21
 t31:=Tryz.underlying36
 a31:=Tryz.isAgg36
 z31:=Tryz.sizeOf36
 v31:=Tryz.zeroValue36
 t46:=Tryz.underlying114
 a46:=Tryz.isAgg114
 z46:=Tryz.sizeOf114
 v46:=Tryz.zeroValue114
 t51:=Tryz.underlying172
 a51:=Tryz.isAgg172
 z51:=Tryz.sizeOf172
 v51:=Tryz.zeroValue172
 t105:=Tryz.underlying160
 a105:=Tryz.isAgg160
 z105:=Tryz.sizeOf160
 v105:=Tryz.zeroValue160
 t119:=Tryz.underlying181
 a119:=Tryz.isAgg181
 z119:=Tryz.sizeOf181
 t138:=Tryz.underlying183
 a138:=Tryz.isAgg183
 z138:=Tryz.sizeOf183
 v138:=Tryz.zeroValue183
 t139:=Tryz.underlying184
 a139:=Tryz.isAgg184
 z139:=Tryz.sizeOf184
 v139:=Tryz.zeroValue184
 t146:=Tryz.underlying185
 a146:=Tryz.isAgg185
 z146:=Tryz.sizeOf185
 v146:=Tryz.zeroValue185
 g1:=by kernel_rfl
 g3:=by kernel_rfl
 g4:=by kernel_rfl }
def Tryz.lays101_ren:Go.Shelf.Ren:=⟨fun | 101=>40 | 208=>70 | 206=>95 | n=>n,fun | 9=>9 | 4=>4 | 3=>3 | n=>n,fun | n=>n⟩
theorem Tryz.lays101:Go.Proofs.Lays.n101 Tryz.prog Tryz.lays101_ren:={
 mixed:=by kernel_rfl
 f101:=Tryz.func40.trans (congrArg some (by kernel_rfl))
 f206:=Tryz.func95.trans (congrArg some (by kernel_rfl))
 f208:=Tryz.func70.trans (congrArg some (by kernel_rfl))
 t3:=Tryz.underlying3
 a3:=Tryz.isAgg3
 z3:=Tryz.sizeOf3
 v3:=Tryz.zeroValue3
 t4:=Tryz.underlying4
 a4:=Tryz.isAgg4
 z4:=Tryz.sizeOf4
 v4:=Tryz.zeroValue4
 t9:=Tryz.underlying9
 a9:=Tryz.isAgg9
 z9:=Tryz.sizeOf9
 v9:=Tryz.zeroValue9 }
def Tryz.lays240_ren:Go.Shelf.Ren:=⟨fun | 240=>61 | 276=>85 | n=>n,fun | 0=>0 | 37=>78 | 4=>4 | 9=>9 | 20=>20 | 70=>77 | 72=>80 | 164=>137 | n=>n,fun | n=>n⟩
theorem Tryz.lays240:Go.Proofs.Lays.n240 Tryz.prog Tryz.lays240_ren:={
 mixed:=by kernel_rfl
 f240:=Tryz.func61.trans (congrArg some (by kernel_rfl))
 f276:=Tryz.func85.trans (congrArg some (by kernel_rfl))
 t0:=Tryz.underlying0
 a0:=Tryz.isAgg0
 z0:=Tryz.sizeOf0
 v0:=Tryz.zeroValue0
 t4:=Tryz.underlying4
 a4:=Tryz.isAgg4
 z4:=Tryz.sizeOf4
 v4:=Tryz.zeroValue4
 t9:=Tryz.underlying9
 a9:=Tryz.isAgg9
 z9:=Tryz.sizeOf9
 v9:=Tryz.zeroValue9
 t20:=Tryz.underlying20
 a20:=Tryz.isAgg20
 z20:=Tryz.sizeOf20
 v20:=Tryz.zeroValue20
 t70:=Tryz.underlying77
 a70:=Tryz.isAgg77
 z70:=Tryz.sizeOf77
 v70:=Tryz.zeroValue77
 t72:=Tryz.underlying80
 a72:=Tryz.isAgg80
 z72:=Tryz.sizeOf80
 v72:=Tryz.zeroValue80
 t164:=Tryz.underlying137
 a164:=Tryz.isAgg137
 z164:=Tryz.sizeOf137
 v164:=Tryz.zeroValue137
}
theorem Tryz.Builder_X72_240:Builder.X72 Tryz.prog Tryz.lays240_ren:={
 sizeBuilder:=by kernel_rfl
 liesBuilder:=by kernel_rfl
}
end Go.Proofs

/- Plain: texts as lists of bytes; the parts of a text, numbers as texts. Nothing here names the program. -/
namespace Go.Proofs.YtekhddlngbppkaaGreatDoor
open Go
abbrev By:=List UInt8
def tx (l:By):ByteArray:=⟨l.toArray⟩
theorem tx_size (l:By):(tx l).size = l.length:=by simp [tx,ByteArray.size]
theorem tx_list (l:By):(tx l).data.toList = l:=by simp [tx]
theorem tx_of (s:ByteArray):tx s.data.toList = s:=by simp [tx]
theorem tx_append (a b:By):tx a++tx b = tx (a++b):=by
 apply ByteArray.ext
 simp [tx,ByteArray.data_append]
theorem tx_extract (l:By) (a b:Nat):(tx l).extract a b = tx ((l.take b).drop a):=by
 apply ByteArray.ext
 simp [tx,ByteArray.data_extract,List.extract_eq_take_drop,List.drop_take]
theorem tx_get (l:By) (i:Nat):(tx l)[i]? = l[i]?:=by
 show (if h:i < (tx l).size then some ((tx l)[i]) else none) = _
 by_cases h:i < l.length
 ·rw [dif_pos (by rw [tx_size]; exact h),List.getElem?_eq_getElem h]
  rfl
 ·rw [dif_neg (by rw [tx_size]; exact h),List.getElem?_eq_none (by omega)]

def cutL (c:UInt8):By→List By
 | []=>[[]]
 | x :: r=>if x = c then [] :: cutL c r else match cutL c r with
  | []=>[[x]]
  | p :: ps=>(x :: p) :: ps
theorem cutL_ne (c:UInt8) (s:By):cutL c s≠[]:=by
 cases s with
 | nil=>simp [cutL]
 | cons x r =>
  rw [cutL]
  split
  ·simp
  ·split <;> simp
theorem cutL_none (c:UInt8):∀ {s:By},c ∉ s→cutL c s = [s]
 | [],_=>rfl
 | x :: r,h=>by
  rw [cutL,if_neg (fun e=>h (by simp [e])),cutL_none c (fun e=>h (List.mem_cons_of_mem _ e))]
theorem cutL_app (c:UInt8):∀ {a:By} (r:By),c ∉ a→cutL c (a++c :: r) = a :: cutL c r
 | [],r,_=>by simp [cutL]
 | x :: a,r,h=>by
  rw [List.cons_append,cutL,if_neg (fun e=>h (by simp [e])),cutL_app c r (fun e=>h (List.mem_cons_of_mem _ e))]
theorem cut_step (c:UInt8) {s:By} {from_ i:Nat} (h1:from_≤i) (h2:s[i]? = some c) (h3:c ∉ (s.take i).drop from_):cutL c (s.drop from_) = (s.take i).drop from_ :: cutL c (s.drop (i + 1)):=by
 have hi:=(List.getElem?_eq_some_iff.1 h2).1
 have e:s.drop from_ = (s.take i).drop from_++c :: s.drop (i + 1):=by
  have:s = s.take i++c :: s.drop (i + 1):=by
   have hc:=(List.getElem?_eq_some_iff.1 h2).2
   rw [← hc,List.getElem_cons_drop hi,List.take_append_drop]
  conv=>lhs; rw [this]
  rw [List.drop_append_of_le_length (by simp; omega)]
 rw [e,cutL_app c _ h3]
theorem index_app (c:UInt8):∀ {a:By} (r:By),c ∉ a→Lib.index (a++c :: r) [c] = (a.length:Int)
 | [],r,_=>by simp [Lib.index,List.isPrefixOf]
 | x :: a,r,h=>by
  have h1:¬ c = x:=fun e=>h (by simp [e])
  have h2:=index_app c (a:=a) r (fun e=>h (List.mem_cons_of_mem _ e))
  have h3:¬ ((a.length:Int) = -1):=by omega
  simp [Lib.index,List.isPrefixOf,h1,h2,h3]
theorem first_of (c:UInt8):∀ {s:By},c∈s→∃ a r,s = a++c :: r∧c ∉ a
 | x :: s,h=>by
  by_cases hx:x = c
  ·exact ⟨[],s,by simp [hx],by simp⟩
  ·have:c∈s:=by
    rcases List.mem_cons.1 h with e | e
    ·exact absurd e.symm hx
    ·exact e
   obtain ⟨a,r,e,h1⟩:=first_of c this
   refine ⟨x :: a,r,by simp [e],fun hm => ?_⟩
   rcases List.mem_cons.1 hm with e | e
   ·exact hx e.symm
   ·exact h1 e
theorem split_cut (c:UInt8):∀ (n:Nat) (s:By),s.count c = n→Lib.splitK [c] 0 n s = cutL c s
 | 0,s,h=>by rw [Lib.splitK,cutL_none c (List.count_eq_zero.1 h)]
 | n + 1,s,h=>by
  obtain ⟨a,r,rfl,h1⟩:=first_of c (List.count_pos_iff.1 (show 0 < s.count c by omega))
  have h0:a.count c = 0:=List.count_eq_zero.2 h1
  have hc:r.count c = n:=by
   rw [List.count_append,List.count_cons_self,h0] at h
   omega
  have h3:¬ ((a.length:Int) = -1):=by omega
  rw [cutL_app c r h1,Lib.splitK,index_app c r h1,← split_cut c n r hc]
  simp [h3]
theorem split_tx (c:UInt8) (l:By):Lib.splitB (tx [c]) 0 (Lib.countB (tx l) (tx [c])) (tx l) = (cutL c l).map tx:=by
 have hcount:Lib.countB (tx l) (tx [c]) = l.count c:=by
  show Lib.count (tx l).data.toList (tx [c]).data.toList = _
  rw [tx_list,tx_list,Lib.count_one]
 have h:=Lib.splitB_data (tx [c]) 0 (Lib.countB (tx l) (tx [c])) (tx l)
 rw [tx_list,tx_list,hcount,split_cut c _ l rfl] at h
 rw [hcount,← h,List.map_map]
 conv=>lhs; rw [← List.map_id (Lib.splitB _ _ _ _)]
 exact List.map_congr_left fun s _=>(tx_of s).symm
end Go.Proofs.YtekhddlngbppkaaGreatDoor

/- Plain: numbers as texts. -/
namespace Go.Proofs.YtekhddlngbppkaaGreatDoor
open Go
def numR (m:Nat) (s:By):Option Int:=if s.length < 1∨m < s.length∨(s.head? = some 48∧1 < s.length) then none else (Lib.decFrom 0 s).map fun (n:Nat)=>(n:Int)
theorem u8_of (n:Nat) (h:n < 10):(UInt8.ofNat (48 + n)).toNat = 48 + n:=by
 simp [UInt8.toNat_ofNat']
 omega
theorem dig_of (n:Nat) (h:n < 10):Lib.digitVal (UInt8.ofNat (48 + n)) = some n:=by
 unfold Lib.digitVal
 rw [u8_of n h,if_pos (by omega)]
 congr 1
 omega
theorem dec_app:∀ (a b:By) (n:Nat),Lib.decFrom n (a++b) = (Lib.decFrom n a).bind fun m=>Lib.decFrom m b
 | [],_,_=>rfl
 | x :: a,b,n=>by
  simp only [List.cons_append,Lib.decFrom]
  cases Lib.digitVal x with
  | none=>rfl
  | some d=>exact dec_app a b _
theorem dec_digits (u:Nat):Lib.decFrom 0 (Lib.decDigits u) = some u:=by
 induction u using Nat.strongRecOn with
 | ind u ih =>
  rw [Lib.decDigits]
  split
  ·rename_i h
   simp only [Lib.decFrom,dig_of u h]
   simp
  ·rename_i h
   rw [dec_app,ih (u / 10) (by omega)]
   simp only [Option.bind_some,Lib.decFrom,dig_of (u % 10) (by omega)]
   congr 1
   omega
theorem digits_ne (u:Nat):Lib.decDigits u≠[]:=by
 rw [Lib.decDigits]
 split <;> simp
theorem digits_head (u:Nat):(Lib.decDigits u).head? = some 48→u = 0:=by
 induction u using Nat.strongRecOn with
 | ind u ih =>
  rw [Lib.decDigits]
  split
  ·rename_i h
   intro e
   simp only [List.head?_cons,Option.some.injEq] at e
   have:=congrArg UInt8.toNat e
   rw [u8_of u h] at this
   simp at this
   omega
  ·rename_i h
   intro e
   have h2:=ih (u / 10) (by omega)
   rw [List.head?_append] at e
   cases hd:(Lib.decDigits (u / 10)).head? with
   | none=>exact absurd (List.head?_eq_none_iff.1 hd) (digits_ne _)
   | some b =>
    rw [hd] at e h2
    simp only [Option.some_or] at e
    have:=h2 e
    omega
theorem digits_zero:Lib.decDigits 0 = [48]:=by rw [Lib.decDigits]; rfl
theorem dig_inv {b:UInt8} {d:Nat} (h:Lib.digitVal b = some d):d < 10∧b = UInt8.ofNat (48 + d):=by
 unfold Lib.digitVal at h
 split at h
 ·cases h
  rename_i h
  refine ⟨by omega,?_⟩
  rw [show 48 + (b.toNat - 48) = b.toNat by omega]
  simp
 ·cases h
theorem digits_of:∀ (k:Nat) (s:By) (n:Nat),s.length = k→s≠[]→(s.head? = some 48→s.length = 1)→Lib.decFrom 0 s = some n→Lib.decDigits n = s
 | 0,s,n,hk,hs,_,_=>absurd (List.eq_nil_of_length_eq_zero hk) hs
 | k + 1,s,n,hk,hs,hh,h=>by
  obtain ⟨t,b,rfl⟩:∃ t b,s = t++[b]:=⟨s.dropLast,s.getLast hs,(List.dropLast_concat_getLast hs).symm⟩
  rw [dec_app] at h
  obtain ⟨m,h1,h2⟩:=Option.bind_eq_some_iff.1 h
  simp only [Lib.decFrom] at h2
  cases hd:Lib.digitVal b with
  | none=>rw [hd] at h2; cases h2
  | some d =>
   rw [hd] at h2
   simp only [Option.some.injEq] at h2
   subst h2
   obtain ⟨h3,rfl⟩:=dig_inv hd
   by_cases ht:t = []
   ·subst ht
    simp only [Lib.decFrom,Option.some.injEq] at h1
    subst h1
    rw [Nat.zero_mul,Nat.zero_add,Lib.decDigits,dif_pos h3]
    rfl
   ·have hl:0 < t.length:=List.length_pos_iff.2 ht
    have hth:t.head? ≠ some 48:=fun e=>by
     have:=hh (by rw [List.head?_append,e]; rfl)
     exact ht (by simpa using this)
    have ih:=digits_of k t m (by simpa using hk) ht (fun e=>absurd e hth) h1
    have hm:m≠0:=fun e=>by
     subst e
     rw [digits_zero] at ih
     exact hth (by rw [← ih]; rfl)
    rw [Lib.decDigits,dif_neg (by omega),show (m * 10 + d) / 10 = m by omega,show (m * 10 + d) % 10 = d by omega,ih]
theorem numR_some {m:Nat} {s:By} {n:Int} (h:numR m s = some n):0≤n∧s = Lib.itoa n∧1≤s.length∧s.length≤m:=by
 unfold numR at h
 split at h
 ·cases h
 ·rename_i hc
  obtain ⟨u,h1,rfl⟩:=Option.map_eq_some_iff.1 h
  have h2:=digits_of s.length s u rfl (by intro e; subst e; simp at hc) (fun e=>by
   by_cases hl:1 < s.length
   ·exact absurd (.inr (.inr ⟨e,hl⟩)) hc
   ·omega) h1
  refine ⟨by omega,?_,by omega,by omega⟩
  rw [Lib.itoa,if_neg (by omega),Int.toNat_natCast,h2]
theorem numR_itoa {m:Nat} {n:Int} (h0:0≤n) (hl:(Lib.itoa n).length≤m):numR m (Lib.itoa n) = some n:=by
 rw [Lib.itoa,if_neg (by omega)] at hl ⊢
 have h1:0 < (Lib.decDigits n.toNat).length:=List.length_pos_iff.2 (digits_ne _)
 unfold numR
 rw [if_neg]
 ·rw [dec_digits,Option.map_some]
  congr 1
  omega
 ·rintro (h | h | ⟨h,h2⟩)
  ·omega
  ·omega
  ·have:=digits_head _ h
   rw [this,digits_zero] at h2
   simp at h2
theorem atoi_itoa {n:Int} (h0:0≤n) (hl:(Lib.itoa n).length≤18):Lib.atoiAll (Lib.itoa n) = .ok n:=by
 rw [Lib.atoiAll_short _ hl]
 rw [Lib.itoa,if_neg (by omega)] at hl ⊢
 cases hd:Lib.decDigits n.toNat with
 | nil=>exact absurd hd (digits_ne _)
 | cons b r =>
  have h1:=dec_digits n.toNat
  rw [hd] at h1
  have hb:∃ d,Lib.digitVal b = some d:=by
   simp only [Lib.decFrom] at h1
   cases hv:Lib.digitVal b with
   | none=>rw [hv] at h1; cases h1
   | some d=>exact ⟨d,rfl⟩
  obtain ⟨d,hb⟩:=hb
  obtain ⟨h3,rfl⟩:=dig_inv hb
  have h45:(UInt8.ofNat (48 + d) == 45) = false:=by
   rw [beq_eq_false_iff_ne]
   intro e
   have:=congrArg UInt8.toNat e
   rw [u8_of d h3] at this
   simp at this
   omega
  have h43:(UInt8.ofNat (48 + d) == 43) = false:=by
   rw [beq_eq_false_iff_ne]
   intro e
   have:=congrArg UInt8.toNat e
   rw [u8_of d h3] at this
   simp at this
   omega
  simp only [Lib.atoi,h45,h43,Bool.false_eq_true,if_false,Lib.decNat,List.isEmpty_cons,h1,Option.map_some,Lib.NumEnd.ofOption]
  congr 1
  omega
end Go.Proofs.YtekhddlngbppkaaGreatDoor

/- Calls of the library that turn nothing of ours: strconv.Itoa, strconv.Atoi, strings.Split. (Vm) -/
namespace Go.Proofs.YtekhddlngbppkaaGreatDoor.Vm
open Go Go.Proofs Go.RowKit
theorem VC_lib {P:Program} {f:Nat} {args:List VV} {M:Mem} {Q:VV→Mem→Prop} (h:∀ (G:Ghost) (w:World) (K:Nat→Option Nat) (rargs:Array Value),Inv G w K M→ArgsOk w K M rargs args →
  Calls P f rargs w fun e w'=>∃ rv r,e = .returned rv∧Below w.heap.size w w'∧Q r M∧RepV w' K M.H rv r∧Cl M.H.length r):VC P f args M Q:=by
 intro G w K rargs hI ha
 refine callsIn_wide.2 ((h G w K rargs hI ha).mono ?_)
 rintro e w' ⟨rv,r,rfl,hb,hq,hr,hc⟩
 obtain ⟨hE,hI'⟩:=step_made hI (w':=w') ⟨hb.os,hb.tape,hb.output,hb.size⟩ hb.block
 exact ⟨rv,r,K,M,rfl,hq,hr,hc,hE,hI'⟩
theorem args1 {w:World} {K:Nat→Option Nat} {M:Mem} {rargs:Array Value} {x:VV} (h:ArgsOk w K M rargs [x]):∃ v,rargs = #[v]∧RepV w K M.H v x:=by
 obtain ⟨l⟩:=rargs
 obtain ⟨h1,h2⟩:=h.rep
 match l,h1,h2 with
 | [v],_,h2=>exact ⟨v,rfl,h2 0 v x rfl rfl⟩
theorem args2 {w:World} {K:Nat→Option Nat} {M:Mem} {rargs:Array Value} {x y:VV} (h:ArgsOk w K M rargs [x,y]):∃ v u,rargs = #[v,u]∧RepV w K M.H v x∧RepV w K M.H u y:=by
 obtain ⟨l⟩:=rargs
 obtain ⟨h1,h2⟩:=h.rep
 match l,h1,h2 with
 | [v,u],_,h2=>exact ⟨v,u,rfl,h2 0 v x rfl rfl,h2 1 u y rfl rfl⟩
theorem below_grow (w:World) (k:Nat) (os:Array Obj):Below w.heap.size w (Sort.grow (w.drewN k) os) :=
 ⟨rfl,rfl,rfl,by show w.heap.size≤(w.heap++os).size; simp,fun i hi=>by
  show (w.heap++os)[i]? = _
  rw [Array.getElem?_append_left hi]⟩
theorem itoa_v {n:Int} (h0 : -9223372036854775808≤n) (h1:n≤9223372036854775807) (M:Mem):VC Tryz.prog 34 [.p (.int .i64 n)] M (fun r M'=>M' = M∧r = .p (.str (tx (Lib.itoa n)))):=by
 refine VC_lib fun G w K rargs hI ha => ?_
 obtain ⟨v,rfl,hv⟩:=args1 ha
 obtain rfl:=rep_int hv
 obtain ⟨⟨t,z,hp⟩,_⟩:=G.lz.at hI.old
 have hp:=LzF_some hp
 refine (Any.strconv_Itoa Tryz.laysM171 n h0 h1 w ?_).mono ?_
 ·have hg:=Tryz.laysM171.m17
  unfold Lib.TabIs World.var?
  rw [hg,show Tryz.laysM171_ren.g 17 = 2 from rfl]
  simp only [Option.bind_some,hp]
 ·rintro e w' ⟨rfl,k,os,rfl⟩
  exact ⟨_,_,rfl,below_grow w k os,⟨rfl,rfl⟩,.p _ _ (.str _),cl_p _ _⟩
def atoiV (s:By):Int×Bool:=match Lib.atoiAll s with
 | .ok x=>(x,true)
 | .syntax=>(0,false)
 | .range=>(Lib.atoiSat s,false)
theorem cell0 {w:World} {g:Nat} {vs:Array Value} {t:TypeId} {z:Nat×Nat} {e:Value} (h:w.heap[g]? = some (.cells vs t z)) (h0:vs[0]? = some e):w.cell? ⟨g,0,none⟩ = some e:=by
 simp [World.cell?,h,h0]
theorem atoi_v {s:By} (hs:s.length≤281474976710656) (M:Mem):VC Tryz.prog 39 [.p (.str (tx s))] M (fun r M'=>M' = M∧r = .tup [.p (.int .i64 (atoiV s).1),.p (.ifc (atoiV s).2)]):=by
 refine VC_lib fun G w K rargs hI ha => ?_
 obtain ⟨v,rfl,hv⟩:=args1 ha
 obtain rfl:=rep_str hv
 obtain ⟨-,-,he⟩:=G.lz.at hI.old
 have hsz:(tx s).size = s.length:=tx_size s
 have herr:∀ g∈[0, 1],∃ e,w.cell? ⟨g,0,none⟩ = some e∧(e = .nilIface∨∃ a b,e = .iface a b):=fun g hg=>by
  obtain ⟨vs,t,z,e,h1,h2,h3⟩:=he g hg
  exact ⟨e,cell0 (LzF_some h1) h2,h3⟩
 have tupR:∀ (w':World) (x:Int) (u:Value) (b:Bool),(u = .nilIface∧b = true∨∃ t v,u = .iface t v∧b = false)→RepV w' K M.H (.tuple #[.int .i64 x,u]) (.tup [.p (.int .i64 x),.p (.ifc b)]):=fun w' x u b hu=>by
  refine .tup _ _ rfl fun i v c hv hc => ?_
  match i,hv,hc with
  | 0,hv,hc=>simp at hv hc; subst hv hc; exact .p _ _ (.int _ _)
  | 1,hv,hc =>
   simp at hv hc
   subst hv hc
   rcases hu with ⟨rfl,rfl⟩ | ⟨t,v,rfl,rfl⟩
   ·exact .p _ _ .ifn
   ·exact .p _ _ (.ifs _ _)
 have tupC:∀ (x:Int) (b:Bool),Cl M.H.length (.tup [.p (.int .i64 x),.p (.ifc b)]):=fun x b r hr=>by simp [refs,refsL] at hr
 have hl:(tx s).data.toList = s:=tx_list s
 cases h:Lib.atoiAll s with
 | ok x =>
  have ha:atoiV s = (x,true):=by unfold atoiV; rw [h]
  rw [ha]
  refine (Any.strconv_Atoi_ok Tryz.laysC172 (tx s) (by omega) x (by rw [hl]; exact h) w).mono ?_
  rintro e w' ⟨rfl,hw⟩
  refine ⟨_,_,rfl,?_,⟨rfl,rfl⟩,tupR w' x .nilIface true (.inl ⟨rfl,rfl⟩),tupC _ _⟩
  rcases hw with rfl | ⟨t,rfl⟩
  ·exact Below.refl _ _
  ·exact Lib.bytesWorld_below _ _ _
 | «syntax» =>
  have ha:atoiV s = (0,false):=by unfold atoiV; rw [h]
  rw [ha]
  obtain ⟨e,h1,h2⟩:=herr 0 (by simp)
  refine (Any.strconv_Atoi_syntax Tryz.laysC172 (tx s) (by omega) (by rw [hl]; exact h) e w h1 h2).mono ?_
  rintro e w' ⟨N,rfl,_,_,hb⟩
  exact ⟨_,_,rfl,hb,⟨rfl,rfl⟩,tupR w' 0 _ false (.inr ⟨_,_,rfl,rfl⟩),tupC _ _⟩
 | range =>
  have ha:atoiV s = (Lib.atoiSat s,false):=by unfold atoiV; rw [h]
  rw [ha]
  obtain ⟨e,h1,h2⟩:=herr 1 (by simp)
  refine (Any.strconv_Atoi_range Tryz.laysC172 (tx s) (by omega) (by rw [hl]; exact h) e w h1 h2).mono ?_
  rintro e w' ⟨N,rfl,_,_,hb⟩
  rw [hl]
  exact ⟨_,_,rfl,hb,⟨rfl,rfl⟩,tupR w' _ _ false (.inr ⟨_,_,rfl,rfl⟩),tupC _ _⟩
def strsV (l:List By):List (List PV):=l.map fun p=>[.str (tx p)]
theorem split_v {l:By} {c:UInt8} (hs:l.length < 4294967281) (M:Mem):VC Tryz.prog 38 [.p (.str (tx l)),.p (.str (tx [c]))] M (fun r M'=>M' = M∧r = .p (.sl 1 (strsV (cutL c l)))):=by
 refine VC_lib fun G w K rargs hI ha => ?_
 obtain ⟨v,u,rfl,hv,hu⟩:=args2 ha
 obtain rfl:=rep_str hv
 obtain rfl:=rep_str hu
 obtain ⟨-,hm,-⟩:=G.lz.at hI.old
 obtain ⟨vs,t,z,m,h1,h2⟩:=hm
 have hi9:(Tryz.prog.info? (Tryz.lays146_ren.t 9)).map (fun i=>(i.zero,i.size,i.bytes)) = some (some (.string ByteArray.empty),1,16):=by kernel_rfl
 refine (Any.strings_Split Tryz.lays146 hi9 (tx l) (tx [c]) m w (by rw [tx_size]; exact hs) (cell0 (LzF_some h1) h2) (by rw [tx_size]; exact Nat.le_refl _)).mono ?_
 rintro e w' ⟨rfl,rfl⟩
 have hlen:Lib.countB (tx l) (tx [c]) + 1 = (strsV (cutL c l)).length:=by
  have:=congrArg List.length (split_tx c l)
  rw [Lib.splitB_all (tx [c]) (by rw [tx_size]; exact Nat.le_refl _) 0 _ (tx l) rfl] at this
  simpa [strsV] using this
 have hle:=Lib.countB_le (tx [c]) (by rw [tx_size]; exact Nat.le_refl _) _ (tx l) (Nat.le_refl _)
 rw [tx_size] at hle
 have hnew:=heap_alloc_new w (.cells ((Lib.splitB (tx [c]) 0 (Lib.countB (tx l) (tx [c])) (tx l)).map Value.string).toArray (Tryz.lays146_ren.t 9))
 rw [split_tx] at hnew ⊢
 rw [hlen]
 refine ⟨_,_,rfl,(Below.refl _ w).alloc (Nat.le_refl _) _,⟨rfl,rfl⟩,.p _ _ (.sl _ _ 1 w.heap.size 0 _ (fun i _=>Value.string (tx ((cutL c l).getD i []))) (Nat.le_refl _) (by rw [← hlen]; unfold maxLen; omega) (fun x hx => ?_) (fun _=>rfl) (fun i x j u hx hu => ?_) (fun i x j u hx hu => ?_) fun i x j u hx hu => ?_),cl_p _ _⟩
 ·obtain ⟨p,_,rfl⟩:=List.mem_map.1 hx
  rfl
 ·intro k o hk hb
  have:=(hI.blk k _ (List.getElem?_eq_some_iff.1 hk).1 hb).1
  omega
 ·unfold strsV at hx
  rw [List.getElem?_map] at hx
  obtain ⟨p,hp,rfl⟩:=Option.map_eq_some_iff.1 hx
  have hj:j = 0:=by have:=(List.getElem?_eq_some_iff.1 hu).1; simpa using this
  subst hj
  rw [List.getD_eq_getElem?_getD,hp]
  rw [Lib.cell_of_heap hnew]
  simp [hp]
 ·unfold strsV at hx
  rw [List.getElem?_map] at hx
  obtain ⟨p,hp,rfl⟩:=Option.map_eq_some_iff.1 hx
  have hj:j = 0:=by have:=(List.getElem?_eq_some_iff.1 hu).1; simpa using this
  subst hj
  simp at hu
  subst hu
  rw [List.getD_eq_getElem?_getD,hp]
  exact .str _
end Go.Proofs.YtekhddlngbppkaaGreatDoor.Vm

/- Texts in the machine on values: what the operations give. (Vm) -/
namespace Go.Proofs.YtekhddlngbppkaaGreatDoor.Vm
open Go Go.Proofs
abbrev vs (l:By):VV:=.p (.str (tx l))
abbrev strsW (l:List By):VV:=.p (.sl 1 (strsV l))
section
variable (t:Nat) (a b:By)
theorem str_eq:((tx a).toList == (tx b).toList) = decide (a = b):=by
 rw [ByteArray.toList_eq,ByteArray.toList_eq,tx_list,tx_list]
 by_cases h:a = b
 ·subst h; simp
 ·simp [h]
theorem v_addS (h:a.length + b.length≤9223372036854775807):vbin T .add t (vs a) (vs b) = some (vs (a++b)):=by
 have h1:Op.stringOp .add (tx a) (tx b) = .pure (.string (tx (a++b))):=by
  unfold Op.stringOp
  simp only
  rw [if_neg,tx_append]
  ·rfl
  ·rw [tx_size,tx_size,show IntKind.i64.max = 9223372036854775807 from rfl]
   omega
 show (pureOf (Op.stringOp .add (tx a) (tx b))).map ofValue = _
 rw [h1]
 rfl
theorem v_eqS:vbin T .eql t (vs a) (vs b) = some (vb (decide (a = b))):=by
 show some (vb ((tx a).toList == (tx b).toList)) = _
 rw [str_eq]
theorem v_neS:vbin T .neq t (vs a) (vs b) = some (vb (!decide (a = b))):=by
 show some (vb (!((tx a).toList == (tx b).toList))) = _
 rw [str_eq]
end
theorem strs_at {l:List By} {i:Nat} {x:By} (h:l[i]? = some x):(strsV l)[i]? = some [.str (tx x)]:=by simp [strsV,h]
theorem strs_len (l:List By):(strsV l).length = l.length:=by simp [strsV]
theorem strs_take (l:List By) (n:Nat):(strsV l).take n = strsV (l.take n):=by simp [strsV,List.map_take]
theorem strs_drop (l:List By) (n:Nat):(strsV l).drop n = strsV (l.drop n):=by simp [strsV,List.map_drop]
end Go.Proofs.YtekhddlngbppkaaGreatDoor.Vm
