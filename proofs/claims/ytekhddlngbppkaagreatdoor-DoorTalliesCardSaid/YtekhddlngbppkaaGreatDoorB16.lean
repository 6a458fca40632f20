/- A part of the proofs about the doors; no condition. -/
import Derived.Test.YtekhddlngbppkaaGreatDoorB13
import Derived.Test.YtekhddlngbppkaaGreatDoorB14
import Derived.Test.YtekhddlngbppkaaGreatDoorB15
import Derived.Lib.LaidTab
import Derived.Deep.DeepLaidRun
import Derived.Shelf.Vars
import Derived.HandedShaped
import Derived.LaidHandle
import Derived.Stop.Joined
set_option linter.unusedVariables false
set_option linter.unusedSimpArgs false
open Int renaming reduceLE → zA, reduceLT → zB, reduceToNat → zC, reduceNeg → zD
open Nat renaming reduceLT → zE, reduceEqDiff → zF, reduceAdd → zG, reduceSub → zH, reduceMul → zI, reduceLeDiff → zJ
/- A law whose row lists package variables: what is known of them where it begins. (Vm) -/
namespace Go.Proofs.YtekhddlngbppkaaGreatDoor.Vm
open Go Go.Proofs Go.ChangeShapes Go.WideShapes Go.ChangeAt Go.RowKit
theorem laid_mem {P:Program} {w:World} {n:String} {d:DataW Unit}:∀ {l:List (String×DataW Unit)} {ps:List MemPlace},DataW.LaidVars P w l ps→(n,d)∈l→∃ g t cs fuel p,P.globalNamed n = some g∧(P.globals[g]?).map (·.type) = some t∧w.var? P n = some cs∧DataW.trod (fun _=>()) P w 0 (fun _=>true) false fuel t cs.toList = some (d,p)
 | [],_,_,h=>by cases h
 | (n',d') :: r,ps,hl,h=>by
  obtain ⟨g,t,cs,fuel,p,q,h1,h2,h3,h4,h5,_⟩:=hl
  rcases List.mem_cons.1 h with e | e
  ·cases e
   exact ⟨g,t,cs,fuel,p,h1,h2,h3,h4⟩
  ·exact laid_mem h5 e
theorem var_heap {P:Program} {w:World} {n:String} {g:Nat} {cs:Array Value} (hg:P.globalNamed n = some g) (h:w.var? P n = some cs):∃ t z,w.heap[g]? = some (.cells cs t z):=by
 unfold World.var? at h
 rw [hg] at h
 simp only [Option.bind_some] at h
 split at h
 ·rename_i c t z hh
  cases h
  exact ⟨t,z,hh⟩
 ·cases h
theorem LzF_in {w:World} {g:Nat} {o:Obj} (hg:g∈LzG) (h:w.heap[g]? = some o):LzF w g = some o:=by
 unfold LzF
 rw [if_pos hg,h]
theorem heap_lt {w:World} {g:Nat} {o:Obj} (h:w.heap[g]? = some o):g < w.heap.size:=(Array.getElem?_eq_some_iff.1 h).1
theorem cell_heap {w:World} {g:Nat} {v:Value} (h:w.cell? ⟨g,0,none⟩ = some v):∃ vs t z,w.heap[g]? = some (.cells vs t z)∧vs[0]? = some v:=by
 unfold World.cell? at h
 simp only at h
 split at h
 ·rename_i cs t z hh
  refine ⟨cs,t,z,hh,?_⟩
  simpa using h
 ·cases h
theorem lz_of {W:World} {l:List (String×DataW Unit)} (hl:laidMet Tryz.prog l W) (hsh:W.ShapedOpen Tryz.prog)
  (h1:("internal/strconv.uint64pow10",Lib.tabData .u64 Lib.pow10Tab)∈l)
  (h2:∃ n d,("strconv.ErrSyntax",.iface n d)∈l) (h3:∃ n d,("strconv.ErrRange",.iface n d)∈l):Lz W.heap.size W (fun _=>False):=by
 obtain ⟨ps,hl,_⟩:=hl
 have a1:∃ t z,W.heap[2]? = some (.cells (Lib.pow10Tab.map fun n=>Value.int .u64 n).toArray t z):=by
  obtain ⟨g,t,cs,fuel,p,e1,e2,e3,e4⟩:=laid_mem hl h1
  obtain rfl:g = 2 := (Option.some.inj ((show Tryz.prog.globalNamed "internal/strconv.uint64pow10" = some 2 by kernel_rfl).symm.trans e1)).symm
  obtain ⟨t',z,hh⟩:=var_heap e1 e3
  obtain rfl:t = 171 := (Option.some.inj ((show (Tryz.prog.globals[2]?).map (·.type) = some 171 by kernel_rfl).symm.trans e2)).symm
  have:=Lib.cells_of_tab Tryz.underlying171 Tryz.underlying72 (by kernel_rfl) (by kernel_rfl) e4
  refine ⟨t',z,?_⟩
  rw [hh,← this,Array.toArray_toList]
 have a2:∀ s g,Tryz.prog.globalNamed s = some g→(Tryz.prog.globals[g]?).map (·.type) = some 82 → (∃ n d,(s,.iface n d)∈l)→∃ vs t z e,W.heap[g]? = some (.cells vs t z)∧vs[0]? = some e∧(e = Value.nilIface∨∃ a b,e = .iface a b):=by
  rintro s g hg ht ⟨n,d,hm⟩
  obtain ⟨g',t,cs,fuel,p,e1,e2,e3,e4⟩:=laid_mem hl hm
  obtain rfl:=Option.some.inj (hg.symm.trans e1)
  obtain rfl:=Option.some.inj (ht.symm.trans e2)
  obtain ⟨t',z,hh⟩:=var_heap e1 e3
  obtain ⟨_,u,v,hc,_⟩:=iface_of_trod Tryz.underlying82 e4
  exact ⟨cs,t',z,.iface u v,hh,by rw [← Array.getElem?_toList,hc]; rfl,.inr ⟨u,v,rfl⟩⟩
 have a3:∃ vs t z m,W.heap[3]? = some (.cells vs t z)∧vs[0]? = some (.int .i64 m):=by
  obtain ⟨m,hm⟩:=cell_of_shapedOpen_int (g := 3) (t := 3) (k:=.i64) (zero:=#[.int .i64 0]) hsh (of_decide_eq_true (by kernel_rfl)) (by kernel_rfl) rfl (by kernel_rfl) (by kernel_rfl) Tryz.underlying3
  obtain ⟨vs,t,z,h,h0⟩:=cell_heap hm
  exact ⟨vs,t,z,m,h,h0⟩
 have a4:=a2 "strconv.ErrSyntax" 0 (by kernel_rfl) (by kernel_rfl) h2
 have a5:=a2 "strconv.ErrRange" 1 (by kernel_rfl) (by kernel_rfl) h3
 obtain ⟨t1,z1,b1⟩:=a1
 obtain ⟨v3,t3,z3,m3,b3,c3⟩:=a3
 obtain ⟨v4,t4,z4,e4,b4,c4,d4⟩:=a4
 obtain ⟨v5,t5,z5,e5,b5,c5,d5⟩:=a5
 refine ⟨fun g hg=>⟨?_,fun e=>e⟩,⟨t1,z1,LzF_in (by decide) b1⟩,⟨v3,t3,z3,m3,LzF_in (by decide) b3,c3⟩,fun g hg => ?_⟩
 ·simp only [LzG,List.mem_cons,List.not_mem_nil,or_false] at hg
  rcases hg with rfl | rfl | rfl | rfl
  ·exact heap_lt b1
  ·exact heap_lt b3
  ·exact heap_lt b4
  ·exact heap_lt b5
 ·simp only [List.mem_cons,List.not_mem_nil,or_false] at hg
  rcases hg with rfl | rfl
  ·exact ⟨v4,t4,z4,e4,LzF_in (by decide) b4,c4,d4⟩
  ·exact ⟨v5,t5,z5,e5,LzF_in (by decide) b5,c5,d5⟩
theorem handed_laid {H:Type} {enc:TypeId×Value→H} {a:Assume} {C:Checked} {os:Os} {f:FuncId} {fn:Func} {s:ChangeSpec} {conds:List PathCond} {apart fresh handsOn again:Bool} {l:List (String×DataW Unit)}
  (own:ownKnob C.prog.godebug = none) (started:os.Started) (noInit:C.prog.inits.idxOf? f = none) (hfn:C.prog.funcs[f]? = some fn)
  (witness:∃ (w:World) (tape:Tape) (i:Input),w.os = os∧(w.forCall tape i).Shaped C.prog∧i.vars = []∧Input.okWide C.prog (w.forCall tape i) .any w.heap.size f i ∧
    ((s.pre enc C.prog fn conds apart (w.forCall tape i).memory i.args∧laidMetH C.prog l (w.forCall tape i).memory)∧sizedMet enc C.prog fn (OpenSpec.ofChange s) apart (w.forCall tape i).memory i.args)∧a.holds C.prog (lone (Frame.enter C.prog f i.args .normal) [] (w.forCall tape i)))
  (contract:∀ (W:World) (base:Nat) (args:Array Value) (ds gs:List (DataW H)) (before:List MemPlace),
    (∀ (j:Nat) t v,fn.params[j]? = some t→args[j]? = some v→Value.okWide C.prog W .any base t v) →
    DataW.Whole enc C.prog fn.params.toList s.vars apart W args.toList ds gs before →
    laidMetH C.prog l W→W.ShapedOpen C.prog →
    Calls C.prog f args W fun e W'=>∃ v,e = .returned v∧s.post enc C.prog fn apart fresh handsOn again W args v W') :
  ReturnsInHanded a C os f .any (fun w args=>(s.pre enc C.prog fn conds apart w args∧laidMetH C.prog l w)∧sizedMet enc C.prog fn (OpenSpec.ofChange s) apart w args) (s.post enc C.prog fn apart fresh handsOn again):=by
 refine returnsInHanded_of_calls own started noInit witness ?_
 intro w tape i _ hsh _ hok hpre hholds
 obtain ⟨_,_,_,fn',hfn',_,_,_,_,hval⟩:=hok
 have e:fn' = fn:=Option.some.inj (hfn'.symm.trans hfn)
 subst e
 obtain ⟨⟨⟨ds,gs,before,hw,hc⟩,hx⟩,hz⟩:=hpre
 have hw':=DataW.Whole.of_heap (w':=w.forCall tape i) (by rfl) hw
 refine (contract (w.forCall tape i) w.heap.size i.args ds gs before hval hw' (laidMetH.of_heap (w:=(w.forCall tape i).memory) (by rfl) hx) hsh).mono fun e W' ⟨v,he,hp⟩ => ?_
 subst he
 exact ChangeSpec.post_blind hp
theorem ok_str:okT Tryz.prog 1 9 = true:=by kernel_rfl
set_option maxRecDepth 100000 in
theorem rd_str:Rd 9 (fun u=>∃ s:By,u = vs s∧s.length≤maxLen):=by
 refine ⟨⟨by kernel_rfl,of_decide_eq_true (by kernel_rfl)⟩,fun H enc W b0 v d ps hv h => ?_⟩
 obtain ⟨u,h1,h2⟩:=arg_str Tryz.underlying9 ok_str hv h
 obtain ⟨s,ys,he,hw,h3⟩:=h1.str_inv Tryz.underlying9
 cases he
 refine ⟨_,⟨s.data.toList,?_,?_⟩,h2,rfl⟩
 ·show VV.p (.str s) = .p (.str (tx s.data.toList))
  rw [tx_of]
 ·exact hw
theorem ok_u8:okT Tryz.prog 1 5 = true:=by kernel_rfl
set_option maxRecDepth 100000 in
theorem rd_u8:Rd 5 (fun u=>∃ c:Int,u = .p (.int .u8 c)):=by
 refine ⟨⟨by kernel_rfl,of_decide_eq_true (by kernel_rfl)⟩,fun H enc W b0 v d ps hv h => ?_⟩
 obtain ⟨u,h1,h2⟩:=arg_int Tryz.underlying5 ok_u8 hv h
 obtain ⟨n,ys,he,hw,h3⟩:=h1.int_inv Tryz.underlying5
 cases he
 exact ⟨_,⟨n,rfl⟩,h2,rfl⟩
def numsC:List (DataW Unit)→List Value
 | []=>[]
 | .lit (.int k n) :: r => .int k n :: numsC r
 | .agg l :: r=>numsC2 l++numsC r
 | _ :: r=>numsC r
where numsC2:List (DataW Unit)→List Value
 | []=>[]
 | .lit (.int k n) :: r => .int k n :: numsC2 r
 | _ :: r=>numsC2 r
def cellsC:DataW Unit→Array Value
 | .agg l=>(numsC l).toArray
 | _ => #[]
def txC:DataW Unit→ByteArray
 | .iface _ (.ptr (.agg [.lit (.string s)]))=>⟨s.toArray⟩
 | _=>⟨#[]⟩
end Go.Proofs.YtekhddlngbppkaaGreatDoor.Vm

/- A world in which the listed variables hold what the row says. (Vm) -/
namespace Go.Proofs.YtekhddlngbppkaaGreatDoor.Vm
open Go Go.Proofs Go.ChangeShapes Go.WideShapes Go.ChangeAt Go.RowKit
noncomputable def laidWorld (os:Os):World :=
 let N:=(World.settled Tryz.prog os).heap.size
 let w0:=World.holding Tryz.prog os ⟨#[.cells #[.string (txC Rows.laid_strconv_ErrSyntax)] 179,.cells #[.string (txC Rows.laid_strconv_ErrRange)] 179],#[],[]⟩
 let put (h:Array Obj) (g:Nat) (cs:Array Value):Array Obj:=h.modify g fun
  | .cells _ t frozen => .cells cs t frozen
  | o=>o
 { w0 with heap:=put (put (put (put (put (put (put w0.heap 0 #[.iface 177 (.pointer (some ⟨N,0,none⟩))])
   1 #[.iface 177 (.pointer (some ⟨N + 1,0,none⟩))])
   2 (cellsC Rows.laid_internal_strconv_uint64pow10)) 4 (cellsC Rows.laid_unicode_utf8_first)) 5 (cellsC Rows.laid_unicode_utf8_acceptRanges))
   6 (cellsC Rows.laid_math_bits_deBruijn32tab)) 7 (cellsC Rows.laid_math_bits_deBruijn64tab) }
set_option maxRecDepth 100000 in
theorem laid_met (os:Os) (args:Array Value):laidMet Tryz.prog Rows.doorTapeRow.laid ((laidWorld os).forCall (fun _ _=>0) ⟨#[],args,[]⟩).memory :=
 laidMet_of_run3 10 (by kernel_rfl) (by kernel_rfl) (by kernel_rfl)
set_option maxRecDepth 100000 in
theorem laid_shaped (os:Os) (args:Array Value):((laidWorld os).forCall (fun _ _=>0) ⟨#[],args,[]⟩).Shaped Tryz.prog :=
 World.shaped_of_RefB (by kernel_rfl) (by kernel_rfl)
theorem laid_pow:Rows.laid_internal_strconv_uint64pow10 = Lib.tabData (H:=Unit) .u64 Lib.pow10Tab:=by kernel_rfl
theorem lz_law {W:World} (h:laidMetH Tryz.prog Rows.doorTapeRow.laid W) (hsh:W.ShapedOpen Tryz.prog):Lz W.heap.size W (fun _=>False):=by
 have h':laidMet Tryz.prog Rows.doorTapeRow.laid W:=h
 refine lz_of h' hsh ?_ (?_:∃ n d,_) (?_:∃ n d,_)
 ·rw [← laid_pow]
  exact List.Mem.tail _ (List.Mem.tail _ (List.Mem.head _))
 ·exact ⟨_,_,List.Mem.tail _ (List.Mem.tail _ (List.Mem.tail _ (List.Mem.tail _ (List.Mem.tail _ (List.Mem.head _)))))⟩
 ·exact ⟨_,_,List.Mem.tail _ (List.Mem.tail _ (List.Mem.tail _ (List.Mem.tail _ (List.Mem.head _))))⟩
end Go.Proofs.YtekhddlngbppkaaGreatDoor.Vm

/- A function's end that hands out two results. (Vm) -/
namespace Go.Proofs.YtekhddlngbppkaaGreatDoor.Vm
open Go Go.Proofs
theorem own_ret2t {T:Tab} {f:Nat} {fn:Func} {M:Mem} {L:List VObj} {e:Env} {t t':Nat} {X Y:VV} (h1:fn.results.toList = [.tmp t,.tmp t']) (hr:frz M.H.length (M.H++L) (get e t) = X) (hr':frz M.H.length (M.H++L) (get e t') = Y) (h2:refs X = []) (h2':refs Y = []):ownQ T f fn M (fun r M'=>M' = M∧r = .tup [X,Y]) .ret e ⟨M.H++L,M.lg⟩ [] :=
 own_ret (vs:=[get e t,get e t']) (by rw [h1]; rfl) (by simp only [vtup,frz,frzL,hr,hr']) (by simp [refs,refsL,h2,h2']) ⟨rfl,rfl⟩
theorem W_eqM {P:Program} {cx:Cx} {e:Env} {M M':Mem} {D:List Nat} {Q:PQ} {c:Code} (h:M = M') (k:WCode P cx c e M' D Q):WCode P cx c e M D Q:=h ▸ k
theorem callf_eq {f:Nat} {fn:Func} {caps args:List VV} {M M1:Mem} {v:VV} (hf:T.fn f = some fn) (hk:T.keeps f = false) (h:VC Tryz.prog f ((args++caps).map strip1) M (fun r M'=>M' = M1∧r = v)) {Q:VV→Mem→Prop} (hq:Q v M1):VCall Tryz.prog (.fn (.func f) [] caps) args M Q :=
 (VCall_fn T_ok hf (by
   have:(sarg T f) = strip1:=funext fun v=>by simp [sarg,hk]
   simpa [this] using h)).mono fun r M' e=>by obtain ⟨rfl,rfl⟩:=e; exact hq
end Go.Proofs.YtekhddlngbppkaaGreatDoor.Vm

/- Houses with long lists. (Vm) -/
namespace Go.Proofs.YtekhddlngbppkaaGreatDoor.Vm
open Go Go.Proofs
abbrev housePP (h:Ho):List PV:=[.sl 1 (h.holds.map intP),.sl 3 (h.doors.map doP),.int .i64 h.first.lo,.int .i64 h.first.hi,.int .i64 h.ticks,.sl 6 (h.counts.map coP)]
def vastB (h:Ho):Bool:=decide (12 < h.holds.length) || decide (12 < h.doors.length) || decide (40 < h.counts.length)
theorem not_vast {h:Ho} (hv:vastB h = false):h.holds.length≤12∧h.doors.length≤12∧h.counts.length≤40:=by
 simp only [vastB,Bool.or_eq_false_iff,decide_eq_false_iff_not] at hv
 omega
theorem vast_v (h:Ho) (M:Mem):VC Tryz.prog 5 [houseV h] M (fun r M'=>M' = M∧r = vb (vastB h)):=by
 refine VC_own' T_ok (f := 5) (fn:=Tryz.f5) (by kernel_rfl) rfl Tryz.ntmps5 (by rfl) (by rfl) ?_
 (repeat refine Ws ?_);refine Wr ?_
 simp(maxSteps:=1000000)only[VL,VM,↓VG,reduceIte,reduceCtorEq,zA,zB,zC,zD,zE,zF,zG,zH,zI,zJ]
 (repeat refine Ws ?_);refine Wr ?_
 by_cases a1:12 < h.holds.length
 ·have k1:((12:Int) < (h.holds.length:Int)) = True:=eq_true (by omega)
  have e:vastB h = true:=by simp [vastB,a1]
  simp(maxSteps:=1000000)only[VL,VM,↓VG,reduceIte,reduceCtorEq,zA,zB,zC,zD,zE,zF,zG,zH,zI,zJ,k1]
  (repeat refine Ws ?_)
  refine W_ret ?_
  try simp only [thenQ,blockQ]
  refine own_ret1 rfl ?_ (by rfl)
  simp only [get_cons,frz,vtup,zF,if_true,if_false,reduceIte]
  rw [e]
 have k1:((12:Int) < (h.holds.length:Int)) = False:=eq_false (by omega)
 by_cases a2:12 < h.doors.length
 ·have k2:((12:Int) < (h.doors.length:Int)) = True:=eq_true (by omega)
  have e:vastB h = true:=by simp [vastB,a2]
  simp(maxSteps:=1000000)only[VL,VM,↓VG,reduceIte,reduceCtorEq,zA,zB,zC,zD,zE,zF,zG,zH,zI,zJ,k1,k2]
  (repeat refine Ws ?_)
  refine W_ret ?_
  try simp only [thenQ,blockQ]
  refine own_ret1 rfl ?_ (by rfl)
  simp only [get_cons,frz,vtup,zF,if_true,if_false,reduceIte]
  rw [e]
 have k2:((12:Int) < (h.doors.length:Int)) = False:=eq_false (by omega)
 by_cases a3:40 < h.counts.length
 ·have k3:((40:Int) < (h.counts.length:Int)) = True:=eq_true (by omega)
  have e:vastB h = true:=by simp [vastB,a3]
  simp(maxSteps:=1000000)only[VL,VM,↓VG,reduceIte,reduceCtorEq,zA,zB,zC,zD,zE,zF,zG,zH,zI,zJ,k1,k2,k3]
  (repeat refine Ws ?_)
  refine W_ret ?_
  try simp only [thenQ,blockQ]
  refine own_ret1 rfl ?_ (by rfl)
  simp only [get_cons,frz,vtup,zF,if_true,if_false,reduceIte]
  rw [e]
 have k3:((40:Int) < (h.counts.length:Int)) = False:=eq_false (by omega)
 have e:vastB h = false:=by simp [vastB,a1,a2,a3]
 simp(maxSteps:=1000000)only[VL,VM,↓VG,reduceIte,reduceCtorEq,zA,zB,zC,zD,zE,zF,zG,zH,zI,zJ,k1,k2,k3]
 (repeat refine Ws ?_)
 refine W_ret ?_
 try simp only [thenQ,blockQ]
 refine own_ret1 rfl ?_ (by rfl)
 simp only [get_cons,frz,vtup,zF,if_true,if_false,reduceIte]
 rw [e]
end Go.Proofs.YtekhddlngbppkaaGreatDoor.Vm

/- The cells of spans. (Vm) -/
namespace Go.Proofs.YtekhddlngbppkaaGreatDoor.Vm
open Go Go.Proofs
def spCs (l:List Sp):List VV:=l.flatMap fun s=>[vi s.lo,vi s.hi]
theorem spCs_len (l:List Sp):(spCs l).length = l.length * 2:=by
 induction l with
 | nil=>rfl
 | cons s l ih=>simp only [spCs,List.flatMap_cons,List.length_append,List.length_cons,List.length_nil] at ih ⊢; omega
theorem spCs_drop (l:List Sp) (k:Nat):(spCs l).drop (k * 2) = spCs (l.drop k):=by
 induction l generalizing k with
 | nil=>simp [spCs]
 | cons s l ih =>
  cases k with
  | zero=>rfl
  | succ k =>
   have:=ih k
   rw [show (k + 1) * 2 = k * 2 + 2 by omega]
   simpa [spCs] using this
theorem spCs_take (l:List Sp) (k:Nat):(spCs l).take (k * 2) = spCs (l.take k):=by
 induction l generalizing k with
 | nil=>simp [spCs]
 | cons s l ih =>
  cases k with
  | zero=>rfl
  | succ k =>
   have:=ih k
   rw [show (k + 1) * 2 = k * 2 + 2 by omega]
   simpa [spCs] using this
theorem spCs_at {l:List Sp} {k:Nat} {x:Sp} (h:l[k]? = some x):((spCs l).drop (k * 2)).take 2 = [vi x.lo,vi x.hi]:=by
 rw [spCs_drop]
 have hk:=(List.getElem?_eq_some_iff.1 h).1
 rw [List.drop_eq_getElem_cons hk]
 have:l[k] = x:=(List.getElem?_eq_some_iff.1 h).2
 simp [spCs,this]
theorem spCs_set {l:List Sp} {k:Nat} (x:Sp) (h:k < l.length):(spCs l).take (k * 2)++vi x.lo :: vi x.hi :: (spCs l).drop (k * 2 + 2) = spCs (l.set k x):=by
 rw [show k * 2 + 2 = (k + 1) * 2 by omega,spCs_take,spCs_drop,List.set_eq_take_append_cons_drop,if_pos h]
 simp [spCs]
theorem spCs_rep (n:Nat):(List.replicate n [vi 0,vi 0]).flatten = spCs (List.replicate n ⟨0,0⟩):=by
 induction n with
 | zero=>rfl
 | succ n ih=>rw [List.replicate_succ,List.replicate_succ,List.flatten_cons,ih]; rfl
theorem spCs_chunks (l:List Sp):∀ (m:Nat) (k:Nat),k + m = l.length→toPss (chunksOf (spCs l) 2 (k * 2) m) = some ((l.drop k).map spP)
 | 0,k,h=>by simp [chunksOf,toPss,List.drop_of_length_le (show l.length≤k by omega)]
 | m + 1,k,h=>by
  have hk:k < l.length:=by omega
  have ih:=spCs_chunks l m (k + 1) (by omega)
  rw [show (k + 1) * 2 = k * 2 + 2 by omega] at ih
  rw [chunksOf,toPss,ih,spCs_at (List.getElem?_eq_getElem hk),List.drop_eq_getElem_cons hk]
  rfl
theorem frz_spans {n0:Nat} {H:List VObj} {id:Nat} {l:List Sp} (hid:n0≤id) (h:H[id]? = some (.obj (spCs l))):frz n0 H (.bf id 0 l.length 2) = spsV l:=by
 have h0:Nat.ble n0 id = true:=by rw [Nat.ble_eq]; exact hid
 have h1:Nat.ble (0 + l.length * 2) (spCs l).length = true:=by rw [Nat.ble_eq,spCs_len]; omega
 have h2:=spCs_chunks l l.length 0 (by omega)
 rw [Nat.zero_mul] at h2
 simp only [frz,h0,h,h1,h2,cond_true,List.drop_zero]
end Go.Proofs.YtekhddlngbppkaaGreatDoor.Vm

/- Houses, plain: which errors, and how many people may be inside. -/
namespace Go.Proofs.YtekhddlngbppkaaGreatDoor
def spErr (x:Sp):Int:=if inR x.lo 0 10000 && inR x.hi 0 10000 then (if x.hi < x.lo then 5 else 0) else 1
def doErr (n:Nat) (d:Do):Int:=if inR d.a (-1) ((n:Int) - 1) && inR d.b (-1) ((n:Int) - 1) then (if d.a = d.b then 2 else if inR d.flow 0 10000 then 0 else 1) else 3
def doorsErr (n:Nat):List Do→Int
 | []=>0
 | d :: ds=>if doErr n d = 0 then doorsErr n ds else doErr n d
def doAt (h:Ho) (i:Int):Do:=h.doors.getD i.toNat ⟨0,0,0⟩
def sameKey (c b:Co):Bool:=decide (b.tick = c.tick) && decide (b.door = c.door)
def coErr (h:Ho) (before:List Co) (c:Co):Int :=
 if inR c.tick 0 (h.ticks - 1) then
  if inR c.door 0 ((h.doors.length:Int) - 1) then
   if 0≤(doAt h c.door).a∧0≤(doAt h c.door).b then 8
   else if before.any (sameKey c) then 4
   else if spErr c.i = 0 then spErr c.o else spErr c.i
  else 3
 else 1
def cosErr (h:Ho):List Co→List Co→Int
 | _,[]=>0
 | bs,c :: cs=>if coErr h bs c = 0 then cosErr h (bs++[c]) cs else coErr h bs c
def restErr (h:Ho):Int :=
 if spErr h.first = 0 then (if inR h.ticks 0 12 then (if 24 < h.counts.length then 6 else cosErr h [] h.counts) else 1) else spErr h.first
def houseErr (h:Ho):Int :=
 if h.holds.length = 0 then 7 else if 4 < h.holds.length then 6 else if h.holds.all (fun n=>inR n 0 10000) then
  (if 5 < h.doors.length then 6 else if doorsErr h.holds.length h.doors = 0 then restErr h else doorsErr h.holds.length h.doors) else 1
structure SpOk (x:Sp):Prop where
 lo0:0≤x.lo
 le:x.lo≤x.hi
 hi1:x.hi≤10000
theorem spErr_ok {x:Sp}:spErr x = 0↔SpOk x:=by
 unfold spErr
 constructor
 ·intro h
  split at h
  ·rename_i h1
   simp only [Bool.and_eq_true,inR_true] at h1
   split at h
   ·simp at h
   ·exact ⟨by omega,by omega,by omega⟩
  ·simp at h
 ·intro h
  have:=h.lo0
  have:=h.le
  have:=h.hi1
  rw [if_pos (by simp only [Bool.and_eq_true,inR_true]; omega),if_neg (by omega)]
structure DoV (n:Nat) (d:Do):Prop where
 a0 : -1≤d.a
 a1:d.a < n
 b0 : -1≤d.b
 b1:d.b < n
 ne:d.a≠d.b
 f0:0≤d.flow
 f1:d.flow≤10000
theorem doErr_ok {n:Nat} {d:Do}:doErr n d = 0↔DoV n d:=by
 unfold doErr
 constructor
 ·intro h
  split at h
  ·rename_i h1
   simp only [Bool.and_eq_true,inR_true] at h1
   split at h
   ·simp at h
   ·split at h
    ·rename_i h2
     rw [inR_true] at h2
     exact ⟨by omega,by omega,by omega,by omega,by omega,by omega,by omega⟩
    ·simp at h
  ·simp at h
 ·intro h
  obtain ⟨a0,a1,b0,b1,ne,f0,f1⟩:=h
  rw [if_pos (by simp only [Bool.and_eq_true,inR_true]; omega),if_neg ne,if_pos (by rw [inR_true]; omega)]
theorem doorsErr_ok {n:Nat}:∀ {ds:List Do},doorsErr n ds = 0↔∀ d∈ds,DoV n d
 | []=>by simp [doorsErr]
 | d :: ds=>by
  rw [doorsErr]
  by_cases h:doErr n d = 0
  ·rw [if_pos h,doorsErr_ok (ds:=ds)]
   simp [doErr_ok.1 h]
  ·rw [if_neg h]
   constructor
   ·intro h2; exact absurd h2 h
   ·intro h2; exact absurd (doErr_ok.2 (h2 d (by simp))) h
structure CoV (h:Ho) (c:Co):Prop where
 t0:0≤c.tick
 t1:c.tick < h.ticks
 d0:0≤c.door
 d1:c.door < h.doors.length
 k:¬ (0≤(doAt h c.door).a∧0≤(doAt h c.door).b)
 i:SpOk c.i
 o:SpOk c.o
theorem coErr_ok {h:Ho} {bs:List Co} {c:Co}:coErr h bs c = 0↔CoV h c∧bs.any (sameKey c) = false:=by
 unfold coErr
 constructor
 ·intro e
  split at e
  ·rename_i h1
   rw [inR_true] at h1
   split at e
   ·rename_i h2
    rw [inR_true] at h2
    split at e
    ·simp at e
    ·rename_i h3
     split at e
     ·simp at e
     ·rename_i h4
      split at e
      ·rename_i h5
       exact ⟨⟨by omega,by omega,by omega,by omega,h3,spErr_ok.1 h5,spErr_ok.1 e⟩,by simpa using h4⟩
      ·rename_i h5; exact absurd e h5
   ·simp at e
  ·simp at e
 ·rintro ⟨⟨t0,t1,d0,d1,k,i,o⟩,h4⟩
  rw [if_pos (by rw [inR_true]; omega),if_pos (by rw [inR_true]; omega),if_neg k,h4,if_pos (spErr_ok.2 i)]
  simpa using spErr_ok.2 o
def keysOk:List Co→List Co→Prop
 | _,[]=>True
 | bs,c :: cs=>bs.any (sameKey c) = false∧keysOk (bs++[c]) cs
theorem cosErr_ok {h:Ho}:∀ {cs bs:List Co},cosErr h bs cs = 0↔(∀ c∈cs,CoV h c)∧keysOk bs cs
 | [],bs=>by simp [cosErr,keysOk]
 | c :: cs,bs=>by
  rw [cosErr]
  by_cases e:coErr h bs c = 0
  ·rw [if_pos e,cosErr_ok,keysOk]
   have:=coErr_ok.1 e
   simp [this.1,this.2]
  ·rw [if_neg e]
   constructor
   ·intro h2; exact absurd h2 e
   ·rintro ⟨h1,h2⟩
    exact absurd (coErr_ok.2 ⟨h1 c (by simp),h2.1⟩) e
structure HV (h:Ho):Prop where
 n0:1≤h.holds.length
 n1:h.holds.length≤4
 holds:∀ n∈h.holds,0≤n∧n≤10000
 d1:h.doors.length≤5
 doors:∀ d∈h.doors,DoV h.holds.length d
 first:SpOk h.first
 t0:0≤h.ticks
 t1:h.ticks≤12
 c1:h.counts.length≤24
 counts:∀ c∈h.counts,CoV h c
 keys:keysOk [] h.counts
theorem houseErr_ok {h:Ho}:houseErr h = 0↔HV h:=by
 unfold houseErr
 constructor
 ·intro e
  split at e
  ·simp at e
  ·split at e
   ·simp at e
   ·split at e
    ·rename_i h1
     split at e
     ·simp at e
     ·split at e
      ·rename_i h2
       unfold restErr at e
       split at e
       ·rename_i h3
        split at e
        ·rename_i h4
         rw [inR_true] at h4
         split at e
         ·simp at e
         ·have h5:=cosErr_ok.1 e
          refine ⟨by omega,by omega,fun n hn => ?_,by omega,doorsErr_ok.1 h2,spErr_ok.1 h3,h4.1,h4.2,by omega,h5.1,h5.2⟩
          have:=List.all_eq_true.1 h1 n hn
          rwa [inR_true] at this
        ·simp at e
       ·rename_i h3; exact absurd e h3
      ·rename_i h2; exact absurd e h2
    ·simp at e
 ·rintro ⟨n0,n1,holds,d1,doors,first,t0,t1,c1,counts,keys⟩
  rw [if_neg (by omega),if_neg (by omega),if_pos (List.all_eq_true.2 fun n hn=>by rw [inR_true]; exact holds n hn),if_neg (by omega),if_pos (doorsErr_ok.2 doors)]
  unfold restErr
  rw [if_pos (spErr_ok.2 first),if_pos (by rw [inR_true]; omega),if_neg (by omega)]
  exact cosErr_ok.2 ⟨counts,keys⟩
def chg (cs:List Co) (t:Int):Sp:=⟨((cs.filter fun c=>decide (c.tick = t)).map fun c=>c.i.lo - c.o.hi).sum,((cs.filter fun c=>decide (c.tick = t)).map fun c=>c.i.hi - c.o.lo).sum⟩
def nxt (x c:Sp):Sp:=⟨max 0 (x.lo + c.lo),x.hi + c.hi⟩
def fwd (first:Sp) (C:Nat→Sp):Nat→Sp
 | 0=>first
 | t + 1=>nxt (fwd first C t) (C t)
def bad (first:Sp) (C:Nat→Sp) (T:Nat):Bool:=(List.range T).any fun t=>decide ((fwd first C (t + 1)).hi < (fwd first C (t + 1)).lo)
def bwd (first:Sp) (C:Nat→Sp) (T:Nat):Nat→Sp
 | 0=>fwd first C T
 | k + 1=>let x:=bwd first C T k; let c:=C (T - (k + 1)); let f:=fwd first C (T - (k + 1)); ⟨max f.lo (x.lo - c.hi),min f.hi (x.hi - c.lo)⟩
def insideL (first:Sp) (C:Nat→Sp) (T:Nat):List Sp:=(List.range (T + 1)).map fun t=>bwd first C T (T - t)
def insideH (h:Ho):Option (List Sp):=if bad h.first (fun t=>chg h.counts t) h.ticks.toNat then none else some (insideL h.first (fun t=>chg h.counts t) h.ticks.toNat)
end Go.Proofs.YtekhddlngbppkaaGreatDoor
