/- A part of the proofs about the doors; no condition. -/
import Derived.Test.YtekhddlngbppkaaGreatDoorB11
import Derived.Test.YtekhddlngbppkaaGreatDoorB13
import Derived.Test.YtekhddlngbppkaaGreatDoorRows
import Derived.ChangeSame
import Derived.ChangeSlices
import Derived.JoinedOf
import Derived.JoinedAt
import Derived.RowKit
import Derived.OpenShut
import Derived.Carry
set_option linter.unusedVariables false
set_option linter.unusedSimpArgs false
/- The machine on values at work: what its steps yield, for simp. -/
namespace Go.Proofs.YtekhddlngbppkaaGreatDoor.Vm
open Go Go.Proofs

section
variable (T:Tab) (t:Nat) (a b:Int)
theorem v_lss:vbin T .lss t (vi a) (vi b) = some (vb (decide (a < b))):=fbin_ok T .lss t a b _ (by
 simp only [fbin,leI_eq]
 congr 2
 by_cases h:b≤a
 ·rw [decide_eq_true h,decide_eq_false (by omega)]; rfl
 ·rw [decide_eq_false h,decide_eq_true (by omega)]; rfl)
theorem v_gtr:vbin T .gtr t (vi a) (vi b) = some (vb (decide (b < a))):=fbin_ok T .gtr t a b _ (by
 simp only [fbin,leI_eq]
 congr 2
 by_cases h:a≤b
 ·rw [decide_eq_true h,decide_eq_false (by omega)]; rfl
 ·rw [decide_eq_false h,decide_eq_true (by omega)]; rfl)
theorem v_leq:vbin T .leq t (vi a) (vi b) = some (vb (decide (a≤b))):=vbin_leq T t a b
theorem v_geq:vbin T .geq t (vi a) (vi b) = some (vb (decide (b≤a))):=vbin_geq T t a b
theorem v_eql:vbin T .eql t (vi a) (vi b) = some (vb (decide (a = b))):=fbin_ok T .eql t a b _ (by simp [fbin,eqI_eq])
theorem v_neq:vbin T .neq t (vi a) (vi b) = some (vb (!decide (a = b))):=fbin_ok T .neq t a b _ (by simp [fbin,eqI_eq])
theorem v_add (h : -9223372036854775808≤a + b∧a + b < 9223372036854775808):vbin T .add t (vi a) (vi b) = some (vi (a + b)):=fbin_ok T .add t a b _ (by
 simp only [fbin,wrap64_eq]; rw [IntWalk.i64_in _ (by omega)])
theorem v_sub (h : -9223372036854775808≤a - b∧a - b < 9223372036854775808):vbin T .sub t (vi a) (vi b) = some (vi (a - b)):=fbin_ok T .sub t a b _ (by
 simp only [fbin,wrap64_eq]; rw [IntWalk.i64_in _ (by omega)])
theorem v_mul (h : -9223372036854775808≤a * b∧a * b < 9223372036854775808):vbin T .mul t (vi a) (vi b) = some (vi (a * b)):=fbin_ok T .mul t a b _ (by
 simp only [fbin,wrap64_eq]; rw [IntWalk.i64_in _ (by omega)])
theorem v_quo (h:0≤a∧a < 9223372036854775808) (hb:1≤b):vbin T .quo t (vi a) (vi b) = some (vi (a / b)):=by
 have h0:¬ b = 0:=by omega
 have h1:=IntWalk.i64_quo a b (by omega)
 have h2:Go.binOp .quo 0 (.int .i64 a) (.int .i64 b) = .pure (.int .i64 (a / b)):=by
  show Op.intDiv .quo .i64 a b = _
  unfold Op.intDiv
  rw [if_neg (by simpa using h0)]
  simp only [h1]
  rfl
 simp only [vbin,h2,pureOf,Option.map_some,ofValue]
theorem v_max2:vexts true (vi a) [vi b] = some (vi (max a b)):=by
 by_cases h:a < b
 ·have h':decide (b > a) = true:=decide_eq_true h
  simp [vexts,vext,h',Int.max_eq_right (Int.le_of_lt h)]
 ·have h':decide (b > a) = false:=decide_eq_false h
  simp [vexts,vext,h',Int.max_eq_left (by omega:b≤a)]
theorem v_min2:vexts false (vi a) [vi b] = some (vi (min a b)):=by
 by_cases h:b < a
 ·have h':decide (b < a) = true:=decide_eq_true h
  simp [vexts,vext,h',Int.min_eq_right (Int.le_of_lt h)]
 ·have h':decide (b < a) = false:=decide_eq_false h
  simp [vexts,vext,h',Int.min_eq_left (by omega:a≤b)]
theorem v_not (x:Bool):vun .not (vb x) = some (vb (!x)):=by cases x <;> rfl
end
theorem hget (H L:List VObj) (k:Nat):(H++L)[H.length + k]? = L[k]?:=by rw [List.getElem?_append_right (by omega)]; congr 1; omega
theorem hget0 (H L:List VObj):(H++L)[H.length]? = L[0]?:=hget H L 0
theorem hset (H L:List VObj) (k:Nat) (o:VObj):(H++L).set (H.length + k) o = H++L.set k o:=by rw [List.set_append_right _ _ (by omega)]; congr 2; omega
theorem hset0 (H L:List VObj) (o:VObj):(H++L).set H.length o = H++L.set 0 o:=hset H L 0 o
theorem push_eq (M:Mem) (o:VObj):M.push o = ⟨M.H++[o],M.lg⟩:=rfl
theorem addLg_nil (id:Nat) (lg:List (Nat×Nat)):addLg id [] lg = lg:=rfl

theorem nat_blt (a b:Nat):Nat.blt a b = decide (a < b):=by
 cases h:Nat.blt a b with
 | true=>rw [Nat.blt_eq] at h; simp [h]
 | false =>
  have:¬ a < b:=fun h'=>by rw [← Nat.blt_eq] at h'; rw [h'] at h; cases h
  simp [this]
theorem nat_ble (a b:Nat):Nat.ble a b = decide (a≤b):=by
 cases h:Nat.ble a b with
 | true=>rw [Nat.ble_eq] at h; simp [h]
 | false =>
  have:¬ a≤b:=fun h'=>by rw [← Nat.ble_eq] at h'; rw [h'] at h; cases h
  simp [this]
theorem nat_beq (a b:Nat):Nat.beq a b = decide (a = b):=by
 cases h:Nat.beq a b with
 | true=>rw [Nat.beq_eq] at h; simp [h]
 | false =>
  have:¬ a = b:=fun h'=>by rw [← Nat.beq_eq] at h'; rw [h'] at h; cases h
  simp [this]
def ownQ (T:Tab) (f:Nat) (fn:Func) (M:Mem) (Q:VV→Mem→Prop):PQ:=fun ex e M' D=>(ex = .normal∨ex = .ret)∧D = []∧(∃ X,M'.lg = M.lg++X∧∀ e∈X,M.H.length≤e.1)∧∃ H1 L,M'.H = H1++L∧H1.length = M.H.length∧∃ vs,vresL T e M' fn.results.toList = some vs∧∃ r,frz M.H.length M'.H (vtup vs) = r∧(∀ x∈refs r,x < M.H.length)∧Q r ⟨H1,M.lg⟩
theorem VC_own {P:Program} {T:Tab} (hT:TabOk P T) {f:Nat} {fn:Func} {c:Code} {args:List VV} {M:Mem} {Q:VV→Mem→Prop} (hf:T.fn f = some fn) (hb:fn.body = some c) (hn:args.length≤fn.ntmps) (hk:T.keeps f = false)
  (h:WCode P ⟨f,none,fn.ntmps⟩ c (zipEnv 0 args) M [] (ownQ T f fn M Q)) :
  VC P f args M Q:=by
 refine VC_fn hT hf hb hn fun hlg=>h.mono ?_
 rintro ex e M' D ⟨hex,rfl,⟨X,hl,hX⟩,H1,L,hH,hlen,vs,h1,r,hr,h2,h3⟩
 have key:retQ T f M.H.length fn Q .ret e M' []:=by
  simp only [retQ,vkill]
  have hM:({ M' with H:=M'.H }:Mem) = M':=rfl
  rw [hM,h1]
  simp only
  have q1:M'.lg.filter (fun e=>Nat.blt e.1 M.H.length) = M.lg:=by
   rw [hl,List.filter_append,List.filter_eq_self.2 fun e he=>by rw [Nat.blt_eq]; exact (hlg e he).1,List.filter_eq_nil_iff.2 fun e he=>by rw [Nat.blt_eq]; have:=hX e he; omega,List.append_nil]
  have q2:(M.lg.all fun e=>Nat.blt e.2 M.H.length) = true:=List.all_eq_true.2 fun e he=>by rw [Nat.blt_eq]; exact (hlg e he).2
  have q3:((refs r).all (Nat.blt · M.H.length)) = true:=List.all_eq_true.2 fun x hx=>by rw [Nat.blt_eq]; exact h2 x hx
  have q4:M'.H.take M.H.length = H1:=by rw [hH,← hlen]; simp
  unfold vfinish
  rw [hk,q1,hr,q2,q3,q4]
  exact h3
 rcases hex with rfl | rfl
 ·exact key
 ·exact key
theorem VC_own' {P:Program} {T:Tab} (hT:TabOk P T) {f:Nat} {fn:Func} {c:Code} {nt:Nat} {args:List VV} {M:Mem} {Q:VV→Mem→Prop} (hf:T.fn f = some fn) (hb:fn.body = some c) (hnt:fn.ntmps = nt) (hn:Nat.ble args.length nt = true) (hk:T.keeps f = false)
  (h:WCode P ⟨f,none,nt⟩ c (zipEnv 0 args) M [] (ownQ T f fn M Q)):VC P f args M Q:=by
 subst hnt
 exact VC_own hT hf hb (Nat.le_of_ble_eq_true hn) hk h
theorem own_ret {T:Tab} {f:Nat} {fn:Func} {M:Mem} {L:List VObj} {Q:VV→Mem→Prop} {e:Env} {vs:List VV} {r:VV} (h1:vresL T e ⟨M.H++L,M.lg⟩ fn.results.toList = some vs) (hr:frz M.H.length (M.H++L) (vtup vs) = r) (h2:refs r = []) (h3:Q r M):ownQ T f fn M Q .ret e ⟨M.H++L,M.lg⟩ [] :=
 ⟨.inr rfl,rfl,⟨[],by simp,by simp⟩,M.H,L,rfl,rfl,vs,h1,r,hr,by simp [h2],h3⟩
theorem own_ret0 {T:Tab} {f:Nat} {fn:Func} {M:Mem} {Q:VV→Mem→Prop} {e:Env} {vs:List VV} {r:VV} (h1:vresL T e M fn.results.toList = some vs) (hr:frz M.H.length M.H (vtup vs) = r) (h2:refs r = []) (h3:Q r M):ownQ T f fn M Q .ret e M [] :=
 ⟨.inr rfl,rfl,⟨[],by simp,by simp⟩,M.H,[],by simp,rfl,vs,h1,r,hr,by simp [h2],h3⟩
abbrev intP (n:Int):List PV:=[.int .i64 n]
abbrev spP (c:Sp):List PV:=[.int .i64 c.lo,.int .i64 c.hi]
abbrev su (x:Nat):VV:=.p (.int .u8 (x:Int))
abbrev doP (c:Do):List PV:=[.int .i64 c.a,.int .i64 c.b,.int .i64 c.flow]
abbrev coP (c:Co):List PV:=[.int .i64 c.tick,.int .i64 c.door,.int .i64 c.i.lo,.int .i64 c.i.hi,.int .i64 c.o.lo,.int .i64 c.o.hi]
abbrev giP (c:Gi):List PV:=[.int .i64 c.from_,.int .i64 c.keeps,.int .i64 c.portions]
abbrev spV (c:Sp):VV:=.agg [vi c.lo,vi c.hi]
abbrev doV (c:Do):VV:=.agg [vi c.a,vi c.b,vi c.flow]
abbrev coV (c:Co):VV:=.agg [vi c.tick,vi c.door,vi c.i.lo,vi c.i.hi,vi c.o.lo,vi c.o.hi]
abbrev giV (c:Gi):VV:=.agg [vi c.from_,vi c.keeps,vi c.portions]
abbrev intsV (l:List Int):VV:=.p (.sl 1 (l.map intP))
abbrev spsV (l:List Sp):VV:=.p (.sl 2 (l.map spP))
abbrev dosV (l:List Do):VV:=.p (.sl 3 (l.map doP))
abbrev cosV (l:List Co):VV:=.p (.sl 6 (l.map coP))
abbrev gisV (l:List Gi):VV:=.p (.sl 3 (l.map giP))
abbrev rowP (l:List Int):List PV:=[.sl 1 (l.map intP)]
abbrev tabV (l:List (List Int)):VV:=.p (.sl 1 (l.map rowP))
abbrev houseC (h:Ho):List VV:=[intsV h.holds,dosV h.doors,vi h.first.lo,vi h.first.hi,vi h.ticks,cosV h.counts]
abbrev houseV (h:Ho):VV:=.agg (houseC h)
abbrev kitV (k:Kn):VV:=.agg [intsV k.meals,gisV k.gifts]
theorem own_ret1 {T:Tab} {f:Nat} {fn:Func} {M:Mem} {L:List VObj} {e:Env} {t:Nat} {X:VV} (h1:fn.results.toList = [.tmp t]) (hr:frz M.H.length (M.H++L) (get e t) = X) (h2:refs X = []):ownQ T f fn M (fun r M'=>M' = M∧r = X) .ret e ⟨M.H++L,M.lg⟩ [] :=
 own_ret (vs:=[get e t]) (by rw [h1]; rfl) hr h2 ⟨rfl,rfl⟩
theorem own_ret10 {T:Tab} {f:Nat} {fn:Func} {M:Mem} {e:Env} {t:Nat} {X:VV} (h1:fn.results.toList = [.tmp t]) (hr:frz M.H.length M.H (get e t) = X) (h2:refs X = []):ownQ T f fn M (fun r M'=>M' = M∧r = X) .ret e M [] :=
 own_ret0 (vs:=[get e t]) (by rw [h1]; rfl) hr h2 ⟨rfl,rfl⟩
theorem idx_nat (n:Nat):idx (vi (n:Int)) = some n:=by
 have:(0:Int)≤(n:Int):=Int.natCast_nonneg n
 simp [idx,this]
theorem idx_nn (a:Int) (h:0≤a):idx (vi a) = some a.toNat:=by simp [idx,h]
theorem map_at {α β:Type} {f:α→β} {l:List α} {i:Nat} {x:α} (h:l[i]? = some x):(l.map f)[i]? = some (f x):=by simp [h]
theorem assoc_set (ks k2:List Int) (v:VV):∀ es,assoc k2 (assocSet ks v es) = if ks = k2 then some v else assoc k2 es
 | []=>by
  simp only [assocSet,assoc]
  by_cases h:ks = k2 <;> simp [h]
 | (k,u) :: r=>by
  simp only [assocSet,assoc]
  by_cases h:k = ks
  ·subst h
   simp only [decide_true,cond_true,assoc]
   by_cases h2:k = k2 <;> simp [h2]
  ·simp only [decide_eq_false h,cond_false,assoc,assoc_set ks k2 v r]
   by_cases h2:k = k2
   ·subst h2
    have:¬ ks = k:=fun e=>h e.symm
    simp [this]
   ·simp [h2]
def Sub:Env→Env→Prop
 | [],_=>True
 | (k,v) :: r,e=>get e k = v∧Sub r e
theorem Sub.ok:∀ {E e:Env},Sub E e→∀ t,get E t = get e t∨get E t = .any
 | [],_,_,_ => .inr rfl
 | (k,v) :: r,e,h,t=>by
  rw [get_cons]
  by_cases ht:t = k
  ·rw [if_pos ht,ht]; exact .inl h.1.symm
  ·rw [if_neg ht]; exact Sub.ok h.2 t
def LoopK {σ:Type} (E:σ→Env) (N:σ→Mem) (m:σ→Nat) (good:σ→Prop) (D:List Nat) (s:σ) (e':Env) (M':Mem) (D':List Nat):Prop:=D' = D∧∃ s',m s' < m s∧good s'∧Sub (E s') e'∧M' = N s'
theorem LoopK.mk {σ:Type} {E:σ→Env} {N:σ→Mem} {m:σ→Nat} {good:σ→Prop} {D:List Nat} {s:σ} {e':Env} {M':Mem} (s':σ) (h1:m s' < m s) (h2:good s') (h3:Sub (E s') e') (h4:M' = N s'):LoopK E N m good D s e' M' D:=⟨rfl,s',h1,h2,h3,h4⟩
theorem W_loopS {σ:Type} {P:Program} {cx:Cx} {e:Env} {M:Mem} {D:List Nat} {Q:PQ} {c:Code} (E:σ→Env) (N:σ→Mem) (m:σ→Nat) (good:σ→Prop) (s0:σ) (h0:good s0) (hE:Sub (E s0) e) (hM:M = N s0)
  (round:∀ s,good s→WCode P cx c (E s) (N s) D (thenQ (LoopK E N m good D s) Q)):WCode P cx (.loop c) e M D Q:=by
 refine W_loop (fun n e M D'=>∃ s,n = m s∧good s∧Sub (E s) e∧M = N s∧D' = D) (n:=m s0) ⟨s0,rfl,h0,hE,hM,rfl⟩ ?_
 rintro n e M D' ⟨s,rfl,hg,hS,rfl,rfl⟩
 refine (WCode.weak (round s hg) hS.ok).mono ?_
 rintro ex e' M' D1 h
 cases ex <;> first | exact h | skip
 obtain ⟨rfl,s',h1,h2,h3,h4⟩:=h
 exact ⟨m s',h1,s',rfl,h2,h3,h4,rfl⟩
theorem W_drawP {P:Program} {T:Tab} (hT:TabOk P T) {cx:Cx} {e:Env} {M:Mem} {D:List Nat} {Q:PQ} {id:Nat} {ops:Array Oper} (zs:List VObj) (hz:zerosOf T ops.toList = some zs) (hp:planOk ops (mkPlan ops) = true)
  (h:WDraw P T cx.nt ops ops.toList (mkPlan ops) e M.H.length { M with H:=M.H++zs } [] [] fun e' M'=>Q .normal e' M' D):WCode P cx (.region id ops true) e M D Q:=W_draw0 hT hp hz h
theorem arr_get {α:Type} (l:List α) (i:Nat):(Array.mk l)[i]? = l[i]?:=by simp
theorem veq2 (a b c d:Int):veqCells [vi a,vi b] [vi c,vi d] = some (decide (a = c) && (decide (b = d) && true)):=rfl
theorem v_eqSpan (a b:Sp):vbin T .eql 25 (spV a) (spV b) = some (vb (decide (a = b))):=by
 simp only [vbin,t_span,veq2]
 cases a; cases b
 rename_i a b c d
 by_cases h1:a = c <;> by_cases h2:b = d <;> simp [h1,h2]
theorem v_neSpan (a b:Sp):vbin T .neq 25 (spV a) (spV b) = some (vb (!decide (a = b))):=by
 simp only [vbin,t_span,veq2]
 cases a; cases b
 rename_i a b c d
 by_cases h1:a = c <;> by_cases h2:b = d <;> simp [h1,h2]
theorem veq3 (a b e c d f:Int):veqCells [vi a,vi b,vi e] [vi c,vi d,vi f] = some (decide (a = c) && (decide (b = d) && (decide (e = f) && true))):=rfl
theorem v_eqDoor (a b:Do):vbin T .eql 67 (doV a) (doV b) = some (vb (decide (a = b))):=by
 simp only [vbin,t_door,veq3]
 obtain ⟨a,c,k⟩:=a
 obtain ⟨b,d,l⟩:=b
 by_cases h1:a = b <;> by_cases h2:c = d <;> by_cases h3:k = l <;> simp [h1,h2,h3]
theorem v_eqGift (a b:Gi):vbin T .eql 106 (giV a) (giV b) = some (vb (decide (a = b))):=by
 simp only [vbin,t_gift,veq3]
 obtain ⟨a,c,k⟩:=a
 obtain ⟨b,d,l⟩:=b
 by_cases h1:a = b <;> by_cases h2:c = d <;> by_cases h3:k = l <;> simp [h1,h2,h3]
theorem veq6 (a b e g i k c d f h j l:Int):veqCells [vi a,vi b,vi e,vi g,vi i,vi k] [vi c,vi d,vi f,vi h,vi j,vi l] = some (decide (a = c) && (decide (b = d) && (decide (e = f) && (decide (g = h) && (decide (i = j) && (decide (k = l) && true)))))):=rfl
theorem v_eqCount (a b:Co):vbin T .eql 71 (coV a) (coV b) = some (vb (decide (a = b))):=by
 simp only [vbin,t_count,veq6]
 obtain ⟨a,c,⟨k,m⟩,⟨n,o⟩⟩:=a
 obtain ⟨b,d,⟨l,p⟩,⟨q,r⟩⟩:=b
 by_cases h1:a = b <;> by_cases h2:c = d <;> by_cases h3:k = l <;> by_cases h4:m = p <;> by_cases h5:n = q <;> by_cases h6:o = r <;> simp [h1,h2,h3,h4,h5,h6]
theorem fn_call {f:Nat} {fn:Func} {args:List VV} {M:Mem} {Q:VV→Mem→Prop} (hf:T.fn f = some fn) (hk:T.keeps f = false) (h:VC Tryz.prog f (args.map strip1) M Q):VCall Tryz.prog (.fn (.func f) [] []) args M Q :=
 VCall_fn T_ok hf (by
  have:(sarg T f) = strip1:=funext fun v=>by simp [sarg,hk]
  simpa [this] using h)
theorem call_eq {f:Nat} {fn:Func} {args:List VV} {M M1:Mem} {v:VV} (hf:T.fn f = some fn) (hk:T.keeps f = false) (h:VC Tryz.prog f (args.map strip1) M (fun r M'=>M' = M1∧r = v)) {Q:VV→Mem→Prop} (hq:Q v M1):VCall Tryz.prog (.fn (.func f) [] []) args M Q :=
 (fn_call hf hk h).mono fun r M' e=>by obtain ⟨rfl,rfl⟩:=e; exact hq
theorem call_d {f:Nat} {fn:Func} {args:List VV} {M M1:Mem} {v:VV} (hf:T.fn f = some fn) (hk:T.keeps f = false) (h:VC Tryz.prog f (args.map strip1) M (fun r M'=>M' = M1∧r = v)) {R:VV→Mem→Prop} (hq:R v M1):DCallK Tryz.prog (.fn (.func f) [] []) args M R :=
 ⟨v,M1,call_eq hf hk h ⟨rfl,rfl⟩,hq⟩
theorem take_map {α β:Type} (f:α→β) (l:List α) (i:Nat):(l.map f).take i = (l.take i).map f:=List.map_take.symm
theorem drop_map {α β:Type} (f:α→β) (l:List α) (i:Nat):(l.map f).drop i = (l.drop i).map f:=List.map_drop.symm
theorem t_own (t:Nat):T.own t = false∧T.ownS t = false:=⟨rfl,rfl⟩
theorem VL:type_of% (cA @t_own (cA @S_move (cA @S_assign (cA @S_bin (cA @S_un (cA @S_guard (cA @S_pick (cA @S_nil (cA @S_box (cA @S_field (cA @S_load (cA @S_store (cA @S_indexAddr (cA @S_index (cA @S_len (cA @S_append (cA @S_slice (cA @S_lookup (cA @S_build (cA @S_buildSlice (cA @S_extract (cA @S_nilCheck (cA @S_makeSlice (cA @S_makeFunc (cA @S_convert (cA @S_call (cA @S_allocT (cA @S_mapUpdate (cA @S_makeMap (cA @S_max (cA @S_min (cA @Put_some (cA @PutM_some (cA @Then_app (cA @D_move (cA @D_assign (cA @D_bin (cA @D_un (cA @D_pick (cA @D_nil (cA @D_box (cA @D_field (cA @D_load (cA @D_store (cA @D_indexAddr (cA @D_index (cA @D_len (cA @D_append (cA @D_slice (cA @D_lookup (cA @D_build (cA @D_buildSlice (cA @D_extract (cA @D_nilCheck (cA @D_makeSlice (cA @D_makeFunc (cA @D_convert (cA @D_call (cA @D_mapUpdate (cA @D_makeMap (cA @D_max1 (cA @D_min1 (cA @DPut_some (cA @DRead_some (cA @DThen_app (cA @DPutM_some (cA @DStore_some (cA @get_cons (cA @v_lss (cA @v_gtr (cA @v_leq (cA @v_geq (cA @v_eql (cA @v_neq (cA @v_add (cA @v_sub (cA @v_mul (cA @v_quo (cA @v_not (cA @v_max2 (cA @v_min2 (cA @v_eqSpan (cA @v_neSpan (cA @v_eqDoor (cA @v_eqGift (cA @v_eqCount (cA @idx_nat (cA @idx_nn (cA @push_eq (cA @hget (cA @hget0 (cA @hset (cA @hset0 (cA @addLg_nil (cA @t_int (cA @t_bool (cA @t_errno (cA @t_u8 (cA @t_span (cA @t_door (cA @t_gift (cA @t_count (cA @t_way (cA @t_house (cA @t_kitchen (cA @t_die (cA @t_ints (cA @t_bools (cA @t_spans (cA @t_doors (cA @t_gifts (cA @t_counts (cA @t_table (cA @t_houses (cA @t_two (cA @t_sets (cA @t_bmap (cA @t_cmap (cA @t_u64 (cA @t_uint (cA @t_fcome (cA @t_fhas (cA @t_fpush (cA @t_fseq (cA @t_byte (cA @t_str (cA @t_error (cA @t_build (cA @t_frow (cA @t_strs (cA @t_texts (cA @t_phouse (cA @List.isEmpty_nil.{0} (cA @List.isEmpty_cons.{0} (cA @Bool.or_true (cA @Bool.true_or (cA @Bool.or_false (cA @Bool.false_or (cA @arr_get (cA @Int.toNat_natCast (cA @Int.le_refl (cA (@List.getElem?_toArray.{0}) (cA (@List.getElem?_cons_zero.{0}) (cA (@List.getElem?_cons_succ.{0}) (cA (@List.getElem?_nil.{0}) (cA @List.map_cons.{0,0} (cA @List.map_nil.{0,0} (cA @List.all_cons.{0} (cA @List.all_nil.{0} (cA @List.length_cons.{0} (cA @List.length_nil.{0} (cA @List.length_append.{0} (cA @List.length_map.{0,0} (cA @List.drop_zero.{0} (cA @List.drop_succ_cons.{0} (cA @List.take_succ_cons.{0} (cA @List.take_zero.{0} (cA @List.take_nil.{0} (cA @List.drop_nil.{0} (cA @List.cons_append.{0} (cA @List.nil_append.{0} (cA @List.append_nil.{0} (cA @List.append_assoc.{0} (cA @List.set_cons_zero.{0} (cA @List.set_cons_succ.{0} (cA @Option.bind_some.{0,0} (cA @Option.bind_none.{0,0} (cA @Option.map_some.{0,0} (cA @Option.map_none.{0,0} (cA @Option.some.injEq.{0} (cA @Prod.mk.injEq.{0,0} (cA @Bool.and_true (cA @Bool.true_and (cA @Bool.and_false (cA @Bool.false_and (cA @and_true (cA @true_and (cA @and_false (cA @false_and (cA @Bool.not_true (cA @Bool.not_false (cA @Nat.mul_one (cA @Nat.add_zero (cA @Nat.zero_add (cA @Nat.add_assoc (cA @Nat.lt_add_one (cA @Nat.zero_lt_succ (cA @Bool.true_eq_false (cA @Bool.false_eq_true (cA @not_true (cA @not_false_eq_true (cA @beq_true (cA @_root_.beq_false (cA @nat_blt (cA @nat_ble (cA @nat_beq (cA @decide_true (cA @decide_false (cA @Nat.le_refl (cA @Nat.zero_le (cA @List.toList_toArray.{0} (cA @vload.eq_def (cA @vstore.eq_def (cA @vfieldAddr.eq_def (cA @vindexAddr.eq_def (cA @vlen.eq_def (cA @vindex.eq_def (cA @vbuild.eq_def (cA @vmakeSlice.eq_def (cA @vbuildSlice.eq_def (cA @vslice.eq_def (cA @vlookup.eq_def (cA @vmapUpdate.eq_def (cA @gdB.eq_def (cA @funcV.eq_def (cA @boxV.eq_def (cA @mapV.eq_def (cA @splice.eq_def (cA @placesOf.eq_def (cA @fits.eq_def (cA @shOf.eq_def (cA @zeroV.eq_def (cA @D_allocT (cA @DAl_some (cA @take_map (cA @drop_map (cA @vbinK_int (cA @vbinK_bool (cA @vbinK_str @vbinK_agg))))))))))))))))))))))))))))))))))))))))))))))))))))))))))))))))))))))))))))))))))))))))))))))))))))))))))))))))))))))))))))))))))))))))))))))))))))))))))))))))))))))))))))))))))))))))))))))))))))))))))))))))))))))))))))))))))))):=(cA @t_own (cA @S_move (cA @S_assign (cA @S_bin (cA @S_un (cA @S_guard (cA @S_pick (cA @S_nil (cA @S_box (cA @S_field (cA @S_load (cA @S_store (cA @S_indexAddr (cA @S_index (cA @S_len (cA @S_append (cA @S_slice (cA @S_lookup (cA @S_build (cA @S_buildSlice (cA @S_extract (cA @S_nilCheck (cA @S_makeSlice (cA @S_makeFunc (cA @S_convert (cA @S_call (cA @S_allocT (cA @S_mapUpdate (cA @S_makeMap (cA @S_max (cA @S_min (cA @Put_some (cA @PutM_some (cA @Then_app (cA @D_move (cA @D_assign (cA @D_bin (cA @D_un (cA @D_pick (cA @D_nil (cA @D_box (cA @D_field (cA @D_load (cA @D_store (cA @D_indexAddr (cA @D_index (cA @D_len (cA @D_append (cA @D_slice (cA @D_lookup (cA @D_build (cA @D_buildSlice (cA @D_extract (cA @D_nilCheck (cA @D_makeSlice (cA @D_makeFunc (cA @D_convert (cA @D_call (cA @D_mapUpdate (cA @D_makeMap (cA @D_max1 (cA @D_min1 (cA @DPut_some (cA @DRead_some (cA @DThen_app (cA @DPutM_some (cA @DStore_some (cA @get_cons (cA @v_lss (cA @v_gtr (cA @v_leq (cA @v_geq (cA @v_eql (cA @v_neq (cA @v_add (cA @v_sub (cA @v_mul (cA @v_quo (cA @v_not (cA @v_max2 (cA @v_min2 (cA @v_eqSpan (cA @v_neSpan (cA @v_eqDoor (cA @v_eqGift (cA @v_eqCount (cA @idx_nat (cA @idx_nn (cA @push_eq (cA @hget (cA @hget0 (cA @hset (cA @hset0 (cA @addLg_nil (cA @t_int (cA @t_bool (cA @t_errno (cA @t_u8 (cA @t_span (cA @t_door (cA @t_gift (cA @t_count (cA @t_way (cA @t_house (cA @t_kitchen (cA @t_die (cA @t_ints (cA @t_bools (cA @t_spans (cA @t_doors (cA @t_gifts (cA @t_counts (cA @t_table (cA @t_houses (cA @t_two (cA @t_sets (cA @t_bmap (cA @t_cmap (cA @t_u64 (cA @t_uint (cA @t_fcome (cA @t_fhas (cA @t_fpush (cA @t_fseq (cA @t_byte (cA @t_str (cA @t_error (cA @t_build (cA @t_frow (cA @t_strs (cA @t_texts (cA @t_phouse (cA @List.isEmpty_nil.{0} (cA @List.isEmpty_cons.{0} (cA @Bool.or_true (cA @Bool.true_or (cA @Bool.or_false (cA @Bool.false_or (cA @arr_get (cA @Int.toNat_natCast (cA @Int.le_refl (cA (@List.getElem?_toArray.{0}) (cA (@List.getElem?_cons_zero.{0}) (cA (@List.getElem?_cons_succ.{0}) (cA (@List.getElem?_nil.{0}) (cA @List.map_cons.{0,0} (cA @List.map_nil.{0,0} (cA @List.all_cons.{0} (cA @List.all_nil.{0} (cA @List.length_cons.{0} (cA @List.length_nil.{0} (cA @List.length_append.{0} (cA @List.length_map.{0,0} (cA @List.drop_zero.{0} (cA @List.drop_succ_cons.{0} (cA @List.take_succ_cons.{0} (cA @List.take_zero.{0} (cA @List.take_nil.{0} (cA @List.drop_nil.{0} (cA @List.cons_append.{0} (cA @List.nil_append.{0} (cA @List.append_nil.{0} (cA @List.append_assoc.{0} (cA @List.set_cons_zero.{0} (cA @List.set_cons_succ.{0} (cA @Option.bind_some.{0,0} (cA @Option.bind_none.{0,0} (cA @Option.map_some.{0,0} (cA @Option.map_none.{0,0} (cA @Option.some.injEq.{0} (cA @Prod.mk.injEq.{0,0} (cA @Bool.and_true (cA @Bool.true_and (cA @Bool.and_false (cA @Bool.false_and (cA @and_true (cA @true_and (cA @and_false (cA @false_and (cA @Bool.not_true (cA @Bool.not_false (cA @Nat.mul_one (cA @Nat.add_zero (cA @Nat.zero_add (cA @Nat.add_assoc (cA @Nat.lt_add_one (cA @Nat.zero_lt_succ (cA @Bool.true_eq_false (cA @Bool.false_eq_true (cA @not_true (cA @not_false_eq_true (cA @beq_true (cA @_root_.beq_false (cA @nat_blt (cA @nat_ble (cA @nat_beq (cA @decide_true (cA @decide_false (cA @Nat.le_refl (cA @Nat.zero_le (cA @List.toList_toArray.{0} (cA @vload.eq_def (cA @vstore.eq_def (cA @vfieldAddr.eq_def (cA @vindexAddr.eq_def (cA @vlen.eq_def (cA @vindex.eq_def (cA @vbuild.eq_def (cA @vmakeSlice.eq_def (cA @vbuildSlice.eq_def (cA @vslice.eq_def (cA @vlookup.eq_def (cA @vmapUpdate.eq_def (cA @gdB.eq_def (cA @funcV.eq_def (cA @boxV.eq_def (cA @mapV.eq_def (cA @splice.eq_def (cA @placesOf.eq_def (cA @fits.eq_def (cA @shOf.eq_def (cA @zeroV.eq_def (cA @D_allocT (cA @DAl_some (cA @take_map (cA @drop_map (cA @vbinK_int (cA @vbinK_bool (cA @vbinK_str @vbinK_agg)))))))))))))))))))))))))))))))))))))))))))))))))))))))))))))))))))))))))))))))))))))))))))))))))))))))))))))))))))))))))))))))))))))))))))))))))))))))))))))))))))))))))))))))))))))))))))))))))))))))))))))))))))))))))))))))))))))
theorem VM:type_of% (cA @vappend.eq_1 (cA @ev.eq_1 (cA @ev.eq_2 (cA @ev.eq_3 (cA @ev.eq_4 (cA @ofValue.eq_1 (cA @ofValue.eq_2 (cA @ofValue.eq_3 (cA @ofValue.eq_4 (cA @ofValue.eq_5 (cA @ofValue.eq_6 (cA @ofValue.eq_7 (cA @ofValue.eq_8 (cA @ofValue.eq_9 (cA @ofValue.eq_10 (cA @zipEnv.eq_1 (cA @zipEnv.eq_2 (cA @thenQ.eq_1 (cA @thenQ.eq_2 (cA @blockQ.eq_1 (cA @blockQ.eq_2 (cA @vfill.eq_1 (cA @vfill.eq_2 (cA @inOrder.eq_1 (cA @inOrder.eq_2 (cA @toPss.eq_1 (cA @toPss.eq_2 (cA @toPs.eq_1 (cA @toPs.eq_2 (cA @toP.eq_1 (cA @toP.eq_2 (cA @toP.eq_3 (cA @toP.eq_4 (cA @obound.eq_1 (cA @obound.eq_2 (cA @keyOf.eq_1 (cA @keyOf.eq_2 (cA @keyOf.eq_3 (cA @cellInts.eq_1 (cA @cellInts.eq_2 (cA @cellInts.eq_3 (cA @elemsOf.eq_1 (cA @elemsOf.eq_2 (cA @elemsOf.eq_3 (cA @elemsOf.eq_4 (cA @nilV.eq_1 (cA @nilV.eq_2 (cA @nilV.eq_3 (cA @nilV.eq_4 (cA @extV.eq_1 (cA @extV.eq_2 (cA @pickV.eq_1 (cA @pickV.eq_2 (cA @refs.eq_1 (cA @refs.eq_2 (cA @refs.eq_3 (cA @refs.eq_4 (cA @refs.eq_5 (cA @refs.eq_6 (cA @refs.eq_7 (cA @refs.eq_8 (cA @refs.eq_9 (cA @refs.eq_10 (cA @refs.eq_11 (cA @refs.eq_12 (cA @refsL.eq_1 (cA @refsL.eq_2 (cA @isCell.eq_1 (cA @isCell.eq_2 (cA @isCell.eq_3 (cA @isCell.eq_4 (cA @cellsOf.eq_1 (cA @cellsOf.eq_2 (cA @strip1.eq_1 (cA @strip1.eq_2 (cA @strip1.eq_3 (cA @gdV.eq_1 (cA @gdV.eq_2 (cA @gdV.eq_3 (cA @pdOk.eq_1 (cA @pdOk.eq_2 (cA @pdPush.eq_1 (cA @pdPush.eq_2 (cA @pdTick.eq_1 (cA @pdTick.eq_2 (cA @pdTick.eq_3 (cA @pdTick.eq_4 (cA @Back.eq_1 (cA @Back.eq_2 (cA @Back.eq_3 (cA @cond_true.{1} (cA @cond_false.{1} (cA @if_true.{1} (cA @if_true.{0} (cA @if_false.{1} (cA @if_false.{0} @forall_const.{0})))))))))))))))))))))))))))))))))))))))))))))))))))))))))))))))))))))))))))))))))))))))))))))))):=cA @vappend.eq_1 (cA @ev.eq_1 (cA @ev.eq_2 (cA @ev.eq_3 (cA @ev.eq_4 (cA @ofValue.eq_1 (cA @ofValue.eq_2 (cA @ofValue.eq_3 (cA @ofValue.eq_4 (cA @ofValue.eq_5 (cA @ofValue.eq_6 (cA @ofValue.eq_7 (cA @ofValue.eq_8 (cA @ofValue.eq_9 (cA @ofValue.eq_10 (cA @zipEnv.eq_1 (cA @zipEnv.eq_2 (cA @thenQ.eq_1 (cA @thenQ.eq_2 (cA @blockQ.eq_1 (cA @blockQ.eq_2 (cA @vfill.eq_1 (cA @vfill.eq_2 (cA @inOrder.eq_1 (cA @inOrder.eq_2 (cA @toPss.eq_1 (cA @toPss.eq_2 (cA @toPs.eq_1 (cA @toPs.eq_2 (cA @toP.eq_1 (cA @toP.eq_2 (cA @toP.eq_3 (cA @toP.eq_4 (cA @obound.eq_1 (cA @obound.eq_2 (cA @keyOf.eq_1 (cA @keyOf.eq_2 (cA @keyOf.eq_3 (cA @cellInts.eq_1 (cA @cellInts.eq_2 (cA @cellInts.eq_3 (cA @elemsOf.eq_1 (cA @elemsOf.eq_2 (cA @elemsOf.eq_3 (cA @elemsOf.eq_4 (cA @nilV.eq_1 (cA @nilV.eq_2 (cA @nilV.eq_3 (cA @nilV.eq_4 (cA @extV.eq_1 (cA @extV.eq_2 (cA @pickV.eq_1 (cA @pickV.eq_2 (cA @refs.eq_1 (cA @refs.eq_2 (cA @refs.eq_3 (cA @refs.eq_4 (cA @refs.eq_5 (cA @refs.eq_6 (cA @refs.eq_7 (cA @refs.eq_8 (cA @refs.eq_9 (cA @refs.eq_10 (cA @refs.eq_11 (cA @refs.eq_12 (cA @refsL.eq_1 (cA @refsL.eq_2 (cA @isCell.eq_1 (cA @isCell.eq_2 (cA @isCell.eq_3 (cA @isCell.eq_4 (cA @cellsOf.eq_1 (cA @cellsOf.eq_2 (cA @strip1.eq_1 (cA @strip1.eq_2 (cA @strip1.eq_3 (cA @gdV.eq_1 (cA @gdV.eq_2 (cA @gdV.eq_3 (cA @pdOk.eq_1 (cA @pdOk.eq_2 (cA @pdPush.eq_1 (cA @pdPush.eq_2 (cA @pdTick.eq_1 (cA @pdTick.eq_2 (cA @pdTick.eq_3 (cA @pdTick.eq_4 (cA @Back.eq_1 (cA @Back.eq_2 (cA @Back.eq_3 (cA @cond_true.{1} (cA @cond_false.{1} (cA @if_true.{1} (cA @if_true.{0} (cA @if_false.{1} (cA @if_false.{0} @forall_const.{0})))))))))))))))))))))))))))))))))))))))))))))))))))))))))))))))))))))))))))))))))))))))))))))))
end Go.Proofs.YtekhddlngbppkaaGreatDoor.Vm

/- A law that answers true on values holds as its row says. (Vm) -/
namespace Go.Proofs.YtekhddlngbppkaaGreatDoor.Vm
open Go Go.Proofs Go.ChangeShapes Go.WideShapes Go.ChangeAt Go.RowKit
theorem law_own:ownKnob Tryz.prog.godebug = none:=by kernel_rfl
theorem law_laid:laidOutB Tryz.prog = true:=by kernel_rfl
theorem law_run {f:Nat} {W:World} {args:Array Value} {vs:List VV} (hlz:Lz W.heap.size W (fun _=>False)) (ha:PW (RepV W (fun _=>none) []) args.toList vs) (hc:∀ a∈vs,refs a = []) (hv:VC Tryz.prog f vs ⟨[],[]⟩ (fun r M'=>M' = ⟨[],[]⟩∧r = vb true)) :
  Calls Tryz.prog f args W fun e w'=>e = .returned (.bool true)∧Below W.heap.size W w':=by
 have hI0:Inv ⟨W.heap.size,W,fun _=>False,hlz⟩ W (fun _=>none) ⟨[],[]⟩:=⟨rfl,rfl,rfl,Nat.le_refl _,Nat.le_refl _,fun _ _ _=>rfl,fun i j b hi=>by simp at hi,fun i b hi=>by simp at hi,fun i o hi=>by simp at hi,fun i o hi=>by simp at hi,fun e he=>by simp at he,fun i L hi=>by simp at hi⟩
 refine (callsIn_wide.1 (hv _ W _ args hI0 ⟨ha,fun a h r hr=>by rw [hc a h] at hr; cases hr⟩)).mono ?_
 rintro e w' ⟨rv,r,K',M',rfl,⟨rfl,rfl⟩,hr,hcl,hE,hI'⟩
 refine ⟨?_,hI'.os,hI'.tape,hI'.output,hI'.size,fun b hb=>hI'.old b hb (fun h=>h)⟩
 cases hr with
 | p _ _ hp=>cases hp with
 | bool b=>rfl
theorem trodAll_stays {H:Type} {enc:TypeId×Value→H} {W W':World} (hb:Below W.heap.size W W') {sp:Nat→Bool}:∀ {ts:List TypeId} {vs:List Value} {ds:List (DataW H)} {ps:List MemPlace},(∀ t∈ts,Tryz.prog.readableRec t = true∧t < Tryz.prog.types.size) →
  DataW.TrodAll enc Tryz.prog W 0 (fun _=>true) true ts vs ds ps→(∀ p∈ps,p.block < W.heap.size)→(∀ p∈ps,sp p.block = true)→DataW.TrodAll enc Tryz.prog W' 0 sp true ts vs ds ps
 | [],vs,ds,ps,ht,h,hlt,hs=>by
  obtain ⟨rfl,rfl,rfl⟩:=trodAll_nil h
  exact trodAll_mk0
 | t :: ts,vs,ds,ps,ht,h,hlt,hs=>by
  obtain ⟨v,vs,d,ds,p,q,rfl,rfl,rfl,h0,h1⟩:=trodAll_cons h
  refine trodAll_cons_mk ?_ (trodAll_stays hb (fun u hu=>ht u (List.mem_cons_of_mem _ hu)) h1 (fun x hx=>hlt x (List.mem_append_right _ hx)) (fun x hx=>hs x (List.mem_append_right _ hx)))
  exact WideElems.Trod_stays law_laid (ht t (List.mem_cons_self ..)).1 (ht t (List.mem_cons_self ..)).2 h0 (fun x hx=>hb.same (hlt x (List.mem_append_left _ hx))) (fun x hx=>hs x (List.mem_append_left _ hx))
set_option maxRecDepth 100000 in
theorem law_after {f:Func} {s:ChangeSpec} {H:Type} {enc:TypeId×Value→H} {W W':World} {args:Array Value} {v:Value} {ds gs:List (DataW H)} {before pa pv:List MemPlace}
  (hW:DataW.Whole enc Tryz.prog f.params.toList s.vars false W args.toList ds gs before)
  (hres:∀ (b:Nat) (sp:Nat→Bool) (hd:Bool),DataW.TrodAll enc Tryz.prog W' b sp hd f.resultTypes.toList (v.resultList f.resultTypes.size) (s.fn H (ds++gs)).results [])
  (hargs:∀ sp:Nat→Bool,(∀ p∈before,sp p.block = true)→DataW.TrodAll enc Tryz.prog W' 0 sp true f.params.toList args.toList (s.fn H (ds++gs)).args pa)
  (hvars:∀ sp:Nat→Bool,(∀ p∈before,sp p.block = true)→DataW.TrodVars enc Tryz.prog W' sp s.vars (s.fn H (ds++gs)).vars pv)
  (hps:before = pa++pv) (hb:Below W.heap.size W W')
  (hok:∀ (j:Nat) (t:TypeId) (r:Value),f.resultTypes[j]? = some t→(v.resultList f.resultTypes.size)[j]? = some r→Value.okWide Tryz.prog W' .any 0 t r) :
  s.post enc Tryz.prog f false true false false W args v W':=by
 have hlt:∀ p∈before,p.block < W.heap.size:=fun p hp=>by simpa using hW.lt p hp
 have hold:∀ p∈before,(fun b=>decide (b < W.heap.size)) p.block = true:=fun p hp=>by simpa using hlt p hp
 refine ⟨ds,gs,before,[],pa,pv,hW,hres _ _ _,hargs _ hold,hvars _ hold,World.keptBut_mono (fun p hp=>⟨hp,?_⟩) (hb.frame (· ∈ before)),fun _ => ?_⟩
 ·rw [hps,List.mem_append] at hp
  exact Or.inr hp
 ·obtain ⟨_,_,_,_,_,hz,hn⟩:=hW
  refine ⟨hok,_,_,([]++pa)++pv,⟨[]++pa,pv,trodAll_append (hargs _ (fun _ _=>rfl)) (hres _ _ _),hvars _ (fun _ _=>rfl),rfl,?_,?_⟩,?_⟩
  ·intro b off hp
   have hp':MemPlace.cell b off∈before:=by rw [hps]; simpa using hp
   rw [hb.frozen (p:=⟨b,off,none⟩) (hlt _ hp')]
   exact hz b off hp'
  ·intro ha
   have:=hn ha
   rw [hps] at this
   simpa using this
  ·intro p hp _
   rw [hps]
   simpa using hp
set_option maxRecDepth 100000 in
theorem law_post {f:Nat} {fn:Func} {s:ChangeSpec} {H:Type} {enc:TypeId×Value→H} {W:World} {args:Array Value} {ds gs:List (DataW H)} {before:List MemPlace} (hvs:s.vars = [])
  (hs:(s.fn H ds).results = [.lit (.bool true)]∧(s.fn H ds).args = ds∧(s.fn H ds).vars = []) (hres:fn.resultTypes = #[4]) (hp:∀ t∈fn.params.toList,Tryz.prog.readableRec t = true∧t < Tryz.prog.types.size)
  (hW:DataW.Whole enc Tryz.prog fn.params.toList s.vars false W args.toList ds gs before)
  (walk:Calls Tryz.prog f args W fun e w'=>e = .returned (.bool true)∧Below W.heap.size W w') :
  Calls Tryz.prog f args W fun e W'=>∃ v,e = .returned v∧s.post enc Tryz.prog fn false true false false W args v W':=by
 have hW':=hW
 obtain ⟨p,q,hA0,hV,rfl,hfz,hnd⟩:=hW
 have hA:DataW.TrodAll enc Tryz.prog W 0 (fun _=>true) true fn.params.toList args.toList ds p:=hA0
 rw [hvs] at hV
 obtain ⟨rfl,rfl⟩:=trodVars_none hV
 have hlt:∀ x∈p,x.block < W.heap.size:=fun x hx=>by simpa using hW'.lt x (List.mem_append_left _ hx)
 refine walk.mono fun e W' ⟨he,hb⟩=>⟨.bool true,he,?_⟩
 refine law_after (pa:=p) (pv:=[]) hW' ?_ ?_ ?_ rfl hb ?_
 ·intro b sp hd
  rw [List.append_nil,hs.1,hres]
  exact trodAll_cons_mk (shut_bool Tryz.underlying4 _) trodAll_mk0
 ·intro sp hsp
  rw [List.append_nil,hs.2.1]
  exact trodAll_stays hb hp hA hlt (fun x hx=>hsp x (List.mem_append_left _ hx))
 ·intro sp hsp
  rw [List.append_nil,hs.2.2]
  generalize s.vars = vs at hvs
  subst hvs
  rfl
 ·exact ok_one hres rfl (okWide_bool_mk Tryz.underlying4 _)
/-! ### data that came in, as values -/
inductive ShL:List TypeId→List PV→Prop
 | nil:ShL [] []
 | int (t:TypeId) (k:IntKind) (n:Int) (ts:List TypeId) (xs:List PV) (ht:Tryz.prog.underlying t = some (.int k)) (hw:(Lit.int k n).wf = true) (h:ShL ts xs):ShL (t :: ts) (.int k n :: xs)
 | bool (t:TypeId) (b:Bool) (ts:List TypeId) (xs:List PV) (ht:Tryz.prog.underlying t = some .bool) (h:ShL ts xs):ShL (t :: ts) (.bool b :: xs)
 | str (t:TypeId) (s:ByteArray) (ts:List TypeId) (xs:List PV) (ht:Tryz.prog.underlying t = some .string) (hs:s.size≤maxLen) (h:ShL ts xs):ShL (t :: ts) (.str s :: xs)
 | sl (t e:TypeId) (rows:List (List PV)) (ts:List TypeId) (xs:List PV) (ht:Tryz.prog.underlying t = some (.slice e)) (hl:rows.length≤maxLen) (hr:∀ x∈rows,ShL [e] x) (h:ShL ts xs):ShL (t :: ts) (.sl (Tryz.prog.cellsOf e) rows :: xs)
 | st (t:TypeId) (fs:Array Field) (ts:List TypeId) (xs:List PV) (ht:Tryz.prog.underlying t = some (.struct fs)) (h:ShL (fs.toList.map (·.type)++ts) xs):ShL (t :: ts) xs
theorem ShL.append {a b:List TypeId} {xs ys:List PV} (h:ShL a xs) (h':ShL b ys):ShL (a++b) (xs++ys):=by
 induction h with
 | nil=>exact h'
 | int t k n ts xs ht hw _ ih=>exact .int t k n _ _ ht hw ih
 | bool t b ts xs ht _ ih=>exact .bool t b _ _ ht ih
 | str t s ts xs ht hs _ ih=>exact .str t s _ _ ht hs ih
 | sl t e rows ts xs ht hl hr _ _ ih=>exact .sl t e rows _ _ ht hl hr ih
 | st t fs ts xs ht _ ih=>exact .st t fs _ _ ht (by rw [List.append_assoc] at ih; exact ih)
theorem ShL.int_inv {t:TypeId} {k:IntKind} {ts:List TypeId} {xs:List PV} (ht:Tryz.prog.underlying t = some (.int k)) (h:ShL (t :: ts) xs):∃ n ys,xs = .int k n :: ys∧(Lit.int k n).wf = true∧ShL ts ys:=by
 cases h with
 | int _ k' n _ ys ht' hw h=>rw [ht] at ht'; cases ht'; exact ⟨n,ys,rfl,hw,h⟩
 | bool _ _ _ _ ht' _=>rw [ht] at ht'; cases ht'
 | str _ _ _ _ ht' _ _=>rw [ht] at ht'; cases ht'
 | sl _ _ _ _ _ ht' _ _ _=>rw [ht] at ht'; cases ht'
 | st _ _ _ _ ht' _=>rw [ht] at ht'; cases ht'
theorem ShL.str_inv {t:TypeId} {ts:List TypeId} {xs:List PV} (ht:Tryz.prog.underlying t = some .string) (h:ShL (t :: ts) xs):∃ s ys,xs = .str s :: ys∧s.size≤maxLen∧ShL ts ys:=by
 cases h with
 | str _ s _ ys ht' hs h=>exact ⟨s,ys,rfl,hs,h⟩
 | int _ _ _ _ _ ht' _ _=>rw [ht] at ht'; cases ht'
 | bool _ _ _ _ ht' _=>rw [ht] at ht'; cases ht'
 | sl _ _ _ _ _ ht' _ _ _=>rw [ht] at ht'; cases ht'
 | st _ _ _ _ ht' _=>rw [ht] at ht'; cases ht'
theorem ShL.sl_inv {t e:TypeId} {ts:List TypeId} {xs:List PV} (ht:Tryz.prog.underlying t = some (.slice e)) (h:ShL (t :: ts) xs):∃ rows ys,xs = .sl (Tryz.prog.cellsOf e) rows :: ys∧rows.length≤maxLen∧(∀ x∈rows,ShL [e] x)∧ShL ts ys:=by
 cases h with
 | sl _ _ rows _ ys ht' hl hr h=>rw [ht] at ht'; cases ht'; exact ⟨rows,ys,rfl,hl,hr,h⟩
 | int _ _ _ _ _ ht' _ _=>rw [ht] at ht'; cases ht'
 | bool _ _ _ _ ht' _=>rw [ht] at ht'; cases ht'
 | str _ _ _ _ ht' _ _=>rw [ht] at ht'; cases ht'
 | st _ _ _ _ ht' _=>rw [ht] at ht'; cases ht'
theorem ShL.st_inv {t:TypeId} {fs:Array Field} {ts:List TypeId} {xs:List PV} (ht:Tryz.prog.underlying t = some (.struct fs)) (h:ShL (t :: ts) xs):ShL (fs.toList.map (·.type)++ts) xs:=by
 cases h with
 | st _ _ _ _ ht' h=>rw [ht] at ht'; cases ht'; exact h
 | int _ _ _ _ _ ht' _ _=>rw [ht] at ht'; cases ht'
 | bool _ _ _ _ ht' _=>rw [ht] at ht'; cases ht'
 | str _ _ _ _ ht' _ _=>rw [ht] at ht'; cases ht'
 | sl _ _ _ _ _ ht' _ _ _=>rw [ht] at ht'; cases ht'
theorem ShL.nil_inv {xs:List PV} (h:ShL [] xs):xs = []:=by cases h; rfl
theorem rows_inv {α:Type} {p:α→Prop} {f:α→List PV} {e:TypeId} (h:∀ x,ShL [e] x→∃ y,x = f y∧p y):∀ {rows:List (List PV)},(∀ x∈rows,ShL [e] x)→∃ ys:List α,rows = ys.map f∧∀ y∈ys,p y
 | [],_=>⟨[],rfl,fun y hy=>by cases hy⟩
 | x :: rows,hr=>by
  obtain ⟨y,rfl,hy⟩:=h x (hr x (List.mem_cons_self ..))
  obtain ⟨ys,rfl,hys⟩:=rows_inv h (fun z hz=>hr z (List.mem_cons_of_mem _ hz))
  exact ⟨y :: ys,rfl,fun z hz=>by
   rcases List.mem_cons.1 hz with rfl | hz
   ·exact hy
   ·exact hys z hz⟩
def tile (P:Program):Nat→List Field→Option Nat
 | n,[]=>some n
 | n,f :: fs=>if f.offset = n then tile P (n + P.cellsOf f.type) fs else none
def okT (P:Program):Nat→TypeId→Bool
 | 0,_=>false
 | m + 1,t=>match P.underlying t with
  | some (.int _)=>true
  | some .bool=>true
  | some .string=>true
  | some (.slice e)=>okT P m e && Nat.blt 0 (P.cellsOf e)
  | some (.struct fs)=>fs.toList.all (fun f=>okT P m f.type) && decide (tile P 0 fs.toList = some (P.cellsOf t))
  | _=>false
def RepC (W:World) (cs:List Value) (xs:List PV):Prop:=xs.length = cs.length∧∀ (i:Nat) v u,cs[i]? = some v→xs[i]? = some u→RepP W (Im (fun _=>none) []) v u
theorem RepC.one {W:World} {v:Value} {u:PV} (h:RepP W (Im (fun _=>none) []) v u):RepC W [v] [u]:=⟨rfl,fun i v' u' h1 h2=>by
 match i,h1,h2 with
 | 0,h1,h2=>cases h1; cases h2; exact h
 | i + 1,h1,_=>simp at h1⟩
theorem RepC.append {W:World} {cs cs':List Value} {xs xs':List PV} (h:RepC W cs xs) (h':RepC W cs' xs'):RepC W (cs++cs') (xs++xs'):=⟨by simp [h.1,h'.1],fun i v u h1 h2=>by
 rcases Nat.lt_or_ge i cs.length with hlt | hge
 ·rw [List.getElem?_append_left hlt] at h1
  rw [List.getElem?_append_left (by rw [h.1]; exact hlt)] at h2
  exact h.2 i v u h1 h2
 ·rw [List.getElem?_append_right hge] at h1
  rw [List.getElem?_append_right (by rw [h.1]; exact hge),h.1] at h2
  exact h'.2 _ v u h1 h2⟩
theorem add_spot {w:World} {a:Addr} {v:Value} (h:w.cell? (a.add 0) = some v):a = ⟨a.block,a.off,none⟩:=by
 unfold World.cell? at h
 split at h
 ·split at h
  ·cases h
  ·rename_i hsp
   cases a with
   | mk b o s=>cases s with
    | none=>rfl
    | some q=>simp [Addr.add] at hsp
 ·cases h
theorem add_plain' (b o i:Nat):Addr.add ⟨b,o,none⟩ i = ⟨b,o + i,none⟩:=by
 unfold Addr.add
 split
 ·rename_i h; subst h; rfl
 ·rfl
section
variable {H:Type} {enc:TypeId×Value→H} {W:World}
theorem read_fields {m n:Nat} {cs:List Value} (ih:∀ (t:TypeId) (cs':List Value) (x:DataW H×List MemPlace),okT Tryz.prog m t = true→DataW.trod enc Tryz.prog W 0 (fun _=>true) true n t cs' = some x→∃ xs,ShL [t] xs∧RepC W cs' xs) :
  ∀ (l:List Field) (k:Nat),tile Tryz.prog k l = some cs.length→(∀ f∈l,okT Tryz.prog m f.type = true)→(∀ f∈l,∃ x,DataW.trod enc Tryz.prog W 0 (fun _=>true) true n f.type ((cs.drop f.offset).take (Tryz.prog.cellsOf f.type)) = some x)→∃ xs,ShL (l.map (·.type)) xs∧RepC W (cs.drop k) xs
 | [],k,ht,_,_=>by
  cases ht
  exact ⟨[],.nil,by simp [RepC]⟩
 | f :: l,k,ht,hok,hx=>by
  unfold tile at ht
  split at ht
  ·rename_i hf
   obtain ⟨xs,h1,h2⟩:=read_fields ih l _ ht (fun g hg=>hok g (List.mem_cons_of_mem _ hg)) (fun g hg=>hx g (List.mem_cons_of_mem _ hg))
   obtain ⟨x,hx0⟩:=hx f (List.mem_cons_self ..)
   rw [hf] at hx0
   obtain ⟨ys,h3,h4⟩:=ih _ _ _ (hok f (List.mem_cons_self ..)) hx0
   refine ⟨ys++xs,h3.append h1,?_⟩
   have:=h4.append h2
   rw [show (cs.drop k).take (Tryz.prog.cellsOf f.type)++cs.drop (k + Tryz.prog.cellsOf f.type) = cs.drop k by
    rw [← List.drop_drop]; exact List.take_append_drop _ _] at this
   exact this
  ·cases ht
theorem choose_rows {α:Type} {p:Nat→α→Prop}:∀ (n:Nat),(∀ i,i < n→∃ x,p i x)→∃ xs:List α,xs.length = n∧∀ i x,xs[i]? = some x→p i x
 | 0,_=>⟨[],rfl,fun i x h=>by simp at h⟩
 | n + 1,h=>by
  obtain ⟨xs,h1,h2⟩:=choose_rows n (fun i hi=>h i (by omega))
  obtain ⟨x,hx⟩:=h n (by omega)
  refine ⟨xs++[x],by simp [h1],fun i y hy => ?_⟩
  rcases Nat.lt_or_ge i xs.length with hlt | hge
  ·rw [List.getElem?_append_left hlt] at hy
   exact h2 i y hy
  ·rw [List.getElem?_append_right hge] at hy
   have:i - xs.length = 0:=by
    have:=(List.getElem?_eq_some_iff.1 hy).1
    simp at this; omega
   rw [this] at hy
   cases hy
   rwa [show i = n by omega]
theorem read_ok:∀ (m:Nat) (n:Nat) (t:TypeId) (cs:List Value) (x:DataW H×List MemPlace),okT Tryz.prog m t = true→DataW.trod enc Tryz.prog W 0 (fun _=>true) true n t cs = some x→∃ xs,ShL [t] xs∧RepC W cs xs:=by
 intro m
 induction m with
 | zero =>
  intro n t cs x hok
  unfold okT at hok
  exact absurd hok Bool.false_ne_true
 | succ m ih =>
  intro n t cs x hok h
  unfold okT at hok
  split at hok
  ·rename_i k ht
   obtain ⟨i,rfl,_,hw⟩:=DataW.trod_int ht h
   exact ⟨_,.int t k i [] [] ht hw .nil,.one (.int _ _)⟩
  ·rename_i ht
   obtain ⟨b,rfl,_⟩:=DataW.trod_bool ht h
   exact ⟨_,.bool t b [] [] ht .nil,.one (.bool _)⟩
  ·rename_i ht
   obtain ⟨s,rfl,_,hs⟩:=DataW.trod_string ht h
   exact ⟨_,.str t s [] [] ht hs .nil,.one (.str _)⟩
  ·rename_i e ht
   rw [Bool.and_eq_true] at hok
   have hpos:0 < Tryz.prog.cellsOf e:=by
    have h0:=hok.2
    rw [nat_blt,decide_eq_true_eq] at h0
    exact h0
   rcases DataW.trod_slice ht h with ⟨rfl,_⟩ | ⟨a,len,cap,elems,rest,n',rfl,rfl,_,_,hl,hm,hlen,hel,_,_⟩
   ·exact ⟨_,.sl t e [] [] [] ht (Nat.zero_le _) (fun x hx=>by cases hx) .nil,.one (.sl none 0 _ 0 0 [] (fun _ _ => .bool false) (Nat.le_refl _) (Nat.zero_le _) (fun x hx=>by cases hx) (fun h=>absurd rfl h) (fun i x j u hx=>by simp at hx) (fun i x j u hx=>by simp at hx) (fun i x j u hx=>by simp at hx))⟩
   ·have each:∀ i,i < len→∃ p:List Value×List PV,W.cells? 0 (a.add (i * Tryz.prog.cellsOf e)) (Tryz.prog.cellsOf e) = some p.1∧ShL [e] p.2∧RepC W p.1 p.2:=by
     intro i hi
     have h1:=hel i hi
     rw [List.getElem?_eq_getElem (by omega)] at h1
     obtain ⟨cs',hc,hx⟩:=Option.bind_eq_some_iff.1 h1
     obtain ⟨xs,hs,hr⟩:=ih _ _ _ _ hok.1 hx
     exact ⟨(cs',xs),hc,hs,hr⟩
    obtain ⟨ps,hps,hp⟩:=choose_rows len each
    have hlen':(ps.map Prod.snd).length = len:=by rw [List.length_map,hps]
    have hat:∀ (i:Nat) (x:List PV),(ps.map Prod.snd)[i]? = some x→∃ cs',W.cells? 0 (a.add (i * Tryz.prog.cellsOf e)) (Tryz.prog.cellsOf e) = some cs'∧ShL [e] x∧RepC W cs' x:=by
     intro i x hx
     rw [List.getElem?_map] at hx
     obtain ⟨p,hp',rfl⟩:=Option.map_eq_some_iff.1 hx
     exact ⟨p.1,hp i p hp'⟩
    refine ⟨_,.sl t e (ps.map Prod.snd) [] [] ht (by omega) (fun x hx=>by
     obtain ⟨i,hi⟩:=List.getElem?_of_mem hx
     obtain ⟨_,_,h2,_⟩:=hat i x hi
     exact h2) .nil,.one ?_⟩
    have ha:∀ (i:Nat) (x:List PV),(ps.map Prod.snd)[i]? = some x→a = ⟨a.block,a.off,none⟩:=by
     intro i x hx
     have h0:0 < len:=by
      have:=(List.getElem?_eq_some_iff.1 hx).1
      omega
     obtain ⟨cs',hc,_⟩:=each 0 h0
     obtain ⟨_,hcl,hcc⟩:=World.cells?_some hc
     have h9:=hcc 0 hpos
     rw [List.getElem?_eq_getElem (by omega),Nat.zero_mul] at h9
     exact add_spot (a:=a) (by
      have:(a.add 0).add 0 = a.add 0:=by simp [Addr.add]
      rw [this] at h9
      exact h9)
    have hcells:∀ (i:Nat) (x:List PV) (j:Nat) (u:PV),(ps.map Prod.snd)[i]? = some x→x[j]? = some u→∃ v,W.cell? ⟨a.block,a.off + i * Tryz.prog.cellsOf e + j,none⟩ = some v∧RepP W (Im (fun _=>none) []) v u:=by
     intro i x j u hx hu
     obtain ⟨cs',hc,_,hr⟩:=hat i x hx
     obtain ⟨_,hcl,hcc⟩:=World.cells?_some hc
     have hj:j < cs'.length:=by rw [← hr.1]; exact (List.getElem?_eq_some_iff.1 hu).1
     have h9:=hcc j (by omega)
     rw [List.getElem?_eq_getElem hj] at h9
     refine ⟨cs'[j],?_,hr.2 j _ u (List.getElem?_eq_getElem hj) hu⟩
     have ea:=ha i x hx
     rw [ea,add_plain',add_plain'] at h9
     exact h9
    have hg:RepP W (Im (fun _=>none) []) (.slice (some a) (ps.map Prod.snd).length cap) (.sl (Tryz.prog.cellsOf e) (ps.map Prod.snd)):=by
     refine .sl (some a) cap (Tryz.prog.cellsOf e) a.block a.off (ps.map Prod.snd) (fun i j=>(W.cell? ⟨a.block,a.off + i * Tryz.prog.cellsOf e + j,none⟩).getD (.bool false)) (by omega) hm (fun x hx => ?_) (fun hne => ?_) (fun i x j u hx hu i' ob hi=>by simp at hi) (fun i x j u hx hu => ?_) (fun i x j u hx hu => ?_)
     ·obtain ⟨i,hi⟩:=List.getElem?_of_mem hx
      obtain ⟨cs',hc,_,hr⟩:=hat i x hi
      obtain ⟨_,hcl,_⟩:=World.cells?_some hc
      rw [hr.1,hcl]
     ·obtain ⟨x,xs,he⟩:=List.exists_cons_of_ne_nil hne
      exact congrArg some (ha 0 x (by rw [he]; rfl))
     ·obtain ⟨v,hv,_⟩:=hcells i x j u hx hu
      rw [hv]; rfl
     ·obtain ⟨v,hv,hr⟩:=hcells i x j u hx hu
      rw [hv]; exact hr
    rw [hlen'] at hg
    exact hg
  ·rename_i fs ht
   rw [Bool.and_eq_true,List.all_eq_true,decide_eq_true_eq] at hok
   obtain ⟨xs,n',rfl,_,hcl,hxl,hx⟩:=DataW.trod_struct ht h
   obtain ⟨ys,h1,h2⟩:=read_fields (n:=n') (cs:=cs) (fun t cs' x=>ih n' t cs' x) fs.toList 0 (by rw [hcl]; exact hok.2) hok.1 (fun f hf=>by
    obtain ⟨i,hi⟩:=List.getElem?_of_mem hf
    have hi':fs[i]? = some f:=by simpa using hi
    have:=hx i f hi'
    have hlt:i < fs.size:=(Array.getElem?_eq_some_iff.1 hi').1
    rw [List.getElem?_eq_getElem (by omega)] at this
    exact ⟨_,this⟩)
   refine ⟨ys,.st t fs [] ys ht (by simpa using h1),?_⟩
   simpa using h2
  ·exact absurd hok Bool.false_ne_true
theorem repP_one {I:Nat→Nat→Prop} {v:Value} {u:PV} (h:RepP W I v u):isOne v = true:=by
 cases h <;> rfl
theorem arg_cell {m:Nat} {t:TypeId} {v:Value} {d:DataW H} {ps:List MemPlace} (hok:okT Tryz.prog m t = true) (hv:v.cells = #[v]) (h:DataW.Trod enc Tryz.prog W 0 (fun _=>true) true t v d ps) :
  ∃ u,ShL [t] [u]∧RepV W (fun _=>none) [] v (.p u):=by
 obtain ⟨n,hn⟩:=h
 obtain ⟨xs,h1,h2⟩:=read_ok m n t _ _ hok hn
 rw [hv] at h2
 match xs,h2.1 with
 | [u],_=>exact ⟨u,h1,.p _ _ (h2.2 0 v u rfl rfl)⟩
set_option maxRecDepth 100000 in
theorem arg_slice {b0:Nat} {m:Nat} {t e:TypeId} {v:Value} {d:DataW H} {ps:List MemPlace} (ht:Tryz.prog.underlying t = some (.slice e)) (hok:okT Tryz.prog m t = true) (hv:Value.okWide Tryz.prog W .any b0 t v) (h:DataW.Trod enc Tryz.prog W 0 (fun _=>true) true t v d ps) :
  ∃ u,ShL [t] [u]∧RepV W (fun _=>none) [] v (.p u):=by
 obtain ⟨a,l,c,rfl⟩:=okWide_slice ht hv
 exact arg_cell hok rfl h
set_option maxRecDepth 100000 in
theorem arg_str {b0:Nat} {t:TypeId} {v:Value} {d:DataW H} {ps:List MemPlace} (ht:Tryz.prog.underlying t = some .string) (hok:okT Tryz.prog 1 t = true) (hv:Value.okWide Tryz.prog W .any b0 t v) (h:DataW.Trod enc Tryz.prog W 0 (fun _=>true) true t v d ps) :
  ∃ u,ShL [t] [u]∧RepV W (fun _=>none) [] v (.p u):=by
 obtain ⟨a,rfl⟩:=okWide_string ht hv
 exact arg_cell hok rfl h
set_option maxRecDepth 100000 in
theorem arg_int {b0:Nat} {t:TypeId} {k:IntKind} {v:Value} {d:DataW H} {ps:List MemPlace} (ht:Tryz.prog.underlying t = some (.int k)) (hok:okT Tryz.prog 1 t = true) (hv:Value.okWide Tryz.prog W .any b0 t v) (h:DataW.Trod enc Tryz.prog W 0 (fun _=>true) true t v d ps) :
  ∃ u,ShL [t] [u]∧RepV W (fun _=>none) [] v (.p u):=by
 obtain ⟨a,rfl⟩:=okWide_int ht hv
 exact arg_cell hok rfl h
set_option maxRecDepth 100000 in
theorem arg_st {b0:Nat} {m:Nat} {t:TypeId} {fs:Array Field} {v:Value} {d:DataW H} {ps:List MemPlace} (ht:Tryz.prog.underlying t = some (.struct fs)) (hok:okT Tryz.prog m t = true) (hv:Value.okWide Tryz.prog W .any b0 t v) (h:DataW.Trod enc Tryz.prog W 0 (fun _=>true) true t v d ps) :
  ∃ xs,ShL [t] xs∧RepV W (fun _=>none) [] v (.agg (xs.map .p)):=by
 obtain ⟨n,hn⟩:=h
 obtain ⟨xs,h1,h2⟩:=read_ok m n t _ _ hok hn
 unfold Value.okWide at hv
 rw [ht] at hv
 obtain ⟨cs,rfl,_,_⟩:=hv
 refine ⟨xs,h1,.agg _ _ ?_ ?_ ?_⟩
 ·have:=h2.1
  simp [Value.cells] at this
  simp [this]
 ·intro i v hi
  have h9:i < xs.length:=by
   have:=h2.1
   simp [Value.cells] at this
   rw [this]
   exact (Array.getElem?_eq_some_iff.1 hi).1
  exact repP_one (h2.2 i v xs[i] (by simpa [Value.cells] using hi) (List.getElem?_eq_getElem h9))
 ·intro i v c hi hc
  rw [List.getElem?_map] at hc
  obtain ⟨u,hu,rfl⟩:=Option.map_eq_some_iff.1 hc
  exact .p _ _ (h2.2 i v u (by simpa [Value.cells] using hi) hu)
end
end Go.Proofs.YtekhddlngbppkaaGreatDoor.Vm
