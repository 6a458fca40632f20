/- A part of the proofs about the chapter of the vaults; it states no condition of its own. -/
import Derived.Test.YtominlgikchnmaaGreatDoorB09
set_option linter.unusedVariables false
set_option linter.unusedSimpArgs false
/- A machine on values: what a program's types are. -/
namespace Go.Proofs.YtominlgikchnmaaGreatDoor.Vm
open Go

def fieldsOf (P : Program) : List Field → Option (List (Nat × Nat))
 | [] => some []
 | f :: r => match P.info? f.type, fieldsOf P r with
  | some i, some fs => bif Nat.beq i.size 0 then none else some ((f.offset, i.size) :: fs)
  | _, _ => none
def tdOf (P : Program) (t : Nat) : Td := match P.underlying t with
 | some (.int k) => .int k
 | some .bool => .bool
 | some .string => .str
 | some (.slice e) => match P.info? e with
  | some i => match i.zero with
   | some z => bif Nat.beq z.cells.size i.size && (Nat.blt 0 i.size && Nat.blt 0 i.bytes) then .slice e i.size i.bytes else .other
   | none => .other
  | none => .other
 | some (.array n e) => match P.info? e with
  | some i => .arr n e i.size
  | none => .other
 | some (.map k e) => .map k e
 | some (.struct fields) => match fieldsOf P fields.toList with
  | some fs => .struct fs
  | none => .other
 | some (.interface _) => .iface
 | _ => .other
def aggOf (P : Program) (t : Nat) : Option Bool := match P.underlying t with
 | some (.struct _) => some true
 | some (.array _ _) => some true
 | some _ => some false
 | none => none
def zsOf : Value → List Value
 | .agg vs => vs.toList
 | v => [v]
def isAggV : Value → Bool
 | .agg _ => true
 | _ => false
def tyOf (P : Program) (cmp : Nat → Bool) (t : Nat) : Option Ty := match P.info? t with
 | some i => match i.zero with
  | some z => match aggOf P t with
   | some a => bif (a == isAggV z) && (Nat.beq (zsOf z).length i.size && ((zsOf z).all isOne && (a || Nat.beq i.size 1))) then some ⟨tdOf P t, i.size, zsOf z, a, cmp t⟩ else none
   | none => none
  | none => none
 | none => none

theorem fieldsOf_ok {P : Program} : ∀ {l : List Field} {fs : List (Nat × Nat)}, fieldsOf P l = some fs → l.length = fs.length ∧ ∀ (j : Nat) (f : Field), l[j]? = some f → ∃ i, P.info? f.type = some i ∧ fs[j]? = some (f.offset, i.size) ∧ i.size ≠ 0
 | [], fs, h => by cases h; exact ⟨rfl, fun j f h => by simp at h⟩
 | x :: r, fs, h => by
  simp only [fieldsOf] at h
  split at h
  ·rename_i i fs' hi hf
   cases hb : Nat.beq i.size 0 with
   | true => rw [hb] at h; cases h
   | false =>
    rw [hb] at h
    cases h
    obtain ⟨h1, h2⟩ := fieldsOf_ok hf
    refine ⟨by simp [h1], fun j f hj => ?_⟩
    cases j with
    | zero =>
     cases hj
     exact ⟨i, hi, rfl, fun e => by rw [e] at hb; cases hb⟩
    | succ j => exact h2 j f (by simpa using hj)
  ·cases h
theorem tdOf_ok (P : Program) (t : Nat) : TdOk P t (tdOf P t) := by
 unfold tdOf
 split
 ·rename_i k h; exact h
 ·rename_i h; exact h
 ·rename_i h; exact h
 ·rename_i e h
  split
  ·rename_i i hi
   split
   ·rename_i z hz
    cases hb : Nat.beq z.cells.size i.size && (Nat.blt 0 i.size && Nat.blt 0 i.bytes) with
    | false => exact trivial
    | true =>
     simp only [Bool.and_eq_true, Nat.blt_eq] at hb
     exact ⟨h, i, z, hi, rfl, rfl, hz, Nat.eq_of_beq_eq_true hb.1, hb.2.1, hb.2.2⟩
   ·exact trivial
  ·exact trivial
 ·rename_i n e h
  split
  ·rename_i i hi; exact ⟨h, i, hi, rfl⟩
  ·exact trivial
 ·rename_i k e h; exact h
 ·rename_i fields h
  split
  ·rename_i fs hf
   obtain ⟨h1, h2⟩ := fieldsOf_ok hf
   exact ⟨fields, h, by simpa using h1, fun j f hj => h2 j f (by simpa using hj)⟩
  ·exact trivial
 ·rename_i ms h; exact ⟨ms, h⟩
 ·exact trivial
theorem tyOf_ok {P : Program} {cmp : Nat → Bool} (hc : ∀ t y, cmp t = true → tyOf P cmp t = some y → CmpOk P t y.size) {t : Nat} {y : Ty} (h : tyOf P cmp t = some y) : TyOk P t y := by
 have h0 := h
 unfold tyOf at h
 split at h
 ·rename_i i hi
  split at h
  ·rename_i z hz
   split at h
   ·rename_i a ha
    cases hb : (a == isAggV z) && (Nat.beq (zsOf z).length i.size && ((zsOf z).all isOne && (a || Nat.beq i.size 1))) with
    | false => rw [hb] at h; cases h
    | true =>
     rw [hb] at h
     simp only [cond_true] at h
     cases h
     simp only [Bool.and_eq_true] at hb
     obtain ⟨b1, b2, b3, b4⟩ := hb
     have b1' : a = isAggV z := by simpa using b1
     refine ⟨⟨i, hi, rfl, ?_⟩, Nat.eq_of_beq_eq_true b2, fun v hv => List.all_eq_true.1 b3 v hv, fun e => ?_, ?_, tdOf_ok P t, fun e => hc t _ e h0⟩
     ·rw [hz]
      unfold Ty.z
      subst b1'
      cases z <;> rfl
     ·simp only at e
      rw [e] at b4
      simpa using Nat.eq_of_beq_eq_true b4
     ·unfold aggOf at ha
      split at ha
      ·rename_i d hd; cases ha; exact ⟨_, hd, rfl⟩
      ·rename_i d e hd; cases ha; exact ⟨_, hd, rfl⟩
      ·rename_i d h1 h2 hd
       cases ha
       refine ⟨d, hd, ?_⟩
       cases d <;> first | rfl | exact (h1 _ rfl).elim | exact (h2 _ _ rfl).elim
      ·cases ha
   ·cases h
  ·cases h
 ·cases h

def fnOf (P : Program) (f : Nat) : Option Func := match P.funcs[f]? with
 | some fn => bif !(fn.name == "runtime.NumGoroutine") && !(fn.body.isNone) then some fn else none
 | none => none
theorem fnOf_ok {P : Program} {f : Nat} {fn : Func} (h : fnOf P f = some fn) : P.funcs[f]? = some fn ∧ (fn.name == "runtime.NumGoroutine") = false ∧ fn.body.isNone = false := by
 unfold fnOf at h
 split at h
 ·rename_i g hg
  cases hb : !(g.name == "runtime.NumGoroutine") && !(g.body.isNone) with
  | false => rw [hb] at h; cases h
  | true =>
   rw [hb] at h
   cases h
   simp only [Bool.and_eq_true, Bool.not_eq_true'] at hb
   exact ⟨hg, hb⟩
 ·cases h
def tabOf (P : Program) (cmp : Nat → Bool) (vars : Nat → List Nat) (keeps : Nat → Bool) : Tab := { ty := tyOf P cmp, fn := fnOf P, vars := vars, keeps := keeps }
theorem tabOf_ok {P : Program} {cmp : Nat → Bool} {vars : Nat → List Nat} {keeps : Nat → Bool} (hc : ∀ t y, cmp t = true → tyOf P cmp t = some y → CmpOk P t y.size) (hm : P.follows .mixedOrders = true) : TabOk P (tabOf P cmp vars keeps) :=
 ⟨fun _ _ h => tyOf_ok hc h, fun _ _ h => fnOf_ok h, hm⟩

/-! ### what a function's own variables are, and plans of its regions -/
def opVars : List Oper → List Nat → List Nat → List Nat
 | [], _, acc => acc
 | o :: r, defs, acc => opVars r (match o.dst with
   | some d => d :: defs
   | none => defs) (((o.op.operands.toList.filterMap tmpOf).filter fun t => !(defs.any (Nat.beq t))) ++ acc)
def codeVars : Code → List Nat → List Nat
 | .region _ ops draw, acc => opVars ops.toList [] acc
 | .seq a b, acc => codeVars a (codeVars b acc)
 | .cond c a b, acc => (tmpOf c).toList ++ codeVars a (codeVars b acc)
 | .block _ a, acc => codeVars a acc
 | .loop a, acc => codeVars a acc
 | .rangeFunc g _ a b, acc => (tmpOf g).toList ++ codeVars a (codeVars b acc)
 | _, acc => acc
def dedup : List Nat → List Nat
 | [] => []
 | x :: r => bif r.any (Nat.beq x) then dedup r else x :: dedup r
def resVars : List ResultVar → List Nat
 | [] => []
 | .tmp t :: r => t :: resVars r
 | .cell a _ :: r => a :: resVars r
def varsOf (P : Program) (f : Nat) : List Nat := match P.funcs[f]? with
 | some fn => match fn.body with
  | some c => dedup (resVars fn.results.toList ++ codeVars c [])
  | none => []
 | none => []
end Go.Proofs.YtominlgikchnmaaGreatDoor.Vm

/- A machine on values: closed runs are true. -/
namespace Go.Proofs.YtominlgikchnmaaGreatDoor.Vm
open Go

def eqQ (r : VV) (M : Mem) : VV → Mem → Prop := fun r' M' => r' = r ∧ M' = M
def Rp (τ : Tr) (e : Env) : Prop := ∀ t, tget τ t = get e t
def resQ (x : Res) : PQ := fun ex e M D => ex = x.ex.to ∧ Rp x.e e ∧ M = x.M ∧ D = x.D
theorem Rp.ev {τ : Tr} {e : Env} (h : Rp τ e) : tev τ = Vm.ev e := by
 funext x
 cases x with
 | tmp t => exact h t
 | _ => rfl
theorem Rp.rget {τ : Tr} {e : Env} (h : Rp τ e) (ts : List Nat) : Vm.rget ts τ = get (prune ts e) := by
 funext t
 unfold Vm.rget prune
 induction ts with
 | nil => rfl
 | cons a ts ih =>
  simp only [List.any_cons, List.map_cons, get_cons]
  by_cases ht : t = a
  ·subst ht
   simp [h t]
  ·rw [if_neg ht, ← ih, beq_false ht]
   rfl
theorem Rp.rev {τ : Tr} {e : Env} (h : Rp τ e) (ts : List Nat) : Vm.rev ts τ = Vm.ev (prune ts e) := by
 funext x
 cases x with
 | tmp t => exact congrFun (h.rget ts) t
 | _ => rfl
theorem wantedOf_eq (all : Array Oper) (o : Oper) (e : Env) : wantedOf all o (get e) = vwanted all o e := rfl
theorem Rp.put {τ τ' : Tr} {e : Env} {nt : Nat} {dst : Option Nat} {v : VV} (h : Rp τ e) (hp : vputT nt dst v τ = some τ') : ∃ e', vput nt dst v e = some e' ∧ Rp τ' e' := by
 unfold vputT at hp
 unfold vput
 cases dst with
 | none => cases hp; exact ⟨e, rfl, h⟩
 | some d =>
  simp only at hp ⊢
  cases hb : Nat.blt d nt && Nat.blt d 4000 with
  | false => rw [hb] at hp; cases hp
  | true =>
   rw [hb] at hp
   cases hp
   simp only [Bool.and_eq_true, Nat.blt_eq] at hb
   rw [show Nat.blt d nt = true by rw [Nat.blt_eq]; exact hb.1]
   refine ⟨(d, v) :: e, rfl, fun t => ?_⟩
   rw [tget_tset _ _ _ _ _ (by omega), get_cons, h t]
theorem ofEnv_ok : ∀ {e : Env}, (∀ p ∈ e, p.1 < 4000) → Rp (ofEnv e) e
 | [], _ => fun t => rfl
 | (k, v) :: r, h => fun t => by
  have := h (k, v) (by simp)
  simp only at this
  rw [ofEnv, tget_tset _ _ _ _ _ (by omega), get_cons, ofEnv_ok (fun p hp => h p (by simp [hp])) t]
theorem vputsT_ok {nt : Nat} : ∀ {ps : List Nat} {vs : List VV} {τ τ' : Tr} {e : Env}, Rp τ e → vputsT nt ps vs τ = some τ' → ∃ e', vputs nt ps vs e = some e' ∧ Rp τ' e'
 | [], [], τ, τ', e, h, hp => by cases hp; exact ⟨e, rfl, h⟩
 | p :: ps, v :: vs, τ, τ', e, h, hp => by
  simp only [vputsT] at hp
  cases hb : Nat.blt p nt && Nat.blt p 4000 with
  | false => rw [hb] at hp; cases hp
  | true =>
   rw [hb] at hp
   simp only [Bool.and_eq_true, Nat.blt_eq] at hb
   simp only [vputs, show Nat.blt p nt = true by rw [Nat.blt_eq]; exact hb.1, cond_true]
   refine vputsT_ok (fun t => ?_) hp
   rw [tget_tset _ _ _ _ _ (by omega), get_cons, h t]
 | [], _ :: _, _, _, _, _, hp => by simp [vputsT] at hp
 | _ :: _, [], _, _, _, _, hp => by simp [vputsT] at hp
theorem ofList_ok : ∀ {vs : List VV} {i : Nat} {τ : Tr}, i + vs.length ≤ 4000 → ∀ t, tget (ofList i vs τ) t = if i ≤ t ∧ t < i + vs.length then (vs[t - i]?).getD .any else tget τ t
 | [], i, τ, h, t => by
  rw [if_neg (by simp)]
  rfl
 | v :: vs, i, τ, h, t => by
  simp only [List.length_cons] at h ⊢
  rw [ofList, ofList_ok (by omega), tget_tset _ _ _ _ _ (by omega)]
  by_cases h1 : t = i
  ·subst h1
   rw [if_neg (by omega), if_pos rfl, if_pos (by omega)]
   simp
  ·by_cases h2 : i + 1 ≤ t ∧ t < i + 1 + vs.length
   ·rw [if_pos h2, if_pos (by omega), show t - i = (t - (i + 1)) + 1 by omega, List.getElem?_cons_succ]
   ·rw [if_neg h2, if_neg h1, if_neg (by omega)]
theorem zip_ok {vs : List VV} (h : vs.length ≤ 4000) : Rp (ofList 0 vs .leaf) (zipEnv 0 vs) := fun t => by
 rw [ofList_ok (by omega), zipEnv_get, if_pos (Nat.zero_le _)]
 by_cases ht : t < vs.length
 ·rw [if_pos (by omega)]
 ·rw [if_neg (by omega), List.getElem?_eq_none (by simpa using ht)]
  rfl
structure Sound (P : Program) (call : CallT) (again : AgainT) : Prop where
 c : ∀ f args M r M', call f args M = some (r, M') → VC P f args M (eqQ r M')
 a : ∀ cx c τ e M D x, Rp τ e → again cx c τ M D = some x → WCode P cx c e M D (resQ x)
section
variable {P : Program} {T : Tab} {lf : Nat} {call : CallT} {again : AgainT}

theorem vround_ok (hs : Sound P call again) {id : Nat} {L : LoopV} {args : List VV} {M M' : Mem} {r : VV} (hL : M.H[id]? = some (.lp L)) (h : vround again id L args M = some (r, M')) : VCall P (.yl id) args M (eqQ r M') := by
 unfold vround at h
 split at h
 ·cases h
 ·rename_i τ0 he
  cases hb : L.tm.all (fun p => Nat.blt p.1 4000) with
  | false => rw [hb] at he; cases he
  | true =>
  rw [hb] at he
  obtain ⟨e0, he0, hr0⟩ := vputsT_ok (ofEnv_ok fun p hp => by simpa [Nat.blt_eq] using List.all_eq_true.1 hb p hp) he
  refine V_yield hL he0 ?_
  simp only [canon_eq] at h
  split at h
  ·rename_i e1 M1 D1 h1
   refine (hs.a _ _ _ _ _ _ _ hr0 h1).mono ?_
   rintro ex e M2 D ⟨rfl, hr1, rfl, rfl⟩
   split at h
   ·rename_i L1 hL1
    split at h
    ·rename_i hst
     refine ⟨L1, hL1, hst, ?_⟩
     simp only [Ex.to]
     split at h
     ·rename_i ex e2 M2 D2 h2
      refine (hs.a _ _ _ _ _ _ _ hr1 h2).mono ?_
      rintro ex' e' M' D' ⟨rfl, _, rfl, rfl⟩
      split at h
      ·rename_i L2 hL2
       refine ⟨L2, hL2, ?_⟩
       cases ex <;> (cases h; exact ⟨rfl, rfl⟩)
      ·cases h
     ·cases h
    ·cases h
   ·cases h
  ·cases h
theorem vcallv_ok (hT : TabOk P T) (hs : Sound P call again) {fv : VV} {args : List VV} {M M' : Mem} {r : VV} (h : vcallv T call again fv args M = some (r, M')) : VCall P fv args M (eqQ r M') := by
 unfold vcallv at h
 split at h
 ·split at h
  ·rename_i fn hf
   rw [forceVL_eq] at h
   exact VCall_fn hT hf (hs.c _ _ _ _ _ h)
  ·cases h
 ·split at h
  ·rename_i L hL
   exact vround_ok hs hL h
  ·cases h
 ·cases h
theorem vwop_ok (hT : TabOk P T) (hs : Sound P call again) {o : Oper} {e : Env} {ρ : Operand → VV} {M M' : Mem} {v : VV} (hr : Vm.ev e = ρ) (h : vwop T call again o ρ M = some (v, M')) : WOp P T o e M (eqQ v M') := by
 subst hr
 unfold vwop at h
 unfold WOp
 split at h
 ·rename_i hop
  simp only [hop]
  exact vcallv_ok hT hs h
 ·rename_i hno
  split
  ·rename_i f args types hop
   exact absurd hop (hno _ _ _)
  ·rw [vopF_eq] at h
   rw [h]; exact ⟨rfl, rfl⟩
theorem WOp.mono {o : Oper} {e : Env} {M : Mem} {Q Q' : VV → Mem → Prop} (h : WOp P T o e M Q) (hq : ∀ v M', Q v M' → Q' v M') : WOp P T o e M Q' := by
 unfold WOp at *
 split at h
 ·rename_i hop; exact VCall.mono h hq
 ·rename_i hno
  split at h
  ·rename_i v M' hv
   exact hq _ _ h
  ·cases h
theorem vops_ok (hT : TabOk P T) (hs : Sound P call again) {nt : Nat} {all : Array Oper} : ∀ {l : List Oper} {τ τ' : Tr} {e : Env} {M M' : Mem}, Rp τ e → vops T call again nt all l τ M = some (τ', M') → WOps P T nt all l e M (fun e1 M1 => Rp τ' e1 ∧ M1 = M')
 | [], τ, τ', e, M, M', hr, h => by cases h; exact ⟨hr, rfl⟩
 | o :: r, τ, τ', e, M, M', hr, h => by
  simp only [vops, forceV_eq, forceM_eq] at h
  simp only [WOps]
  rw [show tget τ = get e from funext hr, wantedOf_eq] at h
  split at h
  ·cases h
  ·rename_i hw
   rw [hw]
   simp only
   refine ⟨fun _ => ?_, fun h => (by cases h)⟩
   split at h
   ·rename_i v M1 hv
    refine (vwop_ok hT hs hr.ev.symm hv).mono ?_
    rintro v' M2 ⟨rfl, rfl⟩
    split at h
    ·rename_i τ1 he
     obtain ⟨e1, he1, hr1⟩ := hr.put he
     rw [he1]
     exact vops_ok hT hs hr1 h
    ·cases h
   ·cases h
  ·rename_i hw
   rw [hw]
   simp only
   refine ⟨fun h => (by cases h), fun _ => ?_⟩
   split at h
   ·rename_i τ1 he
    obtain ⟨e1, he1, hr1⟩ := hr.put he
    rw [he1]
    exact vops_ok hT hs hr1 h
   ·cases h

theorem sameAt_ok {id : Nat} {cs : List VV} {M : Mem} (h : sameAt id cs M = true) : M.H[id]? = some (.obj cs) := by
 unfold sameAt at h
 split at h
 ·rename_i ds hd; rw [hd, sameVL_eq _ _ h]
 ·cases h
theorem vop_same {o : Oper} {ρ : Operand → VV} {M M' : Mem} {v : VV} (h : vop T o.op ρ M = some (v, M')) (he : isE o = false) (ha : isA o = false) (hos : ∀ t, T.ownS t = false) : M' = M := by
 obtain ⟨dst, op, type, pos, after, guard⟩ := o
 simp only at h
 have key : ∀ {x : Option VV}, x.map (·, M) = some (v, M') → M' = M := fun {x} hx => by
  cases x with
  | none => cases hx
  | some u => simp at hx; exact hx.2.symm
 cases op <;> first | (simp [isE] at he; done) | (simp [isA] at ha; done) | (simp only [vop] at h; cases h; done) | exact key h | skip
 all_goals simp only [vop] at h
 all_goals first
  | (cases h; rfl)
  | (rw [hos, cond_false] at h; exact key h)
  | (generalize (List.all _ _ && List.all _ _) = b at h; cases b <;> simp_all; done)
  | (split at h <;> first | (cases h; done) | (exact key h) | (cases h; rfl) | (cases h; simp_all; done) | (simp_all; done) | (simp [isE] at he; done) | (rename_i hq; cases hq; simp [isE] at he; done))
theorem BackB_ok {c : Mem → Bool} {c' : Mem → Prop} (hc : ∀ M, c M = true → c' M) : ∀ {n : Nat} {past : List Mem}, BackB c n past = true → Back c' n past
 | 0, _, _ => trivial
 | _ + 1, [], _ => trivial
 | n + 1, M :: r, h => by
  simp only [BackB, Bool.and_eq_true] at h
  exact ⟨hc M h.1, BackB_ok hc h.2⟩
inductive PdRel : PdsB → Pds → Prop
 | nil : PdRel [] []
 | cons {n : Nat} {c : Mem → Bool} {c' : Mem → Prop} {pd : PdsB} {pd' : Pds} : (∀ M, c M = true → c' M) → PdRel pd pd' → PdRel ((n, c) :: pd) ((n, c') :: pd')
theorem PdRel.ok {pd : PdsB} {pd' : Pds} (h : PdRel pd pd') {M : Mem} (hb : pdOkB pd M = true) : pdOk pd' M := by
 induction h with
 | nil => trivial
 | cons hc h ih =>
  simp only [pdOkB, Bool.and_eq_true] at hb
  exact ⟨hc M hb.1, ih hb.2⟩
theorem PdRel.tick {pd : PdsB} {pd' : Pds} (h : PdRel pd pd') : PdRel (pdTickB pd) (pdTick pd') := by
 induction h with
 | nil => exact .nil
 | @cons n c c' pd pd' hc h ih =>
  match n with
  | 0 => exact ih
  | 1 => exact ih
  | n + 2 => exact .cons hc ih
theorem PdRel.push {pd : PdsB} {pd' : Pds} (h : PdRel pd pd') (n : Nat) {c : Mem → Bool} {c' : Mem → Prop} (hc : ∀ M, c M = true → c' M) : PdRel (pdPushB n c pd) (pdPush n c' pd') := by
 cases n with
 | zero => exact h
 | succ n => exact .cons hc h

theorem vdraw_ok (hT : TabOk P T) (hs : Sound P call again) (hos : ∀ t, T.ownS t = false) {nt : Nat} {ops : Array Oper} : ∀ {l : List Oper} {infs : List Info} {τ τ' : Tr} {e : Env} {na : Nat} {M M' : Mem} {past : List Mem} {pd : PdsB} {pd' : Pds}, Rp τ e → (∀ (i : Nat) (o : Oper) (inf : Info), l[i]? = some o → infs[i]? = some inf → inf.e = isE o) → PdRel pd pd' →
  vdraw T call again nt ops l infs τ na M past pd = some (τ', M') → WDraw P T nt ops l infs e na M past pd' (fun e1 M1 => Rp τ' e1 ∧ M1 = M')
 | [], [], τ, τ', e, na, M, M', past, pd, pd', hr, _, _, h => by
  simp only [vdraw] at h
  cases h
  simp only [WDraw]
  first | exact hr | exact ⟨hr, rfl⟩ | exact ⟨hr, trivial⟩
 | o :: r, inf :: s, τ, τ', e, na, M, M', past, pd, pd', hrp, hi, hpd, h => by
  have hie := hi 0 o inf rfl rfl
  have hi' : ∀ (i : Nat) (o : Oper) (inf : Info), r[i]? = some o → s[i]? = some inf → inf.e = isE o := fun i o inf h1 h2 => hi (i + 1) o inf (by simpa using h1) (by simpa using h2)
  simp only [vdraw, forceV_eq, forceM_eq] at h
  rw [hrp.rget, hrp.rev, wantedOf_eq] at h
  simp only [WDraw]
  split at h
  ·cases h
  ·rename_i hw
   rw [hw]
   simp only
   split at h
   ·rename_i τ1 he
    obtain ⟨e1, he1, hr1⟩ := hrp.put he
    rw [he1]
    simp only
    cases hie' : inf.e with
    | true =>
     rw [hie'] at h
     simp only [cond_true] at h
     rw [if_pos rfl]
     cases hb : pdOkB pd M with
     | false => rw [hb] at h; cases h
     | true =>
      rw [hb] at h
      exact ⟨hpd.ok hb, vdraw_ok hT hs hos hr1 hi' hpd.tick h⟩
    | false =>
     rw [hie'] at h
     rw [if_neg (by simp)]
     exact vdraw_ok hT hs hos hr1 hi' hpd h
   ·cases h
  ·rename_i hw
   rw [hw]
   simp only
   cases hA : isA o with
   | true =>
    rw [hA] at h
    simp only [cond_true] at h
    rw [if_pos rfl]
    split at h
    ·rename_i t hop
     simp only [hop]
     split at h
     ·rename_i y hy
      simp only [hy]
      split at h
      ·rename_i τ1 he
       obtain ⟨e1, he1, hr1⟩ := hrp.put he
       simp only [he1]
       cases hb : sameAt na (y.zero.map ofValue) M && BackB (sameAt na (y.zero.map ofValue)) past.length past with
       | false => rw [hb] at h; cases h
       | true =>
        rw [hb] at h
        simp only [Bool.and_eq_true] at hb
        exact ⟨sameAt_ok hb.1, BackB_ok (fun M h => sameAt_ok h) hb.2, vdraw_ok hT hs hos hr1 hi' (hpd.push _ fun M h => sameAt_ok h) h⟩
      ·cases h
     ·cases h
    ·cases h
   | false =>
    rw [hA] at h
    simp only [cond_false] at h
    rw [if_neg (by simp)]
    cases hie' : inf.e with
    | true =>
     rw [hie'] at h
     simp only [cond_true] at h
     rw [if_pos rfl]
     split at h
     ·rename_i v M1 hv
      cases hb : pdOkB pd M1 with
      | false => rw [hb] at h; cases h
      | true =>
       rw [hb] at h
       simp only [cond_true] at h
       split at h
       ·rename_i τ1 he
        obtain ⟨e1, he1, hr1⟩ := hrp.put he
        exact ⟨v, M1, vwop_ok hT hs rfl hv, hpd.ok hb, by rw [he1]; exact vdraw_ok hT hs hos hr1 hi' hpd.tick h⟩
       ·cases h
     ·cases h
    | false =>
     rw [hie'] at h
     simp only [cond_false] at h
     rw [if_neg (by simp)]
     have hE : isE o = false := by rw [← hie, hie']
     split at h
     ·rename_i v M1 hv
      rw [vopF_eq] at hv
      rw [hv]
      simp only
      refine ⟨vop_same hv hE hA hos, ?_⟩
      split at h
      ·rename_i τ1 he
       obtain ⟨e1, he1, hr1⟩ := hrp.put he
       rw [he1]
       simp only
       have hop : ∀ M, sameOp T o (Vm.ev (prune (tmpsOf ops o) e)) v M = true → vop T o.op (ev (prune (tmpsOf ops o) e)) M = some (v, M) := fun M hM => by
        unfold sameOp at hM
        split at hM
        ·rename_i u M2 hu
         rw [vopF_eq] at hu
         rw [hu, sameV_eq _ _ hM, vop_same hu hE hA hos]
        ·cases hM
       cases hrd : rdr o.op with
       | true =>
        rw [hrd] at h
        simp only [cond_true] at h
        rw [if_pos rfl]
        cases hb : BackB (sameOp T o (Vm.ev (prune (tmpsOf ops o) e)) v) inf.bk past with
        | false => rw [hb] at h; cases h
        | true =>
         rw [hb] at h
         exact ⟨BackB_ok hop hb, vdraw_ok hT hs hos hr1 hi' (hpd.push _ hop) h⟩
       | false =>
        rw [hrd] at h
        rw [if_neg (by simp)]
        exact vdraw_ok hT hs hos hr1 hi' hpd h
      ·cases h
     ·cases h
 | [], _ :: _, _, _, _, _, _, _, _, _, _, _, _, _, h => by simp [vdraw] at h
 | _ :: _, [], _, _, _, _, _, _, _, _, _, _, _, _, h => by simp [vdraw] at h

theorem WOps.mono {nt : Nat} {all : Array Oper} {Kn Kn' : Env → Mem → Prop} (hk : ∀ e M, Kn e M → Kn' e M) : ∀ {l : List Oper} {e : Env} {M : Mem}, WOps P T nt all l e M Kn → WOps P T nt all l e M Kn'
 | [], _, _, h => hk _ _ h
 | o :: r, e, M, h => by
  simp only [WOps] at h ⊢
  split at h
  ·cases h
  ·refine ⟨fun hb => WOp.mono (h.1 hb) fun v M' hq => ?_, fun hb => ?_⟩
   ·split at hq
    ·exact WOps.mono hk hq
    ·cases hq
   ·have := h.2 hb
    split at this
    ·exact WOps.mono hk this
    ·cases this
theorem WDraw.mono {nt : Nat} {ops : Array Oper} {Kn Kn' : Env → Mem → Prop} (hk : ∀ e M, Kn e M → Kn' e M) : ∀ {l : List Oper} {infs : List Info} {e : Env} {na : Nat} {M : Mem} {past : List Mem} {pd : Pds}, WDraw P T nt ops l infs e na M past pd Kn → WDraw P T nt ops l infs e na M past pd Kn'
 | [], [], _, _, _, _, _, h => by
  simp only [WDraw] at h ⊢
  exact hk _ _ h
 | o :: r, inf :: s, e, na, M, past, pd, h => by
  simp only [WDraw] at h ⊢
  split at h
  ·cases h
  ·split at h
   ·split at h
    ·rename_i he
     rw [if_pos he]
     exact ⟨h.1, WDraw.mono hk h.2⟩
    ·rename_i he
     rw [if_neg he]
     exact WDraw.mono hk h
   ·cases h
  ·split at h
   ·rename_i hA
    rw [if_pos hA]
    split at h
    ·split at h
     ·split at h
      ·exact ⟨h.1, h.2.1, WDraw.mono hk h.2.2⟩
      ·cases h
     ·cases h
    ·cases h
   ·rename_i hA
    rw [if_neg hA]
    split at h
    ·rename_i he
     rw [if_pos he]
     obtain ⟨v, M', h1, h2, h3⟩ := h
     refine ⟨v, M', h1, h2, ?_⟩
     split at h3
     ·exact WDraw.mono hk h3
     ·cases h3
    ·rename_i he
     rw [if_neg he]
     split at h
     ·refine ⟨h.1, ?_⟩
      have h := h.2
      split at h
      ·split at h
       ·rename_i hr
        rw [if_pos hr]
        exact ⟨h.1, WDraw.mono hk h.2⟩
       ·rename_i hr
        rw [if_neg hr]
        exact WDraw.mono hk h
      ·cases h
     ·cases h
 | [], _ :: _, _, _, _, _, _, h => by simp [WDraw] at h
 | _ :: _, [], _, _, _, _, _, h => by simp [WDraw] at h

theorem plans_e {ops : Array Oper} {pm E : List Nat} : ∀ {l : List Oper} {infs : List Info} {i k : Nat}, plansOk ops pm E i k l infs = true → ∀ (j : Nat) (o : Oper) (inf : Info), l[j]? = some o → infs[j]? = some inf → inf.e = isE o
 | [], _, _, _, _, j, o, inf, h, _ => by simp at h
 | x :: l, [], _, _, h, j, o, inf, _, _ => by simp [plansOk] at h
 | x :: l, y :: infs, i, k, h, j, o, inf, h1, h2 => by
  simp only [plansOk, Bool.and_eq_true] at h
  cases j with
  | zero =>
   cases h1
   cases h2
   have := h.1
   simp only [opPlan, Bool.and_eq_true] at this
   simpa using this.1.1.1.1.2
  | succ j => exact plans_e h.2 j o inf (by simpa using h1) (by simpa using h2)

theorem resQ_seq {Q : PQ} {x : Res} (h : ∀ e, Rp x.e e → Q x.ex.to e x.M x.D) : ∀ ex e M D, resQ x ex e M D → Q ex e M D := by
 rintro ex e M D ⟨rfl, hr, rfl, rfl⟩
 exact h e hr
theorem vafter_ok (hs : Sound P call again) {cx : Cx} {τ : Tr} {e : Env} (hr : Rp τ e) {id : Nat} {D : List Nat} {x : Res} {f : Nat} {args : List VV} {M : Mem} (h : vafter again cx τ id D (call f args M) = some x) : VC P f args M (rangeQ P cx e id D (resQ x)) := by
 cases hc : call f args M with
 | none => rw [hc] at h; cases h
 | some p =>
  obtain ⟨r, M'⟩ := p
  rw [hc] at h
  refine (hs.c _ _ _ _ _ hc).mono ?_
  rintro r' M2 ⟨rfl, rfl⟩
  simp only [vafter] at h
  split at h
  ·rename_i L hL
   split at h
   ·cases h
   ·rename_i hst
    refine ⟨L, hL, ?_, ?_⟩
    ·cases hq : L.st <;> first | rfl | exact absurd hq hst
    ·split at h
     ·rename_i hp
      rw [hp]
      simp only
      cases h
      rw [hp]
      exact ⟨rfl, hr, rfl, rfl⟩
     ·rename_i c hp
      rw [hp] at h ⊢
      exact hs.a _ _ _ _ _ _ _ hr h
  ·cases h
theorem mkLoopT_eq {cx : Cx} {τ : Tr} {e : Env} (hr : Rp τ e) (ps : Array Tmp) (assign body : Code) (dfr : Nat) : mkLoopT T cx τ ps assign body dfr = mkLoop T cx e ps assign body dfr := by
 unfold mkLoopT mkLoop prune
 rw [show tget τ = get e from funext hr]
theorem vrange_ok (hT : TabOk P T) (hs : Sound P call again) {cx : Cx} {g : Operand} {ps : Array Tmp} {assign body : Code} {τ : Tr} {e : Env} (hr : Rp τ e) {M : Mem} {D : List Nat} {x : Res} (h : vrange T call again cx g ps assign body τ M D = some x) : WCode P cx (.rangeFunc g ps assign body) e M D (resQ x) := by
 unfold vrange at h
 simp only [mkLoopT_eq hr] at h
 rw [hr.ev] at h
 split at h
 ·rename_i f first caps hg
  split at h
  ·rename_i fn hf
   split at h
   ·rename_i hrd
    exact W_range hT hrd hg hf (vafter_ok hs hr h)
   ·rename_i l0 hrd
    split at h
    ·rename_i L0 hL0
     exact W_range_in hT hrd hL0 hg hf (vafter_ok hs hr h)
    ·cases h
  ·cases h
 ·cases h
theorem vloop_ok {cx : Cx} {c : Code} {body : Tr → Mem → List Nat → Option Res} (hb : ∀ τ e M D x, Rp τ e → body τ M D = some x → WCode P cx c e M D (resQ x)) {n : Nat} {τ : Tr} {e : Env} (hr : Rp τ e) {M : Mem} {D : List Nat} {x : Res} (h : vloop body n τ M D = some x) : WCode P cx (.loop c) e M D (resQ x) := by
 refine W_loop (fun n e M D => ∃ τ, Rp τ e ∧ vloop body n τ M D = some x) ⟨τ, hr, h⟩ fun n e M D hn => ?_
 obtain ⟨τ, hr, hn⟩ := hn
 cases n with
 | zero => cases hn
 | succ n =>
  simp only [vloop] at hn
  split at hn
  ·rename_i e1 M1 D1 h1
   refine (hb _ _ _ _ _ hr h1).mono ?_
   rintro ex e' M' D' ⟨rfl, hr1, rfl, rfl⟩
   exact ⟨n, by omega, e1, hr1, hn⟩
  ·rename_i hno
   refine (hb _ _ _ _ _ hr hn).mono ?_
   rintro ex e' M' D' ⟨rfl, hr1, rfl, rfl⟩
   obtain ⟨ex, e1, M1, D1⟩ := x
   cases ex with
   | normal => exact absurd hn (hno _ _ _)
   | ret => exact ⟨rfl, hr1, rfl, rfl⟩
   | exit id => exact ⟨rfl, hr1, rfl, rfl⟩
theorem vrun_ok (hT : TabOk P T) (hs : Sound P call again) (hos : ∀ t, T.ownS t = false) : ∀ (c : Code) (cx : Cx) (τ : Tr) (e : Env) (M : Mem) (D : List Nat) (x : Res), Rp τ e → vrun T lf call again c cx τ M D = some x → WCode P cx c e M D (resQ x)
 | .skip, cx, τ, e, M, D, x, hr, h => by cases h; exact W_skip ⟨rfl, hr, rfl, rfl⟩
 | .label _, cx, τ, e, M, D, x, hr, h => by cases h; exact W_label ⟨rfl, hr, rfl, rfl⟩
 | .exit id, cx, τ, e, M, D, x, hr, h => by cases h; exact W_exit ⟨rfl, hr, rfl, rfl⟩
 | .ret, cx, τ, e, M, D, x, hr, h => by cases h; exact W_ret ⟨rfl, hr, rfl, rfl⟩
 | .seq a b, cx, τ, e, M, D, x, hr, h => by
  simp only [vrun] at h
  refine W_seq ?_
  split at h
  ·rename_i e1 M1 D1 h1
   refine (vrun_ok hT hs hos a cx τ e M D _ hr h1).mono (resQ_seq fun e' hr' => ?_)
   exact vrun_ok hT hs hos b cx e1 e' M1 D1 x hr' h
  ·rename_i hno
   refine (vrun_ok hT hs hos a cx τ e M D _ hr h).mono (resQ_seq fun e' hr' => ?_)
   obtain ⟨ex, e1, M1, D1⟩ := x
   cases ex with
   | normal => exact absurd h (hno _ _ _)
   | ret => exact ⟨rfl, hr', rfl, rfl⟩
   | exit id => exact ⟨rfl, hr', rfl, rfl⟩
 | .cond c a b, cx, τ, e, M, D, x, hr, h => by
  simp only [vrun] at h
  rw [hr.ev] at h
  split at h
  ·rename_i hc
   exact W_cond hc (fun _ => vrun_ok hT hs hos a cx τ e M D x hr h) (fun h => by cases h)
  ·rename_i hc
   exact W_cond hc (fun h => by cases h) (fun _ => vrun_ok hT hs hos b cx τ e M D x hr h)
  ·cases h
 | .block id c, cx, τ, e, M, D, x, hr, h => by
  simp only [vrun] at h
  refine W_block ?_
  split at h
  ·rename_i j e1 M1 D1 h1
   refine (vrun_ok hT hs hos c cx τ e M D _ hr h1).mono (resQ_seq fun e' hr' => ?_)
   show blockQ id (resQ x) (.exit j) e' M1 D1
   simp only [blockQ]
   cases hb : Nat.beq j id with
   | true =>
    rw [hb] at h
    cases h
    rw [if_pos (Nat.eq_of_beq_eq_true hb)]
    exact ⟨rfl, hr', rfl, rfl⟩
   | false =>
    rw [hb] at h
    cases h
    rw [if_neg fun e => by subst e; simp at hb]
    exact ⟨rfl, hr', rfl, rfl⟩
  ·rename_i hno
   refine (vrun_ok hT hs hos c cx τ e M D _ hr h).mono (resQ_seq fun e' hr' => ?_)
   obtain ⟨ex, e1, M1, D1⟩ := x
   cases ex with
   | exit id => exact absurd h (hno _ _ _ _)
   | ret => exact ⟨rfl, hr', rfl, rfl⟩
   | normal => exact ⟨rfl, hr', rfl, rfl⟩
 | .loop c, cx, τ, e, M, D, x, hr, h => by
  simp only [vrun] at h
  exact vloop_ok (fun τ e M D x hr hx => vrun_ok hT hs hos c cx τ e M D x hr hx) hr h
 | .region id ops draw, cx, τ, e, M, D, x, hr, h => by
  simp only [vrun] at h
  split at h
  ·split at h
   ·rename_i e1 M1 h1
    cases h
    refine W_region0 hT ?_
    refine WOps.mono ?_ (vops_ok hT hs hr h1)
    rintro e2 M2 ⟨hr2, rfl⟩
    exact ⟨rfl, hr2, rfl, rfl⟩
   ·cases h
  ·split at h
   ·rename_i zs hz
    cases hp : planOk ops (mkPlan ops) with
    | false => rw [hp] at h; cases h
    | true =>
    rw [hp] at h
    simp only [cond_true] at h
    split at h
    ·rename_i e1 M1 h1
     cases h
     refine W_draw0 hT hp hz ?_
     simp only [planOk, Bool.and_eq_true] at hp
     refine WDraw.mono ?_ (vdraw_ok hT hs hos hr (plans_e hp.1.1) .nil h1)
     rintro e2 M2 ⟨hr2, rfl⟩
     exact ⟨rfl, hr2, rfl, rfl⟩
    ·cases h
   ·cases h
 | .rangeFunc g ps assign body, cx, τ, e, M, D, x, hr, h => by
  simp only [vrun] at h
  exact vrange_ok hT hs hr h
 | .scope _, _, _, _, _, _, _, _, h => by simp [vrun] at h
 | .goto _, _, _, _, _, _, _, _, h => by simp [vrun] at h
 | .refuse _, _, _, _, _, _, _, _, h => by simp [vrun] at h

theorem vresT_eq {τ : Tr} {e : Env} (hr : Rp τ e) (M : Mem) : ∀ l : List ResultVar, vresT T τ M l = vresL T e M l
 | [] => rfl
 | .tmp t :: r => by
  rw [vresT, vresL, vresT_eq hr M r, hr t]
  cases vresL T e M r <;> rfl
 | .cell a t :: r => by
  rw [vresT, vresL, vresT_eq hr M r, hr a]
  cases vload T t (get e a) M <;> cases vresL T e M r <;> rfl
theorem vcallf_ok (hT : TabOk P T) (hs : Sound P call again) (hos : ∀ t, T.ownS t = false) {f : Nat} {args : List VV} {M M' : Mem} {r : VV} (h : vcallf T lf call again f args M = some (r, M')) : VC P f args M (eqQ r M') := by
 unfold vcallf at h
 split at h
 ·rename_i fn hf
  split at h
  ·rename_i c hb
   cases hn : Nat.ble args.length fn.ntmps && Nat.ble args.length 4000 with
   | false => rw [hn] at h; cases h
   | true =>
    rw [hn] at h
    simp only [Bool.and_eq_true, Nat.ble_eq] at hn
    simp only [cond_true, canon_eq] at h
    have fin : ∀ {τ : Tr} {e : Env} {M1 : Mem} {D : List Nat}, Rp τ e → vret T f M.H.length fn τ M1 D = some (r, M') → retQ T f M.H.length fn (eqQ r M') .ret e M1 D := by
     intro τ e M1 D hr h
     unfold vret at h
     simp only [retQ]
     split at h
     ·rename_i H hk
      rw [hk]
      simp only
      rw [vresT_eq hr] at h
      split at h
      ·rename_i vs hv
       rw [hv]
       simp only
       injection h with h
       rw [h]
       exact ⟨rfl, rfl⟩
      ·cases h
     ·cases h
    refine VC_fn hT hf hb hn.1 fun _ => ?_
    split at h
    ·rename_i e M1 D hr
     refine (vrun_ok hT hs hos c _ _ _ _ _ _ (zip_ok hn.2) hr).mono ?_
     rintro ex e' M2 D' ⟨rfl, hr', rfl, rfl⟩
     exact fin hr' h
    ·rename_i e M1 D hr
     refine (vrun_ok hT hs hos c _ _ _ _ _ _ (zip_ok hn.2) hr).mono ?_
     rintro ex e' M2 D' ⟨rfl, hr', rfl, rfl⟩
     exact fin hr' h
    ·cases h
  ·cases h
 ·cases h
theorem evals_ok (hT : TabOk P T) (hos : ∀ t, T.ownS t = false) {prim : CallT} (hp : ∀ f args M r M', prim f args M = some (r, M') → VC P f args M (eqQ r M')) : ∀ n, Sound P (evals T lf prim n).call (evals T lf prim n).again
 | 0 => ⟨fun _ _ _ _ _ h => (by cases h), fun _ _ _ _ _ _ _ _ h => (by cases h)⟩
 | n + 1 => by
  have ih := evals_ok hT hos hp n
  refine ⟨fun f args M r M' h => ?_, fun cx c τ e M D x hr h => ?_⟩
  ·simp only [evals] at h
   split at h
   ·rename_i p hq
    cases h
    exact hp _ _ _ _ _ hq
   ·exact vcallf_ok hT ih hos h
  ·simp only [evals] at h
   exact vrun_ok hT ih hos c cx τ e M D x hr h
end
end Go.Proofs.YtominlgikchnmaaGreatDoor.Vm

/- A machine on values: closed runs, of code that is taken apart once. -/
namespace Go.Proofs.YtominlgikchnmaaGreatDoor.Vm
open Go

structure OpdC where
 run : Tr → VV
structure OpC where
 run : Tr → Mem → Option (VV × Mem)
structure StepC where
 run : CallT → AgainT → Nat → Tr → Mem → Option (Tr × Mem)
structure DrawC where
 run : CallT → AgainT → Nat → Tr → Nat → Mem → List Mem → PdsB → Option (Tr × Mem)
structure CodeC where
 run : CallT → AgainT → Cx → Tr → Mem → List Nat → Option Res
structure BinC where
 run : Int → Int → Option VV

noncomputable def opdC (x : Operand) : OpdC := match x with
 | .tmp t => ⟨fun τ => tget τ t⟩
 | .const v => ⟨fun _ => ofValue v⟩
 | .global _ => ⟨fun _ => .any⟩
 | .func f => ⟨fun _ => .fn (.func f) [] []⟩
theorem opdC_eq (x : Operand) (τ : Tr) : (opdC x).run τ = tev τ x := by cases x <;> rfl
noncomputable def ropdC (ts : List Nat) (x : Operand) : OpdC := match x with
 | .tmp t => cond (ts.any (Nat.beq t)) ⟨fun τ => tget τ t⟩ ⟨fun _ => .any⟩
 | .const v => ⟨fun _ => ofValue v⟩
 | .global _ => ⟨fun _ => .any⟩
 | .func f => ⟨fun _ => .fn (.func f) [] []⟩
theorem ropdC_eq (ts : List Nat) (x : Operand) (τ : Tr) : (ropdC ts x).run τ = rev ts τ x := by
 cases x with
 | tmp t =>
  simp only [ropdC, rev, rget]
  cases ts.any (Nat.beq t) <;> rfl
 | _ => rfl
def fbC (op : BinOp) : BinC := match op with
 | .add => ⟨fun a b => some (.p (.int .i64 (wrap64 (Int.add a b))))⟩
 | .sub => ⟨fun a b => some (.p (.int .i64 (wrap64 (Int.sub a b))))⟩
 | .mul => ⟨fun a b => some (.p (.int .i64 (wrap64 (Int.mul a b))))⟩
 | .eql => ⟨fun a b => some (.p (.bool (eqI a b)))⟩
 | .neq => ⟨fun a b => some (.p (.bool (not (eqI a b))))⟩
 | .lss => ⟨fun a b => some (.p (.bool (not (leI b a))))⟩
 | .leq => ⟨fun a b => some (.p (.bool (leI a b)))⟩
 | .gtr => ⟨fun a b => some (.p (.bool (not (leI a b))))⟩
 | .geq => ⟨fun a b => some (.p (.bool (leI b a)))⟩
 | _ => ⟨fun _ _ => none⟩
theorem fbC_eq (op : BinOp) (a b : Int) : (fbC op).run a b = fbin op a b := by cases op <;> rfl

noncomputable def nthH (H : List VObj) : Nat → Option VObj := List.rec (motive := fun _ => Nat → Option VObj) (fun _ => none) (fun o _ ih i => cond (Nat.beq i 0) (some o) (ih (Nat.sub i 1))) H
theorem nthH_eq : ∀ (H : List VObj) (i : Nat), nthH H i = H[i]?
 | [], i => by simp [nthH]
 | o :: H, i => by
  have ih := nthH_eq H
  show cond (Nat.beq i 0) (some o) (nthH H (Nat.sub i 1)) = _
  cases i with
  | zero => rfl
  | succ i => rw [ih]; rfl
noncomputable def nthV (H : List VV) : Nat → Option VV := List.rec (motive := fun _ => Nat → Option VV) (fun _ => none) (fun o _ ih i => cond (Nat.beq i 0) (some o) (ih (Nat.sub i 1))) H
theorem nthV_eq : ∀ (H : List VV) (i : Nat), nthV H i = H[i]?
 | [], i => by simp [nthV]
 | o :: H, i => by
  have ih := nthV_eq H
  show cond (Nat.beq i 0) (some o) (nthV H (Nat.sub i 1)) = _
  cases i with
  | zero => rfl
  | succ i => rw [ih]; rfl

section
variable (T : Tab) (acc : Operand → OpdC)
def slowOp (op : Go.Op) (τ : Tr) (M : Mem) : Option (VV × Mem) := vop T op (fun x => (acc x).run τ) M
def mvC (a : OpdC) : OpC := ⟨fun τ M => some (a.run τ, M)⟩
def noC : OpC := ⟨fun _ _ => none⟩
def binSlow (op : Go.Op) (τ : Tr) (M : Mem) : Option VV → Option (VV × Mem)
 | some v => some (v, M)
 | none => slowOp T acc op τ M
def bin2 (op : Go.Op) (bc : BinC) (a : Int) (y : VV) (τ : Tr) (M : Mem) : Option (VV × Mem) := match y with
 | .p (.int .i64 b) => binSlow T acc op τ M (bc.run a b)
 | _ => slowOp T acc op τ M
def bin1 (op : Go.Op) (bc : BinC) (x : VV) (cy : OpdC) (τ : Tr) (M : Mem) : Option (VV × Mem) := match x with
 | .p (.int .i64 a) => bin2 T acc op bc a (cy.run τ) τ M
 | _ => slowOp T acc op τ M
def field1 (o : Nat) (v : VV) (M : Mem) : Option (VV × Mem) := match v with
 | .ptr id off => some (.ptr id (Nat.add off o), M)
 | .ip cs => some (.ip (cs.drop o), M)
 | .iv cs => some (.iv (cs.drop o), M)
 | _ => none
def nil1 (v : VV) (M : Mem) : Option (VV × Mem) := match v with
 | .ptr id off => some (.ptr id off, M)
 | .ip cs => some (.ip cs, M)
 | .iv cs => some (.iv cs, M)
 | _ => none
noncomputable def loadCells (y : Ty) (cs : List VV) (off : Nat) : Option VV :=
 bif y.agg then (bif Nat.ble (Nat.add off y.size) cs.length then some (.agg (((cs.drop off).take y.size).map strip1)) else none) else nthV cs off
noncomputable def loadObj (y : Ty) (off : Nat) : Option VObj → Option VV
 | some (.obj cs) => loadCells y cs off
 | _ => none
noncomputable def loadV (y : Ty) (a : VV) (M : Mem) : Option VV := match a with
 | .ptr id off => loadObj y off (nthH M.H id)
 | .ip cs => bif y.agg then (bif Nat.ble y.size cs.length then some (.agg ((cs.take y.size).map .p)) else none) else (cs[0]?).map .p
 | .iv cs => bif y.agg then (bif Nat.ble y.size cs.length then some (.agg ((cs.take y.size).map strip1)) else none) else cs[0]?
 | _ => none
def withM (M : Mem) : Option VV → Option (VV × Mem)
 | some v => some (v, M)
 | none => none
noncomputable def compOp (op : Go.Op) : OpC := match op with
 | .move x => mvC (acc x)
 | .assign x => mvC (acc x)
 | .binOp bop t x y yt => ⟨fun τ M => bin1 T acc (.binOp bop t x y yt) (fbC bop) ((acc x).run τ) (acc y) τ M⟩
 | .nilCheck x => ⟨fun τ M => nil1 ((acc x).run τ) M⟩
 | .load t a => (match T.ty t with
  | some y => ⟨fun τ M => withM M (loadV y ((acc a).run τ) M)⟩
  | none => noC)
 | .fieldAddr t x f => (match T.ty t with
  | some y => (match y.d with
   | .struct fs => (match fs[f]? with
    | some (o, _) => ⟨fun τ M => field1 o ((acc x).run τ) M⟩
    | none => noC)
   | _ => noC)
  | none => noC)
 | op => ⟨fun τ M => slowOp T acc op τ M⟩
theorem withM_eq (M : Mem) (v : Option VV) : withM M v = v.map (·, M) := by cases v <;> rfl
theorem loadV_eq {t : Nat} {y : Ty} (h : T.ty t = some y) (a : VV) (M : Mem) : loadV y a M = vload T t a M := by
 unfold loadV vload
 rw [h]
 cases a with
 | ptr id off =>
  simp only [nthH_eq]
  unfold loadObj
  split
  ·rename_i cs hcs
   simp only [hcs]
   unfold loadCells
   rw [nthV_eq]
   rfl
  ·rename_i hno
   split
   ·rename_i cs hcs; exact absurd hcs (hno cs)
   ·rfl
 | _ => rfl
theorem compOp_eq (op : Go.Op) (τ : Tr) (M : Mem) : (compOp T acc op).run τ M = vop T op (fun x => (acc x).run τ) M := by
 unfold compOp
 split
 ·rfl
 ·rfl
 ·rename_i bop t x y yt
  show bin1 T acc _ _ _ _ _ _ = _
  unfold bin1
  split
  ·rename_i a ha
   unfold bin2
   split
   ·rename_i b hb
    rw [fbC_eq]
    unfold binSlow
    split
    ·rename_i v hv
     simp only [vop, ha, hb, vbinK_int, fbin_ok T bop t a b _ hv, Option.map_some]
    ·rfl
   ·rfl
  ·rfl
 ·rename_i x
  show nil1 _ _ = _
  unfold nil1
  simp only [vop]
  cases (acc x).run τ <;> rfl
 ·rename_i t a
  split
  ·rename_i y hy
   simp only [vop]
   rw [withM_eq, loadV_eq T hy]
  ·rename_i hy
   simp only [vop, vload, hy]
   rfl
 ·rename_i t x f
  simp only [vop, vfieldAddr]
  split
  ·rename_i y hy
   obtain ⟨d, sz, zs, ag, cm⟩ := y
   rw [hy]
   cases d with
   | struct fs =>
    simp only
    split
    ·rename_i o sz' hf
     simp only [hf]
     unfold field1
     cases (acc x).run τ <;> rfl
    ·rename_i hf
     simp only [hf]
     rfl
   | _ => rfl
  ·rename_i hy
   rw [hy]
   rfl
 ·rfl
end

section
variable (T : Tab)
def runAll : List OpdC → Tr → List VV
 | [], _ => []
 | a :: r, τ => a.run τ :: runAll r τ
theorem runAll_eq {acc : Operand → OpdC} {ρ : Operand → VV} (τ : Tr) (h : ∀ x, (acc x).run τ = ρ x) : ∀ l : List Operand, runAll (l.map acc) τ = l.map ρ
 | [] => rfl
 | x :: l => by simp [runAll, h, runAll_eq τ h l]
structure WopC where
 run : CallT → AgainT → Tr → Mem → Option (VV × Mem)
noncomputable def compWop (acc : Operand → OpdC) (op : Go.Op) : WopC := match op with
 | .call { callee := .value f, args, .. } => ⟨fun call again τ M => vcallv T call again ((acc f).run τ) (runAll (args.toList.map acc) τ) M⟩
 | op => ⟨fun _ _ τ M => (compOp T acc op).run τ M⟩
theorem compWop_eq (acc : Operand → OpdC) {ρ : Operand → VV} {τ : Tr} (h : ∀ x, (acc x).run τ = ρ x) (o : Oper) (call : CallT) (again : AgainT) (M : Mem) : (compWop T acc o.op).run call again τ M = vwop T call again o ρ M := by
 have hρ : (fun x => (acc x).run τ) = ρ := funext h
 unfold compWop vwop
 split
 ·rename_i f args types hop
  simp only [hop, h, runAll_eq τ h]
 ·rename_i hno
  show (compOp T acc o.op).run τ M = _
  rw [compOp_eq, hρ]
  split
  ·rename_i f args types hop
   exact absurd hop (hno _ _ _)
  ·rw [vopF_eq]
def putK (dst : Option Nat) (nt : Nat) (τ : Tr) : Option (VV × Mem) → Option (Tr × Mem)
 | some (v, M) => (match dst with
  | none => some (τ, M)
  | some d => bif Nat.blt d nt && Nat.blt d 4000 then some (tset 12 τ d v, M) else none)
 | none => none
noncomputable def compStep (all : Array Oper) (o : Oper) : StepC := match o.guard with
 | none => ⟨fun call again nt τ M => putK o.dst nt τ ((compWop T opdC o.op).run call again τ M)⟩
 | some _ => ⟨fun call again nt τ M => match wantedOf all o (tget τ) with
  | some true => putK o.dst nt τ ((compWop T opdC o.op).run call again τ M)
  | some false => putK o.dst nt τ (some (.tup [], M))
  | none => none⟩
noncomputable def compOps (all : Array Oper) : List Oper → StepC
 | [] => ⟨fun _ _ _ τ M => some (τ, M)⟩
 | o :: r => ⟨fun call again nt τ M => match (compStep T all o).run call again nt τ M with
  | some (τ', M') => (compOps all r).run call again nt τ' M'
  | none => none⟩
theorem putK_eq (dst : Option Nat) (nt : Nat) (τ : Tr) (v : VV) (M : Mem) {α : Type} (k : Tr → Mem → Option α) : (match putK dst nt τ (some (v, M)) with
  | some (τ', M') => k τ' M'
  | none => none) = (match vputT nt dst v τ with
  | some τ' => k τ' M
  | none => none) := by
 unfold putK vputT
 cases dst with
 | none => rfl
 | some d => simp only; cases Nat.blt d nt && Nat.blt d 4000 <;> rfl
theorem compOps_eq (all : Array Oper) (call : CallT) (again : AgainT) (nt : Nat) : ∀ (l : List Oper) (τ : Tr) (M : Mem), (compOps T all l).run call again nt τ M = vops T call again nt all l τ M
 | [], τ, M => rfl
 | o :: r, τ, M => by
  have hw := compWop_eq T opdC (ρ := tev τ) (fun x => opdC_eq x τ) o call again M
  have hmain : (compStep T all o).run call again nt τ M = (match wantedOf all o (tget τ) with
    | some true => putK o.dst nt τ ((compWop T opdC o.op).run call again τ M)
    | some false => putK o.dst nt τ (some (.tup [], M))
    | none => none) := by
   obtain ⟨dst, op, type, pos, after, guard⟩ := o
   cases guard with
   | none => rfl
   | some p => rfl
  simp only [compOps, vops, forceV_eq, forceM_eq]
  rw [hmain]
  cases hg : wantedOf all o (tget τ) with
  | none => rfl
  | some b =>
   cases b with
   | true =>
    simp only
    rw [hw]
    cases hv : vwop T call again o (tev τ) M with
    | none => rfl
    | some p =>
     obtain ⟨v, M'⟩ := p
     simp only
     rw [putK_eq]
     cases vputT nt o.dst v τ with
     | none => rfl
     | some τ' => exact compOps_eq all call again nt r τ' M'
   | false =>
    simp only
    rw [putK_eq]
    cases vputT nt o.dst (.tup []) τ with
    | none => rfl
    | some τ' => exact compOps_eq all call again nt r τ' M
end
end Go.Proofs.YtominlgikchnmaaGreatDoor.Vm
