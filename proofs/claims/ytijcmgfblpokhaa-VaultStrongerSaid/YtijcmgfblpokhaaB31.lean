/- A part of the proofs about the chapter of the vaults; it states no condition of its own. -/
import Derived.Test.YtijcmgfblpokhaaB30
set_option linter.unusedVariables false
set_option linter.unusedSimpArgs false
/- A machine on values: closed runs, of code that is taken apart once: drawn regions and code. -/
namespace Go.Proofs.Ytijcmgfblpokhaa.Vm
open Go

section
variable (T : Tab)
noncomputable def sameC (c : OpC) (τ : Tr) (v : VV) (M : Mem) : Bool := match c.run τ M with
  | some (u, _) => sameV u v
  | none => false
/-- an operation of a drawn region that is wanted, and what comes behind it -/
noncomputable def drawOp (ops : Array Oper) (o : Oper) (inf : Info) (rest : DrawC) : DrawC :=
  match isA o with
  | true => (match o.op with
    | .alloc t => (match T.ty t with
      | some y => ⟨fun call again nt τ na M past pd => match vputT nt o.dst (.ptr na 0) τ with
        | some τ' => bif sameAt na (y.zero.map ofValue) M && BackB (sameAt na (y.zero.map ofValue)) past.length past then rest.run call again nt τ' (na + 1) M past (pdPushB inf.fw (sameAt na (y.zero.map ofValue)) pd) else none
        | none => none⟩
      | none => ⟨fun _ _ _ _ _ _ _ _ => none⟩)
    | _ => ⟨fun _ _ _ _ _ _ _ _ => none⟩)
  | false => match inf.e with
    | true => ⟨fun call again nt τ na M past pd => match (compWop T (ropdC (tmpsOf ops o)) o.op).run call again τ M with
      | some (v, M') => bif pdOkB pd M' then (match vputT nt o.dst v τ with
        | some τ' => rest.run call again nt τ' na M' (M :: past) (pdTickB pd)
        | none => none) else none
      | none => none⟩
    | false => match rdr o.op with
      | true => ⟨fun call again nt τ na M past pd => match (compOp T (ropdC (tmpsOf ops o)) o.op).run τ M with
        | some (v, _) => (match vputT nt o.dst v τ with
          | some τ' => bif BackB (sameC (compOp T (ropdC (tmpsOf ops o)) o.op) τ v) inf.bk past then rest.run call again nt τ' na M past (pdPushB inf.fw (sameC (compOp T (ropdC (tmpsOf ops o)) o.op) τ v) pd) else none
          | none => none)
        | none => none⟩
      | false => ⟨fun call again nt τ na M past pd => match (compOp T (ropdC (tmpsOf ops o)) o.op).run τ M with
        | some (v, _) => (match vputT nt o.dst v τ with
          | some τ' => rest.run call again nt τ' na M past pd
          | none => none)
        | none => none⟩
noncomputable def drawSkip (o : Oper) (inf : Info) (rest : DrawC) : DrawC := match inf.e with
  | true => ⟨fun call again nt τ na M past pd => match vputT nt o.dst (.tup []) τ with
    | some τ' => bif pdOkB pd M then rest.run call again nt τ' na M (M :: past) (pdTickB pd) else none
    | none => none⟩
  | false => ⟨fun call again nt τ na M past pd => match vputT nt o.dst (.tup []) τ with
    | some τ' => rest.run call again nt τ' na M past pd
    | none => none⟩
noncomputable def compDraw (ops : Array Oper) : List Oper → List Info → DrawC
  | o :: r, inf :: s => (match o.guard with
    | none => drawOp T ops o inf (compDraw ops r s)
    | some _ => ⟨fun call again nt τ na M past pd => match wantedOf ops o (rget (tmpsOf ops o) τ) with
      | some true => (drawOp T ops o inf (compDraw ops r s)).run call again nt τ na M past pd
      | some false => (drawSkip o inf (compDraw ops r s)).run call again nt τ na M past pd
      | none => none⟩)
  | [], [] => ⟨fun _ _ _ τ _ M _ _ => some (τ, M)⟩
  | _, _ => ⟨fun _ _ _ _ _ _ _ _ => none⟩
theorem sameC_eq (ops : Array Oper) (o : Oper) (τ : Tr) (v : VV) : sameC (compOp T (ropdC (tmpsOf ops o)) o.op) τ v = sameOp T o (rev (tmpsOf ops o) τ) v := by
  funext M
  unfold sameC sameOp
  rw [compOp_eq, vopF_eq, show (fun x => (ropdC (tmpsOf ops o) x).run τ) = rev (tmpsOf ops o) τ from funext fun x => ropdC_eq _ x τ]
  cases vop T o.op (rev (tmpsOf ops o) τ) M <;> rfl
theorem compDraw_eq (ops : Array Oper) (call : CallT) (again : AgainT) (nt : Nat) : ∀ (l : List Oper) (infs : List Info) (τ : Tr) (na : Nat) (M : Mem) (past : List Mem) (pd : PdsB),
    (compDraw T ops l infs).run call again nt τ na M past pd = vdraw T call again nt ops l infs τ na M past pd
  | [], [], τ, na, M, past, pd => rfl
  | [], _ :: _, τ, na, M, past, pd => rfl
  | _ :: _, [], τ, na, M, past, pd => rfl
  | o :: r, inf :: s, τ, na, M, past, pd => by
    have ih := compDraw_eq ops call again nt r s
    have hρ : (fun x => (ropdC (tmpsOf ops o) x).run τ) = rev (tmpsOf ops o) τ := funext fun x => ropdC_eq _ x τ
    have hw := compWop_eq T (ropdC (tmpsOf ops o)) (fun x => ropdC_eq _ x τ) o call again
    have hop : ∀ M, (compOp T (ropdC (tmpsOf ops o)) o.op).run τ M = vopF T o.op (rev (tmpsOf ops o) τ) M := fun M => by rw [compOp_eq, vopF_eq, hρ]
    have hmain : (compDraw T ops (o :: r) (inf :: s)).run call again nt τ na M past pd = (match wantedOf ops o (rget (tmpsOf ops o) τ) with
        | some true => (drawOp T ops o inf (compDraw T ops r s)).run call again nt τ na M past pd
        | some false => (drawSkip o inf (compDraw T ops r s)).run call again nt τ na M past pd
        | none => none) := by
      obtain ⟨dst, op, type, pos, after, guard⟩ := o
      cases guard with
      | none => rfl
      | some p => rfl
    rw [hmain]
    simp only [vdraw, forceV_eq, forceM_eq]
    cases wantedOf ops o (rget (tmpsOf ops o) τ) with
    | none => rfl
    | some b =>
      cases b with
      | false =>
        simp only
        unfold drawSkip
        cases inf.e with
        | true =>
          simp only [cond_true]
          cases vputT nt o.dst (.tup []) τ with
          | none => rfl
          | some τ' => simp only [ih]
        | false =>
          simp only [cond_false]
          cases vputT nt o.dst (.tup []) τ with
          | none => rfl
          | some τ' => simp only [ih]
      | true =>
        simp only
        unfold drawOp
        cases isA o with
        | true =>
          simp only [cond_true]
          split
          · rename_i t hopp
            simp only [hopp]
            cases T.ty t with
            | none => rfl
            | some y =>
              simp only
              cases vputT nt o.dst (.ptr na 0) τ with
              | none => rfl
              | some τ' => simp only [ih]
          · rename_i hno
            split
            · rename_i t hopp; exact absurd hopp (hno t)
            · rfl
        | false =>
          simp only [cond_false]
          cases inf.e with
          | true =>
            simp only [cond_true, hw]
            cases vwop T call again o (rev (tmpsOf ops o) τ) M with
            | none => rfl
            | some p =>
              obtain ⟨v, M'⟩ := p
              simp only
              cases vputT nt o.dst v τ with
              | none => rfl
              | some τ' => simp only [ih]
          | false =>
            simp only [cond_false]
            cases hr : rdr o.op with
            | true =>
              simp only [hop, sameC_eq, cond_true]
              cases vopF T o.op (rev (tmpsOf ops o) τ) M with
              | none => rfl
              | some p =>
                obtain ⟨v, M'⟩ := p
                simp only
                cases vputT nt o.dst v τ with
                | none => rfl
                | some τ' => simp only [ih]
            | false =>
              simp only [hop, cond_false]
              cases vopF T o.op (rev (tmpsOf ops o) τ) M with
              | none => rfl
              | some p =>
                obtain ⟨v, M'⟩ := p
                simp only
                cases vputT nt o.dst v τ with
                | none => rfl
                | some τ' => simp only [ih]

variable (lf : Nat)
def resC (cx : Cx) (D : List Nat) : Option (Tr × Mem) → Option Res
  | some (τ, M) => some ⟨.normal, τ, M, D⟩
  | none => none
def seqC (call : CallT) (again : AgainT) (cx : Cx) (b : CodeC) : Option Res → Option Res
  | some ⟨.normal, τ, M, D⟩ => b.run call again cx τ M D
  | r => r
def blockC (id : Nat) : Option Res → Option Res
  | some ⟨.exit j, τ, M, D⟩ => bif Nat.beq j id then some ⟨.normal, τ, M, D⟩ else some ⟨.exit j, τ, M, D⟩
  | r => r
def condC (v : VV) (a b : CodeC) (call : CallT) (again : AgainT) (cx : Cx) (τ : Tr) (M : Mem) (D : List Nat) : Option Res := match v with
  | .p (.bool true) => a.run call again cx τ M D
  | .p (.bool false) => b.run call again cx τ M D
  | _ => none
noncomputable def compCode : Code → CodeC
  | .skip => ⟨fun _ _ _ τ M D => some ⟨.normal, τ, M, D⟩⟩
  | .label _ => ⟨fun _ _ _ τ M D => some ⟨.normal, τ, M, D⟩⟩
  | .exit id => ⟨fun _ _ _ τ M D => some ⟨.exit id, τ, M, D⟩⟩
  | .ret => ⟨fun _ _ _ τ M D => some ⟨.ret, τ, M, D⟩⟩
  | .seq a b => ⟨fun call again cx τ M D => seqC call again cx (compCode b) ((compCode a).run call again cx τ M D)⟩
  | .cond c a b => ⟨fun call again cx τ M D => condC ((opdC c).run τ) (compCode a) (compCode b) call again cx τ M D⟩
  | .block id a => ⟨fun call again cx τ M D => blockC id ((compCode a).run call again cx τ M D)⟩
  | .loop a => ⟨fun call again cx τ M D => vloop ((compCode a).run call again cx) lf τ M D⟩
  | .region _ ops draw => (match draw with
    | false => ⟨fun call again cx τ M D => resC cx D ((compOps T ops ops.toList).run call again cx.nt τ M)⟩
    | true => (match zerosOf T ops.toList with
      | some zs => (match planOk ops (mkPlan ops) with
        | true => ⟨fun call again cx τ M D => resC cx D ((compDraw T ops ops.toList (mkPlan ops)).run call again cx.nt τ M.H.length { M with H := M.H ++ zs } [] [])⟩
        | false => ⟨fun _ _ _ _ _ _ => none⟩)
      | none => ⟨fun _ _ _ _ _ _ => none⟩))
  | .rangeFunc g ps assign body => ⟨fun call again cx τ M D => vrange T call again cx g ps assign body τ M D⟩
  | _ => ⟨fun _ _ _ _ _ _ => none⟩
theorem compCode_eq (call : CallT) (again : AgainT) : ∀ (c : Code) (cx : Cx) (τ : Tr) (M : Mem) (D : List Nat), (compCode T lf c).run call again cx τ M D = vrun T lf call again c cx τ M D
  | .skip, cx, τ, M, D => rfl
  | .label _, cx, τ, M, D => rfl
  | .exit id, cx, τ, M, D => rfl
  | .ret, cx, τ, M, D => rfl
  | .seq a b, cx, τ, M, D => by
    simp only [compCode, vrun, compCode_eq call again a]
    cases vrun T lf call again a cx τ M D with
    | none => rfl
    | some x =>
      obtain ⟨ex, τ', M', D'⟩ := x
      cases ex with
      | normal => exact compCode_eq call again b cx τ' M' D'
      | ret => rfl
      | exit id => rfl
  | .cond c a b, cx, τ, M, D => by
    simp only [compCode, vrun, opdC_eq]
    unfold condC
    split
    · rename_i h
      rw [h]
      exact compCode_eq call again a cx τ M D
    · rename_i h
      rw [h]
      exact compCode_eq call again b cx τ M D
    · rename_i h1 h2
      split
      · rename_i h; exact absurd h h1
      · rename_i h; exact absurd h h2
      · rfl
  | .block id a, cx, τ, M, D => by
    simp only [compCode, vrun, compCode_eq call again a]
    cases vrun T lf call again a cx τ M D with
    | none => rfl
    | some x =>
      obtain ⟨ex, τ', M', D'⟩ := x
      cases ex <;> rfl
  | .loop a, cx, τ, M, D => by
    simp only [compCode, vrun]
    rw [show (compCode T lf a).run call again cx = vrun T lf call again a cx from funext fun τ => funext fun M => funext fun D => compCode_eq call again a cx τ M D]
  | .region id ops draw, cx, τ, M, D => by
    cases draw with
    | false =>
      simp only [compCode, vrun, compOps_eq]
      cases vops T call again cx.nt ops ops.toList τ M <;> rfl
    | true =>
      simp only [compCode, vrun]
      cases zerosOf T ops.toList with
      | none => rfl
      | some zs =>
        simp only
        cases planOk ops (mkPlan ops) with
        | false => rfl
        | true =>
          simp only [compDraw_eq, cond_true]
          cases vdraw T call again cx.nt ops ops.toList (mkPlan ops) τ M.H.length { M with H := M.H ++ zs } [] [] <;> rfl
  | .rangeFunc g ps assign body, cx, τ, M, D => rfl
  | .scope _, _, _, _, _ => rfl
  | .goto _, _, _, _, _ => rfl
  | .refuse _, _, _, _, _ => rfl

/-- a function, taken apart -/
structure FnC where
  nt : Nat
  res : List ResultVar
  code : CodeC
noncomputable def compFn (f : Nat) : Option FnC := match T.fn f with
  | some fn => (match fn.body with
    | some c => canon fn.ntmps fun nt => some ⟨nt, fn.results.toList, compCode T lf c⟩
    | none => none)
  | none => none
noncomputable def vretC (f n0 : Nat) (rs : List ResultVar) (e : Tr) (M : Mem) (D : List Nat) : Option (VV × Mem) :=
  match vkill n0 D M.H with
  | some H => match vresT T e { M with H := H } rs with
    | some vs => some (vfinish T f n0 (vtup vs) { M with H := H })
    | none => none
  | none => none
noncomputable def endC (f n0 : Nat) (rs : List ResultVar) : Option Res → Option (VV × Mem)
  | some ⟨.normal, e, M', D⟩ => vretC T f n0 rs e M' D
  | some ⟨.ret, e, M', D⟩ => vretC T f n0 rs e M' D
  | _ => none
noncomputable def callC (call : CallT) (again : AgainT) (f : Nat) (args : List VV) (M : Mem) : Option (VV × Mem) := match compFn T lf f with
  | some c => bif Nat.ble args.length c.nt && Nat.ble args.length 4000 then endC T f M.H.length c.res (c.code.run call again ⟨f, none, c.nt⟩ (ofList 0 args .leaf) M []) else none
  | none => none
theorem callC_eq (call : CallT) (again : AgainT) (f : Nat) (args : List VV) (M : Mem) : callC T lf call again f args M = vcallf T lf call again f args M := by
  unfold callC vcallf compFn
  cases T.fn f with
  | none => rfl
  | some fn =>
    simp only
    cases fn.body with
    | none => rfl
    | some c =>
      simp only [canon_eq, compCode_eq]
      cases Nat.ble args.length fn.ntmps && Nat.ble args.length 4000 with
      | false => rfl
      | true =>
        simp only [cond_true]
        cases vrun T lf call again c ⟨f, none, fn.ntmps⟩ (ofList 0 args .leaf) M [] with
        | none => rfl
        | some x =>
          obtain ⟨ex, τ', M', D'⟩ := x
          cases ex <;> rfl
end
noncomputable def evalsC (T : Tab) (lf : Nat) (prim : CallT) : Nat → Evals
  | 0 => ⟨fun _ _ _ => none, fun _ _ _ _ _ => none⟩
  | n + 1 =>
    let ih := evalsC T lf prim n
    ⟨fun f args M => match prim f args M with
      | some r => some r
      | none => callC T lf ih.call ih.again f args M, fun cx c e M D => (compCode T lf c).run ih.call ih.again cx e M D⟩
theorem evalsC_eq (T : Tab) (lf : Nat) (prim : CallT) : ∀ n, evalsC T lf prim n = evals T lf prim n
  | 0 => rfl
  | n + 1 => by
    simp only [evalsC, evals, evalsC_eq T lf prim n, callC_eq, compCode_eq]
    rfl
/-- **a closed run is a contract** -/
theorem closed_run {P : Program} {T : Tab} (hT : TabOk P T) {lf n : Nat} {prim : CallT} (hp : ∀ f args M r M', prim f args M = some (r, M') → VC P f args M (eqQ r M')) {f : Nat} {args : List VV} {M M' : Mem} {r : VV} (h : (evalsC T lf prim n).call f args M = some (r, M')) : VC P f args M (eqQ r M') := by
  rw [evalsC_eq] at h
  exact (evals_ok hT hp n).c f args M r M' h
end Go.Proofs.Ytijcmgfblpokhaa.Vm
