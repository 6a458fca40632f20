/- A part of the proofs about the chapter of the vaults; it states no condition of its own. -/
import Derived.Test.YtominlgikchnmaaGreatDoorB10
import Derived.WalkKit
import Derived.WalkSpells
import Derived.WalkLawsBesides
import Derived.Lib.Hide
import Derived.Maps.AppendAt
import Derived.Test.YtominlgikchnmaaGreatDoorRows
import Derived.OpenShut
import Derived.Deep.QuietTactic
set_option linter.unusedVariables false
set_option linter.unusedSimpArgs false
/- A machine on values: closed runs, of code that is taken apart once: drawn regions and code. -/
namespace Go.Proofs.YtominlgikchnmaaGreatDoor.Vm
open Go

section
variable (T : Tab)
noncomputable def sameC (c : OpC) (τ : Tr) (v : VV) (M : Mem) : Bool := match c.run τ M with
 | some (u, _) => sameV u v
 | none => false
noncomputable def drawOp (ops : Array Oper) (o : Oper) (inf : Info) (rest : DrawC) : DrawC :=
 match isA o with
 | true => (match o.op with
  | .alloc t => (match T.ty t with
   | some y => ⟨fun call again nt τ na M past pd => match vputT nt o.dst (.ptr na 0) τ with
    | some τ' => bif sameAt na (y.zero.map ofValue) M && BackB (sameAt na (y.zero.map ofValue)) past.length past then rest.run call again nt τ' (na + 1) M past (pdPushB inf.fw (sameAt na (y.zero.map ofValue)) pd) else none
    | none => none⟩
   | none => ⟨fun _ _ _ _ _ _ _ _ => none⟩)
  | _ => ⟨fun _ _ _ _ _ _ _ _ => none⟩)
 | false => match inf.e with
  | true => ⟨fun call again nt τ na M past pd => match (compWop T (ropdC (tmpsOf ops o)) o.op).run call again τ M with
   | some (v, M') => bif pdOkB pd M' then (match vputT nt o.dst v τ with
    | some τ' => rest.run call again nt τ' na M' (M :: past) (pdTickB pd)
    | none => none) else none
   | none => none⟩
  | false => match rdr o.op with
   | true => ⟨fun call again nt τ na M past pd => match (compOp T (ropdC (tmpsOf ops o)) o.op).run τ M with
    | some (v, _) => (match vputT nt o.dst v τ with
     | some τ' => bif BackB (sameC (compOp T (ropdC (tmpsOf ops o)) o.op) τ v) inf.bk past then rest.run call again nt τ' na M past (pdPushB inf.fw (sameC (compOp T (ropdC (tmpsOf ops o)) o.op) τ v) pd) else none
     | none => none)
    | none => none⟩
   | false => ⟨fun call again nt τ na M past pd => match (compOp T (ropdC (tmpsOf ops o)) o.op).run τ M with
    | some (v, _) => (match vputT nt o.dst v τ with
     | some τ' => rest.run call again nt τ' na M past pd
     | none => none)
    | none => none⟩
noncomputable def drawSkip (o : Oper) (inf : Info) (rest : DrawC) : DrawC := match inf.e with
 | true => ⟨fun call again nt τ na M past pd => match vputT nt o.dst (.tup []) τ with
  | some τ' => bif pdOkB pd M then rest.run call again nt τ' na M (M :: past) (pdTickB pd) else none
  | none => none⟩
 | false => ⟨fun call again nt τ na M past pd => match vputT nt o.dst (.tup []) τ with
  | some τ' => rest.run call again nt τ' na M past pd
  | none => none⟩
noncomputable def compDraw (ops : Array Oper) : List Oper → List Info → DrawC
 | o :: r, inf :: s => (match o.guard with
  | none => drawOp T ops o inf (compDraw ops r s)
  | some _ => ⟨fun call again nt τ na M past pd => match wantedOf ops o (rget (tmpsOf ops o) τ) with
   | some true => (drawOp T ops o inf (compDraw ops r s)).run call again nt τ na M past pd
   | some false => (drawSkip o inf (compDraw ops r s)).run call again nt τ na M past pd
   | none => none⟩)
 | [], [] => ⟨fun _ _ _ τ _ M _ _ => some (τ, M)⟩
 | _, _ => ⟨fun _ _ _ _ _ _ _ _ => none⟩
theorem sameC_eq (ops : Array Oper) (o : Oper) (τ : Tr) (v : VV) : sameC (compOp T (ropdC (tmpsOf ops o)) o.op) τ v = sameOp T o (rev (tmpsOf ops o) τ) v := by
 funext M
 unfold sameC sameOp
 rw [compOp_eq, vopF_eq, show (fun x => (ropdC (tmpsOf ops o) x).run τ) = rev (tmpsOf ops o) τ from funext fun x => ropdC_eq _ x τ]
 cases vop T o.op (rev (tmpsOf ops o) τ) M <;> rfl
theorem compDraw_eq (ops : Array Oper) (call : CallT) (again : AgainT) (nt : Nat) : ∀ (l : List Oper) (infs : List Info) (τ : Tr) (na : Nat) (M : Mem) (past : List Mem) (pd : PdsB),
  (compDraw T ops l infs).run call again nt τ na M past pd = vdraw T call again nt ops l infs τ na M past pd
 | [], [], τ, na, M, past, pd => rfl
 | [], _ :: _, τ, na, M, past, pd => rfl
 | _ :: _, [], τ, na, M, past, pd => rfl
 | o :: r, inf :: s, τ, na, M, past, pd => by
  have ih := compDraw_eq ops call again nt r s
  have hρ : (fun x => (ropdC (tmpsOf ops o) x).run τ) = rev (tmpsOf ops o) τ := funext fun x => ropdC_eq _ x τ
  have hw := compWop_eq T (ropdC (tmpsOf ops o)) (fun x => ropdC_eq _ x τ) o call again
  have hop : ∀ M, (compOp T (ropdC (tmpsOf ops o)) o.op).run τ M = vopF T o.op (rev (tmpsOf ops o) τ) M := fun M => by rw [compOp_eq, vopF_eq, hρ]
  have hmain : (compDraw T ops (o :: r) (inf :: s)).run call again nt τ na M past pd = (match wantedOf ops o (rget (tmpsOf ops o) τ) with
    | some true => (drawOp T ops o inf (compDraw T ops r s)).run call again nt τ na M past pd
    | some false => (drawSkip o inf (compDraw T ops r s)).run call again nt τ na M past pd
    | none => none) := by
   obtain ⟨dst, op, type, pos, after, guard⟩ := o
   cases guard with
   | none => rfl
   | some p => rfl
  rw [hmain]
  simp only [vdraw, forceV_eq, forceM_eq]
  cases wantedOf ops o (rget (tmpsOf ops o) τ) with
  | none => rfl
  | some b =>
   cases b with
   | false =>
    simp only
    unfold drawSkip
    cases inf.e with
    | true =>
     simp only [cond_true]
     cases vputT nt o.dst (.tup []) τ with
     | none => rfl
     | some τ' => simp only [ih]
    | false =>
     simp only [cond_false]
     cases vputT nt o.dst (.tup []) τ with
     | none => rfl
     | some τ' => simp only [ih]
   | true =>
    simp only
    unfold drawOp
    cases isA o with
    | true =>
     simp only [cond_true]
     split
     ·rename_i t hopp
      simp only [hopp]
      cases T.ty t with
      | none => rfl
      | some y =>
       simp only
       cases vputT nt o.dst (.ptr na 0) τ with
       | none => rfl
       | some τ' => simp only [ih]
     ·rename_i hno
      split
      ·rename_i t hopp; exact absurd hopp (hno t)
      ·rfl
    | false =>
     simp only [cond_false]
     cases inf.e with
     | true =>
      simp only [cond_true, hw]
      cases vwop T call again o (rev (tmpsOf ops o) τ) M with
      | none => rfl
      | some p =>
       obtain ⟨v, M'⟩ := p
       simp only
       cases vputT nt o.dst v τ with
       | none => rfl
       | some τ' => simp only [ih]
     | false =>
      simp only [cond_false]
      cases hr : rdr o.op with
      | true =>
       simp only [hop, sameC_eq, cond_true]
       cases vopF T o.op (rev (tmpsOf ops o) τ) M with
       | none => rfl
       | some p =>
        obtain ⟨v, M'⟩ := p
        simp only
        cases vputT nt o.dst v τ with
        | none => rfl
        | some τ' => simp only [ih]
      | false =>
       simp only [hop, cond_false]
       cases vopF T o.op (rev (tmpsOf ops o) τ) M with
       | none => rfl
       | some p =>
        obtain ⟨v, M'⟩ := p
        simp only
        cases vputT nt o.dst v τ with
        | none => rfl
        | some τ' => simp only [ih]

variable (lf : Nat)
def resC (cx : Cx) (D : List Nat) : Option (Tr × Mem) → Option Res
 | some (τ, M) => some ⟨.normal, τ, M, D⟩
 | none => none
def seqC (call : CallT) (again : AgainT) (cx : Cx) (b : CodeC) : Option Res → Option Res
 | some ⟨.normal, τ, M, D⟩ => b.run call again cx τ M D
 | r => r
def blockC (id : Nat) : Option Res → Option Res
 | some ⟨.exit j, τ, M, D⟩ => bif Nat.beq j id then some ⟨.normal, τ, M, D⟩ else some ⟨.exit j, τ, M, D⟩
 | r => r
def condC (v : VV) (a b : CodeC) (call : CallT) (again : AgainT) (cx : Cx) (τ : Tr) (M : Mem) (D : List Nat) : Option Res := match v with
 | .p (.bool true) => a.run call again cx τ M D
 | .p (.bool false) => b.run call again cx τ M D
 | _ => none
noncomputable def compCode : Code → CodeC
 | .skip => ⟨fun _ _ _ τ M D => some ⟨.normal, τ, M, D⟩⟩
 | .label _ => ⟨fun _ _ _ τ M D => some ⟨.normal, τ, M, D⟩⟩
 | .exit id => ⟨fun _ _ _ τ M D => some ⟨.exit id, τ, M, D⟩⟩
 | .ret => ⟨fun _ _ _ τ M D => some ⟨.ret, τ, M, D⟩⟩
 | .seq a b => ⟨fun call again cx τ M D => seqC call again cx (compCode b) ((compCode a).run call again cx τ M D)⟩
 | .cond c a b => ⟨fun call again cx τ M D => condC ((opdC c).run τ) (compCode a) (compCode b) call again cx τ M D⟩
 | .block id a => ⟨fun call again cx τ M D => blockC id ((compCode a).run call again cx τ M D)⟩
 | .loop a => ⟨fun call again cx τ M D => vloop ((compCode a).run call again cx) lf τ M D⟩
 | .region _ ops draw => (match draw with
  | false => ⟨fun call again cx τ M D => resC cx D ((compOps T ops ops.toList).run call again cx.nt τ M)⟩
  | true => (match zerosOf T ops.toList with
   | some zs => (match planOk ops (mkPlan ops) with
    | true => ⟨fun call again cx τ M D => resC cx D ((compDraw T ops ops.toList (mkPlan ops)).run call again cx.nt τ M.H.length { M with H := M.H ++ zs } [] [])⟩
    | false => ⟨fun _ _ _ _ _ _ => none⟩)
   | none => ⟨fun _ _ _ _ _ _ => none⟩))
 | .rangeFunc g ps assign body => ⟨fun call again cx τ M D => vrange T call again cx g ps assign body τ M D⟩
 | _ => ⟨fun _ _ _ _ _ _ => none⟩
theorem compCode_eq (call : CallT) (again : AgainT) : ∀ (c : Code) (cx : Cx) (τ : Tr) (M : Mem) (D : List Nat), (compCode T lf c).run call again cx τ M D = vrun T lf call again c cx τ M D
 | .skip, cx, τ, M, D => rfl
 | .label _, cx, τ, M, D => rfl
 | .exit id, cx, τ, M, D => rfl
 | .ret, cx, τ, M, D => rfl
 | .seq a b, cx, τ, M, D => by
  simp only [compCode, vrun, compCode_eq call again a]
  cases vrun T lf call again a cx τ M D with
  | none => rfl
  | some x =>
   obtain ⟨ex, τ', M', D'⟩ := x
   cases ex with
   | normal => exact compCode_eq call again b cx τ' M' D'
   | ret => rfl
   | exit id => rfl
 | .cond c a b, cx, τ, M, D => by
  simp only [compCode, vrun, opdC_eq]
  unfold condC
  split
  ·rename_i h
   rw [h]
   exact compCode_eq call again a cx τ M D
  ·rename_i h
   rw [h]
   exact compCode_eq call again b cx τ M D
  ·rename_i h1 h2
   split
   ·rename_i h; exact absurd h h1
   ·rename_i h; exact absurd h h2
   ·rfl
 | .block id a, cx, τ, M, D => by
  simp only [compCode, vrun, compCode_eq call again a]
  cases vrun T lf call again a cx τ M D with
  | none => rfl
  | some x =>
   obtain ⟨ex, τ', M', D'⟩ := x
   cases ex <;> rfl
 | .loop a, cx, τ, M, D => by
  simp only [compCode, vrun]
  rw [show (compCode T lf a).run call again cx = vrun T lf call again a cx from funext fun τ => funext fun M => funext fun D => compCode_eq call again a cx τ M D]
 | .region id ops draw, cx, τ, M, D => by
  cases draw with
  | false =>
   simp only [compCode, vrun, compOps_eq]
   cases vops T call again cx.nt ops ops.toList τ M <;> rfl
  | true =>
   simp only [compCode, vrun]
   cases zerosOf T ops.toList with
   | none => rfl
   | some zs =>
    simp only
    cases planOk ops (mkPlan ops) with
    | false => rfl
    | true =>
     simp only [compDraw_eq, cond_true]
     cases vdraw T call again cx.nt ops ops.toList (mkPlan ops) τ M.H.length { M with H := M.H ++ zs } [] [] <;> rfl
 | .rangeFunc g ps assign body, cx, τ, M, D => rfl
 | .scope _, _, _, _, _ => rfl
 | .goto _, _, _, _, _ => rfl
 | .refuse _, _, _, _, _ => rfl

structure FnC where
 nt : Nat
 res : List ResultVar
 code : CodeC
noncomputable def compFn (f : Nat) : Option FnC := match T.fn f with
 | some fn => (match fn.body with
  | some c => canon fn.ntmps fun nt => some ⟨nt, fn.results.toList, compCode T lf c⟩
  | none => none)
 | none => none
noncomputable def vretC (f n0 : Nat) (rs : List ResultVar) (e : Tr) (M : Mem) (D : List Nat) : Option (VV × Mem) :=
 match vkill n0 D M.H with
 | some H => match vresT T e { M with H := H } rs with
  | some vs => some (vfinish T f n0 (vtup vs) { M with H := H })
  | none => none
 | none => none
noncomputable def endC (f n0 : Nat) (rs : List ResultVar) : Option Res → Option (VV × Mem)
 | some ⟨.normal, e, M', D⟩ => vretC T f n0 rs e M' D
 | some ⟨.ret, e, M', D⟩ => vretC T f n0 rs e M' D
 | _ => none
noncomputable def callC (call : CallT) (again : AgainT) (f : Nat) (args : List VV) (M : Mem) : Option (VV × Mem) := match compFn T lf f with
 | some c => bif Nat.ble args.length c.nt && Nat.ble args.length 4000 then endC T f M.H.length c.res (c.code.run call again ⟨f, none, c.nt⟩ (ofList 0 args .leaf) M []) else none
 | none => none
theorem callC_eq (call : CallT) (again : AgainT) (f : Nat) (args : List VV) (M : Mem) : callC T lf call again f args M = vcallf T lf call again f args M := by
 unfold callC vcallf compFn
 cases T.fn f with
 | none => rfl
 | some fn =>
  simp only
  cases fn.body with
  | none => rfl
  | some c =>
   simp only [canon_eq, compCode_eq]
   cases Nat.ble args.length fn.ntmps && Nat.ble args.length 4000 with
   | false => rfl
   | true =>
    simp only [cond_true]
    cases vrun T lf call again c ⟨f, none, fn.ntmps⟩ (ofList 0 args .leaf) M [] with
    | none => rfl
    | some x =>
     obtain ⟨ex, τ', M', D'⟩ := x
     cases ex <;> rfl
end
noncomputable def evalsC (T : Tab) (lf : Nat) (prim : CallT) : Nat → Evals
 | 0 => ⟨fun _ _ _ => none, fun _ _ _ _ _ => none⟩
 | n + 1 =>
  let ih := evalsC T lf prim n
  ⟨fun f args M => match prim f args M with
   | some r => some r
   | none => callC T lf ih.call ih.again f args M, fun cx c e M D => (compCode T lf c).run ih.call ih.again cx e M D⟩
theorem evalsC_eq (T : Tab) (lf : Nat) (prim : CallT) : ∀ n, evalsC T lf prim n = evals T lf prim n
 | 0 => rfl
 | n + 1 => by
  simp only [evalsC, evals, evalsC_eq T lf prim n, callC_eq, compCode_eq]
  rfl
theorem closed_run {P : Program} {T : Tab} (hT : TabOk P T) {lf n : Nat} {prim : CallT} (hp : ∀ f args M r M', prim f args M = some (r, M') → VC P f args M (eqQ r M')) {f : Nat} {args : List VV} {M M' : Mem} {r : VV} (h : (evalsC T lf prim n).call f args M = some (r, M')) (hos : ∀ t, T.ownS t = false := by intro t; rfl) : VC P f args M (eqQ r M') := by
 rw [evalsC_eq] at h
 exact (evals_ok hT hos hp n).c f args M r M' h
end Go.Proofs.YtominlgikchnmaaGreatDoor.Vm

/- Words for memory that all walks of this seat share: frames, dice, lists in memory. Nothing here names the program. -/
namespace Go.Proofs.YtominlgikchnmaaGreatDoor
open Go.RowKit

structure Frm (D B : Nat) (w w' : World) : Prop where
 os : w'.os = w.os
 tape : w'.tape = w.tape
 output : w'.output = w.output
 size : w.heap.size ≤ w'.heap.size
 block : ∀ k, k < B → k ≠ D → w'.heap[k]? = w.heap[k]?
theorem Frm.refl (D B : Nat) (w : World) : Frm D B w w := ⟨rfl, rfl, rfl, Nat.le_refl _, fun _ _ _ => rfl⟩
theorem Frm.trans {D B : Nat} {a b c : World} (h : Frm D B a b) (k : Frm D B b c) : Frm D B a c :=
 ⟨k.os.trans h.os, k.tape.trans h.tape, k.output.trans h.output, Nat.le_trans h.size k.size, fun i hi hd => (k.block i hi hd).trans (h.block i hi hd)⟩
theorem Frm.mono {D B B' : Nat} {w w' : World} (h : Frm D B w w') (hB : B' ≤ B) : Frm D B' w w' := ⟨h.os, h.tape, h.output, h.size, fun k hk => h.block k (Nat.lt_of_lt_of_le hk hB)⟩
theorem Frm.below {D B B' : Nat} {w w' : World} (h : Frm D B w w') (hB : B' ≤ B) (hD : B' ≤ D) : Below B' w w' := ⟨h.os, h.tape, h.output, h.size, fun k hk => h.block k (by omega) (by omega)⟩
theorem Frm.of_below {B : Nat} {w w' : World} (h : Below B w w') (D : Nat) : Frm D B w w' := ⟨h.os, h.tape, h.output, h.size, fun k hk _ => h.block k hk⟩
theorem Frm.alloc {D B : Nat} {a w : World} (h : Frm D B a w) (hB : B ≤ w.heap.size) (o : Obj) : Frm D B a (w.alloc o) := h.trans (.of_below ((Below.refl B w).alloc hB o) D)
theorem Frm.setCell {D B : Nat} {a w : World} (h : Frm D B a w) {p : Addr} (hp : B ≤ p.block ∨ p.block = D) (u : Value) : Frm D B a (w.setCell p u) :=
 h.trans ⟨rfl, rfl, rfl, by simp [World.setCell], fun k hk hd => Below.heap_setCell _ _ _ _ (by rintro rfl; rcases hp with hp | hp <;> omega)⟩
theorem Frm.drew {D B : Nat} {a w : World} (h : Frm D B a w) : Frm D B a w.drew := ⟨h.os, h.tape, h.output, h.size, h.block⟩
theorem Frm.drewN {D B : Nat} {a w : World} (h : Frm D B a w) (n : Nat) : Frm D B a (w.drewN n) := ⟨h.os, h.tape, h.output, h.size, h.block⟩
theorem Frm.grown {D B : Nat} {a w w' : World} {row : Option Nat} (h : Frm D B a w) (hg : w.grownBy w' row) (hB : B ≤ w.heap.size) (hr : ∀ k, row = some k → B ≤ k ∨ k = D) : Frm D B a w' :=
 h.trans ⟨hg.os, hg.tape, hg.output, hg.size, fun k hk hd => hg.block k (by omega) (fun e => by rcases hr k e.symm with h | h <;> omega)⟩
theorem Frm.cell {D B : Nat} {w w' : World} (h : Frm D B w w') {p : Addr} (hp : p.block < B) (hd : p.block ≠ D) : w'.cell? p = w.cell? p := World.cell?_of_block (w := w) (h.block p.block hp hd)
theorem Frm.frozen {D B : Nat} {w w' : World} (h : Frm D B w w') {p : Addr} (hp : p.block < B) (hd : p.block ≠ D) : w'.frozen? p = w.frozen? p := World.frozen?_of_block (w := w) (h.block p.block hp hd)
def Blk (w : World) (g : Nat) (t : TypeId) (cs : Array Value) : Prop := w.heap[g]? = some (.cells cs t (0, 0))
section
variable {w w' : World} {g : Nat} {t : TypeId} {cs : Array Value}
theorem Blk.lt (h : Blk w g t cs) : g < w.heap.size := by
 rcases Nat.lt_or_ge g w.heap.size with hlt | hge
 ·exact hlt
 ·unfold Blk at h; rw [Array.getElem?_eq_none hge] at h; cases h
theorem Blk.cell (h : Blk w g t cs) (i : Nat) : w.cell? ⟨g, i, none⟩ = cs[i]? := cell_of_row w g i cs t (0, 0) h
theorem Blk.frozen (h : Blk w g t cs) (i : Nat) : w.frozen? ⟨g, i, none⟩ = false := by
 unfold Blk at h
 simp [World.frozen?, h]
theorem Blk.new (w : World) (t : TypeId) (cs : Array Value) : Blk (w.alloc (.cells cs t)) w.heap.size t cs := heap_alloc_new w _
theorem Blk.drew (h : Blk w g t cs) : Blk w.drew g t cs := h
theorem Blk.drewN (h : Blk w g t cs) (n : Nat) : Blk (w.drewN n) g t cs := h
theorem Blk.alloc (h : Blk w g t cs) (o : Obj) : Blk (w.alloc o) g t cs := (Below.heap_alloc w o g h.lt).trans h
theorem Blk.below {B : Nat} (h : Blk w g t cs) (hb : Below B w w') (hg : g < B) : Blk w' g t cs := (hb.block g hg).trans h
theorem Blk.grown {row : Option Nat} (h : Blk w g t cs) (hb : w.grownBy w' row) (hg : some g ≠ row) : Blk w' g t cs := (hb.block g h.lt hg).trans h
end

def DieAt (w : World) (T D : Nat) : Prop := ∃ f : Int, 0 ≤ f ∧ f < 18446744073709551616 ∧ Blk w D T #[.int .u64 f]
theorem DieAt.lt {w : World} {T D : Nat} (h : DieAt w T D) : D < w.heap.size := by obtain ⟨f, _, _, h⟩ := h; exact h.lt
theorem DieAt.below {w w' : World} {T D B : Nat} (h : DieAt w T D) (hb : Below B w w') (hD : D < B) : DieAt w' T D := by
 obtain ⟨f, h0, h1, h⟩ := h; exact ⟨f, h0, h1, h.below hb hD⟩
theorem DieAt.alloc {w : World} {T D : Nat} (h : DieAt w T D) (o : Obj) : DieAt (w.alloc o) T D := by
 obtain ⟨f, h0, h1, h⟩ := h; exact ⟨f, h0, h1, h.alloc o⟩
def Sl {α : Type} (w : World) (B k : Nat) (enc : α → List Value) (v : Value) (xs : List α) : Prop :=
 ∃ A c, v = .slice A xs.length c ∧ xs.length ≤ c ∧ c ≤ maxLen ∧ (0 < xs.length → ∃ b off, A = some ⟨b, off, none⟩ ∧ b < B ∧
  ∀ i x, xs[i]? = some x → ∀ j u, (enc x)[j]? = some u → w.cell? ⟨b, off + i * k + j, none⟩ = some u)
section
variable {α : Type} {w w' : World} {B B' k : Nat} {enc : α → List Value} {v : Value} {xs : List α}
theorem Sl.keep (h : Sl w B k enc v xs) (hB : B ≤ B') (hk : ∀ b o, b < B → w'.cell? ⟨b, o, none⟩ = w.cell? ⟨b, o, none⟩) : Sl w' B' k enc v xs := by
 obtain ⟨A, c, rfl, h1, h2, h3⟩ := h
 refine ⟨A, c, rfl, h1, h2, fun hp => ?_⟩
 obtain ⟨b, off, rfl, hb, h4⟩ := h3 hp
 exact ⟨b, off, rfl, by omega, fun i x hx j u hu => (hk _ _ hb).trans (h4 i x hx j u hu)⟩
theorem Sl.below {B0 : Nat} (h : Sl w B k enc v xs) (hb : Below B0 w w') (hB : B ≤ B0) (hB' : B ≤ B') : Sl w' B' k enc v xs :=
 h.keep hB' fun b o hlt => hb.cell (p := ⟨b, o, none⟩) (by show b < B0; omega)
theorem Sl.alloc (h : Sl w B k enc v xs) (hB : B ≤ w.heap.size) (hB' : B ≤ B') (o : Obj) : Sl (w.alloc o) B' k enc v xs :=
 h.below ((Below.refl B w).alloc hB o) (Nat.le_refl _) hB'
theorem Sl.empty (A : Option Addr) (c : Nat) (hc : c ≤ maxLen) : Sl w B k enc (.slice A 0 c) [] := ⟨A, c, rfl, by simp, hc, by simp⟩
theorem Sl.nil : Sl w B k enc (.slice none 0 0) [] := Sl.empty none 0 (by unfold maxLen; omega)
theorem Sl.of_blk {g : Nat} {t : TypeId} {cs : Array Value} (h : Blk w g t cs) (hg : g < B) (hl : xs.length ≤ maxLen) (he : ∀ i x, xs[i]? = some x → ∀ j u, (enc x)[j]? = some u → cs[i * k + j]? = some u) :
  Sl w B k enc (.slice (some ⟨g, 0, none⟩) xs.length xs.length) xs :=
 ⟨_, _, rfl, Nat.le_refl _, hl, fun _ => ⟨g, 0, rfl, hg, fun i x hx j u hu => by rw [h.cell, Nat.zero_add]; exact he i x hx j u hu⟩⟩
theorem Sl.of_own {base : Nat} {e : TypeId} {ys : List Value} (h : w.ownsRow base e k v xs.length ys) (hys : ys = xs.flatMap enc) (hk : ∀ x, (enc x).length = k) : Sl w w.heap.size k enc v xs := by
 subst hys
 rcases h.2 with ⟨rfl, h0⟩ | ⟨g, cap, cur, rfl, hg, hh, hn, hm, hs, ht⟩
 ·have := List.eq_nil_of_length_eq_zero h0
  subst this
  exact Sl.nil
 ·have hb : Blk w g e cur := hh
  refine ⟨_, _, rfl, hn, hm, fun hp => ⟨g, 0, rfl, hb.lt, fun i x hx j u hu => ?_⟩⟩
  rw [hb.cell, Nat.zero_add]
  have hj : j < k := by
   have := (List.getElem?_eq_some_iff.1 hu).1
   rw [hk] at this
   exact this
  have hi : i < xs.length := (List.getElem?_eq_some_iff.1 hx).1
  have hlt : i * k + j < xs.length * k := by
   have : (i + 1) * k ≤ xs.length * k := Nat.mul_le_mul_right _ hi
   rw [Nat.add_mul] at this
   omega
  have key : ∀ (l : List α) (i : Nat) (x : α), l[i]? = some x → (l.flatMap enc)[i * k + j]? = (enc x)[j]? := by
   intro l
   induction l with
   | nil => intro i x h; simp at h
   | cons a l ih =>
    intro i x h
    rw [List.flatMap_cons]
    cases i with
    | zero =>
     simp at h
     subst h
     rw [List.getElem?_append_left (by rw [hk]; omega)]
     simp
    | succ i =>
     rw [List.getElem?_append_right (by rw [hk, Nat.add_mul]; omega), hk]
     rw [show (i + 1) * k + j - k = i * k + j from by rw [Nat.add_mul]; omega]
     exact ih i x (by simpa using h)
  have := key xs i x hx
  rw [← ht, List.getElem?_take, if_pos hlt, hu] at this
  simpa using this
end
def intC (x : Int) : List Value := [.int .i64 x]
structure ET (P : Program) (t e k bytes : Nat) : Prop where
 under : P.underlying t = some (.slice e)
 info : ∃ i z, P.info? e = some i ∧ i.zero = some z ∧ i.size = k ∧ i.bytes = bytes ∧ z.cells.size = k
 pos : 0 < k
theorem ET.mk' {P : Program} {t e k bytes : Nat} {z : Value} (hu : P.underlying t = some (.slice e)) (hi : (P.info? e).map (fun i => (i.zero, i.size, i.bytes)) = some (some z, k, bytes)) (hz : z.cells.size = k) (hk : 0 < k) : ET P t e k bytes := by
 obtain ⟨i0, hi, hz0, hz1, hz2⟩ := info_parts hi
 exact ⟨hu, ⟨i0, z, hi, hz0, hz1, hz2, hz⟩, hk⟩
structure Enc {α : Type} (k : Nat) (enc : α → List Value) : Prop where
 len : ∀ x, (enc x).length = k
 one : ∀ x, ∀ u ∈ enc x, u.oneCell' = true
theorem Enc.flat {α : Type} {k : Nat} {enc : α → List Value} (E : Enc k enc) : ∀ (xs : List α), (xs.flatMap enc).length = xs.length * k
 | [] => by simp
 | x :: xs => by simp only [List.flatMap_cons, List.length_append, List.length_cons, E.flat xs, E.len, Nat.add_mul]; omega
theorem flat_at {α : Type} {k : Nat} {enc : α → List Value} (E : Enc k enc) : ∀ (l : List α) (i : Nat) (u : Value), (l.flatMap enc)[i]? = some u → ∃ x, l[i / k]? = some x ∧ (enc x)[i % k]? = some u
 | [], i, u, h => by simp at h
 | a :: l, i, u, h => by
  have hk : 0 < k := by
   rcases Nat.eq_zero_or_pos k with h0 | h0
   ·exfalso
    have : ((a :: l).flatMap enc).length = 0 := by rw [E.flat, h0]; simp
    rw [List.eq_nil_of_length_eq_zero this] at h
    simp at h
   ·exact h0
  rw [List.flatMap_cons] at h
  rcases Nat.lt_or_ge i k with hi | hi
  ·rw [List.getElem?_append_left (by rw [E.len]; exact hi)] at h
   exact ⟨a, by rw [Nat.div_eq_of_lt hi]; rfl, by rw [Nat.mod_eq_of_lt hi]; exact h⟩
  ·rw [List.getElem?_append_right (by rw [E.len]; exact hi), E.len] at h
   obtain ⟨x, h1, h2⟩ := flat_at E l (i - k) u h
   refine ⟨x, ?_, ?_⟩
   ·have : i / k = (i - k) / k + 1 := by rw [← Nat.add_div_right _ hk]; congr 1; omega
    rw [this]; simpa using h1
   ·have : i % k = (i - k) % k := by rw [← Nat.add_mod_right (i - k) k]; congr 1; omega
    rw [this]; exact h2
def Own {α : Type} (w : World) (base e k : Nat) (enc : α → List Value) (v : Value) (xs : List α) : Prop := w.ownsRow base e k v xs.length (xs.flatMap enc)
section
variable {α : Type} {w w' : World} {base e k : Nat} {enc : α → List Value} {v : Value} {xs : List α}
theorem Own.nil : Own w base e k enc (.slice none 0 0) [] := World.ownsRow_nil _ _ _ _
theorem Own.empty {g : Nat} (h : Blk w g e #[]) (hg : base ≤ g) : Own w base e k enc (.slice (some ⟨g, 0, none⟩) 0 0) ([] : List α) :=
 ⟨by simp, .inr ⟨g, 0, #[], rfl, hg, h, Nat.le_refl _, by unfold maxLen; omega, by simp, by simp⟩⟩
theorem Own.sl (h : Own w base e k enc v xs) (E : Enc k enc) : Sl w w.heap.size k enc v xs := Sl.of_own h rfl E.len
theorem Own.alloc (h : Own w base e k enc v xs) (o : Obj) : Own (w.alloc o) base e k enc v xs := World.ownsRow.alloc h o
theorem Own.drew (h : Own w base e k enc v xs) : Own w.drew base e k enc v xs := h
theorem Own.below (h : Own w base e k enc v xs) (hb : Below w.heap.size w w') : Own w' base e k enc v xs := by
 refine ⟨h.1, ?_⟩
 rcases h.2 with h2 | ⟨g, cap, cur, h1, h2, h3, h4⟩
 ·exact .inl h2
 ·exact .inr ⟨g, cap, cur, h1, h2, Blk.below (g := g) (t := e) (cs := cur) h3 hb (Blk.lt h3), h4⟩
end
theorem Sl.news {α : Type} {w : World} {B k : Nat} {enc : α → List Value} {A : Option Addr} {n c : Nat} {ys : List α} (h : Sl w B k enc (.slice A n c) ys) (E : Enc k enc) :
  n = ys.length ∧ (ys = [] ∨ ∃ ad, A = some ad ∧ ∀ j u, (ys.flatMap enc)[j]? = some u → w.cell? (ad.add j) = some u) := by
 obtain ⟨A', c', he, h1, h2, h3⟩ := h
 cases he
 refine ⟨rfl, ?_⟩
 rcases Nat.eq_zero_or_pos ys.length with h0 | h0
 ·exact .inl (List.eq_nil_of_length_eq_zero h0)
 ·obtain ⟨b, off, rfl, hb, h4⟩ := h3 h0
  refine .inr ⟨_, rfl, fun j u hu => ?_⟩
  obtain ⟨x, hx, hux⟩ := flat_at E ys j u hu
  have := h4 _ x hx _ u hux
  have e1 : (⟨b, off, none⟩ : Addr).add j = ⟨b, off + j, none⟩ := by unfold Addr.add; split <;> simp_all
  rw [e1]
  rw [Nat.add_assoc, Nat.mul_comm, Nat.div_add_mod] at this
  exact this
section
variable {α : Type} {P : Program} {w : World} {t e k bytes base B : Nat} {enc : α → List Value} {v src : Value} {xs ys : List α} {o : Oper} {a : Act} {Q : Exit → Act → World → Prop}
end
end Go.Proofs.YtominlgikchnmaaGreatDoor

/- What is known of the program of this seat, in the machine on values. -/
namespace Go.Proofs.YtominlgikchnmaaGreatDoor.Vm
open Go Go.Proofs Go.RowKit

theorem two {xs : List Int} (h : xs.length = 2) : ∃ a b, xs = [a, b] := by
 match xs, h with
 | [a, b], _ => exact ⟨a, b, rfl⟩
theorem three {xs : List Int} (h : xs.length = 3) : ∃ a b c, xs = [a, b, c] := by
 match xs, h with
 | [a, b, c], _ => exact ⟨a, b, c, rfl⟩
theorem eqIn_Cell (d : Nat) (a b c e : Int) (w : World) : (Op.equalIn (d + 2) 24 (.agg #[.int .i64 a, .int .i64 b]) (.agg #[.int .i64 c, .int .i64 e])).run Tryz.prog w = .ok (decide (a = c ∧ b = e)) w := by
 have u3 := Tryz.underlying3
 have a3 := Tryz.isAgg3
 have z3 := Tryz.sizeOf3
 have hS : Tryz.prog.underlying 24 = some (.struct (Tryz.prog.fieldsOf 24)) := by kernel_rfl
 have hp : Tryz.prog.stoodInHeld 24 = false := by kernel_rfl
 rw [run_equalIn_agg w (d + 1) _ _ _ hS hp]
 simp only [Program.fieldsOf, Tryz.underlying24]
 go_simp
 by_cases h1 : a = c <;> by_cases h2 : b = e <;> simp [h1, h2]
theorem eqIn_Span (d : Nat) (a b c e : Int) (w : World) : (Op.equalIn (d + 2) 46 (.agg #[.int .i64 a, .int .i64 b]) (.agg #[.int .i64 c, .int .i64 e])).run Tryz.prog w = .ok (decide (a = c ∧ b = e)) w := by
 have u3 := Tryz.underlying3
 have a3 := Tryz.isAgg3
 have z3 := Tryz.sizeOf3
 have hS : Tryz.prog.underlying 46 = some (.struct (Tryz.prog.fieldsOf 46)) := by kernel_rfl
 have hp : Tryz.prog.stoodInHeld 46 = false := by kernel_rfl
 rw [run_equalIn_agg w (d + 1) _ _ _ hS hp]
 simp only [Program.fieldsOf, Tryz.underlying46]
 go_simp
 by_cases h1 : a = c <;> by_cases h2 : b = e <;> simp [h1, h2]
theorem cmpCell : CmpOk Tryz.prog 24 2 := by
 refine ⟨fun xs ys w hx hy => ?_, by kernel_rfl, fun xs e w hx => ?_, ⟨.struct (Tryz.prog.fieldsOf 24), by kernel_rfl, fun k h => by (cases h), fun h => by (cases h), fun h => by (cases h)⟩⟩
 ·obtain ⟨a, b, rfl⟩ := two hx
  obtain ⟨c, d, rfl⟩ := two hy
  show (Op.equalIn (9998 + 2) _ _ _).run _ _ = _
  rw [show nums [a, b] = .agg #[.int .i64 a, .int .i64 b] from rfl, show nums [c, d] = .agg #[.int .i64 c, .int .i64 d] from rfl, eqIn_Cell]
  congr 1
  by_cases h1 : a = c <;> by_cases h2 : b = d <;> simp [h1, h2]
 ·obtain ⟨a, b, rfl⟩ := two hx
  have u3 := Tryz.underlying3
  have a3 := Tryz.isAgg3
  have z3 := Tryz.sizeOf3
  rw [show nums [a, b] = .agg #[.int .i64 a, .int .i64 b] from rfl]
  generalize hd : (10000 : Nat) = d
  obtain ⟨d, rfl⟩ : ∃ e, d = e + 3 := ⟨9997, by omega⟩
  clear hd
  have h3 : ∀ (n : Int) (w : World), (Instr.checkKey e (d + 2) 3 (.int .i64 n)).run Tryz.prog w = .ok () w := fun n w => by
   rw [Instr.checkKey]
   go_simp
  rw [Instr.checkKey]
  simp only [Sem.run_bind, Tryz.underlying24]
  go_simp
theorem cmpSpan : CmpOk Tryz.prog 46 2 := by
 refine ⟨fun xs ys w hx hy => ?_, by kernel_rfl, fun xs e w hx => ?_, ⟨.struct (Tryz.prog.fieldsOf 46), by kernel_rfl, fun k h => by (cases h), fun h => by (cases h), fun h => by (cases h)⟩⟩
 ·obtain ⟨a, b, rfl⟩ := two hx
  obtain ⟨c, d, rfl⟩ := two hy
  show (Op.equalIn (9998 + 2) _ _ _).run _ _ = _
  rw [show nums [a, b] = .agg #[.int .i64 a, .int .i64 b] from rfl, show nums [c, d] = .agg #[.int .i64 c, .int .i64 d] from rfl, eqIn_Span]
  congr 1
  by_cases h1 : a = c <;> by_cases h2 : b = d <;> simp [h1, h2]
 ·obtain ⟨a, b, rfl⟩ := two hx
  have u3 := Tryz.underlying3
  have a3 := Tryz.isAgg3
  have z3 := Tryz.sizeOf3
  rw [show nums [a, b] = .agg #[.int .i64 a, .int .i64 b] from rfl]
  generalize hd : (10000 : Nat) = d
  obtain ⟨d, rfl⟩ : ∃ e, d = e + 3 := ⟨9997, by omega⟩
  clear hd
  have h3 : ∀ (n : Int) (w : World), (Instr.checkKey e (d + 2) 3 (.int .i64 n)).run Tryz.prog w = .ok () w := fun n w => by
   rw [Instr.checkKey]
   go_simp
  rw [Instr.checkKey]
  simp only [Sem.run_bind, Tryz.underlying46]
  go_simp
theorem eqIn_Put (d : Nat) (a b k c e l : Int) (w : World) : (Op.equalIn (d + 3) 58 (.agg #[.int .i64 a, .int .i64 b, .int .i64 k]) (.agg #[.int .i64 c, .int .i64 e, .int .i64 l])).run Tryz.prog w = .ok (decide (a = c ∧ b = e ∧ k = l)) w := by
 have u3 := Tryz.underlying3
 have a3 := Tryz.isAgg3
 have z3 := Tryz.sizeOf3
 have a24 := Tryz.isAgg24
 have z24 := Tryz.sizeOf24
 have hIn := fun d w => eqIn_Cell d a b c e w
 have hS : Tryz.prog.underlying 58 = some (.struct (Tryz.prog.fieldsOf 58)) := by kernel_rfl
 have hp : Tryz.prog.stoodInHeld 58 = false := by kernel_rfl
 rw [run_equalIn_agg w (d + 2) _ _ _ hS hp]
 simp only [Program.fieldsOf, Tryz.underlying58]
 clear hS hp
 go_simp
 by_cases h1 : a = c <;> by_cases h2 : b = e <;> by_cases h3 : k = l <;> simp [h1, h2, h3]
theorem cmpPut : CmpOk Tryz.prog 58 3 := by
 refine ⟨fun xs ys w hx hy => ?_, by kernel_rfl, fun xs e w hx => ?_, ⟨.struct (Tryz.prog.fieldsOf 58), by kernel_rfl, fun k h => by (cases h), fun h => by (cases h), fun h => by (cases h)⟩⟩
 ·obtain ⟨a, b, k, rfl⟩ := three hx
  obtain ⟨c, d, l, rfl⟩ := three hy
  show (Op.equalIn (9997 + 3) _ _ _).run _ _ = _
  rw [show nums [a, b, k] = .agg #[.int .i64 a, .int .i64 b, .int .i64 k] from rfl, show nums [c, d, l] = .agg #[.int .i64 c, .int .i64 d, .int .i64 l] from rfl, eqIn_Put]
  congr 1
  by_cases h1 : a = c <;> by_cases h2 : b = d <;> by_cases h3 : k = l <;> simp [h1, h2, h3]
 ·obtain ⟨a, b, k, rfl⟩ := three hx
  have u3 := Tryz.underlying3
  have a3 := Tryz.isAgg3
  have z3 := Tryz.sizeOf3
  have a24 := Tryz.isAgg24
  have z24 := Tryz.sizeOf24
  rw [show nums [a, b, k] = .agg #[.int .i64 a, .int .i64 b, .int .i64 k] from rfl]
  generalize hd : (10000 : Nat) = d
  obtain ⟨d, rfl⟩ : ∃ e, d = e + 4 := ⟨9996, by omega⟩
  clear hd
  have h2 : ∀ (m : Nat) (n : Int) (w : World), (Instr.checkKey e (m + 1) 3 (.int .i64 n)).run Tryz.prog w = .ok () w := fun m n w => by
   rw [Instr.checkKey]
   go_simp
  have h3 : ∀ (a b : Int) (w : World), (Instr.checkKey e (d + 3) 24 (.agg #[.int .i64 a, .int .i64 b])).run Tryz.prog w = .ok () w := fun a b w => by
   have h4 := h2 (d + 1)
   rw [Instr.checkKey]
   simp only [Sem.run_bind, Tryz.underlying24]
   go_simp
  have h5 := h2 (d + 2)
  rw [Instr.checkKey]
  simp only [Sem.run_bind, Tryz.underlying58]
  go_simp
def cmpB (t : Nat) : Bool := Nat.beq t 24 || (Nat.beq t 46 || Nat.beq t 58)
theorem size_of {t n : Nat} {y : Ty} (h : tyOf Tryz.prog cmpB t = some y) (hn : (tyOf Tryz.prog cmpB t).map (·.size) = some n) : y.size = n := by
 rw [h] at hn
 exact Option.some.inj hn
theorem cmpB_ok : ∀ t y, cmpB t = true → tyOf Tryz.prog cmpB t = some y → CmpOk Tryz.prog t y.size := by
 intro t y h hy
 simp only [cmpB, Bool.or_eq_true] at h
 rcases h with h | h | h
 ·have := Nat.eq_of_beq_eq_true h
  subst this
  rw [size_of hy (n := 2) (by kernel_rfl)]
  exact cmpCell
 ·have := Nat.eq_of_beq_eq_true h
  subst this
  rw [size_of hy (n := 2) (by kernel_rfl)]
  exact cmpSpan
 ·have := Nat.eq_of_beq_eq_true h
  subst this
  rw [size_of hy (n := 3) (by kernel_rfl)]
  exact cmpPut
def keepsB (f : Nat) : Bool := Nat.beq f 54 || Nat.beq f 53
noncomputable def T : Tab := tabOf Tryz.prog cmpB (varsOf Tryz.prog) keepsB
theorem T_ok : TabOk Tryz.prog T := tabOf_ok cmpB_ok (by kernel_rfl)
theorem Ws : type_of% @W_seq := @W_seq
theorem Wr {cx : Cx} {e : Env} {M : Mem} {D : List Nat} {Q : PQ} {id : Nat} {ops : Array Oper} (h : WOps Tryz.prog T cx.nt ops ops.toList e M fun e' M' => Q .normal e' M' D) : WCode Tryz.prog cx (.region id ops false) e M D Q := W_region0 T_ok h
theorem Wt {P : Program} {cx : Cx} {e : Env} {M : Mem} {D : List Nat} {Q : PQ} {c : Operand} {x y : Code} (hb : ev e c = .p (.bool true)) (h : WCode P cx x e M D Q) : WCode P cx (.cond c x y) e M D Q := W_cond (b := true) hb (fun _ => h) fun h => by cases h
theorem Wf {P : Program} {cx : Cx} {e : Env} {M : Mem} {D : List Nat} {Q : PQ} {c : Operand} {x y : Code} (hb : ev e c = .p (.bool false)) (h : WCode P cx y e M D Q) : WCode P cx (.cond c x y) e M D Q := W_cond (b := false) hb (fun h => by cases h) fun _ => h
theorem EV : type_of% (And.intro (@ev.eq_1) (And.intro (@ev.eq_2) (And.intro (@ev.eq_3) (And.intro (@ev.eq_4) (And.intro (@get_cons) (And.intro (@if_true.{1}) (@if_false.{1}))))))) := And.intro (@ev.eq_1) (And.intro (@ev.eq_2) (And.intro (@ev.eq_3) (And.intro (@ev.eq_4) (And.intro (@get_cons) (And.intro (@if_true.{1}) (@if_false.{1}))))))
end Go.Proofs.YtominlgikchnmaaGreatDoor.Vm
