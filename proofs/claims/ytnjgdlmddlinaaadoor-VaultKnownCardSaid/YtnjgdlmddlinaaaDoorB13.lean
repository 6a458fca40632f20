/- A part of the proofs about the chapter of the vaults; it states no condition of its own. -/
import Derived.Test.YtnjgdlmddlinaaaDoorB12
set_option linter.unusedVariables false
set_option linter.unusedSimpArgs false
/- A machine on values: one operation after the other in regions whose order is drawn, as equations. -/
namespace Go.Proofs.YtnjgdlmddlinaaaDoor.Vm
open Go

section
variable {P : Program} {T : Tab} {nt : Nat} {ops : Array Oper} {r : List Oper} {s : List Info} {e : Env} {na : Nat} {M : Mem} {past : List Mem} {pd : Pds} {Kn : Env → Mem → Prop} {ty : TypeId} {p : String} {af : Array Edge} {d bk fw : Nat}

theorem ev_prune {vs : List Nat} {x : Operand} (h : ∀ t, x = .tmp t → t ∈ vs) : ev (prune vs e) x = ev e x := by
 cases x with
 | tmp t =>
  have ht := h t rfl
  show get (prune vs e) t = get e t
  unfold prune
  clear h
  induction vs with
  | nil => simp at ht
  | cons a vs ih =>
   simp only [List.map_cons, get_cons]
   by_cases h : t = a
   ·rw [if_pos h, h]
   ·rw [if_neg h]
    exact ih (by rcases List.mem_cons.1 ht with h' | h'; exact absurd h' h; exact h')
 | _ => rfl
theorem tmps_mem {o : Oper} {x : Operand} (h : x ∈ o.op.operands.toList) : ∀ t, x = .tmp t → t ∈ tmpsOf ops o := by
 rintro t rfl
 unfold tmpsOf
 exact List.mem_append_left _ (List.mem_filterMap.2 ⟨.tmp t, h, rfl⟩)
theorem ev_op {o : Oper} {x : Operand} (h : x ∈ o.op.operands.toList) : ev (prune (tmpsOf ops o) e) x = ev e x := ev_prune (tmps_mem h)
theorem vwanted_gd {o : Oper} {A B : Prop} : (match vwanted ops o (prune (tmpsOf ops o) e) with
  | none => False
  | some false => B
  | some true => A) = Gd ops o.guard e A B := by
 unfold vwanted Gd
 cases hg : o.guard with
 | none => rfl
 | some q =>
  obtain ⟨j, w⟩ := q
  simp only
  cases hj : (ops[j]?).bind (·.dst) with
  | none => rfl
  | some g =>
   have hm : g ∈ tmpsOf ops o := by
    unfold tmpsOf
    rw [hg]
    simp [hj]
   have hget : get (prune (tmpsOf ops o) e) g = get e g := ev_prune (x := .tmp g) fun t ht => by cases ht; exact hm
   simp only [hget]
   generalize get e g = u
   cases u with
   | p v =>
    cases v with
    | bool b =>
     simp only
     by_cases h : b = w
     ·subst h; simp
     ·rw [if_neg h]
      have : (b == w) = false := by simpa using h
      rw [this]
    | _ => rfl
   | tup vs => cases vs <;> rfl
   | _ => rfl
def DPut (P : Program) (T : Tab) (nt : Nat) (ops : Array Oper) (r : List Oper) (s : List Info) (Kn : Env → Mem → Prop) (d : Nat) (e : Env) (na : Nat) (M : Mem) (past : List Mem) (pd : Pds) : Option VV → Prop
 | some v => d < nt ∧ WDraw P T nt ops r s ((d, v) :: e) na M past pd Kn
 | none => False
theorem DPut_some {v : VV} : DPut P T nt ops r s Kn d e na M past pd (some v) = (d < nt ∧ WDraw P T nt ops r s ((d, v) :: e) na M past pd Kn) := rfl
theorem D_op {op : Go.Op} {gd : Option (Nat × Bool)} (hA : isA { dst := some d, op := op, type := ty, pos := p, after := af, guard := gd } = false) (hr : rdr op = false) {x : Option VV}
  (hv : vop T op (ev (prune (tmpsOf ops { dst := some d, op := op, type := ty, pos := p, after := af, guard := gd }) e)) M = x.map (·, M)) :
  WDraw P T nt ops ({ dst := some d, op := op, type := ty, pos := p, after := af, guard := gd } :: r) (⟨false, bk, fw⟩ :: s) e na M past pd Kn = Gd ops gd e (DPut P T nt ops r s Kn d e na M past pd x) (d < nt ∧ WDraw P T nt ops r s ((d, .tup []) :: e) na M past pd Kn) := by
 simp only [WDraw, hA, hr, Bool.false_eq_true, if_false, hv]
 have hB : (match vput nt (some d) (.tup []) e with
   | some e' => WDraw P T nt ops r s e' na M past pd Kn
   | none => False) = (d < nt ∧ WDraw P T nt ops r s ((d, .tup []) :: e) na M past pd Kn) := vput_some nt d (.tup []) e fun e' => WDraw P T nt ops r s e' na M past pd Kn
 rw [← hB]
 have hX : DPut P T nt ops r s Kn d e na M past pd x = (match x.map (·, M) with
   | some (v, M') => M' = M ∧ (match vput nt (some d) v e with
    | some e' => WDraw P T nt ops r s e' na M past pd Kn
    | none => False)
   | none => False) := by
  cases x with
  | none => rfl
  | some v =>
   simp only [Option.map_some, true_and]
   exact (vput_some nt d v e fun e' => WDraw P T nt ops r s e' na M past pd Kn).symm
 rw [hX]
 exact vwanted_gd (o := { dst := some d, op := op, type := ty, pos := p, after := af, guard := gd })
variable {gd : Option (Nat × Bool)}
theorem D_move {x : Operand} : WDraw P T nt ops ({ dst := some d, op := .move x, type := ty, pos := p, after := af, guard := gd } :: r) (⟨false, bk, fw⟩ :: s) e na M past pd Kn = Gd ops gd e (d < nt ∧ WDraw P T nt ops r s ((d, ev e x) :: e) na M past pd Kn) (d < nt ∧ WDraw P T nt ops r s ((d, .tup []) :: e) na M past pd Kn) := D_op rfl rfl (x := some (ev e x)) (by simp only [vop]; rw [ev_op (by simp [Op.operands])]; rfl)
theorem D_assign {x : Operand} : WDraw P T nt ops ({ dst := some d, op := .assign x, type := ty, pos := p, after := af, guard := gd } :: r) (⟨false, bk, fw⟩ :: s) e na M past pd Kn = Gd ops gd e (d < nt ∧ WDraw P T nt ops r s ((d, ev e x) :: e) na M past pd Kn) (d < nt ∧ WDraw P T nt ops r s ((d, .tup []) :: e) na M past pd Kn) := D_op rfl rfl (x := some (ev e x)) (by simp only [vop]; rw [ev_op (by simp [Op.operands])]; rfl)
theorem D_bin {op : BinOp} {t yt : TypeId} {x y : Operand} : WDraw P T nt ops ({ dst := some d, op := .binOp op t x y yt, type := ty, pos := p, after := af, guard := gd } :: r) (⟨false, bk, fw⟩ :: s) e na M past pd Kn = Gd ops gd e (DPut P T nt ops r s Kn d e na M past pd (vbinK T op t (ev e x) (ev e y) y)) (d < nt ∧ WDraw P T nt ops r s ((d, .tup []) :: e) na M past pd Kn) := D_op rfl rfl (x := vbinK T op t (ev e x) (ev e y) y) (by simp only [vop]; rw [ev_op (by simp [Op.operands]), ev_op (by simp [Op.operands])])
theorem D_un {op : UnOp} {t : TypeId} {x : Operand} : WDraw P T nt ops ({ dst := some d, op := .unOp op t x, type := ty, pos := p, after := af, guard := gd } :: r) (⟨false, bk, fw⟩ :: s) e na M past pd Kn = Gd ops gd e (DPut P T nt ops r s Kn d e na M past pd (vun op (ev e x))) (d < nt ∧ WDraw P T nt ops r s ((d, .tup []) :: e) na M past pd Kn) := D_op rfl rfl (x := vun op (ev e x)) (by simp only [vop]; rw [ev_op (by simp [Op.operands])])
theorem D_field {t : TypeId} {x : Operand} {f : Nat} : WDraw P T nt ops ({ dst := some d, op := .fieldAddr t x f, type := ty, pos := p, after := af, guard := gd } :: r) (⟨false, bk, fw⟩ :: s) e na M past pd Kn = Gd ops gd e (DPut P T nt ops r s Kn d e na M past pd (vfieldAddr T t (ev e x) f)) (d < nt ∧ WDraw P T nt ops r s ((d, .tup []) :: e) na M past pd Kn) := D_op rfl rfl (x := vfieldAddr T t (ev e x) f) (by simp only [vop]; rw [ev_op (by simp [Op.operands])])
theorem D_indexAddr {t : TypeId} {x i : Operand} : WDraw P T nt ops ({ dst := some d, op := .indexAddr t x i, type := ty, pos := p, after := af, guard := gd } :: r) (⟨false, bk, fw⟩ :: s) e na M past pd Kn = Gd ops gd e (DPut P T nt ops r s Kn d e na M past pd (vindexAddr T t (ev e x) (ev e i))) (d < nt ∧ WDraw P T nt ops r s ((d, .tup []) :: e) na M past pd Kn) := D_op rfl rfl (x := vindexAddr T t (ev e x) (ev e i)) (by simp only [vop]; rw [ev_op (by simp [Op.operands]), ev_op (by simp [Op.operands])])
theorem D_index {t : TypeId} {x i : Operand} : WDraw P T nt ops ({ dst := some d, op := .index t x i, type := ty, pos := p, after := af, guard := gd } :: r) (⟨false, bk, fw⟩ :: s) e na M past pd Kn = Gd ops gd e (DPut P T nt ops r s Kn d e na M past pd (vindex T t (ev e x) (ev e i))) (d < nt ∧ WDraw P T nt ops r s ((d, .tup []) :: e) na M past pd Kn) := D_op rfl rfl (x := vindex T t (ev e x) (ev e i)) (by simp only [vop]; rw [ev_op (by simp [Op.operands]), ev_op (by simp [Op.operands])])
theorem D_convert {u t : TypeId} {x : Operand} : WDraw P T nt ops ({ dst := some d, op := .convert u t x, type := ty, pos := p, after := af, guard := gd } :: r) (⟨false, bk, fw⟩ :: s) e na M past pd Kn = Gd ops gd e (DPut P T nt ops r s Kn d e na M past pd (vconvert T u t (ev e x))) (d < nt ∧ WDraw P T nt ops r s ((d, .tup []) :: e) na M past pd Kn) := D_op rfl rfl (x := vconvert T u t (ev e x)) (by simp only [vop]; rw [ev_op (by simp [Op.operands])])
def nilV : VV → Option VV
 | .ptr id off => some (.ptr id off)
 | .ip cs => some (.ip cs)
 | .iv cs => some (.iv cs)
 | _ => none
def extV (v : VV) (i : Nat) : Option VV := match v with
 | .tup vs => vs[i]?
 | _ => none
def pickV (c a b : VV) : Option VV := match c with
 | .p (.bool t) => some (bif t then a else b)
 | _ => none
theorem D_nilCheck {x : Operand} : WDraw P T nt ops ({ dst := some d, op := .nilCheck x, type := ty, pos := p, after := af, guard := gd } :: r) (⟨false, bk, fw⟩ :: s) e na M past pd Kn = Gd ops gd e (DPut P T nt ops r s Kn d e na M past pd (nilV (ev e x))) (d < nt ∧ WDraw P T nt ops r s ((d, .tup []) :: e) na M past pd Kn) := D_op rfl rfl (x := nilV (ev e x)) (by simp only [vop]; rw [ev_op (by simp [Op.operands])]; cases ev e x <;> rfl)
theorem D_extract {x : Operand} {i : Nat} : WDraw P T nt ops ({ dst := some d, op := .extract x i, type := ty, pos := p, after := af, guard := gd } :: r) (⟨false, bk, fw⟩ :: s) e na M past pd Kn = Gd ops gd e (DPut P T nt ops r s Kn d e na M past pd (extV (ev e x) i)) (d < nt ∧ WDraw P T nt ops r s ((d, .tup []) :: e) na M past pd Kn) := D_op rfl rfl (x := extV (ev e x) i) (by simp only [vop]; rw [ev_op (by simp [Op.operands])]; cases ev e x <;> rfl)
theorem D_pick {c a b : Operand} : WDraw P T nt ops ({ dst := some d, op := .pick c a b, type := ty, pos := p, after := af, guard := gd } :: r) (⟨false, bk, fw⟩ :: s) e na M past pd Kn = Gd ops gd e (DPut P T nt ops r s Kn d e na M past pd (pickV (ev e c) (ev e a) (ev e b))) (d < nt ∧ WDraw P T nt ops r s ((d, .tup []) :: e) na M past pd Kn) := D_op rfl rfl (x := pickV (ev e c) (ev e a) (ev e b)) (by 
  simp only [vop, pickV]
  rw [ev_op (x := c) (by simp [Op.operands]), ev_op (x := a) (by simp [Op.operands]), ev_op (x := b) (by simp [Op.operands])]
  generalize ev e c = u
  split
  ·rfl
  ·rename_i hn
   split
   ·rename_i t; exact absurd rfl (hn t)
   ·rfl)
theorem map_ev {vs : List Nat} : ∀ {l : List Operand}, (∀ x ∈ l, ∀ t, x = .tmp t → t ∈ vs) → l.map (ev (prune vs e)) = l.map (ev e)
 | [], _ => rfl
 | x :: l, h => by rw [List.map_cons, List.map_cons, ev_prune (h x (by simp)), map_ev fun y hy => h y (by simp [hy])]
theorem map_ev2 {vs : List Nat} : ∀ {l : List (Nat × Operand)}, (∀ x ∈ l, ∀ t, x.2 = .tmp t → t ∈ vs) → (l.map fun p => (p.1, ev (prune vs e) p.2)) = l.map fun p => (p.1, ev e p.2)
 | [], _ => rfl
 | x :: l, h => by rw [List.map_cons, List.map_cons, ev_prune (h x (by simp)), map_ev2 fun y hy => h y (by simp [hy])]
theorem map_evo {vs : List Nat} {o : Option Operand} (h : ∀ x ∈ o, ∀ t, x = .tmp t → t ∈ vs) : o.map (ev (prune vs e)) = o.map (ev e) := by
 cases o with
 | none => rfl
 | some x => rw [Option.map_some, Option.map_some, ev_prune (h x rfl)]
theorem D_build {t : TypeId} {parts : Array (Nat × Operand)} : WDraw P T nt ops ({ dst := some d, op := .build t parts, type := ty, pos := p, after := af, guard := gd } :: r) (⟨false, bk, fw⟩ :: s) e na M past pd Kn = Gd ops gd e (DPut P T nt ops r s Kn d e na M past pd (vbuild T t (parts.toList.map fun p => (p.1, ev e p.2)))) (d < nt ∧ WDraw P T nt ops r s ((d, .tup []) :: e) na M past pd Kn) := D_op rfl rfl (x := vbuild T t (parts.toList.map fun p => (p.1, ev e p.2))) (by simp only [vop]; rw [map_ev2 fun x hx => tmps_mem (by simp only [Op.operands]; exact List.mem_map.2 ⟨x, by simpa using hx, rfl⟩)])
theorem D_buildSlice {t n : TypeId} {parts : Array (Nat × Operand)} (hs : T.ownS t n = false) : WDraw P T nt ops ({ dst := some d, op := .buildSlice t n parts, type := ty, pos := p, after := af, guard := gd } :: r) (⟨false, bk, fw⟩ :: s) e na M past pd Kn = Gd ops gd e (DPut P T nt ops r s Kn d e na M past pd (vbuildSlice T t n (parts.toList.map fun p => (p.1, ev e p.2)))) (d < nt ∧ WDraw P T nt ops r s ((d, .tup []) :: e) na M past pd Kn) := D_op rfl rfl (x := vbuildSlice T t n (parts.toList.map fun p => (p.1, ev e p.2))) (by simp only [vop, hs, cond_false]; rw [map_ev2 fun x hx => tmps_mem (by simp only [Op.operands]; exact List.mem_map.2 ⟨x, by simpa using hx, rfl⟩)])
theorem D_slice {t : TypeId} {x : Operand} {lo hi : Option Operand} : WDraw P T nt ops ({ dst := some d, op := .slice t x lo hi none, type := ty, pos := p, after := af, guard := gd } :: r) (⟨false, bk, fw⟩ :: s) e na M past pd Kn = Gd ops gd e (DPut P T nt ops r s Kn d e na M past pd (vslice T t (ev e x) (lo.map (ev e)) (hi.map (ev e)))) (d < nt ∧ WDraw P T nt ops r s ((d, .tup []) :: e) na M past pd Kn) := D_op rfl rfl (x := vslice T t (ev e x) (lo.map (ev e)) (hi.map (ev e))) (by simp only [vop]; rw [ev_op (by simp [Op.operands]), map_evo fun x hx => tmps_mem (by cases hx; simp [Op.operands]), map_evo fun x hx => tmps_mem (by cases hx; simp [Op.operands])])
def funcV (f : Fn) (first caps : List VV) : Option VV := bif first.all isCell && caps.all isCell then some (.fn f first caps) else none
theorem D_makeFunc {f : Fn} {first caps : Array Operand} : WDraw P T nt ops ({ dst := some d, op := .makeFunc f first caps, type := ty, pos := p, after := af, guard := gd } :: r) (⟨false, bk, fw⟩ :: s) e na M past pd Kn = Gd ops gd e (DPut P T nt ops r s Kn d e na M past pd (funcV f (first.toList.map (ev e)) (caps.toList.map (ev e)))) (d < nt ∧ WDraw P T nt ops r s ((d, .tup []) :: e) na M past pd Kn) := D_op rfl rfl (x := funcV f (first.toList.map (ev e)) (caps.toList.map (ev e))) (by simp only [vop, funcV]; rw [map_ev fun x hx => tmps_mem (by simp only [Op.operands]; simp at hx ⊢; exact .inl hx), map_ev fun x hx => tmps_mem (by simp only [Op.operands]; simp at hx ⊢; exact .inr hx)]; cases (first.toList.map (ev e)).all isCell && (caps.toList.map (ev e)).all isCell <;> rfl)
def DRead (P : Program) (T : Tab) (nt : Nat) (ops : Array Oper) (r : List Oper) (s : List Info) (Kn : Env → Mem → Prop) (bk fw d : Nat) (e : Env) (na : Nat) (M : Mem) (past : List Mem) (pd : Pds) (g : Mem → Option VV) : Option VV → Prop
 | some v => d < nt ∧ Back (fun M => g M = some v) bk past ∧ WDraw P T nt ops r s ((d, v) :: e) na M past (pdPush fw (fun M => g M = some v) pd) Kn
 | none => False
theorem DRead_some {g : Mem → Option VV} {v : VV} : DRead P T nt ops r s Kn bk fw d e na M past pd g (some v) = (d < nt ∧ Back (fun M => g M = some v) bk past ∧ WDraw P T nt ops r s ((d, v) :: e) na M past (pdPush fw (fun M => g M = some v) pd) Kn) := rfl
theorem D_rd {op : Go.Op} (hA : isA { dst := some d, op := op, type := ty, pos := p, after := af, guard := gd } = false) (hr : rdr op = true) {g : Mem → Option VV}
  (hv : ∀ M, vop T op (ev (prune (tmpsOf ops { dst := some d, op := op, type := ty, pos := p, after := af, guard := gd }) e)) M = (g M).map (·, M)) :
  WDraw P T nt ops ({ dst := some d, op := op, type := ty, pos := p, after := af, guard := gd } :: r) (⟨false, bk, fw⟩ :: s) e na M past pd Kn = Gd ops gd e (DRead P T nt ops r s Kn bk fw d e na M past pd g (g M)) (d < nt ∧ WDraw P T nt ops r s ((d, .tup []) :: e) na M past pd Kn) := by
 simp only [WDraw, hA, hr, Bool.false_eq_true, if_false, hv, if_true]
 have hB : (match vput nt (some d) (.tup []) e with
   | some e' => WDraw P T nt ops r s e' na M past pd Kn
   | none => False) = (d < nt ∧ WDraw P T nt ops r s ((d, .tup []) :: e) na M past pd Kn) := vput_some nt d (.tup []) e fun e' => WDraw P T nt ops r s e' na M past pd Kn
 rw [← hB]
 have hX : DRead P T nt ops r s Kn bk fw d e na M past pd g (g M) = (match (g M).map (·, M) with
   | some (v, M') => M' = M ∧ (match vput nt (some d) v e with
    | some e' => Back (fun M => (g M).map (·, M) = some (v, M)) bk past ∧ WDraw P T nt ops r s e' na M past (pdPush fw (fun M => (g M).map (·, M) = some (v, M)) pd) Kn
    | none => False)
   | none => False) := by
  cases g M with
  | none => rfl
  | some v =>
   have hg : ∀ M : Mem, ((g M).map (·, M) = some (v, M)) = (g M = some v) := fun M => by
    cases g M with
    | none => simp
    | some u => simp
   simp only [Option.map_some, true_and, hg]
   exact (vput_some nt d v e fun e' => Back (fun M => g M = some v) bk past ∧ WDraw P T nt ops r s e' na M past (pdPush fw (fun M => g M = some v) pd) Kn).symm
 rw [hX]
 exact vwanted_gd (o := { dst := some d, op := op, type := ty, pos := p, after := af, guard := gd })
theorem D_load {t : TypeId} {x : Operand} : WDraw P T nt ops ({ dst := some d, op := .load t x, type := ty, pos := p, after := af, guard := gd } :: r) (⟨false, bk, fw⟩ :: s) e na M past pd Kn = Gd ops gd e (DRead P T nt ops r s Kn bk fw d e na M past pd (fun M => vload T t (ev e x) M) (vload T t (ev e x) M)) (d < nt ∧ WDraw P T nt ops r s ((d, .tup []) :: e) na M past pd Kn) := D_rd rfl rfl (g := fun M => vload T t (ev e x) M) fun M => by simp only [vop]; rw [ev_op (by simp [Op.operands])]
theorem D_len {t : TypeId} {x : Operand} : WDraw P T nt ops ({ dst := some d, op := .call { callee := .builtin .len, args := #[x], argTypes := #[t] }, type := ty, pos := p, after := af, guard := gd } :: r) (⟨false, bk, fw⟩ :: s) e na M past pd Kn = Gd ops gd e (DRead P T nt ops r s Kn bk fw d e na M past pd (fun M => vlen T t (ev e x) M) (vlen T t (ev e x) M)) (d < nt ∧ WDraw P T nt ops r s ((d, .tup []) :: e) na M past pd Kn) := D_rd rfl rfl (g := fun M => vlen T t (ev e x) M) fun M => by simp only [vop]; rw [ev_op (by simp [Op.operands, Call.operands])]
theorem D_lookup {t : TypeId} {x k : Operand} {ok : Bool} : WDraw P T nt ops ({ dst := some d, op := .lookup t x k ok, type := ty, pos := p, after := af, guard := gd } :: r) (⟨false, bk, fw⟩ :: s) e na M past pd Kn = Gd ops gd e (DRead P T nt ops r s Kn bk fw d e na M past pd (fun M => vlookup T t (ev e x) (ev e k) ok M) (vlookup T t (ev e x) (ev e k) ok M)) (d < nt ∧ WDraw P T nt ops r s ((d, .tup []) :: e) na M past pd Kn) := D_rd rfl rfl (g := fun M => vlookup T t (ev e x) (ev e k) ok M) fun M => by simp only [vop]; rw [ev_op (by simp [Op.operands]), ev_op (by simp [Op.operands])]
theorem D_max1 {x y : Operand} {ts : Array TypeId} : WDraw P T nt ops ({ dst := some d, op := .call { callee := .builtin .max, args := #[x, y], argTypes := ts }, type := ty, pos := p, after := af, guard := gd } :: r) (⟨false, bk, fw⟩ :: s) e na M past pd Kn = Gd ops gd e (DRead P T nt ops r s Kn bk fw d e na M past pd (fun M => vexts true (ev e x) [ev e y]) (vexts true (ev e x) [ev e y])) (d < nt ∧ WDraw P T nt ops r s ((d, .tup []) :: e) na M past pd Kn) := D_rd rfl rfl (g := fun M => vexts true (ev e x) [ev e y]) fun M => by simp only [vop]; rw [ev_op (by simp [Op.operands, Call.operands]), map_ev fun z hz => tmps_mem (by simp [Op.operands, Call.operands] at hz ⊢; simp [hz])]; rfl
theorem D_min1 {x y : Operand} {ts : Array TypeId} : WDraw P T nt ops ({ dst := some d, op := .call { callee := .builtin .min, args := #[x, y], argTypes := ts }, type := ty, pos := p, after := af, guard := gd } :: r) (⟨false, bk, fw⟩ :: s) e na M past pd Kn = Gd ops gd e (DRead P T nt ops r s Kn bk fw d e na M past pd (fun M => vexts false (ev e x) [ev e y]) (vexts false (ev e x) [ev e y])) (d < nt ∧ WDraw P T nt ops r s ((d, .tup []) :: e) na M past pd Kn) := D_rd rfl rfl (g := fun M => vexts false (ev e x) [ev e y]) fun M => by simp only [vop]; rw [ev_op (by simp [Op.operands, Call.operands]), map_ev fun z hz => tmps_mem (by simp [Op.operands, Call.operands] at hz ⊢; simp [hz])]; rfl
theorem D_e {op : Go.Op} (hA : isA { dst := some d, op := op, type := ty, pos := p, after := af, guard := gd } = false) {A : Prop}
  (hv : (∃ v M', WOp P T { dst := some d, op := op, type := ty, pos := p, after := af, guard := gd } (prune (tmpsOf ops { dst := some d, op := op, type := ty, pos := p, after := af, guard := gd }) e) M (fun v' M'' => v' = v ∧ M'' = M') ∧ pdOk pd M' ∧ d < nt ∧ WDraw P T nt ops r s ((d, v) :: e) na M' (M :: past) (pdTick pd) Kn) = A) :
  WDraw P T nt ops ({ dst := some d, op := op, type := ty, pos := p, after := af, guard := gd } :: r) (⟨true, bk, fw⟩ :: s) e na M past pd Kn = Gd ops gd e A (pdOk pd M ∧ d < nt ∧ WDraw P T nt ops r s ((d, .tup []) :: e) na M (M :: past) (pdTick pd) Kn) := by
 simp only [WDraw, hA, Bool.false_eq_true, if_false, if_true]
 have hB : (match vput nt (some d) (.tup []) e with
   | some e' => pdOk pd M ∧ WDraw P T nt ops r s e' na M (M :: past) (pdTick pd) Kn
   | none => False) = (pdOk pd M ∧ d < nt ∧ WDraw P T nt ops r s ((d, .tup []) :: e) na M (M :: past) (pdTick pd) Kn) :=
  (vput_some nt d (.tup []) e fun e' => pdOk pd M ∧ WDraw P T nt ops r s e' na M (M :: past) (pdTick pd) Kn).trans (propext ⟨fun ⟨h1, h2, h3⟩ => ⟨h2, h1, h3⟩, fun ⟨h1, h2, h3⟩ => ⟨h2, h1, h3⟩⟩)
 have hX : (∃ v M', WOp P T { dst := some d, op := op, type := ty, pos := p, after := af, guard := gd } (prune (tmpsOf ops { dst := some d, op := op, type := ty, pos := p, after := af, guard := gd }) e) M (fun v' M'' => v' = v ∧ M'' = M') ∧ pdOk pd M' ∧ (match vput nt (some d) v e with
   | some e' => WDraw P T nt ops r s e' na M' (M :: past) (pdTick pd) Kn
   | none => False)) = A := by
  rw [← hv]
  congr 1
  funext v
  congr 1
  funext M'
  refine congrArg (_ ∧ ·) (congrArg (_ ∧ ·) ?_)
  exact vput_some nt d v e fun e' => WDraw P T nt ops r s e' na M' (M :: past) (pdTick pd) Kn
 rw [← hX, ← hB]
 exact vwanted_gd (o := { dst := some d, op := op, type := ty, pos := p, after := af, guard := gd })
def DThen (P : Program) (T : Tab) (nt : Nat) (ops : Array Oper) (r : List Oper) (s : List Info) (Kn : Env → Mem → Prop) (d : Nat) (e : Env) (na : Nat) (M : Mem) (past : List Mem) (pd : Pds) (v : VV) (M' : Mem) : Prop := pdOk pd M' ∧ d < nt ∧ WDraw P T nt ops r s ((d, v) :: e) na M' (M :: past) (pdTick pd) Kn
theorem DThen_app {v : VV} {M' : Mem} : DThen P T nt ops r s Kn d e na M past pd v M' = (pdOk pd M' ∧ d < nt ∧ WDraw P T nt ops r s ((d, v) :: e) na M' (M :: past) (pdTick pd) Kn) := rfl
def DPutM (P : Program) (T : Tab) (nt : Nat) (ops : Array Oper) (r : List Oper) (s : List Info) (Kn : Env → Mem → Prop) (d : Nat) (e : Env) (na : Nat) (M : Mem) (past : List Mem) (pd : Pds) : Option (VV × Mem) → Prop
 | some (v, M') => pdOk pd M' ∧ d < nt ∧ WDraw P T nt ops r s ((d, v) :: e) na M' (M :: past) (pdTick pd) Kn
 | none => False
theorem DPutM_some {v : VV} {M' : Mem} : DPutM P T nt ops r s Kn d e na M past pd (some (v, M')) = (pdOk pd M' ∧ d < nt ∧ WDraw P T nt ops r s ((d, v) :: e) na M' (M :: past) (pdTick pd) Kn) := rfl
def DStore (P : Program) (T : Tab) (nt : Nat) (ops : Array Oper) (r : List Oper) (s : List Info) (Kn : Env → Mem → Prop) (e : Env) (na : Nat) (M : Mem) (past : List Mem) (pd : Pds) : Option Mem → Prop
 | some M' => pdOk pd M' ∧ WDraw P T nt ops r s e na M' (M :: past) (pdTick pd) Kn
 | none => False
theorem DStore_some {M' : Mem} : DStore P T nt ops r s Kn e na M past pd (some M') = (pdOk pd M' ∧ WDraw P T nt ops r s e na M' (M :: past) (pdTick pd) Kn) := rfl
def DCallK (P : Program) (fv : VV) (args : List VV) (M : Mem) (R : VV → Mem → Prop) : Prop := ∃ v M', VCall P fv args M (fun v' M'' => v' = v ∧ M'' = M') ∧ R v M'
theorem D_call {f : Operand} {args : Array Operand} {ts : Array TypeId} : WDraw P T nt ops ({ dst := some d, op := .call { callee := .value f, args := args, argTypes := ts }, type := ty, pos := p, after := af, guard := gd } :: r) (⟨true, bk, fw⟩ :: s) e na M past pd Kn =
  Gd ops gd e (DCallK P (ev e f) (args.toList.map (ev e)) M (DThen P T nt ops r s Kn d e na M past pd)) (pdOk pd M ∧ d < nt ∧ WDraw P T nt ops r s ((d, .tup []) :: e) na M (M :: past) (pdTick pd) Kn) := by
 refine D_e rfl ?_
 have hops : ∀ x, x = f ∨ x ∈ args.toList → x ∈ (Op.call { callee := .value f, args := args, argTypes := ts }).operands.toList := fun x hx => by simpa [Op.operands, Call.operands] using hx
 simp only [WOp]
 rw [ev_op (by exact hops f (.inl rfl)), map_ev fun x hx => tmps_mem (by exact hops x (.inr hx))]
 rfl
theorem D_eff {op : Go.Op} (hA : isA { dst := some d, op := op, type := ty, pos := p, after := af, guard := gd } = false) (hc : ∀ f args types, op ≠ .call { callee := .value f, args := args, argTypes := types }) {x : Option (VV × Mem)}
  (hv : vop T op (ev (prune (tmpsOf ops { dst := some d, op := op, type := ty, pos := p, after := af, guard := gd }) e)) M = x) :
  WDraw P T nt ops ({ dst := some d, op := op, type := ty, pos := p, after := af, guard := gd } :: r) (⟨true, bk, fw⟩ :: s) e na M past pd Kn = Gd ops gd e (DPutM P T nt ops r s Kn d e na M past pd x) (pdOk pd M ∧ d < nt ∧ WDraw P T nt ops r s ((d, .tup []) :: e) na M (M :: past) (pdTick pd) Kn) := by
 have h0 : DPutM P T nt ops r s Kn d e na M past pd x = ∃ v M', x = some (v, M') ∧ pdOk pd M' ∧ d < nt ∧ WDraw P T nt ops r s ((d, v) :: e) na M' (M :: past) (pdTick pd) Kn := by
  cases x with
  | none => simp [DPutM]
  | some q =>
   obtain ⟨a, b⟩ := q
   apply propext
   constructor
   ·intro h; exact ⟨a, b, rfl, h⟩
   ·rintro ⟨v, M', he, h⟩; cases he; exact h
 rw [h0]
 clear h0
 refine D_e hA ?_
 congr 1
 funext v
 congr 1
 funext M'
 rw [WOp_v hc]
 simp only [hv]
 clear hv
 have h1 : (match x with
   | some (v', M'') => v' = v ∧ M'' = M'
   | none => False) = (x = some (v, M')) := by
  cases x with
  | none => simp
  | some q => obtain ⟨a, b⟩ := q; simp
 exact congrArg (· ∧ _) h1
theorem D_append {a x : Operand} {t : TypeId} : WDraw P T nt ops ({ dst := some d, op := .call { callee := .builtin .append, args := #[a, x], argTypes := #[t, t] }, type := ty, pos := p, after := af, guard := gd } :: r) (⟨true, bk, fw⟩ :: s) e na M past pd Kn = Gd ops gd e (DPutM P T nt ops r s Kn d e na M past pd (vappend T t (ev e a) (ev e x) M)) (pdOk pd M ∧ d < nt ∧ WDraw P T nt ops r s ((d, .tup []) :: e) na M (M :: past) (pdTick pd) Kn) :=
 D_eff rfl (by intros; simp) (by simp only [vop, if_true]; rw [ev_op (by simp [Op.operands, Call.operands]), ev_op (by simp [Op.operands, Call.operands])])
theorem D_makeSlice {t : TypeId} {l c : Operand} : WDraw P T nt ops ({ dst := some d, op := .makeSlice t l c, type := ty, pos := p, after := af, guard := gd } :: r) (⟨true, bk, fw⟩ :: s) e na M past pd Kn = Gd ops gd e (DPutM P T nt ops r s Kn d e na M past pd (vmakeSlice T t (ev e l) (ev e c) M)) (pdOk pd M ∧ d < nt ∧ WDraw P T nt ops r s ((d, .tup []) :: e) na M (M :: past) (pdTick pd) Kn) :=
 D_eff rfl (by intros; simp) (by simp only [vop]; rw [ev_op (by simp [Op.operands]), ev_op (by simp [Op.operands])])
def boxV (v : VV) (M : Mem) : Option (VV × Mem) := bif (cellsOf v).all isCell then some (.ptr M.H.length 0, M.push (.obj (cellsOf v))) else none
theorem D_box {t : TypeId} {x : Operand} : WDraw P T nt ops ({ dst := some d, op := .box t x, type := ty, pos := p, after := af, guard := gd } :: r) (⟨true, bk, fw⟩ :: s) e na M past pd Kn = Gd ops gd e (DPutM P T nt ops r s Kn d e na M past pd (boxV (ev e x) M)) (pdOk pd M ∧ d < nt ∧ WDraw P T nt ops r s ((d, .tup []) :: e) na M (M :: past) (pdTick pd) Kn) :=
 D_eff rfl (by intros; simp) (by simp only [vop, boxV]; rw [ev_op (by simp [Op.operands])])
theorem D_st {op : Go.Op} (hA : isA { dst := none, op := op, type := ty, pos := p, after := af, guard := gd } = false) (hc : ∀ f args types, op ≠ .call { callee := .value f, args := args, argTypes := types }) {x : Option Mem}
  (hv : vop T op (ev (prune (tmpsOf ops { dst := none, op := op, type := ty, pos := p, after := af, guard := gd }) e)) M = x.map (.tup [], ·)) :
  WDraw P T nt ops ({ dst := none, op := op, type := ty, pos := p, after := af, guard := gd } :: r) (⟨true, bk, fw⟩ :: s) e na M past pd Kn = Gd ops gd e (DStore P T nt ops r s Kn e na M past pd x) (pdOk pd M ∧ WDraw P T nt ops r s e na M (M :: past) (pdTick pd) Kn) := by
 simp only [WDraw, hA, Bool.false_eq_true, if_false, if_true, vput]
 simp only [WOp_v (o := { dst := none, op := op, type := ty, pos := p, after := af, guard := gd }) hc, hv]
 clear hv
 have h1 : DStore P T nt ops r s Kn e na M past pd x = (∃ v M', (match x.map ((.tup [] : VV), ·) with
   | some (v', M'') => v' = v ∧ M'' = M'
   | none => False) ∧ pdOk pd M' ∧ WDraw P T nt ops r s e na M' (M :: past) (pdTick pd) Kn) := by
  cases x with
  | none => simp [DStore]
  | some M1 =>
   apply propext
   constructor
   ·rintro ⟨h1, h2⟩
    exact ⟨_, _, ⟨rfl, rfl⟩, h1, h2⟩
   ·rintro ⟨v, M', ⟨rfl, rfl⟩, h1, h2⟩
    exact ⟨h1, h2⟩
 rw [h1]
 exact vwanted_gd (o := { dst := none, op := op, type := ty, pos := p, after := af, guard := gd })
theorem D_store {t : TypeId} {a x : Operand} : WDraw P T nt ops ({ dst := none, op := .store t a x, type := ty, pos := p, after := af, guard := gd } :: r) (⟨true, bk, fw⟩ :: s) e na M past pd Kn = Gd ops gd e (DStore P T nt ops r s Kn e na M past pd (vstore T t (ev e a) (ev e x) M)) (pdOk pd M ∧ WDraw P T nt ops r s e na M (M :: past) (pdTick pd) Kn) :=
 D_st rfl (by intros; simp) (by simp only [vop]; rw [ev_op (by simp [Op.operands]), ev_op (by simp [Op.operands])])
theorem D_mapUpdate {t : TypeId} {a k x : Operand} : WDraw P T nt ops ({ dst := none, op := .mapUpdate t a k x, type := ty, pos := p, after := af, guard := gd } :: r) (⟨true, bk, fw⟩ :: s) e na M past pd Kn = Gd ops gd e (DStore P T nt ops r s Kn e na M past pd (vmapUpdate T t (ev e a) (ev e k) (ev e x) M)) (pdOk pd M ∧ WDraw P T nt ops r s e na M (M :: past) (pdTick pd) Kn) :=
 D_st rfl (by intros; simp) (by simp only [vop]; rw [ev_op (by simp [Op.operands]), ev_op (by simp [Op.operands]), ev_op (by simp [Op.operands])])
def mapV (T : Tab) (t : Nat) (M : Mem) : Option (VV × Mem) := match T.ty t with
 | some { d := .map kt _, .. } => match T.ty kt with
  | some ky => some (.mp M.H.length, M.push (.mpo (shOf ky) []))
  | none => none
 | _ => none
theorem D_makeMap {t : TypeId} : WDraw P T nt ops ({ dst := some d, op := .makeMap t none, type := ty, pos := p, after := af, guard := gd } :: r) (⟨true, bk, fw⟩ :: s) e na M past pd Kn = Gd ops gd e (DPutM P T nt ops r s Kn d e na M past pd (mapV T t M)) (pdOk pd M ∧ d < nt ∧ WDraw P T nt ops r s ((d, .tup []) :: e) na M (M :: past) (pdTick pd) Kn) :=
 D_eff rfl (by intros; simp) (by rfl)
theorem D_alloc {t : TypeId} {y : Ty} (hy : T.ty t = some y) : WDraw P T nt ops ({ dst := some d, op := .alloc t, type := ty, pos := p, after := af, guard := gd } :: r) (⟨false, bk, fw⟩ :: s) e na M past pd Kn = Gd ops gd e (d < nt ∧ M.H[na]? = some (.obj (y.zero.map ofValue)) ∧ Back (fun M => M.H[na]? = some (.obj (y.zero.map ofValue))) past.length past ∧
   WDraw P T nt ops r s ((d, .ptr na 0) :: e) (na + 1) M past (pdPush fw (fun M => M.H[na]? = some (.obj (y.zero.map ofValue))) pd) Kn) (d < nt ∧ WDraw P T nt ops r s ((d, .tup []) :: e) na M past pd Kn) := by
 simp only [WDraw, isA, if_true, hy, Bool.false_eq_true, if_false]
 have hA : (match vput nt (some d) (.ptr na 0) e with
   | some e' => M.H[na]? = some (VObj.obj (y.zero.map ofValue)) ∧ Back (fun M => M.H[na]? = some (VObj.obj (y.zero.map ofValue))) past.length past ∧ WDraw P T nt ops r s e' (na + 1) M past (pdPush fw (fun M => M.H[na]? = some (VObj.obj (y.zero.map ofValue))) pd) Kn
   | none => False) = (d < nt ∧ M.H[na]? = some (VObj.obj (y.zero.map ofValue)) ∧ Back (fun M => M.H[na]? = some (VObj.obj (y.zero.map ofValue))) past.length past ∧ WDraw P T nt ops r s ((d, .ptr na 0) :: e) (na + 1) M past (pdPush fw (fun M => M.H[na]? = some (VObj.obj (y.zero.map ofValue))) pd) Kn) := vput_some nt d (.ptr na 0) e fun e' => M.H[na]? = some (VObj.obj (y.zero.map ofValue)) ∧ Back (fun M => M.H[na]? = some (VObj.obj (y.zero.map ofValue))) past.length past ∧ WDraw P T nt ops r s e' (na + 1) M past (pdPush fw (fun M => M.H[na]? = some (VObj.obj (y.zero.map ofValue))) pd) Kn
 have hB : (match vput nt (some d) (.tup []) e with
   | some e' => WDraw P T nt ops r s e' na M past pd Kn
   | none => False) = (d < nt ∧ WDraw P T nt ops r s ((d, .tup []) :: e) na M past pd Kn) := vput_some nt d (.tup []) e fun e' => WDraw P T nt ops r s e' na M past pd Kn
 rw [← hA, ← hB]
 exact vwanted_gd (o := { dst := some d, op := .alloc t, type := ty, pos := p, after := af, guard := gd })
def DAl (P : Program) (T : Tab) (nt : Nat) (ops : Array Oper) (r : List Oper) (s : List Info) (Kn : Env → Mem → Prop) (fw d : Nat) (e : Env) (na : Nat) (M : Mem) (past : List Mem) (pd : Pds) : Option Ty → Prop
 | some y => d < nt ∧ M.H[na]? = some (.obj (y.zero.map ofValue)) ∧ Back (fun M => M.H[na]? = some (.obj (y.zero.map ofValue))) past.length past ∧ WDraw P T nt ops r s ((d, .ptr na 0) :: e) (na + 1) M past (pdPush fw (fun M => M.H[na]? = some (.obj (y.zero.map ofValue))) pd) Kn
 | none => False
theorem DAl_some {y : Ty} : DAl P T nt ops r s Kn fw d e na M past pd (some y) = (d < nt ∧ M.H[na]? = some (.obj (y.zero.map ofValue)) ∧ Back (fun M => M.H[na]? = some (.obj (y.zero.map ofValue))) past.length past ∧ WDraw P T nt ops r s ((d, .ptr na 0) :: e) (na + 1) M past (pdPush fw (fun M => M.H[na]? = some (.obj (y.zero.map ofValue))) pd) Kn) := rfl
theorem D_allocT {t : TypeId} : WDraw P T nt ops ({ dst := some d, op := .alloc t, type := ty, pos := p, after := af, guard := gd } :: r) (⟨false, bk, fw⟩ :: s) e na M past pd Kn = Gd ops gd e (DAl P T nt ops r s Kn fw d e na M past pd (T.ty t)) (d < nt ∧ WDraw P T nt ops r s ((d, .tup []) :: e) na M past pd Kn) := by
 cases hy : T.ty t with
 | some y => exact D_alloc hy
 | none =>
  simp only [WDraw, isA, if_true, hy, Bool.false_eq_true, if_false]
  have hB : (match vput nt (some d) (.tup []) e with
   | some e' => WDraw P T nt ops r s e' na M past pd Kn
   | none => False) = (d < nt ∧ WDraw P T nt ops r s ((d, .tup []) :: e) na M past pd Kn) := vput_some nt d (.tup []) e fun e' => WDraw P T nt ops r s e' na M past pd Kn
  rw [← hB]
  exact vwanted_gd (o := { dst := some d, op := .alloc t, type := ty, pos := p, after := af, guard := gd })
theorem D_nil : WDraw P T nt ops [] [] e na M past pd Kn = Kn e M := by simp only [WDraw]
end
end Go.Proofs.YtnjgdlmddlinaaaDoor.Vm

/- A machine on values: a nil slice is as good as one of our own without a row. -/
namespace Go.Proofs.YtnjgdlmddlinaaaDoor.Vm
open Go

section
variable {P : Program} {T : Tab} {cx : Cx} {e : Env} {M : Mem} {D : List Nat} {Q : PQ} {c : Code}
theorem calm_refl (w : World) : Calm w w := ⟨rfl, rfl, rfl, Nat.le_refl _⟩
theorem so_of_sf {w : World} {K : Nat → Option Nat} {H : List VObj} {v : Value} {g k k0 : Nat} (h : RepV w K H v (.sf k0 [])) (hg : H[g]? = some (.clm 0 k)) (hK : K g = none) : RepV w K H v (.so g k []) := by
 cases h with
 | sf A _ _ h0 =>
  refine .so _ _ _ _ (.sl A 0 k 0 0 [] (fun _ _ => undef) (Nat.le_refl _) (by simp [maxLen]) (fun x hx => by cases hx) (fun hx => absurd rfl hx) (fun i x j u hx => by simp at hx) (fun i x j u hx => by simp at hx) (fun i x j u hx => by simp at hx)) ?_
  intro m k' hm
  rw [hg] at hm
  cases hm
  exact ⟨Nat.le_refl _, fun _ => ⟨rfl, .inr ⟨hK, rfl, A, rfl⟩⟩⟩
theorem W_tok {t k k0 : Nat} (ht : get e t = .sf k0 []) (h : WCode P cx c ((t, .so M.H.length k []) :: e) (M.push (.clm 0 k)) D Q) : WCode P cx c e M D Q := by
 intro G w K a hs
 obtain ⟨e1, i1⟩ := step_new (w' := w) hs.inv (calm_refl w) (fun _ _ => rfl) (.clm 0 k) none (fun b e => by cases e) (fun c hc => by simp [contents] at hc) (fun hE b e => by cases e)
 have hf := hs.fr.ext (M' := M.push (.clm 0 k)) e1
 have hg : (M.push (.clm 0 k)).H[M.H.length]? = some (.clm 0 k) := by simp [Mem.push]
 have hf2 : FrOk w (upd K M.H.length none) (M.push (.clm 0 k)) cx.nt a.tmps ((t, .so M.H.length k []) :: e) := by
  refine ⟨hf.size, fun t' => ?_, fun t' => ?_⟩
  ·rw [get_cons]
   by_cases h1 : t' = t
   ·subst h1
    rw [if_pos rfl]
    have := hf.rep t'
    rw [ht] at this
    exact so_of_sf this hg (upd_same _ _ _)
   ·rw [if_neg h1]; exact hf.rep t'
  ·rw [get_cons]
   by_cases h1 : t' = t
   ·rw [if_pos h1]
    intro r hr
    simp only [refs, List.mem_singleton] at hr
    subst hr
    simp [Mem.push]
   ·rw [if_neg h1]; exact hf.cl t'
 have hs2 : StOk cx G w (upd K M.H.length none) (M.push (.clm 0 k)) a ((t, .so M.H.length k []) :: e) D := ⟨hf2, df_ext (M' := M.push (.clm 0 k)) e1 hs.df, i1, (rd_ext (M' := M.push (.clm 0 k)) e1 hs.rd).1⟩
 have h2 := h G w _ a hs2
 rw [(rd_ext (M' := M.push (.clm 0 k)) e1 hs.rd).2] at h2
 exact wpIn_mono h2 fun ex a' w' ⟨e', M', K', D', q1, q2, q3, q4⟩ => ⟨e', M', K', D', q1, q2, q3, e1.trans q4⟩
theorem W_ghost {id off k k0 : Nat} {cs : List VV} (ho : M.H[id]? = some (.obj cs)) (hc : cs[off]? = some (.sf k0 [])) (h : WCode P cx c e ⟨M.H.set id (.obj (cs.set off (.so M.H.length k []))) ++ [.clm 0 k], M.lg ++ [(id, M.H.length)]⟩ D Q) : WCode P cx c e M D Q := by
 intro G w K a hs
 obtain ⟨e1, i1⟩ := step_new (w' := w) hs.inv (calm_refl w) (fun _ _ => rfl) (.clm 0 k) none (fun b e => by cases e) (fun c hc => by simp [contents] at hc) (fun hE b e => by cases e)
 replace e1 : Ext w K M.H w (upd K M.H.length none) (M.push (.clm 0 k)).H := e1
 have hil := (List.getElem?_eq_some_iff.1 ho).1
 have ho1 : (M.push (.clm 0 k)).H[id]? = some (.obj cs) := by
  show (M.H ++ [_])[id]? = _
  rw [List.getElem?_append_left hil, ho]
 have hK : upd K M.H.length none M.H.length = none := upd_same _ _ _
 have hH : M.H.set id (.obj (cs.set off (.so M.H.length k []))) ++ [.clm 0 k] = (M.push (.clm 0 k)).H.set id (.obj (cs.set off (.so M.H.length k []))) := by
  show _ = (M.H ++ [_]).set id _
  rw [List.set_append_left _ _ hil]
 rw [hH] at h
 generalize hM1 : M.push (.clm 0 k) = M1 at *
 have hg : M1.H[M.H.length]? = some (.clm 0 k) := by rw [← hM1]; simp [Mem.push]
 have hlen : M1.H.length = M.H.length + 1 := by rw [← hM1]; simp [Mem.push]
 have hlg1 : M1.lg = M.lg := by rw [← hM1]; rfl
 generalize hK1 : upd K M.H.length none = K1 at *
 generalize hg0 : M.H.length = g at *
 have hne : id ≠ g := by omega
 have hs2 : ∀ j x, (M1.H.set id (.obj (cs.set off (.so g k []))))[j]? = some x → (j = id ∧ x = .obj (cs.set off (.so g k []))) ∨ (j ≠ id ∧ M1.H[j]? = some x) := fun j x hx => by
  rcases set_get hx with ⟨rfl, rfl, _⟩ | ⟨h1, h2⟩
  ·exact .inl ⟨rfl, rfl⟩
  ·exact .inr ⟨h1, h2⟩
 have hE : Ext w K1 M1.H w K1 (M1.H.set id (.obj (cs.set off (.so g k [])))) := by
  refine ⟨Nat.le_refl _, Szp.refl _, fun b o _ him i ob hi hb => ?_, fun _ _ _ _ => rfl, fun i o hi => ?_⟩
  ·rcases hs2 i ob hi with ⟨rfl, rfl⟩ | ⟨_, h2⟩
   ·rcases him i _ ho1 hb with e2 | ⟨m, k', e2, _⟩
    ·exact e2.elim
    ·cases e2
   ·exact him i ob h2 hb
  ·by_cases h1 : i = id
   ·subst h1
    rw [ho1] at hi
    cases hi
    exact ⟨.obj (cs.set off (.so g k [])), by simp [show i < M1.H.length by omega], fun _ _ e => VObj.noConfusion e, rfl⟩
   ·refine ⟨o, by rw [List.getElem?_set_ne (Ne.symm h1)]; exact hi, ?_⟩
    exact objLe_same rfl fun b _ => rfl
 have hI2 : Inv G w K1 { H := M1.H.set id (.obj (cs.set off (.so g k []))), lg := M.lg ++ [(id, g)] } := by
  refine ⟨i1.os, i1.tape, i1.output, i1.size, i1.gB, i1.old, inj_set i1 (by simp) (gone_set ho1 (fun e => by cases e)), fun i b hi => i1.blk i b (by simpa using hi), fun i o hi => ?_, fun i o hi cc hcc r hr => ?_, fun en hen => ?_, fun i L hi => ?_⟩
  ·rcases hs2 i o hi with ⟨rfl, rfl⟩ | ⟨h1, h2⟩
   ·intro b hb
    obtain ⟨vs, t, q1, q2, q3⟩ := i1.obj i _ ho1 b hb
    refine ⟨vs, t, q1, by simpa using q2, fun j v cv hv hcv => ?_⟩
    rw [List.getElem?_set] at hcv
    by_cases hj : off = j
    ·subst hj
     have hlt := (List.getElem?_eq_some_iff.1 hc).1
     rw [if_pos rfl, if_pos hlt] at hcv
     cases hcv
     obtain ⟨r1, r2⟩ := q3 off v _ hv hc
     refine ⟨so_of_sf (r1.ext hE (fun r hr => by simp [refs] at hr)) ?_ hK, r2⟩
     rw [List.getElem?_set_ne hne]
     exact hg
    ·rw [if_neg hj] at hcv
     obtain ⟨r1, r2⟩ := q3 j v cv hv hcv
     exact ⟨r1.ext hE (i1.content ho1 cv (by simp only [contents]; exact List.mem_of_getElem? hcv)), r2⟩
   ·exact (i1.obj i o h2).ext hE (fun _ _ => rfl) (i1.content h2)
  ·simp only [List.length_set]
   rcases hs2 i o hi with ⟨rfl, rfl⟩ | ⟨h1, h2⟩
   ·simp only [contents] at hcc
    rcases List.mem_or_eq_of_mem_set hcc with hm | rfl
    ·obtain ⟨a1, a2⟩ := i1.cl i _ ho1 cc (by simp only [contents]; exact hm) r hr
     exact ⟨a1, a2.imp_right fun x => List.mem_append_left _ (by rw [← hlg1]; exact x)⟩
    ·simp only [refs, List.mem_singleton] at hr
     subst hr
     exact ⟨by omega, .inr (List.mem_append_right _ (List.mem_singleton.2 rfl))⟩
   ·obtain ⟨a1, a2⟩ := i1.cl i o h2 cc hcc r hr
    exact ⟨a1, a2.imp_right fun x => List.mem_append_left _ (by rw [← hlg1]; exact x)⟩
  ·simp only [List.length_set]
   rcases List.mem_append.1 hen with hm | hm
   ·exact i1.lg en (by rw [hlg1]; exact hm)
   ·rw [List.mem_singleton] at hm
    subst hm
    exact ⟨by simp only; omega, by simp only; omega⟩
  ·rcases hs2 i _ hi with ⟨rfl, e2⟩ | ⟨_, h2⟩
   ·cases e2
   ·exact i1.lpd i L h2
 have he := e1.trans hE
 have hs3 : StOk cx G w K1 { H := M1.H.set id (.obj (cs.set off (.so g k []))), lg := M.lg ++ [(id, g)] } a e D := ⟨hs.fr.ext (M' := { H := M1.H.set id (.obj (cs.set off (.so g k []))), lg := M.lg ++ [(id, g)] }) he, df_ext (M' := { H := M1.H.set id (.obj (cs.set off (.so g k []))), lg := M.lg ++ [(id, g)] }) he hs.df, hI2, (rd_ext (M' := { H := M1.H.set id (.obj (cs.set off (.so g k []))), lg := M.lg ++ [(id, g)] }) he hs.rd).1⟩
 have h2 := h G w _ a hs3
 rw [(rd_ext (M' := { H := M1.H.set id (.obj (cs.set off (.so g k []))), lg := M.lg ++ [(id, g)] }) he hs.rd).2] at h2
 exact wpIn_mono h2 fun ex a' w' ⟨e', M', K', D', q1, q2, q3, q4⟩ => ⟨e', M', K', D', q1, q2, q3, he.trans q4⟩
end
end Go.Proofs.YtnjgdlmddlinaaaDoor.Vm
