/- A part of the proofs about the chapter of the vaults; it states no condition of its own. -/
import Derived.Test.YtnjgdlmddlinaaaDoorB07
set_option linter.unusedVariables false
set_option linter.unusedSimpArgs false
/- A machine on values: regions whose order is drawn: what is before what, and variables that come up. -/
namespace Go.Proofs.YtnjgdlmddlinaaaDoor.Vm
open Go

/-! ### what is before what -/
inductive Pre (ops : Array Oper) : Nat → Nat → Prop
 | edge {i : Nat} {o : Oper} {e : Edge} : ops[i]? = some o → e ∈ o.after → Region.binds .any e = true → Pre ops e.on i
 | trans {i j k : Nat} : Pre ops i j → Pre ops j k → Pre ops i k
def maskOf (acc : List Nat) : List Edge → Nat
 | [] => 0
 | e :: r => bif Region.binds .any e then Nat.lor (Nat.lor (Nat.shiftLeft 1 e.on) (acc.getD e.on 0)) (maskOf acc r) else maskOf acc r
def preAll : List Oper → List Nat → List Nat
 | [], acc => acc
 | o :: r, acc => preAll r (acc ++ [maskOf acc o.after.toList])
theorem maskOf_ok {ops : Array Oper} {acc : List Nat} {i : Nat} {o : Oper} (ho : ops[i]? = some o) (hacc : ∀ k j, Nat.testBit (acc.getD k 0) j = true → Pre ops j k) : ∀ (l : List Edge), (∀ e ∈ l, e ∈ o.after) → ∀ j, Nat.testBit (maskOf acc l) j = true → Pre ops j i
 | [], _, j, h => by simp [maskOf] at h
 | e :: r, hl, j, h => by
  have ih := maskOf_ok ho hacc r (fun e he => hl e (List.mem_cons_of_mem _ he)) j
  simp only [maskOf] at h
  cases hb : Region.binds .any e with
  | false => rw [hb] at h; exact ih h
  | true =>
   rw [hb] at h
   have h' : Nat.testBit ((1 <<< e.on ||| acc.getD e.on 0) ||| maskOf acc r) j = true := h
   rw [Nat.testBit_or, Nat.testBit_or, Bool.or_eq_true, Bool.or_eq_true] at h'
   have hedge : Pre ops e.on i := .edge ho (hl e (List.mem_cons_self ..)) hb
   rcases h' with (h' | h') | h'
   ·rw [Nat.one_shiftLeft, Nat.testBit_two_pow] at h'
    have : e.on = j := by simpa using h'
    exact this ▸ hedge
   ·exact .trans (hacc _ _ h') hedge
   ·exact ih h'
theorem preAll_ok {ops : Array Oper} : ∀ (l : List Oper) (acc : List Nat), (∀ j, l[j]? = ops[acc.length + j]?) → (∀ k j, Nat.testBit (acc.getD k 0) j = true → Pre ops j k) → ∀ k j, Nat.testBit ((preAll l acc).getD k 0) j = true → Pre ops j k
 | [], acc, _, hacc, k, j, h => hacc k j h
 | o :: r, acc, hl, hacc, k, j, h => by
  have ho : ops[acc.length]? = some o := by simpa using (hl 0).symm
  refine preAll_ok r _ (fun j => ?_) (fun k j h => ?_) k j h
  ·have := hl (j + 1)
   simpa [Nat.add_assoc, Nat.add_comm 1 j] using this
  ·rcases Nat.lt_trichotomy k acc.length with hk | hk | hk
   ·rw [List.getD_eq_getElem?_getD, List.getElem?_append_left hk, ← List.getD_eq_getElem?_getD] at h
    exact hacc k j h
   ·subst hk
    simp at h
    exact maskOf_ok ho hacc _ (fun e he => by simpa using he) j h
   ·rw [List.getD_eq_getElem?_getD, List.getElem?_eq_none (by simp; omega)] at h
    simp at h

def isE (o : Oper) : Bool := match o.op with
 | .call { callee := .value _, .. } => true
 | .call { callee := .builtin .append, .. } => true
 | .store .. | .mapUpdate .. | .makeMap .. | .makeSlice .. | .box .. => true
 | _ => false
def isA (o : Oper) : Bool := match o.op with
 | .alloc _ => true
 | _ => false
def tmpOf : Operand → Option Nat
 | .tmp t => some t
 | _ => none
def tmpsOf (all : Array Oper) (o : Oper) : List Nat := o.op.operands.toList.filterMap tmpOf ++ (match o.guard with
 | some (j, _) => ((all[j]?).bind (·.dst)).toList
 | none => [])
structure Info where
 e : Bool
 bk : Nat
 fw : Nat
def eIdx (ops : Array Oper) : List Nat := (List.range ops.size).filter fun i => match ops[i]? with
 | some o => isE o
 | none => false
def bitAt (pm : List Nat) (i j : Nat) : Bool := Nat.testBit (pm.getD i 0) j
def chainOk (pm : List Nat) : List Nat → Bool
 | a :: b :: r => bitAt pm b a && chainOk pm (b :: r)
 | _ => true
def opPlan (ops : Array Oper) (pm : List Nat) (E : List Nat) (i k : Nat) (o : Oper) (inf : Info) : Bool :=
 o.after.toList.all (fun e => !(Region.binds .any e) || Nat.blt e.on i) &&
 (tmpsOf ops o).all (fun t => (List.range ops.size).all fun j => match ops[j]? with
   | some o' => match o'.dst with
    | some d => !(Nat.beq d t) || bitAt pm i j || bitAt pm j i || Nat.beq j i
    | none => true
   | none => true) &&
 (inf.e == isE o) && Nat.ble inf.bk k &&
 (Nat.beq (k - inf.bk) 0 || (match E[k - inf.bk - 1]? with
   | some x => bitAt pm i x
   | none => false)) &&
 (match E[k + inf.fw]? with
   | some x => bitAt pm x i || Nat.beq x i
   | none => true) && (!(inf.e) || (Nat.beq inf.fw 0 && !(isA o) && (match E[k]? with
   | some x => Nat.beq x i
   | none => false)))
def plansOk (ops : Array Oper) (pm E : List Nat) : Nat → Nat → List Oper → List Info → Bool
 | _, k, [], [] => Nat.beq k E.length
 | i, k, o :: r, inf :: s => opPlan ops pm E i k o inf && plansOk ops pm E (i + 1) (bif inf.e then k + 1 else k) r s
 | _, _, _, _ => false
def nodupB : List Nat → Bool
 | [] => true
 | x :: r => !(r.any (Nat.beq x)) && nodupB r
def planOk (ops : Array Oper) (infs : List Info) : Bool :=
 let pm := preAll ops.toList []
 let E := eIdx ops
 plansOk ops pm E 0 0 ops.toList infs && chainOk pm E && nodupB (ops.toList.filterMap (·.dst))

/-! ### the program that makes a plan -/
def mkInfo (ops : Array Oper) (pm E : List Nat) (i k : Nat) (o : Oper) : Info :=
 bif isE o then ⟨true, 0, 0⟩ else ⟨false, k - (E.filter (fun x => bitAt pm i x)).length, (E.filter (fun x => !(bitAt pm x i))).length - k⟩
def mkInfos (ops : Array Oper) (pm E : List Nat) : Nat → Nat → List Oper → List Info
 | _, _, [] => []
 | i, k, o :: r => mkInfo ops pm E i k o :: mkInfos ops pm E (i + 1) (bif isE o then k + 1 else k) r
def mkPlan (ops : Array Oper) : List Info := mkInfos ops (preAll ops.toList []) (eIdx ops) 0 0 ops.toList

section
variable {P : Program} {T : Tab} {G : Ghost} {w : World} {K : Nat → Option Nat} {M : Mem}

theorem birth (hT : TabOk P T) (hI : Inv G w K M) {o : Oper} {ρ : Operand → Value} {id t : Nat} {y : Ty} (hop : o.op = .alloc t) (hy : T.ty t = some y) (hid : M.H[id]? = some (.obj (y.zero.map ofValue))) (hK : K id = none) :
  ∃ w', (execOp ρ o).run P w = .ok (.value (.pointer (some ⟨w.heap.size, 0, none⟩))) w' ∧ Keep (fun _ => True) w K M.H w' (upd K id (some w.heap.size)) M.H ∧ Inv G w' (upd K id (some w.heap.size)) M ∧ w.heap.size ≤ w'.heap.size ∧ ∀ b, b < w.heap.size → w'.heap[b]? = w.heap[b]? := by
 have hY := hT.ty t y hy
 have hz := run_zero' (P := P) (w := w) hY
 have hnew := heap_alloc_new w (.cells y.z.cells t)
 have hold : ∀ b, b < w.heap.size → (w.alloc (.cells y.z.cells t)).heap[b]? = w.heap[b]? := fun b hb => heap_alloc_old w _ b hb
 have hsz : w.heap.size ≤ (w.alloc (.cells y.z.cells t)).heap.size := by show w.heap.size ≤ (w.heap.push _).size; simp
 have hlt : w.heap.size < (w.alloc (.cells y.z.cells t)).heap.size := by show w.heap.size < (w.heap.push _).size; simp
 have hil := (List.getElem?_eq_some_iff.1 hid).1
 have hkeep : Keep (fun _ => True) w K M.H (w.alloc (.cells y.z.cells t)) (upd K id (some w.heap.size)) M.H := by
  refine ⟨Szp.of_old hold, fun b a hb hi => ⟨fun i ob hob hKi => ?_, World.cell?_of_block (hold b hb)⟩, fun i _ hn => ⟨fun b hb => ?_, hn⟩, fun i m k _ hm => ⟨m, hm, Nat.le_refl _, fun _ => ?_⟩⟩
  ·by_cases e : i = id
   ·subst e; rw [upd_same] at hKi; cases hKi; omega
   ·rw [upd_ne _ _ e] at hKi; exact hi i ob hob hKi
  ·by_cases e : i = id
   ·subst e; rw [hK] at hb; cases hb
   ·rw [upd_ne _ _ e]; exact hb
  ·by_cases e : i = id
   ·subst e; rw [hid] at hm; cases hm
   ·exact ⟨upd_ne _ _ e, fun b hb => hold b (hI.lt hm hb)⟩
 refine ⟨w.alloc (.cells y.z.cells t), ?_, hkeep, ?_, hsz, hold⟩
 ·obtain ⟨dst, op, type, pos, after, guard⟩ := o
  simp only at hop
  subst hop
  simp [execOp, Instr.alloc, hz, newVar, newRow]
 ·refine ⟨hI.os, hI.tape, hI.output, Nat.le_trans hI.size hsz, Nat.le_trans hI.gB hsz, fun b h1 h2 => (hold b (Nat.lt_of_lt_of_le h1 hI.gB)).trans (hI.old b h1 h2), ?_, ?_, ?_, hI.cl, hI.lg, hI.lpd⟩
  ·intro i j b hi hj n1 n2 h1 h2
   by_cases e1 : i = id <;> by_cases e2 : j = id
   ·rw [e1, e2]
   ·subst e1; rw [upd_same] at h1; cases h1; rw [upd_ne _ _ e2] at h2; have := (hI.blk j _ hj h2).1; omega
   ·subst e2; rw [upd_same] at h2; cases h2; rw [upd_ne _ _ e1] at h1; have := (hI.blk i _ hi h1).1; omega
   ·rw [upd_ne _ _ e1] at h1; rw [upd_ne _ _ e2] at h2; exact hI.inj i j b hi hj n1 n2 h1 h2
  ·intro i b hi h1
   by_cases e1 : i = id
   ·subst e1; rw [upd_same] at h1; cases h1; exact ⟨hlt, .inl hI.gB⟩
   ·rw [upd_ne _ _ e1] at h1
    exact ⟨Nat.lt_of_lt_of_le (hI.blk i b hi h1).1 hsz, (hI.blk i b hi h1).2⟩
  ·intro i o' ho
   by_cases e1 : i = id
   ·subst e1
    rw [hid] at ho
    cases ho
    rw [upd_same]
    intro b hb
    cases hb
    exact ⟨_, t, hnew, by rw [zero_cells hY]; simp, fun i u c hu hcc => by rw [zero_cells hY] at hu; exact zero_rep hY i u c hu hcc⟩
   ·rw [upd_ne _ _ e1]
    refine (hI.obj i o' ho).keep hkeep (fun b hb => hold b (hI.lt ho hb)) (fun _ _ _ _ => trivial) fun L e => ⟨trivial, ?_⟩
    subst e
    have := hI.lpd i L ho
    have := (List.getElem?_eq_some_iff.1 ho).1
    omega
end
end Go.Proofs.YtnjgdlmddlinaaaDoor.Vm

/- A machine on values: regions whose order is drawn: every order ends alike. -/
namespace Go.Proofs.YtnjgdlmddlinaaaDoor.Vm
open Go

theorem countP_lt {α : Type} {p q : α → Bool} : ∀ {l : List α}, (∀ x ∈ l, q x = true → p x = true) → (∃ x ∈ l, p x = true ∧ q x = false) → l.countP q < l.countP p
 | [], _, h => by obtain ⟨x, hx, _⟩ := h; simp at hx
 | a :: l, hpq, h => by
  have hle : l.countP q ≤ l.countP p := List.countP_mono_left fun x hx => hpq x (by simp [hx])
  rw [List.countP_cons, List.countP_cons]
  obtain ⟨x, hx, h1, h2⟩ := h
  rcases List.mem_cons.1 hx with rfl | hx
  ·simp [h1, h2]
   omega
  ·have := countP_lt (l := l) (fun x hx => hpq x (by simp [hx])) ⟨x, hx, h1, h2⟩
   have : (if q a = true then 1 else 0) ≤ (if p a = true then 1 else 0) := by
    cases hq : q a with
    | false => simp
    | true => simp [hpq a (by simp) hq]
   omega

section
variable (P : Program) (T : Tab) (nt : Nat) (ops : Array Oper) (e : Env) (n0 : Nat) (E : List Nat) (vals : Nat → VV) (mems : Nat → Mem) (er : Nat → Env) (lo hi : Nat → Nat) (b : Nat → Bool) (aid : Nat → Nat)
structure DOk : Prop where
 nodup : E.Nodup
 eb : ∀ x ∈ E, x < ops.size
 chain : ∀ j x y, E[j]? = some x → E[j + 1]? = some y → Pre ops x y
 pre : ∀ i j, i < ops.size → Pre ops j i → j < i
 dst : ∀ (i : Nat) (o : Oper) (d : Nat), ops[i]? = some o → o.dst = some d → d < nt
 dsts : ∀ (i j : Nat) (o o' : Oper) (d : Nat), ops[i]? = some o → ops[j]? = some o' → o.dst = some d → o'.dst = some d → i = j
 ers : ∀ (i : Nat) (o : Oper) (t : Nat), ops[i]? = some o → get (er i) t = .any ∨ ((∀ (j : Nat) (o' : Oper), ops[j]? = some o' → o'.dst = some t → Pre ops j i ∨ Pre ops i j ∨ j = i) ∧
  ((∃ (j : Nat) (o' : Oper), Pre ops j i ∧ ops[j]? = some o' ∧ o'.dst = some t ∧ get (er i) t = vals j) ∨ ((∀ (j : Nat) (o' : Oper), Pre ops j i → ops[j]? = some o' → o'.dst ≠ some t) ∧ get (er i) t = get e t)))
 los : ∀ (i : Nat) (o : Oper), ops[i]? = some o → lo i = 0 ∨ ∃ x, E[lo i - 1]? = some x ∧ Pre ops x i
 his : ∀ (i : Nat) (o : Oper), ops[i]? = some o → E.length ≤ hi i ∨ ∃ x, E[hi i]? = some x ∧ (Pre ops i x ∨ x = i)
 guard : ∀ (i : Nat) (o : Oper), ops[i]? = some o → vwanted ops o (er i) = some (b i)
 skip : ∀ (i : Nat) (o : Oper), ops[i]? = some o → b i = false → vals i = .tup [] ∧ ∀ k, E[k]? = some i → mems (k + 1) = mems k
 op : ∀ (i : Nat) (o : Oper), ops[i]? = some o → b i = true →
   (∃ t y, o.op = .alloc t ∧ T.ty t = some y ∧ i ∉ E ∧ vals i = .ptr (aid i) 0 ∧ n0 ≤ aid i ∧ ∀ k, k ≤ hi i → k ≤ E.length → (mems k).H[aid i]? = some (.obj (y.zero.map ofValue))) ∨
   (isA o = false ∧ ∃ k, E[k]? = some i ∧ WOp P T o (er i) (mems k) (fun v M' => v = vals i ∧ M' = mems (k + 1))) ∨
   (isA o = false ∧ i ∉ E ∧ ∀ k, lo i ≤ k → k ≤ hi i → k ≤ E.length → vop T o.op (ev (er i)) (mems k) = some (vals i, mems k))
 aids : ∀ (i j : Nat) (o o' : Oper), ops[i]? = some o → ops[j]? = some o' → isA o = true → isA o' = true → b i = true → b j = true → aid i = aid j → i = j

structure DSt (G : Ghost) (w0 : World) (K0 : Nat → Option Nat) (H0 : List VObj) (D0 : List Deferred) (listed : Array Bool) (k : Nat) (a : Act) (w : World) (K : Nat → Option Nat) : Prop where
 size : listed.size = ops.size
 closed : ∀ i j, listed.getD i false = true → Pre ops j i → listed.getD j false = true
 ek : ∀ j x, E[j]? = some x → (listed.getD x false = true ↔ j < k)
 kE : k ≤ E.length
 ts : a.tmps.size = nt
 f1 : ∀ (j : Nat) (o : Oper) (d : Nat), listed.getD j false = true → ops[j]? = some o → o.dst = some d → RepV w K (mems k).H (a.tmps.getD d undef) (vals j) ∧ Cl (mems k).H.length (vals j)
 f2 : ∀ t, (∀ (j : Nat) (o : Oper), listed.getD j false = true → ops[j]? = some o → o.dst ≠ some t) → RepV w K (mems k).H (a.tmps.getD t undef) (get e t) ∧ Cl (mems k).H.length (get e t)
 inv : Inv G w K (mems k)
 ext : Ext w0 K0 H0 w K (mems k).H
 al : ∀ (i : Nat) (o : Oper), ops[i]? = some o → isA o = true → b i = true → listed.getD i false = false → K (aid i) = none
 df : a.defers = D0
end

section
variable {P : Program} {T : Tab} {nt : Nat} {ops : Array Oper} {e : Env} {n0 : Nat} {E : List Nat} {vals : Nat → VV} {mems : Nat → Mem} {er : Nat → Env} {lo hi : Nat → Nat} {b : Nat → Bool} {aid : Nat → Nat}
variable {G : Ghost} {w0 : World} {K0 : Nat → Option Nat} {H0 : List VObj} {D0 : List Deferred} {listed : Array Bool} {k : Nat} {a : Act} {w : World} {K : Nat → Option Nat}

theorem listed_set {i : Nat} (hi : i < listed.size) (j : Nat) : (listed.setIfInBounds i true).getD j false = if j = i then true else listed.getD j false := by
 by_cases h : j = i
 ·subst h; simp [hi]
 ·rw [if_neg h]; simp [Array.getElem?_setIfInBounds_ne (Ne.symm h)]
theorem put_get (a : Act) (dst : Option Nat) (rv : Value) (t : Nat) (hd : ∀ d, dst = some d → d < a.tmps.size) : (a.put dst rv).tmps.getD t undef = if dst = some t then rv else a.tmps.getD t undef := by
 cases dst with
 | none => simp [Act.put]
 | some d =>
  have := hd d rfl
  by_cases h : d = t
  ·subst h; simp [Act.put, this]
  ·rw [if_neg (by simpa using h)]; simp [Act.put, Array.getElem?_setIfInBounds_ne h]
theorem put_size (a : Act) (dst : Option Nat) (rv : Value) : (a.put dst rv).tmps.size = a.tmps.size := by
 cases dst <;> simp [Act.put]
theorem put_defers (a : Act) (dst : Option Nat) (rv : Value) : (a.put dst rv).defers = a.defers := by
 cases dst <;> rfl

theorem DSt.step (hd : DOk P T nt ops e n0 E vals mems er lo hi b aid) (h : DSt nt ops e E vals mems b aid G w0 K0 H0 D0 listed k a w K) {i : Nat} {o : Oper} (ho : ops[i]? = some o) (hun : listed.getD i false = false)
  (hpre : ∀ j, Pre ops j i → listed.getD j false = true) {k' : Nat} (hk : (i ∉ E ∧ k' = k) ∨ (E[k]? = some i ∧ k' = k + 1)) {w' : World} {K' : Nat → Option Nat} {rv : Value}
  (ht : ∀ v x, RepV w K (mems k).H v x → Cl (mems k).H.length x → RepV w' K' (mems k').H v x) (hl : (mems k).H.length ≤ (mems k').H.length) (hr : RepV w' K' (mems k').H rv (vals i)) (hc : Cl (mems k').H.length (vals i))
  (hI : Inv G w' K' (mems k')) (he : Ext w0 K0 H0 w' K' (mems k').H) (hal : ∀ (j : Nat) (o' : Oper), ops[j]? = some o' → isA o' = true → b j = true → listed.getD j false = false → j ≠ i → K' (aid j) = none) :
  DSt nt ops e E vals mems b aid G w0 K0 H0 D0 (listed.setIfInBounds i true) k' (a.put o.dst rv) w' K' := by
 have hil : i < listed.size := by rw [h.size]; exact (Array.getElem?_eq_some_iff.1 ho).1
 have hls := listed_set hil
 have hdd : ∀ d, o.dst = some d → d < a.tmps.size := fun d hd' => by rw [h.ts]; exact hd.dst i o d ho hd'
 refine ⟨by simpa using h.size, fun x j hx hp => ?_, fun j x hx => ?_, ?_, (put_size ..).trans h.ts, fun j o' d hj ho' hd' => ?_, fun t ht' => ?_, hI, he, fun j o' ho' h1 h2 h3 => ?_, (put_defers ..).trans h.df⟩
 ·rw [hls] at hx ⊢
  by_cases e1 : j = i
  ·rw [if_pos e1]
  ·rw [if_neg e1]
   by_cases e2 : x = i
   ·subst e2; exact hpre j hp
   ·rw [if_neg e2] at hx; exact h.closed x j hx hp
 ·rw [hls]
  rcases hk with ⟨h1, rfl⟩ | ⟨h1, rfl⟩
  ·rw [if_neg (fun e1 : x = i => h1 (e1 ▸ List.mem_of_getElem? hx))]
   exact h.ek j x hx
  ·by_cases e1 : x = i
   ·subst e1
    rw [if_pos rfl]
    have := (List.getElem?_inj (List.getElem?_eq_some_iff.1 hx).1 hd.nodup).1 (hx.trans h1.symm)
    simp [this]
   ·rw [if_neg e1, h.ek j x hx]
    have : j ≠ k := fun e2 => e1 (by subst e2; rw [hx] at h1; exact Option.some.inj h1)
    omega
 ·rcases hk with ⟨h1, rfl⟩ | ⟨h1, rfl⟩
  ·exact h.kE
  ·exact (List.getElem?_eq_some_iff.1 h1).1
 ·rw [hls] at hj
  rw [put_get _ _ _ _ hdd]
  by_cases e1 : j = i
  ·subst e1
   rw [ho] at ho'
   cases ho'
   rw [if_pos hd']
   exact ⟨hr, hc⟩
  ·rw [if_neg e1] at hj
   rw [if_neg fun e2 => e1 (hd.dsts j i o' o d ho' ho hd' e2)]
   obtain ⟨p, q⟩ := h.f1 j o' d hj ho' hd'
   exact ⟨ht _ _ p q, q.mono hl⟩
 ·rw [put_get _ _ _ _ hdd]
  rw [if_neg (ht' i o (by rw [hls, if_pos rfl]) ho)]
  obtain ⟨p, q⟩ := h.f2 t fun j o' hj ho' => ht' j o' (by rw [hls]; split <;> simp_all) ho'
  exact ⟨ht _ _ p q, q.mono hl⟩
 ·rw [hls] at h3
  by_cases e1 : j = i
  ·rw [if_pos e1] at h3; cases h3
  ·rw [if_neg e1] at h3; exact hal j o' ho' h1 h2 h3 e1

theorem DSt.fr (hd : DOk P T nt ops e n0 E vals mems er lo hi b aid) (h : DSt nt ops e E vals mems b aid G w0 K0 H0 D0 listed k a w K) {i : Nat} {o : Oper} (ho : ops[i]? = some o) (hun : listed.getD i false = false)
  (hpre : ∀ j, Pre ops j i → listed.getD j false = true) : FrOk w K (mems k) nt a.tmps (er i) := by
 have key : ∀ t, RepV w K (mems k).H (a.tmps.getD t undef) (get (er i) t) ∧ Cl (mems k).H.length (get (er i) t) := fun t => by
  rcases hd.ers i o t ho with h1 | ⟨h1, ⟨j, o', h2, h3, h4, h5⟩ | ⟨h2, h3⟩⟩
  ·rw [h1]; exact ⟨.any _, cl_any _⟩
  ·rw [h5]; exact h.f1 j o' t (hpre j h2) h3 h4
  ·rw [h3]
   refine h.f2 t fun j o' hj ho' hdj => ?_
   rcases h1 j o' ho' hdj with h4 | h4 | h4
   ·exact h2 j o' h4 ho' hdj
   ·rw [h.closed j i hj h4] at hun; cases hun
   ·subst h4; rw [hj] at hun; cases hun
 exact ⟨h.ts, fun t => (key t).1, fun t => (key t).2⟩

theorem DSt.lohi (hd : DOk P T nt ops e n0 E vals mems er lo hi b aid) (h : DSt nt ops e E vals mems b aid G w0 K0 H0 D0 listed k a w K) {i : Nat} {o : Oper} (ho : ops[i]? = some o) (hun : listed.getD i false = false)
  (hpre : ∀ j, Pre ops j i → listed.getD j false = true) : lo i ≤ k ∧ k ≤ hi i := by
 constructor
 ·rcases hd.los i o ho with h1 | ⟨x, h1, h2⟩
  ·omega
  ·have := (h.ek _ x h1).1 (hpre x h2)
   omega
 ·rcases hd.his i o ho with h1 | ⟨x, h1, h2⟩
  ·exact Nat.le_trans h.kE h1
  ·refine Nat.le_of_not_lt fun hlt => ?_
   have hx := (h.ek _ x h1).2 hlt
   rcases h2 with h2 | h2
   ·rw [h.closed x i hx h2] at hun; cases hun
   ·subst h2; rw [hx] at hun; cases hun

theorem DSt.up (hd : DOk P T nt ops e n0 E vals mems er lo hi b aid) (h : DSt nt ops e E vals mems b aid G w0 K0 H0 D0 listed k a w K) {i : Nat} (hun : listed.getD i false = false) : k ≤ hi i ∨ ∃ o, ops[i]? ≠ some o := by
 cases ho : ops[i]? with
 | none => exact .inr ⟨default, by simp⟩
 | some o =>
  left
  rcases hd.his i o ho with h1 | ⟨x, h1, h2⟩
  ·exact Nat.le_trans h.kE h1
  ·refine Nat.le_of_not_lt fun hlt => ?_
   have hx := (h.ek _ x h1).2 hlt
   rcases h2 with h2 | h2
   ·rw [h.closed x i hx h2] at hun; cases hun
   ·subst h2; rw [hx] at hun; cases hun

theorem WOp_of_vop {o : Oper} {er : Env} {M M' : Mem} {v : VV} {Q : VV → Mem → Prop} (h : vop T o.op (ev er) M = some (v, M')) (hq : Q v M') : WOp P T o er M Q := by
 unfold WOp
 split
 ·rename_i hop
  rw [hop] at h
  simp [vop] at h
 ·rw [h]; exact hq

theorem draw_any (hT : TabOk P T) (hd : DOk P T nt ops e n0 E vals mems er lo hi b aid) {r : Option Nat} {Q : Exit → Act → World → Prop} (hH : H0.length = n0)
  (hq : ∀ a w K, DSt nt ops e E vals mems b aid G w0 K0 H0 D0 (Array.replicate ops.size true) E.length a w K → Q .normal a w) :
  ∀ (fuel : Nat) (listed : Array Bool) (k : Nat) (a : Act) (w : World) (K : Nat → Option Nat), DSt nt ops e E vals mems b aid G w0 K0 H0 D0 listed k a w K → (List.range ops.size).countP (fun i => !listed.getD i false) ≤ fuel →
   wpAnyIn (fence r) 0 P .any ops Q fuel listed a w := by
 have fin : ∀ (listed : Array Bool) (k : Nat) (a : Act) (w : World) (K : Nat → Option Nat), DSt nt ops e E vals mems b aid G w0 K0 H0 D0 listed k a w K → (∀ i, i < ops.size → listed.getD i false = true) → Q .normal a w := by
  intro listed k a w K h hall
  have e1 : listed = Array.replicate ops.size true := by
   apply Array.ext
   ·simp [h.size]
   ·intro i h1 h2
    have := hall i (by rw [← h.size]; exact h1)
    simpa [h1] using this
  have e2 : k = E.length := by
   refine Nat.le_antisymm h.kE (Nat.le_of_not_lt fun hlt => ?_)
   have hx : E[k]? = some E[k] := List.getElem?_eq_getElem hlt
   have := (h.ek k _ hx).1 (hall _ (hd.eb _ (List.getElem_mem hlt)))
   omega
  subst e1 e2
  exact hq a w K h
 have hready : ∀ (listed : Array Bool) (k : Nat) (a : Act) (w : World) (K : Nat → Option Nat), DSt nt ops e E vals mems b aid G w0 K0 H0 D0 listed k a w K → Region.ready .any ops listed = [] → ∀ i, i < ops.size → listed.getD i false = true := by
  intro listed k a w K h hr i
  induction i using Nat.strongRecOn with
  | _ i ih =>
   intro hi
   cases hl : listed.getD i false with
   | true => rfl
   | false =>
    exfalso
    have : i ∈ Region.ready .any ops listed := by
     rw [mem_ready]
     refine ⟨by simpa [show i < listed.size by rw [h.size]; exact hi] using hl, ops[i], Array.getElem?_eq_getElem hi, fun ed he hb => ?_⟩
     have hp : Pre ops ed.on i := .edge (Array.getElem?_eq_getElem hi) he hb
     have hlt := hd.pre i _ hi hp
     exact ih _ hlt (by omega)
    rw [hr] at this
    simp at this
 intro fuel
 induction fuel with
 | zero =>
  intro listed k a w K h hc
  have hall : ∀ i, i < ops.size → listed.getD i false = true := fun i hi => by
   have := List.countP_eq_zero.1 (Nat.le_zero.1 hc) i (List.mem_range.2 hi)
   simpa using this
  refine ⟨?_, fin listed k a w K h hall⟩
  refine List.eq_nil_iff_forall_not_mem.2 fun j hj => ?_
  obtain ⟨h1, o, ho, _⟩ := mem_ready.1 hj
  have hjl := (Array.getElem?_eq_some_iff.1 ho).1
  have := hall j hjl
  simp [show j < listed.size by rw [h.size]; exact hjl] at h1 this
  rw [h1] at this
  cases this
 | succ fuel ih =>
  intro listed k a w K h hc
  refine ⟨fun hr => fin listed k a w K h (hready listed k a w K h hr), fun i hir => ?_⟩
  obtain ⟨h1, o, ho, hed⟩ := mem_ready.1 hir
  have hil := (Array.getElem?_eq_some_iff.1 ho).1
  have hun : listed.getD i false = false := by simpa [show i < listed.size by rw [h.size]; exact hil] using h1
  have hpre : ∀ j, Pre ops j i → listed.getD j false = true := by
   intro j hj
   generalize hii : i = i' at hj
   induction hj with
   | edge ho' he hb =>
    subst hii
    rw [ho] at ho'
    cases ho'
    exact hed _ he hb
   | trans p1 p2 _ ih2 => exact h.closed _ _ (ih2 hii) p1
  have hcount : (List.range ops.size).countP (fun j => !(listed.setIfInBounds i true).getD j false) ≤ fuel := by
   have : (List.range ops.size).countP (fun j => !(listed.setIfInBounds i true).getD j false) < (List.range ops.size).countP (fun j => !listed.getD j false) := by
    have hls := listed_set (listed := listed) (i := i) (by rw [h.size]; exact hil)
    refine countP_lt (fun x _ hx => ?_) ⟨i, List.mem_range.2 hil, by rw [hun]; rfl, by rw [hls, if_pos rfl]; rfl⟩
    simp only [hls] at hx
    split at hx
    ·cases hx
    ·exact hx
   omega
  obtain ⟨hlo, hhi⟩ := h.lohi hd ho hun hpre
  have hfr := h.fr hd ho hun hpre
  have hal0 : ∀ {w' : World} {K' : Nat → Option Nat} {M' : Mem}, Ext w K (mems k).H w' K' M'.H → ∀ (j : Nat) (o' : Oper), ops[j]? = some o' → isA o' = true → b j = true → listed.getD j false = false → j ≠ i → K' (aid j) = none := by
   intro w' K' M' hE j o' ho' hA hb hunj _
   have hKn := h.al j o' ho' hA hb hunj
   rcases hd.op j o' ho' hb with ⟨t, y, q1, q2, q3, q4, q5, q6⟩ | ⟨q1, _⟩ | ⟨q1, _⟩
   ·have hup : k ≤ hi j := by
     rcases h.up hd hunj with h' | ⟨o2, h'⟩
     ·exact h'
     ·rcases hd.his j o' ho' with h2 | ⟨x, h2, h3⟩
      ·exact Nat.le_trans h.kE h2
      ·refine Nat.le_of_not_lt fun hlt => ?_
       have hx := (h.ek _ x h2).2 hlt
       rcases h3 with h3 | h3
       ·rw [h.closed x j hx h3] at hunj; cases hunj
       ·subst h3; rw [hx] at hunj; cases hunj
    obtain ⟨o2, _, hle⟩ := hE.obj _ _ (q6 k hup h.kE)
    exact hle.2.trans hKn
   ·rw [hA] at q1; cases q1
   ·rw [hA] at q1; cases q1
  simp only [wpOpIn, ho]
  have hw := wanted_ok hfr (hd.guard i o ho)
  rw [hw]
  cases hb : b i with
  | false =>
   simp only [Bool.false_eq_true, if_false]
   obtain ⟨hv, hm⟩ := hd.skip i o ho hb
   refine ⟨fun _ _ => trivial, ?_⟩
   by_cases hE : i ∈ E
   ·obtain ⟨j, hj⟩ := List.getElem?_of_mem hE
    have hjk : j = k := by
     have h2 : ¬ j < k := fun hlt => by rw [(h.ek j i hj).2 hlt] at hun; cases hun
     rcases Nat.lt_or_ge k j with h3 | h3
     ·exfalso
      have hk1 : E[j - 1]? = some (E[j - 1]'(by have := (List.getElem?_eq_some_iff.1 hj).1; omega)) := List.getElem?_eq_getElem _
      have hp := hd.chain (j - 1) _ i hk1 (by rw [show j - 1 + 1 = j by omega]; exact hj)
      have := (h.ek (j - 1) _ hk1).1 (hpre _ hp)
      omega
     ·omega
    subst hjk
    have hmm := hm j hj
    refine ih _ (j + 1) _ _ K (h.step hd ho hun hpre (.inr ⟨hj, rfl⟩) (fun v x hr _ => by rw [hmm]; exact hr) (by rw [hmm]; exact Nat.le_refl _) (by rw [hv]; exact undef_rep) (by rw [hv]; exact undef_cl _) (by rw [hmm]; exact h.inv) (by rw [hmm]; exact h.ext)
     (fun j' o' a1 a2 a3 a4 _ => h.al j' o' a1 a2 a3 a4)) hcount
   ·exact ih _ k _ _ K (h.step hd ho hun hpre (.inl ⟨hE, rfl⟩) (fun v x hr _ => hr) (Nat.le_refl _) (by rw [hv]; exact undef_rep) (by rw [hv]; exact undef_cl _) h.inv h.ext
     (fun j' o' a1 a2 a3 a4 _ => h.al j' o' a1 a2 a3 a4)) hcount
  | true =>
   simp only [if_true]
   rcases hd.op i o ho hb with ⟨t, y, q1, q2, q3, q4, q5, q6⟩ | ⟨q1, j, q2, q3⟩ | ⟨q1, q2, q3⟩
   ·obtain ⟨w', r1, r2, r3, r4, r5⟩ := birth hT h.inv (o := o) (ρ := a.eval) q1 q2 (q6 k hhi h.kE) (h.al i o ho (by simp [isA, q1]) hb hun)
    refine ⟨fun _ _ => trivial, ?_⟩
    rw [Oper.semAt_eq _ _ _ (fun c hc => by rw [q1] at hc; cases hc), r1]
    have hidl := (List.getElem?_eq_some_iff.1 (q6 k hhi h.kE)).1
    refine ih _ k _ _ _ (h.step hd ho hun hpre (.inl ⟨q3, rfl⟩) (fun v x hr _ => hr.keep r2 fun _ _ => trivial) (Nat.le_refl _) ?_ ?_ r3 ?_ ?_) hcount
    ·rw [q4]
     exact .ptr _ _ _ (upd_same _ _ _) fun m kk hm => by rw [q6 k hhi h.kE] at hm; cases hm
    ·rw [q4]
     intro r hr
     simp [refs] at hr
     subst hr
     exact hidl
    ·refine h.ext.keep r2 r4 fun j hj => ⟨rfl, upd_ne _ _ (by omega), fun _ bb hbb => r5 bb ?_⟩
     exact (h.inv.blk j bb (Nat.lt_of_lt_of_le hj h.ext.len) hbb).1
    ·intro j o' a1 a2 a3 a4 a5
     rw [upd_ne _ _ fun e2 => a5 (hd.aids j i o' o a1 ho a2 (by simp [isA, q1]) a3 hb e2)]
     exact h.al j o' a1 a2 a3 a4
   ·have hjk : j = k := by
     have h2 : ¬ j < k := fun hlt => by rw [(h.ek j i q2).2 hlt] at hun; cases hun
     rcases Nat.lt_or_ge k j with h3 | h3
     ·exfalso
      have hk1 : E[j - 1]? = some (E[j - 1]'(by have := (List.getElem?_eq_some_iff.1 q2).1; omega)) := List.getElem?_eq_getElem _
      have hp := hd.chain (j - 1) _ i hk1 (by rw [show j - 1 + 1 = j by omega]; exact q2)
      have := (h.ek (j - 1) _ hk1).1 (hpre _ hp)
      omega
     ·omega
    subst hjk
    refine wop_ok hT hfr h.inv q3 fun rv v w' K' M' hqq hr hc hE hI => ?_
    obtain ⟨rfl, rfl⟩ := hqq
    exact ih _ (j + 1) _ _ K' (h.step hd ho hun hpre (.inr ⟨q2, rfl⟩) (fun v x hr hc => hr.ext hE hc) hE.len hr hc hI (h.ext.trans hE) (hal0 hE)) hcount
   ·refine wop_ok hT hfr h.inv (WOp_of_vop (P := P) (Q := fun v M' => v = vals i ∧ M' = mems k) (q3 k hlo hhi h.kE) ⟨rfl, rfl⟩) fun rv v w' K' M' hqq hr hc hE hI => ?_
    obtain ⟨rfl, rfl⟩ := hqq
    exact ih _ k _ _ K' (h.step hd ho hun hpre (.inl ⟨q2, rfl⟩) (fun v x hr hc => hr.ext hE hc) (Nat.le_refl _) hr hc hI (h.ext.trans hE) (hal0 hE)) hcount
end
end Go.Proofs.YtnjgdlmddlinaaaDoor.Vm

/- A machine on values: regions whose order is drawn: the rule. -/
namespace Go.Proofs.YtnjgdlmddlinaaaDoor.Vm
open Go

/-! ### plans -/
theorem nodupB_ok : ∀ {l : List Oper}, nodupB (l.filterMap (·.dst)) = true → ∀ (i j : Nat) (o o' : Oper) (d : Nat), l[i]? = some o → l[j]? = some o' → o.dst = some d → o'.dst = some d → i = j
 | [], _, i, j, o, o', d, h, _, _, _ => by simp at h
 | x :: l, hn, i, j, o, o', d, hi, hj, ho, ho' => by
  have key : ∀ (j : Nat) (o' : Oper), x.dst = some d → l[j]? = some o' → o'.dst = some d → False := fun j o' hx hj ho' => by
   rw [List.filterMap_cons, hx] at hn
   simp only [nodupB, Bool.and_eq_true, Bool.not_eq_true', List.any_eq_false] at hn
   exact hn.1 d (List.mem_filterMap.2 ⟨o', List.mem_of_getElem? hj, ho'⟩) (by simp)
  have hn' : nodupB (l.filterMap (·.dst)) = true := by
   rw [List.filterMap_cons] at hn
   split at hn
   ·exact hn
   ·simp only [nodupB, Bool.and_eq_true] at hn; exact hn.2
  cases i with
  | zero =>
   cases j with
   | zero => rfl
   | succ j =>
    simp at hi hj
    subst hi
    exact (key j o' ho hj ho').elim
  | succ i =>
   cases j with
   | zero =>
    simp at hi hj
    subst hj
    exact (key i o ho' hi ho).elim
   | succ j => rw [nodupB_ok hn' i j o o' d (by simpa using hi) (by simpa using hj) ho ho']
theorem chainOk_ok {ops : Array Oper} {pm : List Nat} (hpm : ∀ k j, Nat.testBit (pm.getD k 0) j = true → Pre ops j k) : ∀ {E : List Nat}, chainOk pm E = true → ∀ j x y, E[j]? = some x → E[j + 1]? = some y → Pre ops x y
 | [], _, j, x, y, h, _ => by simp at h
 | [a], _, j, x, y, h, h' => by simp at h'
 | a :: b :: r, hc, j, x, y, h, h' => by
  simp only [chainOk, Bool.and_eq_true] at hc
  cases j with
  | zero =>
   simp at h h'
   subst h h'
   exact hpm _ _ hc.1
  | succ j => exact chainOk_ok hpm hc.2 j x y (by simpa using h) (by simpa using h')
theorem eIdx_mem {ops : Array Oper} {i : Nat} : i ∈ eIdx ops ↔ ∃ o, ops[i]? = some o ∧ isE o = true := by
 unfold eIdx
 rw [List.mem_filter, List.mem_range]
 constructor
 ·rintro ⟨h1, h2⟩
  rw [Array.getElem?_eq_getElem h1] at h2 ⊢
  exact ⟨_, rfl, h2⟩
 ·rintro ⟨o, h1, h2⟩
  exact ⟨(Array.getElem?_eq_some_iff.1 h1).1, by rw [h1]; exact h2⟩
theorem eIdx_nodup (ops : Array Oper) : (eIdx ops).Nodup := by unfold eIdx; exact (List.filter_sublist).nodup List.nodup_range

def rdr : Go.Op → Bool
 | .load .. => true
 | .lookup .. => true
 | .call .. => true
 | _ => false
theorem vbuildOwn_ne {T : Tab} {t n : Nat} {ps : List (Nat × VV)} {M : Mem} {v : VV} : vbuildOwn T t n ps M ≠ some (v, M) := by
 intro h
 have hp : ∀ o, M.push o ≠ M := fun o e => by
  have := congrArg (fun m : Mem => m.H.length) e
  simp [Mem.push] at this
 unfold vbuildOwn at h
 split at h
 ·generalize (_ && _) = b at h
  cases b with
  | false => cases h
  | true =>
   simp only [cond_true, Option.some.injEq, Prod.mk.injEq] at h
   exact hp _ h.2
 ·cases h
theorem not_rdr {T : Tab} {o : Oper} {ρ : Operand → VV} {M : Mem} {v : VV} (h : vop T o.op ρ M = some (v, M)) (hr : rdr o.op = false) (he : isE o = false) (ha : isA o = false) (M2 : Mem) : vop T o.op ρ M2 = some (v, M2) := by
 obtain ⟨dst, op, type, pos, after, guard⟩ := o
 simp only at h hr ⊢
 have key : ∀ {x : Option VV}, x.map (·, M) = some (v, M) → x.map (·, M2) = some (v, M2) := fun {x} hx => by
  cases x with
  | none => cases hx
  | some u => simp at hx; simp [hx]
 cases op <;> first | (simp [rdr] at hr; done) | (simp [isE] at he; done) | (simp [isA] at ha; done) | (simp only [vop] at h; cases h; done) | exact key h | skip
 all_goals simp only [vop] at h ⊢
 all_goals first
  | (cases h; rfl)
  | (generalize T.ownS _ _ = b at h ⊢; cases b; exact key h; exact absurd h vbuildOwn_ne)
  | (generalize (List.all _ _ && List.all _ _) = b at h ⊢; cases b <;> simp_all; done)
  | (split at h <;> first | (cases h; done) | (exact key h) | (cases h; rfl) | (cases h; simp_all; done) | (simp_all; done))
end Go.Proofs.YtnjgdlmddlinaaaDoor.Vm

/- A machine on values: regions whose order is drawn: the rule, made of one order. -/
namespace Go.Proofs.YtnjgdlmddlinaaaDoor.Vm
open Go

abbrev Pds := List (Nat × (Mem → Prop))
def pdOk : Pds → Mem → Prop
 | [], _ => True
 | (_, c) :: r, M => c M ∧ pdOk r M
def pdTick : Pds → Pds
 | [] => []
 | (0, _) :: r => pdTick r
 | (1, _) :: r => pdTick r
 | (n + 2, c) :: r => (n + 1, c) :: pdTick r
def pdPush (n : Nat) (c : Mem → Prop) (pd : Pds) : Pds := match n with
 | 0 => pd
 | n + 1 => (n + 1, c) :: pd
theorem pdPush_here {n : Nat} {c : Mem → Prop} {pd : Pds} (h : 0 < n) : (n, c) ∈ pdPush n c pd := by
 cases n with
 | zero => omega
 | succ n => exact List.mem_cons_self ..
theorem pdPush_old {n : Nat} {c : Mem → Prop} {pd : Pds} {x : Nat × (Mem → Prop)} (h : x ∈ pd) : x ∈ pdPush n c pd := by
 cases n with
 | zero => exact h
 | succ n => exact List.mem_cons_of_mem _ h
def Back (c : Mem → Prop) : Nat → List Mem → Prop
 | 0, _ => True
 | _ + 1, [] => True
 | n + 1, M :: r => c M ∧ Back c n r
theorem pdOk_mem : ∀ {pd : Pds} {M : Mem}, pdOk pd M → ∀ n c, (n, c) ∈ pd → c M
 | (_, c) :: r, M, h, n, c', hm => by
  rcases List.mem_cons.1 hm with e | hm
  ·cases e; exact h.1
  ·exact pdOk_mem h.2 n c' hm
theorem pdTick_mem : ∀ {pd : Pds} {n : Nat} {c : Mem → Prop}, (n + 2, c) ∈ pd → (n + 1, c) ∈ pdTick pd
 | (m, c') :: r, n, c, hm => by
  rcases List.mem_cons.1 hm with e | hm
  ·cases e; simp [pdTick]
  ·have := pdTick_mem hm
   match m with
   | 0 => exact this
   | 1 => exact this
   | m + 2 => exact List.mem_cons_of_mem _ this
theorem Back_get {c : Mem → Prop} : ∀ {n : Nat} {past : List Mem}, Back c n past → ∀ j, j < n → ∀ M, past[j]? = some M → c M
 | 0, _, _, j, hj, _, _ => absurd hj (Nat.not_lt_zero _)
 | n + 1, [], _, j, _, M, h => by simp at h
 | n + 1, M0 :: r, hb, 0, _, M, h => by cases h; exact hb.1
 | n + 1, M0 :: r, hb, j + 1, hj, M, h => Back_get hb.2 j (by omega) M (by simpa using h)

section
variable (P : Program) (T : Tab) (nt : Nat) (ops : Array Oper)
def WDraw : List Oper → List Info → Env → Nat → Mem → List Mem → Pds → (Env → Mem → Prop) → Prop
 | o :: r, inf :: s, e, na, M, past, pd, Kn =>
  match vwanted ops o (prune (tmpsOf ops o) e) with
  | none => False
  | some false => match vput nt o.dst (.tup []) e with
   | some e' => if inf.e = true then pdOk pd M ∧ WDraw r s e' na M (M :: past) (pdTick pd) Kn else WDraw r s e' na M past pd Kn
   | none => False
  | some true =>
   if isA o = true then match o.op with
    | .alloc t => match T.ty t with
     | some y => match vput nt o.dst (.ptr na 0) e with
      | some e' => M.H[na]? = some (.obj (y.zero.map ofValue)) ∧ Back (fun M => M.H[na]? = some (.obj (y.zero.map ofValue))) past.length past ∧
        WDraw r s e' (na + 1) M past (pdPush inf.fw (fun M => M.H[na]? = some (.obj (y.zero.map ofValue))) pd) Kn
      | none => False
     | none => False
    | _ => False
   else if inf.e = true then ∃ v M', WOp P T o (prune (tmpsOf ops o) e) M (fun v' M'' => v' = v ∧ M'' = M') ∧ pdOk pd M' ∧ (match vput nt o.dst v e with
    | some e' => WDraw r s e' na M' (M :: past) (pdTick pd) Kn
    | none => False)
   else match vop T o.op (ev (prune (tmpsOf ops o) e)) M with
    | some (v, M') => M' = M ∧ match vput nt o.dst v e with
     | some e' => if rdr o.op = true then Back (fun M => vop T o.op (ev (prune (tmpsOf ops o) e)) M = some (v, M)) inf.bk past ∧
       WDraw r s e' na M past (pdPush inf.fw (fun M => vop T o.op (ev (prune (tmpsOf ops o) e)) M = some (v, M)) pd) Kn
      else WDraw r s e' na M past pd Kn
     | none => False
    | none => False
 | [], [], e, _, M, _, _, Kn => Kn e M
 | _, _, _, _, _, _, _, _ => False

def EnvAt (e0 : Env) (vals : Nat → VV) (i : Nat) (e : Env) : Prop := ∀ t, (∃ (j : Nat) (o : Oper), j < i ∧ ops[j]? = some o ∧ o.dst = some t ∧ get e t = vals j) ∨ ((∀ (j : Nat) (o : Oper), j < i → ops[j]? = some o → o.dst ≠ some t) ∧ get e t = get e0 t)
structure OpF (e0 : Env) (n0 : Nat) (E : List Nat) (vals : Nat → VV) (mems : Nat → Mem) (er : Nat → Env) (lo hi : Nat → Nat) (b : Nat → Bool) (aid : Nat → Nat) (i : Nat) (o : Oper) : Prop where
 dst : ∀ (d : Nat), o.dst = some d → d < nt
 ers : ∀ (t : Nat), get (er i) t = .any ∨ ((∀ (j : Nat) (o' : Oper), ops[j]? = some o' → o'.dst = some t → Pre ops j i ∨ Pre ops i j ∨ j = i) ∧
  ((∃ (j : Nat) (o' : Oper), Pre ops j i ∧ ops[j]? = some o' ∧ o'.dst = some t ∧ get (er i) t = vals j) ∨ ((∀ (j : Nat) (o' : Oper), Pre ops j i → ops[j]? = some o' → o'.dst ≠ some t) ∧ get (er i) t = get e0 t)))
 los : lo i = 0 ∨ ∃ x, E[lo i - 1]? = some x ∧ Pre ops x i
 his : E.length ≤ hi i ∨ ∃ x, E[hi i]? = some x ∧ (Pre ops i x ∨ x = i)
 guard : vwanted ops o (er i) = some (b i)
 skip : b i = false → vals i = .tup [] ∧ ∀ k, E[k]? = some i → mems (k + 1) = mems k
 op : b i = true →
   (∃ t y, o.op = .alloc t ∧ T.ty t = some y ∧ i ∉ E ∧ vals i = .ptr (aid i) 0 ∧ n0 ≤ aid i ∧ ∀ k, k ≤ hi i → k ≤ E.length → (mems k).H[aid i]? = some (.obj (y.zero.map ofValue))) ∨
   (isA o = false ∧ ∃ k, E[k]? = some i ∧ WOp P T o (er i) (mems k) (fun v M' => v = vals i ∧ M' = mems (k + 1))) ∨
   (isA o = false ∧ i ∉ E ∧ ∀ k, lo i ≤ k → k ≤ hi i → k ≤ E.length → vop T o.op (ev (er i)) (mems k) = some (vals i, mems k))
end

theorem get_prune' (vs : List Nat) (e : Env) (t : Nat) : get (prune vs e) t = .any ∨ (t ∈ vs ∧ get (prune vs e) t = get e t) := by
 unfold prune
 induction vs with
 | nil => exact .inl rfl
 | cons v vs ih =>
  simp only [List.map_cons, get_cons]
  by_cases h : t = v
  ·rw [if_pos h, h]; exact .inr ⟨by simp, rfl⟩
  ·rw [if_neg h]; exact ih.imp_right fun h => ⟨by simp [h.1], h.2⟩
theorem EnvAt.put {ops : Array Oper} {e0 : Env} {vals : Nat → VV} {i : Nat} {e e' : Env} {o : Oper} {nt : Nat} {v : VV} (h : EnvAt ops e0 vals i e) (ho : ops[i]? = some o) (hp : vput nt o.dst v e = some e') :
  EnvAt ops e0 (fun j => if j = i then v else vals j) (i + 1) e' ∧ ∀ d, o.dst = some d → d < nt := by
 unfold vput at hp
 cases hd : o.dst with
 | none =>
  rw [hd] at hp
  cases hp
  refine ⟨fun t => ?_, fun d h => by cases h⟩
  rcases h t with ⟨j, o', h1, h2, h3, h4⟩ | ⟨h1, h2⟩
  ·exact .inl ⟨j, o', by omega, h2, h3, by show get e t = (if j = i then v else vals j); rw [if_neg (by omega)]; exact h4⟩
  ·refine .inr ⟨fun j o' hj ho' hd' => ?_, h2⟩
   rcases Nat.lt_or_ge j i with hlt | hge
   ·exact h1 j o' hlt ho' hd'
   ·have : j = i := by omega
    subst this
    rw [ho] at ho'
    cases ho'
    rw [hd] at hd'
    cases hd'
 | some d =>
  rw [hd] at hp
  simp only at hp
  cases hb : Nat.blt d nt with
  | false => rw [hb] at hp; cases hp
  | true =>
   rw [hb] at hp
   cases hp
   refine ⟨fun t => ?_, fun d' h => by cases h; simpa [Nat.blt_eq] using hb⟩
   rw [get_cons]
   by_cases ht : t = d
   ·subst ht
    exact .inl ⟨i, o, by omega, ho, hd, by simp⟩
   ·rw [if_neg ht]
    rcases h t with ⟨j, o', h1, h2, h3, h4⟩ | ⟨h1, h2⟩
    ·exact .inl ⟨j, o', by omega, h2, h3, by show get e t = (if j = i then v else vals j); rw [if_neg (by omega)]; exact h4⟩
    ·refine .inr ⟨fun j o' hj ho' hd' => ?_, h2⟩
     rcases Nat.lt_or_ge j i with hlt | hge
     ·exact h1 j o' hlt ho' hd'
     ·have : j = i := by omega
      subst this
      rw [ho] at ho'
      cases ho'
      rw [hd] at hd'
      cases hd'
      exact ht rfl

structure Static (ops : Array Oper) (E : List Nat) (i k : Nat) (o : Oper) (inf : Info) : Prop where
 edge : ∀ e ∈ o.after, Region.binds .any e = true → e.on < i
 tm : ∀ t ∈ tmpsOf ops o, ∀ (j : Nat) (o' : Oper), ops[j]? = some o' → o'.dst = some t → Pre ops j i ∨ Pre ops i j ∨ j = i
 e : inf.e = isE o
 bk : inf.bk ≤ k
 lo : k - inf.bk = 0 ∨ ∃ x, E[k - inf.bk - 1]? = some x ∧ Pre ops x i
 hi : E.length ≤ k + inf.fw ∨ ∃ x, E[k + inf.fw]? = some x ∧ (Pre ops i x ∨ x = i)
 ee : inf.e = true → isA o = false ∧ E[k]? = some i
theorem opPlan_ok {ops : Array Oper} {pm E : List Nat} (hpm : ∀ k j, Nat.testBit (pm.getD k 0) j = true → Pre ops j k) {i k : Nat} {o : Oper} {inf : Info} (h : opPlan ops pm E i k o inf = true) : Static ops E i k o inf := by
 simp only [opPlan, Bool.and_eq_true] at h
 obtain ⟨⟨⟨⟨⟨⟨h1, h2⟩, h3⟩, h4⟩, h5⟩, h6⟩, h7⟩ := h
 refine ⟨fun e he hb => ?_, fun t ht j o' ho' hd => ?_, by simpa using h3, by simpa [Nat.ble_eq] using h4, ?_, ?_, fun he => ?_⟩
 ·have := List.all_eq_true.1 h1 e (by simpa using he)
  simpa [hb, Nat.blt_eq] using this
 ·have := List.all_eq_true.1 (List.all_eq_true.1 h2 t ht) j (List.mem_range.2 (Array.getElem?_eq_some_iff.1 ho').1)
  rw [ho'] at this
  simp only [hd] at this
  simp only [Nat.beq_refl, Bool.not_true, Bool.false_or, Bool.or_eq_true] at this
  rcases this with (h | h) | h
  ·exact .inl (hpm _ _ h)
  ·exact .inr (.inl (hpm _ _ h))
  ·exact .inr (.inr (Nat.eq_of_beq_eq_true h))
 ·rcases (Bool.or_eq_true_iff ..).1 h5 with h | h
  ·exact .inl (Nat.eq_of_beq_eq_true h)
  ·split at h
   ·rename_i x hx
    exact .inr ⟨x, hx, hpm _ _ h⟩
   ·cases h
 ·split at h6
  ·rename_i x hx
   refine .inr ⟨x, hx, ?_⟩
   rcases (Bool.or_eq_true_iff ..).1 h6 with h | h
   ·exact .inl (hpm _ _ h)
   ·exact .inr (Nat.eq_of_beq_eq_true h)
  ·rename_i hx
   exact .inl (List.getElem?_eq_none_iff.1 hx)
 ·rw [he] at h7
  simp only [Bool.not_true, Bool.false_or, Bool.and_eq_true, Bool.not_eq_true'] at h7
  refine ⟨h7.1.2, ?_⟩
  have := h7.2
  split at this
  ·rename_i x hx
   rw [hx, Nat.eq_of_beq_eq_true this]
  ·cases this
end Go.Proofs.YtnjgdlmddlinaaaDoor.Vm
