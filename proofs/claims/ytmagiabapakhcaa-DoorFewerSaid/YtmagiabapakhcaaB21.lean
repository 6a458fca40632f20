/- A part of the proofs about the chapter of the doors; it states no condition of its own. -/
import Derived.Test.YtmagiabapakhcaaB20
set_option linter.unusedVariables false
set_option linter.unusedSimpArgs false
/- A machine on values: regions whose order is drawn: what is before what, and variables that come up. -/
namespace Go.Proofs.Ytmagiabapakhcaa.Vm
open Go

/-! ### what is before what -/
inductive Pre (ops : Array Oper) : Nat → Nat → Prop
  | edge {i : Nat} {o : Oper} {e : Edge} : ops[i]? = some o → e ∈ o.after → Region.binds .any e = true → Pre ops e.on i
  | trans {i j k : Nat} : Pre ops i j → Pre ops j k → Pre ops i k
def maskOf (acc : List Nat) : List Edge → Nat
  | [] => 0
  | e :: r => bif Region.binds .any e then Nat.lor (Nat.lor (Nat.shiftLeft 1 e.on) (acc.getD e.on 0)) (maskOf acc r) else maskOf acc r
def preAll : List Oper → List Nat → List Nat
  | [], acc => acc
  | o :: r, acc => preAll r (acc ++ [maskOf acc o.after.toList])
theorem maskOf_ok {ops : Array Oper} {acc : List Nat} {i : Nat} {o : Oper} (ho : ops[i]? = some o) (hacc : ∀ k j, Nat.testBit (acc.getD k 0) j = true → Pre ops j k) : ∀ (l : List Edge), (∀ e ∈ l, e ∈ o.after) → ∀ j, Nat.testBit (maskOf acc l) j = true → Pre ops j i
  | [], _, j, h => by simp [maskOf] at h
  | e :: r, hl, j, h => by
    have ih := maskOf_ok ho hacc r (fun e he => hl e (List.mem_cons_of_mem _ he)) j
    simp only [maskOf] at h
    cases hb : Region.binds .any e with
    | false => rw [hb] at h; exact ih h
    | true =>
      rw [hb] at h
      have h' : Nat.testBit ((1 <<< e.on ||| acc.getD e.on 0) ||| maskOf acc r) j = true := h
      rw [Nat.testBit_or, Nat.testBit_or, Bool.or_eq_true, Bool.or_eq_true] at h'
      have hedge : Pre ops e.on i := .edge ho (hl e (List.mem_cons_self ..)) hb
      rcases h' with (h' | h') | h'
      · rw [Nat.one_shiftLeft, Nat.testBit_two_pow] at h'
        have : e.on = j := by simpa using h'
        exact this ▸ hedge
      · exact .trans (hacc _ _ h') hedge
      · exact ih h'
theorem preAll_ok {ops : Array Oper} : ∀ (l : List Oper) (acc : List Nat), (∀ j, l[j]? = ops[acc.length + j]?) → (∀ k j, Nat.testBit (acc.getD k 0) j = true → Pre ops j k) → ∀ k j, Nat.testBit ((preAll l acc).getD k 0) j = true → Pre ops j k
  | [], acc, _, hacc, k, j, h => hacc k j h
  | o :: r, acc, hl, hacc, k, j, h => by
    have ho : ops[acc.length]? = some o := by simpa using (hl 0).symm
    refine preAll_ok r _ (fun j => ?_) (fun k j h => ?_) k j h
    · have := hl (j + 1)
      simpa [Nat.add_assoc, Nat.add_comm 1 j] using this
    · rcases Nat.lt_trichotomy k acc.length with hk | hk | hk
      · rw [List.getD_eq_getElem?_getD, List.getElem?_append_left hk, ← List.getD_eq_getElem?_getD] at h
        exact hacc k j h
      · subst hk
        simp at h
        exact maskOf_ok ho hacc _ (fun e he => by simpa using he) j h
      · rw [List.getD_eq_getElem?_getD, List.getElem?_eq_none (by simp; omega)] at h
        simp at h

def isE (o : Oper) : Bool := match o.op with
  | .call { callee := .value _, .. } => true
  | .call { callee := .builtin .append, .. } => true
  | .store .. | .mapUpdate .. | .makeMap .. | .makeSlice .. | .box .. => true
  | _ => false
def isA (o : Oper) : Bool := match o.op with
  | .alloc _ => true
  | _ => false
def tmpOf : Operand → Option Nat
  | .tmp t => some t
  | _ => none
def tmpsOf (all : Array Oper) (o : Oper) : List Nat := o.op.operands.toList.filterMap tmpOf ++ (match o.guard with
  | some (j, _) => ((all[j]?).bind (·.dst)).toList
  | none => [])
structure Info where
  e : Bool
  bk : Nat
  fw : Nat
def eIdx (ops : Array Oper) : List Nat := (List.range ops.size).filter fun i => match ops[i]? with
  | some o => isE o
  | none => false
def bitAt (pm : List Nat) (i j : Nat) : Bool := Nat.testBit (pm.getD i 0) j
def chainOk (pm : List Nat) : List Nat → Bool
  | a :: b :: r => bitAt pm b a && chainOk pm (b :: r)
  | _ => true
def opPlan (ops : Array Oper) (pm : List Nat) (E : List Nat) (i k : Nat) (o : Oper) (inf : Info) : Bool :=
  o.after.toList.all (fun e => !(Region.binds .any e) || Nat.blt e.on i) &&
  (tmpsOf ops o).all (fun t => (List.range ops.size).all fun j => match ops[j]? with
    | some o' => match o'.dst with
      | some d => !(Nat.beq d t) || bitAt pm i j || bitAt pm j i || Nat.beq j i
      | none => true
    | none => true) &&
  (inf.e == isE o) && Nat.ble inf.bk k &&
  (Nat.beq (k - inf.bk) 0 || (match E[k - inf.bk - 1]? with
    | some x => bitAt pm i x
    | none => false)) &&
  (match E[k + inf.fw]? with
    | some x => bitAt pm x i || Nat.beq x i
    | none => true) && (!(inf.e) || (Nat.beq inf.fw 0 && !(isA o) && (match E[k]? with
    | some x => Nat.beq x i
    | none => false)))
def plansOk (ops : Array Oper) (pm E : List Nat) : Nat → Nat → List Oper → List Info → Bool
  | _, k, [], [] => Nat.beq k E.length
  | i, k, o :: r, inf :: s => opPlan ops pm E i k o inf && plansOk ops pm E (i + 1) (bif inf.e then k + 1 else k) r s
  | _, _, _, _ => false
def nodupB : List Nat → Bool
  | [] => true
  | x :: r => !(r.any (Nat.beq x)) && nodupB r
def planOk (ops : Array Oper) (infs : List Info) : Bool :=
  let pm := preAll ops.toList []
  let E := eIdx ops
  plansOk ops pm E 0 0 ops.toList infs && chainOk pm E && nodupB (ops.toList.filterMap (·.dst))

/-! ### the program that makes a plan -/
def mkInfo (ops : Array Oper) (pm E : List Nat) (i k : Nat) (o : Oper) : Info :=
  bif isE o then ⟨true, 0, 0⟩ else ⟨false, k - (E.filter (fun x => bitAt pm i x)).length, (E.filter (fun x => !(bitAt pm x i))).length - k⟩
def mkInfos (ops : Array Oper) (pm E : List Nat) : Nat → Nat → List Oper → List Info
  | _, _, [] => []
  | i, k, o :: r => mkInfo ops pm E i k o :: mkInfos ops pm E (i + 1) (bif isE o then k + 1 else k) r
def mkPlan (ops : Array Oper) : List Info := mkInfos ops (preAll ops.toList []) (eIdx ops) 0 0 ops.toList

section
variable {P : Program} {T : Tab} {G : Ghost} {w : World} {K : Nat → Option Nat} {M : Mem}

/-- a variable that was there on paper comes up -/
theorem birth (hT : TabOk P T) (hI : Inv G w K M) {o : Oper} {ρ : Operand → Value} {id t : Nat} {y : Ty} (hop : o.op = .alloc t) (hy : T.ty t = some y) (hid : M.H[id]? = some (.obj (y.zero.map ofValue))) (hK : K id = none) :
    ∃ w', (execOp ρ o).run P w = .ok (.value (.pointer (some ⟨w.heap.size, 0, none⟩))) w' ∧ Keep (fun _ => True) w K M.H w' (upd K id (some w.heap.size)) M.H ∧ Inv G w' (upd K id (some w.heap.size)) M ∧ w.heap.size ≤ w'.heap.size ∧ ∀ b, b < w.heap.size → w'.heap[b]? = w.heap[b]? := by
  have hY := hT.ty t y hy
  have hz := run_zero' (P := P) (w := w) hY
  have hnew := heap_alloc_new w (.cells y.z.cells t)
  have hold : ∀ b, b < w.heap.size → (w.alloc (.cells y.z.cells t)).heap[b]? = w.heap[b]? := fun b hb => heap_alloc_old w _ b hb
  have hsz : w.heap.size ≤ (w.alloc (.cells y.z.cells t)).heap.size := by show w.heap.size ≤ (w.heap.push _).size; simp
  have hlt : w.heap.size < (w.alloc (.cells y.z.cells t)).heap.size := by show w.heap.size < (w.heap.push _).size; simp
  have hil := (List.getElem?_eq_some_iff.1 hid).1
  have hkeep : Keep (fun _ => True) w K M.H (w.alloc (.cells y.z.cells t)) (upd K id (some w.heap.size)) M.H := by
    refine ⟨Szp.of_old hold, fun b a hb hi => ⟨fun i ob hob hKi => ?_, World.cell?_of_block (hold b hb)⟩, fun i _ hn => ⟨fun b hb => ?_, hn⟩, fun i m k _ hm => ⟨m, hm, Nat.le_refl _, fun _ => ?_⟩⟩
    · by_cases e : i = id
      · subst e; rw [upd_same] at hKi; cases hKi; omega
      · rw [upd_ne _ _ e] at hKi; exact hi i ob hob hKi
    · by_cases e : i = id
      · subst e; rw [hK] at hb; cases hb
      · rw [upd_ne _ _ e]; exact hb
    · by_cases e : i = id
      · subst e; rw [hid] at hm; cases hm
      · exact ⟨upd_ne _ _ e, fun b hb => hold b (hI.lt hm hb)⟩
  refine ⟨w.alloc (.cells y.z.cells t), ?_, hkeep, ?_, hsz, hold⟩
  · obtain ⟨dst, op, type, pos, after, guard⟩ := o
    simp only at hop
    subst hop
    simp [execOp, Instr.alloc, hz, newVar, newRow]
  · refine ⟨hI.os, hI.tape, hI.output, Nat.le_trans hI.size hsz, Nat.le_trans hI.gB hsz, fun b h1 h2 => (hold b (Nat.lt_of_lt_of_le h1 hI.gB)).trans (hI.old b h1 h2), ?_, ?_, ?_, hI.cl, hI.lg, hI.lpd⟩
    · intro i j b hi hj n1 n2 h1 h2
      by_cases e1 : i = id <;> by_cases e2 : j = id
      · rw [e1, e2]
      · subst e1; rw [upd_same] at h1; cases h1; rw [upd_ne _ _ e2] at h2; have := (hI.blk j _ hj h2).1; omega
      · subst e2; rw [upd_same] at h2; cases h2; rw [upd_ne _ _ e1] at h1; have := (hI.blk i _ hi h1).1; omega
      · rw [upd_ne _ _ e1] at h1; rw [upd_ne _ _ e2] at h2; exact hI.inj i j b hi hj n1 n2 h1 h2
    · intro i b hi h1
      by_cases e1 : i = id
      · subst e1; rw [upd_same] at h1; cases h1; exact ⟨hlt, .inl hI.gB⟩
      · rw [upd_ne _ _ e1] at h1
        exact ⟨Nat.lt_of_lt_of_le (hI.blk i b hi h1).1 hsz, (hI.blk i b hi h1).2⟩
    · intro i o' ho
      by_cases e1 : i = id
      · subst e1
        rw [hid] at ho
        cases ho
        rw [upd_same]
        intro b hb
        cases hb
        exact ⟨_, t, hnew, by rw [zero_cells hY]; simp, fun i u c hu hcc => by rw [zero_cells hY] at hu; exact zero_rep hY i u c hu hcc⟩
      · rw [upd_ne _ _ e1]
        refine (hI.obj i o' ho).keep hkeep (fun b hb => hold b (hI.lt ho hb)) (fun _ _ _ _ => trivial) fun L e => ⟨trivial, ?_⟩
        subst e
        have := hI.lpd i L ho
        have := (List.getElem?_eq_some_iff.1 ho).1
        omega
end
end Go.Proofs.Ytmagiabapakhcaa.Vm
