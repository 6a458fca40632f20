/- A part of the proofs about the chapter of the doors; it states no condition of its own. -/
import Derived.Test.YtekhddlngbppkaaDoorB13
import Derived.Test.YtekhddlngbppkaaDoorB14
import Derived.Lib.LaidTab
import Derived.Deep.DeepLaidRun
import Derived.Shelf.Vars
import Derived.HandedShaped
import Derived.LaidHandle
import Derived.Stop.Joined
set_option linter.unusedVariables false
set_option linter.unusedSimpArgs false
/- Laws of numbers. (Vm) -/
namespace Go.Proofs.YtekhddlngbppkaaDoor.Vm
open Go Go.Proofs Go.ChangeShapes Go.WideShapes Go.ChangeAt Go.RowKit
end Go.Proofs.YtekhddlngbppkaaDoor.Vm

/- Laws of houses and numbers: what comes in, as values. (Vm) -/
namespace Go.Proofs.YtekhddlngbppkaaDoor.Vm
open Go Go.Proofs Go.ChangeShapes Go.WideShapes Go.ChangeAt Go.RowKit
def Rd (t : TypeId) (p : VV → Prop) : Prop := (Tryd.prog.readableRec t = true ∧ t < Tryd.prog.types.size) ∧ ∀ (H : Type) (enc : TypeId × Value → H) (W : World) (b0 : Nat) (v : Value) (d : DataW H) (ps : List MemPlace), Value.okWide Tryd.prog W .any b0 t v → DataW.Trod enc Tryd.prog W 0 (fun _ => true) true t v d ps → ∃ u, p u ∧ RepV W (fun _ => none) [] v u ∧ refs u = []
inductive Rds : List TypeId → List (VV → Prop) → Prop
 | nil : Rds [] []
 | cons {t : TypeId} {p : VV → Prop} {ts : List TypeId} {ps : List (VV → Prop)} (h : Rd t p) (r : Rds ts ps) : Rds (t :: ts) (p :: ps)
inductive Sat : List (VV → Prop) → List VV → Prop
 | nil : Sat [] []
 | cons {p : VV → Prop} {ps : List (VV → Prop)} {u : VV} {us : List VV} (h : p u) (r : Sat ps us) : Sat (p :: ps) (u :: us)
theorem Sat.inv {p : VV → Prop} {ps : List (VV → Prop)} {us : List VV} (h : Sat (p :: ps) us) : ∃ u vs, us = u :: vs ∧ p u ∧ Sat ps vs := by
 cases h with
 | cons h r => exact ⟨_, _, rfl, h, r⟩
theorem Sat.inv0 {us : List VV} (h : Sat [] us) : us = [] := by cases h; rfl
theorem pw_cons {α β : Type} {R : α → β → Prop} {a : α} {b : β} {xs : List α} {ys : List β} (h : R a b) (r : PW R xs ys) : PW R (a :: xs) (b :: ys) := ⟨by simp [r.1], fun i x y h1 h2 => by
 match i, h1, h2 with
 | 0, h1, h2 => cases h1; cases h2; exact h
 | i + 1, h1, h2 => exact r.2 i x y h1 h2⟩
set_option maxRecDepth 100000 in
theorem Rds.read {H : Type} {enc : TypeId × Value → H} {W : World} {b0 : Nat} : ∀ {ts : List TypeId} {pr : List (VV → Prop)}, Rds ts pr → ∀ {args : List Value} {ds : List (DataW H)} {ps : List MemPlace}, DataW.TrodAll enc Tryd.prog W 0 (fun _ => true) true ts args ds ps → (∀ (j : Nat) t v, ts[j]? = some t → args[j]? = some v → Value.okWide Tryd.prog W .any b0 t v) → ∃ us, Sat pr us ∧ PW (RepV W (fun _ => none) []) args us ∧ (∀ a ∈ us, refs a = []) ∧ ds.length = ts.length := by
 intro ts pr R
 induction R with
 | nil =>
  intro args ds ps h _
  obtain ⟨rfl, rfl, rfl⟩ := trodAll_nil h
  exact ⟨[], .nil, ⟨rfl, fun i a b h => by simp at h⟩, by simp, rfl⟩
 | cons h r ih =>
  intro args ds ps hA hv
  obtain ⟨v0, vs0, d0, ds0, p0, q0, rfl, rfl, rfl, h0, r0⟩ := trodAll_cons hA
  obtain ⟨us, s1, s2, s3, s4⟩ := ih r0 fun j t v h1 h2 => hv (j + 1) t v (by simpa using h1) (by simpa using h2)
  obtain ⟨u, t1, t2, t3⟩ := h.2 H enc W b0 v0 d0 p0 (hv 0 _ _ rfl rfl) h0
  refine ⟨u :: us, .cons t1 s1, pw_cons t2 s2, fun a ha => ?_, by simp [s4]⟩
  rcases List.mem_cons.1 ha with rfl | ha
  ·exact t3
  ·exact s3 a ha
theorem Rds.types {ts : List TypeId} {pr : List (VV → Prop)} (R : Rds ts pr) : ∀ t ∈ ts, Tryd.prog.readableRec t = true ∧ t < Tryd.prog.types.size := by
 induction R with
 | nil => simp
 | cons h r ih =>
  intro t ht
  rcases List.mem_cons.1 ht with rfl | ht
  ·exact h.1
  ·exact ih t ht
set_option maxRecDepth 100000 in
theorem law_contract {f : Nat} {fn : Func} {s : ChangeSpec} {H : Type} {enc : TypeId × Value → H} {W : World} {args : Array Value} {ds gs : List (DataW H)} {before : List MemPlace} {b0 : Nat} {pr : List (VV → Prop)} (R : Rds fn.params.toList pr) (hvs : s.vars = [])
  (hs : ∀ ds : List (DataW H), ds.length = fn.params.toList.length → (s.fn H ds).results = [.lit (.bool true)] ∧ (s.fn H ds).args = ds ∧ (s.fn H ds).vars = []) (hres : fn.resultTypes = #[4])
  (hv : ∀ us, Sat pr us → VC Tryd.prog f us ⟨[], []⟩ (fun r M' => M' = ⟨[], []⟩ ∧ r = vb true))
  (hlz : Lz W.heap.size W (fun _ => False))
  (hval : ∀ (j : Nat) t v, fn.params[j]? = some t → args[j]? = some v → Value.okWide Tryd.prog W .any b0 t v)
  (hW : DataW.Whole enc Tryd.prog fn.params.toList s.vars false W args.toList ds gs before) :
  Calls Tryd.prog f args W fun e W' => ∃ v, e = .returned v ∧ s.post enc Tryd.prog fn false true false false W args v W' := by
 have hW' := hW
 obtain ⟨p, q, hA0, hV, rfl, hfz, hnd⟩ := hW
 have hA : DataW.TrodAll enc Tryd.prog W 0 (fun _ => true) true fn.params.toList args.toList ds p := hA0
 obtain ⟨us, s1, s2, s3, s4⟩ := R.read hA fun j t v h1 h2 => hval j t v (by simpa using h1) (by simpa using h2)
 exact law_post hvs (hs ds s4) hres R.types hW' (law_run hlz s2 s3 (hv us s1))
end Go.Proofs.YtekhddlngbppkaaDoor.Vm

/- A law whose row lists package variables: what is known of them where it begins. (Vm) -/
namespace Go.Proofs.YtekhddlngbppkaaDoor.Vm
open Go Go.Proofs Go.ChangeShapes Go.WideShapes Go.ChangeAt Go.RowKit
theorem laid_mem {P : Program} {w : World} {n : String} {d : DataW Unit} : ∀ {l : List (String × DataW Unit)} {ps : List MemPlace}, DataW.LaidVars P w l ps → (n, d) ∈ l → ∃ g t cs fuel p, P.globalNamed n = some g ∧ (P.globals[g]?).map (·.type) = some t ∧ w.var? P n = some cs ∧ DataW.trod (fun _ => ()) P w 0 (fun _ => true) false fuel t cs.toList = some (d, p)
 | [], _, _, h => by cases h
 | (n', d') :: r, ps, hl, h => by
  obtain ⟨g, t, cs, fuel, p, q, h1, h2, h3, h4, h5, _⟩ := hl
  rcases List.mem_cons.1 h with e | e
  ·cases e
   exact ⟨g, t, cs, fuel, p, h1, h2, h3, h4⟩
  ·exact laid_mem h5 e
theorem var_heap {P : Program} {w : World} {n : String} {g : Nat} {cs : Array Value} (hg : P.globalNamed n = some g) (h : w.var? P n = some cs) : ∃ t z, w.heap[g]? = some (.cells cs t z) := by
 unfold World.var? at h
 rw [hg] at h
 simp only [Option.bind_some] at h
 split at h
 ·rename_i c t z hh
  cases h
  exact ⟨t, z, hh⟩
 ·cases h
theorem LzF_in {w : World} {g : Nat} {o : Obj} (hg : g ∈ LzG) (h : w.heap[g]? = some o) : LzF w g = some o := by
 unfold LzF
 rw [if_pos hg, h]
theorem heap_lt {w : World} {g : Nat} {o : Obj} (h : w.heap[g]? = some o) : g < w.heap.size := (Array.getElem?_eq_some_iff.1 h).1
theorem lz_of {W : World} {l : List (String × DataW Unit)} (hl : laidMet Tryd.prog l W)
  (h1 : ("internal/strconv.uint64pow10", Lib.tabData .u64 Lib.pow10Tab) ∈ l) : Lz W.heap.size W (fun _ => False) := by
 obtain ⟨ps, hl, _⟩ := hl
 have a1 : ∃ t z, W.heap[0]? = some (.cells (Lib.pow10Tab.map fun n => Value.int .u64 n).toArray t z) := by
  obtain ⟨g, t, cs, fuel, p, e1, e2, e3, e4⟩ := laid_mem hl h1
  obtain rfl : g = 0 := (Option.some.inj ((show Tryd.prog.globalNamed "internal/strconv.uint64pow10" = some 0 by kernel_rfl).symm.trans e1)).symm
  obtain ⟨t', z, hh⟩ := var_heap e1 e3
  obtain rfl : t = 121 := (Option.some.inj ((show (Tryd.prog.globals[0]?).map (·.type) = some 121 by kernel_rfl).symm.trans e2)).symm
  have := Lib.cells_of_tab Tryd.underlying121 Tryd.underlying115 (by kernel_rfl) (by kernel_rfl) e4
  refine ⟨t', z, ?_⟩
  rw [hh, ← this, Array.toArray_toList]
 obtain ⟨t1, z1, b1⟩ := a1
 refine ⟨fun g hg => ⟨?_, fun e => e⟩, ⟨t1, z1, LzF_in (by decide) b1⟩, trivial, trivial⟩
 simp only [LzG, List.mem_cons, List.not_mem_nil, or_false] at hg
 subst hg
 exact heap_lt b1
theorem handed_laid {H : Type} {enc : TypeId × Value → H} {a : Assume} {C : Checked} {os : Os} {f : FuncId} {fn : Func} {s : ChangeSpec} {conds : List PathCond} {apart fresh handsOn again : Bool} {l : List (String × DataW Unit)}
  (own : ownKnob C.prog.godebug = none) (started : os.Started) (noInit : C.prog.inits.idxOf? f = none) (hfn : C.prog.funcs[f]? = some fn)
  (witness : ∃ (w : World) (tape : Tape) (i : Input), w.os = os ∧ (w.forCall tape i).Shaped C.prog ∧ i.vars = [] ∧ Input.okWide C.prog (w.forCall tape i) .any w.heap.size f i ∧
    ((s.pre enc C.prog fn conds apart (w.forCall tape i).memory i.args ∧ laidMetH C.prog l (w.forCall tape i).memory) ∧ sizedMet enc C.prog fn (OpenSpec.ofChange s) apart (w.forCall tape i).memory i.args) ∧ a.holds C.prog (lone (Frame.enter C.prog f i.args .normal) [] (w.forCall tape i)))
  (contract : ∀ (W : World) (base : Nat) (args : Array Value) (ds gs : List (DataW H)) (before : List MemPlace),
    (∀ (j : Nat) t v, fn.params[j]? = some t → args[j]? = some v → Value.okWide C.prog W .any base t v) →
    DataW.Whole enc C.prog fn.params.toList s.vars apart W args.toList ds gs before →
    laidMetH C.prog l W → W.ShapedOpen C.prog →
    Calls C.prog f args W fun e W' => ∃ v, e = .returned v ∧ s.post enc C.prog fn apart fresh handsOn again W args v W') :
  ReturnsInHanded a C os f .any (fun w args => (s.pre enc C.prog fn conds apart w args ∧ laidMetH C.prog l w) ∧ sizedMet enc C.prog fn (OpenSpec.ofChange s) apart w args) (s.post enc C.prog fn apart fresh handsOn again) := by
 refine returnsInHanded_of_calls own started noInit witness ?_
 intro w tape i _ hsh _ hok hpre hholds
 obtain ⟨_, _, _, fn', hfn', _, _, _, _, hval⟩ := hok
 have e : fn' = fn := Option.some.inj (hfn'.symm.trans hfn)
 subst e
 obtain ⟨⟨⟨ds, gs, before, hw, hc⟩, hx⟩, hz⟩ := hpre
 have hw' := DataW.Whole.of_heap (w' := w.forCall tape i) (by rfl) hw
 refine (contract (w.forCall tape i) w.heap.size i.args ds gs before hval hw' (laidMetH.of_heap (w := (w.forCall tape i).memory) (by rfl) hx) hsh).mono fun e W' ⟨v, he, hp⟩ => ?_
 subst he
 exact ChangeSpec.post_blind hp
def numsC : List (DataW Unit) → List Value
 | [] => []
 | .lit (.int k n) :: r => .int k n :: numsC r
 | .agg l :: r => numsC2 l ++ numsC r
 | _ :: r => numsC r
where numsC2 : List (DataW Unit) → List Value
 | [] => []
 | .lit (.int k n) :: r => .int k n :: numsC2 r
 | _ :: r => numsC2 r
def cellsC : DataW Unit → Array Value
 | .agg l => (numsC l).toArray
 | _ => #[]
end Go.Proofs.YtekhddlngbppkaaDoor.Vm

/- A world in which the listed variables hold what the row says. (Vm) -/
namespace Go.Proofs.YtekhddlngbppkaaDoor.Vm
open Go Go.Proofs Go.ChangeShapes Go.WideShapes Go.ChangeAt Go.RowKit
noncomputable def laidWorld (os : Os) : World :=
 let w0 := World.settled Tryd.prog os
 let put (h : Array Obj) (g : Nat) (cs : Array Value) : Array Obj := h.modify g fun
  | .cells _ t frozen => .cells cs t frozen
  | o => o
 { w0 with heap := put (put (put w0.heap 0 (cellsC Rows.laid_internal_strconv_uint64pow10))
   1 (cellsC Rows.laid_math_bits_deBruijn32tab)) 2 (cellsC Rows.laid_math_bits_deBruijn64tab) }
set_option maxRecDepth 100000 in
theorem laid_met (os : Os) (args : Array Value) : laidMet Tryd.prog Rows.doorKnownRow.laid ((laidWorld os).forCall (fun _ _ => 0) ⟨#[], args, []⟩).memory :=
 laidMet_of_run3 10 (by kernel_rfl) (by kernel_rfl) (by kernel_rfl)
set_option maxRecDepth 100000 in
theorem laid_shaped (os : Os) (args : Array Value) : ((laidWorld os).forCall (fun _ _ => 0) ⟨#[], args, []⟩).Shaped Tryd.prog :=
 World.shaped_of_RefB (by kernel_rfl) (by kernel_rfl)
theorem laid_pow : Rows.laid_internal_strconv_uint64pow10 = Lib.tabData (H := Unit) .u64 Lib.pow10Tab := by kernel_rfl
theorem lz_law {W : World} (h : laidMetH Tryd.prog Rows.doorKnownRow.laid W) : Lz W.heap.size W (fun _ => False) := by
 have h' : laidMet Tryd.prog Rows.doorKnownRow.laid W := h
 refine lz_of h' ?_
 rw [← laid_pow]
 exact List.Mem.tail _ (List.Mem.tail _ (List.Mem.head _))
end Go.Proofs.YtekhddlngbppkaaDoor.Vm

/- The cells of spans. (Vm) -/
namespace Go.Proofs.YtekhddlngbppkaaDoor.Vm
open Go Go.Proofs
def spCs (l : List Sp) : List VV := l.flatMap fun s => [vi s.lo, vi s.hi]
theorem spCs_len (l : List Sp) : (spCs l).length = l.length * 2 := by
 induction l with
 | nil => rfl
 | cons s l ih => simp only [spCs, List.flatMap_cons, List.length_append, List.length_cons, List.length_nil] at ih ⊢; omega
theorem spCs_drop (l : List Sp) (k : Nat) : (spCs l).drop (k * 2) = spCs (l.drop k) := by
 induction l generalizing k with
 | nil => simp [spCs]
 | cons s l ih =>
  cases k with
  | zero => rfl
  | succ k =>
   have := ih k
   rw [show (k + 1) * 2 = k * 2 + 2 by omega]
   simpa [spCs] using this
theorem spCs_take (l : List Sp) (k : Nat) : (spCs l).take (k * 2) = spCs (l.take k) := by
 induction l generalizing k with
 | nil => simp [spCs]
 | cons s l ih =>
  cases k with
  | zero => rfl
  | succ k =>
   have := ih k
   rw [show (k + 1) * 2 = k * 2 + 2 by omega]
   simpa [spCs] using this
theorem spCs_at {l : List Sp} {k : Nat} {x : Sp} (h : l[k]? = some x) : ((spCs l).drop (k * 2)).take 2 = [vi x.lo, vi x.hi] := by
 rw [spCs_drop]
 have hk := (List.getElem?_eq_some_iff.1 h).1
 rw [List.drop_eq_getElem_cons hk]
 have : l[k] = x := (List.getElem?_eq_some_iff.1 h).2
 simp [spCs, this]
theorem spCs_set {l : List Sp} {k : Nat} (x : Sp) (h : k < l.length) : (spCs l).take (k * 2) ++ vi x.lo :: vi x.hi :: (spCs l).drop (k * 2 + 2) = spCs (l.set k x) := by
 rw [show k * 2 + 2 = (k + 1) * 2 by omega, spCs_take, spCs_drop, List.set_eq_take_append_cons_drop, if_pos h]
 simp [spCs]
theorem spCs_rep (n : Nat) : (List.replicate n [vi 0, vi 0]).flatten = spCs (List.replicate n ⟨0, 0⟩) := by
 induction n with
 | zero => rfl
 | succ n ih => rw [List.replicate_succ, List.replicate_succ, List.flatten_cons, ih]; rfl
theorem spCs_chunks (l : List Sp) : ∀ (m : Nat) (k : Nat), k + m = l.length → toPss (chunksOf (spCs l) 2 (k * 2) m) = some ((l.drop k).map spP)
 | 0, k, h => by simp [chunksOf, toPss, List.drop_of_length_le (show l.length ≤ k by omega)]
 | m + 1, k, h => by
  have hk : k < l.length := by omega
  have ih := spCs_chunks l m (k + 1) (by omega)
  rw [show (k + 1) * 2 = k * 2 + 2 by omega] at ih
  rw [chunksOf, toPss, ih, spCs_at (List.getElem?_eq_getElem hk), List.drop_eq_getElem_cons hk]
  rfl
theorem frz_spans {n0 : Nat} {H : List VObj} {id : Nat} {l : List Sp} (hid : n0 ≤ id) (h : H[id]? = some (.obj (spCs l))) : frz n0 H (.bf id 0 l.length 2) = spsV l := by
 have h0 : Nat.ble n0 id = true := by rw [Nat.ble_eq]; exact hid
 have h1 : Nat.ble (0 + l.length * 2) (spCs l).length = true := by rw [Nat.ble_eq, spCs_len]; omega
 have h2 := spCs_chunks l l.length 0 (by omega)
 rw [Nat.zero_mul] at h2
 simp only [frz, h0, h, h1, h2, cond_true, List.drop_zero]
end Go.Proofs.YtekhddlngbppkaaDoor.Vm

/- Houses, plain: which errors, and how many people may be inside. -/
namespace Go.Proofs.YtekhddlngbppkaaDoor
def spErr (x : Sp) : Int := if inR x.lo 0 10000 && inR x.hi 0 10000 then (if x.hi < x.lo then 5 else 0) else 1
def doErr (n : Nat) (d : Do) : Int := if inR d.a (-1) ((n : Int) - 1) && inR d.b (-1) ((n : Int) - 1) then (if d.a = d.b then 2 else if inR d.flow 0 10000 then 0 else 1) else 3
def doorsErr (n : Nat) : List Do → Int
 | [] => 0
 | d :: ds => if doErr n d = 0 then doorsErr n ds else doErr n d
def doAt (h : Ho) (i : Int) : Do := h.doors.getD i.toNat ⟨0, 0, 0⟩
def sameKey (c b : Co) : Bool := decide (b.tick = c.tick) && decide (b.door = c.door)
def coErr (h : Ho) (before : List Co) (c : Co) : Int :=
 if inR c.tick 0 (h.ticks - 1) then
  if inR c.door 0 ((h.doors.length : Int) - 1) then
   if 0 ≤ (doAt h c.door).a ∧ 0 ≤ (doAt h c.door).b then 8
   else if before.any (sameKey c) then 4
   else if spErr c.i = 0 then spErr c.o else spErr c.i
  else 3
 else 1
def cosErr (h : Ho) : List Co → List Co → Int
 | _, [] => 0
 | bs, c :: cs => if coErr h bs c = 0 then cosErr h (bs ++ [c]) cs else coErr h bs c
def restErr (h : Ho) : Int :=
 if spErr h.first = 0 then (if inR h.ticks 0 12 then (if 24 < h.counts.length then 6 else cosErr h [] h.counts) else 1) else spErr h.first
def houseErr (h : Ho) : Int :=
 if h.holds.length = 0 then 7 else if 4 < h.holds.length then 6 else if h.holds.all (fun n => inR n 0 10000) then
  (if 5 < h.doors.length then 6 else if doorsErr h.holds.length h.doors = 0 then restErr h else doorsErr h.holds.length h.doors) else 1
structure SpOk (x : Sp) : Prop where
 lo0 : 0 ≤ x.lo
 le : x.lo ≤ x.hi
 hi1 : x.hi ≤ 10000
theorem spErr_ok {x : Sp} : spErr x = 0 ↔ SpOk x := by
 unfold spErr
 constructor
 ·intro h
  split at h
  ·rename_i h1
   simp only [Bool.and_eq_true, inR_true] at h1
   split at h
   ·simp at h
   ·exact ⟨by omega, by omega, by omega⟩
  ·simp at h
 ·intro h
  have := h.lo0
  have := h.le
  have := h.hi1
  rw [if_pos (by simp only [Bool.and_eq_true, inR_true]; omega), if_neg (by omega)]
structure DoV (n : Nat) (d : Do) : Prop where
 a0 : -1 ≤ d.a
 a1 : d.a < n
 b0 : -1 ≤ d.b
 b1 : d.b < n
 ne : d.a ≠ d.b
 f0 : 0 ≤ d.flow
 f1 : d.flow ≤ 10000
theorem doErr_ok {n : Nat} {d : Do} : doErr n d = 0 ↔ DoV n d := by
 unfold doErr
 constructor
 ·intro h
  split at h
  ·rename_i h1
   simp only [Bool.and_eq_true, inR_true] at h1
   split at h
   ·simp at h
   ·split at h
    ·rename_i h2
     rw [inR_true] at h2
     exact ⟨by omega, by omega, by omega, by omega, by omega, by omega, by omega⟩
    ·simp at h
  ·simp at h
 ·intro h
  obtain ⟨a0, a1, b0, b1, ne, f0, f1⟩ := h
  rw [if_pos (by simp only [Bool.and_eq_true, inR_true]; omega), if_neg ne, if_pos (by rw [inR_true]; omega)]
theorem doorsErr_ok {n : Nat} : ∀ {ds : List Do}, doorsErr n ds = 0 ↔ ∀ d ∈ ds, DoV n d
 | [] => by simp [doorsErr]
 | d :: ds => by
  rw [doorsErr]
  by_cases h : doErr n d = 0
  ·rw [if_pos h, doorsErr_ok (ds := ds)]
   simp [doErr_ok.1 h]
  ·rw [if_neg h]
   constructor
   ·intro h2; exact absurd h2 h
   ·intro h2; exact absurd (doErr_ok.2 (h2 d (by simp))) h
structure CoV (h : Ho) (c : Co) : Prop where
 t0 : 0 ≤ c.tick
 t1 : c.tick < h.ticks
 d0 : 0 ≤ c.door
 d1 : c.door < h.doors.length
 k : ¬ (0 ≤ (doAt h c.door).a ∧ 0 ≤ (doAt h c.door).b)
 i : SpOk c.i
 o : SpOk c.o
theorem coErr_ok {h : Ho} {bs : List Co} {c : Co} : coErr h bs c = 0 ↔ CoV h c ∧ bs.any (sameKey c) = false := by
 unfold coErr
 constructor
 ·intro e
  split at e
  ·rename_i h1
   rw [inR_true] at h1
   split at e
   ·rename_i h2
    rw [inR_true] at h2
    split at e
    ·simp at e
    ·rename_i h3
     split at e
     ·simp at e
     ·rename_i h4
      split at e
      ·rename_i h5
       exact ⟨⟨by omega, by omega, by omega, by omega, h3, spErr_ok.1 h5, spErr_ok.1 e⟩, by simpa using h4⟩
      ·rename_i h5; exact absurd e h5
   ·simp at e
  ·simp at e
 ·rintro ⟨⟨t0, t1, d0, d1, k, i, o⟩, h4⟩
  rw [if_pos (by rw [inR_true]; omega), if_pos (by rw [inR_true]; omega), if_neg k, h4, if_pos (spErr_ok.2 i)]
  simpa using spErr_ok.2 o
def keysOk : List Co → List Co → Prop
 | _, [] => True
 | bs, c :: cs => bs.any (sameKey c) = false ∧ keysOk (bs ++ [c]) cs
theorem cosErr_ok {h : Ho} : ∀ {cs bs : List Co}, cosErr h bs cs = 0 ↔ (∀ c ∈ cs, CoV h c) ∧ keysOk bs cs
 | [], bs => by simp [cosErr, keysOk]
 | c :: cs, bs => by
  rw [cosErr]
  by_cases e : coErr h bs c = 0
  ·rw [if_pos e, cosErr_ok, keysOk]
   have := coErr_ok.1 e
   simp [this.1, this.2]
  ·rw [if_neg e]
   constructor
   ·intro h2; exact absurd h2 e
   ·rintro ⟨h1, h2⟩
    exact absurd (coErr_ok.2 ⟨h1 c (by simp), h2.1⟩) e
structure HV (h : Ho) : Prop where
 n0 : 1 ≤ h.holds.length
 n1 : h.holds.length ≤ 4
 holds : ∀ n ∈ h.holds, 0 ≤ n ∧ n ≤ 10000
 d1 : h.doors.length ≤ 5
 doors : ∀ d ∈ h.doors, DoV h.holds.length d
 first : SpOk h.first
 t0 : 0 ≤ h.ticks
 t1 : h.ticks ≤ 12
 c1 : h.counts.length ≤ 24
 counts : ∀ c ∈ h.counts, CoV h c
 keys : keysOk [] h.counts
theorem houseErr_ok {h : Ho} : houseErr h = 0 ↔ HV h := by
 unfold houseErr
 constructor
 ·intro e
  split at e
  ·simp at e
  ·split at e
   ·simp at e
   ·split at e
    ·rename_i h1
     split at e
     ·simp at e
     ·split at e
      ·rename_i h2
       unfold restErr at e
       split at e
       ·rename_i h3
        split at e
        ·rename_i h4
         rw [inR_true] at h4
         split at e
         ·simp at e
         ·have h5 := cosErr_ok.1 e
          refine ⟨by omega, by omega, fun n hn => ?_, by omega, doorsErr_ok.1 h2, spErr_ok.1 h3, h4.1, h4.2, by omega, h5.1, h5.2⟩
          have := List.all_eq_true.1 h1 n hn
          rwa [inR_true] at this
        ·simp at e
       ·rename_i h3; exact absurd e h3
      ·rename_i h2; exact absurd e h2
    ·simp at e
 ·rintro ⟨n0, n1, holds, d1, doors, first, t0, t1, c1, counts, keys⟩
  rw [if_neg (by omega), if_neg (by omega), if_pos (List.all_eq_true.2 fun n hn => by rw [inR_true]; exact holds n hn), if_neg (by omega), if_pos (doorsErr_ok.2 doors)]
  unfold restErr
  rw [if_pos (spErr_ok.2 first), if_pos (by rw [inR_true]; omega), if_neg (by omega)]
  exact cosErr_ok.2 ⟨counts, keys⟩
def chg (cs : List Co) (t : Int) : Sp := ⟨((cs.filter fun c => decide (c.tick = t)).map fun c => c.i.lo - c.o.hi).sum, ((cs.filter fun c => decide (c.tick = t)).map fun c => c.i.hi - c.o.lo).sum⟩
def nxt (x c : Sp) : Sp := ⟨max 0 (x.lo + c.lo), x.hi + c.hi⟩
def fwd (first : Sp) (C : Nat → Sp) : Nat → Sp
 | 0 => first
 | t + 1 => nxt (fwd first C t) (C t)
def bad (first : Sp) (C : Nat → Sp) (T : Nat) : Bool := (List.range T).any fun t => decide ((fwd first C (t + 1)).hi < (fwd first C (t + 1)).lo)
def bwd (first : Sp) (C : Nat → Sp) (T : Nat) : Nat → Sp
 | 0 => fwd first C T
 | k + 1 => let x := bwd first C T k; let c := C (T - (k + 1)); let f := fwd first C (T - (k + 1)); ⟨max f.lo (x.lo - c.hi), min f.hi (x.hi - c.lo)⟩
def insideL (first : Sp) (C : Nat → Sp) (T : Nat) : List Sp := (List.range (T + 1)).map fun t => bwd first C T (T - t)
def insideH (h : Ho) : Option (List Sp) := if bad h.first (fun t => chg h.counts t) h.ticks.toNat then none else some (insideL h.first (fun t => chg h.counts t) h.ticks.toNat)
end Go.Proofs.YtekhddlngbppkaaDoor
