/- A part of the proofs about the chapter of the ramps; it states no condition of its own. -/
import Derived.Test.YtkipednlefbfpaaDoorB13
import Derived.Test.YtkipednlefbfpaaDoorB14
import Derived.Lib.LaidTab
import Derived.Deep.DeepLaidRun
import Derived.Shelf.Vars
import Derived.HandedShaped
import Derived.LaidHandle
import Derived.Stop.Joined
set_option linter.unusedVariables false
set_option linter.unusedSimpArgs false
open Int renaming reduceLE → zA, reduceLT → zB, reduceToNat → zC, reduceNeg → zD
open Nat renaming reduceLT → zE, reduceEqDiff → zF, reduceAdd → zG, reduceSub → zH, reduceMul → zI, reduceLeDiff → zJ
/- Laws of numbers. (Vm) -/
namespace Go.Proofs.YtkipednlefbfpaaDoor.Vm
open Go Go.Proofs Go.ChangeShapes Go.WideShapes Go.ChangeAt Go.RowKit
end Go.Proofs.YtkipednlefbfpaaDoor.Vm

/- Laws of houses and numbers: what comes in, as values. (Vm) -/
namespace Go.Proofs.YtkipednlefbfpaaDoor.Vm
open Go Go.Proofs Go.ChangeShapes Go.WideShapes Go.ChangeAt Go.RowKit
def Rd (t : TypeId) (p : VV → Prop) : Prop := (Tryd.prog.readableRec t = true ∧ t < Tryd.prog.types.size) ∧ ∀ (H : Type) (enc : TypeId × Value → H) (W : World) (b0 : Nat) (v : Value) (d : DataW H) (ps : List MemPlace), Value.okWide Tryd.prog W .any b0 t v → DataW.Trod enc Tryd.prog W 0 (fun _ => true) true t v d ps → ∃ u, p u ∧ RepV W (fun _ => none) [] v u ∧ refs u = []
inductive Rds : List TypeId → List (VV → Prop) → Prop
 | nil : Rds [] []
 | cons {t : TypeId} {p : VV → Prop} {ts : List TypeId} {ps : List (VV → Prop)} (h : Rd t p) (r : Rds ts ps) : Rds (t :: ts) (p :: ps)
inductive Sat : List (VV → Prop) → List VV → Prop
 | nil : Sat [] []
 | cons {p : VV → Prop} {ps : List (VV → Prop)} {u : VV} {us : List VV} (h : p u) (r : Sat ps us) : Sat (p :: ps) (u :: us)
theorem Sat.inv {p : VV → Prop} {ps : List (VV → Prop)} {us : List VV} (h : Sat (p :: ps) us) : ∃ u vs, us = u :: vs ∧ p u ∧ Sat ps vs := by
 cases h with
 | cons h r => exact ⟨_, _, rfl, h, r⟩
theorem Sat.inv0 {us : List VV} (h : Sat [] us) : us = [] := by cases h; rfl
theorem pw_cons {α β : Type} {R : α → β → Prop} {a : α} {b : β} {xs : List α} {ys : List β} (h : R a b) (r : PW R xs ys) : PW R (a :: xs) (b :: ys) := ⟨by simp [r.1], fun i x y h1 h2 => by
 match i, h1, h2 with
 | 0, h1, h2 => cases h1; cases h2; exact h
 | i + 1, h1, h2 => exact r.2 i x y h1 h2⟩
set_option maxRecDepth 100000 in
theorem Rds.read {H : Type} {enc : TypeId × Value → H} {W : World} {b0 : Nat} : ∀ {ts : List TypeId} {pr : List (VV → Prop)}, Rds ts pr → ∀ {args : List Value} {ds : List (DataW H)} {ps : List MemPlace}, DataW.TrodAll enc Tryd.prog W 0 (fun _ => true) true ts args ds ps → (∀ (j : Nat) t v, ts[j]? = some t → args[j]? = some v → Value.okWide Tryd.prog W .any b0 t v) → ∃ us, Sat pr us ∧ PW (RepV W (fun _ => none) []) args us ∧ (∀ a ∈ us, refs a = []) ∧ ds.length = ts.length := by
 intro ts pr R
 induction R with
 | nil =>
  intro args ds ps h _
  obtain ⟨rfl, rfl, rfl⟩ := trodAll_nil h
  exact ⟨[], .nil, ⟨rfl, fun i a b h => by simp at h⟩, by simp, rfl⟩
 | cons h r ih =>
  intro args ds ps hA hv
  obtain ⟨v0, vs0, d0, ds0, p0, q0, rfl, rfl, rfl, h0, r0⟩ := trodAll_cons hA
  obtain ⟨us, s1, s2, s3, s4⟩ := ih r0 fun j t v h1 h2 => hv (j + 1) t v (by simpa using h1) (by simpa using h2)
  obtain ⟨u, t1, t2, t3⟩ := h.2 H enc W b0 v0 d0 p0 (hv 0 _ _ rfl rfl) h0
  refine ⟨u :: us, .cons t1 s1, pw_cons t2 s2, fun a ha => ?_, by simp [s4]⟩
  rcases List.mem_cons.1 ha with rfl | ha
  ·exact t3
  ·exact s3 a ha
theorem Rds.types {ts : List TypeId} {pr : List (VV → Prop)} (R : Rds ts pr) : ∀ t ∈ ts, Tryd.prog.readableRec t = true ∧ t < Tryd.prog.types.size := by
 induction R with
 | nil => simp
 | cons h r ih =>
  intro t ht
  rcases List.mem_cons.1 ht with rfl | ht
  ·exact h.1
  ·exact ih t ht
set_option maxRecDepth 100000 in
theorem law_contract {f : Nat} {fn : Func} {s : ChangeSpec} {H : Type} {enc : TypeId × Value → H} {W : World} {args : Array Value} {ds gs : List (DataW H)} {before : List MemPlace} {b0 : Nat} {pr : List (VV → Prop)} (R : Rds fn.params.toList pr) (hvs : s.vars = [])
  (hs : ∀ ds : List (DataW H), ds.length = fn.params.toList.length → (s.fn H ds).results = [.lit (.bool true)] ∧ (s.fn H ds).args = ds ∧ (s.fn H ds).vars = []) (hres : fn.resultTypes = #[4])
  (hv : ∀ us, Sat pr us → VC Tryd.prog f us ⟨[], []⟩ (fun r M' => M' = ⟨[], []⟩ ∧ r = vb true))
  (hlz : Lz W.heap.size W (fun _ => False))
  (hval : ∀ (j : Nat) t v, fn.params[j]? = some t → args[j]? = some v → Value.okWide Tryd.prog W .any b0 t v)
  (hW : DataW.Whole enc Tryd.prog fn.params.toList s.vars false W args.toList ds gs before) :
  Calls Tryd.prog f args W fun e W' => ∃ v, e = .returned v ∧ s.post enc Tryd.prog fn false true false false W args v W' := by
 have hW' := hW
 obtain ⟨p, q, hA0, hV, rfl, hfz, hnd⟩ := hW
 have hA : DataW.TrodAll enc Tryd.prog W 0 (fun _ => true) true fn.params.toList args.toList ds p := hA0
 obtain ⟨us, s1, s2, s3, s4⟩ := R.read hA fun j t v h1 h2 => hval j t v (by simpa using h1) (by simpa using h2)
 exact law_post hvs (hs ds s4) hres R.types hW' (law_run hlz s2 s3 (hv us s1))
end Go.Proofs.YtkipednlefbfpaaDoor.Vm

/- A law whose row lists package variables: what is known of them where it begins. (Vm) -/
namespace Go.Proofs.YtkipednlefbfpaaDoor.Vm
open Go Go.Proofs Go.ChangeShapes Go.WideShapes Go.ChangeAt Go.RowKit
theorem laid_mem {P : Program} {w : World} {n : String} {d : DataW Unit} : ∀ {l : List (String × DataW Unit)} {ps : List MemPlace}, DataW.LaidVars P w l ps → (n, d) ∈ l → ∃ g t cs fuel p, P.globalNamed n = some g ∧ (P.globals[g]?).map (·.type) = some t ∧ w.var? P n = some cs ∧ DataW.trod (fun _ => ()) P w 0 (fun _ => true) false fuel t cs.toList = some (d, p)
 | [], _, _, h => by cases h
 | (n', d') :: r, ps, hl, h => by
  obtain ⟨g, t, cs, fuel, p, q, h1, h2, h3, h4, h5, _⟩ := hl
  rcases List.mem_cons.1 h with e | e
  ·cases e
   exact ⟨g, t, cs, fuel, p, h1, h2, h3, h4⟩
  ·exact laid_mem h5 e
theorem var_heap {P : Program} {w : World} {n : String} {g : Nat} {cs : Array Value} (hg : P.globalNamed n = some g) (h : w.var? P n = some cs) : ∃ t z, w.heap[g]? = some (.cells cs t z) := by
 unfold World.var? at h
 rw [hg] at h
 simp only [Option.bind_some] at h
 split at h
 ·rename_i c t z hh
  cases h
  exact ⟨t, z, hh⟩
 ·cases h
theorem LzF_in {w : World} {g : Nat} {o : Obj} (hg : g ∈ LzG) (h : w.heap[g]? = some o) : LzF w g = some o := by
 unfold LzF
 rw [if_pos hg, h]
theorem heap_lt {w : World} {g : Nat} {o : Obj} (h : w.heap[g]? = some o) : g < w.heap.size := (Array.getElem?_eq_some_iff.1 h).1
theorem lz_of {W : World} {l : List (String × DataW Unit)} (hl : laidMet Tryd.prog l W)
  (h1 : ("internal/strconv.uint64pow10", Lib.tabData .u64 Lib.pow10Tab) ∈ l) : Lz W.heap.size W (fun _ => False) := by
 obtain ⟨ps, hl, _⟩ := hl
 have a1 : ∃ t z, W.heap[0]? = some (.cells (Lib.pow10Tab.map fun n => Value.int .u64 n).toArray t z) := by
  obtain ⟨g, t, cs, fuel, p, e1, e2, e3, e4⟩ := laid_mem hl h1
  obtain rfl : g = 0 := (Option.some.inj ((show Tryd.prog.globalNamed "internal/strconv.uint64pow10" = some 0 by kernel_rfl).symm.trans e1)).symm
  obtain ⟨t', z, hh⟩ := var_heap e1 e3
  obtain rfl : t = 130 := (Option.some.inj ((show (Tryd.prog.globals[0]?).map (·.type) = some 130 by kernel_rfl).symm.trans e2)).symm
  have := Lib.cells_of_tab Tryd.underlying130 Tryd.underlying121 (by kernel_rfl) (by kernel_rfl) e4
  refine ⟨t', z, ?_⟩
  rw [hh, ← this, Array.toArray_toList]
 obtain ⟨t1, z1, b1⟩ := a1
 refine ⟨fun g hg => ⟨?_, fun e => e⟩, ⟨t1, z1, LzF_in (by decide) b1⟩, trivial, trivial⟩
 simp only [LzG, List.mem_cons, List.not_mem_nil, or_false] at hg
 subst hg
 exact heap_lt b1
theorem handed_laid {H : Type} {enc : TypeId × Value → H} {a : Assume} {C : Checked} {os : Os} {f : FuncId} {fn : Func} {s : ChangeSpec} {conds : List PathCond} {apart fresh handsOn again : Bool} {l : List (String × DataW Unit)}
  (own : ownKnob C.prog.godebug = none) (started : os.Started) (noInit : C.prog.inits.idxOf? f = none) (hfn : C.prog.funcs[f]? = some fn)
  (witness : ∃ (w : World) (tape : Tape) (i : Input), w.os = os ∧ (w.forCall tape i).Shaped C.prog ∧ i.vars = [] ∧ Input.okWide C.prog (w.forCall tape i) .any w.heap.size f i ∧
    ((s.pre enc C.prog fn conds apart (w.forCall tape i).memory i.args ∧ laidMetH C.prog l (w.forCall tape i).memory) ∧ sizedMet enc C.prog fn (OpenSpec.ofChange s) apart (w.forCall tape i).memory i.args) ∧ a.holds C.prog (lone (Frame.enter C.prog f i.args .normal) [] (w.forCall tape i)))
  (contract : ∀ (W : World) (base : Nat) (args : Array Value) (ds gs : List (DataW H)) (before : List MemPlace),
    (∀ (j : Nat) t v, fn.params[j]? = some t → args[j]? = some v → Value.okWide C.prog W .any base t v) →
    DataW.Whole enc C.prog fn.params.toList s.vars apart W args.toList ds gs before →
    laidMetH C.prog l W → W.ShapedOpen C.prog →
    Calls C.prog f args W fun e W' => ∃ v, e = .returned v ∧ s.post enc C.prog fn apart fresh handsOn again W args v W') :
  ReturnsInHanded a C os f .any (fun w args => (s.pre enc C.prog fn conds apart w args ∧ laidMetH C.prog l w) ∧ sizedMet enc C.prog fn (OpenSpec.ofChange s) apart w args) (s.post enc C.prog fn apart fresh handsOn again) := by
 refine returnsInHanded_of_calls own started noInit witness ?_
 intro w tape i _ hsh _ hok hpre hholds
 obtain ⟨_, _, _, fn', hfn', _, _, _, _, hval⟩ := hok
 have e : fn' = fn := Option.some.inj (hfn'.symm.trans hfn)
 subst e
 obtain ⟨⟨⟨ds, gs, before, hw, hc⟩, hx⟩, hz⟩ := hpre
 have hw' := DataW.Whole.of_heap (w' := w.forCall tape i) (by rfl) hw
 refine (contract (w.forCall tape i) w.heap.size i.args ds gs before hval hw' (laidMetH.of_heap (w := (w.forCall tape i).memory) (by rfl) hx) hsh).mono fun e W' ⟨v, he, hp⟩ => ?_
 subst he
 exact ChangeSpec.post_blind hp
def numsC : List (DataW Unit) → List Value
 | [] => []
 | .lit (.int k n) :: r => .int k n :: numsC r
 | .agg l :: r => numsC2 l ++ numsC r
 | _ :: r => numsC r
where numsC2 : List (DataW Unit) → List Value
 | [] => []
 | .lit (.int k n) :: r => .int k n :: numsC2 r
 | _ :: r => numsC2 r
def cellsC : DataW Unit → Array Value
 | .agg l => (numsC l).toArray
 | _ => #[]
end Go.Proofs.YtkipednlefbfpaaDoor.Vm

/- A world in which the listed variables hold what the row says. (Vm) -/
namespace Go.Proofs.YtkipednlefbfpaaDoor.Vm
open Go Go.Proofs Go.ChangeShapes Go.WideShapes Go.ChangeAt Go.RowKit
noncomputable def laidWorld (os : Os) : World :=
 let w0 := World.settled Tryd.prog os
 let put (h : Array Obj) (g : Nat) (cs : Array Value) : Array Obj := h.modify g fun
  | .cells _ t frozen => .cells cs t frozen
  | o => o
 { w0 with heap := put (put (put w0.heap 0 (cellsC Rows.laid_internal_strconv_uint64pow10))
   1 (cellsC Rows.laid_math_bits_deBruijn32tab)) 2 (cellsC Rows.laid_math_bits_deBruijn64tab) }
set_option maxRecDepth 100000 in
theorem laid_met (os : Os) (args : Array Value) : laidMet Tryd.prog Rows.rampKnownRow.laid ((laidWorld os).forCall (fun _ _ => 0) ⟨#[], args, []⟩).memory :=
 laidMet_of_run3 10 (by kernel_rfl) (by kernel_rfl) (by kernel_rfl)
set_option maxRecDepth 100000 in
theorem laid_shaped (os : Os) (args : Array Value) : ((laidWorld os).forCall (fun _ _ => 0) ⟨#[], args, []⟩).Shaped Tryd.prog :=
 World.shaped_of_RefB (by kernel_rfl) (by kernel_rfl)
theorem laid_pow : Rows.laid_internal_strconv_uint64pow10 = Lib.tabData (H := Unit) .u64 Lib.pow10Tab := by kernel_rfl
theorem lz_law {W : World} (h : laidMetH Tryd.prog Rows.rampKnownRow.laid W) : Lz W.heap.size W (fun _ => False) := by
 have h' : laidMet Tryd.prog Rows.rampKnownRow.laid W := h
 refine lz_of h' ?_
 rw [← laid_pow]
 exact List.Mem.tail _ (List.Mem.tail _ (List.Mem.head _))
end Go.Proofs.YtkipednlefbfpaaDoor.Vm

/- The machine on values at work: regions whose continuation is kept out of sight. -/
namespace Go.Proofs.YtkipednlefbfpaaDoor.Vm
open Go Go.Proofs
section
variable {P : Program} {T : Tab} {cx : Cx} {e : Env} {M : Mem} {D : List Nat} {Q : PQ}
theorem QV : type_of% (And.intro (@thenQ.eq_1) (And.intro (@thenQ.eq_2) (And.intro (@blockQ.eq_1) (@blockQ.eq_2)))) := And.intro (@thenQ.eq_1) (And.intro (@thenQ.eq_2) (And.intro (@blockQ.eq_1) (@blockQ.eq_2)))
theorem W_regionE (hT : TabOk P T) {id : Nat} {ops : Array Oper} (h : ∀ Kn : Env → Mem → Prop, (∀ e' M', Kn e' M' = Q .normal e' M' D) → WOps P T cx.nt ops ops.toList e M Kn) : WCode P cx (.region id ops false) e M D Q := W_region0 hT (h _ fun _ _ => rfl)
theorem W_drawE (hT : TabOk P T) {id : Nat} {ops : Array Oper} (zs : List VObj) (hz : zerosOf T ops.toList = some zs) (hp : planOk ops (mkPlan ops) = true)
  (h : ∀ Kn : Env → Mem → Prop, (∀ e' M', Kn e' M' = Q .normal e' M' D) → WDraw P T cx.nt ops ops.toList (mkPlan ops) e M.H.length { M with H := M.H ++ zs } [] [] Kn) : WCode P cx (.region id ops true) e M D Q := W_drawP hT zs hz hp (h _ fun _ _ => rfl)
end
end Go.Proofs.YtkipednlefbfpaaDoor.Vm

/- A buffer that a temporary leads to is written no more: it dies, and the temporary is read as plain data. (Vm) -/
namespace Go.Proofs.YtkipednlefbfpaaDoor.Vm
open Go Go.Proofs
section
variable {P : Program} {T : Tab} {cx : Cx} {e : Env} {M : Mem} {D : List Nat} {Q : PQ} {c : Code}
theorem W_frzT {id n k t : Nat} {xs : List (List PV)} (h1 : M.H[id]? = some (.obj (xs.flatten.map .p))) (ht : get e t = .bf id 0 n k) (hk : ∀ x ∈ xs, x.length = k) (hn : xs.length = n)
  (h : WCode P cx c ((t, .p (.sl k xs)) :: e) ⟨M.H.set id .dead, M.lg⟩ D Q) : WCode P cx c e M D Q := by
 intro G w K a hs
 have i1 := hs.inv
 have hil := (List.getElem?_eq_some_iff.1 h1).1
 obtain ⟨H2, hH2⟩ : ∃ H2, H2 = M.H.set id .dead := ⟨_, rfl⟩
 rw [← hH2] at h
 have hl2 : H2.length = M.H.length := by rw [hH2]; simp
 have hs2 : ∀ i x, H2[i]? = some x → (i = id ∧ x = .dead) ∨ (i ≠ id ∧ M.H[i]? = some x) := fun i x hx => by
  rw [hH2] at hx
  rcases set_get hx with ⟨rfl, rfl, _⟩ | ⟨b1, b2⟩
  ·exact .inl ⟨rfl, rfl⟩
  ·exact .inr ⟨b1, b2⟩
 have hE : Ext w K M.H w K H2 := by
  refine ⟨Nat.le_refl _, Szp.refl _, fun b q _ him i ob hi hb => ?_, fun _ _ _ _ => rfl, fun i x hi => ?_⟩
  ·rcases hs2 i ob hi with ⟨rfl, rfl⟩ | ⟨_, h2⟩
   ·exact .inl trivial
   ·exact him i ob h2 hb
  ·by_cases hid : i = id
   ·subst hid
    rw [h1] at hi
    cases hi
    exact ⟨.dead, by rw [hH2, List.getElem?_set_self hil], fun _ _ e => VObj.noConfusion e, rfl⟩
   ·exact ⟨x, by rw [hH2, List.getElem?_set_ne (Ne.symm hid)]; exact hi, objLe_same rfl fun b _ => rfl⟩
 have key : ∀ v, RepV w K M.H v (.bf id 0 n k) → RepV w K H2 v (.p (.sl k xs)) := by
  intro v hv
  cases hv with
  | bf _ _ _ _ b cc A hK hnc hc hm hA hz =>
   by_cases hn0 : n = 0
   ·subst hn0
    obtain rfl := List.length_eq_zero_iff.1 hn
    exact .p _ _ (.sl A cc k 0 0 [] (fun _ _ => undef) (by simp) hm (by simp) (by simp) (by simp) (by simp) (by simp))
   obtain ⟨vs, t, q1, q2, q3⟩ := i1.obj id _ h1 _ (hK hn0)
   have hfl := flat_lenV hk
   have hcell : ∀ i x l u, xs[i]? = some x → x[l]? = some u → ∃ v, vs[i * k + l]? = some v ∧ RepP w (Im K M.H) v u := by
    intro i x l u hx hu
    have hx1 := hk x (List.mem_of_getElem? hx)
    have hi' := (List.getElem?_eq_some_iff.1 hx).1
    have hl' := (List.getElem?_eq_some_iff.1 hu).1
    have hat : xs.flatten[i * k + l]? = some u := by
     have := flat_get (k := k) hk hx (show l < k by omega)
     rw [this]; exact hu
    have hc1 : (xs.flatten.map VV.p)[i * k + l]? = some (.p u) := by rw [List.getElem?_map, hat]; rfl
    have hlt : i * k + l < vs.size := by
     have := (List.getElem?_eq_some_iff.1 hc1).1
     omega
    have hv := Array.getElem?_eq_getElem hlt
    generalize vs[i * k + l] = v at hv
    refine ⟨v, hv, ?_⟩
    obtain ⟨r1, _⟩ := q3 _ _ _ hv hc1
    cases r1 with
    | p _ _ h => exact h
   have him : ∀ q, Im K H2 b q := by
    intro q i ob hob hKi
    have hi := (List.getElem?_eq_some_iff.1 hob).1
    by_cases hgo : ob = .gone
    ·subst hgo; exact .inl trivial
    have hg1 : M.H[i]? ≠ some .gone := by
     rcases hs2 i ob hob with ⟨rfl, rfl⟩ | ⟨_, h2⟩
     ·rw [h1]; simp
     ·rw [h2]; simpa using hgo
    have := i1.inj i id b (by omega) hil hg1 (by rw [h1]; simp) hKi (hK hn0)
    subst this
    rcases hs2 i ob hob with ⟨_, rfl⟩ | ⟨h5, _⟩
    ·exact .inl trivial
    ·exact absurd rfl h5
   have hkey : RepV w K H2 (.slice A xs.length cc) (.p (.sl k xs)) := by
    refine .p _ _ (.sl A cc k b 0 xs (fun i l => vs.getD (i * k + l) undef) (by omega) hm hk (fun _ => hA hn0) (fun i x l u hx hu => him _) (fun i x l u hx hu => ?_) fun i x l u hx hu => ?_)
    ·obtain ⟨v, hv, _⟩ := hcell i x l u hx hu
     simp only [World.cell?, q1, Nat.zero_add]
     simp [hv]
    ·obtain ⟨v, hv, hP⟩ := hcell i x l u hx hu
     have : vs.getD (i * k + l) undef = v := by simp [hv]
     rw [this]
     exact hP.of_ext hE
   rw [hn] at hkey
   exact hkey
 have hI2 : Inv G w K { H := H2, lg := M.lg } := by
  refine ⟨i1.os, i1.tape, i1.output, i1.size, i1.gB, i1.old, inj_set i1 hl2 (fun i hg => by
   by_cases e1 : i = id
   ·rw [e1, h1]; simp
   ·rw [hH2, List.getElem?_set_ne (fun h => e1 h.symm)] at hg
    exact hg), fun i b hi => i1.blk i b (by simpa [hl2] using hi), fun i x hi => ?_, fun i x hi cc hcc r hr => ?_, fun en hen => ?_, fun i L hi => ?_⟩
  ·rcases hs2 i x hi with ⟨rfl, rfl⟩ | ⟨_, h2⟩
   ·exact trivial
   ·exact (i1.obj i x h2).ext hE (fun _ _ => rfl) (i1.content h2)
  ·simp only [hl2]
   rcases hs2 i x hi with ⟨rfl, rfl⟩ | ⟨_, h2⟩
   ·simp [contents] at hcc
   ·exact i1.cl i x h2 cc hcc r hr
  ·simp only [hl2]
   exact i1.lg en hen
  ·rcases hs2 i _ hi with ⟨rfl, e2⟩ | ⟨_, h2⟩
   ·cases e2
   ·exact i1.lpd i L h2
 have hf0 := hs.fr.ext (M' := { H := H2, lg := M.lg }) hE
 have hf2 : FrOk w K { H := H2, lg := M.lg } cx.nt a.tmps ((t, .p (.sl k xs)) :: e) := by
  refine ⟨hf0.size, fun t' => ?_, fun t' => ?_⟩
  ·rw [get_cons]
   by_cases h1 : t' = t
   ·subst h1
    rw [if_pos rfl]
    have := hs.fr.rep t'
    rw [ht] at this
    exact key _ this
   ·rw [if_neg h1]; exact hf0.rep t'
  ·rw [get_cons]
   by_cases h1 : t' = t
   ·rw [if_pos h1]
    intro r hr
    simp [refs] at hr
   ·rw [if_neg h1]; exact hf0.cl t'
 have hs3 : StOk cx G w K { H := H2, lg := M.lg } a ((t, .p (.sl k xs)) :: e) D := ⟨hf2, df_ext (M' := { H := H2, lg := M.lg }) hE hs.df, hI2, (rd_ext (M' := { H := H2, lg := M.lg }) hE hs.rd).1⟩
 have h2 := h G w _ a hs3
 exact wpIn_mono h2 fun ex a' w' ⟨e', M', K', D', q1, q2, q3, q4⟩ => ⟨e', M', K', D', q1, q2, q3, hE.trans q4⟩
end
end Go.Proofs.YtkipednlefbfpaaDoor.Vm

/- Temporaries known in another way; nil slices read as plain data. (Vm) -/
namespace Go.Proofs.YtkipednlefbfpaaDoor.Vm
open Go Go.Proofs
section
variable {P : Program} {T : Tab} {cx : Cx} {e : Env} {M : Mem} {D : List Nat} {Q : PQ} {c : Code}
theorem W_know {t : Nat} {x y : VV} (ht : get e t = x) (hr : ∀ r ∈ refs y, r ∈ refs x) (hk : ∀ w K v, RepV w K M.H v x → RepV w K M.H v y) (h : WCode P cx c ((t, y) :: e) M D Q) : WCode P cx c e M D Q := by
 intro G w K a hs
 have hf2 : FrOk w K M cx.nt a.tmps ((t, y) :: e) := by
  refine ⟨hs.fr.size, fun t' => ?_, fun t' => ?_⟩
  ·rw [get_cons]
   by_cases h1 : t' = t
   ·subst h1
    rw [if_pos rfl]
    have := hs.fr.rep t'
    rw [ht] at this
    exact hk _ _ _ this
   ·rw [if_neg h1]; exact hs.fr.rep t'
  ·rw [get_cons]
   by_cases h1 : t' = t
   ·subst h1
    rw [if_pos rfl]
    intro r hr'
    have := hs.fr.cl t'
    rw [ht] at this
    exact this r (hr r hr')
   ·rw [if_neg h1]; exact hs.fr.cl t'
 exact h G w K a ⟨hf2, hs.df, hs.inv, hs.rd⟩
theorem sf_nil {w : World} {K : Nat → Option Nat} {H : List VObj} {v : Value} {k k0 : Nat} (h : RepV w K H v (.sf k0 [])) : RepV w K H v (.p (.sl k [])) := by
 cases h with
 | sf A _ _ h0 => exact .p _ _ (.sl A 0 k 0 0 [] (fun _ _ => undef) (Nat.le_refl _) (by simp [maxLen]) (fun x hx => by cases hx) (fun hx => absurd rfl hx) (fun i x j u hx => by simp at hx) (fun i x j u hx => by simp at hx) (fun i x j u hx => by simp at hx))
theorem W_nil {t k k0 : Nat} (ht : get e t = .sf k0 []) (h : WCode P cx c ((t, .p (.sl k [])) :: e) M D Q) : WCode P cx c e M D Q := W_know ht (fun r hr => by simp [refs] at hr) (fun _ _ _ => sf_nil) h
end
end Go.Proofs.YtkipednlefbfpaaDoor.Vm

/- Lists are compared, on values. (Vm) -/
namespace Go.Proofs.YtkipednlefbfpaaDoor.Vm
open Go Go.Proofs
def eqTo {α : Type} [DecidableEq α] (a b : List α) (i : Nat) : Bool := decide (a.length = b.length) && decide (a.take i = b.take i)
theorem eqTo_zero {α : Type} [DecidableEq α] (a b : List α) : eqTo a b 0 = decide (a.length = b.length) := by simp [eqTo]
theorem eqTo_succ {α : Type} [DecidableEq α] {a b : List α} {i : Nat} {x y : α} (hx : a[i]? = some x) (hy : b[i]? = some y) (h : eqTo a b i = true) : eqTo a b (i + 1) = decide (x = y) := by
 unfold eqTo at *
 simp only [Bool.and_eq_true, decide_eq_true_eq] at h
 rw [decide_eq_true h.1, Bool.true_and, List.take_add_one, List.take_add_one, hx, hy, h.2]
 simp
theorem eqTo_end {α : Type} [DecidableEq α] {a b : List α} : eqTo a b a.length = decide (a = b) := by
 unfold eqTo
 by_cases h : a.length = b.length
 ·rw [decide_eq_true h, Bool.true_and, List.take_length, h, List.take_length]
 ·rw [decide_eq_false h, Bool.false_and]
  symm
  rw [decide_eq_false_iff_not]
  intro e; exact h (by rw [e])
theorem eqTo_no {α : Type} [DecidableEq α] {a b : List α} {i : Nat} (h : eqTo a b i = false) : decide (a = b) = false := by
 rw [decide_eq_false_iff_not]
 intro e
 subst e
 simp [eqTo] at h
theorem sameInts_v (a b : List (Int)) (M : Mem) (ha : a.length ≤ 1000000) : VC Tryd.prog 19 [intsV a, intsV b] M (fun r M' => M' = M ∧ r = vb (decide (a = b))) := by
 refine VC_own' T_ok (f := 19) (fn := Tryd.f19) (by kernel_rfl) rfl Tryd.ntmps19 (by rfl) (by rfl) ?_
 ((repeat refine Ws ?_);refine W_regionE T_ok ?_; intro Kn hKn)
 ((simp (maxSteps := 1000000) only [VL,VM,↓VG,reduceIte,reduceCtorEq,zA,zB,zC,zD,zE,zF,zG,zH,zI,zJ]); rw [hKn];clear hKn Kn;simp only [QV,reduceIte,reduceCtorEq,Nat.reduceEqDiff])
 ((repeat refine Ws ?_);refine W_regionE T_ok ?_; intro Kn hKn)
 have h0 : decide ((a.length : Int) = (b.length : Int)) = eqTo a b 0 := by rw [eqTo_zero]; by_cases e : a.length = b.length <;> simp [e] <;> omega
 ((simp (maxSteps := 1000000) only [VL,VM,↓VG,reduceIte,reduceCtorEq,zA,zB,zC,zD,zE,zF,zG,zH,zI,zJ, h0]); rw [hKn];clear hKn Kn;simp only [QV,reduceIte,reduceCtorEq,Nat.reduceEqDiff])
 ((repeat refine Ws ?_);refine W_regionE T_ok ?_; intro Kn hKn)
 ((simp (maxSteps := 1000000) only [VL,VM,↓VG,reduceIte,reduceCtorEq,zA,zB,zC,zD,zE,zF,zG,zH,zI,zJ]); rw [hKn];clear hKn Kn;simp only [QV,reduceIte,reduceCtorEq,Nat.reduceEqDiff])
 ((repeat refine Ws ?_);refine W_block ?_; (repeat refine Ws ?_)); refine W_loopS (fun i : Nat => [(0, intsV a), (1, intsV b), (5, vb (eqTo a b i)), (6, vi i)]) (fun _ => M) (fun i => a.length - i) (fun i => i ≤ a.length) 0 (Nat.zero_le _) ⟨rfl, rfl, rfl, rfl, trivial⟩ rfl ?_
 intro i hi
 have k1 : -9223372036854775808 ≤ (i : Int) + 1 ∧ (i : Int) + 1 < 9223372036854775808 := by omega
 ((repeat refine Ws ?_);refine W_regionE T_ok ?_; intro Kn hKn)
 cases he : eqTo a b i
 ·((simp (maxSteps := 1000000) only [VL,VM,↓VG,reduceIte,reduceCtorEq,zA,zB,zC,zD,zE,zF,zG,zH,zI,zJ]); rw [hKn];clear hKn Kn;simp only [QV,reduceIte,reduceCtorEq,Nat.reduceEqDiff])
  ((repeat refine Ws ?_);refine Wf (by first|rfl|simp only [EV,zF,reduceIte]) ?_)
  (((repeat refine Ws ?_);refine W_exit ?_); simp only [QV,reduceIte,reduceCtorEq,Nat.reduceEqDiff])
  ((repeat refine Ws ?_);refine W_regionE T_ok ?_; intro Kn hKn)
  ((simp (maxSteps := 1000000) only [VL,VM,↓VG,reduceIte,reduceCtorEq,zA,zB,zC,zD,zE,zF,zG,zH,zI,zJ]); rw [hKn];clear hKn Kn;simp only [QV,reduceIte,reduceCtorEq,Nat.reduceEqDiff])
  (repeat refine Ws ?_)
  refine W_ret ?_
  try simp only [thenQ, blockQ]
  refine own_ret10 rfl ?_ (by rfl)
  simp only [get_cons, frz, vtup, Nat.reduceEqDiff, if_true, if_false, reduceIte]
  rw [eqTo_no he]
 rcases Nat.lt_or_ge i a.length with hlt | hge
 ·have k2 : ((i : Int) < (a.length : Int)) = True := eq_true (by omega)
  have hl : a.length = b.length := by
   unfold eqTo at he
   simp only [Bool.and_eq_true, decide_eq_true_eq] at he
   exact he.1
  have hx : a[i]? = some a[i] := List.getElem?_eq_getElem hlt
  have hy : b[i]? = some (b[i]'(by omega)) := List.getElem?_eq_getElem (by omega)
  have hmx := List.getElem_mem hlt
  generalize a[i] = x at hx hmx
  generalize b[i]'(by omega) = y at hy
  have hx' := map_at (f := intP) hx
  have hy' := map_at (f := intP) hy
  have hs := eqTo_succ hx hy he
  ((simp (maxSteps := 1000000) only [VL,VM,↓VG,reduceIte,reduceCtorEq,zA,zB,zC,zD,zE,zF,zG,zH,zI,zJ, k2]); rw [hKn];clear hKn Kn;simp only [QV,reduceIte,reduceCtorEq,Nat.reduceEqDiff])
  ((repeat refine Ws ?_);refine Wt (by first|rfl|simp only [EV,zF,reduceIte]) ?_)
  (((repeat refine Ws ?_);refine W_skip ?_); simp only [QV,reduceIte,reduceCtorEq,Nat.reduceEqDiff])
  ((repeat refine Ws ?_);refine W_block ?_)
  (repeat refine Ws ?_)
  refine W_drawE T_ok [] (by kernel_rfl) (by kernel_rfl) ?_
  intro Kn hKn
  generalize hi : mkPlan _ = infs
  cbv at hi
  subst hi
  ((simp (maxSteps := 1000000) only [VL,VM,↓VG,reduceIte,reduceCtorEq,zA,zB,zC,zD,zE,zF,zG,zH,zI,zJ, hx', hy']); rw [hKn];clear hKn Kn;simp only [QV,reduceIte,reduceCtorEq,Nat.reduceEqDiff])
  ((repeat refine Ws ?_);refine W_regionE T_ok ?_; intro Kn hKn)
  ((simp (maxSteps := 1000000) only [VL,VM,↓VG,reduceIte,reduceCtorEq,zA,zB,zC,zD,zE,zF,zG,zH,zI,zJ, k1]); rw [hKn];clear hKn Kn;simp only [QV,reduceIte,reduceCtorEq,Nat.reduceEqDiff])
  refine LoopK.mk (i + 1) (by omega) (by omega) ⟨rfl, rfl, ?_, rfl, trivial⟩ rfl
  rw [hs]; rfl
 have k2 : ((i : Int) < (a.length : Int)) = False := eq_false (by omega)
 ((simp (maxSteps := 1000000) only [VL,VM,↓VG,reduceIte,reduceCtorEq,zA,zB,zC,zD,zE,zF,zG,zH,zI,zJ, k2]); rw [hKn];clear hKn Kn;simp only [QV,reduceIte,reduceCtorEq,Nat.reduceEqDiff])
 ((repeat refine Ws ?_);refine Wf (by first|rfl|simp only [EV,zF,reduceIte]) ?_)
 (((repeat refine Ws ?_);refine W_exit ?_); simp only [QV,reduceIte,reduceCtorEq,Nat.reduceEqDiff])
 ((repeat refine Ws ?_);refine W_regionE T_ok ?_; intro Kn hKn)
 ((simp (maxSteps := 1000000) only [VL,VM,↓VG,reduceIte,reduceCtorEq,zA,zB,zC,zD,zE,zF,zG,zH,zI,zJ]); rw [hKn];clear hKn Kn;simp only [QV,reduceIte,reduceCtorEq,Nat.reduceEqDiff])
 (repeat refine Ws ?_)
 refine W_ret ?_
 try simp only [thenQ, blockQ]
 refine own_ret10 rfl ?_ (by rfl)
 simp only [get_cons, frz, vtup, Nat.reduceEqDiff, if_true, if_false, reduceIte]
 have hi3 : i = a.length := by omega
 subst hi3
 rw [← eqTo_end, he]
theorem sameSpans_v (a b : List (Sp)) (M : Mem) (ha : a.length ≤ 1000000) : VC Tryd.prog 16 [spsV a, spsV b] M (fun r M' => M' = M ∧ r = vb (decide (a = b))) := by
 refine VC_own' T_ok (f := 16) (fn := Tryd.f16) (by kernel_rfl) rfl Tryd.ntmps16 (by rfl) (by rfl) ?_
 ((repeat refine Ws ?_);refine W_regionE T_ok ?_; intro Kn hKn)
 ((simp (maxSteps := 1000000) only [VL,VM,↓VG,reduceIte,reduceCtorEq,zA,zB,zC,zD,zE,zF,zG,zH,zI,zJ]); rw [hKn];clear hKn Kn;simp only [QV,reduceIte,reduceCtorEq,Nat.reduceEqDiff])
 ((repeat refine Ws ?_);refine W_regionE T_ok ?_; intro Kn hKn)
 have h0 : decide ((a.length : Int) = (b.length : Int)) = eqTo a b 0 := by rw [eqTo_zero]; by_cases e : a.length = b.length <;> simp [e] <;> omega
 ((simp (maxSteps := 1000000) only [VL,VM,↓VG,reduceIte,reduceCtorEq,zA,zB,zC,zD,zE,zF,zG,zH,zI,zJ, h0]); rw [hKn];clear hKn Kn;simp only [QV,reduceIte,reduceCtorEq,Nat.reduceEqDiff])
 ((repeat refine Ws ?_);refine W_regionE T_ok ?_; intro Kn hKn)
 ((simp (maxSteps := 1000000) only [VL,VM,↓VG,reduceIte,reduceCtorEq,zA,zB,zC,zD,zE,zF,zG,zH,zI,zJ]); rw [hKn];clear hKn Kn;simp only [QV,reduceIte,reduceCtorEq,Nat.reduceEqDiff])
 ((repeat refine Ws ?_);refine W_block ?_; (repeat refine Ws ?_)); refine W_loopS (fun i : Nat => [(0, spsV a), (1, spsV b), (5, vb (eqTo a b i)), (6, vi i)]) (fun _ => M) (fun i => a.length - i) (fun i => i ≤ a.length) 0 (Nat.zero_le _) ⟨rfl, rfl, rfl, rfl, trivial⟩ rfl ?_
 intro i hi
 have k1 : -9223372036854775808 ≤ (i : Int) + 1 ∧ (i : Int) + 1 < 9223372036854775808 := by omega
 ((repeat refine Ws ?_);refine W_regionE T_ok ?_; intro Kn hKn)
 cases he : eqTo a b i
 ·((simp (maxSteps := 1000000) only [VL,VM,↓VG,reduceIte,reduceCtorEq,zA,zB,zC,zD,zE,zF,zG,zH,zI,zJ]); rw [hKn];clear hKn Kn;simp only [QV,reduceIte,reduceCtorEq,Nat.reduceEqDiff])
  ((repeat refine Ws ?_);refine Wf (by first|rfl|simp only [EV,zF,reduceIte]) ?_)
  (((repeat refine Ws ?_);refine W_exit ?_); simp only [QV,reduceIte,reduceCtorEq,Nat.reduceEqDiff])
  ((repeat refine Ws ?_);refine W_regionE T_ok ?_; intro Kn hKn)
  ((simp (maxSteps := 1000000) only [VL,VM,↓VG,reduceIte,reduceCtorEq,zA,zB,zC,zD,zE,zF,zG,zH,zI,zJ]); rw [hKn];clear hKn Kn;simp only [QV,reduceIte,reduceCtorEq,Nat.reduceEqDiff])
  (repeat refine Ws ?_)
  refine W_ret ?_
  try simp only [thenQ, blockQ]
  refine own_ret10 rfl ?_ (by rfl)
  simp only [get_cons, frz, vtup, Nat.reduceEqDiff, if_true, if_false, reduceIte]
  rw [eqTo_no he]
 rcases Nat.lt_or_ge i a.length with hlt | hge
 ·have k2 : ((i : Int) < (a.length : Int)) = True := eq_true (by omega)
  have hl : a.length = b.length := by
   unfold eqTo at he
   simp only [Bool.and_eq_true, decide_eq_true_eq] at he
   exact he.1
  have hx : a[i]? = some a[i] := List.getElem?_eq_getElem hlt
  have hy : b[i]? = some (b[i]'(by omega)) := List.getElem?_eq_getElem (by omega)
  have hmx := List.getElem_mem hlt
  generalize a[i] = x at hx hmx
  generalize b[i]'(by omega) = y at hy
  have hx' := map_at (f := spP) hx
  have hy' := map_at (f := spP) hy
  have hs := eqTo_succ hx hy he
  ((simp (maxSteps := 1000000) only [VL,VM,↓VG,reduceIte,reduceCtorEq,zA,zB,zC,zD,zE,zF,zG,zH,zI,zJ, k2]); rw [hKn];clear hKn Kn;simp only [QV,reduceIte,reduceCtorEq,Nat.reduceEqDiff])
  ((repeat refine Ws ?_);refine Wt (by first|rfl|simp only [EV,zF,reduceIte]) ?_)
  (((repeat refine Ws ?_);refine W_skip ?_); simp only [QV,reduceIte,reduceCtorEq,Nat.reduceEqDiff])
  ((repeat refine Ws ?_);refine W_block ?_)
  (repeat refine Ws ?_)
  refine W_drawE T_ok [] (by kernel_rfl) (by kernel_rfl) ?_
  intro Kn hKn
  generalize hi : mkPlan _ = infs
  cbv at hi
  subst hi
  ((simp (maxSteps := 1000000) only [VL,VM,↓VG,reduceIte,reduceCtorEq,zA,zB,zC,zD,zE,zF,zG,zH,zI,zJ, hx', hy']); rw [hKn];clear hKn Kn;simp only [QV,reduceIte,reduceCtorEq,Nat.reduceEqDiff])
  ((repeat refine Ws ?_);refine W_regionE T_ok ?_; intro Kn hKn)
  ((simp (maxSteps := 1000000) only [VL,VM,↓VG,reduceIte,reduceCtorEq,zA,zB,zC,zD,zE,zF,zG,zH,zI,zJ, k1]); rw [hKn];clear hKn Kn;simp only [QV,reduceIte,reduceCtorEq,Nat.reduceEqDiff])
  refine LoopK.mk (i + 1) (by omega) (by omega) ⟨rfl, rfl, ?_, rfl, trivial⟩ rfl
  rw [hs]; rfl
 have k2 : ((i : Int) < (a.length : Int)) = False := eq_false (by omega)
 ((simp (maxSteps := 1000000) only [VL,VM,↓VG,reduceIte,reduceCtorEq,zA,zB,zC,zD,zE,zF,zG,zH,zI,zJ, k2]); rw [hKn];clear hKn Kn;simp only [QV,reduceIte,reduceCtorEq,Nat.reduceEqDiff])
 ((repeat refine Ws ?_);refine Wf (by first|rfl|simp only [EV,zF,reduceIte]) ?_)
 (((repeat refine Ws ?_);refine W_exit ?_); simp only [QV,reduceIte,reduceCtorEq,Nat.reduceEqDiff])
 ((repeat refine Ws ?_);refine W_regionE T_ok ?_; intro Kn hKn)
 ((simp (maxSteps := 1000000) only [VL,VM,↓VG,reduceIte,reduceCtorEq,zA,zB,zC,zD,zE,zF,zG,zH,zI,zJ]); rw [hKn];clear hKn Kn;simp only [QV,reduceIte,reduceCtorEq,Nat.reduceEqDiff])
 (repeat refine Ws ?_)
 refine W_ret ?_
 try simp only [thenQ, blockQ]
 refine own_ret10 rfl ?_ (by rfl)
 simp only [get_cons, frz, vtup, Nat.reduceEqDiff, if_true, if_false, reduceIte]
 have hi3 : i = a.length := by omega
 subst hi3
 rw [← eqTo_end, he]
theorem sameSlots_v (a b : List (St)) (M : Mem) (ha : a.length ≤ 1000000) : VC Tryd.prog 18 [stsV a, stsV b] M (fun r M' => M' = M ∧ r = vb (decide (a = b))) := by
 refine VC_own' T_ok (f := 18) (fn := Tryd.f18) (by kernel_rfl) rfl Tryd.ntmps18 (by rfl) (by rfl) ?_
 ((repeat refine Ws ?_);refine W_regionE T_ok ?_; intro Kn hKn)
 ((simp (maxSteps := 1000000) only [VL,VM,↓VG,reduceIte,reduceCtorEq,zA,zB,zC,zD,zE,zF,zG,zH,zI,zJ]); rw [hKn];clear hKn Kn;simp only [QV,reduceIte,reduceCtorEq,Nat.reduceEqDiff])
 ((repeat refine Ws ?_);refine W_regionE T_ok ?_; intro Kn hKn)
 have h0 : decide ((a.length : Int) = (b.length : Int)) = eqTo a b 0 := by rw [eqTo_zero]; by_cases e : a.length = b.length <;> simp [e] <;> omega
 ((simp (maxSteps := 1000000) only [VL,VM,↓VG,reduceIte,reduceCtorEq,zA,zB,zC,zD,zE,zF,zG,zH,zI,zJ, h0]); rw [hKn];clear hKn Kn;simp only [QV,reduceIte,reduceCtorEq,Nat.reduceEqDiff])
 ((repeat refine Ws ?_);refine W_regionE T_ok ?_; intro Kn hKn)
 ((simp (maxSteps := 1000000) only [VL,VM,↓VG,reduceIte,reduceCtorEq,zA,zB,zC,zD,zE,zF,zG,zH,zI,zJ]); rw [hKn];clear hKn Kn;simp only [QV,reduceIte,reduceCtorEq,Nat.reduceEqDiff])
 ((repeat refine Ws ?_);refine W_block ?_; (repeat refine Ws ?_)); refine W_loopS (fun i : Nat => [(0, stsV a), (1, stsV b), (5, vb (eqTo a b i)), (6, vi i)]) (fun _ => M) (fun i => a.length - i) (fun i => i ≤ a.length) 0 (Nat.zero_le _) ⟨rfl, rfl, rfl, rfl, trivial⟩ rfl ?_
 intro i hi
 have k1 : -9223372036854775808 ≤ (i : Int) + 1 ∧ (i : Int) + 1 < 9223372036854775808 := by omega
 ((repeat refine Ws ?_);refine W_regionE T_ok ?_; intro Kn hKn)
 cases he : eqTo a b i
 ·((simp (maxSteps := 1000000) only [VL,VM,↓VG,reduceIte,reduceCtorEq,zA,zB,zC,zD,zE,zF,zG,zH,zI,zJ]); rw [hKn];clear hKn Kn;simp only [QV,reduceIte,reduceCtorEq,Nat.reduceEqDiff])
  ((repeat refine Ws ?_);refine Wf (by first|rfl|simp only [EV,zF,reduceIte]) ?_)
  (((repeat refine Ws ?_);refine W_exit ?_); simp only [QV,reduceIte,reduceCtorEq,Nat.reduceEqDiff])
  ((repeat refine Ws ?_);refine W_regionE T_ok ?_; intro Kn hKn)
  ((simp (maxSteps := 1000000) only [VL,VM,↓VG,reduceIte,reduceCtorEq,zA,zB,zC,zD,zE,zF,zG,zH,zI,zJ]); rw [hKn];clear hKn Kn;simp only [QV,reduceIte,reduceCtorEq,Nat.reduceEqDiff])
  (repeat refine Ws ?_)
  refine W_ret ?_
  try simp only [thenQ, blockQ]
  refine own_ret10 rfl ?_ (by rfl)
  simp only [get_cons, frz, vtup, Nat.reduceEqDiff, if_true, if_false, reduceIte]
  rw [eqTo_no he]
 rcases Nat.lt_or_ge i a.length with hlt | hge
 ·have k2 : ((i : Int) < (a.length : Int)) = True := eq_true (by omega)
  have hl : a.length = b.length := by
   unfold eqTo at he
   simp only [Bool.and_eq_true, decide_eq_true_eq] at he
   exact he.1
  have hx : a[i]? = some a[i] := List.getElem?_eq_getElem hlt
  have hy : b[i]? = some (b[i]'(by omega)) := List.getElem?_eq_getElem (by omega)
  have hmx := List.getElem_mem hlt
  generalize a[i] = x at hx hmx
  generalize b[i]'(by omega) = y at hy
  have hx' := map_at (f := stP) hx
  have hy' := map_at (f := stP) hy
  have hs := eqTo_succ hx hy he
  ((simp (maxSteps := 1000000) only [VL,VM,↓VG,reduceIte,reduceCtorEq,zA,zB,zC,zD,zE,zF,zG,zH,zI,zJ, k2]); rw [hKn];clear hKn Kn;simp only [QV,reduceIte,reduceCtorEq,Nat.reduceEqDiff])
  ((repeat refine Ws ?_);refine Wt (by first|rfl|simp only [EV,zF,reduceIte]) ?_)
  (((repeat refine Ws ?_);refine W_skip ?_); simp only [QV,reduceIte,reduceCtorEq,Nat.reduceEqDiff])
  ((repeat refine Ws ?_);refine W_block ?_)
  (repeat refine Ws ?_)
  refine W_drawE T_ok [] (by kernel_rfl) (by kernel_rfl) ?_
  intro Kn hKn
  generalize hi : mkPlan _ = infs
  cbv at hi
  subst hi
  ((simp (maxSteps := 1000000) only [VL,VM,↓VG,reduceIte,reduceCtorEq,zA,zB,zC,zD,zE,zF,zG,zH,zI,zJ, hx', hy']); rw [hKn];clear hKn Kn;simp only [QV,reduceIte,reduceCtorEq,Nat.reduceEqDiff])
  ((repeat refine Ws ?_);refine W_regionE T_ok ?_; intro Kn hKn)
  ((simp (maxSteps := 1000000) only [VL,VM,↓VG,reduceIte,reduceCtorEq,zA,zB,zC,zD,zE,zF,zG,zH,zI,zJ, k1]); rw [hKn];clear hKn Kn;simp only [QV,reduceIte,reduceCtorEq,Nat.reduceEqDiff])
  refine LoopK.mk (i + 1) (by omega) (by omega) ⟨rfl, rfl, ?_, rfl, trivial⟩ rfl
  rw [hs]; rfl
 have k2 : ((i : Int) < (a.length : Int)) = False := eq_false (by omega)
 ((simp (maxSteps := 1000000) only [VL,VM,↓VG,reduceIte,reduceCtorEq,zA,zB,zC,zD,zE,zF,zG,zH,zI,zJ, k2]); rw [hKn];clear hKn Kn;simp only [QV,reduceIte,reduceCtorEq,Nat.reduceEqDiff])
 ((repeat refine Ws ?_);refine Wf (by first|rfl|simp only [EV,zF,reduceIte]) ?_)
 (((repeat refine Ws ?_);refine W_exit ?_); simp only [QV,reduceIte,reduceCtorEq,Nat.reduceEqDiff])
 ((repeat refine Ws ?_);refine W_regionE T_ok ?_; intro Kn hKn)
 ((simp (maxSteps := 1000000) only [VL,VM,↓VG,reduceIte,reduceCtorEq,zA,zB,zC,zD,zE,zF,zG,zH,zI,zJ]); rw [hKn];clear hKn Kn;simp only [QV,reduceIte,reduceCtorEq,Nat.reduceEqDiff])
 (repeat refine Ws ?_)
 refine W_ret ?_
 try simp only [thenQ, blockQ]
 refine own_ret10 rfl ?_ (by rfl)
 simp only [get_cons, frz, vtup, Nat.reduceEqDiff, if_true, if_false, reduceIte]
 have hi3 : i = a.length := by omega
 subst hi3
 rw [← eqTo_end, he]
end Go.Proofs.YtkipednlefbfpaaDoor.Vm

/- A second table, in which copies of lists are buffers of their own. (Vm) -/
namespace Go.Proofs.YtkipednlefbfpaaDoor.Vm
open Go Go.Proofs
def ownT2 (T : Tab) (o k : Nat → Bool) : Tab := { T with own := o, keeps := k }
section
variable {P : Program} {T : Tab} {o k : Nat → Bool}
theorem ownT2_ok (h : TabOk P T) : TabOk P (ownT2 T o k) := ⟨h.ty, h.fn, h.mixed⟩
theorem ownT2_ty : (ownT2 T o k).ty = T.ty := rfl
theorem ownT2_fn : (ownT2 T o k).fn = T.fn := rfl
theorem ownT2_bin : vbin (ownT2 T o k) = vbin T := rfl
theorem ownT2_own : (ownT2 T o k).own = o := rfl
theorem ownT2_keeps : (ownT2 T o k).keeps = k := rfl
end
def ownO (t : Nat) : Bool := Nat.beq t 27 || Nat.beq t 36
noncomputable def TO : Tab := ownT2 T ownO keepsB
theorem TO_ok : TabOk Tryd.prog TO := ownT2_ok T_ok
theorem xO_ty : TO.ty = T.ty := ownT2_ty
theorem xO_fn : TO.fn = T.fn := ownT2_fn
theorem xO_bin : vbin TO = vbin T ∧ TO.ownS = T.ownS := ⟨ownT2_bin, rfl⟩
theorem xO_oi : TO.own 27 = true := by rw [TO, ownT2_own]; rfl
theorem xO_oc : TO.own 36 = true := by rw [TO, ownT2_own]; rfl
theorem xO_ok : TO.own 23 = false ∧ TO.own 22 = false := by rw [TO, ownT2_own]; exact ⟨rfl, rfl⟩
theorem flat_ints : ∀ xs : List Int, List.map VV.p (List.map intP xs).flatten = xs.map vi
 | [] => rfl
 | x :: xs => by simp [flat_ints xs]
theorem ints_set (l : List Int) (i : Nat) (x : Int) (h : i < l.length) : splice (l.map vi) i [vi x] = (l.set i x).map vi := by
 simp only [splice, List.length_cons, List.length_nil]
 rw [List.map_set, List.set_eq_take_append_cons_drop, if_pos (by simpa using h)]
 simp
end Go.Proofs.YtkipednlefbfpaaDoor.Vm

/- Sets of carts as numbers, plain. -/
namespace Go.Proofs.YtkipednlefbfpaaDoor
def sdiff (a b : Nat) : Nat := a ^^^ (a &&& b)
def bitsL (s : Nat) : List Nat := (List.range 7).filter fun i => s.testBit i
theorem sdiff_bit (a b i : Nat) : (sdiff a b).testBit i = (a.testBit i && !b.testBit i) := by
 simp only [sdiff, Nat.testBit_xor, Nat.testBit_and]
 cases a.testBit i <;> cases b.testBit i <;> rfl
theorem sdiff_lt {a b n : Nat} (h : a < 2 ^ n) : sdiff a b < 2 ^ n :=
 Nat.xor_lt_two_pow h (Nat.lt_of_le_of_lt Nat.and_le_left h)
theorem sdiff_le (a b : Nat) : sdiff a b ≤ a := by
 have h : sdiff a b = sdiff a b &&& a := by
  apply Nat.eq_of_testBit_eq
  intro i
  rw [Nat.testBit_and, sdiff_bit]
  cases a.testBit i <;> simp
 rw [h]
 exact Nat.and_le_right
theorem mem_bitsL {s i : Nat} (h : s < 128) : i ∈ bitsL s ↔ s.testBit i = true := by
 unfold bitsL
 rw [List.mem_filter, List.mem_range]
 constructor
 ·exact fun h => h.2
 ·intro h2
  refine ⟨?_, h2⟩
  rcases Nat.lt_or_ge i 7 with h3 | h3
  ·exact h3
  ·have : s.testBit i = false := Nat.testBit_lt_two_pow (Nat.lt_of_lt_of_le h (by
    have := Nat.pow_le_pow_right (n := 2) (by decide) h3
    omega))
   rw [this] at h2; cases h2
theorem bitsL_len {s : Nat} : (bitsL s).length ≤ 7 := Nat.le_trans (List.length_filter_le _ _) (by simp)
def subsTo (s p : Nat) : List Nat := (List.range (p + 1)).reverse.filter fun q => q &&& s == q
def subB (s p : Nat) : Bool := !(p &&& s == p) || (p == 0) || (List.range p).all fun q => !(q &&& s == q) || Nat.ble q ((p - 1) &&& s)
set_option maxRecDepth 100000 in
theorem sub_all : (List.range 128).all (fun s => (List.range 128).all fun p => subB s p) = true := by decide +kernel
theorem sub_next {s p q : Nat} (hs : s < 128) (hp : p < 128) (h : p &&& s = p) (h0 : 0 < p) (hq : q < p) (hqs : q &&& s = q) : q ≤ (p - 1) &&& s := by
 have h1 := List.all_eq_true.1 (List.all_eq_true.1 sub_all s (List.mem_range.2 hs)) p (List.mem_range.2 hp)
 unfold subB at h1
 have e1 : (p &&& s == p) = true := by simp [h]
 have e2 : (p == 0) = false := by simp; omega
 rw [e1, e2] at h1
 simp only [Bool.not_true, Bool.false_or] at h1
 have h2 := List.all_eq_true.1 h1 q (List.mem_range.2 hq)
 have e3 : (q &&& s == q) = true := by simp [hqs]
 rw [e3] at h2
 simpa [Nat.ble_eq] using h2
theorem subsTo_zero (s : Nat) : subsTo s 0 = [0] := by simp [subsTo]
theorem subsTo_next {s p : Nat} (hs : s < 128) (hp : p < 128) (h : p &&& s = p) (h0 : 0 < p) : subsTo s p = p :: subsTo s ((p - 1) &&& s) := by
 have hle : (p - 1) &&& s ≤ p - 1 := Nat.and_le_left
 unfold subsTo
 rw [List.range_succ, List.reverse_append, List.reverse_cons, List.reverse_nil, List.nil_append, List.singleton_append, List.filter_cons_of_pos (by simp [h])]
 congr 1
 have hsp : List.range p = List.range (((p - 1) &&& s) + 1) ++ List.range' (((p - 1) &&& s) + 1) (p - 1 - ((p - 1) &&& s)) := by
  rw [List.range_eq_range', List.range_eq_range']
  have := List.range'_append_1 (s := 0) (m := ((p - 1) &&& s) + 1) (n := p - 1 - ((p - 1) &&& s))
  rw [Nat.zero_add] at this
  rw [this]
  congr 1
  omega
 rw [hsp, List.reverse_append, List.filter_append, List.filter_eq_nil_iff.2, List.nil_append]
 intro q hq
 rw [List.mem_reverse, List.mem_range'_1] at hq
 intro hqs
 have := sub_next hs hp h h0 (q := q) (by omega) (by simpa using hqs)
 omega
theorem mem_subsTo {s q : Nat} : q ∈ subsTo s s ↔ q &&& s = q := by
 unfold subsTo
 rw [List.mem_filter, List.mem_reverse, List.mem_range]
 constructor
 ·intro ⟨_, h⟩; simpa using h
 ·intro h
  refine ⟨?_, by simpa using h⟩
  have : q &&& s ≤ s := Nat.and_le_right
  omega
end Go.Proofs.YtkipednlefbfpaaDoor
