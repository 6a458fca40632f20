/- A part of the proofs about the chapter of the vaults; it states no condition of its own. -/
import Derived.Test.YtnjgdlmddlinaaaDoorB15
import Derived.Lib.LaidTab
import Derived.Deep.DeepLaidRun
import Derived.Shelf.Vars
import Derived.HandedShaped
import Derived.LaidHandle
import Derived.Stop.Joined
set_option linter.unusedVariables false
set_option linter.unusedSimpArgs false
open Int renaming reduceLE → zA, reduceLT → zB, reduceToNat → zC, reduceNeg → zD
open Nat renaming reduceLT → zE, reduceEqDiff → zF, reduceAdd → zG, reduceSub → zH, reduceMul → zI, reduceLeDiff → zJ
/- Laws of numbers. (Vm) -/
namespace Go.Proofs.YtnjgdlmddlinaaaDoor.Vm
open Go Go.Proofs Go.ChangeShapes Go.WideShapes Go.ChangeAt Go.RowKit
end Go.Proofs.YtnjgdlmddlinaaaDoor.Vm

/- Laws of houses and numbers: what comes in, as values. (Vm) -/
namespace Go.Proofs.YtnjgdlmddlinaaaDoor.Vm
open Go Go.Proofs Go.ChangeShapes Go.WideShapes Go.ChangeAt Go.RowKit
def Rd (t : TypeId) (p : VV → Prop) : Prop := (Tryd.prog.readableRec t = true ∧ t < Tryd.prog.types.size) ∧ ∀ (H : Type) (enc : TypeId × Value → H) (W : World) (b0 : Nat) (v : Value) (d : DataW H) (ps : List MemPlace), Value.okWide Tryd.prog W .any b0 t v → DataW.Trod enc Tryd.prog W 0 (fun _ => true) true t v d ps → ∃ u, p u ∧ RepV W (fun _ => none) [] v u ∧ refs u = []
inductive Rds : List TypeId → List (VV → Prop) → Prop
 | nil : Rds [] []
 | cons {t : TypeId} {p : VV → Prop} {ts : List TypeId} {ps : List (VV → Prop)} (h : Rd t p) (r : Rds ts ps) : Rds (t :: ts) (p :: ps)
inductive Sat : List (VV → Prop) → List VV → Prop
 | nil : Sat [] []
 | cons {p : VV → Prop} {ps : List (VV → Prop)} {u : VV} {us : List VV} (h : p u) (r : Sat ps us) : Sat (p :: ps) (u :: us)
theorem Sat.inv {p : VV → Prop} {ps : List (VV → Prop)} {us : List VV} (h : Sat (p :: ps) us) : ∃ u vs, us = u :: vs ∧ p u ∧ Sat ps vs := by
 cases h with
 | cons h r => exact ⟨_, _, rfl, h, r⟩
theorem Sat.inv0 {us : List VV} (h : Sat [] us) : us = [] := by cases h; rfl
theorem pw_cons {α β : Type} {R : α → β → Prop} {a : α} {b : β} {xs : List α} {ys : List β} (h : R a b) (r : PW R xs ys) : PW R (a :: xs) (b :: ys) := ⟨by simp [r.1], fun i x y h1 h2 => by
 match i, h1, h2 with
 | 0, h1, h2 => cases h1; cases h2; exact h
 | i + 1, h1, h2 => exact r.2 i x y h1 h2⟩
set_option maxRecDepth 100000 in
theorem Rds.read {H : Type} {enc : TypeId × Value → H} {W : World} {b0 : Nat} : ∀ {ts : List TypeId} {pr : List (VV → Prop)}, Rds ts pr → ∀ {args : List Value} {ds : List (DataW H)} {ps : List MemPlace}, DataW.TrodAll enc Tryd.prog W 0 (fun _ => true) true ts args ds ps → (∀ (j : Nat) t v, ts[j]? = some t → args[j]? = some v → Value.okWide Tryd.prog W .any b0 t v) → ∃ us, Sat pr us ∧ PW (RepV W (fun _ => none) []) args us ∧ (∀ a ∈ us, refs a = []) ∧ ds.length = ts.length := by
 intro ts pr R
 induction R with
 | nil =>
  intro args ds ps h _
  obtain ⟨rfl, rfl, rfl⟩ := trodAll_nil h
  exact ⟨[], .nil, ⟨rfl, fun i a b h => by simp at h⟩, by simp, rfl⟩
 | cons h r ih =>
  intro args ds ps hA hv
  obtain ⟨v0, vs0, d0, ds0, p0, q0, rfl, rfl, rfl, h0, r0⟩ := trodAll_cons hA
  obtain ⟨us, s1, s2, s3, s4⟩ := ih r0 fun j t v h1 h2 => hv (j + 1) t v (by simpa using h1) (by simpa using h2)
  obtain ⟨u, t1, t2, t3⟩ := h.2 H enc W b0 v0 d0 p0 (hv 0 _ _ rfl rfl) h0
  refine ⟨u :: us, .cons t1 s1, pw_cons t2 s2, fun a ha => ?_, by simp [s4]⟩
  rcases List.mem_cons.1 ha with rfl | ha
  ·exact t3
  ·exact s3 a ha
theorem Rds.types {ts : List TypeId} {pr : List (VV → Prop)} (R : Rds ts pr) : ∀ t ∈ ts, Tryd.prog.readableRec t = true ∧ t < Tryd.prog.types.size := by
 induction R with
 | nil => simp
 | cons h r ih =>
  intro t ht
  rcases List.mem_cons.1 ht with rfl | ht
  ·exact h.1
  ·exact ih t ht
set_option maxRecDepth 100000 in
theorem law_contract {f : Nat} {fn : Func} {s : ChangeSpec} {H : Type} {enc : TypeId × Value → H} {W : World} {args : Array Value} {ds gs : List (DataW H)} {before : List MemPlace} {b0 : Nat} {pr : List (VV → Prop)} (R : Rds fn.params.toList pr) (hvs : s.vars = [])
  (hs : ∀ ds : List (DataW H), ds.length = fn.params.toList.length → (s.fn H ds).results = [.lit (.bool true)] ∧ (s.fn H ds).args = ds ∧ (s.fn H ds).vars = []) (hres : fn.resultTypes = #[4])
  (hv : ∀ us, Sat pr us → VC Tryd.prog f us ⟨[], []⟩ (fun r M' => M' = ⟨[], []⟩ ∧ r = vb true))
  (hlz : Lz W.heap.size W (fun _ => False))
  (hval : ∀ (j : Nat) t v, fn.params[j]? = some t → args[j]? = some v → Value.okWide Tryd.prog W .any b0 t v)
  (hW : DataW.Whole enc Tryd.prog fn.params.toList s.vars false W args.toList ds gs before) :
  Calls Tryd.prog f args W fun e W' => ∃ v, e = .returned v ∧ s.post enc Tryd.prog fn false true false false W args v W' := by
 have hW' := hW
 obtain ⟨p, q, hA0, hV, rfl, hfz, hnd⟩ := hW
 have hA : DataW.TrodAll enc Tryd.prog W 0 (fun _ => true) true fn.params.toList args.toList ds p := hA0
 obtain ⟨us, s1, s2, s3, s4⟩ := R.read hA fun j t v h1 h2 => hval j t v (by simpa using h1) (by simpa using h2)
 exact law_post hvs (hs ds s4) hres R.types hW' (law_run hlz s2 s3 (hv us s1))
end Go.Proofs.YtnjgdlmddlinaaaDoor.Vm

/- A law whose row lists package variables: what is known of them where it begins. (Vm) -/
namespace Go.Proofs.YtnjgdlmddlinaaaDoor.Vm
open Go Go.Proofs Go.ChangeShapes Go.WideShapes Go.ChangeAt Go.RowKit
theorem laid_mem {P : Program} {w : World} {n : String} {d : DataW Unit} : ∀ {l : List (String × DataW Unit)} {ps : List MemPlace}, DataW.LaidVars P w l ps → (n, d) ∈ l → ∃ g t cs fuel p, P.globalNamed n = some g ∧ (P.globals[g]?).map (·.type) = some t ∧ w.var? P n = some cs ∧ DataW.trod (fun _ => ()) P w 0 (fun _ => true) false fuel t cs.toList = some (d, p)
 | [], _, _, h => by cases h
 | (n', d') :: r, ps, hl, h => by
  obtain ⟨g, t, cs, fuel, p, q, h1, h2, h3, h4, h5, _⟩ := hl
  rcases List.mem_cons.1 h with e | e
  ·cases e
   exact ⟨g, t, cs, fuel, p, h1, h2, h3, h4⟩
  ·exact laid_mem h5 e
theorem var_heap {P : Program} {w : World} {n : String} {g : Nat} {cs : Array Value} (hg : P.globalNamed n = some g) (h : w.var? P n = some cs) : ∃ t z, w.heap[g]? = some (.cells cs t z) := by
 unfold World.var? at h
 rw [hg] at h
 simp only [Option.bind_some] at h
 split at h
 ·rename_i c t z hh
  cases h
  exact ⟨t, z, hh⟩
 ·cases h
theorem LzF_in {w : World} {g : Nat} {o : Obj} (hg : g ∈ LzG) (h : w.heap[g]? = some o) : LzF w g = some o := by
 unfold LzF
 rw [if_pos hg, h]
theorem heap_lt {w : World} {g : Nat} {o : Obj} (h : w.heap[g]? = some o) : g < w.heap.size := (Array.getElem?_eq_some_iff.1 h).1
theorem lz_of {W : World} {l : List (String × DataW Unit)} (hl : laidMet Tryd.prog l W)
  (h1 : ("internal/strconv.uint64pow10", Lib.tabData .u64 Lib.pow10Tab) ∈ l) : Lz W.heap.size W (fun _ => False) := by
 obtain ⟨ps, hl, _⟩ := hl
 have a1 : ∃ t z, W.heap[0]? = some (.cells (Lib.pow10Tab.map fun n => Value.int .u64 n).toArray t z) := by
  obtain ⟨g, t, cs, fuel, p, e1, e2, e3, e4⟩ := laid_mem hl h1
  obtain rfl : g = 0 := (Option.some.inj ((show Tryd.prog.globalNamed "internal/strconv.uint64pow10" = some 0 by kernel_rfl).symm.trans e1)).symm
  obtain ⟨t', z, hh⟩ := var_heap e1 e3
  obtain rfl : t = 121 := (Option.some.inj ((show (Tryd.prog.globals[0]?).map (·.type) = some 121 by kernel_rfl).symm.trans e2)).symm
  have := Lib.cells_of_tab Tryd.underlying121 Tryd.underlying114 (by kernel_rfl) (by kernel_rfl) e4
  refine ⟨t', z, ?_⟩
  rw [hh, ← this, Array.toArray_toList]
 obtain ⟨t1, z1, b1⟩ := a1
 refine ⟨fun g hg => ⟨?_, fun e => e⟩, ⟨t1, z1, LzF_in (by decide) b1⟩, trivial, trivial⟩
 simp only [LzG, List.mem_cons, List.not_mem_nil, or_false] at hg
 subst hg
 exact heap_lt b1
theorem handed_laid {H : Type} {enc : TypeId × Value → H} {a : Assume} {C : Checked} {os : Os} {f : FuncId} {fn : Func} {s : ChangeSpec} {conds : List PathCond} {apart fresh handsOn again : Bool} {l : List (String × DataW Unit)}
  (own : ownKnob C.prog.godebug = none) (started : os.Started) (noInit : C.prog.inits.idxOf? f = none) (hfn : C.prog.funcs[f]? = some fn)
  (witness : ∃ (w : World) (tape : Tape) (i : Input), w.os = os ∧ (w.forCall tape i).Shaped C.prog ∧ i.vars = [] ∧ Input.okWide C.prog (w.forCall tape i) .any w.heap.size f i ∧
    ((s.pre enc C.prog fn conds apart (w.forCall tape i).memory i.args ∧ laidMetH C.prog l (w.forCall tape i).memory) ∧ sizedMet enc C.prog fn (OpenSpec.ofChange s) apart (w.forCall tape i).memory i.args) ∧ a.holds C.prog (lone (Frame.enter C.prog f i.args .normal) [] (w.forCall tape i)))
  (contract : ∀ (W : World) (base : Nat) (args : Array Value) (ds gs : List (DataW H)) (before : List MemPlace),
    (∀ (j : Nat) t v, fn.params[j]? = some t → args[j]? = some v → Value.okWide C.prog W .any base t v) →
    DataW.Whole enc C.prog fn.params.toList s.vars apart W args.toList ds gs before →
    laidMetH C.prog l W → W.ShapedOpen C.prog →
    Calls C.prog f args W fun e W' => ∃ v, e = .returned v ∧ s.post enc C.prog fn apart fresh handsOn again W args v W') :
  ReturnsInHanded a C os f .any (fun w args => (s.pre enc C.prog fn conds apart w args ∧ laidMetH C.prog l w) ∧ sizedMet enc C.prog fn (OpenSpec.ofChange s) apart w args) (s.post enc C.prog fn apart fresh handsOn again) := by
 refine returnsInHanded_of_calls own started noInit witness ?_
 intro w tape i _ hsh _ hok hpre hholds
 obtain ⟨_, _, _, fn', hfn', _, _, _, _, hval⟩ := hok
 have e : fn' = fn := Option.some.inj (hfn'.symm.trans hfn)
 subst e
 obtain ⟨⟨⟨ds, gs, before, hw, hc⟩, hx⟩, hz⟩ := hpre
 have hw' := DataW.Whole.of_heap (w' := w.forCall tape i) (by rfl) hw
 refine (contract (w.forCall tape i) w.heap.size i.args ds gs before hval hw' (laidMetH.of_heap (w := (w.forCall tape i).memory) (by rfl) hx) hsh).mono fun e W' ⟨v, he, hp⟩ => ?_
 subst he
 exact ChangeSpec.post_blind hp
def numsC : List (DataW Unit) → List Value
 | [] => []
 | .lit (.int k n) :: r => .int k n :: numsC r
 | .agg l :: r => numsC2 l ++ numsC r
 | _ :: r => numsC r
where numsC2 : List (DataW Unit) → List Value
 | [] => []
 | .lit (.int k n) :: r => .int k n :: numsC2 r
 | _ :: r => numsC2 r
def cellsC : DataW Unit → Array Value
 | .agg l => (numsC l).toArray
 | _ => #[]
end Go.Proofs.YtnjgdlmddlinaaaDoor.Vm

/- A world in which the listed variables hold what the row says. (Vm) -/
namespace Go.Proofs.YtnjgdlmddlinaaaDoor.Vm
open Go Go.Proofs Go.ChangeShapes Go.WideShapes Go.ChangeAt Go.RowKit
noncomputable def laidWorld (os : Os) : World :=
 let w0 := World.settled Tryd.prog os
 let put (h : Array Obj) (g : Nat) (cs : Array Value) : Array Obj := h.modify g fun
  | .cells _ t frozen => .cells cs t frozen
  | o => o
 { w0 with heap := put (put (put w0.heap 0 (cellsC Rows.laid_internal_strconv_uint64pow10))
   1 (cellsC Rows.laid_math_bits_deBruijn32tab)) 2 (cellsC Rows.laid_math_bits_deBruijn64tab) }
set_option maxRecDepth 100000 in
theorem laid_met (os : Os) (args : Array Value) : laidMet Tryd.prog Rows.vaultKnownRow.laid ((laidWorld os).forCall (fun _ _ => 0) ⟨#[], args, []⟩).memory :=
 laidMet_of_run3 10 (by kernel_rfl) (by kernel_rfl) (by kernel_rfl)
set_option maxRecDepth 100000 in
theorem laid_shaped (os : Os) (args : Array Value) : ((laidWorld os).forCall (fun _ _ => 0) ⟨#[], args, []⟩).Shaped Tryd.prog :=
 World.shaped_of_RefB (by kernel_rfl) (by kernel_rfl)
theorem laid_pow : Rows.laid_internal_strconv_uint64pow10 = Lib.tabData (H := Unit) .u64 Lib.pow10Tab := by kernel_rfl
theorem lz_law {W : World} (h : laidMetH Tryd.prog Rows.vaultKnownRow.laid W) : Lz W.heap.size W (fun _ => False) := by
 have h' : laidMet Tryd.prog Rows.vaultKnownRow.laid W := h
 refine lz_of h' ?_
 rw [← laid_pow]
 exact List.Mem.tail _ (List.Mem.tail _ (List.Mem.head _))
end Go.Proofs.YtnjgdlmddlinaaaDoor.Vm

/- The program's small functions, on values. -/
namespace Go.Proofs.YtnjgdlmddlinaaaDoor.Vm
open Go Go.Proofs
theorem in_vm (n lo hi : Int) (M : Mem) : VC Tryd.prog 20 [vi n, vi lo, vi hi] M (fun r M' => M' = M ∧ r = vb (inR n lo hi)) := by
 refine VC_plain T_ok (f := 20) (fn := Tryd.f20) (by kernel_rfl) rfl (by simp [Tryd.f20]) (by rfl) ?_
 ((repeat refine Ws ?_);refine Wr ?_)
 simp only [Tryd.f20, S_assign, S_nil, ev, ofValue, Nat.reduceLT, true_and, thenQ]
 ((repeat refine Ws ?_);refine Wr ?_)
 by_cases h1 : lo ≤ n <;> by_cases h2 : n ≤ hi
 all_goals
  simp only [VL,VM,↓VG,reduceIte,reduceCtorEq,zA,zB,zC,zD,zE,zF,zG,zH,zI,zJ, h1, h2]
  refine W_ret ?_
  simp [vresL, get_cons, vtup, frz, refs, inR, h1, h2]
theorem place_vm (h : Ha) (c : Pl) (M : Mem) (h1 : 1 ≤ h.wide) (h2 : h.wide ≤ 1000) (h3 : 1 ≤ h.deep) (h4 : h.deep ≤ 1000) : VC Tryd.prog 38 [hallV h, plV c] M (fun r M' => M' = M ∧ r = vb (isPl h c)) := by
 have k1 : -9223372036854775808 ≤ h.wide - 1 ∧ h.wide - 1 < 9223372036854775808 := by omega
 have k2 : -9223372036854775808 ≤ h.deep - 1 ∧ h.deep - 1 < 9223372036854775808 := by omega
 refine VC_own' T_ok (f := 38) (fn := Tryd.f38) (by kernel_rfl) rfl Tryd.ntmps38 (by rfl) (by rfl) ?_
 ((repeat refine Ws ?_);refine Wr ?_)
 simp (maxSteps := 1000000) only [VL,VM,↓VG,reduceIte,reduceCtorEq,zA,zB,zC,zD,zE,zF,zG,zH,zI,zJ, k1, k2]
 ((repeat refine Ws ?_);refine Wr ?_)
 simp (maxSteps := 1000000) only [VL,VM,↓VG,reduceIte,reduceCtorEq,zA,zB,zC,zD,zE,zF,zG,zH,zI,zJ, k1, k2]
 apply call_eq (f := 20) (fn := Tryd.f20) (by kernel_rfl) (by rfl)
 ·exact in_vm _ _ _ _
 cases hb : inR c.x 0 (h.wide - 1)
 ·simp (maxSteps := 1000000) only [VL,VM,↓VG,reduceIte,reduceCtorEq,zA,zB,zC,zD,zE,zF,zG,zH,zI,zJ, k1, k2]
  (repeat refine Ws ?_)
  refine W_ret ?_
  try simp only [thenQ, blockQ]
  refine own_ret1 rfl ?_ (by rfl)
  simp only [get_cons, frz, vtup, Nat.reduceEqDiff, if_true, if_false, reduceIte]
  simp [isPl, hb]
 ·simp (maxSteps := 1000000) only [VL,VM,↓VG,reduceIte,reduceCtorEq,zA,zB,zC,zD,zE,zF,zG,zH,zI,zJ, k1, k2]
  apply call_eq (f := 20) (fn := Tryd.f20) (by kernel_rfl) (by rfl)
  ·exact in_vm _ _ _ _
  simp (maxSteps := 1000000) only [VL,VM,↓VG,reduceIte,reduceCtorEq,zA,zB,zC,zD,zE,zF,zG,zH,zI,zJ, k1, k2]
  (repeat refine Ws ?_)
  refine W_ret ?_
  try simp only [thenQ, blockQ]
  refine own_ret1 rfl ?_ (by rfl)
  simp only [get_cons, frz, vtup, Nat.reduceEqDiff, if_true, if_false, reduceIte]
  simp [isPl, hb]
theorem columns_vm (h : Ha) (M : Mem) (S : Small h) : VC Tryd.prog 39 [hallV h] M (fun r M' => M' = M ∧ r = vi (colsOf h)) := by
 obtain ⟨w1, w2, d1, d2, x1, x2, y1, y2⟩ := S
 have k1 : -9223372036854775808 ≤ h.wide + h.bay.x ∧ h.wide + h.bay.x < 9223372036854775808 := by omega
 have k2 : -9223372036854775808 ≤ h.wide + h.bay.x - 1 ∧ h.wide + h.bay.x - 1 < 9223372036854775808 := by omega
 have k3 : 0 ≤ h.wide + h.bay.x - 1 ∧ h.wide + h.bay.x - 1 < 9223372036854775808 := by omega
 refine VC_own' T_ok (f := 39) (fn := Tryd.f39) (by kernel_rfl) rfl Tryd.ntmps39 (by rfl) (by rfl) ?_
 ((repeat refine Ws ?_);refine Wr ?_)
 simp (maxSteps := 1000000) only [VL,VM,↓VG,reduceIte,reduceCtorEq,zA,zB,zC,zD,zE,zF,zG,zH,zI,zJ, k1, k2, k3, x1]
 ((repeat refine Ws ?_);refine Wr ?_)
 simp (maxSteps := 1000000) only [VL,VM,↓VG,reduceIte,reduceCtorEq,zA,zB,zC,zD,zE,zF,zG,zH,zI,zJ, k1, k2, k3, x1]
 (repeat refine Ws ?_)
 refine W_ret ?_
 try simp only [thenQ, blockQ]
 refine own_ret1 rfl ?_ (by rfl)
 simp only [get_cons, frz, vtup, Nat.reduceEqDiff, if_true, if_false, reduceIte]
 rfl
theorem bays_vm (h : Ha) (M : Mem) (S : Small h) : VC Tryd.prog 22 [hallV h] M (fun r M' => M' = M ∧ r = vi (baysOf h)) := by
 have hc := cols_le S
 have hS := S
 obtain ⟨w1, w2, d1, d2, x1, x2, y1, y2⟩ := S
 have hd := div_le (n := h.deep + h.bay.y - 1) (b := h.bay.y) (by omega) y1
 have hm := mul_le hc.1 hd.1 hc.2 (show (h.deep + h.bay.y - 1) / h.bay.y ≤ 2000 by omega)
 have k1 : -9223372036854775808 ≤ h.deep + h.bay.y ∧ h.deep + h.bay.y < 9223372036854775808 := by omega
 have k2 : -9223372036854775808 ≤ h.deep + h.bay.y - 1 ∧ h.deep + h.bay.y - 1 < 9223372036854775808 := by omega
 have k3 : 0 ≤ h.deep + h.bay.y - 1 ∧ h.deep + h.bay.y - 1 < 9223372036854775808 := by omega
 have k4 : -9223372036854775808 ≤ colsOf h * ((h.deep + h.bay.y - 1) / h.bay.y) ∧ colsOf h * ((h.deep + h.bay.y - 1) / h.bay.y) < 9223372036854775808 := by unfold colsOf; omega
 refine VC_own' T_ok (f := 22) (fn := Tryd.f22) (by kernel_rfl) rfl Tryd.ntmps22 (by rfl) (by rfl) ?_
 ((repeat refine Ws ?_);refine Wr ?_)
 simp (maxSteps := 1000000) only [VL,VM,↓VG,reduceIte,reduceCtorEq,zA,zB,zC,zD,zE,zF,zG,zH,zI,zJ, k1, k2, k3, k4, y1]
 (repeat refine Ws ?_)
 refine W_drawP T_ok [] (by kernel_rfl) (by kernel_rfl) ?_
 generalize hi : mkPlan _ = infs
 cbv at hi
 subst hi
 simp (maxSteps := 1000000) only [VL,VM,↓VG,reduceIte,reduceCtorEq,zA,zB,zC,zD,zE,zF,zG,zH,zI,zJ, k1, k2, k3, k4, y1]
 apply call_d (f := 39) (fn := Tryd.f39) (by kernel_rfl) (by rfl)
 ·exact columns_vm h _ hS
 simp (maxSteps := 1000000) only [VL,VM,↓VG,reduceIte,reduceCtorEq,zA,zB,zC,zD,zE,zF,zG,zH,zI,zJ, k1, k2, k3, k4, y1]
 (repeat refine Ws ?_)
 refine W_ret ?_
 try simp only [thenQ, blockQ]
 refine own_ret1 rfl ?_ (by rfl)
 simp only [get_cons, frz, vtup, Nat.reduceEqDiff, if_true, if_false, reduceIte]
 rfl
end Go.Proofs.YtnjgdlmddlinaaaDoor.Vm

/- The library's searches, on values. -/
namespace Go.Proofs.YtnjgdlmddlinaaaDoor.Vm
open Go Go.Proofs
theorem any_take {α : Type} (p : α → Bool) (l : List α) (i : Nat) (x : α) (h : l[i]? = some x) : (l.take (i + 1)).any p = ((l.take i).any p || p x) := by
 rw [List.take_add_one, h]
 simp
theorem any_hit {α : Type} (p : α → Bool) (l : List α) (i : Nat) (x : α) (h : l[i]? = some x) (hp : p x = true) : l.any p = true := List.any_eq_true.2 ⟨x, List.mem_of_getElem? h, hp⟩
theorem indexints_vm (fv : VV) (xs : List Int) (p : Int → Bool) (M : Mem) (hl : xs.length ≤ 1000000) (hf : ∀ x ∈ xs, VCall Tryd.prog fv [vi x] M (fun r M' => M' = M ∧ r = vb (p x))) :
  VC Tryd.prog 40 [intsV xs, fv] M (fun r M' => M' = M ∧ ∃ k : Int, r = vi k ∧ decide (0 ≤ k) = xs.any p) := by
 refine VC_own' T_ok (f := 40) (fn := Tryd.f40) (by kernel_rfl) rfl Tryd.ntmps40 (by rfl) (by rfl) ?_
 ((repeat refine Ws ?_);refine Wr ?_)
 simp (maxSteps := 1000000) only [VL,VM,↓VG,reduceIte,reduceCtorEq,zA,zB,zC,zD,zE,zF,zG,zH,zI,zJ]
 ((repeat refine Ws ?_);refine Wr ?_)
 simp (maxSteps := 1000000) only [VL,VM,↓VG,reduceIte,reduceCtorEq,zA,zB,zC,zD,zE,zF,zG,zH,zI,zJ]
 ((repeat refine Ws ?_);refine W_block ?_; (repeat refine Ws ?_)); refine W_loopS (fun i : Nat => [(0, intsV xs), (1, fv), (7, vi xs.length), (8, vi i)]) (fun _ => M) (fun i => xs.length - i) (fun i => i ≤ xs.length ∧ (xs.take i).any p = false) 0 ⟨by omega, by simp⟩ ⟨rfl, rfl, rfl, rfl, trivial⟩ rfl ?_
 rintro i ⟨hi, hno⟩
 have k1 : -9223372036854775808 ≤ (i : Int) + 1 ∧ (i : Int) + 1 < 9223372036854775808 := by omega
 ((repeat refine Ws ?_);refine Wr ?_)
 rcases Nat.lt_or_ge i xs.length with hlt | hge
 ·have k2 : ((i : Int) < (xs.length : Int)) = True := eq_true (by omega)
  have hx : xs[i]? = some xs[i] := List.getElem?_eq_getElem hlt
  have hx' := map_at (f := intP) hx
  simp (maxSteps := 1000000) only [VL,VM,↓VG,reduceIte,reduceCtorEq,zA,zB,zC,zD,zE,zF,zG,zH,zI,zJ, k1, k2, hx']
  ((repeat refine Ws ?_);refine Wt (by first|rfl|simp only [EV,zF,reduceIte]) ?_)
  ((repeat refine Ws ?_);refine W_skip ?_)
  simp (maxSteps := 1000000) only [VL,VM,↓VG,reduceIte,reduceCtorEq,zA,zB,zC,zD,zE,zF,zG,zH,zI,zJ]
  ((repeat refine Ws ?_);refine W_block ?_)
  ((repeat refine Ws ?_);refine Wr ?_)
  simp (maxSteps := 1000000) only [VL,VM,↓VG,reduceIte,reduceCtorEq,zA,zB,zC,zD,zE,zF,zG,zH,zI,zJ]
  ((repeat refine Ws ?_);refine Wr ?_)
  simp (maxSteps := 1000000) only [VL,VM,↓VG,reduceIte,reduceCtorEq,zA,zB,zC,zD,zE,zF,zG,zH,zI,zJ, hx']
  refine (hf _ (List.getElem_mem hlt)).mono ?_
  rintro _ _ ⟨rfl, rfl⟩
  simp (maxSteps := 1000000) only [VL,VM,↓VG,reduceIte,reduceCtorEq,zA,zB,zC,zD,zE,zF,zG,zH,zI,zJ]
  cases hp : p xs[i]
  ·((repeat refine Ws ?_);refine Wf (by first|rfl|simp only [EV,zF,reduceIte]) ?_)
   ((repeat refine Ws ?_);refine W_skip ?_)
   simp (maxSteps := 1000000) only [VL,VM,↓VG,reduceIte,reduceCtorEq,zA,zB,zC,zD,zE,zF,zG,zH,zI,zJ]
   ((repeat refine Ws ?_);refine Wr ?_)
   simp (maxSteps := 1000000) only [VL,VM,↓VG,reduceIte,reduceCtorEq,zA,zB,zC,zD,zE,zF,zG,zH,zI,zJ, k1]
   refine LoopK.mk (i + 1) (by omega) ⟨by omega, ?_⟩ ⟨rfl, rfl, rfl, rfl, trivial⟩ rfl
   rw [any_take p xs i _ hx, hno, hp]; rfl
  ·((repeat refine Ws ?_);refine Wt (by first|rfl|simp only [EV,zF,reduceIte]) ?_)
   ((repeat refine Ws ?_);refine Wr ?_)
   simp (maxSteps := 1000000) only [VL,VM,↓VG,reduceIte,reduceCtorEq,zA,zB,zC,zD,zE,zF,zG,zH,zI,zJ]
   (repeat refine Ws ?_)
   refine W_ret ?_
   try simp only [thenQ, blockQ]
   refine own_ret0 rfl rfl rfl ⟨rfl, (i : Int), rfl, ?_⟩
   rw [any_hit p xs i _ hx hp]; simp
 ·have k2 : ((i : Int) < (xs.length : Int)) = False := eq_false (by omega)
  simp (maxSteps := 1000000) only [VL,VM,↓VG,reduceIte,reduceCtorEq,zA,zB,zC,zD,zE,zF,zG,zH,zI,zJ, k1, k2]
  ((repeat refine Ws ?_);refine Wf (by first|rfl|simp only [EV,zF,reduceIte]) ?_)
  ((repeat refine Ws ?_);refine W_exit ?_)
  simp (maxSteps := 1000000) only [VL,VM,↓VG,reduceIte,reduceCtorEq,zA,zB,zC,zD,zE,zF,zG,zH,zI,zJ]
  ((repeat refine Ws ?_);refine Wr ?_)
  simp (maxSteps := 1000000) only [VL,VM,↓VG,reduceIte,reduceCtorEq,zA,zB,zC,zD,zE,zF,zG,zH,zI,zJ]
  (repeat refine Ws ?_)
  refine W_ret ?_
  try simp only [thenQ, blockQ]
  refine own_ret0 rfl rfl rfl ⟨rfl, -1, rfl, ?_⟩
  rw [List.take_of_length_le hge] at hno
  rw [hno]; rfl
theorem containsints_vm (fv : VV) (xs : List Int) (p : Int → Bool) (M : Mem) (hl : xs.length ≤ 1000000) (hs : strip1 fv = fv) (hf : ∀ x ∈ xs, VCall Tryd.prog fv [vi x] M (fun r M' => M' = M ∧ r = vb (p x))) :
  VC Tryd.prog 23 [intsV xs, fv] M (fun r M' => M' = M ∧ r = vb (xs.any p)) := by
 refine VC_own' T_ok (f := 23) (fn := Tryd.f23) (by kernel_rfl) rfl Tryd.ntmps23 (by rfl) (by rfl) ?_
 ((repeat refine Ws ?_);refine Wr ?_)
 simp (maxSteps := 1000000) only [VL,VM,↓VG,reduceIte,reduceCtorEq,zA,zB,zC,zD,zE,zF,zG,zH,zI,zJ]
 ((repeat refine Ws ?_);refine Wr ?_)
 simp (maxSteps := 1000000) only [VL,VM,↓VG,reduceIte,reduceCtorEq,zA,zB,zC,zD,zE,zF,zG,zH,zI,zJ]
 refine fn_call (f := 40) (fn := Tryd.f40) (by kernel_rfl) (by rfl) ?_
 rw [show List.map strip1 [intsV xs, fv] = [intsV xs, fv] by rw [List.map_cons, List.map_cons, hs]; rfl]
 refine (indexints_vm fv xs p M hl hf).mono ?_
 rintro _ _ ⟨rfl, k, rfl, hk⟩
 simp (maxSteps := 1000000) only [VL,VM,↓VG,reduceIte,reduceCtorEq,zA,zB,zC,zD,zE,zF,zG,zH,zI,zJ]
 (repeat refine Ws ?_)
 refine W_ret ?_
 try simp only [thenQ, blockQ]
 refine own_ret10 rfl ?_ (by rfl)
 simp only [get_cons, frz, vtup, Nat.reduceEqDiff, if_true, if_false, reduceIte]
 rw [hk]
end Go.Proofs.YtnjgdlmddlinaaaDoor.Vm

/- The program's small functions, on values, part 2. (Vm) -/
namespace Go.Proofs.YtnjgdlmddlinaaaDoor.Vm
open Go Go.Proofs
theorem far_vm (a b : Pl) (M : Mem) (a1 : 0 ≤ a.x) (a2 : a.x ≤ 1000) (a3 : 0 ≤ a.y) (a4 : a.y ≤ 1000) (b1 : 0 ≤ b.x) (b2 : b.x ≤ 1000) (b3 : 0 ≤ b.y) (b4 : b.y ≤ 1000) :
  VC Tryd.prog 63 [plV a, plV b] M (fun r M' => M' = M ∧ r = vi (farOf a b)) := by
 have k1 : -9223372036854775808 ≤ a.x - b.x ∧ a.x - b.x < 9223372036854775808 := by omega
 have k2 : -9223372036854775808 ≤ b.x - a.x ∧ b.x - a.x < 9223372036854775808 := by omega
 have k3 : -9223372036854775808 ≤ a.y - b.y ∧ a.y - b.y < 9223372036854775808 := by omega
 have k4 : -9223372036854775808 ≤ b.y - a.y ∧ b.y - a.y < 9223372036854775808 := by omega
 have k5 : -9223372036854775808 ≤ max (a.x - b.x) (b.x - a.x) + max (a.y - b.y) (b.y - a.y) ∧ max (a.x - b.x) (b.x - a.x) + max (a.y - b.y) (b.y - a.y) < 9223372036854775808 := by omega
 refine VC_own' T_ok (f := 63) (fn := Tryd.f63) (by kernel_rfl) rfl Tryd.ntmps63 (by rfl) (by rfl) ?_
 ((repeat refine Ws ?_);refine Wr ?_)
 simp (maxSteps := 1000000) only [VL,VM,↓VG,reduceIte,reduceCtorEq,zA,zB,zC,zD,zE,zF,zG,zH,zI,zJ]
 ((repeat refine Ws ?_);refine Wr ?_)
 simp (maxSteps := 1000000) only [VL,VM,↓VG,reduceIte,reduceCtorEq,zA,zB,zC,zD,zE,zF,zG,zH,zI,zJ, k1, k2, k3, k4, k5]
 (repeat refine Ws ?_)
 refine W_ret ?_
 try simp only [thenQ, blockQ]
 refine own_ret1 rfl ?_ (by rfl)
 simp only [get_cons, frz, vtup, Nat.reduceEqDiff, if_true, if_false, reduceIte]
 rfl
theorem unless_vm (b : Bool) (n : Int) (M : Mem) : VC Tryd.prog 55 [vb b, vi n] M (fun r M' => M' = M ∧ r = vi (if b then 0 else n)) := by
 refine VC_own' T_ok (f := 55) (fn := Tryd.f55) (by kernel_rfl) rfl Tryd.ntmps55 (by rfl) (by rfl) ?_
 ((repeat refine Ws ?_);refine Wr ?_)
 simp (maxSteps := 1000000) only [VL,VM,↓VG,reduceIte,reduceCtorEq,zA,zB,zC,zD,zE,zF,zG,zH,zI,zJ]
 ((repeat refine Ws ?_);refine Wr ?_)
 simp (maxSteps := 1000000) only [VL,VM,↓VG,reduceIte,reduceCtorEq,zA,zB,zC,zD,zE,zF,zG,zH,zI,zJ]
 cases b
 ·((repeat refine Ws ?_);refine Wf (by first|rfl|simp only [EV,zF,reduceIte]) ?_)
  ((repeat refine Ws ?_);refine W_skip ?_)
  simp (maxSteps := 1000000) only [VL,VM,↓VG,reduceIte,reduceCtorEq,zA,zB,zC,zD,zE,zF,zG,zH,zI,zJ]
  ((repeat refine Ws ?_);refine Wr ?_)
  simp (maxSteps := 1000000) only [VL,VM,↓VG,reduceIte,reduceCtorEq,zA,zB,zC,zD,zE,zF,zG,zH,zI,zJ]
  (repeat refine Ws ?_)
  refine W_ret ?_
  try simp only [thenQ, blockQ]
  refine own_ret10 rfl ?_ (by rfl)
  rfl
 ·((repeat refine Ws ?_);refine Wt (by first|rfl|simp only [EV,zF,reduceIte]) ?_)
  ((repeat refine Ws ?_);refine Wr ?_)
  simp (maxSteps := 1000000) only [VL,VM,↓VG,reduceIte,reduceCtorEq,zA,zB,zC,zD,zE,zF,zG,zH,zI,zJ]
  (repeat refine Ws ?_)
  refine W_ret ?_
  try simp only [thenQ, blockQ]
  refine own_ret10 rfl ?_ (by rfl)
  rfl
theorem bay_vm (h : Ha) (c : Pl) (M : Mem) (S : Small h) (c1 : 0 ≤ c.x) (c2 : c.x ≤ 1000) (c3 : 0 ≤ c.y) (c4 : c.y ≤ 1000) : VC Tryd.prog 53 [hallV h, plV c] M (fun r M' => M' = M ∧ r = vi (bayOf h c)) := by
 have hc := cols_le S
 have hS := S
 obtain ⟨w1, w2, d1, d2, x1, x2, y1, y2⟩ := S
 have hy := div_le (n := c.y) (b := h.bay.y) c3 y1
 have hx := div_le (n := c.x) (b := h.bay.x) c1 x1
 have hm := mul_le hy.1 hc.1 (show c.y / h.bay.y ≤ 1000 by omega) hc.2
 have k1 : 0 ≤ c.y ∧ c.y < 9223372036854775808 := by omega
 have k2 : 0 ≤ c.x ∧ c.x < 9223372036854775808 := by omega
 have k3 : -9223372036854775808 ≤ c.y / h.bay.y * colsOf h ∧ c.y / h.bay.y * colsOf h < 9223372036854775808 := by unfold colsOf; omega
 have k4 : -9223372036854775808 ≤ c.y / h.bay.y * colsOf h + c.x / h.bay.x ∧ c.y / h.bay.y * colsOf h + c.x / h.bay.x < 9223372036854775808 := by unfold colsOf; omega
 refine VC_own' T_ok (f := 53) (fn := Tryd.f53) (by kernel_rfl) rfl Tryd.ntmps53 (by rfl) (by rfl) ?_
 ((repeat refine Ws ?_);refine Wr ?_)
 simp (maxSteps := 1000000) only [VL,VM,↓VG,reduceIte,reduceCtorEq,zA,zB,zC,zD,zE,zF,zG,zH,zI,zJ]
 (repeat refine Ws ?_)
 refine W_drawP T_ok [] (by kernel_rfl) (by kernel_rfl) ?_
 generalize hi : mkPlan _ = infs
 cbv at hi
 subst hi
 simp (maxSteps := 1000000) only [VL,VM,↓VG,reduceIte,reduceCtorEq,zA,zB,zC,zD,zE,zF,zG,zH,zI,zJ, k1, y1]
 apply call_d (f := 39) (fn := Tryd.f39) (by kernel_rfl) (by rfl)
 ·exact columns_vm h _ hS
 simp (maxSteps := 1000000) only [VL,VM,↓VG,reduceIte,reduceCtorEq,zA,zB,zC,zD,zE,zF,zG,zH,zI,zJ, k1, k2, k3, k4, x1, y1]
 (repeat refine Ws ?_)
 refine W_ret ?_
 try simp only [thenQ, blockQ]
 refine own_ret1 rfl ?_ (by rfl)
 simp only [get_cons, frz, vtup, Nat.reduceEqDiff, if_true, if_false, reduceIte]
 rfl
theorem away_vm (n : Int) (M : Mem) : VC Tryd.prog 41 [vi n] M (fun r M' => M' = M ∧ r = vb (!inR n 0 9)) := by
 refine VC_own' T_ok (f := 41) (fn := Tryd.f41) (by kernel_rfl) rfl Tryd.ntmps41 (by rfl) (by rfl) ?_
 ((repeat refine Ws ?_);refine Wr ?_)
 simp (maxSteps := 1000000) only [VL,VM,↓VG,reduceIte,reduceCtorEq,zA,zB,zC,zD,zE,zF,zG,zH,zI,zJ]
 ((repeat refine Ws ?_);refine Wr ?_)
 simp (maxSteps := 1000000) only [VL,VM,↓VG,reduceIte,reduceCtorEq,zA,zB,zC,zD,zE,zF,zG,zH,zI,zJ]
 apply call_eq (f := 20) (fn := Tryd.f20) (by kernel_rfl) (by rfl)
 ·exact in_vm _ _ _ _
 simp (maxSteps := 1000000) only [VL,VM,↓VG,reduceIte,reduceCtorEq,zA,zB,zC,zD,zE,zF,zG,zH,zI,zJ]
 (repeat refine Ws ?_)
 refine W_ret ?_
 try simp only [thenQ, blockQ]
 refine own_ret10 rfl ?_ (by rfl)
 simp only [get_cons, frz, vtup, Nat.reduceEqDiff, if_true, if_false, reduceIte]
theorem bearsin_vm (n : Int) (M : Mem) : VC Tryd.prog 24 [vi n] M (fun r M' => M' = M ∧ r = vb (!inR n 0 10000000)) := by
 refine VC_own' T_ok (f := 24) (fn := Tryd.f24) (by kernel_rfl) rfl Tryd.ntmps24 (by rfl) (by rfl) ?_
 ((repeat refine Ws ?_);refine Wr ?_)
 simp (maxSteps := 1000000) only [VL,VM,↓VG,reduceIte,reduceCtorEq,zA,zB,zC,zD,zE,zF,zG,zH,zI,zJ]
 ((repeat refine Ws ?_);refine Wr ?_)
 simp (maxSteps := 1000000) only [VL,VM,↓VG,reduceIte,reduceCtorEq,zA,zB,zC,zD,zE,zF,zG,zH,zI,zJ]
 apply call_eq (f := 20) (fn := Tryd.f20) (by kernel_rfl) (by rfl)
 ·exact in_vm _ _ _ _
 simp (maxSteps := 1000000) only [VL,VM,↓VG,reduceIte,reduceCtorEq,zA,zB,zC,zD,zE,zF,zG,zH,zI,zJ]
 (repeat refine Ws ?_)
 refine W_ret ?_
 try simp only [thenQ, blockQ]
 refine own_ret10 rfl ?_ (by rfl)
 simp only [get_cons, frz, vtup, Nat.reduceEqDiff, if_true, if_false, reduceIte]
end Go.Proofs.YtnjgdlmddlinaaaDoor.Vm

/- The program's lists of places, on values. (Vm) -/
namespace Go.Proofs.YtnjgdlmddlinaaaDoor.Vm
open Go Go.Proofs
def keyPl (c : Pl) : List Int := [c.x, c.y]
def Met (es : List (List Int × VV)) (l : List Pl) : Prop := ∀ c : Pl, assoc (keyPl c) es = if hasPl l c then some (vb true) else none
theorem Met.nil : Met [] [] := fun c => rfl
theorem keyPl_inj {a b : Pl} : keyPl a = keyPl b ↔ a = b := by
 cases a; cases b; simp [keyPl]
theorem Met.add {es : List (List Int × VV)} {l : List Pl} (h : Met es l) (c : Pl) : Met (assocSet (keyPl c) (vb true) es) (l ++ [c]) := fun d => by
 rw [assoc_set, h d]
 by_cases e : c = d
 ·subst e; simp [hasPl]
 ·have : ¬ keyPl c = keyPl d := fun q => e (keyPl_inj.1 q)
  have e' : ¬ d = c := fun q => e q.symm
  simp [this, hasPl, e']
structure CellSt where
 i : Nat
 es : List (List Int × VV)
 junk : List VObj
theorem cells_any_vm (h : Ha) (l : List Pl) (M : Mem) (w1 : 1 ≤ h.wide) (w2 : h.wide ≤ 1000) (d1 : 1 ≤ h.deep) (d2 : h.deep ≤ 1000) (hl : l.length ≤ 1000000) : VC Tryd.prog 21 [hallV h, plsV l] M (fun r M' => M' = M ∧ r = vi (cellsErr h l)) := by
 refine VC_own' T_ok (f := 21) (fn := Tryd.f21) (by kernel_rfl) rfl Tryd.ntmps21 (by rfl) (by rfl) ?_
 ((repeat refine Ws ?_);refine Wr ?_)
 simp (maxSteps := 1000000) only [VL,VM,↓VG,reduceIte,reduceCtorEq,zA,zB,zC,zD,zE,zF,zG,zH,zI,zJ]
 ((repeat refine Ws ?_);refine Wr ?_)
 rcases Nat.lt_or_ge 24 l.length with h24 | h24
 ·have k0 : ((24 : Int) < (l.length : Int)) = True := eq_true (by omega)
  simp (maxSteps := 1000000) only [VL,VM,↓VG,reduceIte,reduceCtorEq,zA,zB,zC,zD,zE,zF,zG,zH,zI,zJ, k0]
  ((repeat refine Ws ?_);refine Wt (by first|rfl|simp only [EV,zF,reduceIte]) ?_)
  ((repeat refine Ws ?_);refine Wr ?_)
  simp (maxSteps := 1000000) only [VL,VM,↓VG,reduceIte,reduceCtorEq,zA,zB,zC,zD,zE,zF,zG,zH,zI,zJ]
  (repeat refine Ws ?_)
  refine W_ret ?_
  try simp only [thenQ, blockQ]
  refine own_ret1 rfl ?_ (by rfl)
  simp only [get_cons, frz, vtup, Nat.reduceEqDiff, if_true, if_false, reduceIte]
  simp [cellsErr, h24]
 have k0 : ((24 : Int) < (l.length : Int)) = False := eq_false (by omega)
 simp (maxSteps := 1000000) only [VL,VM,↓VG,reduceIte,reduceCtorEq,zA,zB,zC,zD,zE,zF,zG,zH,zI,zJ, k0]
 ((repeat refine Ws ?_);refine Wf (by first|rfl|simp only [EV,zF,reduceIte]) ?_)
 ((repeat refine Ws ?_);refine W_skip ?_)
 simp (maxSteps := 1000000) only [VL,VM,↓VG,reduceIte,reduceCtorEq,zA,zB,zC,zD,zE,zF,zG,zH,zI,zJ]
 ((repeat refine Ws ?_);refine Wr ?_)
 simp (maxSteps := 1000000) only [VL,VM,↓VG,reduceIte,reduceCtorEq,zA,zB,zC,zD,zE,zF,zG,zH,zI,zJ]
 ((repeat refine Ws ?_);refine Wr ?_)
 simp (maxSteps := 1000000) only [VL,VM,↓VG,reduceIte,reduceCtorEq,zA,zB,zC,zD,zE,zF,zG,zH,zI,zJ]
 ((repeat refine Ws ?_);refine W_block ?_; (repeat refine Ws ?_)); refine W_loopS (fun s : CellSt => [(0, hallV h), (1, plsV l), (2, VV.ptr M.H.length 0), (5, VV.mp (M.H.length + 1)), (12, plsV l), (13, vi l.length), (14, vi s.i)]) (fun s => ⟨M.H ++ (VObj.obj [vi h.wide, vi h.deep, plsV h.water, plsV h.shut, vi h.bay.x, vi h.bay.y, intsV h.bears, kisV h.kinds] :: VObj.mpo (.nums 2) s.es :: s.junk), M.lg⟩) (fun s => l.length - s.i) (fun s => s.i ≤ l.length ∧ firstErr (cellErr h l) s.i = 0 ∧ Met s.es (l.take s.i)) ⟨0, [], []⟩ ⟨Nat.zero_le _, rfl, Met.nil⟩ ⟨rfl, rfl, rfl, rfl, rfl, rfl, rfl, trivial⟩ rfl ?_
 rintro ⟨i, es, junk⟩ ⟨hi, hno, hm⟩
 simp only at hi hno hm
 have k1 : -9223372036854775808 ≤ (i : Int) + 1 ∧ (i : Int) + 1 < 9223372036854775808 := by omega
 ((repeat refine Ws ?_);refine Wr ?_)
 rcases Nat.lt_or_ge i l.length with hlt | hge
 ·have k2 : ((i : Int) < (l.length : Int)) = True := eq_true (by omega)
  have hx : l[i]? = some l[i] := List.getElem?_eq_getElem hlt
  have hx' := map_at (f := plP) hx
  generalize hc : l[i] = c at hx hx'
  simp (maxSteps := 1000000) only [VL,VM,↓VG,reduceIte,reduceCtorEq,zA,zB,zC,zD,zE,zF,zG,zH,zI,zJ, k2]
  ((repeat refine Ws ?_);refine Wt (by first|rfl|simp only [EV,zF,reduceIte]) ?_)
  ((repeat refine Ws ?_);refine W_skip ?_)
  simp (maxSteps := 1000000) only [VL,VM,↓VG,reduceIte,reduceCtorEq,zA,zB,zC,zD,zE,zF,zG,zH,zI,zJ]
  ((repeat refine Ws ?_);refine W_block ?_)
  ((repeat refine Ws ?_);refine Wr ?_)
  simp (maxSteps := 1000000) only [VL,VM,↓VG,reduceIte,reduceCtorEq,zA,zB,zC,zD,zE,zF,zG,zH,zI,zJ, hx']
  ((repeat refine Ws ?_);refine W_block ?_)
  ((repeat refine Ws ?_);refine Wr ?_)
  simp (maxSteps := 1000000) only [VL,VM,↓VG,reduceIte,reduceCtorEq,zA,zB,zC,zD,zE,zF,zG,zH,zI,zJ]
  apply call_eq (f := 38) (fn := Tryd.f38) (by kernel_rfl) (by rfl)
  ·exact place_vm h c _ w1 w2 d1 d2
  simp (maxSteps := 1000000) only [VL,VM,↓VG,reduceIte,reduceCtorEq,zA,zB,zC,zD,zE,zF,zG,zH,zI,zJ]
  have hm' : assoc [c.x, c.y] es = if hasPl (l.take i) c then some (vb true) else none := hm c
  have hce : cellErr h l i = if !isPl h c then 3 else if hasPl (l.take i) c then 4 else 0 := by simp [cellErr, hx]
  cases hp : isPl h c
  ·((repeat refine Ws ?_);refine Wt (by first|rfl|simp only [EV,zF,reduceIte]) ?_)
   ((repeat refine Ws ?_);refine Wr ?_)
   simp (maxSteps := 1000000) only [VL,VM,↓VG,reduceIte,reduceCtorEq,zA,zB,zC,zD,zE,zF,zG,zH,zI,zJ]
   (repeat refine Ws ?_)
   refine W_ret ?_
   try simp only [thenQ, blockQ]
   refine own_ret1 rfl ?_ (by rfl)
   simp only [get_cons, frz, vtup, Nat.reduceEqDiff, if_true, if_false, reduceIte]
   have hne : cellErr h l i ≠ 0 := by rw [hce, hp]; simp
   have := firstErr_hit hno hne hlt
   rw [cellsErr, if_neg (by omega), this, hce, hp]
   rfl
  ·((repeat refine Ws ?_);refine Wf (by first|rfl|simp only [EV,zF,reduceIte]) ?_)
   ((repeat refine Ws ?_);refine Wr ?_)
   cases hq : hasPl (l.take i) c
   ·rw [hq] at hm'
    simp only [Bool.false_eq_true, if_false] at hm'
    simp (maxSteps := 1000000) only [VL,VM,↓VG,reduceIte,reduceCtorEq,zA,zB,zC,zD,zE,zF,zG,zH,zI,zJ, hm']
    ((repeat refine Ws ?_);refine Wf (by first|rfl|simp only [EV,zF,reduceIte]) ?_)
    ((repeat refine Ws ?_);refine W_skip ?_)
    simp (maxSteps := 1000000) only [VL,VM,↓VG,reduceIte,reduceCtorEq,zA,zB,zC,zD,zE,zF,zG,zH,zI,zJ]
    ((repeat refine Ws ?_);refine Wr ?_)
    simp (maxSteps := 1000000) only [VL,VM,↓VG,reduceIte,reduceCtorEq,zA,zB,zC,zD,zE,zF,zG,zH,zI,zJ]
    ((repeat refine Ws ?_);refine Wr ?_)
    simp (maxSteps := 1000000) only [VL,VM,↓VG,reduceIte,reduceCtorEq,zA,zB,zC,zD,zE,zF,zG,zH,zI,zJ, k1]
    refine LoopK.mk ⟨i + 1, assocSet (keyPl c) (vb true) es, junk ++ [VObj.obj [vi c.x, vi c.y]]⟩ (by simp only; omega) ⟨by simp only; omega, firstErr_step hno (by rw [hce, hp, hq]; rfl), ?_⟩ ⟨rfl, rfl, rfl, rfl, rfl, rfl, rfl, trivial⟩ rfl
    simp only
    rw [List.take_add_one, hx]
    exact hm.add c
   ·rw [hq] at hm'
    simp only [if_true] at hm'
    simp (maxSteps := 1000000) only [VL,VM,↓VG,reduceIte,reduceCtorEq,zA,zB,zC,zD,zE,zF,zG,zH,zI,zJ, hm']
    ((repeat refine Ws ?_);refine Wt (by first|rfl|simp only [EV,zF,reduceIte]) ?_)
    ((repeat refine Ws ?_);refine Wr ?_)
    simp (maxSteps := 1000000) only [VL,VM,↓VG,reduceIte,reduceCtorEq,zA,zB,zC,zD,zE,zF,zG,zH,zI,zJ]
    (repeat refine Ws ?_)
    refine W_ret ?_
    try simp only [thenQ, blockQ]
    refine own_ret1 rfl ?_ (by rfl)
    simp only [get_cons, frz, vtup, Nat.reduceEqDiff, if_true, if_false, reduceIte]
    have hne : cellErr h l i ≠ 0 := by rw [hce, hp, hq]; simp
    have := firstErr_hit hno hne hlt
    rw [cellsErr, if_neg (by omega), this, hce, hp, hq]
    rfl
 ·have k2 : ((i : Int) < (l.length : Int)) = False := eq_false (by omega)
  simp (maxSteps := 1000000) only [VL,VM,↓VG,reduceIte,reduceCtorEq,zA,zB,zC,zD,zE,zF,zG,zH,zI,zJ, k2]
  ((repeat refine Ws ?_);refine Wf (by first|rfl|simp only [EV,zF,reduceIte]) ?_)
  ((repeat refine Ws ?_);refine W_exit ?_)
  simp (maxSteps := 1000000) only [VL,VM,↓VG,reduceIte,reduceCtorEq,zA,zB,zC,zD,zE,zF,zG,zH,zI,zJ]
  ((repeat refine Ws ?_);refine Wr ?_)
  simp (maxSteps := 1000000) only [VL,VM,↓VG,reduceIte,reduceCtorEq,zA,zB,zC,zD,zE,zF,zG,zH,zI,zJ]
  (repeat refine Ws ?_)
  refine W_ret ?_
  try simp only [thenQ, blockQ]
  refine own_ret1 rfl ?_ (by rfl)
  simp only [get_cons, frz, vtup, Nat.reduceEqDiff, if_true, if_false, reduceIte]
  have : i = l.length := by omega
  subst this
  simp [cellsErr, hno, Nat.not_lt.2 h24]
end Go.Proofs.YtnjgdlmddlinaaaDoor.Vm
