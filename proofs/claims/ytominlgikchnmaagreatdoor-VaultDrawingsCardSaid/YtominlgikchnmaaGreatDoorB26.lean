/- A part of the proofs about the chapter of the vaults; it states no condition of its own. -/
import Derived.Test.YtominlgikchnmaaGreatDoorB13
import Derived.Test.YtominlgikchnmaaGreatDoorB15
import Derived.Test.YtominlgikchnmaaGreatDoorB16
import Derived.Test.YtominlgikchnmaaGreatDoorB25
set_option linter.unusedVariables false
set_option linter.unusedSimpArgs false
/- Laws of halls and numbers: what comes in, as values. (Vm) -/
namespace Go.Proofs.YtominlgikchnmaaGreatDoor.Vm
open Go Go.Proofs Go.ChangeShapes Go.WideShapes Go.ChangeAt Go.RowKit
theorem cells_cell : Tryz.prog.cellsOf 24 = 2 := by kernel_rfl
theorem cells_kind : Tryz.prog.cellsOf 48 = 6 := by kernel_rfl
theorem ok_hall : okT Tryz.prog 5 28 = true := by kernel_rfl
theorem ok_int : okT Tryz.prog 1 3 = true := by kernel_rfl
theorem sh_int {xs : List PV} {ts : List TypeId} (h : ShL (3 :: ts) xs) : ∃ n ys, xs = .int .i64 n :: ys ∧ (Lit.int .i64 n).wf = true ∧ ShL ts ys := by
 obtain ⟨n, ys, rfl, hw, h1⟩ := h.int_inv Tryz.underlying3
 exact ⟨n, ys, rfl, hw, h1⟩
theorem sh_ints' {xs : List PV} {ts : List TypeId} (h : ShL (25 :: ts) xs) : ∃ (l : List Int) (ys : List PV), xs = .sl 1 (l.map intP) :: ys ∧ l.length ≤ maxLen ∧ ShL ts ys := by
 obtain ⟨rows, ys, he, hl, hr, h1⟩ := h.sl_inv Tryz.underlying25
 obtain ⟨xs, rfl, _⟩ := rows_inv (f := intP) (p := fun _ => True) (fun x hx => by
  obtain ⟨n, ys, rfl, _, h⟩ := sh_int hx
  obtain rfl := h.nil_inv
  exact ⟨n, rfl, trivial⟩) hr
 rw [cells_int] at he
 exact ⟨xs, ys, he, by simpa using hl, h1⟩
theorem sh_span {xs : List PV} {ts : List TypeId} (h : ShL (46 :: ts) xs) : ∃ (c : Sp) (ys : List PV), xs = spP c ++ ys ∧ ShL ts ys := by
 have h1 : ShL (3 :: 3 :: ts) xs := h.st_inv Tryz.underlying46
 obtain ⟨x, ys, rfl, _, h2⟩ := sh_int h1
 obtain ⟨y, ys, rfl, _, h3⟩ := sh_int h2
 exact ⟨⟨x, y⟩, ys, rfl, h3⟩
theorem sh_cell {xs : List PV} {ts : List TypeId} (h : ShL (24 :: ts) xs) : ∃ (c : Pl) (ys : List PV), xs = plP c ++ ys ∧ ShL ts ys := by
 have h1 : ShL (3 :: 3 :: ts) xs := h.st_inv Tryz.underlying24
 obtain ⟨x, ys, rfl, _, h2⟩ := sh_int h1
 obtain ⟨y, ys, rfl, _, h3⟩ := sh_int h2
 exact ⟨⟨x, y⟩, ys, rfl, h3⟩
theorem sh_cells {xs : List PV} {ts : List TypeId} (h : ShL (22 :: ts) xs) : ∃ (l : List Pl) (ys : List PV), xs = .sl 2 (l.map plP) :: ys ∧ l.length ≤ maxLen ∧ ShL ts ys := by
 obtain ⟨rows, ys, he, hl, hr, h1⟩ := h.sl_inv Tryz.underlying22
 obtain ⟨xs, rfl, _⟩ := rows_inv (f := plP) (p := fun _ => True) (fun x hx => by
  obtain ⟨n, ys, rfl, h⟩ := sh_cell hx
  obtain rfl := h.nil_inv
  exact ⟨n, List.append_nil _, trivial⟩) hr
 rw [cells_cell] at he
 exact ⟨xs, ys, he, by simpa using hl, h1⟩
theorem sh_kind {xs : List PV} {ts : List TypeId} (h : ShL (48 :: ts) xs) : ∃ (c : Ki) (ys : List PV), xs = kiP c ++ ys ∧ c.away.length ≤ maxLen ∧ ShL ts ys := by
 have h1 : ShL (46 :: 4 :: 25 :: 3 :: 3 :: ts) xs := h.st_inv Tryz.underlying48
 obtain ⟨⟨a, b⟩, ys, rfl, h2⟩ := sh_span h1
 obtain ⟨c, ys, rfl, h3⟩ := h2.bool_inv Tryz.underlying4
 obtain ⟨d, ys, rfl, hl, h4⟩ := sh_ints' h3
 obtain ⟨e, ys, rfl, _, h5⟩ := sh_int h4
 obtain ⟨f, ys, rfl, _, h6⟩ := sh_int h5
 exact ⟨{ lo := a, hi := b, water := c, away := d, rent := e, most := f }, ys, rfl, hl, h6⟩
theorem sh_kinds {xs : List PV} {ts : List TypeId} (h : ShL (26 :: ts) xs) : ∃ (l : List Ki) (ys : List PV), xs = .sl 6 (l.map kiP) :: ys ∧ l.length ≤ maxLen ∧ ShL ts ys := by
 obtain ⟨rows, ys, he, hl, hr, h1⟩ := h.sl_inv Tryz.underlying26
 obtain ⟨xs, rfl, _⟩ := rows_inv (f := kiP) (p := fun _ => True) (fun x hx => by
  obtain ⟨n, ys, rfl, _, h⟩ := sh_kind hx
  obtain rfl := h.nil_inv
  exact ⟨n, List.append_nil _, trivial⟩) hr
 rw [cells_kind] at he
 exact ⟨xs, ys, he, by simpa using hl, h1⟩
theorem sh_hall {xs : List PV} (h : ShL [28] xs) : ∃ c : Ha, xs = hallPP c ∧ c.kinds.length ≤ maxLen ∧ c.water.length ≤ maxLen ∧ c.shut.length ≤ maxLen ∧ c.bears.length ≤ maxLen := by
 have h1 : ShL [3, 3, 22, 22, 24, 25, 26] xs := h.st_inv Tryz.underlying28
 obtain ⟨a, ys, rfl, _, h2⟩ := sh_int h1
 obtain ⟨b, ys, rfl, _, h3⟩ := sh_int h2
 obtain ⟨c, ys, rfl, hc, h4⟩ := sh_cells h3
 obtain ⟨d, ys, rfl, hd, h5⟩ := sh_cells h4
 obtain ⟨e, ys, rfl, h6⟩ := sh_cell h5
 obtain ⟨f, ys, rfl, hf, h7⟩ := sh_ints' h6
 obtain ⟨g, ys, rfl, hg, h8⟩ := sh_kinds h7
 obtain rfl := h8.nil_inv
 exact ⟨{ wide := a, deep := b, water := c, shut := d, bay := e, bears := f, kinds := g }, rfl, hg, hc, hd, hf⟩
def Rd (t : TypeId) (p : VV → Prop) : Prop := (Tryz.prog.readableRec t = true ∧ t < Tryz.prog.types.size) ∧ ∀ (H : Type) (enc : TypeId × Value → H) (W : World) (b0 : Nat) (v : Value) (d : DataW H) (ps : List MemPlace), Value.okWide Tryz.prog W .any b0 t v → DataW.Trod enc Tryz.prog W 0 (fun _ => true) true t v d ps → ∃ u, p u ∧ RepV W (fun _ => none) [] v u ∧ refs u = []
set_option maxRecDepth 100000 in
theorem rd_hall : Rd 28 (fun u => ∃ c : Ha, u = hallV c ∧ c.kinds.length ≤ maxLen ∧ c.water.length ≤ maxLen ∧ c.shut.length ≤ maxLen ∧ c.bears.length ≤ maxLen) := by
 refine ⟨⟨by kernel_rfl, of_decide_eq_true (by kernel_rfl)⟩, fun H enc W b0 v d ps hv h => ?_⟩
 obtain ⟨xs, h1, h2⟩ := arg_st Tryz.underlying28 ok_hall hv h
 obtain ⟨c, rfl, h3⟩ := sh_hall h1
 exact ⟨_, ⟨c, rfl, h3⟩, h2, rfl⟩
set_option maxRecDepth 100000 in
theorem rd_ints : Rd 25 (fun u => ∃ l : List Int, u = intsV l ∧ l.length ≤ maxLen) := by
 refine ⟨⟨by kernel_rfl, of_decide_eq_true (by kernel_rfl)⟩, fun H enc W b0 v d ps hv h => ?_⟩
 obtain ⟨u, h1, h2⟩ := arg_slice Tryz.underlying25 ok_ints hv h
 obtain ⟨l, ys, he, hl, h3⟩ := sh_ints' h1
 cases he
 exact ⟨_, ⟨l, rfl, hl⟩, h2, rfl⟩
set_option maxRecDepth 100000 in
theorem rd_int : Rd 3 (fun u => ∃ n : Int, u = vi n ∧ -9223372036854775808 ≤ n ∧ n < 9223372036854775808) := by
 refine ⟨⟨by kernel_rfl, of_decide_eq_true (by kernel_rfl)⟩, fun H enc W b0 v d ps hv h => ?_⟩
 obtain ⟨u, h1, h2⟩ := arg_int Tryz.underlying3 ok_int hv h
 obtain ⟨n, ys, he, hw, h3⟩ := sh_int h1
 cases he
 refine ⟨_, ⟨n, rfl, ?_⟩, h2, rfl⟩
 have h7 : IntKind.i64.min = -9223372036854775808 := by decide
 have h8 : IntKind.i64.max = 9223372036854775807 := by decide
 simp only [Lit.wf, Bool.and_eq_true, decide_eq_true_eq, h7, h8] at hw
 omega
inductive Rds : List TypeId → List (VV → Prop) → Prop
 | nil : Rds [] []
 | cons {t : TypeId} {p : VV → Prop} {ts : List TypeId} {ps : List (VV → Prop)} (h : Rd t p) (r : Rds ts ps) : Rds (t :: ts) (p :: ps)
inductive Sat : List (VV → Prop) → List VV → Prop
 | nil : Sat [] []
 | cons {p : VV → Prop} {ps : List (VV → Prop)} {u : VV} {us : List VV} (h : p u) (r : Sat ps us) : Sat (p :: ps) (u :: us)
theorem Sat.inv {p : VV → Prop} {ps : List (VV → Prop)} {us : List VV} (h : Sat (p :: ps) us) : ∃ u vs, us = u :: vs ∧ p u ∧ Sat ps vs := by
 cases h with
 | cons h r => exact ⟨_, _, rfl, h, r⟩
theorem Sat.inv0 {us : List VV} (h : Sat [] us) : us = [] := by cases h; rfl
theorem pw_cons {α β : Type} {R : α → β → Prop} {a : α} {b : β} {xs : List α} {ys : List β} (h : R a b) (r : PW R xs ys) : PW R (a :: xs) (b :: ys) := ⟨by simp [r.1], fun i x y h1 h2 => by
 match i, h1, h2 with
 | 0, h1, h2 => cases h1; cases h2; exact h
 | i + 1, h1, h2 => exact r.2 i x y h1 h2⟩
set_option maxRecDepth 100000 in
theorem Rds.read {H : Type} {enc : TypeId × Value → H} {W : World} {b0 : Nat} : ∀ {ts : List TypeId} {pr : List (VV → Prop)}, Rds ts pr → ∀ {args : List Value} {ds : List (DataW H)} {ps : List MemPlace}, DataW.TrodAll enc Tryz.prog W 0 (fun _ => true) true ts args ds ps → (∀ (j : Nat) t v, ts[j]? = some t → args[j]? = some v → Value.okWide Tryz.prog W .any b0 t v) → ∃ us, Sat pr us ∧ PW (RepV W (fun _ => none) []) args us ∧ (∀ a ∈ us, refs a = []) ∧ ds.length = ts.length := by
 intro ts pr R
 induction R with
 | nil =>
  intro args ds ps h _
  obtain ⟨rfl, rfl, rfl⟩ := trodAll_nil h
  exact ⟨[], .nil, ⟨rfl, fun i a b h => by simp at h⟩, by simp, rfl⟩
 | cons h r ih =>
  intro args ds ps hA hv
  obtain ⟨v0, vs0, d0, ds0, p0, q0, rfl, rfl, rfl, h0, r0⟩ := trodAll_cons hA
  obtain ⟨us, s1, s2, s3, s4⟩ := ih r0 fun j t v h1 h2 => hv (j + 1) t v (by simpa using h1) (by simpa using h2)
  obtain ⟨u, t1, t2, t3⟩ := h.2 H enc W b0 v0 d0 p0 (hv 0 _ _ rfl rfl) h0
  refine ⟨u :: us, .cons t1 s1, pw_cons t2 s2, fun a ha => ?_, by simp [s4]⟩
  rcases List.mem_cons.1 ha with rfl | ha
  ·exact t3
  ·exact s3 a ha
theorem Rds.types {ts : List TypeId} {pr : List (VV → Prop)} (R : Rds ts pr) : ∀ t ∈ ts, Tryz.prog.readableRec t = true ∧ t < Tryz.prog.types.size := by
 induction R with
 | nil => simp
 | cons h r ih =>
  intro t ht
  rcases List.mem_cons.1 ht with rfl | ht
  ·exact h.1
  ·exact ih t ht
set_option maxRecDepth 100000 in
theorem law_contract {f : Nat} {fn : Func} {s : ChangeSpec} {H : Type} {enc : TypeId × Value → H} {W : World} {args : Array Value} {ds gs : List (DataW H)} {before : List MemPlace} {b0 : Nat} {pr : List (VV → Prop)} (R : Rds fn.params.toList pr) (hvs : s.vars = [])
  (hs : ∀ ds : List (DataW H), ds.length = fn.params.toList.length → (s.fn H ds).results = [.lit (.bool true)] ∧ (s.fn H ds).args = ds ∧ (s.fn H ds).vars = []) (hres : fn.resultTypes = #[4])
  (hv : ∀ us, Sat pr us → VC Tryz.prog f us ⟨[], []⟩ (fun r M' => M' = ⟨[], []⟩ ∧ r = vb true))
  (hlz : Lz W.heap.size W (fun _ => False))
  (hval : ∀ (j : Nat) t v, fn.params[j]? = some t → args[j]? = some v → Value.okWide Tryz.prog W .any b0 t v)
  (hW : DataW.Whole enc Tryz.prog fn.params.toList s.vars false W args.toList ds gs before) :
  Calls Tryz.prog f args W fun e W' => ∃ v, e = .returned v ∧ s.post enc Tryz.prog fn false true false false W args v W' := by
 have hW' := hW
 obtain ⟨p, q, hA0, hV, rfl, hfz, hnd⟩ := hW
 have hA : DataW.TrodAll enc Tryz.prog W 0 (fun _ => true) true fn.params.toList args.toList ds p := hA0
 obtain ⟨us, s1, s2, s3, s4⟩ := R.read hA fun j t v h1 h2 => hval j t v (by simpa using h1) (by simpa using h2)
 exact law_post hvs (hs ds s4) hres R.types hW' (law_run hlz s2 s3 (hv us s1))
end Go.Proofs.YtominlgikchnmaaGreatDoor.Vm

/- The machine on values at work: regions whose continuation is kept out of sight. -/
namespace Go.Proofs.YtominlgikchnmaaGreatDoor.Vm
open Go Go.Proofs
section
variable {P : Program} {T : Tab} {cx : Cx} {e : Env} {M : Mem} {D : List Nat} {Q : PQ}
theorem QV : type_of% (And.intro (@thenQ.eq_1) (And.intro (@thenQ.eq_2) (And.intro (@blockQ.eq_1) (@blockQ.eq_2)))) := And.intro (@thenQ.eq_1) (And.intro (@thenQ.eq_2) (And.intro (@blockQ.eq_1) (@blockQ.eq_2)))
theorem W_regionE (hT : TabOk P T) {id : Nat} {ops : Array Oper} (h : ∀ Kn : Env → Mem → Prop, (∀ e' M', Kn e' M' = Q .normal e' M' D) → WOps P T cx.nt ops ops.toList e M Kn) : WCode P cx (.region id ops false) e M D Q := W_region0 hT (h _ fun _ _ => rfl)
theorem W_drawE (hT : TabOk P T) {id : Nat} {ops : Array Oper} (zs : List VObj) (hz : zerosOf T ops.toList = some zs) (hp : planOk ops (mkPlan ops) = true)
  (h : ∀ Kn : Env → Mem → Prop, (∀ e' M', Kn e' M' = Q .normal e' M' D) → WDraw P T cx.nt ops ops.toList (mkPlan ops) e M.H.length { M with H := M.H ++ zs } [] [] Kn) : WCode P cx (.region id ops true) e M D Q := W_drawP hT zs hz hp (h _ fun _ _ => rfl)
end
end Go.Proofs.YtominlgikchnmaaGreatDoor.Vm

/- The machine on values: sets of carts. (Vm) -/
namespace Go.Proofs.YtominlgikchnmaaGreatDoor.Vm
open Go Go.Proofs
section
variable (t : Nat) (a b : Nat)
theorem bin_pure {op : BinOp} {k k' : IntKind} {x y z : Int} (h : Go.binOp op 0 (.int k x) (.int k' y) = .pure (.int k z)) : vbin T op t (.p (.int k x)) (.p (.int k' y)) = some (.p (.int k z)) := by
 simp only [vbin, h, pureOf, Option.map_some, ofValue]
theorem u8_eql : vbin T .eql t (su a) (su b) = some (vb (decide (a = b))) := by
 have h : Go.binOp .eql 0 (.int .u8 a) (.int .u8 b) = .pure (.bool (decide ((a : Int) = b))) := rfl
 simp only [vbin, h, pureOf, Option.map_some, ofValue]
 by_cases e : a = b
 ·rw [decide_eq_true e, decide_eq_true (by omega)]
 ·rw [decide_eq_false e, decide_eq_false (by omega)]
end
end Go.Proofs.YtominlgikchnmaaGreatDoor.Vm

/- A machine on values: slices of our own whose rows hold values; buffers that are frozen; calls that touch nothing of ours. -/
namespace Go.Proofs.YtominlgikchnmaaGreatDoor.Vm
open Go

section
variable {P : Program} {T : Tab} {cx : Cx} {e : Env} {M : Mem} {D : List Nat} {Q : PQ} {c : Code}
end
def pureV : VV → Bool
 | .p _ => true
 | .agg cs => cs.all fun c => match c with | .p _ => true | _ => false
 | _ => false
theorem RepV.pure {w : World} {K K' : Nat → Option Nat} {H H' : List VObj} {v : Value} {x : VV} (h : RepV w K H v x) (hx : pureV x = true) (him : ∀ b o, Im K' H' b o) : RepV w K' H' v x := by
 have hP : ∀ {v : Value} {y : PV}, RepP w (Im K H) v y → RepP w (Im K' H') v y := fun h => h.ext fun b o _ _ => ⟨him b o, rfl⟩
 cases h with
 | p v y h => exact .p _ _ (hP h)
 | agg vs cs hs h1 h =>
  refine .agg vs cs hs h1 fun i v c a b => ?_
  have hc := List.all_eq_true.1 hx c (List.mem_of_getElem? b)
  have hr := h i v c a b
  cases hr with
  | p v y h => exact .p _ _ (hP h)
  | _ => cases hc
 | _ => cases hx
end Go.Proofs.YtominlgikchnmaaGreatDoor.Vm
