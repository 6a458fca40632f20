/- A part of the proofs about the chapter of the ramps; it states no condition of its own. -/
import Derived.Test.YtmiiipdgbkipjaaGreatDoorB13
import Derived.Test.YtmiiipdgbkipjaaGreatDoorB14
import Derived.Shelf.Strings.BuilderK
import Derived.Shelf.LaysM
import Derived.Shelf.Strconv.Itoa3
import Derived.Shelf.LaysC
import Derived.Shelf.Strconv.AtoiAll
import Derived.Shelf.Strings.Split
import Derived.Test.YtmiiipdgbkipjaaGreatDoorProg
set_option linter.unusedVariables false
set_option linter.unusedSimpArgs false
/- Laws of numbers. (Vm) -/
namespace Go.Proofs.YtmiiipdgbkipjaaGreatDoor.Vm
open Go Go.Proofs Go.ChangeShapes Go.WideShapes Go.ChangeAt Go.RowKit
theorem cells_int : Tryz.prog.cellsOf 3 = 1 := by kernel_rfl
theorem ok_ints : okT Tryz.prog 2 26 = true := by kernel_rfl
end Go.Proofs.YtmiiipdgbkipjaaGreatDoor.Vm

/- Laws of yards, slots and numbers: what comes in, as values. (Vm) -/
namespace Go.Proofs.YtmiiipdgbkipjaaGreatDoor.Vm
open Go Go.Proofs Go.ChangeShapes Go.WideShapes Go.ChangeAt Go.RowKit
theorem cells_ramp : Tryz.prog.cellsOf 60 = 3 := by kernel_rfl
theorem cells_cart : Tryz.prog.cellsOf 46 = 6 := by kernel_rfl
theorem ok_yard : okT Tryz.prog 5 25 = true := by kernel_rfl
theorem ok_int : okT Tryz.prog 1 3 = true := by kernel_rfl
theorem sh_int {xs : List PV} {ts : List TypeId} (h : ShL (3 :: ts) xs) : ∃ n ys, xs = .int .i64 n :: ys ∧ (Lit.int .i64 n).wf = true ∧ ShL ts ys := by
 obtain ⟨n, ys, rfl, hw, h1⟩ := h.int_inv Tryz.underlying3
 exact ⟨n, ys, rfl, hw, h1⟩
theorem sh_ints' {xs : List PV} {ts : List TypeId} (h : ShL (26 :: ts) xs) : ∃ (l : List Int) (ys : List PV), xs = .sl 1 (l.map intP) :: ys ∧ l.length ≤ maxLen ∧ ShL ts ys := by
 obtain ⟨rows, ys, he, hl, hr, h1⟩ := h.sl_inv Tryz.underlying26
 obtain ⟨xs, rfl, _⟩ := rows_inv (f := intP) (p := fun _ => True) (fun x hx => by
  obtain ⟨n, ys, rfl, _, h⟩ := sh_int hx
  obtain rfl := h.nil_inv
  exact ⟨n, rfl, trivial⟩) hr
 rw [cells_int] at he
 exact ⟨xs, ys, he, by simpa using hl, h1⟩
theorem sh_span {xs : List PV} {ts : List TypeId} (h : ShL (44 :: ts) xs) : ∃ (c : Sp) (ys : List PV), xs = spP c ++ ys ∧ ShL ts ys := by
 have h1 : ShL (3 :: 3 :: ts) xs := h.st_inv Tryz.underlying44
 obtain ⟨x, ys, rfl, _, h2⟩ := sh_int h1
 obtain ⟨y, ys, rfl, _, h3⟩ := sh_int h2
 exact ⟨⟨x, y⟩, ys, rfl, h3⟩
theorem sh_ramp {xs : List PV} {ts : List TypeId} (h : ShL (60 :: ts) xs) : ∃ (c : Ra) (ys : List PV), xs = raP c ++ ys ∧ ShL ts ys := by
 have h1 : ShL (3 :: 3 :: 3 :: ts) xs := h.st_inv Tryz.underlying60
 obtain ⟨x, ys, rfl, _, h2⟩ := sh_int h1
 obtain ⟨y, ys, rfl, _, h3⟩ := sh_int h2
 obtain ⟨z, ys, rfl, _, h4⟩ := sh_int h3
 exact ⟨⟨x, y, z⟩, ys, rfl, h4⟩
theorem sh_cart {xs : List PV} {ts : List TypeId} (h : ShL (46 :: ts) xs) : ∃ (c : Ct) (ys : List PV), xs = ctP c ++ ys ∧ ShL ts ys := by
 have h1 : ShL (3 :: 3 :: 44 :: 3 :: 26 :: ts) xs := h.st_inv Tryz.underlying46
 obtain ⟨x, ys, rfl, _, h2⟩ := sh_int h1
 obtain ⟨y, ys, rfl, _, h3⟩ := sh_int h2
 obtain ⟨z, ys, rfl, h4⟩ := sh_span h3
 obtain ⟨g, ys, rfl, _, h5⟩ := sh_int h4
 obtain ⟨l, ys, rfl, _, h6⟩ := sh_ints' h5
 exact ⟨⟨x, y, z, g, l⟩, ys, rfl, h6⟩
theorem sh_ramps {xs : List PV} {ts : List TypeId} (h : ShL (22 :: ts) xs) : ∃ (l : List Ra) (ys : List PV), xs = .sl 3 (l.map raP) :: ys ∧ l.length ≤ maxLen ∧ ShL ts ys := by
 obtain ⟨rows, ys, he, hl, hr, h1⟩ := h.sl_inv Tryz.underlying22
 obtain ⟨xs, rfl, _⟩ := rows_inv (f := raP) (p := fun _ => True) (fun x hx => by
  obtain ⟨n, ys, rfl, h⟩ := sh_ramp hx
  obtain rfl := h.nil_inv
  exact ⟨n, List.append_nil _, trivial⟩) hr
 rw [cells_ramp] at he
 exact ⟨xs, ys, he, by simpa using hl, h1⟩
theorem sh_carts {xs : List PV} {ts : List TypeId} (h : ShL (23 :: ts) xs) : ∃ (l : List Ct) (ys : List PV), xs = .sl 6 (l.map ctP) :: ys ∧ l.length ≤ maxLen ∧ ShL ts ys := by
 obtain ⟨rows, ys, he, hl, hr, h1⟩ := h.sl_inv Tryz.underlying23
 obtain ⟨xs, rfl, _⟩ := rows_inv (f := ctP) (p := fun _ => True) (fun x hx => by
  obtain ⟨n, ys, rfl, h⟩ := sh_cart hx
  obtain rfl := h.nil_inv
  exact ⟨n, List.append_nil _, trivial⟩) hr
 rw [cells_cart] at he
 exact ⟨xs, ys, he, by simpa using hl, h1⟩
theorem sh_yard {xs : List PV} (h : ShL [25] xs) : ∃ c : Ya, xs = [.sl 3 (c.ramps.map raP), .sl 6 (c.carts.map ctP), .int .i64 c.sweep] ∧ c.ramps.length ≤ maxLen ∧ c.carts.length ≤ maxLen := by
 have h1 : ShL [22, 23, 3] xs := h.st_inv Tryz.underlying25
 obtain ⟨a, ys, rfl, ha, h2⟩ := sh_ramps h1
 obtain ⟨b, ys, rfl, hb, h3⟩ := sh_carts h2
 obtain ⟨d, ys, rfl, _, h5⟩ := sh_int h3
 obtain rfl := h5.nil_inv
 exact ⟨⟨a, b, d⟩, rfl, ha, hb⟩
def Rd (t : TypeId) (p : VV → Prop) : Prop := (Tryz.prog.readableRec t = true ∧ t < Tryz.prog.types.size) ∧ ∀ (H : Type) (enc : TypeId × Value → H) (W : World) (b0 : Nat) (v : Value) (d : DataW H) (ps : List MemPlace), Value.okWide Tryz.prog W .any b0 t v → DataW.Trod enc Tryz.prog W 0 (fun _ => true) true t v d ps → ∃ u, p u ∧ RepV W (fun _ => none) [] v u ∧ refs u = []
set_option maxRecDepth 100000 in
theorem rd_yard : Rd 25 (fun u => ∃ c : Ya, u = yardV c ∧ c.ramps.length ≤ maxLen ∧ c.carts.length ≤ maxLen) := by
 refine ⟨⟨by kernel_rfl, of_decide_eq_true (by kernel_rfl)⟩, fun H enc W b0 v d ps hv h => ?_⟩
 obtain ⟨xs, h1, h2⟩ := arg_st Tryz.underlying25 ok_yard hv h
 obtain ⟨c, rfl, h3⟩ := sh_yard h1
 exact ⟨_, ⟨c, rfl, h3⟩, h2, rfl⟩
set_option maxRecDepth 100000 in
theorem rd_ints : Rd 26 (fun u => ∃ l : List Int, u = intsV l ∧ l.length ≤ maxLen) := by
 refine ⟨⟨by kernel_rfl, of_decide_eq_true (by kernel_rfl)⟩, fun H enc W b0 v d ps hv h => ?_⟩
 obtain ⟨u, h1, h2⟩ := arg_slice Tryz.underlying26 ok_ints hv h
 obtain ⟨l, ys, he, hl, h3⟩ := sh_ints' h1
 cases he
 exact ⟨_, ⟨l, rfl, hl⟩, h2, rfl⟩
set_option maxRecDepth 100000 in
theorem rd_int : Rd 3 (fun u => ∃ n : Int, u = vi n ∧ -9223372036854775808 ≤ n ∧ n < 9223372036854775808) := by
 refine ⟨⟨by kernel_rfl, of_decide_eq_true (by kernel_rfl)⟩, fun H enc W b0 v d ps hv h => ?_⟩
 obtain ⟨u, h1, h2⟩ := arg_int Tryz.underlying3 ok_int hv h
 obtain ⟨n, ys, he, hw, h3⟩ := sh_int h1
 cases he
 refine ⟨_, ⟨n, rfl, ?_⟩, h2, rfl⟩
 have h7 : IntKind.i64.min = -9223372036854775808 := by decide
 have h8 : IntKind.i64.max = 9223372036854775807 := by decide
 simp only [Lit.wf, Bool.and_eq_true, decide_eq_true_eq, h7, h8] at hw
 omega
inductive Rds : List TypeId → List (VV → Prop) → Prop
 | nil : Rds [] []
 | cons {t : TypeId} {p : VV → Prop} {ts : List TypeId} {ps : List (VV → Prop)} (h : Rd t p) (r : Rds ts ps) : Rds (t :: ts) (p :: ps)
inductive Sat : List (VV → Prop) → List VV → Prop
 | nil : Sat [] []
 | cons {p : VV → Prop} {ps : List (VV → Prop)} {u : VV} {us : List VV} (h : p u) (r : Sat ps us) : Sat (p :: ps) (u :: us)
theorem Sat.inv {p : VV → Prop} {ps : List (VV → Prop)} {us : List VV} (h : Sat (p :: ps) us) : ∃ u vs, us = u :: vs ∧ p u ∧ Sat ps vs := by
 cases h with
 | cons h r => exact ⟨_, _, rfl, h, r⟩
theorem Sat.inv0 {us : List VV} (h : Sat [] us) : us = [] := by cases h; rfl
theorem pw_cons {α β : Type} {R : α → β → Prop} {a : α} {b : β} {xs : List α} {ys : List β} (h : R a b) (r : PW R xs ys) : PW R (a :: xs) (b :: ys) := ⟨by simp [r.1], fun i x y h1 h2 => by
 match i, h1, h2 with
 | 0, h1, h2 => cases h1; cases h2; exact h
 | i + 1, h1, h2 => exact r.2 i x y h1 h2⟩
set_option maxRecDepth 100000 in
theorem Rds.read {H : Type} {enc : TypeId × Value → H} {W : World} {b0 : Nat} : ∀ {ts : List TypeId} {pr : List (VV → Prop)}, Rds ts pr → ∀ {args : List Value} {ds : List (DataW H)} {ps : List MemPlace}, DataW.TrodAll enc Tryz.prog W 0 (fun _ => true) true ts args ds ps → (∀ (j : Nat) t v, ts[j]? = some t → args[j]? = some v → Value.okWide Tryz.prog W .any b0 t v) → ∃ us, Sat pr us ∧ PW (RepV W (fun _ => none) []) args us ∧ (∀ a ∈ us, refs a = []) ∧ ds.length = ts.length := by
 intro ts pr R
 induction R with
 | nil =>
  intro args ds ps h _
  obtain ⟨rfl, rfl, rfl⟩ := trodAll_nil h
  exact ⟨[], .nil, ⟨rfl, fun i a b h => by simp at h⟩, by simp, rfl⟩
 | cons h r ih =>
  intro args ds ps hA hv
  obtain ⟨v0, vs0, d0, ds0, p0, q0, rfl, rfl, rfl, h0, r0⟩ := trodAll_cons hA
  obtain ⟨us, s1, s2, s3, s4⟩ := ih r0 fun j t v h1 h2 => hv (j + 1) t v (by simpa using h1) (by simpa using h2)
  obtain ⟨u, t1, t2, t3⟩ := h.2 H enc W b0 v0 d0 p0 (hv 0 _ _ rfl rfl) h0
  refine ⟨u :: us, .cons t1 s1, pw_cons t2 s2, fun a ha => ?_, by simp [s4]⟩
  rcases List.mem_cons.1 ha with rfl | ha
  ·exact t3
  ·exact s3 a ha
theorem Rds.types {ts : List TypeId} {pr : List (VV → Prop)} (R : Rds ts pr) : ∀ t ∈ ts, Tryz.prog.readableRec t = true ∧ t < Tryz.prog.types.size := by
 induction R with
 | nil => simp
 | cons h r ih =>
  intro t ht
  rcases List.mem_cons.1 ht with rfl | ht
  ·exact h.1
  ·exact ih t ht
set_option maxRecDepth 100000 in
theorem law_contract {f : Nat} {fn : Func} {s : ChangeSpec} {H : Type} {enc : TypeId × Value → H} {W : World} {args : Array Value} {ds gs : List (DataW H)} {before : List MemPlace} {b0 : Nat} {pr : List (VV → Prop)} (R : Rds fn.params.toList pr) (hvs : s.vars = [])
  (hs : ∀ ds : List (DataW H), ds.length = fn.params.toList.length → (s.fn H ds).results = [.lit (.bool true)] ∧ (s.fn H ds).args = ds ∧ (s.fn H ds).vars = []) (hres : fn.resultTypes = #[4])
  (hv : ∀ us, Sat pr us → VC Tryz.prog f us ⟨[], []⟩ (fun r M' => M' = ⟨[], []⟩ ∧ r = vb true))
  (hlz : Lz W.heap.size W (fun _ => False))
  (hval : ∀ (j : Nat) t v, fn.params[j]? = some t → args[j]? = some v → Value.okWide Tryz.prog W .any b0 t v)
  (hW : DataW.Whole enc Tryz.prog fn.params.toList s.vars false W args.toList ds gs before) :
  Calls Tryz.prog f args W fun e W' => ∃ v, e = .returned v ∧ s.post enc Tryz.prog fn false true false false W args v W' := by
 have hW' := hW
 obtain ⟨p, q, hA0, hV, rfl, hfz, hnd⟩ := hW
 have hA : DataW.TrodAll enc Tryz.prog W 0 (fun _ => true) true fn.params.toList args.toList ds p := hA0
 obtain ⟨us, s1, s2, s3, s4⟩ := R.read hA fun j t v h1 h2 => hval j t v (by simpa using h1) (by simpa using h2)
 exact law_post hvs (hs ds s4) hres R.types hW' (law_run hlz s2 s3 (hv us s1))
end Go.Proofs.YtmiiipdgbkipjaaGreatDoor.Vm

/- The machine on values at work: regions whose continuation is kept out of sight. -/
namespace Go.Proofs.YtmiiipdgbkipjaaGreatDoor.Vm
open Go Go.Proofs
section
variable {P : Program} {T : Tab} {cx : Cx} {e : Env} {M : Mem} {D : List Nat} {Q : PQ}
theorem QV : type_of% (And.intro (@thenQ.eq_1) (And.intro (@thenQ.eq_2) (And.intro (@blockQ.eq_1) (@blockQ.eq_2)))) := And.intro (@thenQ.eq_1) (And.intro (@thenQ.eq_2) (And.intro (@blockQ.eq_1) (@blockQ.eq_2)))
theorem W_regionE (hT : TabOk P T) {id : Nat} {ops : Array Oper} (h : ∀ Kn : Env → Mem → Prop, (∀ e' M', Kn e' M' = Q .normal e' M' D) → WOps P T cx.nt ops ops.toList e M Kn) : WCode P cx (.region id ops false) e M D Q := W_region0 hT (h _ fun _ _ => rfl)
theorem W_drawE (hT : TabOk P T) {id : Nat} {ops : Array Oper} (zs : List VObj) (hz : zerosOf T ops.toList = some zs) (hp : planOk ops (mkPlan ops) = true)
  (h : ∀ Kn : Env → Mem → Prop, (∀ e' M', Kn e' M' = Q .normal e' M' D) → WDraw P T cx.nt ops ops.toList (mkPlan ops) e M.H.length { M with H := M.H ++ zs } [] [] Kn) : WCode P cx (.region id ops true) e M D Q := W_drawP hT zs hz hp (h _ fun _ _ => rfl)
end
end Go.Proofs.YtmiiipdgbkipjaaGreatDoor.Vm

/- A buffer that a temporary leads to is written no more: it dies, and the temporary is read as plain data. (Vm) -/
namespace Go.Proofs.YtmiiipdgbkipjaaGreatDoor.Vm
open Go Go.Proofs
section
variable {P : Program} {T : Tab} {cx : Cx} {e : Env} {M : Mem} {D : List Nat} {Q : PQ} {c : Code}
end
end Go.Proofs.YtmiiipdgbkipjaaGreatDoor.Vm

/- Temporaries known in another way; nil slices read as plain data. (Vm) -/
namespace Go.Proofs.YtmiiipdgbkipjaaGreatDoor.Vm
open Go Go.Proofs
section
variable {P : Program} {T : Tab} {cx : Cx} {e : Env} {M : Mem} {D : List Nat} {Q : PQ} {c : Code}
theorem W_know {t : Nat} {x y : VV} (ht : get e t = x) (hr : ∀ r ∈ refs y, r ∈ refs x) (hk : ∀ w K v, RepV w K M.H v x → RepV w K M.H v y) (h : WCode P cx c ((t, y) :: e) M D Q) : WCode P cx c e M D Q := by
 intro G w K a hs
 have hf2 : FrOk w K M cx.nt a.tmps ((t, y) :: e) := by
  refine ⟨hs.fr.size, fun t' => ?_, fun t' => ?_⟩
  ·rw [get_cons]
   by_cases h1 : t' = t
   ·subst h1
    rw [if_pos rfl]
    have := hs.fr.rep t'
    rw [ht] at this
    exact hk _ _ _ this
   ·rw [if_neg h1]; exact hs.fr.rep t'
  ·rw [get_cons]
   by_cases h1 : t' = t
   ·subst h1
    rw [if_pos rfl]
    intro r hr'
    have := hs.fr.cl t'
    rw [ht] at this
    exact this r (hr r hr')
   ·rw [if_neg h1]; exact hs.fr.cl t'
 exact h G w K a ⟨hf2, hs.df, hs.inv, hs.rd⟩
theorem sf_nil {w : World} {K : Nat → Option Nat} {H : List VObj} {v : Value} {k k0 : Nat} (h : RepV w K H v (.sf k0 [])) : RepV w K H v (.p (.sl k [])) := by
 cases h with
 | sf A _ _ h0 => exact .p _ _ (.sl A 0 k 0 0 [] (fun _ _ => undef) (Nat.le_refl _) (by simp [maxLen]) (fun x hx => by cases hx) (fun hx => absurd rfl hx) (fun i x j u hx => by simp at hx) (fun i x j u hx => by simp at hx) (fun i x j u hx => by simp at hx))
theorem W_nil {t k k0 : Nat} (ht : get e t = .sf k0 []) (h : WCode P cx c ((t, .p (.sl k [])) :: e) M D Q) : WCode P cx c e M D Q := W_know ht (fun r hr => by simp [refs] at hr) (fun _ _ _ => sf_nil) h
end
end Go.Proofs.YtmiiipdgbkipjaaGreatDoor.Vm

/- A second table, in which copies of lists are buffers of their own. (Vm) -/
namespace Go.Proofs.YtmiiipdgbkipjaaGreatDoor.Vm
open Go Go.Proofs
def ownT2 (T : Tab) (o k : Nat → Bool) : Tab := { T with own := o, keeps := k }
section
variable {P : Program} {T : Tab} {o k : Nat → Bool}
end
def ownO (t : Nat) : Bool := Nat.beq t 26 || Nat.beq t 47
noncomputable def TO : Tab := ownT2 T ownO keepsB
theorem ints_set (l : List Int) (i : Nat) (x : Int) (h : i < l.length) : splice (l.map vi) i [vi x] = (l.set i x).map vi := by
 simp only [splice, List.length_cons, List.length_nil]
 rw [List.map_set, List.set_eq_take_append_cons_drop, if_pos (by simpa using h)]
 simp
end Go.Proofs.YtmiiipdgbkipjaaGreatDoor.Vm

/- Sets of carts as numbers, plain. -/
namespace Go.Proofs.YtmiiipdgbkipjaaGreatDoor
def sdiff (a b : Nat) : Nat := a ^^^ (a &&& b)
def bitsL (s : Nat) : List Nat := (List.range 7).filter fun i => s.testBit i
theorem sdiff_bit (a b i : Nat) : (sdiff a b).testBit i = (a.testBit i && !b.testBit i) := by
 simp only [sdiff, Nat.testBit_xor, Nat.testBit_and]
 cases a.testBit i <;> cases b.testBit i <;> rfl
theorem sdiff_lt {a b n : Nat} (h : a < 2 ^ n) : sdiff a b < 2 ^ n :=
 Nat.xor_lt_two_pow h (Nat.lt_of_le_of_lt Nat.and_le_left h)
theorem sdiff_le (a b : Nat) : sdiff a b ≤ a := by
 have h : sdiff a b = sdiff a b &&& a := by
  apply Nat.eq_of_testBit_eq
  intro i
  rw [Nat.testBit_and, sdiff_bit]
  cases a.testBit i <;> simp
 rw [h]
 exact Nat.and_le_right
theorem mem_bitsL {s i : Nat} (h : s < 128) : i ∈ bitsL s ↔ s.testBit i = true := by
 unfold bitsL
 rw [List.mem_filter, List.mem_range]
 constructor
 ·exact fun h => h.2
 ·intro h2
  refine ⟨?_, h2⟩
  rcases Nat.lt_or_ge i 7 with h3 | h3
  ·exact h3
  ·have : s.testBit i = false := Nat.testBit_lt_two_pow (Nat.lt_of_lt_of_le h (by
    have := Nat.pow_le_pow_right (n := 2) (by decide) h3
    omega))
   rw [this] at h2; cases h2
theorem bitsL_len {s : Nat} : (bitsL s).length ≤ 7 := Nat.le_trans (List.length_filter_le _ _) (by simp)
def subsTo (s p : Nat) : List Nat := (List.range (p + 1)).reverse.filter fun q => q &&& s == q
def subB (s p : Nat) : Bool := !(p &&& s == p) || (p == 0) || (List.range p).all fun q => !(q &&& s == q) || Nat.ble q ((p - 1) &&& s)
set_option maxRecDepth 100000 in
theorem sub_all : (List.range 128).all (fun s => (List.range 128).all fun p => subB s p) = true := by decide +kernel
theorem sub_next {s p q : Nat} (hs : s < 128) (hp : p < 128) (h : p &&& s = p) (h0 : 0 < p) (hq : q < p) (hqs : q &&& s = q) : q ≤ (p - 1) &&& s := by
 have h1 := List.all_eq_true.1 (List.all_eq_true.1 sub_all s (List.mem_range.2 hs)) p (List.mem_range.2 hp)
 unfold subB at h1
 have e1 : (p &&& s == p) = true := by simp [h]
 have e2 : (p == 0) = false := by simp; omega
 rw [e1, e2] at h1
 simp only [Bool.not_true, Bool.false_or] at h1
 have h2 := List.all_eq_true.1 h1 q (List.mem_range.2 hq)
 have e3 : (q &&& s == q) = true := by simp [hqs]
 rw [e3] at h2
 simpa [Nat.ble_eq] using h2
theorem subsTo_zero (s : Nat) : subsTo s 0 = [0] := by simp [subsTo]
theorem subsTo_next {s p : Nat} (hs : s < 128) (hp : p < 128) (h : p &&& s = p) (h0 : 0 < p) : subsTo s p = p :: subsTo s ((p - 1) &&& s) := by
 have hle : (p - 1) &&& s ≤ p - 1 := Nat.and_le_left
 unfold subsTo
 rw [List.range_succ, List.reverse_append, List.reverse_cons, List.reverse_nil, List.nil_append, List.singleton_append, List.filter_cons_of_pos (by simp [h])]
 congr 1
 have hsp : List.range p = List.range (((p - 1) &&& s) + 1) ++ List.range' (((p - 1) &&& s) + 1) (p - 1 - ((p - 1) &&& s)) := by
  rw [List.range_eq_range', List.range_eq_range']
  have := List.range'_append_1 (s := 0) (m := ((p - 1) &&& s) + 1) (n := p - 1 - ((p - 1) &&& s))
  rw [Nat.zero_add] at this
  rw [this]
  congr 1
  omega
 rw [hsp, List.reverse_append, List.filter_append, List.filter_eq_nil_iff.2, List.nil_append]
 intro q hq
 rw [List.mem_reverse, List.mem_range'_1] at hq
 intro hqs
 have := sub_next hs hp h h0 (q := q) (by omega) (by simpa using hqs)
 omega
theorem mem_subsTo {s q : Nat} : q ∈ subsTo s s ↔ q &&& s = q := by
 unfold subsTo
 rw [List.mem_filter, List.mem_reverse, List.mem_range]
 constructor
 ·intro ⟨_, h⟩; simpa using h
 ·intro h
  refine ⟨?_, by simpa using h⟩
  have : q &&& s ≤ s := Nat.and_le_right
  omega
end Go.Proofs.YtmiiipdgbkipjaaGreatDoor

/- The machine on values: sets of carts. (Vm) -/
namespace Go.Proofs.YtmiiipdgbkipjaaGreatDoor.Vm
open Go Go.Proofs
section
variable (t : Nat) (a b : Nat)
theorem bin_pure {op : BinOp} {k k' : IntKind} {x y z : Int} (h : Go.binOp op 0 (.int k x) (.int k' y) = .pure (.int k z)) : vbin T op t (.p (.int k x)) (.p (.int k' y)) = some (.p (.int k z)) := by
 simp only [vbin, h, pureOf, Option.map_some, ofValue]
theorem u8_and (ha : a < 256) (hb : b < 256) : vbin T .and t (su a) (su b) = some (su (a &&& b)) := by
 refine bin_pure t ?_
 show Op.intBits .and .u8 a b = _
 have h1 : (BitVec.ofInt 8 (a : Int) &&& BitVec.ofInt 8 (b : Int)).toNat = a &&& b := by
  rw [BitVec.ofInt_natCast, BitVec.ofInt_natCast, BitVec.toNat_and, BitVec.toNat_ofNat, BitVec.toNat_ofNat, Nat.mod_eq_of_lt (by omega), Nat.mod_eq_of_lt (by omega)]
 have h2 : a &&& b ≤ a := Nat.and_le_left
 show Sem.pure (Value.int .u8 (IntKind.u8.wrap (((BitVec.ofInt 8 (a : Int) &&& BitVec.ofInt 8 (b : Int)).toNat : Nat) : Int))) = _
 rw [h1, IntWalk.u8_in _ (by omega)]
theorem u8_or (ha : a < 256) (hb : b < 256) : vbin T .or t (su a) (su b) = some (su (a ||| b)) := by
 refine bin_pure t ?_
 show Op.intBits .or .u8 a b = _
 have h1 : (BitVec.ofInt 8 (a : Int) ||| BitVec.ofInt 8 (b : Int)).toNat = a ||| b := by
  rw [BitVec.ofInt_natCast, BitVec.ofInt_natCast, BitVec.toNat_or, BitVec.toNat_ofNat, BitVec.toNat_ofNat, Nat.mod_eq_of_lt (by omega), Nat.mod_eq_of_lt (by omega)]
 have h2 : a ||| b < 2 ^ 8 := Nat.or_lt_two_pow ha hb
 show Sem.pure (Value.int .u8 (IntKind.u8.wrap (((BitVec.ofInt 8 (a : Int) ||| BitVec.ofInt 8 (b : Int)).toNat : Nat) : Int))) = _
 rw [h1, IntWalk.u8_in _ (by omega)]
theorem bv_andNot {n : Nat} (x y : BitVec n) : x &&& ~~~y = x ^^^ (x &&& y) := by
 apply BitVec.eq_of_getLsbD_eq
 intro i hi
 simp only [BitVec.getLsbD_and, BitVec.getLsbD_not, BitVec.getLsbD_xor]
 cases x.getLsbD i <;> cases y.getLsbD i <;> simp [hi]
theorem u8_andNot (ha : a < 256) (hb : b < 256) : vbin T .andNot t (su a) (su b) = some (su (sdiff a b)) := by
 refine bin_pure t ?_
 show Op.intBits .andNot .u8 a b = _
 have h1 : (BitVec.ofInt 8 (a : Int) &&& ~~~ BitVec.ofInt 8 (b : Int)).toNat = sdiff a b := by
  rw [bv_andNot, BitVec.ofInt_natCast, BitVec.ofInt_natCast, BitVec.toNat_xor, BitVec.toNat_and, BitVec.toNat_ofNat, BitVec.toNat_ofNat, Nat.mod_eq_of_lt (by omega), Nat.mod_eq_of_lt (by omega)]
  rfl
 have h2 := sdiff_le a b
 show Sem.pure (Value.int .u8 (IntKind.u8.wrap (((BitVec.ofInt 8 (a : Int) &&& ~~~ BitVec.ofInt 8 (b : Int)).toNat : Nat) : Int))) = _
 rw [h1, IntWalk.u8_in _ (by omega)]
theorem i_and (ha : a < 1000000) (hb : b < 1000000) : vbin T .and t (vi a) (vi b) = some (vi ((a &&& b : Nat) : Int)) := by
 refine bin_pure t ?_
 show Op.intBits .and .i64 a b = _
 have h1 : (BitVec.ofInt 64 (a : Int) &&& BitVec.ofInt 64 (b : Int)).toNat = a &&& b := by
  rw [BitVec.ofInt_natCast, BitVec.ofInt_natCast, BitVec.toNat_and, BitVec.toNat_ofNat, BitVec.toNat_ofNat, Nat.mod_eq_of_lt (by omega), Nat.mod_eq_of_lt (by omega)]
 have h2 : a &&& b ≤ a := Nat.and_le_left
 show Sem.pure (Value.int .i64 (IntKind.i64.wrap (((BitVec.ofInt 64 (a : Int) &&& BitVec.ofInt 64 (b : Int)).toNat : Nat) : Int))) = _
 rw [h1, IntWalk.i64_in _ (by omega)]
theorem i_andNot (ha : a < 1000000) (hb : b < 1000000) : vbin T .andNot t (vi a) (vi b) = some (vi ((sdiff a b : Nat) : Int)) := by
 refine bin_pure t ?_
 show Op.intBits .andNot .i64 a b = _
 have h1 : (BitVec.ofInt 64 (a : Int) &&& ~~~ BitVec.ofInt 64 (b : Int)).toNat = sdiff a b := by
  rw [bv_andNot, BitVec.ofInt_natCast, BitVec.ofInt_natCast, BitVec.toNat_xor, BitVec.toNat_and, BitVec.toNat_ofNat, BitVec.toNat_ofNat, Nat.mod_eq_of_lt (by omega), Nat.mod_eq_of_lt (by omega)]
  rfl
 have h2 := sdiff_le a b
 show Sem.pure (Value.int .i64 (IntKind.i64.wrap (((BitVec.ofInt 64 (a : Int) &&& ~~~ BitVec.ofInt 64 (b : Int)).toNat : Nat) : Int))) = _
 rw [h1, IntWalk.i64_in _ (by omega)]
theorem u8_shr (c : Nat) (hc : c ≤ 8) : vbin T .shr t (su a) (vi c) = some (su (a >>> c)) := by
 refine bin_pure t ?_
 show Op.shift .shr .u8 a .i64 c = _
 unfold Op.shift
 rw [if_neg (by omega)]
 have h1 : min ((c : Int).toNat) (IntKind.bits .u8) = c := by
  show min ((c : Int).toNat) 8 = c
  omega
 simp only [h1]
 rw [Int.fdiv_eq_ediv_of_nonneg _ (Int.pow_nonneg (by decide)), Nat.shiftRight_eq_div_pow]
 norm_cast
theorem u8_shl (c : Nat) (hc : c ≤ 7) : vbin T .shl t (su 1) (vi c) = some (su (2 ^ c)) := by
 refine bin_pure t ?_
 show Op.shift .shl .u8 1 .i64 c = _
 unfold Op.shift
 rw [if_neg (by omega)]
 have h1 : min ((c : Int).toNat) (IntKind.bits .u8) = c := by
  show min ((c : Int).toNat) 8 = c
  omega
 simp only [h1]
 have h2 : 2 ^ c ≤ 2 ^ 7 := Nat.pow_le_pow_right (by decide) hc
 have h3 : (1 : Int) * 2 ^ c = ((2 ^ c : Nat) : Int) := by norm_cast; omega
 rw [h3]
 generalize (2 ^ c : Nat) = p at h2 ⊢
 rw [IntWalk.u8_in _ (by omega)]
 rfl
theorem i_shl (c : Nat) (hc : c ≤ 7) : vbin T .shl t (vi 1) (vi c) = some (vi ((2 ^ c : Nat) : Int)) := by
 refine bin_pure t ?_
 show Op.shift .shl .i64 1 .i64 c = _
 unfold Op.shift
 rw [if_neg (by omega)]
 have h1 : min ((c : Int).toNat) (IntKind.bits .i64) = c := by
  show min ((c : Int).toNat) 64 = c
  omega
 simp only [h1]
 have h2 : 2 ^ c ≤ 2 ^ 7 := Nat.pow_le_pow_right (by decide) hc
 have h3 : (1 : Int) * 2 ^ c = ((2 ^ c : Nat) : Int) := by norm_cast; omega
 rw [h3]
 generalize (2 ^ c : Nat) = p at h2 ⊢
 rw [IntWalk.i64_in _ (by omega)]
 rfl
theorem u8_add (h : a + b < 256) : vbin T .add t (su a) (su b) = some (su (a + b)) := by
 refine bin_pure t ?_
 show Sem.pure (Value.int .u8 (IntKind.u8.wrap ((a : Int) + b))) = _
 rw [IntWalk.u8_in _ (by omega)]
 norm_cast
theorem u8_sub (h : b ≤ a) (ha : a < 256) : vbin T .sub t (su a) (su b) = some (su (a - b)) := by
 refine bin_pure t ?_
 show Sem.pure (Value.int .u8 (IntKind.u8.wrap ((a : Int) - b))) = _
 rw [IntWalk.u8_in _ (by omega), show (a : Int) - b = ((a - b : Nat) : Int) by omega]
theorem u8_eql : vbin T .eql t (su a) (su b) = some (vb (decide (a = b))) := by
 have h : Go.binOp .eql 0 (.int .u8 a) (.int .u8 b) = .pure (.bool (decide ((a : Int) = b))) := rfl
 simp only [vbin, h, pureOf, Option.map_some, ofValue]
 by_cases e : a = b
 ·rw [decide_eq_true e, decide_eq_true (by omega)]
 ·rw [decide_eq_false e, decide_eq_false (by omega)]
theorem u8_gtr : vbin T .gtr t (su a) (su b) = some (vb (decide (b < a))) := by
 have h : Go.binOp .gtr 0 (.int .u8 a) (.int .u8 b) = .pure (.bool (decide ((a : Int) > b))) := rfl
 simp only [vbin, h, pureOf, Option.map_some, ofValue]
 by_cases e : b < a
 ·rw [decide_eq_true e, decide_eq_true (by omega)]
 ·rw [decide_eq_false e, decide_eq_false (by omega)]
theorem c_us : vconvert T 83 3 (su a) = if a < 256 then some (vi a) else vconvert T 83 3 (su a) := by
 by_cases h : a < 256
 ·rw [if_pos h]
  simp only [vconvert, t_set, t_int]
  show (pureOf (Conv.intToInt .i64 (a : Int))).map ofValue = _
  have : Conv.intToInt .i64 (a : Int) = .pure (.int .i64 (IntKind.i64.wrap a)) := rfl
  rw [this, IntWalk.i64_in _ (by omega)]
  rfl
 ·rw [if_neg h]
theorem c_su (ha : a < 256) : vconvert T 3 83 (vi a) = some (su a) := by
 simp only [vconvert, t_set, t_int]
 have : Conv.intToInt .u8 (a : Int) = .pure (.int .u8 (IntKind.u8.wrap a)) := rfl
 rw [this, IntWalk.u8_in _ (by omega)]
 rfl
theorem c_si (ha : a < 256) : vconvert T 83 3 (su a) = some (vi a) := by
 rw [c_us, if_pos ha]
theorem idx_su : idx (su a) = some a := by
 have : (0 : Int) ≤ (a : Int) := Int.natCast_nonneg a
 simp [idx, this]
end
end Go.Proofs.YtmiiipdgbkipjaaGreatDoor.Vm

/- The library contracts of the shelf, laid at this program (strings.Builder, strings.Split, strconv.Itoa, strconv.Atoi). -/
namespace Go.Proofs
open Go.Shelf
def Tryz.lays169_ren : Go.Shelf.Ren := ⟨fun | 169 => 32 | n => n, fun | 70 => 67 | 9 => 9 | 0 => 0 | 72 => 70 | 37 => 68 | 127 => 114 | 3 => 3 | 5 => 5 | n => n, fun | n => n⟩
theorem Tryz.Builder_Extra_169 : Builder.Extra Tryz.prog Tryz.lays169_ren := {
 sizeBuilder := by kernel_rfl
 liesBuilder := by kernel_rfl
 t5 := Tryz.underlying5
 a5 := Tryz.isAgg5
 z5 := Tryz.sizeOf5
 v5 := Tryz.zeroValue5
 infoByte := by kernel_rfl
 cellsByte := by kernel_rfl
 sizeByte := by kernel_rfl
 neB5 := by decide }
def Tryz.laysM171_ren : Go.Shelf.Ren := ⟨fun | 171 => 31 | 243 => 59 | 246 => 75 | 283 => 86 | 284 => 87 | 285 => 88 | 286 => 89 | 129 => 98 | 317 => 97 | 318 => 99 | 319 => 100 | 320 => 101 | 337 => 109 | 338 => 110 | n => n, fun | 3 => 3 | 9 => 9 | 2 => 2 | 4 => 4 | 171 => 140 | 0 => 0 | 53 => 62 | 37 => 68 | 5 => 5 | 173 => 143 | 212 => 156 | 51 => 157 | 20 => 20 | 213 => 158 | 46 => 110 | 232 => 172 | 233 => 173 | n => n, fun | 17 => 2 | 18 => 6 | 19 => 7 | n => n⟩
theorem Tryz.laysM171 : Go.Proofs.LaysM.n171 Tryz.prog Tryz.laysM171_ren := {
 mixed := by kernel_rfl
 f129 := Tryz.func98.trans (congrArg some (by kernel_rfl))
 f171 := Tryz.func31.trans (congrArg some (by kernel_rfl))
 f243 := Tryz.func59.trans (congrArg some (by kernel_rfl))
 f246 := Tryz.func75.trans (congrArg some (by kernel_rfl))
 f283 := Tryz.func86.trans (congrArg some (by kernel_rfl))
 f284 := Tryz.func87.trans (congrArg some (by kernel_rfl))
 f285 := Tryz.func88.trans (congrArg some (by kernel_rfl))
 f286 := Tryz.func89.trans (congrArg some (by kernel_rfl))
 f317 := Tryz.func97.trans (congrArg some (by kernel_rfl))
 f318 := Tryz.func99.trans (congrArg some (by kernel_rfl))
 f319 := Tryz.func100.trans (congrArg some (by kernel_rfl))
 f320 := Tryz.func101.trans (congrArg some (by kernel_rfl))
 f337 := Tryz.func109.trans (congrArg some (by kernel_rfl))
 f338 := Tryz.func110.trans (congrArg some (by kernel_rfl))
 t0 := Tryz.underlying0
 a0 := Tryz.isAgg0
 z0 := Tryz.sizeOf0
 v0 := Tryz.zeroValue0
 t2 := Tryz.underlying2
 a2 := Tryz.isAgg2
 z2 := Tryz.sizeOf2
 v2 := Tryz.zeroValue2
 t3 := Tryz.underlying3
 a3 := Tryz.isAgg3
 z3 := Tryz.sizeOf3
 v3 := Tryz.zeroValue3
 t4 := Tryz.underlying4
 a4 := Tryz.isAgg4
 z4 := Tryz.sizeOf4
 v4 := Tryz.zeroValue4
 t5 := Tryz.underlying5
 a5 := Tryz.isAgg5
 z5 := Tryz.sizeOf5
 v5 := Tryz.zeroValue5
 t9 := Tryz.underlying9
 a9 := Tryz.isAgg9
 z9 := Tryz.sizeOf9
 v9 := Tryz.zeroValue9
 t20 := Tryz.underlying20
 a20 := Tryz.isAgg20
 z20 := Tryz.sizeOf20
 v20 := Tryz.zeroValue20
 t37 := Tryz.underlying68
 a37 := Tryz.isAgg68
 z37 := Tryz.sizeOf68
 v37 := Tryz.zeroValue68
 t46 := Tryz.underlying110
 a46 := Tryz.isAgg110
 z46 := Tryz.sizeOf110
 v46 := Tryz.zeroValue110
 t51 := Tryz.underlying157
 a51 := Tryz.isAgg157
 z51 := Tryz.sizeOf157
 v51 := Tryz.zeroValue157
 t53 := Tryz.underlying62
 a53 := Tryz.isAgg62
 z53 := Tryz.sizeOf62
 v53 := Tryz.zeroValue62
 t171 := Tryz.underlying140
 a171 := Tryz.isAgg140
 z171 := Tryz.sizeOf140
 v171 := Tryz.zeroValue140
 t173 := Tryz.underlying143
 a173 := Tryz.isAgg143
 z173 := Tryz.sizeOf143
 v173 := Tryz.zeroValue143
 t212 := Tryz.underlying156
 a212 := Tryz.isAgg156
 z212 := Tryz.sizeOf156
 v212 := Tryz.zeroValue156
 t213 := Tryz.underlying158
 a213 := Tryz.isAgg158
 z213 := Tryz.sizeOf158
 t232 := Tryz.underlying172
 a232 := Tryz.isAgg172
 z232 := Tryz.sizeOf172
 v232 := Tryz.zeroValue172
 t233 := Tryz.underlying173
 a233 := Tryz.isAgg173
 z233 := Tryz.sizeOf173
 v233 := Tryz.zeroValue173
 g17 := by kernel_rfl
 g18 := by kernel_rfl
 g19 := by kernel_rfl
 i0 := by kernel_rfl
 i2 := by kernel_rfl
 i3 := by kernel_rfl
 i4 := by kernel_rfl
 i5 := by kernel_rfl
 i9 := by kernel_rfl
 i20 := by kernel_rfl
 i37 := by kernel_rfl
 i46 := by kernel_rfl
 i51 := by kernel_rfl
 i53 := by kernel_rfl
 i171 := by kernel_rfl
 i173 := by kernel_rfl
 i212 := by kernel_rfl
 i232 := by kernel_rfl
 i233 := by kernel_rfl
 m17 := by kernel_rfl
 m18 := by kernel_rfl
 m19 := by kernel_rfl }
def Tryz.laysC172_ren : Go.Shelf.Ren := ⟨fun | 172 => 37 | 244 => 63 | 245 => 64 | 247 => 79 | 279 => 80 | 280 => 81 | 281 => 82 | 282 => 83 | 287 => 94 | 316 => 95 | 171 => 31 | 205 => 96 | 321 => 107 | 322 => 108 | 243 => 59 | 246 => 75 | 283 => 86 | 284 => 87 | 285 => 88 | 286 => 89 | 129 => 98 | 317 => 97 | 318 => 99 | 319 => 100 | 320 => 101 | 337 => 109 | 338 => 110 | n => n, fun | 9 => 9 | 3 => 3 | 75 => 72 | 76 => 73 | 4 => 4 | 5 => 5 | 167 => 132 | 37 => 68 | 0 => 0 | 85 => 133 | 2 => 2 | 168 => 135 | 53 => 62 | 175 => 149 | 46 => 110 | 210 => 153 | 127 => 114 | 145 => 164 | 143 => 162 | 21 => 21 | 171 => 140 | 173 => 143 | 212 => 156 | 51 => 157 | 20 => 20 | 213 => 158 | 232 => 172 | 233 => 173 | 80 => 77 | n => n, fun | 15 => 0 | 16 => 1 | 17 => 2 | 18 => 6 | 19 => 7 | n => n⟩
theorem Tryz.laysC172 : Go.Proofs.LaysC.n172 Tryz.prog Tryz.laysC172_ren := {
 mixed := by kernel_rfl
 f129 := Tryz.func98.trans (congrArg some (by kernel_rfl))
 f171 := Tryz.func31.trans (congrArg some (by kernel_rfl))
 f172 := Tryz.func37.trans (congrArg some (by kernel_rfl))
 f205 := Tryz.func96.trans (congrArg some (by kernel_rfl))
 f243 := Tryz.func59.trans (congrArg some (by kernel_rfl))
 f244 := Tryz.func63.trans (congrArg some (by kernel_rfl))
 f245 := Tryz.func64.trans (congrArg some (by kernel_rfl))
 f246 := Tryz.func75.trans (congrArg some (by kernel_rfl))
 f247 := Tryz.func79.trans (congrArg some (by kernel_rfl))
 f279 := Tryz.func80.trans (congrArg some (by kernel_rfl))
 f280 := Tryz.func81.trans (congrArg some (by kernel_rfl))
 f281 := Tryz.func82.trans (congrArg some (by kernel_rfl))
 f282 := Tryz.func83.trans (congrArg some (by kernel_rfl))
 f283 := Tryz.func86.trans (congrArg some (by kernel_rfl))
 f284 := Tryz.func87.trans (congrArg some (by kernel_rfl))
 f285 := Tryz.func88.trans (congrArg some (by kernel_rfl))
 f286 := Tryz.func89.trans (congrArg some (by kernel_rfl))
 f287 := Tryz.func94.trans (congrArg some (by kernel_rfl))
 f316 := Tryz.func95.trans (congrArg some (by kernel_rfl))
 f317 := Tryz.func97.trans (congrArg some (by kernel_rfl))
 f318 := Tryz.func99.trans (congrArg some (by kernel_rfl))
 f319 := Tryz.func100.trans (congrArg some (by kernel_rfl))
 f320 := Tryz.func101.trans (congrArg some (by kernel_rfl))
 f321 := Tryz.func107.trans (congrArg some (by kernel_rfl))
 f322 := Tryz.func108.trans (congrArg some (by kernel_rfl))
 f337 := Tryz.func109.trans (congrArg some (by kernel_rfl))
 f338 := Tryz.func110.trans (congrArg some (by kernel_rfl))
 t0 := Tryz.underlying0
 a0 := Tryz.isAgg0
 z0 := Tryz.sizeOf0
 v0 := Tryz.zeroValue0
 t2 := Tryz.underlying2
 a2 := Tryz.isAgg2
 z2 := Tryz.sizeOf2
 v2 := Tryz.zeroValue2
 t3 := Tryz.underlying3
 a3 := Tryz.isAgg3
 z3 := Tryz.sizeOf3
 v3 := Tryz.zeroValue3
 t4 := Tryz.underlying4
 a4 := Tryz.isAgg4
 z4 := Tryz.sizeOf4
 v4 := Tryz.zeroValue4
 t5 := Tryz.underlying5
 a5 := Tryz.isAgg5
 z5 := Tryz.sizeOf5
 v5 := Tryz.zeroValue5
 t9 := Tryz.underlying9
 a9 := Tryz.isAgg9
 z9 := Tryz.sizeOf9
 v9 := Tryz.zeroValue9
 t20 := Tryz.underlying20
 a20 := Tryz.isAgg20
 z20 := Tryz.sizeOf20
 v20 := Tryz.zeroValue20
 t21 := Tryz.underlying21
 a21 := Tryz.isAgg21
 z21 := Tryz.sizeOf21
 v21 := Tryz.zeroValue21
 t37 := Tryz.underlying68
 a37 := Tryz.isAgg68
 z37 := Tryz.sizeOf68
 v37 := Tryz.zeroValue68
 t46 := Tryz.underlying110
 a46 := Tryz.isAgg110
 z46 := Tryz.sizeOf110
 v46 := Tryz.zeroValue110
 t51 := Tryz.underlying157
 a51 := Tryz.isAgg157
 z51 := Tryz.sizeOf157
 v51 := Tryz.zeroValue157
 t53 := Tryz.underlying62
 a53 := Tryz.isAgg62
 z53 := Tryz.sizeOf62
 v53 := Tryz.zeroValue62
 t75 := Tryz.underlying72
 a75 := Tryz.isAgg72
 z75 := Tryz.sizeOf72
 v75 := Tryz.zeroValue72
 t76 := Tryz.underlying73
 a76 := Tryz.isAgg73
 z76 := Tryz.sizeOf73
 v76 := Tryz.zeroValue73
 t85 := Tryz.underlying133
 a85 := Tryz.isAgg133
 z85 := Tryz.sizeOf133
 v85 := Tryz.zeroValue133
 t127 := Tryz.underlying114
 a127 := Tryz.isAgg114
 z127 := Tryz.sizeOf114
 v127 := Tryz.zeroValue114
 t143 := Tryz.underlying162
 a143 := Tryz.isAgg162
 z143 := Tryz.sizeOf162
 v143 := Tryz.zeroValue162
 t145 := Tryz.underlying164
 a145 := Tryz.isAgg164
 z145 := Tryz.sizeOf164
 v145 := Tryz.zeroValue164
 t167 := Tryz.underlying132
 a167 := Tryz.isAgg132
 z167 := Tryz.sizeOf132
 v167 := Tryz.zeroValue132
 t168 := Tryz.underlying135
 a168 := Tryz.isAgg135
 z168 := Tryz.sizeOf135
 v168 := Tryz.zeroValue135
 t171 := Tryz.underlying140
 a171 := Tryz.isAgg140
 z171 := Tryz.sizeOf140
 v171 := Tryz.zeroValue140
 t173 := Tryz.underlying143
 a173 := Tryz.isAgg143
 z173 := Tryz.sizeOf143
 v173 := Tryz.zeroValue143
 t175 := Tryz.underlying149
 a175 := Tryz.isAgg149
 z175 := Tryz.sizeOf149
 v175 := Tryz.zeroValue149
 t210 := Tryz.underlying153
 a210 := Tryz.isAgg153
 z210 := Tryz.sizeOf153
 v210 := Tryz.zeroValue153
 t212 := Tryz.underlying156
 a212 := Tryz.isAgg156
 z212 := Tryz.sizeOf156
 v212 := Tryz.zeroValue156
 t213 := Tryz.underlying158
 a213 := Tryz.isAgg158
 z213 := Tryz.sizeOf158
 t232 := Tryz.underlying172
 a232 := Tryz.isAgg172
 z232 := Tryz.sizeOf172
 v232 := Tryz.zeroValue172
 t233 := Tryz.underlying173
 a233 := Tryz.isAgg173
 z233 := Tryz.sizeOf173
 v233 := Tryz.zeroValue173
 g15 := by kernel_rfl
 g16 := by kernel_rfl
 g17 := by kernel_rfl
 g18 := by kernel_rfl
 g19 := by kernel_rfl
 t80 := Tryz.underlying77
 a80 := Tryz.isAgg77
 z80 := Tryz.sizeOf77
 v80 := Tryz.zeroValue77
 i0 := by kernel_rfl
 i2 := by kernel_rfl
 i3 := by kernel_rfl
 i4 := by kernel_rfl
 i5 := by kernel_rfl
 i9 := by kernel_rfl
 i20 := by kernel_rfl
 i21 := by kernel_rfl
 i37 := by kernel_rfl
 i46 := by kernel_rfl
 i51 := by kernel_rfl
 i53 := by kernel_rfl
 i75 := by kernel_rfl
 i76 := by kernel_rfl
 i80 := by kernel_rfl
 i85 := by kernel_rfl
 i127 := by kernel_rfl
 i143 := by kernel_rfl
 i145 := by kernel_rfl
 i167 := by kernel_rfl
 i168 := by kernel_rfl
 i171 := by kernel_rfl
 i173 := by kernel_rfl
 i175 := by kernel_rfl
 i210 := by kernel_rfl
 i212 := by kernel_rfl
 i232 := by kernel_rfl
 i233 := by kernel_rfl
 m15 := by kernel_rfl
 m16 := by kernel_rfl
 m17 := by kernel_rfl
 m18 := by kernel_rfl
 m19 := by kernel_rfl
 c0 := by kernel_rfl
 c2 := by kernel_rfl
 c3 := by kernel_rfl
 c4 := by kernel_rfl
 c5 := by kernel_rfl
 c9 := by kernel_rfl
 c20 := by kernel_rfl
 c21 := by kernel_rfl
 c37 := by kernel_rfl
 c46 := by kernel_rfl
 c51 := by kernel_rfl
 c53 := by kernel_rfl
 c75 := by kernel_rfl
 c76 := by kernel_rfl
 c80 := by kernel_rfl
 c85 := by kernel_rfl
 c127 := by kernel_rfl
 c143 := by kernel_rfl
 c145 := by kernel_rfl
 c167 := by kernel_rfl
 c168 := by kernel_rfl
 c171 := by kernel_rfl
 c173 := by kernel_rfl
 c175 := by kernel_rfl
 c210 := by kernel_rfl
 c212 := by kernel_rfl
 c213 := by kernel_rfl
 c232 := by kernel_rfl
 c233 := by kernel_rfl }
def Tryz.lays146_ren : Go.Shelf.Ren := ⟨fun | 146 => 36 | 221 => 62 | 268 => 76 | 138 => 77 | 143 => 78 | 195 => 90 | 197 => 91 | 218 => 92 | 219 => 93 | 260 => 102 | 217 => 103 | 225 => 104 | 224 => 105 | 267 => 106 | 266 => 111 | 314 => 112 | n => n, fun | 9 => 9 | 31 => 33 | 3 => 3 | 4 => 4 | 0 => 0 | 105 => 146 | 21 => 21 | 5 => 5 | 46 => 110 | 119 => 166 | 139 => 169 | 138 => 168 | 146 => 170 | 51 => 157 | n => n, fun | 1 => 3 | 3 => 4 | 4 => 5 | n => n⟩
theorem Tryz.lays146 : Go.Proofs.Lays.n146 Tryz.prog Tryz.lays146_ren := {
 mixed := by kernel_rfl
 f138 := Tryz.func77.trans (congrArg some (by kernel_rfl))
 f143 := Tryz.func78.trans (congrArg some (by kernel_rfl))
 f146 := Tryz.func36.trans (congrArg some (by kernel_rfl))
 f195 := Tryz.func90.trans (congrArg some (by kernel_rfl))
 f197 := Tryz.func91.trans (congrArg some (by kernel_rfl))
 f217 := Tryz.func103.trans (congrArg some (by kernel_rfl))
 f218 := Tryz.func92.trans (congrArg some (by kernel_rfl))
 f219 := Tryz.func93.trans (congrArg some (by kernel_rfl))
 f221 := Tryz.func62.trans (congrArg some (by kernel_rfl))
 f224 := Tryz.func105.trans (congrArg some (by kernel_rfl))
 f225 := Tryz.func104.trans (congrArg some (by kernel_rfl))
 f260 := Tryz.func102.trans (congrArg some (by kernel_rfl))
 f266 := Tryz.func111.trans (congrArg some (by kernel_rfl))
 f267 := Tryz.func106.trans (congrArg some (by kernel_rfl))
 f268 := Tryz.func76.trans (congrArg some (by kernel_rfl))
 f314 := Tryz.func112.trans (congrArg some (by kernel_rfl))
 t0 := Tryz.underlying0
 a0 := Tryz.isAgg0
 z0 := Tryz.sizeOf0
 v0 := Tryz.zeroValue0
 t3 := Tryz.underlying3
 a3 := Tryz.isAgg3
 z3 := Tryz.sizeOf3
 v3 := Tryz.zeroValue3
 t4 := Tryz.underlying4
 a4 := Tryz.isAgg4
 z4 := Tryz.sizeOf4
 v4 := Tryz.zeroValue4
 t5 := Tryz.underlying5
 a5 := Tryz.isAgg5
 z5 := Tryz.sizeOf5
 v5 := Tryz.zeroValue5
 t9 := Tryz.underlying9
 a9 := Tryz.isAgg9
 z9 := Tryz.sizeOf9
 v9 := Tryz.zeroValue9
 t21 := Tryz.underlying21
 a21 := Tryz.isAgg21
 z21 := Tryz.sizeOf21
 v21 := Tryz.zeroValue21
 t31 := Tryz.underlying33
 a31 := Tryz.isAgg33
 z31 := Tryz.sizeOf33
 v31 := Tryz.zeroValue33
 t46 := Tryz.underlying110
 a46 := Tryz.isAgg110
 z46 := Tryz.sizeOf110
 v46 := Tryz.zeroValue110
 t51 := Tryz.underlying157
 a51 := Tryz.isAgg157
 z51 := Tryz.sizeOf157
 v51 := Tryz.zeroValue157
 t105 := Tryz.underlying146
 a105 := Tryz.isAgg146
 z105 := Tryz.sizeOf146
 v105 := Tryz.zeroValue146
 t119 := Tryz.underlying166
 a119 := Tryz.isAgg166
 z119 := Tryz.sizeOf166
 t138 := Tryz.underlying168
 a138 := Tryz.isAgg168
 z138 := Tryz.sizeOf168
 v138 := Tryz.zeroValue168
 t139 := Tryz.underlying169
 a139 := Tryz.isAgg169
 z139 := Tryz.sizeOf169
 v139 := Tryz.zeroValue169
 t146 := Tryz.underlying170
 a146 := Tryz.isAgg170
 z146 := Tryz.sizeOf170
 v146 := Tryz.zeroValue170
 g1 := by kernel_rfl
 g3 := by kernel_rfl
 g4 := by kernel_rfl }
def Tryz.lays240_ren : Go.Shelf.Ren := ⟨fun | 240 => 58 | 276 => 74 | n => n, fun | 0 => 0 | 37 => 68 | 4 => 4 | 9 => 9 | 20 => 20 | 70 => 67 | 72 => 70 | 164 => 127 | n => n, fun | n => n⟩
theorem Tryz.lays240 : Go.Proofs.Lays.n240 Tryz.prog Tryz.lays240_ren := {
 mixed := by kernel_rfl
 f240 := Tryz.func58.trans (congrArg some (by kernel_rfl))
 f276 := Tryz.func74.trans (congrArg some (by kernel_rfl))
 t0 := Tryz.underlying0
 a0 := Tryz.isAgg0
 z0 := Tryz.sizeOf0
 v0 := Tryz.zeroValue0
 t4 := Tryz.underlying4
 a4 := Tryz.isAgg4
 z4 := Tryz.sizeOf4
 v4 := Tryz.zeroValue4
 t9 := Tryz.underlying9
 a9 := Tryz.isAgg9
 z9 := Tryz.sizeOf9
 v9 := Tryz.zeroValue9
 t20 := Tryz.underlying20
 a20 := Tryz.isAgg20
 z20 := Tryz.sizeOf20
 v20 := Tryz.zeroValue20
 t70 := Tryz.underlying67
 a70 := Tryz.isAgg67
 z70 := Tryz.sizeOf67
 v70 := Tryz.zeroValue67
 t72 := Tryz.underlying70
 a72 := Tryz.isAgg70
 z72 := Tryz.sizeOf70
 v72 := Tryz.zeroValue70
 t164 := Tryz.underlying127
 a164 := Tryz.isAgg127
 z164 := Tryz.sizeOf127
 v164 := Tryz.zeroValue127
}
theorem Tryz.Builder_X72_240 : Builder.X72 Tryz.prog Tryz.lays240_ren := {
 sizeBuilder := by kernel_rfl
 liesBuilder := by kernel_rfl
}
end Go.Proofs
