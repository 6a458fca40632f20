/- A part of the proofs about the chapter of the vaults; it states no condition of its own. -/
import Derived.Test.YtijcmgfblpokhaaB35
import Derived.Test.YtijcmgfblpokhaaRows
import Derived.OpenShut
import Derived.Deep.RegionHeld3
import Derived.Deep.DrawnRows
import Derived.Deep.QuietTactic
import Derived.BigQuiet
set_option linter.unusedVariables false
set_option linter.unusedSimpArgs false
/- The data of halls and layouts, and how they lie in memory. -/
namespace Go.Proofs.Ytijcmgfblpokhaa
open Go.RowKit

structure Pl where (x y : Int) deriving DecidableEq
structure Sp where (lo hi : Int) deriving DecidableEq
structure Pu where (pl : Pl) (kind : Int) deriving DecidableEq
structure Ki where (lo hi : Int) (water : Bool) (away : List Int) (rent most : Int) deriving DecidableEq
/-- a kind as it lies in memory: its numbers in Away are a slice -/
structure RK where (lo hi : Int) (water : Bool) (aA : Option Addr) (an ac : Nat) (rent most : Int)
structure Ha where (wide deep : Int) (water shut : List Pl) (bay : Pl) (bears : List Int) (kinds : List Ki) deriving DecidableEq
def plC (p : Pl) : List Value := [.int .i64 p.x, .int .i64 p.y]
def spC (p : Sp) : List Value := [.int .i64 p.lo, .int .i64 p.hi]
def puC (p : Pu) : List Value := [.int .i64 p.pl.x, .int .i64 p.pl.y, .int .i64 p.kind]
def RK.av (r : RK) : Value := .slice r.aA r.an r.ac
def rkC (r : RK) : List Value := [.int .i64 r.lo, .int .i64 r.hi, .bool r.water, r.av, .int .i64 r.rent, .int .i64 r.most]
theorem intE : Enc 1 intC := ⟨fun _ => rfl, by intro x u h; simp [intC] at h; subst h; rfl⟩
theorem plE : Enc 2 plC := ⟨fun _ => rfl, by intro x u h; simp [plC] at h; rcases h with rfl | rfl <;> rfl⟩
theorem spE : Enc 2 spC := ⟨fun _ => rfl, by intro x u h; simp [spC] at h; rcases h with rfl | rfl <;> rfl⟩
theorem puE : Enc 3 puC := ⟨fun _ => rfl, by intro x u h; simp [puC] at h; rcases h with rfl | rfl | rfl <;> rfl⟩
theorem rkE : Enc 6 rkC := ⟨fun _ => rfl, by intro x u h; simp [rkC, RK.av] at h; rcases h with rfl | rfl | rfl | rfl | rfl | rfl <;> rfl⟩
theorem intT : ET Try.prog 25 3 1 8 := ET.mk' Try.underlying25 (z := .int .i64 0) (by kernel_rfl) rfl (by decide)
theorem plT : ET Try.prog 22 24 2 16 := ET.mk' Try.underlying22 (z := .agg #[.int .i64 0, .int .i64 0]) (by kernel_rfl) rfl (by decide)
theorem spT : ET Try.prog 45 54 2 16 := ET.mk' Try.underlying45 (z := .agg #[.int .i64 0, .int .i64 0]) (by kernel_rfl) rfl (by decide)
theorem puT : ET Try.prog 38 59 3 24 := ET.mk' Try.underlying38 (z := .agg #[.int .i64 0, .int .i64 0, .int .i64 0]) (by kernel_rfl) rfl (by decide)
theorem rkT : ET Try.prog 26 57 6 64 := ET.mk' Try.underlying26 (z := .agg #[.int .i64 0, .int .i64 0, .bool false, .slice none 0 0, .int .i64 0, .int .i64 0]) (by kernel_rfl) rfl (by decide)
/-- the kinds of a hall -/
def KiAt (w : World) (B : Nat) (raws : List RK) (ks : List Ki) : Prop :=
  raws.length = ks.length ∧ ∀ (i : Nat) (r : RK) (k : Ki), raws[i]? = some r → ks[i]? = some k → r.lo = k.lo ∧ r.hi = k.hi ∧ r.water = k.water ∧ r.rent = k.rent ∧ r.most = k.most ∧ Sl w B 1 intC r.av k.away
theorem KiAt.below {w w' : World} {B B0 B' : Nat} {raws : List RK} {ks : List Ki} (h : KiAt w B raws ks) (hb : Below B0 w w') (hB : B ≤ B0) (hB' : B ≤ B') : KiAt w' B' raws ks :=
  ⟨h.1, fun i r k hr hk => by obtain ⟨a, b, c, d, e, f⟩ := h.2 i r k hr hk; exact ⟨a, b, c, d, e, f.below hb hB hB'⟩⟩
/-- the cells of a hall -/
def haC (wide deep : Int) (vw vs : Value) (bx by_ : Int) (vb vk : Value) : Array Value := #[.int .i64 wide, .int .i64 deep, vw, vs, .int .i64 bx, .int .i64 by_, vb, vk]
structure HaAt (w : World) (B : Nat) (h : Ha) (vw vs vb vk : Value) (raws : List RK) : Prop where
  water : Sl w B 2 plC vw h.water
  shut : Sl w B 2 plC vs h.shut
  bears : Sl w B 1 intC vb h.bears
  kraws : Sl w B 6 rkC vk raws
  kinds : KiAt w B raws h.kinds
theorem HaAt.below {w w' : World} {B B0 B' : Nat} {h : Ha} {vw vs vb vk : Value} {raws : List RK} (H : HaAt w B h vw vs vb vk raws) (hb : Below B0 w w') (hB : B ≤ B0) (hB' : B ≤ B') : HaAt w' B' h vw vs vb vk raws :=
  ⟨H.water.below hb hB hB', H.shut.below hb hB hB', H.bears.below hb hB hB', H.kraws.below hb hB hB', H.kinds.below hb hB hB'⟩
theorem HaAt.drew {w : World} {B : Nat} {h : Ha} {vw vs vb vk : Value} {raws : List RK} (H : HaAt w B h vw vs vb vk raws) : HaAt w.drew B h vw vs vb vk raws := ⟨H.water, H.shut, H.bears, H.kraws, H.kinds⟩
/-- the value of a hall -/
def HaV (w : World) (B : Nat) (v : Value) (h : Ha) : Prop := ∃ vw vs vb vk raws, v = .agg (haC h.wide h.deep vw vs h.bay.x h.bay.y vb vk) ∧ HaAt w B h vw vs vb vk raws
theorem HaV.below {w w' : World} {B B0 B' : Nat} {v : Value} {h : Ha} (H : HaV w B v h) (hb : Below B0 w w') (hB : B ≤ B0) (hB' : B ≤ B') : HaV w' B' v h := by
  obtain ⟨vw, vs, vb, vk, raws, e, H⟩ := H
  exact ⟨vw, vs, vb, vk, raws, e, H.below hb hB hB'⟩
theorem one2 {α : Type} {w : World} {b off k : Nat} {enc : α → List Value} {xs : List α} (h : ∀ i x, xs[i]? = some x → ∀ j u, (enc x)[j]? = some u → w.cell? ⟨b, off + i * k + j, none⟩ = some u) {i : Nat} (hi : i < xs.length) :
    ∀ j u, (enc xs[i])[j]? = some u → w.cell? ⟨b, off + i * k + j, none⟩ = some u := h i xs[i] (List.getElem?_eq_getElem hi)
set_option maxHeartbeats 400000 in
theorem copyints_any (w : World) (v : Value) (xs : List Int) (B : Nat) (hs : Sl w B 1 intC v xs) (hB : B ≤ w.heap.size) (hl : xs.length ≤ 1000000) :
    Calls Try.prog 62 #[v] w (RetX (fun v' w' => Own w' w.heap.size 3 1 intC v' xs) w) := by
  obtain ⟨A, c, rfl, hc, hc2, hg⟩ := hs.open_
  clear hg
  go_enter Try.func62, Try.ntmps62
  go_wp2_with (at_builtin; refine wpList_app rfl _ _ rfl intT intE (by rfl) (by rfl) (Own.empty (Blk.new w _ _) (Nat.le_refl _)) (hs.alloc hB (Nat.le_refl _) _) (by simp [maxLen]; omega) (by simp; omega) (by simp) ?_; intro v' w1 hown hgrow hat)
  go_ret
  exact ⟨_, rfl, hown, ((Below.refl _ w).alloc (Nat.le_refl _) _).trans ((Own.empty (Blk.new w _ _) (Nat.le_refl _) : Own _ w.heap.size 3 1 intC _ []).grown_below hgrow (by simp))⟩
set_option maxHeartbeats 400000 in
theorem copylayout_any (w : World) (v : Value) (xs : List Pu) (B : Nat) (hs : Sl w B 3 puC v xs) (hB : B ≤ w.heap.size) (hl : xs.length ≤ 1000000) :
    Calls Try.prog 31 #[v] w (RetX (fun v' w' => Own w' w.heap.size 59 3 puC v' xs) w) := by
  obtain ⟨A, c, rfl, hc, hc2, hg⟩ := hs.open_
  clear hg
  go_enter Try.func31, Try.ntmps31
  go_wp2_with (at_builtin; refine wpList_app rfl _ _ rfl puT puE (by rfl) (by rfl) (Own.empty (Blk.new w _ _) (Nat.le_refl _)) (hs.alloc hB (Nat.le_refl _) _) (by simp [maxLen]; omega) (by simp; omega) (by simp) ?_; intro v' w1 hown hgrow hat)
  go_ret
  exact ⟨_, rfl, hown, ((Below.refl _ w).alloc (Nat.le_refl _) _).trans ((Own.empty (Blk.new w _ _) (Nat.le_refl _) : Own _ w.heap.size 59 3 puC _ []).grown_below hgrow (by simp))⟩
theorem eq_Pl (x y : Pl) (w : World) : (binOp .eql 24 (.agg #[.int .i64 x.x, .int .i64 x.y]) (.agg #[.int .i64 y.x, .int .i64 y.y])).run Try.prog w = .ok (.bool (decide (x = y))) w := by
  have u3 := Try.underlying3
  have a3 := Try.isAgg3
  have z3 := Try.sizeOf3
  have hS : Try.prog.underlying 24 = some (.struct (Try.prog.fieldsOf 24)) := by kernel_rfl
  have hp : Try.prog.stoodInHeld 24 = false := by kernel_rfl
  rw [run_eql_struct, show (10000 : Nat) = 9999 + 1 from rfl, run_equalIn_agg w 9999 _ _ _ hS hp]
  simp only [Program.fieldsOf, Try.underlying24]
  go_simp
  obtain ⟨a, b⟩ := x
  obtain ⟨c, d⟩ := y
  by_cases h1 : a = c <;> by_cases h2 : b = d <;> simp [h1, h2]
theorem eq_Sp (x y : Sp) (w : World) : (binOp .eql 54 (.agg #[.int .i64 x.lo, .int .i64 x.hi]) (.agg #[.int .i64 y.lo, .int .i64 y.hi])).run Try.prog w = .ok (.bool (decide (x = y))) w := by
  have u3 := Try.underlying3
  have a3 := Try.isAgg3
  have z3 := Try.sizeOf3
  have hS : Try.prog.underlying 54 = some (.struct (Try.prog.fieldsOf 54)) := by kernel_rfl
  have hp : Try.prog.stoodInHeld 54 = false := by kernel_rfl
  rw [run_eql_struct, show (10000 : Nat) = 9999 + 1 from rfl, run_equalIn_agg w 9999 _ _ _ hS hp]
  simp only [Program.fieldsOf, Try.underlying54]
  go_simp
  obtain ⟨a, b⟩ := x
  obtain ⟨c, d⟩ := y
  by_cases h1 : a = c <;> by_cases h2 : b = d <;> simp [h1, h2]
theorem eqIn_Pl (d : Nat) (x y : Pl) (w : World) : (Op.equalIn (d + 2) 24 (.agg #[.int .i64 x.x, .int .i64 x.y]) (.agg #[.int .i64 y.x, .int .i64 y.y])).run Try.prog w = .ok (decide (x = y)) w := by
  have u3 := Try.underlying3
  have a3 := Try.isAgg3
  have z3 := Try.sizeOf3
  have hS : Try.prog.underlying 24 = some (.struct (Try.prog.fieldsOf 24)) := by kernel_rfl
  have hp : Try.prog.stoodInHeld 24 = false := by kernel_rfl
  rw [run_equalIn_agg w (d + 1) _ _ _ hS hp]
  simp only [Program.fieldsOf, Try.underlying24]
  go_simp
  obtain ⟨a, b⟩ := x
  obtain ⟨c, d⟩ := y
  by_cases h1 : a = c <;> by_cases h2 : b = d <;> simp [h1, h2]
theorem eq_Pu (x y : Pu) (w : World) : (binOp .eql 59 (.agg #[.int .i64 x.pl.x, .int .i64 x.pl.y, .int .i64 x.kind]) (.agg #[.int .i64 y.pl.x, .int .i64 y.pl.y, .int .i64 y.kind])).run Try.prog w = .ok (.bool (decide (x = y))) w := by
  have u3 := Try.underlying3
  have a3 := Try.isAgg3
  have z3 := Try.sizeOf3
  have a24 := Try.isAgg24
  have z24 := Try.sizeOf24
  have hIn := fun d w => eqIn_Pl d x.pl y.pl w
  have hS : Try.prog.underlying 59 = some (.struct (Try.prog.fieldsOf 59)) := by kernel_rfl
  have hp : Try.prog.stoodInHeld 59 = false := by kernel_rfl
  rw [run_eql_struct]
  generalize hd : (10000 : Nat) = d
  obtain ⟨d, rfl⟩ : ∃ e, d = e + 3 := ⟨9997, by omega⟩
  clear hd
  rw [run_equalIn_agg w (d + 2) _ _ _ hS hp]
  simp only [Program.fieldsOf, Try.underlying59]
  clear hS hp
  go_simp
  obtain ⟨⟨a, b⟩, k⟩ := x
  obtain ⟨⟨c, d⟩, l⟩ := y
  by_cases h1 : a = c <;> by_cases h2 : b = d <;> by_cases h3 : k = l <;> simp [h1, h2, h3]
set_option maxHeartbeats 1000000 in
set_option maxRecDepth 100000 in
theorem sameints_any (w : World) (v u : Value) (xs ys : List Int) (B : Nat) (hs : Sl w B 1 intC v xs) (ht : Sl w B 1 intC u ys) :
    Calls Try.prog 71 #[v, u] w fun e w' => e = .returned (.bool (decide (xs = ys))) ∧ ∃ n, w' = w.drewN n := by
  obtain ⟨A, c, rfl, hc, hc2, hg⟩ := hs.open_
  obtain ⟨A', c', rfl, hc', hc2', hg'⟩ := ht.open_
  unfold maxLen at hc2 hc2'
  go_enter Try.func71, Try.ntmps71
  go_wp2_with fail
  go_loopw [5, 6] (fun s i wr => ∃ (k : Nat) (b : Bool), s = .bool b ∧ i = .int .i64 k ∧ k ≤ xs.length ∧ Hid (b = decide (xs.length = ys.length ∧ xs.take k = ys.take k)) ∧ ∃ n, wr = w.drewN n) (fun _ i _ => xs.length - (intOf i).toNat)
  case atStart => exact ⟨0, _, rfl, rfl, Nat.zero_le _, by unfold Hid; rw [Bool.eq_iff_iff]; simp; omega, 0, rfl⟩
  case round =>
    obtain ⟨k, b, rfl, rfl, hk, hb, n, rfl⟩ := hrel
    cases b with
    | false =>
      have hne : xs ≠ ys := by
        rintro rfl
        have := hb.out
        simp at this
      go_wp2_with fail
      go_ret
      exact ⟨by simp [hne], n, rfl⟩
    | true =>
      have hb' : xs.length = ys.length ∧ xs.take k = ys.take k := by have := hb.out; simpa using this
      have hl := hb'.1
      have ht := hb'.2
      have Hl := Lib.hid hl
      have Ht := Lib.hid ht
      clear hl ht hb hb'
      by_cases hlt : k < xs.length
      · obtain ⟨b1, o1, rfl, hb1, g1⟩ := hg (by omega)
        obtain ⟨b2, o2, rfl, hb2, g2⟩ := hg' (by rw [← Hl.out]; omega)
        have hlt2 : k < ys.length := by rw [← Hl.out]; omega
        have hk0 : (0 : Int) ≤ k := by omega
        have hk1 : (k : Int) < xs.length := by omega
        have hk2 : (k : Int) < ys.length := by omega
        obtain ⟨x, hx⟩ : ∃ x, x = xs[k] := ⟨_, rfl⟩
        obtain ⟨y, hy⟩ : ∃ y, y = ys[k] := ⟨_, rfl⟩
        have q1 := one2 g1 hlt
        have q2 := one2 g2 hlt2
        rw [← hx] at q1
        rw [← hy] at q2
        have c10 : w.cell? ⟨b1, o1 + k, none⟩ = some (.int .i64 x) := by have := q1 0 (.int .i64 x) rfl; simpa using this
        have c20 : w.cell? ⟨b2, o2 + k, none⟩ = some (.int .i64 y) := by have := q2 0 (.int .i64 y) rfl; simpa using this
        have Hx := Lib.hid hx
        have Hy := Lib.hid hy
        clear hx hy q1 q2 g1 g2

        go_wp2_with fail
        go_quiet (fail)
        go_wp2_with fail
        go_roundw
        case rel =>
          refine ⟨k + 1, decide (x = y), by first | rfl | (congr 1; rw [Bool.eq_iff_iff]; simp), by go_num, by omega, ?_, _, rfl⟩
          unfold Hid
          rw [Bool.eq_iff_iff]
          simp only [decide_eq_true_eq]
          rw [List.take_succ_eq_append_getElem hlt, List.take_succ_eq_append_getElem hlt2, ← Hx.out, ← Hy.out, Ht.out]
          simp [Hl.out]
        case measure => simp [intOf]; omega
      · go_wp2_with fail
        go_ret
        obtain rfl : k = xs.length := by omega
        refine ⟨?_, n, rfl⟩
        have := Ht.out
        rw [List.take_of_length_le (Nat.le_refl _), List.take_of_length_le (by rw [Hl.out]; exact Nat.le_refl _)] at this
        simp [this]
set_option maxHeartbeats 1000000 in
set_option maxRecDepth 100000 in
theorem samecells_any (w : World) (v u : Value) (xs ys : List Pl) (B : Nat) (hs : Sl w B 2 plC v xs) (ht : Sl w B 2 plC u ys) :
    Calls Try.prog 52 #[v, u] w fun e w' => e = .returned (.bool (decide (xs = ys))) ∧ ∃ n, w' = w.drewN n := by
  obtain ⟨A, c, rfl, hc, hc2, hg⟩ := hs.open_
  obtain ⟨A', c', rfl, hc', hc2', hg'⟩ := ht.open_
  unfold maxLen at hc2 hc2'
  go_enter Try.func52, Try.ntmps52
  go_wp2_with fail
  go_loopw [5, 6] (fun s i wr => ∃ (k : Nat) (b : Bool), s = .bool b ∧ i = .int .i64 k ∧ k ≤ xs.length ∧ Hid (b = decide (xs.length = ys.length ∧ xs.take k = ys.take k)) ∧ ∃ n, wr = w.drewN n) (fun _ i _ => xs.length - (intOf i).toNat)
  case atStart => exact ⟨0, _, rfl, rfl, Nat.zero_le _, by unfold Hid; rw [Bool.eq_iff_iff]; simp; omega, 0, rfl⟩
  case round =>
    obtain ⟨k, b, rfl, rfl, hk, hb, n, rfl⟩ := hrel
    cases b with
    | false =>
      have hne : xs ≠ ys := by
        rintro rfl
        have := hb.out
        simp at this
      go_wp2_with fail
      go_ret
      exact ⟨by simp [hne], n, rfl⟩
    | true =>
      have hb' : xs.length = ys.length ∧ xs.take k = ys.take k := by have := hb.out; simpa using this
      have hl := hb'.1
      have ht := hb'.2
      have Hl := Lib.hid hl
      have Ht := Lib.hid ht
      clear hl ht hb hb'
      by_cases hlt : k < xs.length
      · obtain ⟨b1, o1, rfl, hb1, g1⟩ := hg (by omega)
        obtain ⟨b2, o2, rfl, hb2, g2⟩ := hg' (by rw [← Hl.out]; omega)
        have hlt2 : k < ys.length := by rw [← Hl.out]; omega
        have hk0 : (0 : Int) ≤ k := by omega
        have hk1 : (k : Int) < xs.length := by omega
        have hk2 : (k : Int) < ys.length := by omega
        obtain ⟨x, hx⟩ : ∃ x, x = xs[k] := ⟨_, rfl⟩
        obtain ⟨y, hy⟩ : ∃ y, y = ys[k] := ⟨_, rfl⟩
        have q1 := one2 g1 hlt
        have q2 := one2 g2 hlt2
        rw [← hx] at q1
        rw [← hy] at q2
        have c10 : w.cell? ⟨b1, o1 + k * 2, none⟩ = some (.int .i64 x.x) := by have := q1 0 (.int .i64 x.x) rfl; simpa using this
        have c11 : w.cell? ⟨b1, o1 + k * 2 + 1, none⟩ = some (.int .i64 x.y) := by have := q1 1 (.int .i64 x.y) rfl; simpa using this
        have c20 : w.cell? ⟨b2, o2 + k * 2, none⟩ = some (.int .i64 y.x) := by have := q2 0 (.int .i64 y.x) rfl; simpa using this
        have c21 : w.cell? ⟨b2, o2 + k * 2 + 1, none⟩ = some (.int .i64 y.y) := by have := q2 1 (.int .i64 y.y) rfl; simpa using this
        have Hx := Lib.hid hx
        have Hy := Lib.hid hy
        clear hx hy q1 q2 g1 g2
        have hE := eq_Pl x y
        go_wp2_with fail
        go_quiet (fail)
        go_wp2_with fail
        go_roundw
        case rel =>
          refine ⟨k + 1, decide (x = y), by first | rfl | (congr 1; rw [Bool.eq_iff_iff]; simp), by go_num, by omega, ?_, _, rfl⟩
          unfold Hid
          rw [Bool.eq_iff_iff]
          simp only [decide_eq_true_eq]
          rw [List.take_succ_eq_append_getElem hlt, List.take_succ_eq_append_getElem hlt2, ← Hx.out, ← Hy.out, Ht.out]
          simp [Hl.out]
        case measure => simp [intOf]; omega
      · go_wp2_with fail
        go_ret
        obtain rfl : k = xs.length := by omega
        refine ⟨?_, n, rfl⟩
        have := Ht.out
        rw [List.take_of_length_le (Nat.le_refl _), List.take_of_length_le (by rw [Hl.out]; exact Nat.le_refl _)] at this
        simp [this]
set_option maxHeartbeats 1000000 in
set_option maxRecDepth 100000 in
theorem samespans_any (w : World) (v u : Value) (xs ys : List Sp) (B : Nat) (hs : Sl w B 2 spC v xs) (ht : Sl w B 2 spC u ys) :
    Calls Try.prog 39 #[v, u] w fun e w' => e = .returned (.bool (decide (xs = ys))) ∧ ∃ n, w' = w.drewN n := by
  obtain ⟨A, c, rfl, hc, hc2, hg⟩ := hs.open_
  obtain ⟨A', c', rfl, hc', hc2', hg'⟩ := ht.open_
  unfold maxLen at hc2 hc2'
  go_enter Try.func39, Try.ntmps39
  go_wp2_with fail
  go_loopw [5, 6] (fun s i wr => ∃ (k : Nat) (b : Bool), s = .bool b ∧ i = .int .i64 k ∧ k ≤ xs.length ∧ Hid (b = decide (xs.length = ys.length ∧ xs.take k = ys.take k)) ∧ ∃ n, wr = w.drewN n) (fun _ i _ => xs.length - (intOf i).toNat)
  case atStart => exact ⟨0, _, rfl, rfl, Nat.zero_le _, by unfold Hid; rw [Bool.eq_iff_iff]; simp; omega, 0, rfl⟩
  case round =>
    obtain ⟨k, b, rfl, rfl, hk, hb, n, rfl⟩ := hrel
    cases b with
    | false =>
      have hne : xs ≠ ys := by
        rintro rfl
        have := hb.out
        simp at this
      go_wp2_with fail
      go_ret
      exact ⟨by simp [hne], n, rfl⟩
    | true =>
      have hb' : xs.length = ys.length ∧ xs.take k = ys.take k := by have := hb.out; simpa using this
      have hl := hb'.1
      have ht := hb'.2
      have Hl := Lib.hid hl
      have Ht := Lib.hid ht
      clear hl ht hb hb'
      by_cases hlt : k < xs.length
      · obtain ⟨b1, o1, rfl, hb1, g1⟩ := hg (by omega)
        obtain ⟨b2, o2, rfl, hb2, g2⟩ := hg' (by rw [← Hl.out]; omega)
        have hlt2 : k < ys.length := by rw [← Hl.out]; omega
        have hk0 : (0 : Int) ≤ k := by omega
        have hk1 : (k : Int) < xs.length := by omega
        have hk2 : (k : Int) < ys.length := by omega
        obtain ⟨x, hx⟩ : ∃ x, x = xs[k] := ⟨_, rfl⟩
        obtain ⟨y, hy⟩ : ∃ y, y = ys[k] := ⟨_, rfl⟩
        have q1 := one2 g1 hlt
        have q2 := one2 g2 hlt2
        rw [← hx] at q1
        rw [← hy] at q2
        have c10 : w.cell? ⟨b1, o1 + k * 2, none⟩ = some (.int .i64 x.lo) := by have := q1 0 (.int .i64 x.lo) rfl; simpa using this
        have c11 : w.cell? ⟨b1, o1 + k * 2 + 1, none⟩ = some (.int .i64 x.hi) := by have := q1 1 (.int .i64 x.hi) rfl; simpa using this
        have c20 : w.cell? ⟨b2, o2 + k * 2, none⟩ = some (.int .i64 y.lo) := by have := q2 0 (.int .i64 y.lo) rfl; simpa using this
        have c21 : w.cell? ⟨b2, o2 + k * 2 + 1, none⟩ = some (.int .i64 y.hi) := by have := q2 1 (.int .i64 y.hi) rfl; simpa using this
        have Hx := Lib.hid hx
        have Hy := Lib.hid hy
        clear hx hy q1 q2 g1 g2
        have hE := eq_Sp x y
        go_wp2_with fail
        go_quiet (fail)
        go_wp2_with fail
        go_roundw
        case rel =>
          refine ⟨k + 1, decide (x = y), by first | rfl | (congr 1; rw [Bool.eq_iff_iff]; simp), by go_num, by omega, ?_, _, rfl⟩
          unfold Hid
          rw [Bool.eq_iff_iff]
          simp only [decide_eq_true_eq]
          rw [List.take_succ_eq_append_getElem hlt, List.take_succ_eq_append_getElem hlt2, ← Hx.out, ← Hy.out, Ht.out]
          simp [Hl.out]
        case measure => simp [intOf]; omega
      · go_wp2_with fail
        go_ret
        obtain rfl : k = xs.length := by omega
        refine ⟨?_, n, rfl⟩
        have := Ht.out
        rw [List.take_of_length_le (Nat.le_refl _), List.take_of_length_le (by rw [Hl.out]; exact Nat.le_refl _)] at this
        simp [this]
set_option maxHeartbeats 1000000 in
set_option maxRecDepth 100000 in
theorem sameputs_any (w : World) (v u : Value) (xs ys : List Pu) (B : Nat) (hs : Sl w B 3 puC v xs) (ht : Sl w B 3 puC u ys) :
    Calls Try.prog 21 #[v, u] w fun e w' => e = .returned (.bool (decide (xs = ys))) ∧ ∃ n, w' = w.drewN n := by
  obtain ⟨A, c, rfl, hc, hc2, hg⟩ := hs.open_
  obtain ⟨A', c', rfl, hc', hc2', hg'⟩ := ht.open_
  unfold maxLen at hc2 hc2'
  go_enter Try.func21, Try.ntmps21
  go_wp2_with fail
  go_loopw [5, 6] (fun s i wr => ∃ (k : Nat) (b : Bool), s = .bool b ∧ i = .int .i64 k ∧ k ≤ xs.length ∧ Hid (b = decide (xs.length = ys.length ∧ xs.take k = ys.take k)) ∧ ∃ n, wr = w.drewN n) (fun _ i _ => xs.length - (intOf i).toNat)
  case atStart => exact ⟨0, _, rfl, rfl, Nat.zero_le _, by unfold Hid; rw [Bool.eq_iff_iff]; simp; omega, 0, rfl⟩
  case round =>
    obtain ⟨k, b, rfl, rfl, hk, hb, n, rfl⟩ := hrel
    cases b with
    | false =>
      have hne : xs ≠ ys := by
        rintro rfl
        have := hb.out
        simp at this
      go_wp2_with fail
      go_ret
      exact ⟨by simp [hne], n, rfl⟩
    | true =>
      have hb' : xs.length = ys.length ∧ xs.take k = ys.take k := by have := hb.out; simpa using this
      have hl := hb'.1
      have ht := hb'.2
      have Hl := Lib.hid hl
      have Ht := Lib.hid ht
      clear hl ht hb hb'
      by_cases hlt : k < xs.length
      · obtain ⟨b1, o1, rfl, hb1, g1⟩ := hg (by omega)
        obtain ⟨b2, o2, rfl, hb2, g2⟩ := hg' (by rw [← Hl.out]; omega)
        have hlt2 : k < ys.length := by rw [← Hl.out]; omega
        have hk0 : (0 : Int) ≤ k := by omega
        have hk1 : (k : Int) < xs.length := by omega
        have hk2 : (k : Int) < ys.length := by omega
        obtain ⟨x, hx⟩ : ∃ x, x = xs[k] := ⟨_, rfl⟩
        obtain ⟨y, hy⟩ : ∃ y, y = ys[k] := ⟨_, rfl⟩
        have q1 := one2 g1 hlt
        have q2 := one2 g2 hlt2
        rw [← hx] at q1
        rw [← hy] at q2
        have c10 : w.cell? ⟨b1, o1 + k * 3, none⟩ = some (.int .i64 x.pl.x) := by have := q1 0 (.int .i64 x.pl.x) rfl; simpa using this
        have c11 : w.cell? ⟨b1, o1 + k * 3 + 1, none⟩ = some (.int .i64 x.pl.y) := by have := q1 1 (.int .i64 x.pl.y) rfl; simpa using this
        have c12 : w.cell? ⟨b1, o1 + k * 3 + 2, none⟩ = some (.int .i64 x.kind) := by have := q1 2 (.int .i64 x.kind) rfl; simpa using this
        have c20 : w.cell? ⟨b2, o2 + k * 3, none⟩ = some (.int .i64 y.pl.x) := by have := q2 0 (.int .i64 y.pl.x) rfl; simpa using this
        have c21 : w.cell? ⟨b2, o2 + k * 3 + 1, none⟩ = some (.int .i64 y.pl.y) := by have := q2 1 (.int .i64 y.pl.y) rfl; simpa using this
        have c22 : w.cell? ⟨b2, o2 + k * 3 + 2, none⟩ = some (.int .i64 y.kind) := by have := q2 2 (.int .i64 y.kind) rfl; simpa using this
        have Hx := Lib.hid hx
        have Hy := Lib.hid hy
        clear hx hy q1 q2 g1 g2
        have hE := eq_Pu x y
        go_wp2_with fail
        go_quiet (fail)
        go_wp2_with fail
        go_roundw
        case rel =>
          refine ⟨k + 1, decide (x = y), by first | rfl | (congr 1; rw [Bool.eq_iff_iff]; simp), by go_num, by omega, ?_, _, rfl⟩
          unfold Hid
          rw [Bool.eq_iff_iff]
          simp only [decide_eq_true_eq]
          rw [List.take_succ_eq_append_getElem hlt, List.take_succ_eq_append_getElem hlt2, ← Hx.out, ← Hy.out, Ht.out]
          simp [Hl.out]
        case measure => simp [intOf]; omega
      · go_wp2_with fail
        go_ret
        obtain rfl : k = xs.length := by omega
        refine ⟨?_, n, rfl⟩
        have := Ht.out
        rw [List.take_of_length_le (Nat.le_refl _), List.take_of_length_le (by rw [Hl.out]; exact Nat.le_refl _)] at this
        simp [this]
end Go.Proofs.Ytijcmgfblpokhaa

/- What the chapter's functions compute, in plain Lean: no program in sight. -/
namespace Go.Proofs.Ytijcmgfblpokhaa

open Go.RowKit
theorem ret_b {w w' : World} {b c : Bool} (h : c = b) (hb : Below w.heap.size w w') : Ret (.bool b) w (.returned (.bool c)) w' := ⟨by rw [h], hb⟩
theorem ret_i {w w' : World} {b c : Int} (h : c = b) (hb : Below w.heap.size w w') : Ret (.int .i64 b) w (.returned (.int .i64 c)) w' := ⟨by rw [h], hb⟩

theorem Sl.drew {α : Type} {w : World} {B k : Nat} {enc : α → List Value} {v : Value} {xs : List α} (h : Sl w B k enc v xs) : Sl w.drew B k enc v xs := h
theorem Sl.drewN {α : Type} {w : World} {B k : Nat} {enc : α → List Value} {v : Value} {xs : List α} (h : Sl w B k enc v xs) (n : Nat) : Sl (w.drewN n) B k enc v xs := h
theorem Sl.get {α : Type} {w : World} {B k n c : Nat} {enc : α → List Value} {A : Option Addr} {xs : List α} (h : Sl w B k enc (.slice A n c) xs) {i : Nat} (hi : i < xs.length) :
    ∃ b off, A = some ⟨b, off, none⟩ ∧ b < B ∧ ∀ j u, (enc xs[i])[j]? = some u → w.cell? ⟨b, off + i * k + j, none⟩ = some u := by
  obtain ⟨A', c', he, h1, h2, h3⟩ := h
  cases he
  obtain ⟨b, off, rfl, hb, h4⟩ := h3 (by omega)
  exact ⟨b, off, rfl, hb, h4 i _ (List.getElem?_eq_getElem hi)⟩
theorem Sl.get1 {w : World} {B n c : Nat} {A : Option Addr} {xs : List Int} (h : Sl w B 1 intC (.slice A n c) xs) {i : Nat} (hi : i < xs.length) :
    ∃ b off, A = some ⟨b, off, none⟩ ∧ b < B ∧ w.cell? ⟨b, off + i, none⟩ = some (.int .i64 xs[i]) := by
  obtain ⟨b, off, rfl, hb, q⟩ := h.get hi
  exact ⟨b, off, rfl, hb, by simpa using q 0 _ rfl⟩
theorem HaAt.kind {w : World} {B n c : Nat} {h : Ha} {vw vs vb : Value} {A : Option Addr} {raws : List RK} (H : HaAt w B h vw vs vb (.slice A n c) raws) {q : Nat} (hq : q < h.kinds.length) :
    ∃ b o aA an ac, A = some ⟨b, o, none⟩ ∧ b < B ∧ w.cell? ⟨b, o + q * 6, none⟩ = some (.int .i64 h.kinds[q].lo) ∧ w.cell? ⟨b, o + q * 6 + 1, none⟩ = some (.int .i64 h.kinds[q].hi) ∧ w.cell? ⟨b, o + q * 6 + 2, none⟩ = some (.bool h.kinds[q].water) ∧
      w.cell? ⟨b, o + q * 6 + 3, none⟩ = some (.slice aA an ac) ∧ w.cell? ⟨b, o + q * 6 + 4, none⟩ = some (.int .i64 h.kinds[q].rent) ∧ w.cell? ⟨b, o + q * 6 + 5, none⟩ = some (.int .i64 h.kinds[q].most) ∧ Sl w B 1 intC (.slice aA an ac) h.kinds[q].away := by
  have hltr : q < raws.length := by rw [H.kinds.1]; exact hq
  obtain ⟨b1, o1, hA, hb1, q1⟩ := H.kraws.get hltr
  obtain ⟨f1, f2, f3, f4, f5, f6⟩ := H.kinds.2 q raws[q] h.kinds[q] (List.getElem?_eq_getElem hltr) (List.getElem?_eq_getElem hq)
  refine ⟨b1, o1, raws[q].aA, raws[q].an, raws[q].ac, hA, hb1, ?_, ?_, ?_, ?_, ?_, ?_, f6⟩
  · rw [← f1]; simpa using q1 0 _ rfl
  · rw [← f2]; simpa using q1 1 _ rfl
  · rw [← f3]; simpa using q1 2 _ rfl
  · exact q1 3 _ rfl
  · rw [← f4]; simpa using q1 4 _ rfl
  · rw [← f5]; simpa using q1 5 _ rfl
theorem undrew {w w1 : World} (h : Below w.drew.heap.size w.drew w1) : Below w.heap.size w w1 := ⟨h.os, h.tape, h.output, h.size, h.block⟩
theorem undrewN {w w1 : World} {n : Nat} (h : Below (w.drewN n).heap.size (w.drewN n) w1) : Below w.heap.size w w1 := ⟨h.os, h.tape, h.output, h.size, h.block⟩
theorem keepcell {W w1 : World} {b o : Nat} {v : Value} (hb : Below W.heap.size W w1) (h : b < W.heap.size) (hc : W.cell? ⟨b, o, none⟩ = some v) : w1.cell? ⟨b, o, none⟩ = some v := (hb.cell (p := ⟨b, o, none⟩) h).trans hc
/-- the first error of n things; 0 if there is none -/
def firstErr (f : Nat → Int) : Nat → Int
  | 0 => 0
  | n + 1 => if firstErr f n ≠ 0 then firstErr f n else f n
theorem firstErr_zero {f : Nat → Int} : ∀ {n : Nat}, firstErr f n = 0 ↔ ∀ i, i < n → f i = 0
  | 0 => by simp [firstErr]
  | n + 1 => by
    have ih := firstErr_zero (f := f) (n := n)
    unfold firstErr
    split
    · rename_i h
      constructor
      · intro h'; exact absurd h' h
      · intro h'; exact absurd (ih.2 fun i hi => h' i (by omega)) h
    · rename_i h
      simp at h
      constructor
      · intro h' i hi
        rcases Nat.lt_or_ge i n with hlt | hge
        · exact ih.1 h i hlt
        · obtain rfl : i = n := by omega
          exact h'
      · intro h'; exact h' n (by omega)
theorem firstErr_hit {f : Nat → Int} {k : Nat} (h0 : firstErr f k = 0) (hk : f k ≠ 0) : ∀ {n : Nat}, k < n → firstErr f n = f k
  | 0, h => by omega
  | n + 1, h => by
    unfold firstErr
    rcases Nat.lt_or_ge k n with hlt | hge
    · rw [firstErr_hit h0 hk hlt, if_pos hk]
    · obtain rfl : k = n := by omega
      rw [if_neg (by simp [h0])]
theorem firstErr_step {f : Nat → Int} {k : Nat} (h0 : firstErr f k = 0) (hk : f k = 0) : firstErr f (k + 1) = 0 := by
  unfold firstErr; rw [if_neg (by simp [h0]), hk]

def inR (n lo hi : Int) : Bool := decide (lo ≤ n ∧ n ≤ hi)
def isPl (h : Ha) (c : Pl) : Bool := inR c.x 0 (h.wide - 1) && inR c.y 0 (h.deep - 1)
def hasPl (l : List Pl) (c : Pl) : Bool := l.contains c
def cellErr (h : Ha) (l : List Pl) (k : Nat) : Int := match l[k]? with
  | some c => if !isPl h c then 3 else if hasPl (l.take k) c then 4 else 0
  | none => 0
def cellsErr (h : Ha) (l : List Pl) : Int := if 24 < l.length then 6 else firstErr (cellErr h l) l.length
def colsOf (h : Ha) : Int := (h.wide + h.bay.x - 1) / h.bay.x
def baysOf (h : Ha) : Int := colsOf h * ((h.deep + h.bay.y - 1) / h.bay.y)
def bayOf (h : Ha) (c : Pl) : Int := c.y / h.bay.y * colsOf h + c.x / h.bay.x
def kindErr (h : Ha) (k : Ki) : Int :=
  if !inR k.lo 0 1000000 || !inR k.hi 0 1000000 then 1
  else if k.hi < k.lo then 5
  else if k.away.length ≠ h.kinds.length then 2
  else if k.away.any (fun n => !inR n 0 9) then 1
  else if !inR k.rent 0 1000000 || !inR k.most 0 24 then 1 else 0
def kindErrAt (h : Ha) (i : Nat) : Int := match h.kinds[i]? with
  | some k => kindErr h k
  | none => 0
def hallErr (h : Ha) : Int :=
  if !inR h.wide 1 6 || !inR h.deep 1 4 then 1
  else if cellsErr h h.water ≠ 0 then cellsErr h h.water
  else if cellsErr h h.shut ≠ 0 then cellsErr h h.shut
  else if !inR h.bay.x 1 h.wide || !inR h.bay.y 1 h.deep then 1
  else if (h.bears.length : Int) ≠ baysOf h then 2
  else if h.bears.any (fun n => !inR n 0 10000000) then 1
  else if h.kinds.length = 0 then 7
  else if 6 < h.kinds.length then 6
  else firstErr (kindErrAt h) h.kinds.length

theorem div_up {n b : Int} (hb : 1 ≤ b) : (n + b - 1) / b = (n - 1) / b + 1 := by
  rw [show n + b - 1 = (n - 1) + b from by omega, Int.add_ediv_of_dvd_right (Int.dvd_refl b), Int.ediv_self (by omega)]
theorem bays_eq {h : Ha} (hx : 1 ≤ h.bay.x) (hy : 1 ≤ h.bay.y) : bayOf h ⟨h.wide - 1, h.deep - 1⟩ + 1 = baysOf h := by
  unfold bayOf baysOf colsOf
  rw [div_up hx, div_up hy]
  simp only [Int.add_mul, Int.mul_add]
  have := Int.mul_comm ((h.deep - 1) / h.bay.y) ((h.wide - 1) / h.bay.x)
  omega
/-- halls as small as these do not make numbers wrap -/
structure Small (h : Ha) : Prop where
  w1 : 1 ≤ h.wide
  w2 : h.wide ≤ 1000
  d1 : 1 ≤ h.deep
  d2 : h.deep ≤ 1000
  x1 : 1 ≤ h.bay.x
  x2 : h.bay.x ≤ 1000
  y1 : 1 ≤ h.bay.y
  y2 : h.bay.y ≤ 1000
theorem div_le {n b : Int} (hn : 0 ≤ n) (hb : 1 ≤ b) : 0 ≤ n / b ∧ n / b ≤ n :=
  ⟨Int.ediv_nonneg hn (by omega), Int.ediv_le_self b hn⟩
theorem mul_le {a b m n : Int} (ha : 0 ≤ a) (hb : 0 ≤ b) (h1 : a ≤ m) (h2 : b ≤ n) : 0 ≤ a * b ∧ a * b ≤ m * n :=
  ⟨Int.mul_nonneg ha hb, Int.mul_le_mul h1 h2 hb (by omega)⟩
theorem cols_le {h : Ha} (s : Small h) : 0 ≤ (h.wide + h.bay.x - 1) / h.bay.x ∧ (h.wide + h.bay.x - 1) / h.bay.x ≤ 2000 := by
  have := div_le (n := h.wide + h.bay.x - 1) (b := h.bay.x) (by have := s.w1; have := s.x1; omega) s.x1
  have := s.w2
  have := s.x2
  omega

def farOf (a b : Pl) : Int := max (a.x - b.x) (b.x - a.x) + max (a.y - b.y) (b.y - a.y)
def noKi : Ki := ⟨0, 0, false, [], 0, 0⟩
def kAt (h : Ha) (n : Int) : Ki := h.kinds.getD n.toNat noKi
def awAt (k : Ki) (n : Int) : Int := k.away.getD n.toNat 0
def clash (h : Ha) (o p : Pu) : Bool := decide (farOf o.pl p.pl < max (awAt (kAt h p.kind) o.kind) (awAt (kAt h o.kind) p.kind))
def isKind (h : Ha) (n : Int) : Bool := inR n 0 (h.kinds.length - 1)
def putErr (h : Ha) (before : List Pu) (p : Pu) : Int :=
  if !isPl h p.pl then 3 else if hasPl h.shut p.pl then 11 else if !isKind h p.kind then 8
  else if before.any (fun o => decide (o.pl = p.pl)) then 4
  else if (kAt h p.kind).water && !hasPl h.water p.pl then 7
  else if before.any (fun o => clash h o p) then 9 else 0
def putErrAt (h : Ha) (l : List Pu) (k : Nat) : Int := match l[k]? with
  | some p => putErr h (l.take k) p
  | none => 0
def manyOf (l : List Pu) (k : Nat) : Nat := (l.filter fun p => p.kind = (k : Int)).length
def overAt (h : Ha) (l : List Pu) (k : Nat) : Int := match h.kinds[k]? with
  | some q => if q.most < (manyOf l k : Int) then 13 else 0
  | none => 0
def layErr (h : Ha) (l : List Pu) : Int :=
  if 24 < l.length then 6
  else if firstErr (putErrAt h l) l.length ≠ 0 then firstErr (putErrAt h l) l.length
  else firstErr (overAt h l) h.kinds.length
def layoutErr (h : Ha) (l : List Pu) : Int := if hallErr h ≠ 0 then hallErr h else layErr h l
/-- what a valid hall is -/
structure VK (h : Ha) (k : Ki) : Prop where
  lo0 : 0 ≤ k.lo
  loHi : k.lo ≤ k.hi
  hi1 : k.hi ≤ 1000000
  away : k.away.length = h.kinds.length
  awayIn : ∀ n ∈ k.away, 0 ≤ n ∧ n ≤ 9
  rent0 : 0 ≤ k.rent
  rent1 : k.rent ≤ 1000000
  most0 : 0 ≤ k.most
  most1 : k.most ≤ 24
structure VH (h : Ha) : Prop where
  w1 : 1 ≤ h.wide
  w2 : h.wide ≤ 6
  d1 : 1 ≤ h.deep
  d2 : h.deep ≤ 4
  x1 : 1 ≤ h.bay.x
  x2 : h.bay.x ≤ h.wide
  y1 : 1 ≤ h.bay.y
  y2 : h.bay.y ≤ h.deep
  water : cellsErr h h.water = 0
  shut : cellsErr h h.shut = 0
  bears : (h.bears.length : Int) = baysOf h
  bearsIn : ∀ n ∈ h.bears, 0 ≤ n ∧ n ≤ 10000000
  kinds0 : 0 < h.kinds.length
  kinds6 : h.kinds.length ≤ 6
  kind : ∀ k ∈ h.kinds, VK h k
theorem inR_true {n a b : Int} : inR n a b = true ↔ a ≤ n ∧ n ≤ b := by simp [inR]
theorem VK.of {h : Ha} {k : Ki} (e : kindErr h k = 0) : VK h k := by
  unfold kindErr at e
  repeat' (split at e <;> try (exact absurd e (by decide)))
  rename_i h1 h2 h3 h4 h5
  simp only [Bool.or_eq_true, Bool.not_eq_true', not_or, Bool.not_eq_false, inR_true] at h1 h5
  simp only [List.any_eq_true, Bool.not_eq_true', not_exists, not_and, Bool.not_eq_false, inR_true] at h4
  exact ⟨by omega, by omega, by omega, by simpa using h3, h4, by omega, by omega, by omega, by omega⟩
theorem VH.of {h : Ha} (e : hallErr h = 0) : VH h := by
  unfold hallErr at e
  by_cases h1 : (!inR h.wide 1 6 || !inR h.deep 1 4) = true
  · rw [if_pos h1] at e; exact absurd e (by decide)
  rw [if_neg h1] at e
  by_cases h2 : cellsErr h h.water ≠ 0
  · rw [if_pos h2] at e; exact absurd e h2
  rw [if_neg h2] at e
  by_cases h3 : cellsErr h h.shut ≠ 0
  · rw [if_pos h3] at e; exact absurd e h3
  rw [if_neg h3] at e
  by_cases h4 : (!inR h.bay.x 1 h.wide || !inR h.bay.y 1 h.deep) = true
  · rw [if_pos h4] at e; exact absurd e (by decide)
  rw [if_neg h4] at e
  by_cases h5 : (h.bears.length : Int) ≠ baysOf h
  · rw [if_pos h5] at e; exact absurd e (by decide)
  rw [if_neg h5] at e
  by_cases h6 : h.bears.any (fun n => !inR n 0 10000000) = true
  · rw [if_pos h6] at e; exact absurd e (by decide)
  rw [if_neg h6] at e
  by_cases h7 : h.kinds.length = 0
  · rw [if_pos h7] at e; exact absurd e (by decide)
  rw [if_neg h7] at e
  by_cases h8 : 6 < h.kinds.length
  · rw [if_pos h8] at e; exact absurd e (by decide)
  rw [if_neg h8, firstErr_zero] at e
  simp only [Bool.or_eq_true, Bool.not_eq_true', not_or, Bool.not_eq_false, inR_true] at h1 h4
  simp only [List.any_eq_true, Bool.not_eq_true', not_exists, not_and, Bool.not_eq_false, inR_true] at h6
  refine ⟨h1.1.1, h1.1.2, h1.2.1, h1.2.2, h4.1.1, h4.1.2, h4.2.1, h4.2.2, by simpa using h2, by simpa using h3, by simpa using h5, h6, by omega, by omega, fun k hk => ?_⟩
  obtain ⟨i, hi, rfl⟩ := List.getElem_of_mem hk
  refine VK.of ?_
  have := e i hi
  simpa [kindErrAt, hi] using this
theorem VH.small {h : Ha} (v : VH h) : Small h := by
  obtain ⟨a, b, c, d, e, f, g, i⟩ := v
  exact ⟨by omega, by omega, by omega, by omega, by omega, by omega, by omega, by omega⟩
/-- puts that stand at places and are of kinds that there are -/
def GoodP (h : Ha) (o : Pu) : Prop := isPl h o.pl = true ∧ isKind h o.kind = true
theorem GoodP.of {h : Ha} {b : List Pu} {p : Pu} (e : putErr h b p = 0) : GoodP h p := by
  unfold putErr at e
  constructor
  · by_cases h1 : isPl h p.pl = true
    · exact h1
    · rw [if_pos (by simpa using h1)] at e; exact absurd e (by decide)
  · by_cases h1 : isKind h p.kind = true
    · exact h1
    · split at e
      · exact absurd e (by decide)
      split at e
      · exact absurd e (by decide)
      rw [if_pos (by simpa using h1)] at e; exact absurd e (by decide)
theorem GoodP.bounds {h : Ha} {o : Pu} (v : VH h) (g : GoodP h o) : 0 ≤ o.pl.x ∧ o.pl.x ≤ 5 ∧ 0 ≤ o.pl.y ∧ o.pl.y ≤ 3 ∧ 0 ≤ o.kind ∧ o.kind < h.kinds.length := by
  obtain ⟨g1, g2⟩ := g
  simp only [isPl, Bool.and_eq_true, inR_true, isKind] at g1 g2
  have := v.w2
  have := v.d2
  omega
end Go.Proofs.Ytijcmgfblpokhaa
