/- VaultEnds answers true for every list of numbers. Part 37 of its proof; no conditions. -/
import Derived.Test.YtijcmgfblpokhaaVe36
import Derived.Test.YtijcmgfblpokhaaRows
import Derived.OpenShut
import Derived.Deep.RegionHeld3
import Derived.Deep.DrawnRows
import Derived.Deep.QuietTactic
import Derived.BigQuiet
set_option linter.unusedVariables false
set_option linter.unusedSimpArgs false
/- The data of halls and layouts, and how they lie in memory. -/
namespace Go.Proofs.Ytijcmgfblpokhaa
open Go.RowKit

structure Pl where (x y : Int) deriving DecidableEq
structure Sp where (lo hi : Int) deriving DecidableEq
structure Pu where (pl : Pl) (kind : Int) deriving DecidableEq
structure Ki where (lo hi : Int) (water : Bool) (away : List Int) (rent most : Int) deriving DecidableEq
/-- a kind as it lies in memory: its numbers in Away are a slice -/
structure RK where (lo hi : Int) (water : Bool) (aA : Option Addr) (an ac : Nat) (rent most : Int)
structure Ha where (wide deep : Int) (water shut : List Pl) (bay : Pl) (bears : List Int) (kinds : List Ki) deriving DecidableEq
def plC (p : Pl) : List Value := [.int .i64 p.x, .int .i64 p.y]
def spC (p : Sp) : List Value := [.int .i64 p.lo, .int .i64 p.hi]
def puC (p : Pu) : List Value := [.int .i64 p.pl.x, .int .i64 p.pl.y, .int .i64 p.kind]
def RK.av (r : RK) : Value := .slice r.aA r.an r.ac
def rkC (r : RK) : List Value := [.int .i64 r.lo, .int .i64 r.hi, .bool r.water, r.av, .int .i64 r.rent, .int .i64 r.most]
theorem intE : Enc 1 intC := ⟨fun _ => rfl, by intro x u h; simp [intC] at h; subst h; rfl⟩
theorem plE : Enc 2 plC := ⟨fun _ => rfl, by intro x u h; simp [plC] at h; rcases h with rfl | rfl <;> rfl⟩
theorem spE : Enc 2 spC := ⟨fun _ => rfl, by intro x u h; simp [spC] at h; rcases h with rfl | rfl <;> rfl⟩
theorem puE : Enc 3 puC := ⟨fun _ => rfl, by intro x u h; simp [puC] at h; rcases h with rfl | rfl | rfl <;> rfl⟩
theorem rkE : Enc 6 rkC := ⟨fun _ => rfl, by intro x u h; simp [rkC, RK.av] at h; rcases h with rfl | rfl | rfl | rfl | rfl | rfl <;> rfl⟩
theorem intT : ET Try.prog 25 3 1 8 := ET.mk' Try.underlying25 (z := .int .i64 0) (by kernel_rfl) rfl (by decide)
theorem plT : ET Try.prog 22 24 2 16 := ET.mk' Try.underlying22 (z := .agg #[.int .i64 0, .int .i64 0]) (by kernel_rfl) rfl (by decide)
theorem spT : ET Try.prog 45 54 2 16 := ET.mk' Try.underlying45 (z := .agg #[.int .i64 0, .int .i64 0]) (by kernel_rfl) rfl (by decide)
theorem puT : ET Try.prog 38 59 3 24 := ET.mk' Try.underlying38 (z := .agg #[.int .i64 0, .int .i64 0, .int .i64 0]) (by kernel_rfl) rfl (by decide)
theorem rkT : ET Try.prog 26 57 6 64 := ET.mk' Try.underlying26 (z := .agg #[.int .i64 0, .int .i64 0, .bool false, .slice none 0 0, .int .i64 0, .int .i64 0]) (by kernel_rfl) rfl (by decide)
/-- the kinds of a hall -/
def KiAt (w : World) (B : Nat) (raws : List RK) (ks : List Ki) : Prop :=
  raws.length = ks.length ∧ ∀ (i : Nat) (r : RK) (k : Ki), raws[i]? = some r → ks[i]? = some k → r.lo = k.lo ∧ r.hi = k.hi ∧ r.water = k.water ∧ r.rent = k.rent ∧ r.most = k.most ∧ Sl w B 1 intC r.av k.away
theorem KiAt.below {w w' : World} {B B0 B' : Nat} {raws : List RK} {ks : List Ki} (h : KiAt w B raws ks) (hb : Below B0 w w') (hB : B ≤ B0) (hB' : B ≤ B') : KiAt w' B' raws ks :=
  ⟨h.1, fun i r k hr hk => by obtain ⟨a, b, c, d, e, f⟩ := h.2 i r k hr hk; exact ⟨a, b, c, d, e, f.below hb hB hB'⟩⟩
/-- the cells of a hall -/
def haC (wide deep : Int) (vw vs : Value) (bx by_ : Int) (vb vk : Value) : Array Value := #[.int .i64 wide, .int .i64 deep, vw, vs, .int .i64 bx, .int .i64 by_, vb, vk]
structure HaAt (w : World) (B : Nat) (h : Ha) (vw vs vb vk : Value) (raws : List RK) : Prop where
  water : Sl w B 2 plC vw h.water
  shut : Sl w B 2 plC vs h.shut
  bears : Sl w B 1 intC vb h.bears
  kraws : Sl w B 6 rkC vk raws
  kinds : KiAt w B raws h.kinds
theorem HaAt.below {w w' : World} {B B0 B' : Nat} {h : Ha} {vw vs vb vk : Value} {raws : List RK} (H : HaAt w B h vw vs vb vk raws) (hb : Below B0 w w') (hB : B ≤ B0) (hB' : B ≤ B') : HaAt w' B' h vw vs vb vk raws :=
  ⟨H.water.below hb hB hB', H.shut.below hb hB hB', H.bears.below hb hB hB', H.kraws.below hb hB hB', H.kinds.below hb hB hB'⟩
theorem HaAt.drew {w : World} {B : Nat} {h : Ha} {vw vs vb vk : Value} {raws : List RK} (H : HaAt w B h vw vs vb vk raws) : HaAt w.drew B h vw vs vb vk raws := ⟨H.water, H.shut, H.bears, H.kraws, H.kinds⟩
/-- the value of a hall -/
def HaV (w : World) (B : Nat) (v : Value) (h : Ha) : Prop := ∃ vw vs vb vk raws, v = .agg (haC h.wide h.deep vw vs h.bay.x h.bay.y vb vk) ∧ HaAt w B h vw vs vb vk raws
theorem HaV.below {w w' : World} {B B0 B' : Nat} {v : Value} {h : Ha} (H : HaV w B v h) (hb : Below B0 w w') (hB : B ≤ B0) (hB' : B ≤ B') : HaV w' B' v h := by
  obtain ⟨vw, vs, vb, vk, raws, e, H⟩ := H
  exact ⟨vw, vs, vb, vk, raws, e, H.below hb hB hB'⟩
theorem one2 {α : Type} {w : World} {b off k : Nat} {enc : α → List Value} {xs : List α} (h : ∀ i x, xs[i]? = some x → ∀ j u, (enc x)[j]? = some u → w.cell? ⟨b, off + i * k + j, none⟩ = some u) {i : Nat} (hi : i < xs.length) :
    ∀ j u, (enc xs[i])[j]? = some u → w.cell? ⟨b, off + i * k + j, none⟩ = some u := h i xs[i] (List.getElem?_eq_getElem hi)
set_option maxHeartbeats 400000 in
theorem copyints_any (w : World) (v : Value) (xs : List Int) (B : Nat) (hs : Sl w B 1 intC v xs) (hB : B ≤ w.heap.size) (hl : xs.length ≤ 1000000) :
    Calls Try.prog 62 #[v] w (RetX (fun v' w' => Own w' w.heap.size 3 1 intC v' xs) w) := by
  obtain ⟨A, c, rfl, hc, hc2, hg⟩ := hs.open_
  clear hg
  go_enter Try.func62, Try.ntmps62
  go_wp2_with (at_builtin; refine wpList_app rfl _ _ rfl intT intE (by rfl) (by rfl) (Own.empty (Blk.new w _ _) (Nat.le_refl _)) (hs.alloc hB (Nat.le_refl _) _) (by simp [maxLen]; omega) (by simp; omega) (by simp) ?_; intro v' w1 hown hgrow hat)
  go_ret
  exact ⟨_, rfl, hown, ((Below.refl _ w).alloc (Nat.le_refl _) _).trans ((Own.empty (Blk.new w _ _) (Nat.le_refl _) : Own _ w.heap.size 3 1 intC _ []).grown_below hgrow (by simp))⟩
set_option maxHeartbeats 400000 in
theorem copylayout_any (w : World) (v : Value) (xs : List Pu) (B : Nat) (hs : Sl w B 3 puC v xs) (hB : B ≤ w.heap.size) (hl : xs.length ≤ 1000000) :
    Calls Try.prog 31 #[v] w (RetX (fun v' w' => Own w' w.heap.size 59 3 puC v' xs) w) := by
  obtain ⟨A, c, rfl, hc, hc2, hg⟩ := hs.open_
  clear hg
  go_enter Try.func31, Try.ntmps31
  go_wp2_with (at_builtin; refine wpList_app rfl _ _ rfl puT puE (by rfl) (by rfl) (Own.empty (Blk.new w _ _) (Nat.le_refl _)) (hs.alloc hB (Nat.le_refl _) _) (by simp [maxLen]; omega) (by simp; omega) (by simp) ?_; intro v' w1 hown hgrow hat)
  go_ret
  exact ⟨_, rfl, hown, ((Below.refl _ w).alloc (Nat.le_refl _) _).trans ((Own.empty (Blk.new w _ _) (Nat.le_refl _) : Own _ w.heap.size 59 3 puC _ []).grown_below hgrow (by simp))⟩
theorem eq_Pl (x y : Pl) (w : World) : (binOp .eql 24 (.agg #[.int .i64 x.x, .int .i64 x.y]) (.agg #[.int .i64 y.x, .int .i64 y.y])).run Try.prog w = .ok (.bool (decide (x = y))) w := by
  have u3 := Try.underlying3
  have a3 := Try.isAgg3
  have z3 := Try.sizeOf3
  have hS : Try.prog.underlying 24 = some (.struct (Try.prog.fieldsOf 24)) := by kernel_rfl
  have hp : Try.prog.stoodInHeld 24 = false := by kernel_rfl
  rw [run_eql_struct, show (10000 : Nat) = 9999 + 1 from rfl, run_equalIn_agg w 9999 _ _ _ hS hp]
  simp only [Program.fieldsOf, Try.underlying24]
  go_simp
  obtain ⟨a, b⟩ := x
  obtain ⟨c, d⟩ := y
  by_cases h1 : a = c <;> by_cases h2 : b = d <;> simp [h1, h2]
theorem eq_Sp (x y : Sp) (w : World) : (binOp .eql 54 (.agg #[.int .i64 x.lo, .int .i64 x.hi]) (.agg #[.int .i64 y.lo, .int .i64 y.hi])).run Try.prog w = .ok (.bool (decide (x = y))) w := by
  have u3 := Try.underlying3
  have a3 := Try.isAgg3
  have z3 := Try.sizeOf3
  have hS : Try.prog.underlying 54 = some (.struct (Try.prog.fieldsOf 54)) := by kernel_rfl
  have hp : Try.prog.stoodInHeld 54 = false := by kernel_rfl
  rw [run_eql_struct, show (10000 : Nat) = 9999 + 1 from rfl, run_equalIn_agg w 9999 _ _ _ hS hp]
  simp only [Program.fieldsOf, Try.underlying54]
  go_simp
  obtain ⟨a, b⟩ := x
  obtain ⟨c, d⟩ := y
  by_cases h1 : a = c <;> by_cases h2 : b = d <;> simp [h1, h2]
theorem eqIn_Pl (d : Nat) (x y : Pl) (w : World) : (Op.equalIn (d + 2) 24 (.agg #[.int .i64 x.x, .int .i64 x.y]) (.agg #[.int .i64 y.x, .int .i64 y.y])).run Try.prog w = .ok (decide (x = y)) w := by
  have u3 := Try.underlying3
  have a3 := Try.isAgg3
  have z3 := Try.sizeOf3
  have hS : Try.prog.underlying 24 = some (.struct (Try.prog.fieldsOf 24)) := by kernel_rfl
  have hp : Try.prog.stoodInHeld 24 = false := by kernel_rfl
  rw [run_equalIn_agg w (d + 1) _ _ _ hS hp]
  simp only [Program.fieldsOf, Try.underlying24]
  go_simp
  obtain ⟨a, b⟩ := x
  obtain ⟨c, d⟩ := y
  by_cases h1 : a = c <;> by_cases h2 : b = d <;> simp [h1, h2]
theorem eq_Pu (x y : Pu) (w : World) : (binOp .eql 59 (.agg #[.int .i64 x.pl.x, .int .i64 x.pl.y, .int .i64 x.kind]) (.agg #[.int .i64 y.pl.x, .int .i64 y.pl.y, .int .i64 y.kind])).run Try.prog w = .ok (.bool (decide (x = y))) w := by
  have u3 := Try.underlying3
  have a3 := Try.isAgg3
  have z3 := Try.sizeOf3
  have a24 := Try.isAgg24
  have z24 := Try.sizeOf24
  have hIn := fun d w => eqIn_Pl d x.pl y.pl w
  have hS : Try.prog.underlying 59 = some (.struct (Try.prog.fieldsOf 59)) := by kernel_rfl
  have hp : Try.prog.stoodInHeld 59 = false := by kernel_rfl
  rw [run_eql_struct]
  generalize hd : (10000 : Nat) = d
  obtain ⟨d, rfl⟩ : ∃ e, d = e + 3 := ⟨9997, by omega⟩
  clear hd
  rw [run_equalIn_agg w (d + 2) _ _ _ hS hp]
  simp only [Program.fieldsOf, Try.underlying59]
  clear hS hp
  go_simp
  obtain ⟨⟨a, b⟩, k⟩ := x
  obtain ⟨⟨c, d⟩, l⟩ := y
  by_cases h1 : a = c <;> by_cases h2 : b = d <;> by_cases h3 : k = l <;> simp [h1, h2, h3]
set_option maxHeartbeats 1000000 in
set_option maxRecDepth 100000 in
theorem sameints_any (w : World) (v u : Value) (xs ys : List Int) (B : Nat) (hs : Sl w B 1 intC v xs) (ht : Sl w B 1 intC u ys) :
    Calls Try.prog 71 #[v, u] w fun e w' => e = .returned (.bool (decide (xs = ys))) ∧ ∃ n, w' = w.drewN n := by
  obtain ⟨A, c, rfl, hc, hc2, hg⟩ := hs.open_
  obtain ⟨A', c', rfl, hc', hc2', hg'⟩ := ht.open_
  unfold maxLen at hc2 hc2'
  go_enter Try.func71, Try.ntmps71
  go_wp2_with fail
  go_loopw [5, 6] (fun s i wr => ∃ (k : Nat) (b : Bool), s = .bool b ∧ i = .int .i64 k ∧ k ≤ xs.length ∧ Hid (b = decide (xs.length = ys.length ∧ xs.take k = ys.take k)) ∧ ∃ n, wr = w.drewN n) (fun _ i _ => xs.length - (intOf i).toNat)
  case atStart => exact ⟨0, _, rfl, rfl, Nat.zero_le _, by unfold Hid; rw [Bool.eq_iff_iff]; simp; omega, 0, rfl⟩
  case round =>
    obtain ⟨k, b, rfl, rfl, hk, hb, n, rfl⟩ := hrel
    cases b with
    | false =>
      have hne : xs ≠ ys := by
        rintro rfl
        have := hb.out
        simp at this
      go_wp2_with fail
      go_ret
      exact ⟨by simp [hne], n, rfl⟩
    | true =>
      have hb' : xs.length = ys.length ∧ xs.take k = ys.take k := by have := hb.out; simpa using this
      have hl := hb'.1
      have ht := hb'.2
      have Hl := Lib.hid hl
      have Ht := Lib.hid ht
      clear hl ht hb hb'
      by_cases hlt : k < xs.length
      · obtain ⟨b1, o1, rfl, hb1, g1⟩ := hg (by omega)
        obtain ⟨b2, o2, rfl, hb2, g2⟩ := hg' (by rw [← Hl.out]; omega)
        have hlt2 : k < ys.length := by rw [← Hl.out]; omega
        have hk0 : (0 : Int) ≤ k := by omega
        have hk1 : (k : Int) < xs.length := by omega
        have hk2 : (k : Int) < ys.length := by omega
        obtain ⟨x, hx⟩ : ∃ x, x = xs[k] := ⟨_, rfl⟩
        obtain ⟨y, hy⟩ : ∃ y, y = ys[k] := ⟨_, rfl⟩
        have q1 := one2 g1 hlt
        have q2 := one2 g2 hlt2
        rw [← hx] at q1
        rw [← hy] at q2
        have c10 : w.cell? ⟨b1, o1 + k, none⟩ = some (.int .i64 x) := by have := q1 0 (.int .i64 x) rfl; simpa using this
        have c20 : w.cell? ⟨b2, o2 + k, none⟩ = some (.int .i64 y) := by have := q2 0 (.int .i64 y) rfl; simpa using this
        have Hx := Lib.hid hx
        have Hy := Lib.hid hy
        clear hx hy q1 q2 g1 g2

        go_wp2_with fail
        go_quiet (fail)
        go_wp2_with fail
        go_roundw
        case rel =>
          refine ⟨k + 1, decide (x = y), by first | rfl | (congr 1; rw [Bool.eq_iff_iff]; simp), by go_num, by omega, ?_, _, rfl⟩
          unfold Hid
          rw [Bool.eq_iff_iff]
          simp only [decide_eq_true_eq]
          rw [List.take_succ_eq_append_getElem hlt, List.take_succ_eq_append_getElem hlt2, ← Hx.out, ← Hy.out, Ht.out]
          simp [Hl.out]
        case measure => simp [intOf]; omega
      · go_wp2_with fail
        go_ret
        obtain rfl : k = xs.length := by omega
        refine ⟨?_, n, rfl⟩
        have := Ht.out
        rw [List.take_of_length_le (Nat.le_refl _), List.take_of_length_le (by rw [Hl.out]; exact Nat.le_refl _)] at this
        simp [this]
set_option maxHeartbeats 1000000 in
set_option maxRecDepth 100000 in
theorem samecells_any (w : World) (v u : Value) (xs ys : List Pl) (B : Nat) (hs : Sl w B 2 plC v xs) (ht : Sl w B 2 plC u ys) :
    Calls Try.prog 52 #[v, u] w fun e w' => e = .returned (.bool (decide (xs = ys))) ∧ ∃ n, w' = w.drewN n := by
  obtain ⟨A, c, rfl, hc, hc2, hg⟩ := hs.open_
  obtain ⟨A', c', rfl, hc', hc2', hg'⟩ := ht.open_
  unfold maxLen at hc2 hc2'
  go_enter Try.func52, Try.ntmps52
  go_wp2_with fail
  go_loopw [5, 6] (fun s i wr => ∃ (k : Nat) (b : Bool), s = .bool b ∧ i = .int .i64 k ∧ k ≤ xs.length ∧ Hid (b = decide (xs.length = ys.length ∧ xs.take k = ys.take k)) ∧ ∃ n, wr = w.drewN n) (fun _ i _ => xs.length - (intOf i).toNat)
  case atStart => exact ⟨0, _, rfl, rfl, Nat.zero_le _, by unfold Hid; rw [Bool.eq_iff_iff]; simp; omega, 0, rfl⟩
  case round =>
    obtain ⟨k, b, rfl, rfl, hk, hb, n, rfl⟩ := hrel
    cases b with
    | false =>
      have hne : xs ≠ ys := by
        rintro rfl
        have := hb.out
        simp at this
      go_wp2_with fail
      go_ret
      exact ⟨by simp [hne], n, rfl⟩
    | true =>
      have hb' : xs.length = ys.length ∧ xs.take k = ys.take k := by have := hb.out; simpa using this
      have hl := hb'.1
      have ht := hb'.2
      have Hl := Lib.hid hl
      have Ht := Lib.hid ht
      clear hl ht hb hb'
      by_cases hlt : k < xs.length
      · obtain ⟨b1, o1, rfl, hb1, g1⟩ := hg (by omega)
        obtain ⟨b2, o2, rfl, hb2, g2⟩ := hg' (by rw [← Hl.out]; omega)
        have hlt2 : k < ys.length := by rw [← Hl.out]; omega
        have hk0 : (0 : Int) ≤ k := by omega
        have hk1 : (k : Int) < xs.length := by omega
        have hk2 : (k : Int) < ys.length := by omega
        obtain ⟨x, hx⟩ : ∃ x, x = xs[k] := ⟨_, rfl⟩
        obtain ⟨y, hy⟩ : ∃ y, y = ys[k] := ⟨_, rfl⟩
        have q1 := one2 g1 hlt
        have q2 := one2 g2 hlt2
        rw [← hx] at q1
        rw [← hy] at q2
        have c10 : w.cell? ⟨b1, o1 + k * 2, none⟩ = some (.int .i64 x.x) := by have := q1 0 (.int .i64 x.x) rfl; simpa using this
        have c11 : w.cell? ⟨b1, o1 + k * 2 + 1, none⟩ = some (.int .i64 x.y) := by have := q1 1 (.int .i64 x.y) rfl; simpa using this
        have c20 : w.cell? ⟨b2, o2 + k * 2, none⟩ = some (.int .i64 y.x) := by have := q2 0 (.int .i64 y.x) rfl; simpa using this
        have c21 : w.cell? ⟨b2, o2 + k * 2 + 1, none⟩ = some (.int .i64 y.y) := by have := q2 1 (.int .i64 y.y) rfl; simpa using this
        have Hx := Lib.hid hx
        have Hy := Lib.hid hy
        clear hx hy q1 q2 g1 g2
        have hE := eq_Pl x y
        go_wp2_with fail
        go_quiet (fail)
        go_wp2_with fail
        go_roundw
        case rel =>
          refine ⟨k + 1, decide (x = y), by first | rfl | (congr 1; rw [Bool.eq_iff_iff]; simp), by go_num, by omega, ?_, _, rfl⟩
          unfold Hid
          rw [Bool.eq_iff_iff]
          simp only [decide_eq_true_eq]
          rw [List.take_succ_eq_append_getElem hlt, List.take_succ_eq_append_getElem hlt2, ← Hx.out, ← Hy.out, Ht.out]
          simp [Hl.out]
        case measure => simp [intOf]; omega
      · go_wp2_with fail
        go_ret
        obtain rfl : k = xs.length := by omega
        refine ⟨?_, n, rfl⟩
        have := Ht.out
        rw [List.take_of_length_le (Nat.le_refl _), List.take_of_length_le (by rw [Hl.out]; exact Nat.le_refl _)] at this
        simp [this]
set_option maxHeartbeats 1000000 in
set_option maxRecDepth 100000 in
theorem samespans_any (w : World) (v u : Value) (xs ys : List Sp) (B : Nat) (hs : Sl w B 2 spC v xs) (ht : Sl w B 2 spC u ys) :
    Calls Try.prog 39 #[v, u] w fun e w' => e = .returned (.bool (decide (xs = ys))) ∧ ∃ n, w' = w.drewN n := by
  obtain ⟨A, c, rfl, hc, hc2, hg⟩ := hs.open_
  obtain ⟨A', c', rfl, hc', hc2', hg'⟩ := ht.open_
  unfold maxLen at hc2 hc2'
  go_enter Try.func39, Try.ntmps39
  go_wp2_with fail
  go_loopw [5, 6] (fun s i wr => ∃ (k : Nat) (b : Bool), s = .bool b ∧ i = .int .i64 k ∧ k ≤ xs.length ∧ Hid (b = decide (xs.length = ys.length ∧ xs.take k = ys.take k)) ∧ ∃ n, wr = w.drewN n) (fun _ i _ => xs.length - (intOf i).toNat)
  case atStart => exact ⟨0, _, rfl, rfl, Nat.zero_le _, by unfold Hid; rw [Bool.eq_iff_iff]; simp; omega, 0, rfl⟩
  case round =>
    obtain ⟨k, b, rfl, rfl, hk, hb, n, rfl⟩ := hrel
    cases b with
    | false =>
      have hne : xs ≠ ys := by
        rintro rfl
        have := hb.out
        simp at this
      go_wp2_with fail
      go_ret
      exact ⟨by simp [hne], n, rfl⟩
    | true =>
      have hb' : xs.length = ys.length ∧ xs.take k = ys.take k := by have := hb.out; simpa using this
      have hl := hb'.1
      have ht := hb'.2
      have Hl := Lib.hid hl
      have Ht := Lib.hid ht
      clear hl ht hb hb'
      by_cases hlt : k < xs.length
      · obtain ⟨b1, o1, rfl, hb1, g1⟩ := hg (by omega)
        obtain ⟨b2, o2, rfl, hb2, g2⟩ := hg' (by rw [← Hl.out]; omega)
        have hlt2 : k < ys.length := by rw [← Hl.out]; omega
        have hk0 : (0 : Int) ≤ k := by omega
        have hk1 : (k : Int) < xs.length := by omega
        have hk2 : (k : Int) < ys.length := by omega
        obtain ⟨x, hx⟩ : ∃ x, x = xs[k] := ⟨_, rfl⟩
        obtain ⟨y, hy⟩ : ∃ y, y = ys[k] := ⟨_, rfl⟩
        have q1 := one2 g1 hlt
        have q2 := one2 g2 hlt2
        rw [← hx] at q1
        rw [← hy] at q2
        have c10 : w.cell? ⟨b1, o1 + k * 2, none⟩ = some (.int .i64 x.lo) := by have := q1 0 (.int .i64 x.lo) rfl; simpa using this
        have c11 : w.cell? ⟨b1, o1 + k * 2 + 1, none⟩ = some (.int .i64 x.hi) := by have := q1 1 (.int .i64 x.hi) rfl; simpa using this
        have c20 : w.cell? ⟨b2, o2 + k * 2, none⟩ = some (.int .i64 y.lo) := by have := q2 0 (.int .i64 y.lo) rfl; simpa using this
        have c21 : w.cell? ⟨b2, o2 + k * 2 + 1, none⟩ = some (.int .i64 y.hi) := by have := q2 1 (.int .i64 y.hi) rfl; simpa using this
        have Hx := Lib.hid hx
        have Hy := Lib.hid hy
        clear hx hy q1 q2 g1 g2
        have hE := eq_Sp x y
        go_wp2_with fail
        go_quiet (fail)
        go_wp2_with fail
        go_roundw
        case rel =>
          refine ⟨k + 1, decide (x = y), by first | rfl | (congr 1; rw [Bool.eq_iff_iff]; simp), by go_num, by omega, ?_, _, rfl⟩
          unfold Hid
          rw [Bool.eq_iff_iff]
          simp only [decide_eq_true_eq]
          rw [List.take_succ_eq_append_getElem hlt, List.take_succ_eq_append_getElem hlt2, ← Hx.out, ← Hy.out, Ht.out]
          simp [Hl.out]
        case measure => simp [intOf]; omega
      · go_wp2_with fail
        go_ret
        obtain rfl : k = xs.length := by omega
        refine ⟨?_, n, rfl⟩
        have := Ht.out
        rw [List.take_of_length_le (Nat.le_refl _), List.take_of_length_le (by rw [Hl.out]; exact Nat.le_refl _)] at this
        simp [this]
set_option maxHeartbeats 1000000 in
set_option maxRecDepth 100000 in
theorem sameputs_any (w : World) (v u : Value) (xs ys : List Pu) (B : Nat) (hs : Sl w B 3 puC v xs) (ht : Sl w B 3 puC u ys) :
    Calls Try.prog 21 #[v, u] w fun e w' => e = .returned (.bool (decide (xs = ys))) ∧ ∃ n, w' = w.drewN n := by
  obtain ⟨A, c, rfl, hc, hc2, hg⟩ := hs.open_
  obtain ⟨A', c', rfl, hc', hc2', hg'⟩ := ht.open_
  unfold maxLen at hc2 hc2'
  go_enter Try.func21, Try.ntmps21
  go_wp2_with fail
  go_loopw [5, 6] (fun s i wr => ∃ (k : Nat) (b : Bool), s = .bool b ∧ i = .int .i64 k ∧ k ≤ xs.length ∧ Hid (b = decide (xs.length = ys.length ∧ xs.take k = ys.take k)) ∧ ∃ n, wr = w.drewN n) (fun _ i _ => xs.length - (intOf i).toNat)
  case atStart => exact ⟨0, _, rfl, rfl, Nat.zero_le _, by unfold Hid; rw [Bool.eq_iff_iff]; simp; omega, 0, rfl⟩
  case round =>
    obtain ⟨k, b, rfl, rfl, hk, hb, n, rfl⟩ := hrel
    cases b with
    | false =>
      have hne : xs ≠ ys := by
        rintro rfl
        have := hb.out
        simp at this
      go_wp2_with fail
      go_ret
      exact ⟨by simp [hne], n, rfl⟩
    | true =>
      have hb' : xs.length = ys.length ∧ xs.take k = ys.take k := by have := hb.out; simpa using this
      have hl := hb'.1
      have ht := hb'.2
      have Hl := Lib.hid hl
      have Ht := Lib.hid ht
      clear hl ht hb hb'
      by_cases hlt : k < xs.length
      · obtain ⟨b1, o1, rfl, hb1, g1⟩ := hg (by omega)
        obtain ⟨b2, o2, rfl, hb2, g2⟩ := hg' (by rw [← Hl.out]; omega)
        have hlt2 : k < ys.length := by rw [← Hl.out]; omega
        have hk0 : (0 : Int) ≤ k := by omega
        have hk1 : (k : Int) < xs.length := by omega
        have hk2 : (k : Int) < ys.length := by omega
        obtain ⟨x, hx⟩ : ∃ x, x = xs[k] := ⟨_, rfl⟩
        obtain ⟨y, hy⟩ : ∃ y, y = ys[k] := ⟨_, rfl⟩
        have q1 := one2 g1 hlt
        have q2 := one2 g2 hlt2
        rw [← hx] at q1
        rw [← hy] at q2
        have c10 : w.cell? ⟨b1, o1 + k * 3, none⟩ = some (.int .i64 x.pl.x) := by have := q1 0 (.int .i64 x.pl.x) rfl; simpa using this
        have c11 : w.cell? ⟨b1, o1 + k * 3 + 1, none⟩ = some (.int .i64 x.pl.y) := by have := q1 1 (.int .i64 x.pl.y) rfl; simpa using this
        have c12 : w.cell? ⟨b1, o1 + k * 3 + 2, none⟩ = some (.int .i64 x.kind) := by have := q1 2 (.int .i64 x.kind) rfl; simpa using this
        have c20 : w.cell? ⟨b2, o2 + k * 3, none⟩ = some (.int .i64 y.pl.x) := by have := q2 0 (.int .i64 y.pl.x) rfl; simpa using this
        have c21 : w.cell? ⟨b2, o2 + k * 3 + 1, none⟩ = some (.int .i64 y.pl.y) := by have := q2 1 (.int .i64 y.pl.y) rfl; simpa using this
        have c22 : w.cell? ⟨b2, o2 + k * 3 + 2, none⟩ = some (.int .i64 y.kind) := by have := q2 2 (.int .i64 y.kind) rfl; simpa using this
        have Hx := Lib.hid hx
        have Hy := Lib.hid hy
        clear hx hy q1 q2 g1 g2
        have hE := eq_Pu x y
        go_wp2_with fail
        go_quiet (fail)
        go_wp2_with fail
        go_roundw
        case rel =>
          refine ⟨k + 1, decide (x = y), by first | rfl | (congr 1; rw [Bool.eq_iff_iff]; simp), by go_num, by omega, ?_, _, rfl⟩
          unfold Hid
          rw [Bool.eq_iff_iff]
          simp only [decide_eq_true_eq]
          rw [List.take_succ_eq_append_getElem hlt, List.take_succ_eq_append_getElem hlt2, ← Hx.out, ← Hy.out, Ht.out]
          simp [Hl.out]
        case measure => simp [intOf]; omega
      · go_wp2_with fail
        go_ret
        obtain rfl : k = xs.length := by omega
        refine ⟨?_, n, rfl⟩
        have := Ht.out
        rw [List.take_of_length_le (Nat.le_refl _), List.take_of_length_le (by rw [Hl.out]; exact Nat.le_refl _)] at this
        simp [this]
end Go.Proofs.Ytijcmgfblpokhaa

/- What the chapter's functions compute, in plain Lean: no program in sight. -/
namespace Go.Proofs.Ytijcmgfblpokhaa

open Go.RowKit
theorem ret_b {w w' : World} {b c : Bool} (h : c = b) (hb : Below w.heap.size w w') : Ret (.bool b) w (.returned (.bool c)) w' := ⟨by rw [h], hb⟩
theorem ret_i {w w' : World} {b c : Int} (h : c = b) (hb : Below w.heap.size w w') : Ret (.int .i64 b) w (.returned (.int .i64 c)) w' := ⟨by rw [h], hb⟩

theorem Sl.drew {α : Type} {w : World} {B k : Nat} {enc : α → List Value} {v : Value} {xs : List α} (h : Sl w B k enc v xs) : Sl w.drew B k enc v xs := h
theorem Sl.drewN {α : Type} {w : World} {B k : Nat} {enc : α → List Value} {v : Value} {xs : List α} (h : Sl w B k enc v xs) (n : Nat) : Sl (w.drewN n) B k enc v xs := h
theorem Sl.get {α : Type} {w : World} {B k n c : Nat} {enc : α → List Value} {A : Option Addr} {xs : List α} (h : Sl w B k enc (.slice A n c) xs) {i : Nat} (hi : i < xs.length) :
    ∃ b off, A = some ⟨b, off, none⟩ ∧ b < B ∧ ∀ j u, (enc xs[i])[j]? = some u → w.cell? ⟨b, off + i * k + j, none⟩ = some u := by
  obtain ⟨A', c', he, h1, h2, h3⟩ := h
  cases he
  obtain ⟨b, off, rfl, hb, h4⟩ := h3 (by omega)
  exact ⟨b, off, rfl, hb, h4 i _ (List.getElem?_eq_getElem hi)⟩
theorem Sl.get1 {w : World} {B n c : Nat} {A : Option Addr} {xs : List Int} (h : Sl w B 1 intC (.slice A n c) xs) {i : Nat} (hi : i < xs.length) :
    ∃ b off, A = some ⟨b, off, none⟩ ∧ b < B ∧ w.cell? ⟨b, off + i, none⟩ = some (.int .i64 xs[i]) := by
  obtain ⟨b, off, rfl, hb, q⟩ := h.get hi
  exact ⟨b, off, rfl, hb, by simpa using q 0 _ rfl⟩
theorem HaAt.kind {w : World} {B n c : Nat} {h : Ha} {vw vs vb : Value} {A : Option Addr} {raws : List RK} (H : HaAt w B h vw vs vb (.slice A n c) raws) {q : Nat} (hq : q < h.kinds.length) :
    ∃ b o aA an ac, A = some ⟨b, o, none⟩ ∧ b < B ∧ w.cell? ⟨b, o + q * 6, none⟩ = some (.int .i64 h.kinds[q].lo) ∧ w.cell? ⟨b, o + q * 6 + 1, none⟩ = some (.int .i64 h.kinds[q].hi) ∧ w.cell? ⟨b, o + q * 6 + 2, none⟩ = some (.bool h.kinds[q].water) ∧
      w.cell? ⟨b, o + q * 6 + 3, none⟩ = some (.slice aA an ac) ∧ w.cell? ⟨b, o + q * 6 + 4, none⟩ = some (.int .i64 h.kinds[q].rent) ∧ w.cell? ⟨b, o + q * 6 + 5, none⟩ = some (.int .i64 h.kinds[q].most) ∧ Sl w B 1 intC (.slice aA an ac) h.kinds[q].away := by
  have hltr : q < raws.length := by rw [H.kinds.1]; exact hq
  obtain ⟨b1, o1, hA, hb1, q1⟩ := H.kraws.get hltr
  obtain ⟨f1, f2, f3, f4, f5, f6⟩ := H.kinds.2 q raws[q] h.kinds[q] (List.getElem?_eq_getElem hltr) (List.getElem?_eq_getElem hq)
  refine ⟨b1, o1, raws[q].aA, raws[q].an, raws[q].ac, hA, hb1, ?_, ?_, ?_, ?_, ?_, ?_, f6⟩
  · rw [← f1]; simpa using q1 0 _ rfl
  · rw [← f2]; simpa using q1 1 _ rfl
  · rw [← f3]; simpa using q1 2 _ rfl
  · exact q1 3 _ rfl
  · rw [← f4]; simpa using q1 4 _ rfl
  · rw [← f5]; simpa using q1 5 _ rfl
theorem undrew {w w1 : World} (h : Below w.drew.heap.size w.drew w1) : Below w.heap.size w w1 := ⟨h.os, h.tape, h.output, h.size, h.block⟩
theorem undrewN {w w1 : World} {n : Nat} (h : Below (w.drewN n).heap.size (w.drewN n) w1) : Below w.heap.size w w1 := ⟨h.os, h.tape, h.output, h.size, h.block⟩
theorem keepcell {W w1 : World} {b o : Nat} {v : Value} (hb : Below W.heap.size W w1) (h : b < W.heap.size) (hc : W.cell? ⟨b, o, none⟩ = some v) : w1.cell? ⟨b, o, none⟩ = some v := (hb.cell (p := ⟨b, o, none⟩) h).trans hc
/-- the first error of n things; 0 if there is none -/
def firstErr (f : Nat → Int) : Nat → Int
  | 0 => 0
  | n + 1 => if firstErr f n ≠ 0 then firstErr f n else f n
theorem firstErr_zero {f : Nat → Int} : ∀ {n : Nat}, firstErr f n = 0 ↔ ∀ i, i < n → f i = 0
  | 0 => by simp [firstErr]
  | n + 1 => by
    have ih := firstErr_zero (f := f) (n := n)
    unfold firstErr
    split
    · rename_i h
      constructor
      · intro h'; exact absurd h' h
      · intro h'; exact absurd (ih.2 fun i hi => h' i (by omega)) h
    · rename_i h
      simp at h
      constructor
      · intro h' i hi
        rcases Nat.lt_or_ge i n with hlt | hge
        · exact ih.1 h i hlt
        · obtain rfl : i = n := by omega
          exact h'
      · intro h'; exact h' n (by omega)
theorem firstErr_hit {f : Nat → Int} {k : Nat} (h0 : firstErr f k = 0) (hk : f k ≠ 0) : ∀ {n : Nat}, k < n → firstErr f n = f k
  | 0, h => by omega
  | n + 1, h => by
    unfold firstErr
    rcases Nat.lt_or_ge k n with hlt | hge
    · rw [firstErr_hit h0 hk hlt, if_pos hk]
    · obtain rfl : k = n := by omega
      rw [if_neg (by simp [h0])]
theorem firstErr_step {f : Nat → Int} {k : Nat} (h0 : firstErr f k = 0) (hk : f k = 0) : firstErr f (k + 1) = 0 := by
  unfold firstErr; rw [if_neg (by simp [h0]), hk]

def inR (n lo hi : Int) : Bool := decide (lo ≤ n ∧ n ≤ hi)
def isPl (h : Ha) (c : Pl) : Bool := inR c.x 0 (h.wide - 1) && inR c.y 0 (h.deep - 1)
def hasPl (l : List Pl) (c : Pl) : Bool := l.contains c
def cellErr (h : Ha) (l : List Pl) (k : Nat) : Int := match l[k]? with
  | some c => if !isPl h c then 3 else if hasPl (l.take k) c then 4 else 0
  | none => 0
def cellsErr (h : Ha) (l : List Pl) : Int := if 24 < l.length then 6 else firstErr (cellErr h l) l.length
def colsOf (h : Ha) : Int := (h.wide + h.bay.x - 1) / h.bay.x
def baysOf (h : Ha) : Int := colsOf h * ((h.deep + h.bay.y - 1) / h.bay.y)
def bayOf (h : Ha) (c : Pl) : Int := c.y / h.bay.y * colsOf h + c.x / h.bay.x
def kindErr (h : Ha) (k : Ki) : Int :=
  if !inR k.lo 0 1000000 || !inR k.hi 0 1000000 then 1
  else if k.hi < k.lo then 5
  else if k.away.length ≠ h.kinds.length then 2
  else if k.away.any (fun n => !inR n 0 9) then 1
  else if !inR k.rent 0 1000000 || !inR k.most 0 24 then 1 else 0
def kindErrAt (h : Ha) (i : Nat) : Int := match h.kinds[i]? with
  | some k => kindErr h k
  | none => 0
def hallErr (h : Ha) : Int :=
  if !inR h.wide 1 6 || !inR h.deep 1 4 then 1
  else if cellsErr h h.water ≠ 0 then cellsErr h h.water
  else if cellsErr h h.shut ≠ 0 then cellsErr h h.shut
  else if !inR h.bay.x 1 h.wide || !inR h.bay.y 1 h.deep then 1
  else if (h.bears.length : Int) ≠ baysOf h then 2
  else if h.bears.any (fun n => !inR n 0 10000000) then 1
  else if h.kinds.length = 0 then 7
  else if 6 < h.kinds.length then 6
  else firstErr (kindErrAt h) h.kinds.length

theorem div_up {n b : Int} (hb : 1 ≤ b) : (n + b - 1) / b = (n - 1) / b + 1 := by
  rw [show n + b - 1 = (n - 1) + b from by omega, Int.add_ediv_of_dvd_right (Int.dvd_refl b), Int.ediv_self (by omega)]
theorem bays_eq {h : Ha} (hx : 1 ≤ h.bay.x) (hy : 1 ≤ h.bay.y) : bayOf h ⟨h.wide - 1, h.deep - 1⟩ + 1 = baysOf h := by
  unfold bayOf baysOf colsOf
  rw [div_up hx, div_up hy]
  simp only [Int.add_mul, Int.mul_add]
  have := Int.mul_comm ((h.deep - 1) / h.bay.y) ((h.wide - 1) / h.bay.x)
  omega
/-- halls as small as these do not make numbers wrap -/
structure Small (h : Ha) : Prop where
  w1 : 1 ≤ h.wide
  w2 : h.wide ≤ 1000
  d1 : 1 ≤ h.deep
  d2 : h.deep ≤ 1000
  x1 : 1 ≤ h.bay.x
  x2 : h.bay.x ≤ 1000
  y1 : 1 ≤ h.bay.y
  y2 : h.bay.y ≤ 1000
theorem div_le {n b : Int} (hn : 0 ≤ n) (hb : 1 ≤ b) : 0 ≤ n / b ∧ n / b ≤ n :=
  ⟨Int.ediv_nonneg hn (by omega), Int.ediv_le_self b hn⟩
theorem mul_le {a b m n : Int} (ha : 0 ≤ a) (hb : 0 ≤ b) (h1 : a ≤ m) (h2 : b ≤ n) : 0 ≤ a * b ∧ a * b ≤ m * n :=
  ⟨Int.mul_nonneg ha hb, Int.mul_le_mul h1 h2 hb (by omega)⟩
theorem cols_le {h : Ha} (s : Small h) : 0 ≤ (h.wide + h.bay.x - 1) / h.bay.x ∧ (h.wide + h.bay.x - 1) / h.bay.x ≤ 2000 := by
  have := div_le (n := h.wide + h.bay.x - 1) (b := h.bay.x) (by have := s.w1; have := s.x1; omega) s.x1
  have := s.w2
  have := s.x2
  omega

def farOf (a b : Pl) : Int := max (a.x - b.x) (b.x - a.x) + max (a.y - b.y) (b.y - a.y)
def noKi : Ki := ⟨0, 0, false, [], 0, 0⟩
def kAt (h : Ha) (n : Int) : Ki := h.kinds.getD n.toNat noKi
def awAt (k : Ki) (n : Int) : Int := k.away.getD n.toNat 0
def clash (h : Ha) (o p : Pu) : Bool := decide (farOf o.pl p.pl < max (awAt (kAt h p.kind) o.kind) (awAt (kAt h o.kind) p.kind))
def isKind (h : Ha) (n : Int) : Bool := inR n 0 (h.kinds.length - 1)
def putErr (h : Ha) (before : List Pu) (p : Pu) : Int :=
  if !isPl h p.pl then 3 else if hasPl h.shut p.pl then 11 else if !isKind h p.kind then 8
  else if before.any (fun o => decide (o.pl = p.pl)) then 4
  else if (kAt h p.kind).water && !hasPl h.water p.pl then 7
  else if before.any (fun o => clash h o p) then 9 else 0
def putErrAt (h : Ha) (l : List Pu) (k : Nat) : Int := match l[k]? with
  | some p => putErr h (l.take k) p
  | none => 0
def manyOf (l : List Pu) (k : Nat) : Nat := (l.filter fun p => p.kind = (k : Int)).length
def overAt (h : Ha) (l : List Pu) (k : Nat) : Int := match h.kinds[k]? with
  | some q => if q.most < (manyOf l k : Int) then 13 else 0
  | none => 0
def layErr (h : Ha) (l : List Pu) : Int :=
  if 24 < l.length then 6
  else if firstErr (putErrAt h l) l.length ≠ 0 then firstErr (putErrAt h l) l.length
  else firstErr (overAt h l) h.kinds.length
def layoutErr (h : Ha) (l : List Pu) : Int := if hallErr h ≠ 0 then hallErr h else layErr h l
/-- what a valid hall is -/
structure VK (h : Ha) (k : Ki) : Prop where
  lo0 : 0 ≤ k.lo
  loHi : k.lo ≤ k.hi
  hi1 : k.hi ≤ 1000000
  away : k.away.length = h.kinds.length
  awayIn : ∀ n ∈ k.away, 0 ≤ n ∧ n ≤ 9
  rent0 : 0 ≤ k.rent
  rent1 : k.rent ≤ 1000000
  most0 : 0 ≤ k.most
  most1 : k.most ≤ 24
structure VH (h : Ha) : Prop where
  w1 : 1 ≤ h.wide
  w2 : h.wide ≤ 6
  d1 : 1 ≤ h.deep
  d2 : h.deep ≤ 4
  x1 : 1 ≤ h.bay.x
  x2 : h.bay.x ≤ h.wide
  y1 : 1 ≤ h.bay.y
  y2 : h.bay.y ≤ h.deep
  water : cellsErr h h.water = 0
  shut : cellsErr h h.shut = 0
  bears : (h.bears.length : Int) = baysOf h
  bearsIn : ∀ n ∈ h.bears, 0 ≤ n ∧ n ≤ 10000000
  kinds0 : 0 < h.kinds.length
  kinds6 : h.kinds.length ≤ 6
  kind : ∀ k ∈ h.kinds, VK h k
theorem inR_true {n a b : Int} : inR n a b = true ↔ a ≤ n ∧ n ≤ b := by simp [inR]
theorem VK.of {h : Ha} {k : Ki} (e : kindErr h k = 0) : VK h k := by
  unfold kindErr at e
  repeat' (split at e <;> try (exact absurd e (by decide)))
  rename_i h1 h2 h3 h4 h5
  simp only [Bool.or_eq_true, Bool.not_eq_true', not_or, Bool.not_eq_false, inR_true] at h1 h5
  simp only [List.any_eq_true, Bool.not_eq_true', not_exists, not_and, Bool.not_eq_false, inR_true] at h4
  exact ⟨by omega, by omega, by omega, by simpa using h3, h4, by omega, by omega, by omega, by omega⟩
theorem VH.of {h : Ha} (e : hallErr h = 0) : VH h := by
  unfold hallErr at e
  by_cases h1 : (!inR h.wide 1 6 || !inR h.deep 1 4) = true
  · rw [if_pos h1] at e; exact absurd e (by decide)
  rw [if_neg h1] at e
  by_cases h2 : cellsErr h h.water ≠ 0
  · rw [if_pos h2] at e; exact absurd e h2
  rw [if_neg h2] at e
  by_cases h3 : cellsErr h h.shut ≠ 0
  · rw [if_pos h3] at e; exact absurd e h3
  rw [if_neg h3] at e
  by_cases h4 : (!inR h.bay.x 1 h.wide || !inR h.bay.y 1 h.deep) = true
  · rw [if_pos h4] at e; exact absurd e (by decide)
  rw [if_neg h4] at e
  by_cases h5 : (h.bears.length : Int) ≠ baysOf h
  · rw [if_pos h5] at e; exact absurd e (by decide)
  rw [if_neg h5] at e
  by_cases h6 : h.bears.any (fun n => !inR n 0 10000000) = true
  · rw [if_pos h6] at e; exact absurd e (by decide)
  rw [if_neg h6] at e
  by_cases h7 : h.kinds.length = 0
  · rw [if_pos h7] at e; exact absurd e (by decide)
  rw [if_neg h7] at e
  by_cases h8 : 6 < h.kinds.length
  · rw [if_pos h8] at e; exact absurd e (by decide)
  rw [if_neg h8, firstErr_zero] at e
  simp only [Bool.or_eq_true, Bool.not_eq_true', not_or, Bool.not_eq_false, inR_true] at h1 h4
  simp only [List.any_eq_true, Bool.not_eq_true', not_exists, not_and, Bool.not_eq_false, inR_true] at h6
  refine ⟨h1.1.1, h1.1.2, h1.2.1, h1.2.2, h4.1.1, h4.1.2, h4.2.1, h4.2.2, by simpa using h2, by simpa using h3, by simpa using h5, h6, by omega, by omega, fun k hk => ?_⟩
  obtain ⟨i, hi, rfl⟩ := List.getElem_of_mem hk
  refine VK.of ?_
  have := e i hi
  simpa [kindErrAt, hi] using this
theorem VH.small {h : Ha} (v : VH h) : Small h := by
  obtain ⟨a, b, c, d, e, f, g, i⟩ := v
  exact ⟨by omega, by omega, by omega, by omega, by omega, by omega, by omega, by omega⟩
/-- puts that stand at places and are of kinds that there are -/
def GoodP (h : Ha) (o : Pu) : Prop := isPl h o.pl = true ∧ isKind h o.kind = true
theorem GoodP.of {h : Ha} {b : List Pu} {p : Pu} (e : putErr h b p = 0) : GoodP h p := by
  unfold putErr at e
  constructor
  · by_cases h1 : isPl h p.pl = true
    · exact h1
    · rw [if_pos (by simpa using h1)] at e; exact absurd e (by decide)
  · by_cases h1 : isKind h p.kind = true
    · exact h1
    · split at e
      · exact absurd e (by decide)
      split at e
      · exact absurd e (by decide)
      rw [if_pos (by simpa using h1)] at e; exact absurd e (by decide)
theorem GoodP.bounds {h : Ha} {o : Pu} (v : VH h) (g : GoodP h o) : 0 ≤ o.pl.x ∧ o.pl.x ≤ 5 ∧ 0 ≤ o.pl.y ∧ o.pl.y ≤ 3 ∧ 0 ≤ o.kind ∧ o.kind < h.kinds.length := by
  obtain ⟨g1, g2⟩ := g
  simp only [isPl, Bool.and_eq_true, inR_true, isKind] at g1 g2
  have := v.w2
  have := v.d2
  omega
end Go.Proofs.Ytijcmgfblpokhaa

/- The machine on values at work: what its steps yield, for simp. -/
namespace Go.Proofs.Ytijcmgfblpokhaa.Vm
open Go Go.Proofs

section
variable (T : Tab) (t : Nat) (a b : Int)
def fit (a : Int) : Prop := -9223372036854775808 ≤ a ∧ a < 9223372036854775808
theorem v_lss : vbin T .lss t (vi a) (vi b) = some (vb (decide (a < b))) := fbin_ok T .lss t a b _ (by
  simp only [fbin, leI_eq]
  congr 2
  by_cases h : b ≤ a
  · rw [decide_eq_true h, decide_eq_false (by omega)]; rfl
  · rw [decide_eq_false h, decide_eq_true (by omega)]; rfl)
theorem v_gtr : vbin T .gtr t (vi a) (vi b) = some (vb (decide (b < a))) := fbin_ok T .gtr t a b _ (by
  simp only [fbin, leI_eq]
  congr 2
  by_cases h : a ≤ b
  · rw [decide_eq_true h, decide_eq_false (by omega)]; rfl
  · rw [decide_eq_false h, decide_eq_true (by omega)]; rfl)
theorem v_leq : vbin T .leq t (vi a) (vi b) = some (vb (decide (a ≤ b))) := vbin_leq T t a b
theorem v_geq : vbin T .geq t (vi a) (vi b) = some (vb (decide (b ≤ a))) := vbin_geq T t a b
theorem v_eql : vbin T .eql t (vi a) (vi b) = some (vb (decide (a = b))) := fbin_ok T .eql t a b _ (by simp [fbin, eqI_eq])
theorem v_neq : vbin T .neq t (vi a) (vi b) = some (vb (!decide (a = b))) := fbin_ok T .neq t a b _ (by simp [fbin, eqI_eq])
theorem v_add (h : -9223372036854775808 ≤ a + b ∧ a + b < 9223372036854775808) : vbin T .add t (vi a) (vi b) = some (vi (a + b)) := fbin_ok T .add t a b _ (by
  simp only [fbin, wrap64_eq]; rw [IntWalk.i64_in _ (by omega)])
theorem v_sub (h : -9223372036854775808 ≤ a - b ∧ a - b < 9223372036854775808) : vbin T .sub t (vi a) (vi b) = some (vi (a - b)) := fbin_ok T .sub t a b _ (by
  simp only [fbin, wrap64_eq]; rw [IntWalk.i64_in _ (by omega)])
theorem v_mul (h : -9223372036854775808 ≤ a * b ∧ a * b < 9223372036854775808) : vbin T .mul t (vi a) (vi b) = some (vi (a * b)) := fbin_ok T .mul t a b _ (by
  simp only [fbin, wrap64_eq]; rw [IntWalk.i64_in _ (by omega)])
theorem v_quo (h : 0 ≤ a ∧ a < 9223372036854775808) (hb : 1 ≤ b) : vbin T .quo t (vi a) (vi b) = some (vi (a / b)) := by
  have h0 : ¬ b = 0 := by omega
  have h1 := IntWalk.i64_quo a b (by omega)
  have h2 : Go.binOp .quo 0 (.int .i64 a) (.int .i64 b) = .pure (.int .i64 (a / b)) := by
    show Op.intDiv .quo .i64 a b = _
    unfold Op.intDiv
    rw [if_neg (by simpa using h0)]
    simp only [h1]
    rfl
  simp only [vbin, h2, pureOf, Option.map_some, ofValue]
theorem v_max2 : vexts true (vi a) [vi b] = some (vi (max a b)) := by
  by_cases h : a < b
  · have h' : decide (b > a) = true := decide_eq_true h
    simp [vexts, vext, h', Int.max_eq_right (Int.le_of_lt h)]
  · have h' : decide (b > a) = false := decide_eq_false h
    simp [vexts, vext, h', Int.max_eq_left (by omega : b ≤ a)]
theorem v_min2 : vexts false (vi a) [vi b] = some (vi (min a b)) := by
  by_cases h : b < a
  · have h' : decide (b < a) = true := decide_eq_true h
    simp [vexts, vext, h', Int.min_eq_right (Int.le_of_lt h)]
  · have h' : decide (b < a) = false := decide_eq_false h
    simp [vexts, vext, h', Int.min_eq_left (by omega : a ≤ b)]
theorem v_not (x : Bool) : vun .not (vb x) = some (vb (!x)) := by cases x <;> rfl
end
theorem hget (H L : List VObj) (k : Nat) : (H ++ L)[H.length + k]? = L[k]? := by rw [List.getElem?_append_right (by omega)]; congr 1; omega
theorem hget0 (H L : List VObj) : (H ++ L)[H.length]? = L[0]? := hget H L 0
theorem hset (H L : List VObj) (k : Nat) (o : VObj) : (H ++ L).set (H.length + k) o = H ++ L.set k o := by rw [List.set_append_right _ _ (by omega)]; congr 2; omega
theorem hset0 (H L : List VObj) (o : VObj) : (H ++ L).set H.length o = H ++ L.set 0 o := hset H L 0 o
theorem push_eq (M : Mem) (o : VObj) : M.push o = ⟨M.H ++ [o], M.lg⟩ := rfl
theorem addLg_nil (id : Nat) (lg : List (Nat × Nat)) : addLg id [] lg = lg := rfl

theorem nat_blt (a b : Nat) : Nat.blt a b = decide (a < b) := by
  cases h : Nat.blt a b with
  | true => rw [Nat.blt_eq] at h; simp [h]
  | false =>
    have : ¬ a < b := fun h' => by rw [← Nat.blt_eq] at h'; rw [h'] at h; cases h
    simp [this]
theorem nat_ble (a b : Nat) : Nat.ble a b = decide (a ≤ b) := by
  cases h : Nat.ble a b with
  | true => rw [Nat.ble_eq] at h; simp [h]
  | false =>
    have : ¬ a ≤ b := fun h' => by rw [← Nat.ble_eq] at h'; rw [h'] at h; cases h
    simp [this]
theorem nat_beq (a b : Nat) : Nat.beq a b = decide (a = b) := by
  cases h : Nat.beq a b with
  | true => rw [Nat.beq_eq] at h; simp [h]
  | false =>
    have : ¬ a = b := fun h' => by rw [← Nat.beq_eq] at h'; rw [h'] at h; cases h
    simp [this]
/-- the end of a function that makes objects of its own and drops them -/
def ownQ (T : Tab) (f : Nat) (fn : Func) (M : Mem) (Q : VV → Mem → Prop) : PQ := fun ex e M' D => (ex = .normal ∨ ex = .ret) ∧ D = [] ∧ (∃ X, M'.lg = M.lg ++ X ∧ ∀ e ∈ X, M.H.length ≤ e.1) ∧ ∃ H1 L, M'.H = H1 ++ L ∧ H1.length = M.H.length ∧ ∃ vs, vresL T e M' fn.results.toList = some vs ∧ ∃ r, frz M.H.length M'.H (vtup vs) = r ∧ (∀ x ∈ refs r, x < M.H.length) ∧ Q r ⟨H1, M.lg⟩
theorem VC_own {P : Program} {T : Tab} (hT : TabOk P T) {f : Nat} {fn : Func} {c : Code} {args : List VV} {M : Mem} {Q : VV → Mem → Prop} (hf : T.fn f = some fn) (hb : fn.body = some c) (hn : args.length ≤ fn.ntmps) (hk : T.keeps f = false)
    (h : WCode P ⟨f, none, fn.ntmps⟩ c (zipEnv 0 args) M [] (ownQ T f fn M Q)) :
    VC P f args M Q := by
  refine VC_fn hT hf hb hn fun hlg => h.mono ?_
  rintro ex e M' D ⟨hex, rfl, ⟨X, hl, hX⟩, H1, L, hH, hlen, vs, h1, r, hr, h2, h3⟩
  have key : retQ T f M.H.length fn Q .ret e M' [] := by
    simp only [retQ, vkill]
    have hM : ({ M' with H := M'.H } : Mem) = M' := rfl
    rw [hM, h1]
    simp only
    have q1 : M'.lg.filter (fun e => Nat.blt e.1 M.H.length) = M.lg := by
      rw [hl, List.filter_append, List.filter_eq_self.2 fun e he => by rw [Nat.blt_eq]; exact (hlg e he).1, List.filter_eq_nil_iff.2 fun e he => by rw [Nat.blt_eq]; have := hX e he; omega, List.append_nil]
    have q2 : (M.lg.all fun e => Nat.blt e.2 M.H.length) = true := List.all_eq_true.2 fun e he => by rw [Nat.blt_eq]; exact (hlg e he).2
    have q3 : ((refs r).all (Nat.blt · M.H.length)) = true := List.all_eq_true.2 fun x hx => by rw [Nat.blt_eq]; exact h2 x hx
    have q4 : M'.H.take M.H.length = H1 := by rw [hH, ← hlen]; simp
    unfold vfinish
    rw [hk, q1, hr, q2, q3, q4]
    exact h3
  rcases hex with rfl | rfl
  · exact key
  · exact key
theorem VC_own' {P : Program} {T : Tab} (hT : TabOk P T) {f : Nat} {fn : Func} {c : Code} {nt : Nat} {args : List VV} {M : Mem} {Q : VV → Mem → Prop} (hf : T.fn f = some fn) (hb : fn.body = some c) (hnt : fn.ntmps = nt) (hn : Nat.ble args.length nt = true) (hk : T.keeps f = false)
    (h : WCode P ⟨f, none, nt⟩ c (zipEnv 0 args) M [] (ownQ T f fn M Q)) : VC P f args M Q := by
  subst hnt
  exact VC_own hT hf hb (Nat.le_of_ble_eq_true hn) hk h
/-- the end, where memory is as it was -/
theorem own_ret {T : Tab} {f : Nat} {fn : Func} {M : Mem} {L : List VObj} {Q : VV → Mem → Prop} {e : Env} {vs : List VV} {r : VV} (h1 : vresL T e ⟨M.H ++ L, M.lg⟩ fn.results.toList = some vs) (hr : frz M.H.length (M.H ++ L) (vtup vs) = r) (h2 : refs r = []) (h3 : Q r M) : ownQ T f fn M Q .ret e ⟨M.H ++ L, M.lg⟩ [] :=
  ⟨.inr rfl, rfl, ⟨[], by simp, by simp⟩, M.H, L, rfl, rfl, vs, h1, r, hr, by simp [h2], h3⟩
theorem own_ret0 {T : Tab} {f : Nat} {fn : Func} {M : Mem} {Q : VV → Mem → Prop} {e : Env} {vs : List VV} {r : VV} (h1 : vresL T e M fn.results.toList = some vs) (hr : frz M.H.length M.H (vtup vs) = r) (h2 : refs r = []) (h3 : Q r M) : ownQ T f fn M Q .ret e M [] :=
  ⟨.inr rfl, rfl, ⟨[], by simp, by simp⟩, M.H, [], by simp, rfl, vs, h1, r, hr, by simp [h2], h3⟩
theorem own_end {T : Tab} {f : Nat} {fn : Func} {M : Mem} {L : List VObj} {Q : VV → Mem → Prop} {e : Env} {vs : List VV} {r : VV} (h1 : vresL T e ⟨M.H ++ L, M.lg⟩ fn.results.toList = some vs) (hr : frz M.H.length (M.H ++ L) (vtup vs) = r) (h2 : refs r = []) (h3 : Q r M) : ownQ T f fn M Q .normal e ⟨M.H ++ L, M.lg⟩ [] :=
  ⟨.inl rfl, rfl, ⟨[], by simp, by simp⟩, M.H, L, rfl, rfl, vs, h1, r, hr, by simp [h2], h3⟩

abbrev intP (n : Int) : List PV := [.int .i64 n]
abbrev plP (c : Pl) : List PV := [.int .i64 c.x, .int .i64 c.y]
abbrev spP (c : Sp) : List PV := [.int .i64 c.lo, .int .i64 c.hi]
abbrev puP (c : Pu) : List PV := [.int .i64 c.pl.x, .int .i64 c.pl.y, .int .i64 c.kind]
abbrev kiP (k : Ki) : List PV := [.int .i64 k.lo, .int .i64 k.hi, .bool k.water, .sl 1 (k.away.map intP), .int .i64 k.rent, .int .i64 k.most]
abbrev plV (c : Pl) : VV := .agg [vi c.x, vi c.y]
abbrev spV (c : Sp) : VV := .agg [vi c.lo, vi c.hi]
abbrev puV (c : Pu) : VV := .agg [vi c.pl.x, vi c.pl.y, vi c.kind]
abbrev intsV (l : List Int) : VV := .p (.sl 1 (l.map intP))
abbrev plsV (l : List Pl) : VV := .p (.sl 2 (l.map plP))
abbrev spsV (l : List Sp) : VV := .p (.sl 2 (l.map spP))
abbrev pusV (l : List Pu) : VV := .p (.sl 3 (l.map puP))
abbrev kisV (l : List Ki) : VV := .p (.sl 6 (l.map kiP))
abbrev kiV (k : Ki) : VV := .agg [vi k.lo, vi k.hi, vb k.water, intsV k.away, vi k.rent, vi k.most]
abbrev hallV (h : Ha) : VV := .agg [vi h.wide, vi h.deep, plsV h.water, plsV h.shut, vi h.bay.x, vi h.bay.y, intsV h.bears, kisV h.kinds]
theorem own_ret1 {T : Tab} {f : Nat} {fn : Func} {M : Mem} {L : List VObj} {e : Env} {t : Nat} {X : VV} (h1 : fn.results.toList = [.tmp t]) (hr : frz M.H.length (M.H ++ L) (get e t) = X) (h2 : refs X = []) : ownQ T f fn M (fun r M' => M' = M ∧ r = X) .ret e ⟨M.H ++ L, M.lg⟩ [] :=
  own_ret (vs := [get e t]) (by rw [h1]; rfl) hr h2 ⟨rfl, rfl⟩
theorem own_ret10 {T : Tab} {f : Nat} {fn : Func} {M : Mem} {e : Env} {t : Nat} {X : VV} (h1 : fn.results.toList = [.tmp t]) (hr : frz M.H.length M.H (get e t) = X) (h2 : refs X = []) : ownQ T f fn M (fun r M' => M' = M ∧ r = X) .ret e M [] :=
  own_ret0 (vs := [get e t]) (by rw [h1]; rfl) hr h2 ⟨rfl, rfl⟩
theorem idx_nat (n : Nat) : idx (vi (n : Int)) = some n := by
  have : (0 : Int) ≤ (n : Int) := Int.natCast_nonneg n
  simp [idx, this]
theorem idx_nn (a : Int) (h : 0 ≤ a) : idx (vi a) = some a.toNat := by simp [idx, h]
theorem idx_lit (n : Nat) : idx (vi (OfNat.ofNat n)) = some n := idx_nat n
theorem map_at {α β : Type} {f : α → β} {l : List α} {i : Nat} {x : α} (h : l[i]? = some x) : (l.map f)[i]? = some (f x) := by simp [h]
theorem assoc_set (ks k2 : List Int) (v : VV) : ∀ es, assoc k2 (assocSet ks v es) = if ks = k2 then some v else assoc k2 es
  | [] => by
    simp only [assocSet, assoc]
    by_cases h : ks = k2 <;> simp [h]
  | (k, u) :: r => by
    simp only [assocSet, assoc]
    by_cases h : k = ks
    · subst h
      simp only [decide_true, cond_true, assoc]
      by_cases h2 : k = k2 <;> simp [h2]
    · simp only [decide_eq_false h, cond_false, assoc, assoc_set ks k2 v r]
      by_cases h2 : k = k2
      · subst h2
        have : ¬ ks = k := fun e => h e.symm
        simp [this]
      · simp [h2]
def KSh2 : KSh := .nums 2
/-- an environment holds at least this -/
def Sub : Env → Env → Prop
  | [], _ => True
  | (k, v) :: r, e => get e k = v ∧ Sub r e
theorem Sub.ok : ∀ {E e : Env}, Sub E e → ∀ t, get E t = get e t ∨ get E t = .any
  | [], _, _, _ => .inr rfl
  | (k, v) :: r, e, h, t => by
    rw [get_cons]
    by_cases ht : t = k
    · rw [if_pos ht, ht]; exact .inl h.1.symm
    · rw [if_neg ht]; exact Sub.ok h.2 t
theorem Sub_nil {e : Env} : Sub [] e = True := rfl
theorem Sub_cons {k : Nat} {v : VV} {r e : Env} : Sub ((k, v) :: r) e = (get e k = v ∧ Sub r e) := rfl
/-- the state behind a round -/
def LoopK {σ : Type} (E : σ → Env) (N : σ → Mem) (m : σ → Nat) (good : σ → Prop) (D : List Nat) (s : σ) (e' : Env) (M' : Mem) (D' : List Nat) : Prop := D' = D ∧ ∃ s', m s' < m s ∧ good s' ∧ Sub (E s') e' ∧ M' = N s'
theorem LoopK.mk {σ : Type} {E : σ → Env} {N : σ → Mem} {m : σ → Nat} {good : σ → Prop} {D : List Nat} {s : σ} {e' : Env} {M' : Mem} (s' : σ) (h1 : m s' < m s) (h2 : good s') (h3 : Sub (E s') e') (h4 : M' = N s') : LoopK E N m good D s e' M' D := ⟨rfl, s', h1, h2, h3, h4⟩
theorem W_loopS {σ : Type} {P : Program} {cx : Cx} {e : Env} {M : Mem} {D : List Nat} {Q : PQ} {c : Code} (E : σ → Env) (N : σ → Mem) (m : σ → Nat) (good : σ → Prop) (s0 : σ) (h0 : good s0) (hE : Sub (E s0) e) (hM : M = N s0)
    (round : ∀ s, good s → WCode P cx c (E s) (N s) D (thenQ (LoopK E N m good D s) Q)) : WCode P cx (.loop c) e M D Q := by
  refine W_loop (fun n e M D' => ∃ s, n = m s ∧ good s ∧ Sub (E s) e ∧ M = N s ∧ D' = D) (n := m s0) ⟨s0, rfl, h0, hE, hM, rfl⟩ ?_
  rintro n e M D' ⟨s, rfl, hg, hS, rfl, rfl⟩
  refine (WCode.weak (round s hg) hS.ok).mono ?_
  rintro ex e' M' D1 h
  cases ex <;> first | exact h | skip
  obtain ⟨rfl, s', h1, h2, h3, h4⟩ := h
  exact ⟨m s', h1, s', rfl, h2, h3, h4, rfl⟩
theorem W_drawP {P : Program} {T : Tab} (hT : TabOk P T) {cx : Cx} {e : Env} {M : Mem} {D : List Nat} {Q : PQ} {id : Nat} {ops : Array Oper} (zs : List VObj) (hz : zerosOf T ops.toList = some zs) (hp : planOk ops (mkPlan ops) = true)
    (h : WDraw P T cx.nt ops ops.toList (mkPlan ops) e M.H.length { M with H := M.H ++ zs } [] [] fun e' M' => Q .normal e' M' D) : WCode P cx (.region id ops true) e M D Q := W_draw0 hT hp hz h
theorem arr_get {α : Type} (l : List α) (i : Nat) : (Array.mk l)[i]? = l[i]? := by simp
theorem app_get {H : List VObj} {i : Nat} {o : VObj} (h : H[i]? = some o) (L : List VObj) : (H ++ L)[i]? = some o := by
  rw [List.getElem?_append_left (List.getElem?_eq_some_iff.1 h).1, h]
theorem veq2 (a b c d : Int) : veqCells [vi a, vi b] [vi c, vi d] = some (decide (a = c) && (decide (b = d) && true)) := rfl
theorem v_eqCell (a b : Pl) : vbin T .eql 24 (plV a) (plV b) = some (vb (decide (a = b))) := by
  simp only [vbin, t_cell, veq2]
  cases a; cases b
  rename_i a b c d
  by_cases h1 : a = c <;> by_cases h2 : b = d <;> simp [h1, h2]
theorem v_neCell (a b : Pl) : vbin T .neq 24 (plV a) (plV b) = some (vb (!decide (a = b))) := by
  simp only [vbin, t_cell, veq2]
  cases a; cases b
  rename_i a b c d
  by_cases h1 : a = c <;> by_cases h2 : b = d <;> simp [h1, h2]
theorem v_eqSpan (a b : Sp) : vbin T .eql 54 (spV a) (spV b) = some (vb (decide (a = b))) := by
  simp only [vbin, t_span, veq2]
  cases a; cases b
  rename_i a b c d
  by_cases h1 : a = c <;> by_cases h2 : b = d <;> simp [h1, h2]
theorem veq3 (a b e c d f : Int) : veqCells [vi a, vi b, vi e] [vi c, vi d, vi f] = some (decide (a = c) && (decide (b = d) && (decide (e = f) && true))) := rfl
theorem v_eqPut (a b : Pu) : vbin T .eql 59 (puV a) (puV b) = some (vb (decide (a = b))) := by
  simp only [vbin, t_put, veq3]
  obtain ⟨⟨a, c⟩, k⟩ := a
  obtain ⟨⟨b, d⟩, l⟩ := b
  by_cases h1 : a = b <;> by_cases h2 : c = d <;> by_cases h3 : k = l <;> simp [h1, h2, h3]
theorem fn_call {f : Nat} {fn : Func} {args : List VV} {M : Mem} {Q : VV → Mem → Prop} (hf : T.fn f = some fn) (hk : T.keeps f = false) (h : VC Try.prog f (args.map strip1) M Q) : VCall Try.prog (.fn (.func f) [] []) args M Q :=
  VCall_fn T_ok hf (by
    have : (sarg T f) = strip1 := funext fun v => by simp [sarg, hk]
    simpa [this] using h)
theorem call_eq {f : Nat} {fn : Func} {args : List VV} {M M1 : Mem} {v : VV} (hf : T.fn f = some fn) (hk : T.keeps f = false) (h : VC Try.prog f (args.map strip1) M (fun r M' => M' = M1 ∧ r = v)) {Q : VV → Mem → Prop} (hq : Q v M1) : VCall Try.prog (.fn (.func f) [] []) args M Q :=
  (fn_call hf hk h).mono fun r M' e => by obtain ⟨rfl, rfl⟩ := e; exact hq
theorem call_d {f : Nat} {fn : Func} {args : List VV} {M M1 : Mem} {v : VV} (hf : T.fn f = some fn) (hk : T.keeps f = false) (h : VC Try.prog f (args.map strip1) M (fun r M' => M' = M1 ∧ r = v)) {R : VV → Mem → Prop} (hq : R v M1) : DCallK Try.prog (.fn (.func f) [] []) args M R :=
  ⟨v, M1, call_eq hf hk h ⟨rfl, rfl⟩, hq⟩
theorem take_map {α β : Type} (f : α → β) (l : List α) (i : Nat) : (l.map f).take i = (l.take i).map f := List.map_take.symm
theorem drop_map {α β : Type} (f : α → β) (l : List α) (i : Nat) : (l.map f).drop i = (l.drop i).map f := List.map_drop.symm
/-- what the steps yield, all in one -/
theorem VL : type_of% (And.intro (@S_move) (And.intro (@S_assign) (And.intro (@S_bin) (And.intro (@S_un) (And.intro (@S_guard) (And.intro (@S_pick) (And.intro (@S_nil) (And.intro (@S_box) (And.intro (@S_field) (And.intro (@S_load) (And.intro (@S_store) (And.intro (@S_indexAddr) (And.intro (@S_index) (And.intro (@S_len) (And.intro (@S_append) (And.intro (@S_slice) (And.intro (@S_lookup) (And.intro (@S_build) (And.intro (@S_buildSlice) (And.intro (@S_extract) (And.intro (@S_nilCheck) (And.intro (@S_makeSlice) (And.intro (@S_makeFunc) (And.intro (@S_convert) (And.intro (@S_call) (And.intro (@S_allocT) (And.intro (@S_mapUpdate) (And.intro (@S_makeMap) (And.intro (@S_max) (And.intro (@S_min) (And.intro (@Put_some) (And.intro (@PutM_some) (And.intro (@Then_app) (And.intro (@D_move) (And.intro (@D_assign) (And.intro (@D_bin) (And.intro (@D_un) (And.intro (@D_pick) (And.intro (@D_nil) (And.intro (@D_box) (And.intro (@D_field) (And.intro (@D_load) (And.intro (@D_store) (And.intro (@D_indexAddr) (And.intro (@D_index) (And.intro (@D_len) (And.intro (@D_append) (And.intro (@D_slice) (And.intro (@D_lookup) (And.intro (@D_build) (And.intro (@D_buildSlice) (And.intro (@D_extract) (And.intro (@D_nilCheck) (And.intro (@D_makeSlice) (And.intro (@D_makeFunc) (And.intro (@D_convert) (And.intro (@D_call) (And.intro (@D_mapUpdate) (And.intro (@D_makeMap) (And.intro (@D_max1) (And.intro (@D_min1) (And.intro (@DPut_some) (And.intro (@DRead_some) (And.intro (@DThen_app) (And.intro (@DPutM_some) (And.intro (@DStore_some) (And.intro (@get_cons) (And.intro (@v_lss) (And.intro (@v_gtr) (And.intro (@v_leq) (And.intro (@v_geq) (And.intro (@v_eql) (And.intro (@v_neq) (And.intro (@v_add) (And.intro (@v_sub) (And.intro (@v_mul) (And.intro (@v_quo) (And.intro (@v_not) (And.intro (@v_max2) (And.intro (@v_min2) (And.intro (@v_eqCell) (And.intro (@v_eqPut) (And.intro (@v_eqSpan) (And.intro (@v_neCell) (And.intro (@idx_nat) (And.intro (@idx_nn) (And.intro (@push_eq) (And.intro (@hget) (And.intro (@hget0) (And.intro (@hset) (And.intro (@hset0) (And.intro (@addLg_nil) (And.intro (@t_int) (And.intro (@t_bool) (And.intro (@t_errno) (And.intro (@t_cell) (And.intro (@t_span) (And.intro (@t_put) (And.intro (@t_kind) (And.intro (@t_hall) (And.intro (@t_layout) (And.intro (@t_die) (And.intro (@t_ints) (And.intro (@t_cells) (And.intro (@t_spans) (And.intro (@t_puts) (And.intro (@t_kinds) (And.intro (@t_halls) (And.intro (@t_lays) (And.intro (@t_funcs) (And.intro (@t_row) (And.intro (@t_floor) (And.intro (@t_floor0) (And.intro (@t_cmap) (And.intro (@t_imap) (And.intro (@t_u64) (And.intro (@t_uint) (And.intro (@t_err) (And.intro (@t_try) (And.intro (@t_playout) (And.intro (@List.isEmpty_nil.{0}) (And.intro (@List.isEmpty_cons.{0}) (And.intro (@Bool.or_true) (And.intro (@Bool.true_or) (And.intro (@Bool.or_false) (And.intro (@Bool.false_or) (And.intro (@arr_get) (And.intro (@Int.toNat_natCast) (And.intro (@Int.le_refl) (And.intro (@List.getElem?_toArray.{0}) (And.intro (@List.getElem?_cons_zero.{0}) (And.intro (@List.getElem?_cons_succ.{0}) (And.intro (@List.getElem?_nil.{0}) (And.intro (@List.map_cons.{0, 0}) (And.intro (@List.map_nil.{0, 0}) (And.intro (@List.all_cons.{0}) (And.intro (@List.all_nil.{0}) (And.intro (@List.length_cons.{0}) (And.intro (@List.length_nil.{0}) (And.intro (@List.length_append.{0}) (And.intro (@List.length_map.{0, 0}) (And.intro (@List.drop_zero.{0}) (And.intro (@List.drop_succ_cons.{0}) (And.intro (@List.take_succ_cons.{0}) (And.intro (@List.take_zero.{0}) (And.intro (@List.take_nil.{0}) (And.intro (@List.drop_nil.{0}) (And.intro (@List.cons_append.{0}) (And.intro (@List.nil_append.{0}) (And.intro (@List.append_nil.{0}) (And.intro (@List.append_assoc.{0}) (And.intro (@List.set_cons_zero.{0}) (And.intro (@List.set_cons_succ.{0}) (And.intro (@Option.bind_some.{0, 0}) (And.intro (@Option.bind_none.{0, 0}) (And.intro (@Option.map_some.{0, 0}) (And.intro (@Option.map_none.{0, 0}) (And.intro (@Option.some.injEq.{0}) (And.intro (@Prod.mk.injEq.{0, 0}) (And.intro (@Bool.and_true) (And.intro (@Bool.true_and) (And.intro (@Bool.and_false) (And.intro (@Bool.false_and) (And.intro (@and_true) (And.intro (@true_and) (And.intro (@and_false) (And.intro (@false_and) (And.intro (@Bool.not_true) (And.intro (@Bool.not_false) (And.intro (@Nat.mul_one) (And.intro (@Nat.add_zero) (And.intro (@Nat.zero_add) (And.intro (@Nat.add_assoc) (And.intro (@Nat.lt_add_one) (And.intro (@Nat.zero_lt_succ) (And.intro (@Bool.true_eq_false) (And.intro (@Bool.false_eq_true) (And.intro (@not_true) (And.intro (@not_false_eq_true) (And.intro (@beq_true) (And.intro (@beq_false) (And.intro (@nat_blt) (And.intro (@nat_ble) (And.intro (@nat_beq) (And.intro (@decide_true) (And.intro (@decide_false) (And.intro (@Nat.le_refl) (And.intro (@Nat.zero_le) (And.intro (@List.toList_toArray.{0}) (And.intro (@vload.eq_def) (And.intro (@vstore.eq_def) (And.intro (@vfieldAddr.eq_def) (And.intro (@vindexAddr.eq_def) (And.intro (@vlen.eq_def) (And.intro (@vindex.eq_def) (And.intro (@vbuild.eq_def) (And.intro (@vmakeSlice.eq_def) (And.intro (@vbuildSlice.eq_def) (And.intro (@vslice.eq_def) (And.intro (@vlookup.eq_def) (And.intro (@vmapUpdate.eq_def) (And.intro (@gdB.eq_def) (And.intro (@funcV.eq_def) (And.intro (@boxV.eq_def) (And.intro (@mapV.eq_def) (And.intro (@splice.eq_def) (And.intro (@placesOf.eq_def) (And.intro (@fits.eq_def) (And.intro (@shOf.eq_def) (And.intro (@zeroV.eq_def) (And.intro (@D_allocT) (And.intro (@DAl_some) (And.intro (@take_map) (@drop_map)))))))))))))))))))))))))))))))))))))))))))))))))))))))))))))))))))))))))))))))))))))))))))))))))))))))))))))))))))))))))))))))))))))))))))))))))))))))))))))))))))))))))))))))))))))))))))))))))))))))))))))))))))))) := And.intro (@S_move) (And.intro (@S_assign) (And.intro (@S_bin) (And.intro (@S_un) (And.intro (@S_guard) (And.intro (@S_pick) (And.intro (@S_nil) (And.intro (@S_box) (And.intro (@S_field) (And.intro (@S_load) (And.intro (@S_store) (And.intro (@S_indexAddr) (And.intro (@S_index) (And.intro (@S_len) (And.intro (@S_append) (And.intro (@S_slice) (And.intro (@S_lookup) (And.intro (@S_build) (And.intro (@S_buildSlice) (And.intro (@S_extract) (And.intro (@S_nilCheck) (And.intro (@S_makeSlice) (And.intro (@S_makeFunc) (And.intro (@S_convert) (And.intro (@S_call) (And.intro (@S_allocT) (And.intro (@S_mapUpdate) (And.intro (@S_makeMap) (And.intro (@S_max) (And.intro (@S_min) (And.intro (@Put_some) (And.intro (@PutM_some) (And.intro (@Then_app) (And.intro (@D_move) (And.intro (@D_assign) (And.intro (@D_bin) (And.intro (@D_un) (And.intro (@D_pick) (And.intro (@D_nil) (And.intro (@D_box) (And.intro (@D_field) (And.intro (@D_load) (And.intro (@D_store) (And.intro (@D_indexAddr) (And.intro (@D_index) (And.intro (@D_len) (And.intro (@D_append) (And.intro (@D_slice) (And.intro (@D_lookup) (And.intro (@D_build) (And.intro (@D_buildSlice) (And.intro (@D_extract) (And.intro (@D_nilCheck) (And.intro (@D_makeSlice) (And.intro (@D_makeFunc) (And.intro (@D_convert) (And.intro (@D_call) (And.intro (@D_mapUpdate) (And.intro (@D_makeMap) (And.intro (@D_max1) (And.intro (@D_min1) (And.intro (@DPut_some) (And.intro (@DRead_some) (And.intro (@DThen_app) (And.intro (@DPutM_some) (And.intro (@DStore_some) (And.intro (@get_cons) (And.intro (@v_lss) (And.intro (@v_gtr) (And.intro (@v_leq) (And.intro (@v_geq) (And.intro (@v_eql) (And.intro (@v_neq) (And.intro (@v_add) (And.intro (@v_sub) (And.intro (@v_mul) (And.intro (@v_quo) (And.intro (@v_not) (And.intro (@v_max2) (And.intro (@v_min2) (And.intro (@v_eqCell) (And.intro (@v_eqPut) (And.intro (@v_eqSpan) (And.intro (@v_neCell) (And.intro (@idx_nat) (And.intro (@idx_nn) (And.intro (@push_eq) (And.intro (@hget) (And.intro (@hget0) (And.intro (@hset) (And.intro (@hset0) (And.intro (@addLg_nil) (And.intro (@t_int) (And.intro (@t_bool) (And.intro (@t_errno) (And.intro (@t_cell) (And.intro (@t_span) (And.intro (@t_put) (And.intro (@t_kind) (And.intro (@t_hall) (And.intro (@t_layout) (And.intro (@t_die) (And.intro (@t_ints) (And.intro (@t_cells) (And.intro (@t_spans) (And.intro (@t_puts) (And.intro (@t_kinds) (And.intro (@t_halls) (And.intro (@t_lays) (And.intro (@t_funcs) (And.intro (@t_row) (And.intro (@t_floor) (And.intro (@t_floor0) (And.intro (@t_cmap) (And.intro (@t_imap) (And.intro (@t_u64) (And.intro (@t_uint) (And.intro (@t_err) (And.intro (@t_try) (And.intro (@t_playout) (And.intro (@List.isEmpty_nil.{0}) (And.intro (@List.isEmpty_cons.{0}) (And.intro (@Bool.or_true) (And.intro (@Bool.true_or) (And.intro (@Bool.or_false) (And.intro (@Bool.false_or) (And.intro (@arr_get) (And.intro (@Int.toNat_natCast) (And.intro (@Int.le_refl) (And.intro (@List.getElem?_toArray.{0}) (And.intro (@List.getElem?_cons_zero.{0}) (And.intro (@List.getElem?_cons_succ.{0}) (And.intro (@List.getElem?_nil.{0}) (And.intro (@List.map_cons.{0, 0}) (And.intro (@List.map_nil.{0, 0}) (And.intro (@List.all_cons.{0}) (And.intro (@List.all_nil.{0}) (And.intro (@List.length_cons.{0}) (And.intro (@List.length_nil.{0}) (And.intro (@List.length_append.{0}) (And.intro (@List.length_map.{0, 0}) (And.intro (@List.drop_zero.{0}) (And.intro (@List.drop_succ_cons.{0}) (And.intro (@List.take_succ_cons.{0}) (And.intro (@List.take_zero.{0}) (And.intro (@List.take_nil.{0}) (And.intro (@List.drop_nil.{0}) (And.intro (@List.cons_append.{0}) (And.intro (@List.nil_append.{0}) (And.intro (@List.append_nil.{0}) (And.intro (@List.append_assoc.{0}) (And.intro (@List.set_cons_zero.{0}) (And.intro (@List.set_cons_succ.{0}) (And.intro (@Option.bind_some.{0, 0}) (And.intro (@Option.bind_none.{0, 0}) (And.intro (@Option.map_some.{0, 0}) (And.intro (@Option.map_none.{0, 0}) (And.intro (@Option.some.injEq.{0}) (And.intro (@Prod.mk.injEq.{0, 0}) (And.intro (@Bool.and_true) (And.intro (@Bool.true_and) (And.intro (@Bool.and_false) (And.intro (@Bool.false_and) (And.intro (@and_true) (And.intro (@true_and) (And.intro (@and_false) (And.intro (@false_and) (And.intro (@Bool.not_true) (And.intro (@Bool.not_false) (And.intro (@Nat.mul_one) (And.intro (@Nat.add_zero) (And.intro (@Nat.zero_add) (And.intro (@Nat.add_assoc) (And.intro (@Nat.lt_add_one) (And.intro (@Nat.zero_lt_succ) (And.intro (@Bool.true_eq_false) (And.intro (@Bool.false_eq_true) (And.intro (@not_true) (And.intro (@not_false_eq_true) (And.intro (@beq_true) (And.intro (@beq_false) (And.intro (@nat_blt) (And.intro (@nat_ble) (And.intro (@nat_beq) (And.intro (@decide_true) (And.intro (@decide_false) (And.intro (@Nat.le_refl) (And.intro (@Nat.zero_le) (And.intro (@List.toList_toArray.{0}) (And.intro (@vload.eq_def) (And.intro (@vstore.eq_def) (And.intro (@vfieldAddr.eq_def) (And.intro (@vindexAddr.eq_def) (And.intro (@vlen.eq_def) (And.intro (@vindex.eq_def) (And.intro (@vbuild.eq_def) (And.intro (@vmakeSlice.eq_def) (And.intro (@vbuildSlice.eq_def) (And.intro (@vslice.eq_def) (And.intro (@vlookup.eq_def) (And.intro (@vmapUpdate.eq_def) (And.intro (@gdB.eq_def) (And.intro (@funcV.eq_def) (And.intro (@boxV.eq_def) (And.intro (@mapV.eq_def) (And.intro (@splice.eq_def) (And.intro (@placesOf.eq_def) (And.intro (@fits.eq_def) (And.intro (@shOf.eq_def) (And.intro (@zeroV.eq_def) (And.intro (@D_allocT) (And.intro (@DAl_some) (And.intro (@take_map) (@drop_map)))))))))))))))))))))))))))))))))))))))))))))))))))))))))))))))))))))))))))))))))))))))))))))))))))))))))))))))))))))))))))))))))))))))))))))))))))))))))))))))))))))))))))))))))))))))))))))))))))))))))))))))))))))
end Go.Proofs.Ytijcmgfblpokhaa.Vm

/- The program's small functions, on values. -/
namespace Go.Proofs.Ytijcmgfblpokhaa.Vm
open Go Go.Proofs
theorem in_vm (n lo hi : Int) (M : Mem) : VC Try.prog 77 [vi n, vi lo, vi hi] M (fun r M' => M' = M ∧ r = vb (inR n lo hi)) := by
  refine VC_plain T_ok (f := 77) (fn := Try.f77) (by kernel_rfl) rfl (by simp [Try.f77]) (by rfl) ?_
  ((repeat refine W_seq ?_); refine W_region0 T_ok ?_)
  simp only [Try.f77, S_assign, S_nil, ev, ofValue, Nat.reduceLT, true_and, thenQ]
  ((repeat refine W_seq ?_); refine W_region0 T_ok ?_)
  by_cases h1 : lo ≤ n <;> by_cases h2 : n ≤ hi
  all_goals
    simp only [VL, vappend, ↓Gd_none, ↓Gd_t, ↓Gd_f, ev, ofValue, zipEnv, thenQ, blockQ, vfill, inOrder, toPss, toPs, toP, obound, keyOf, cellInts, elemsOf, nilV, extV, pickV, refs, refsL, isCell, cellsOf, strip1, gdV, pdOk, pdPush, pdTick, Back, cond_true, cond_false, if_true, if_false, forall_const, reduceIte, reduceCtorEq, Int.reduceLE, Int.reduceLT, Int.reduceToNat, Int.reduceNeg, Nat.reduceLT, Nat.reduceEqDiff, Nat.reduceAdd, Nat.reduceSub, Nat.reduceMul, Nat.reduceLeDiff, h1, h2]
    refine W_ret ?_
    simp [vresL, get_cons, vtup, frz, refs, inR, h1, h2]
theorem place_vm (h : Ha) (c : Pl) (M : Mem) (h1 : 1 ≤ h.wide) (h2 : h.wide ≤ 1000) (h3 : 1 ≤ h.deep) (h4 : h.deep ≤ 1000) : VC Try.prog 98 [hallV h, plV c] M (fun r M' => M' = M ∧ r = vb (isPl h c)) := by
  have k1 : -9223372036854775808 ≤ h.wide - 1 ∧ h.wide - 1 < 9223372036854775808 := by omega
  have k2 : -9223372036854775808 ≤ h.deep - 1 ∧ h.deep - 1 < 9223372036854775808 := by omega
  refine VC_own' T_ok (f := 98) (fn := Try.f98) (by kernel_rfl) rfl Try.ntmps98 (by rfl) (by rfl) ?_
  ((repeat refine W_seq ?_); refine W_region0 T_ok ?_)
  simp (maxSteps := 1000000) only [VL, vappend, ↓Gd_none, ↓Gd_t, ↓Gd_f, ev, ofValue, zipEnv, thenQ, blockQ, vfill, inOrder, toPss, toPs, toP, obound, keyOf, cellInts, elemsOf, nilV, extV, pickV, refs, refsL, isCell, cellsOf, strip1, gdV, pdOk, pdPush, pdTick, Back, cond_true, cond_false, if_true, if_false, forall_const, reduceIte, reduceCtorEq, Int.reduceLE, Int.reduceLT, Int.reduceToNat, Int.reduceNeg, Nat.reduceLT, Nat.reduceEqDiff, Nat.reduceAdd, Nat.reduceSub, Nat.reduceMul, Nat.reduceLeDiff, k1, k2]
  ((repeat refine W_seq ?_); refine W_region0 T_ok ?_)
  simp (maxSteps := 1000000) only [VL, vappend, ↓Gd_none, ↓Gd_t, ↓Gd_f, ev, ofValue, zipEnv, thenQ, blockQ, vfill, inOrder, toPss, toPs, toP, obound, keyOf, cellInts, elemsOf, nilV, extV, pickV, refs, refsL, isCell, cellsOf, strip1, gdV, pdOk, pdPush, pdTick, Back, cond_true, cond_false, if_true, if_false, forall_const, reduceIte, reduceCtorEq, Int.reduceLE, Int.reduceLT, Int.reduceToNat, Int.reduceNeg, Nat.reduceLT, Nat.reduceEqDiff, Nat.reduceAdd, Nat.reduceSub, Nat.reduceMul, Nat.reduceLeDiff, k1, k2]
  apply call_eq (f := 77) (fn := Try.f77) (by kernel_rfl) (by rfl)
  · exact in_vm _ _ _ _
  cases hb : inR c.x 0 (h.wide - 1)
  · simp (maxSteps := 1000000) only [VL, vappend, ↓Gd_none, ↓Gd_t, ↓Gd_f, ev, ofValue, zipEnv, thenQ, blockQ, vfill, inOrder, toPss, toPs, toP, obound, keyOf, cellInts, elemsOf, nilV, extV, pickV, refs, refsL, isCell, cellsOf, strip1, gdV, pdOk, pdPush, pdTick, Back, cond_true, cond_false, if_true, if_false, forall_const, reduceIte, reduceCtorEq, Int.reduceLE, Int.reduceLT, Int.reduceToNat, Int.reduceNeg, Nat.reduceLT, Nat.reduceEqDiff, Nat.reduceAdd, Nat.reduceSub, Nat.reduceMul, Nat.reduceLeDiff, k1, k2]
    (repeat refine W_seq ?_)
    refine W_ret ?_
    try simp only [thenQ, blockQ]
    refine own_ret1 rfl ?_ (by rfl)
    simp only [get_cons, frz, vtup, Nat.reduceEqDiff, if_true, if_false, reduceIte]
    simp [isPl, hb]
  · simp (maxSteps := 1000000) only [VL, vappend, ↓Gd_none, ↓Gd_t, ↓Gd_f, ev, ofValue, zipEnv, thenQ, blockQ, vfill, inOrder, toPss, toPs, toP, obound, keyOf, cellInts, elemsOf, nilV, extV, pickV, refs, refsL, isCell, cellsOf, strip1, gdV, pdOk, pdPush, pdTick, Back, cond_true, cond_false, if_true, if_false, forall_const, reduceIte, reduceCtorEq, Int.reduceLE, Int.reduceLT, Int.reduceToNat, Int.reduceNeg, Nat.reduceLT, Nat.reduceEqDiff, Nat.reduceAdd, Nat.reduceSub, Nat.reduceMul, Nat.reduceLeDiff, k1, k2]
    apply call_eq (f := 77) (fn := Try.f77) (by kernel_rfl) (by rfl)
    · exact in_vm _ _ _ _
    simp (maxSteps := 1000000) only [VL, vappend, ↓Gd_none, ↓Gd_t, ↓Gd_f, ev, ofValue, zipEnv, thenQ, blockQ, vfill, inOrder, toPss, toPs, toP, obound, keyOf, cellInts, elemsOf, nilV, extV, pickV, refs, refsL, isCell, cellsOf, strip1, gdV, pdOk, pdPush, pdTick, Back, cond_true, cond_false, if_true, if_false, forall_const, reduceIte, reduceCtorEq, Int.reduceLE, Int.reduceLT, Int.reduceToNat, Int.reduceNeg, Nat.reduceLT, Nat.reduceEqDiff, Nat.reduceAdd, Nat.reduceSub, Nat.reduceMul, Nat.reduceLeDiff, k1, k2]
    (repeat refine W_seq ?_)
    refine W_ret ?_
    try simp only [thenQ, blockQ]
    refine own_ret1 rfl ?_ (by rfl)
    simp only [get_cons, frz, vtup, Nat.reduceEqDiff, if_true, if_false, reduceIte]
    simp [isPl, hb]
theorem columns_vm (h : Ha) (M : Mem) (S : Small h) : VC Try.prog 99 [hallV h] M (fun r M' => M' = M ∧ r = vi (colsOf h)) := by
  obtain ⟨w1, w2, d1, d2, x1, x2, y1, y2⟩ := S
  have k1 : -9223372036854775808 ≤ h.wide + h.bay.x ∧ h.wide + h.bay.x < 9223372036854775808 := by omega
  have k2 : -9223372036854775808 ≤ h.wide + h.bay.x - 1 ∧ h.wide + h.bay.x - 1 < 9223372036854775808 := by omega
  have k3 : 0 ≤ h.wide + h.bay.x - 1 ∧ h.wide + h.bay.x - 1 < 9223372036854775808 := by omega
  refine VC_own' T_ok (f := 99) (fn := Try.f99) (by kernel_rfl) rfl Try.ntmps99 (by rfl) (by rfl) ?_
  ((repeat refine W_seq ?_); refine W_region0 T_ok ?_)
  simp (maxSteps := 1000000) only [VL, vappend, ↓Gd_none, ↓Gd_t, ↓Gd_f, ev, ofValue, zipEnv, thenQ, blockQ, vfill, inOrder, toPss, toPs, toP, obound, keyOf, cellInts, elemsOf, nilV, extV, pickV, refs, refsL, isCell, cellsOf, strip1, gdV, pdOk, pdPush, pdTick, Back, cond_true, cond_false, if_true, if_false, forall_const, reduceIte, reduceCtorEq, Int.reduceLE, Int.reduceLT, Int.reduceToNat, Int.reduceNeg, Nat.reduceLT, Nat.reduceEqDiff, Nat.reduceAdd, Nat.reduceSub, Nat.reduceMul, Nat.reduceLeDiff, k1, k2, k3, x1]
  ((repeat refine W_seq ?_); refine W_region0 T_ok ?_)
  simp (maxSteps := 1000000) only [VL, vappend, ↓Gd_none, ↓Gd_t, ↓Gd_f, ev, ofValue, zipEnv, thenQ, blockQ, vfill, inOrder, toPss, toPs, toP, obound, keyOf, cellInts, elemsOf, nilV, extV, pickV, refs, refsL, isCell, cellsOf, strip1, gdV, pdOk, pdPush, pdTick, Back, cond_true, cond_false, if_true, if_false, forall_const, reduceIte, reduceCtorEq, Int.reduceLE, Int.reduceLT, Int.reduceToNat, Int.reduceNeg, Nat.reduceLT, Nat.reduceEqDiff, Nat.reduceAdd, Nat.reduceSub, Nat.reduceMul, Nat.reduceLeDiff, k1, k2, k3, x1]
  (repeat refine W_seq ?_)
  refine W_ret ?_
  try simp only [thenQ, blockQ]
  refine own_ret1 rfl ?_ (by rfl)
  simp only [get_cons, frz, vtup, Nat.reduceEqDiff, if_true, if_false, reduceIte]
  rfl
theorem bays_vm (h : Ha) (M : Mem) (S : Small h) : VC Try.prog 79 [hallV h] M (fun r M' => M' = M ∧ r = vi (baysOf h)) := by
  have hc := cols_le S
  have hS := S
  obtain ⟨w1, w2, d1, d2, x1, x2, y1, y2⟩ := S
  have hd := div_le (n := h.deep + h.bay.y - 1) (b := h.bay.y) (by omega) y1
  have hm := mul_le hc.1 hd.1 hc.2 (show (h.deep + h.bay.y - 1) / h.bay.y ≤ 2000 by omega)
  have k1 : -9223372036854775808 ≤ h.deep + h.bay.y ∧ h.deep + h.bay.y < 9223372036854775808 := by omega
  have k2 : -9223372036854775808 ≤ h.deep + h.bay.y - 1 ∧ h.deep + h.bay.y - 1 < 9223372036854775808 := by omega
  have k3 : 0 ≤ h.deep + h.bay.y - 1 ∧ h.deep + h.bay.y - 1 < 9223372036854775808 := by omega
  have k4 : -9223372036854775808 ≤ colsOf h * ((h.deep + h.bay.y - 1) / h.bay.y) ∧ colsOf h * ((h.deep + h.bay.y - 1) / h.bay.y) < 9223372036854775808 := by unfold colsOf; omega
  refine VC_own' T_ok (f := 79) (fn := Try.f79) (by kernel_rfl) rfl Try.ntmps79 (by rfl) (by rfl) ?_
  ((repeat refine W_seq ?_); refine W_region0 T_ok ?_)
  simp (maxSteps := 1000000) only [VL, vappend, ↓Gd_none, ↓Gd_t, ↓Gd_f, ev, ofValue, zipEnv, thenQ, blockQ, vfill, inOrder, toPss, toPs, toP, obound, keyOf, cellInts, elemsOf, nilV, extV, pickV, refs, refsL, isCell, cellsOf, strip1, gdV, pdOk, pdPush, pdTick, Back, cond_true, cond_false, if_true, if_false, forall_const, reduceIte, reduceCtorEq, Int.reduceLE, Int.reduceLT, Int.reduceToNat, Int.reduceNeg, Nat.reduceLT, Nat.reduceEqDiff, Nat.reduceAdd, Nat.reduceSub, Nat.reduceMul, Nat.reduceLeDiff, k1, k2, k3, k4, y1]
  (repeat refine W_seq ?_)
  refine W_drawP T_ok [] (by kernel_rfl) (by kernel_rfl) ?_
  generalize hi : mkPlan _ = infs
  cbv at hi
  subst hi
  simp (maxSteps := 1000000) only [VL, vappend, ↓Gd_none, ↓Gd_t, ↓Gd_f, ev, ofValue, zipEnv, thenQ, blockQ, vfill, inOrder, toPss, toPs, toP, obound, keyOf, cellInts, elemsOf, nilV, extV, pickV, refs, refsL, isCell, cellsOf, strip1, gdV, pdOk, pdPush, pdTick, Back, cond_true, cond_false, if_true, if_false, forall_const, reduceIte, reduceCtorEq, Int.reduceLE, Int.reduceLT, Int.reduceToNat, Int.reduceNeg, Nat.reduceLT, Nat.reduceEqDiff, Nat.reduceAdd, Nat.reduceSub, Nat.reduceMul, Nat.reduceLeDiff, k1, k2, k3, k4, y1]
  apply call_d (f := 99) (fn := Try.f99) (by kernel_rfl) (by rfl)
  · exact columns_vm h _ hS
  simp (maxSteps := 1000000) only [VL, vappend, ↓Gd_none, ↓Gd_t, ↓Gd_f, ev, ofValue, zipEnv, thenQ, blockQ, vfill, inOrder, toPss, toPs, toP, obound, keyOf, cellInts, elemsOf, nilV, extV, pickV, refs, refsL, isCell, cellsOf, strip1, gdV, pdOk, pdPush, pdTick, Back, cond_true, cond_false, if_true, if_false, forall_const, reduceIte, reduceCtorEq, Int.reduceLE, Int.reduceLT, Int.reduceToNat, Int.reduceNeg, Nat.reduceLT, Nat.reduceEqDiff, Nat.reduceAdd, Nat.reduceSub, Nat.reduceMul, Nat.reduceLeDiff, k1, k2, k3, k4, y1]
  (repeat refine W_seq ?_)
  refine W_ret ?_
  try simp only [thenQ, blockQ]
  refine own_ret1 rfl ?_ (by rfl)
  simp only [get_cons, frz, vtup, Nat.reduceEqDiff, if_true, if_false, reduceIte]
  rfl
end Go.Proofs.Ytijcmgfblpokhaa.Vm

/- The library's searches, on values. -/
namespace Go.Proofs.Ytijcmgfblpokhaa.Vm
open Go Go.Proofs
theorem any_take {α : Type} (p : α → Bool) (l : List α) (i : Nat) (x : α) (h : l[i]? = some x) : (l.take (i + 1)).any p = ((l.take i).any p || p x) := by
  rw [List.take_add_one, h]
  simp
theorem any_hit {α : Type} (p : α → Bool) (l : List α) (i : Nat) (x : α) (h : l[i]? = some x) (hp : p x = true) : l.any p = true := List.any_eq_true.2 ⟨x, List.mem_of_getElem? h, hp⟩
theorem indexints_vm (fv : VV) (xs : List Int) (p : Int → Bool) (M : Mem) (hl : xs.length ≤ 1000000) (hf : ∀ x ∈ xs, VCall Try.prog fv [vi x] M (fun r M' => M' = M ∧ r = vb (p x))) :
    VC Try.prog 100 [intsV xs, fv] M (fun r M' => M' = M ∧ ∃ k : Int, r = vi k ∧ decide (0 ≤ k) = xs.any p) := by
  refine VC_own' T_ok (f := 100) (fn := Try.f100) (by kernel_rfl) rfl Try.ntmps100 (by rfl) (by rfl) ?_
  ((repeat refine W_seq ?_); refine W_region0 T_ok ?_)
  simp (maxSteps := 1000000) only [VL, vappend, ↓Gd_none, ↓Gd_t, ↓Gd_f, ev, ofValue, zipEnv, thenQ, blockQ, vfill, inOrder, toPss, toPs, toP, obound, keyOf, cellInts, elemsOf, nilV, extV, pickV, refs, refsL, isCell, cellsOf, strip1, gdV, pdOk, pdPush, pdTick, Back, cond_true, cond_false, if_true, if_false, forall_const, reduceIte, reduceCtorEq, Int.reduceLE, Int.reduceLT, Int.reduceToNat, Int.reduceNeg, Nat.reduceLT, Nat.reduceEqDiff, Nat.reduceAdd, Nat.reduceSub, Nat.reduceMul, Nat.reduceLeDiff]
  ((repeat refine W_seq ?_); refine W_region0 T_ok ?_)
  simp (maxSteps := 1000000) only [VL, vappend, ↓Gd_none, ↓Gd_t, ↓Gd_f, ev, ofValue, zipEnv, thenQ, blockQ, vfill, inOrder, toPss, toPs, toP, obound, keyOf, cellInts, elemsOf, nilV, extV, pickV, refs, refsL, isCell, cellsOf, strip1, gdV, pdOk, pdPush, pdTick, Back, cond_true, cond_false, if_true, if_false, forall_const, reduceIte, reduceCtorEq, Int.reduceLE, Int.reduceLT, Int.reduceToNat, Int.reduceNeg, Nat.reduceLT, Nat.reduceEqDiff, Nat.reduceAdd, Nat.reduceSub, Nat.reduceMul, Nat.reduceLeDiff]
  ((repeat refine W_seq ?_); refine W_block ?_; (repeat refine W_seq ?_)); refine W_loopS (fun i : Nat => [(0, intsV xs), (1, fv), (7, vi xs.length), (8, vi i)]) (fun _ => M) (fun i => xs.length - i) (fun i => i ≤ xs.length ∧ (xs.take i).any p = false) 0 ⟨by omega, by simp⟩ ⟨rfl, rfl, rfl, rfl, trivial⟩ rfl ?_
  rintro i ⟨hi, hno⟩
  have k1 : -9223372036854775808 ≤ (i : Int) + 1 ∧ (i : Int) + 1 < 9223372036854775808 := by omega
  ((repeat refine W_seq ?_); refine W_region0 T_ok ?_)
  rcases Nat.lt_or_ge i xs.length with hlt | hge
  · have k2 : ((i : Int) < (xs.length : Int)) = True := eq_true (by omega)
    have hx : xs[i]? = some xs[i] := List.getElem?_eq_getElem hlt
    have hx' := map_at (f := intP) hx
    simp (maxSteps := 1000000) only [VL, vappend, ↓Gd_none, ↓Gd_t, ↓Gd_f, ev, ofValue, zipEnv, thenQ, blockQ, vfill, inOrder, toPss, toPs, toP, obound, keyOf, cellInts, elemsOf, nilV, extV, pickV, refs, refsL, isCell, cellsOf, strip1, gdV, pdOk, pdPush, pdTick, Back, cond_true, cond_false, if_true, if_false, forall_const, reduceIte, reduceCtorEq, Int.reduceLE, Int.reduceLT, Int.reduceToNat, Int.reduceNeg, Nat.reduceLT, Nat.reduceEqDiff, Nat.reduceAdd, Nat.reduceSub, Nat.reduceMul, Nat.reduceLeDiff, k1, k2, hx']
    ((repeat refine W_seq ?_); refine W_cond (b := true) (by first | rfl | simp only [ev, get_cons, Nat.reduceEqDiff, if_true, if_false, reduceIte]) (fun _ => ?_) (fun h => by cases h))
    ((repeat refine W_seq ?_); refine W_skip ?_)
    simp (maxSteps := 1000000) only [VL, vappend, ↓Gd_none, ↓Gd_t, ↓Gd_f, ev, ofValue, zipEnv, thenQ, blockQ, vfill, inOrder, toPss, toPs, toP, obound, keyOf, cellInts, elemsOf, nilV, extV, pickV, refs, refsL, isCell, cellsOf, strip1, gdV, pdOk, pdPush, pdTick, Back, cond_true, cond_false, if_true, if_false, forall_const, reduceIte, reduceCtorEq, Int.reduceLE, Int.reduceLT, Int.reduceToNat, Int.reduceNeg, Nat.reduceLT, Nat.reduceEqDiff, Nat.reduceAdd, Nat.reduceSub, Nat.reduceMul, Nat.reduceLeDiff]
    ((repeat refine W_seq ?_); refine W_block ?_)
    ((repeat refine W_seq ?_); refine W_region0 T_ok ?_)
    simp (maxSteps := 1000000) only [VL, vappend, ↓Gd_none, ↓Gd_t, ↓Gd_f, ev, ofValue, zipEnv, thenQ, blockQ, vfill, inOrder, toPss, toPs, toP, obound, keyOf, cellInts, elemsOf, nilV, extV, pickV, refs, refsL, isCell, cellsOf, strip1, gdV, pdOk, pdPush, pdTick, Back, cond_true, cond_false, if_true, if_false, forall_const, reduceIte, reduceCtorEq, Int.reduceLE, Int.reduceLT, Int.reduceToNat, Int.reduceNeg, Nat.reduceLT, Nat.reduceEqDiff, Nat.reduceAdd, Nat.reduceSub, Nat.reduceMul, Nat.reduceLeDiff]
    ((repeat refine W_seq ?_); refine W_region0 T_ok ?_)
    simp (maxSteps := 1000000) only [VL, vappend, ↓Gd_none, ↓Gd_t, ↓Gd_f, ev, ofValue, zipEnv, thenQ, blockQ, vfill, inOrder, toPss, toPs, toP, obound, keyOf, cellInts, elemsOf, nilV, extV, pickV, refs, refsL, isCell, cellsOf, strip1, gdV, pdOk, pdPush, pdTick, Back, cond_true, cond_false, if_true, if_false, forall_const, reduceIte, reduceCtorEq, Int.reduceLE, Int.reduceLT, Int.reduceToNat, Int.reduceNeg, Nat.reduceLT, Nat.reduceEqDiff, Nat.reduceAdd, Nat.reduceSub, Nat.reduceMul, Nat.reduceLeDiff, hx']
    refine (hf _ (List.getElem_mem hlt)).mono ?_
    rintro _ _ ⟨rfl, rfl⟩
    simp (maxSteps := 1000000) only [VL, vappend, ↓Gd_none, ↓Gd_t, ↓Gd_f, ev, ofValue, zipEnv, thenQ, blockQ, vfill, inOrder, toPss, toPs, toP, obound, keyOf, cellInts, elemsOf, nilV, extV, pickV, refs, refsL, isCell, cellsOf, strip1, gdV, pdOk, pdPush, pdTick, Back, cond_true, cond_false, if_true, if_false, forall_const, reduceIte, reduceCtorEq, Int.reduceLE, Int.reduceLT, Int.reduceToNat, Int.reduceNeg, Nat.reduceLT, Nat.reduceEqDiff, Nat.reduceAdd, Nat.reduceSub, Nat.reduceMul, Nat.reduceLeDiff]
    cases hp : p xs[i]
    · ((repeat refine W_seq ?_); refine W_cond (b := false) (by first | rfl | simp only [ev, get_cons, Nat.reduceEqDiff, if_true, if_false, reduceIte]) (fun h => by cases h) (fun _ => ?_))
      ((repeat refine W_seq ?_); refine W_skip ?_)
      simp (maxSteps := 1000000) only [VL, vappend, ↓Gd_none, ↓Gd_t, ↓Gd_f, ev, ofValue, zipEnv, thenQ, blockQ, vfill, inOrder, toPss, toPs, toP, obound, keyOf, cellInts, elemsOf, nilV, extV, pickV, refs, refsL, isCell, cellsOf, strip1, gdV, pdOk, pdPush, pdTick, Back, cond_true, cond_false, if_true, if_false, forall_const, reduceIte, reduceCtorEq, Int.reduceLE, Int.reduceLT, Int.reduceToNat, Int.reduceNeg, Nat.reduceLT, Nat.reduceEqDiff, Nat.reduceAdd, Nat.reduceSub, Nat.reduceMul, Nat.reduceLeDiff]
      ((repeat refine W_seq ?_); refine W_region0 T_ok ?_)
      simp (maxSteps := 1000000) only [VL, vappend, ↓Gd_none, ↓Gd_t, ↓Gd_f, ev, ofValue, zipEnv, thenQ, blockQ, vfill, inOrder, toPss, toPs, toP, obound, keyOf, cellInts, elemsOf, nilV, extV, pickV, refs, refsL, isCell, cellsOf, strip1, gdV, pdOk, pdPush, pdTick, Back, cond_true, cond_false, if_true, if_false, forall_const, reduceIte, reduceCtorEq, Int.reduceLE, Int.reduceLT, Int.reduceToNat, Int.reduceNeg, Nat.reduceLT, Nat.reduceEqDiff, Nat.reduceAdd, Nat.reduceSub, Nat.reduceMul, Nat.reduceLeDiff, k1]
      refine LoopK.mk (i + 1) (by omega) ⟨by omega, ?_⟩ ⟨rfl, rfl, rfl, rfl, trivial⟩ rfl
      rw [any_take p xs i _ hx, hno, hp]; rfl
    · ((repeat refine W_seq ?_); refine W_cond (b := true) (by first | rfl | simp only [ev, get_cons, Nat.reduceEqDiff, if_true, if_false, reduceIte]) (fun _ => ?_) (fun h => by cases h))
      ((repeat refine W_seq ?_); refine W_region0 T_ok ?_)
      simp (maxSteps := 1000000) only [VL, vappend, ↓Gd_none, ↓Gd_t, ↓Gd_f, ev, ofValue, zipEnv, thenQ, blockQ, vfill, inOrder, toPss, toPs, toP, obound, keyOf, cellInts, elemsOf, nilV, extV, pickV, refs, refsL, isCell, cellsOf, strip1, gdV, pdOk, pdPush, pdTick, Back, cond_true, cond_false, if_true, if_false, forall_const, reduceIte, reduceCtorEq, Int.reduceLE, Int.reduceLT, Int.reduceToNat, Int.reduceNeg, Nat.reduceLT, Nat.reduceEqDiff, Nat.reduceAdd, Nat.reduceSub, Nat.reduceMul, Nat.reduceLeDiff]
      (repeat refine W_seq ?_)
      refine W_ret ?_
      try simp only [thenQ, blockQ]
      refine own_ret0 rfl rfl rfl ⟨rfl, (i : Int), rfl, ?_⟩
      rw [any_hit p xs i _ hx hp]; simp
  · have k2 : ((i : Int) < (xs.length : Int)) = False := eq_false (by omega)
    simp (maxSteps := 1000000) only [VL, vappend, ↓Gd_none, ↓Gd_t, ↓Gd_f, ev, ofValue, zipEnv, thenQ, blockQ, vfill, inOrder, toPss, toPs, toP, obound, keyOf, cellInts, elemsOf, nilV, extV, pickV, refs, refsL, isCell, cellsOf, strip1, gdV, pdOk, pdPush, pdTick, Back, cond_true, cond_false, if_true, if_false, forall_const, reduceIte, reduceCtorEq, Int.reduceLE, Int.reduceLT, Int.reduceToNat, Int.reduceNeg, Nat.reduceLT, Nat.reduceEqDiff, Nat.reduceAdd, Nat.reduceSub, Nat.reduceMul, Nat.reduceLeDiff, k1, k2]
    ((repeat refine W_seq ?_); refine W_cond (b := false) (by first | rfl | simp only [ev, get_cons, Nat.reduceEqDiff, if_true, if_false, reduceIte]) (fun h => by cases h) (fun _ => ?_))
    ((repeat refine W_seq ?_); refine W_exit ?_)
    simp (maxSteps := 1000000) only [VL, vappend, ↓Gd_none, ↓Gd_t, ↓Gd_f, ev, ofValue, zipEnv, thenQ, blockQ, vfill, inOrder, toPss, toPs, toP, obound, keyOf, cellInts, elemsOf, nilV, extV, pickV, refs, refsL, isCell, cellsOf, strip1, gdV, pdOk, pdPush, pdTick, Back, cond_true, cond_false, if_true, if_false, forall_const, reduceIte, reduceCtorEq, Int.reduceLE, Int.reduceLT, Int.reduceToNat, Int.reduceNeg, Nat.reduceLT, Nat.reduceEqDiff, Nat.reduceAdd, Nat.reduceSub, Nat.reduceMul, Nat.reduceLeDiff]
    ((repeat refine W_seq ?_); refine W_region0 T_ok ?_)
    simp (maxSteps := 1000000) only [VL, vappend, ↓Gd_none, ↓Gd_t, ↓Gd_f, ev, ofValue, zipEnv, thenQ, blockQ, vfill, inOrder, toPss, toPs, toP, obound, keyOf, cellInts, elemsOf, nilV, extV, pickV, refs, refsL, isCell, cellsOf, strip1, gdV, pdOk, pdPush, pdTick, Back, cond_true, cond_false, if_true, if_false, forall_const, reduceIte, reduceCtorEq, Int.reduceLE, Int.reduceLT, Int.reduceToNat, Int.reduceNeg, Nat.reduceLT, Nat.reduceEqDiff, Nat.reduceAdd, Nat.reduceSub, Nat.reduceMul, Nat.reduceLeDiff]
    (repeat refine W_seq ?_)
    refine W_ret ?_
    try simp only [thenQ, blockQ]
    refine own_ret0 rfl rfl rfl ⟨rfl, -1, rfl, ?_⟩
    rw [List.take_of_length_le hge] at hno
    rw [hno]; rfl
theorem containsints_vm (fv : VV) (xs : List Int) (p : Int → Bool) (M : Mem) (hl : xs.length ≤ 1000000) (hs : strip1 fv = fv) (hf : ∀ x ∈ xs, VCall Try.prog fv [vi x] M (fun r M' => M' = M ∧ r = vb (p x))) :
    VC Try.prog 80 [intsV xs, fv] M (fun r M' => M' = M ∧ r = vb (xs.any p)) := by
  refine VC_own' T_ok (f := 80) (fn := Try.f80) (by kernel_rfl) rfl Try.ntmps80 (by rfl) (by rfl) ?_
  ((repeat refine W_seq ?_); refine W_region0 T_ok ?_)
  simp (maxSteps := 1000000) only [VL, vappend, ↓Gd_none, ↓Gd_t, ↓Gd_f, ev, ofValue, zipEnv, thenQ, blockQ, vfill, inOrder, toPss, toPs, toP, obound, keyOf, cellInts, elemsOf, nilV, extV, pickV, refs, refsL, isCell, cellsOf, strip1, gdV, pdOk, pdPush, pdTick, Back, cond_true, cond_false, if_true, if_false, forall_const, reduceIte, reduceCtorEq, Int.reduceLE, Int.reduceLT, Int.reduceToNat, Int.reduceNeg, Nat.reduceLT, Nat.reduceEqDiff, Nat.reduceAdd, Nat.reduceSub, Nat.reduceMul, Nat.reduceLeDiff]
  ((repeat refine W_seq ?_); refine W_region0 T_ok ?_)
  simp (maxSteps := 1000000) only [VL, vappend, ↓Gd_none, ↓Gd_t, ↓Gd_f, ev, ofValue, zipEnv, thenQ, blockQ, vfill, inOrder, toPss, toPs, toP, obound, keyOf, cellInts, elemsOf, nilV, extV, pickV, refs, refsL, isCell, cellsOf, strip1, gdV, pdOk, pdPush, pdTick, Back, cond_true, cond_false, if_true, if_false, forall_const, reduceIte, reduceCtorEq, Int.reduceLE, Int.reduceLT, Int.reduceToNat, Int.reduceNeg, Nat.reduceLT, Nat.reduceEqDiff, Nat.reduceAdd, Nat.reduceSub, Nat.reduceMul, Nat.reduceLeDiff]
  refine fn_call (f := 100) (fn := Try.f100) (by kernel_rfl) (by rfl) ?_
  rw [show List.map strip1 [intsV xs, fv] = [intsV xs, fv] by rw [List.map_cons, List.map_cons, hs]; rfl]
  refine (indexints_vm fv xs p M hl hf).mono ?_
  rintro _ _ ⟨rfl, k, rfl, hk⟩
  simp (maxSteps := 1000000) only [VL, vappend, ↓Gd_none, ↓Gd_t, ↓Gd_f, ev, ofValue, zipEnv, thenQ, blockQ, vfill, inOrder, toPss, toPs, toP, obound, keyOf, cellInts, elemsOf, nilV, extV, pickV, refs, refsL, isCell, cellsOf, strip1, gdV, pdOk, pdPush, pdTick, Back, cond_true, cond_false, if_true, if_false, forall_const, reduceIte, reduceCtorEq, Int.reduceLE, Int.reduceLT, Int.reduceToNat, Int.reduceNeg, Nat.reduceLT, Nat.reduceEqDiff, Nat.reduceAdd, Nat.reduceSub, Nat.reduceMul, Nat.reduceLeDiff]
  (repeat refine W_seq ?_)
  refine W_ret ?_
  try simp only [thenQ, blockQ]
  refine own_ret10 rfl ?_ (by rfl)
  simp only [get_cons, frz, vtup, Nat.reduceEqDiff, if_true, if_false, reduceIte]
  rw [hk]
end Go.Proofs.Ytijcmgfblpokhaa.Vm
