/- A part of the proofs about the chapter of the vaults; it states no condition of its own. -/
import Derived.Test.YtijcmgfblpokhaaB35
import Derived.Test.YtijcmgfblpokhaaB43
import Derived.Test.YtijcmgfblpokhaaRows
import Derived.OpenShut
import Derived.Deep.RegionHeld3
import Derived.Deep.DrawnRows
import Derived.StillTailTactics
set_option linter.unusedVariables false
set_option linter.unusedSimpArgs false
/- Dice: what they show is within bounds; they change themselves alone. -/
namespace Go.Proofs.Ytijcmgfblpokhaa
open Go.RowKit
attribute [local go_sem ↓] Go.wp_at_zero Go.wp_at_succ

theorem bits_u64 (op : BinOp) (x y : Int) : 0 ≤ bits op .u64 x y ∧ bits op .u64 x y < 18446744073709551616 := by
  have h := bounds_u64 (wf_bits op .u64 x y)
  exact ⟨h.1, by omega⟩
theorem wrap_u64 (x : Int) : 0 ≤ IntKind.u64.wrap x ∧ IntKind.u64.wrap x < 18446744073709551616 := by
  have h := bounds_u64 (wf_wrap .u64 x)
  exact ⟨h.1, by omega⟩

abbrev DT : Nat := 88
/-- the value is an unsigned number -/
def IsU (v : Value) : Prop := ∃ n : Int, 0 ≤ n ∧ n < 18446744073709551616 ∧ v = .int .u64 n
/-- the value is a number from a to b - 1 -/
def IsI (a b : Int) (v : Value) : Prop := ∃ n : Int, a ≤ n ∧ n < b ∧ v = .int .i64 n
def IsB (v : Value) : Prop := ∃ b : Bool, v = .bool b

set_option maxHeartbeats 400000 in
theorem roll_any (D : Nat) (w : World) (hd : DieAt w DT D) :
    Calls Try.prog 61 #[.pointer (some ⟨D, 0, none⟩)] w (Cast DT D IsU w) := by
  obtain ⟨f, h0, h1, hf⟩ := hd
  have hc := hf.cell 0
  have hz := hf.frozen 0
  simp at hc
  go_enter Try.func61, Try.ntmps61
  go_wp2
  go_ret
  refine ⟨_, rfl, ⟨_, (bits_u64 _ _ _).1, (bits_u64 _ _ _).2, rfl⟩, ⟨_, (wrap_u64 _).1, (wrap_u64 _).2, hf.set_ 0 _⟩, (Frm.refl D _ w).setCell (.inr rfl) _⟩

set_option maxHeartbeats 400000 in
theorem cast_any (D : Nat) (w : World) (n : Int) (hn : n < 9223372036854775808) (hd : DieAt w DT D) :
    Calls Try.prog 45 #[.pointer (some ⟨D, 0, none⟩), .int .i64 n] w (Cast DT D (IsI 0 (max n 1)) w) := by
  by_cases h2 : n < 2
  · go_enter Try.func45, Try.ntmps45
    go_wp2
    go_ret
    exact ⟨_, rfl, ⟨0, by omega, by omega, rfl⟩, hd, .refl _ _ _⟩
  · go_enter Try.func45, Try.ntmps45
    go_wp2_with (go_at_call 61; refine (roll_any D _ hd).mono ?_; rintro e w' ⟨v, rfl, ⟨x, hx0, hx1, rfl⟩, hd', hfr⟩)
    have hb : 0 ≤ x / 4 % n ∧ x / 4 % n < n := ⟨Int.emod_nonneg _ (by omega), Int.emod_lt_of_pos _ (by omega)⟩
    go_ret
    exact ⟨_, rfl, ⟨wrap64 (x / 4 % n), by rw [IntWalk.wrap64_in _ ⟨by omega, by omega⟩]; omega, by rw [IntWalk.wrap64_in _ ⟨by omega, by omega⟩]; omega, rfl⟩, hd', hfr⟩

set_option maxHeartbeats 400000 in
theorem from_any (D : Nat) (w : World) (lo hi : Int) (h0 : -1000000000000 ≤ lo) (h1 : hi ≤ 1000000000000) (h2 : lo ≤ 1000000000000) (h3 : -1000000000000 ≤ hi) (hd : DieAt w DT D) :
    Calls Try.prog 46 #[.pointer (some ⟨D, 0, none⟩), .int .i64 lo, .int .i64 hi] w (Cast DT D (IsI lo (max (hi + 1) (lo + 1))) w) := by
  go_enter Try.func46, Try.ntmps46
  go_wp2_with (go_at_call 45; refine (cast_any D _ _ (by omega) hd).mono ?_; rintro e w' ⟨v, rfl, ⟨x, hx0, hx1, rfl⟩, hd', hfr⟩)
  go_ret
  exact ⟨_, rfl, ⟨_, by omega, by omega, rfl⟩, hd', hfr⟩

set_option maxHeartbeats 400000 in
theorem once_any (D : Nat) (w : World) (n : Int) (hn : n < 9223372036854775808) (hd : DieAt w DT D) :
    Calls Try.prog 41 #[.pointer (some ⟨D, 0, none⟩), .int .i64 n] w (Cast DT D IsB w) := by
  go_enter Try.func41, Try.ntmps41
  go_wp2_with (go_at_call 45; refine (cast_any D _ _ (by omega) hd).mono ?_; rintro e w' ⟨v, rfl, ⟨x, hx0, hx1, rfl⟩, hd', hfr⟩)
  go_ret
  exact ⟨_, rfl, ⟨_, rfl⟩, hd', hfr⟩

/-- the value is one of some numbers -/
def OneOf (xs : List Int) (v : Value) : Prop := ∃ n ∈ xs, v = .int .i64 n
set_option maxHeartbeats 400000 in
theorem one_any (D : Nat) (w : World) (v : Value) (xs : List Int) (hx : xs ≠ []) (hs : Sl w w.heap.size 1 intC v xs) (hne : ∀ b off n c, v = .slice (some ⟨b, off, none⟩) n c → b ≠ D) (hd : DieAt w DT D) :
    Calls Try.prog 44 #[.pointer (some ⟨D, 0, none⟩), v] w (Cast DT D (OneOf xs) w) := by
  obtain ⟨hl, ⟨rfl, _⟩ | ⟨h0, b, off, c, rfl, hc, hc2, hb, hg⟩⟩ := hs.form
  · exact (hx rfl).elim
  have hne' := hne b off _ _ rfl
  unfold maxLen at hl hc2
  go_enter Try.func44, Try.ntmps44
  go_wp2_with (go_at_call 45; refine (cast_any D _ _ (by omega) hd).mono ?_; rintro e w' ⟨v, rfl, ⟨x, hx0, hx1, rfl⟩, hd', hfr⟩; obtain ⟨k, rfl⟩ := Int.eq_ofNat_of_zero_le hx0; have hk : k < xs.length := (by omega); have hcell : w'.cell? ⟨b, off + k, none⟩ = some (.int .i64 xs[k]) := (hfr.cell (p := ⟨b, off + k, none⟩) hb hne').trans (one_at hg hk))
  go_ret
  exact ⟨_, rfl, ⟨xs[k], List.getElem_mem _, rfl⟩, hd', hfr⟩

/-- numbers written out in a new block -/
theorem Sl.lit {w : World} {g : Nat} {xs : List Int} (h : Blk w g 3 (xs.map (Value.int .i64)).toArray) (hl : xs.length ≤ maxLen) : Sl w w.heap.size 1 intC (.slice (some ⟨g, 0, none⟩) xs.length xs.length) xs := by
  refine Sl.of_blk h h.lt hl fun i x hx j u hu => ?_
  match j, hu with
  | 0, hu => simp [intC] at hu; subst hu; simp [hx]
  | j + 1, hu => simp [intC] at hu

theorem DieAt.set_other {w : World} {T D : Nat} (h : DieAt w T D) {p : Addr} (hp : p.block ≠ D) (u : Value) : DieAt (w.setCell p u) T D := by
  obtain ⟨f, h0, h1, h⟩ := h; exact ⟨f, h0, h1, h.far (Ne.symm hp) u⟩
theorem results_cell {fn : Func} {p : Tmp} {ty : TypeId} (h : fn.results = #[.cell p ty]) (tmps : Array Value) {P : Program} {w : World} {g : Nat} {v : Value}
    (hp : tmps.getD p undef = .pointer (some ⟨g, 0, none⟩)) (hl : (loadVar ty ⟨g, 0, none⟩).run P w = .ok v w) : (results fn tmps).run P w = .ok v w := by
  simp only [results, h]
  rw [Array.getD_eq_getD_getElem?] at hp
  simp [hp, asAddr, hl]
theorem ld_Span {w : World} {g t : Nat} {cs : Array Value} (hb : Blk w g t cs) (hs : cs.size = 2) : (loadVar 54 ⟨g, 0, none⟩).run Try.prog w = .ok (.agg cs) w :=
  run_loadVar_row w g t _ cs _ _ hb Try.underlying54 rfl (by rw [hs]; kernel_rfl)

/-- a span, its ends in order and within bounds -/
def IsSpan (lo hi : Int) (v : Value) : Prop := ∃ a b : Int, lo ≤ a ∧ a ≤ b ∧ b ≤ hi ∧ v = .agg #[.int .i64 a, .int .i64 b]
set_option maxHeartbeats 400000 in
theorem span_any (D : Nat) (w : World) (lo hi : Int) (h0 : -1000000000000 ≤ lo) (h1 : hi ≤ 1000000000000) (h2 : lo ≤ hi) (hd : DieAt w DT D) :
    Calls Try.prog 60 #[.pointer (some ⟨D, 0, none⟩), .int .i64 lo, .int .i64 hi] w (Cast DT D (IsSpan lo hi) w) := by
  have hlt := hd.lt
  go_enter Try.func60, Try.ntmps60
  have hb0 := Blk.new w 54 #[.int .i64 0, .int .i64 0]
  go_wp2_with fail
  refine (from_any D _ _ _ (by omega) (by omega) (by omega) (by omega) (hd.alloc _)).mono ?_
  rintro e w1 ⟨v, rfl, ⟨n, hn0, hn1, rfl⟩, hd1, hf1⟩
  have hb1 := hb0.frm hf1 (by simp) (by omega)
  have hs1 := hf1.size
  have hd1l := hd1.lt
  simp at hs1
  clear hd
  go_wp2_with fail
  all_goals
    refine (one_any D _ _ [_, _, _] (by simp) (Sl.lit (Blk.new _ _ _) (by simp [maxLen])) (by rintro b off m c he; cases he; omega) (hd1.alloc _)).mono ?_
    rintro e w2 ⟨v, rfl, ⟨m, hm, rfl⟩, hd2, hf2⟩
    have hb2 := (hb1.alloc _).frm hf2 (by simp; omega) (by omega)
    have hs2 := hf2.size
    simp at hs2
    have hm1 : n ≤ m ∧ m ≤ hi := by simp at hm; omega
    clear hd1 hm
    have hd2l := hd2.lt
    go_wp2_with fail
    refine (from_any D _ _ _ (by omega) (by omega) (by omega) (by omega) hd2).mono ?_
    rintro e w3 ⟨v, rfl, ⟨k, hk0, hk1, rfl⟩, hd3, hf3⟩
    have hb3 := hb2.frm hf3 (by omega) (by omega)
    have hs3 := hf3.size
    have hc0 := hb3.cell 0
    have hc1 := hb3.cell 1
    have hz0 := hb3.frozen 0
    have hz1 := hb3.frozen 1
    simp at hc0 hc1
    go_wp2
    exact bodyPost_ret (results_cell rfl _ rfl (ld_Span (((hb3.set_ 0 _).set_ 1 _)) rfl)) rfl
      ⟨_, rfl, ⟨n, k, by omega, by omega, by omega, by simp⟩, (hd3.set_other (by show w.heap.size ≠ D; omega) _).set_other (by show w.heap.size ≠ D; omega) _,
        ((((((Frm.refl D _ w).alloc (Nat.le_refl _) _).trans (hf1.mono (by simp))).alloc (by omega) _).trans (hf2.mono (by simp; omega))).trans (hf3.mono (by omega))).setCell (.inl (Nat.le_refl _)) _ |>.setCell (.inl (Nat.le_refl _)) _⟩

abbrev held2 (w : World) (D g : Nat) (a b : Int) (w' : World) : Prop :=
  w'.cell? ⟨g, 0, none⟩ = some (.int .i64 a) ∧ w'.cell? ⟨g, 1, none⟩ = some (.int .i64 b) ∧ DieAt w' DT D ∧ Frm D w.heap.size w w' ∧ g < w'.heap.size
theorem held2.drew {w : World} {D g : Nat} {a b : Int} {w' : World} (h : held2 w D g a b w') : held2 w D g a b w'.drew := ⟨h.1, h.2.1, h.2.2.1, h.2.2.2.1.drew, h.2.2.2.2⟩
theorem held2.alloc {w : World} {D g : Nat} {a b : Int} {w' : World} {o : Obj} (h : held2 w D g a b w') : held2 w D g a b (w'.alloc o) :=
  ⟨(World.cell?_alloc_lt _ _ _ h.2.2.2.2).trans h.1, (World.cell?_alloc_lt _ _ _ h.2.2.2.2).trans h.2.1, h.2.2.1.alloc _, h.2.2.2.1.alloc h.2.2.2.1.size _, by have := h.2.2.2.2; simp; omega⟩
theorem held2.step {w : World} {D g : Nat} {a b : Int} {w' w1 : World} (h : held2 w D g a b w') (hg : g ≠ D) (hd : DieAt w1 DT D) (hf : Frm D w'.heap.size w' w1) : held2 w D g a b w1 :=
  ⟨(hf.cell (p := ⟨g, 0, none⟩) h.2.2.2.2 hg).trans h.1, (hf.cell (p := ⟨g, 1, none⟩) h.2.2.2.2 hg).trans h.2.1, hd, h.2.2.2.1.trans (hf.mono h.2.2.2.1.size), Nat.lt_of_lt_of_le h.2.2.2.2 hf.size⟩
set_option maxHeartbeats 400000 in
theorem true_any (D : Nat) (w : World) (lo hi : Int) (h0 : -1000000000000 ≤ lo) (h1 : hi ≤ 1000000000000) (h2 : lo ≤ hi) (hd : DieAt w DT D) :
    Calls Try.prog 74 #[.pointer (some ⟨D, 0, none⟩), .agg #[.int .i64 lo, .int .i64 hi]] w (Cast DT D (IsI lo (hi + 1)) w) := by
  have hlt := hd.lt
  have hb0 := Blk.new w 54 #[.int .i64 lo, .int .i64 hi]
  have hd0 := hd.alloc (.cells #[.int .i64 lo, .int .i64 hi] 54)
  clear hd
  go_enter Try.func74, Try.ntmps74
  go_wp2_with fail
  have hz : w.heap.size < (w.alloc (.cells #[.int .i64 lo, .int .i64 hi] 54)).heap.size := by simp
  have hfr := (Frm.refl D w.heap.size w).alloc (Nat.le_refl _) (.cells #[.int .i64 lo, .int .i64 hi] 54)
  generalize w.alloc (.cells #[.int .i64 lo, .int .i64 hi] 54) = w0 at *
  have hS : held2 w D w.heap.size lo hi w0 := ⟨by simpa using hb0.cell 0, by simpa using hb0.cell 1, hd0, hfr, hz⟩
  clear hb0 hd0 hfr hz
  go_region_held3 (fun w' => w'.cell? ⟨w.heap.size, 0, none⟩ = some (.int .i64 lo) ∧ w'.cell? ⟨w.heap.size, 1, none⟩ = some (.int .i64 hi) ∧ DieAt w' DT D ∧ Frm D w.heap.size w w' ∧ w.heap.size < w'.heap.size)
    (first | exact held2.drew (by assumption) | exact held2.alloc (by assumption) | exact (by assumption : held2 _ _ _ _ _ _))
    (first
      | (go_at_call 46; have h1 : held2 w D w.heap.size lo hi _ := (by assumption); refine (from_any D _ _ _ (by omega) (by omega) (by omega) (by omega) h1.2.2.1).mono ?_; rintro e w1 ⟨v, rfl, ⟨n, hn0, hn1, rfl⟩, hd1, hf1⟩; have hS1 := h1.step (by omega) hd1 hf1)
      | (go_at_call 44; have h1 : held2 w D w.heap.size lo hi _ := (by assumption); refine (one_any D _ _ [_, _, _, _] (by simp) (Sl.lit (Blk.new _ _ _) (by simp [maxLen])) (by rintro b off m c he; cases he; have := h1.2.2.1.lt; simp at this; omega) (h1.2.2.1)).mono ?_; rintro e w1 ⟨v, rfl, ⟨m, hm, rfl⟩, hd1, hf1⟩; have hS1 := h1.step (by omega) hd1 hf1))
  rename_i n hn0 hn1 _ _ _ _ _ _ _ _ _ _
  go_wp2
  go_ret
  exact ⟨_, rfl, ⟨m, by simp at hm; omega, by simp at hm; omega, rfl⟩, hS1.2.2.1, hS1.2.2.2.1⟩

end Go.Proofs.Ytijcmgfblpokhaa

/- Dice, on values. (Vm) -/
namespace Go.Proofs.Ytijcmgfblpokhaa.Vm
open Go Go.Proofs
abbrev uv (n : Int) : VV := .p (.int .u64 n)
def xorU (a b : Int) : Int := IntKind.u64.wrap (BitVec.ofInt 64 a ^^^ BitVec.ofInt 64 b).toNat
def wrU (a : Int) : Int := IntKind.u64.wrap a
def shU (a y : Int) : Int := a.fdiv (2 ^ (min y.toNat 64))
theorem u_add (t : Nat) (a b : Int) : vbin T .add t (uv a) (uv b) = some (uv (wrU (a + b))) := rfl
theorem u_mul (t : Nat) (a b : Int) : vbin T .mul t (uv a) (uv b) = some (uv (wrU (a * b))) := rfl
theorem u_xor (t : Nat) (a b : Int) : vbin T .xor t (uv a) (uv b) = some (uv (xorU a b)) := rfl
theorem u_shr (t : Nat) (a y : Int) (hy : 0 ≤ y) : vbin T .shr t (uv a) (uv y) = some (uv (shU a y)) := by
  have h0 : ¬ y < 0 := by omega
  have h2 : Go.binOp .shr 0 (.int .u64 a) (.int .u64 y) = .pure (.int .u64 (shU a y)) := by
    show Op.shift .shr .u64 a .u64 y = _
    unfold Op.shift
    rw [if_neg h0]
    rfl
  simp only [vbin, h2, pureOf, Option.map_some, ofValue]
theorem u_rem (t : Nat) (a b : Int) (hb : b ≠ 0) : vbin T .rem t (uv a) (uv b) = some (uv (a.tmod b)) := by
  have h2 : Go.binOp .rem 0 (.int .u64 a) (.int .u64 b) = .pure (.int .u64 (a.tmod b)) := by
    show Op.intDiv .rem .u64 a b = _
    unfold Op.intDiv
    rw [if_neg hb]
    rfl
  simp only [vbin, h2, pureOf, Option.map_some, ofValue]
theorem c_iu (n : Int) : vconvert T 3 86 (vi n) = some (uv (wrU n)) := by
  simp only [vconvert, t_int, t_u64]; rfl
theorem c_ui (n : Int) : vconvert T 86 3 (uv n) = some (vi (IntKind.i64.wrap n)) := by
  simp only [vconvert, t_int, t_u64]; rfl
theorem wrU_range (x : Int) : 0 ≤ wrU x ∧ wrU x < 18446744073709551616 := wrap_u64 x
theorem xorU_range (a b : Int) : 0 ≤ xorU a b ∧ xorU a b < 18446744073709551616 := wrap_u64 _
theorem shU_range {a y : Int} (h : 0 ≤ a) : 0 ≤ shU a y := by
  unfold shU
  have h2 : (0 : Int) ≤ 2 ^ (min y.toNat 64) := Int.pow_nonneg (by decide)
  rw [Int.fdiv_eq_ediv_of_nonneg _ h2]
  exact Int.ediv_nonneg h h2
/-- memory of which a die is a part -/
def DH (H0 : List VObj) (d : Nat) (u : Int) (L : List VObj) : List VObj := (H0 ++ L).set d (.obj [uv u])
section
variable {H0 : List VObj} {d : Nat} (hd : d < H0.length) {u : Int} {L : List VObj}
theorem DH_len : (DH H0 d u L).length = H0.length + L.length := by simp [DH]
include hd
theorem DH_eq : DH H0 d u L = DH H0 d u [] ++ L := by
  unfold DH
  rw [List.set_append_left _ _ hd, List.append_nil]
omit hd in
theorem DH_len0 : (DH H0 d u []).length = H0.length := by rw [DH_len]; simp
theorem DH_get (k : Nat) : (DH H0 d u L)[H0.length + k]? = L[k]? := by
  rw [DH_eq hd]
  have := hget (DH H0 d u []) L k
  rwa [DH_len0] at this
theorem DH_get0 : (DH H0 d u L)[H0.length]? = L[0]? := DH_get hd 0
theorem DH_die : (DH H0 d u L)[d]? = some (.obj [uv u]) := by
  unfold DH
  rw [List.getElem?_set_self (by rw [List.length_append]; omega)]
theorem DH_app (X : List VObj) : DH H0 d u L ++ X = DH H0 d u (L ++ X) := by
  rw [DH_eq hd, DH_eq hd (L := L ++ X), List.append_assoc]
theorem DH_set (k : Nat) (o : VObj) : (DH H0 d u L).set (H0.length + k) o = DH H0 d u (L.set k o) := by
  rw [DH_eq hd, DH_eq hd (L := L.set k o)]
  have := hset (DH H0 d u []) L k o
  rwa [DH_len0] at this
theorem DH_set0 (o : VObj) : (DH H0 d u L).set H0.length o = DH H0 d u (L.set 0 o) := DH_set hd 0 o
omit hd in
theorem DH_setd (v : Int) : (DH H0 d u L).set d (.obj [uv v]) = DH H0 d v L := by
  unfold DH
  rw [List.set_set]
omit hd in
theorem DH_base : DH H0 d u L = DH (H0 ++ L) d u [] := by
  unfold DH
  rw [List.append_nil]
theorem own_retD {f : Nat} {fn : Func} {lg : List (Nat × Nat)} {v : Int} {e : Env} {t : Nat} {X : VV} (h1 : fn.results.toList = [.tmp t]) (hr : frz H0.length (DH H0 d v L) (get e t) = X) (h2 : refs X = []) : ownQ T f fn ⟨DH H0 d u [], lg⟩ (fun r M' => M' = ⟨DH H0 d v [], lg⟩ ∧ r = X) .ret e ⟨DH H0 d v L, lg⟩ [] :=
  ⟨.inr rfl, rfl, ⟨[], by simp, by simp⟩, DH H0 d v [], L, DH_eq hd, by rw [DH_len, DH_len], [get e t], by rw [h1]; rfl, X, by rw [DH_len0]; exact hr, by simp [h2], rfl, rfl⟩
end
def nextU (u : Int) : Int := wrU (u + 11562461410679940143)
def rollV (u : Int) : Int :=
  let x0 := nextU u
  let x1 := wrU (xorU x0 (shU x0 30) * 13787848793156543929)
  let x2 := wrU (xorU x1 (shU x1 27) * 10723151780598845931)
  xorU x2 (shU x2 31)
theorem rollV_range (u : Int) : 0 ≤ rollV u := (xorU_range _ _).1
theorem roll_v {H0 : List VObj} {d : Nat} (hd : d < H0.length) (u : Int) (lg : List (Nat × Nat)) : VC Try.prog 61 [.ptr d 0] ⟨DH H0 d u [], lg⟩ (fun r M' => M' = ⟨DH H0 d (nextU u) [], lg⟩ ∧ r = uv (rollV u)) := by
  have g1 := fun u => DH_die hd (u := u) (L := [])
  have g2 := fun u v => DH_setd (H0 := H0) (d := d) (u := u) (L := []) v
  refine VC_own' T_ok (f := 61) (fn := Try.f61) (by kernel_rfl) rfl Try.ntmps61 (by rfl) (by rfl) ?_
  ((repeat refine W_seq ?_); refine W_region0 T_ok ?_)
  simp (maxSteps := 1000000) only [VL, VM, ↓Gd_none, ↓Gd_t, ↓Gd_f, reduceIte, reduceCtorEq, Int.reduceLE, Int.reduceLT, Int.reduceToNat, Int.reduceNeg, Nat.reduceLT, Nat.reduceEqDiff, Nat.reduceAdd, Nat.reduceSub, Nat.reduceMul, Nat.reduceLeDiff]
  ((repeat refine W_seq ?_); refine W_region0 T_ok ?_)
  simp (maxSteps := 1000000) only [VL, VM, ↓Gd_none, ↓Gd_t, ↓Gd_f, reduceIte, reduceCtorEq, Int.reduceLE, Int.reduceLT, Int.reduceToNat, Int.reduceNeg, Nat.reduceLT, Nat.reduceEqDiff, Nat.reduceAdd, Nat.reduceSub, Nat.reduceMul, Nat.reduceLeDiff, g1, g2, u_add]
  ((repeat refine W_seq ?_); refine W_region0 T_ok ?_)
  simp (maxSteps := 1000000) only [VL, VM, ↓Gd_none, ↓Gd_t, ↓Gd_f, reduceIte, reduceCtorEq, Int.reduceLE, Int.reduceLT, Int.reduceToNat, Int.reduceNeg, Nat.reduceLT, Nat.reduceEqDiff, Nat.reduceAdd, Nat.reduceSub, Nat.reduceMul, Nat.reduceLeDiff, g1]
  ((repeat refine W_seq ?_); refine W_region0 T_ok ?_)
  simp (maxSteps := 1000000) only [VL, VM, ↓Gd_none, ↓Gd_t, ↓Gd_f, reduceIte, reduceCtorEq, Int.reduceLE, Int.reduceLT, Int.reduceToNat, Int.reduceNeg, Nat.reduceLT, Nat.reduceEqDiff, Nat.reduceAdd, Nat.reduceSub, Nat.reduceMul, Nat.reduceLeDiff, u_shr, u_xor, u_mul]
  ((repeat refine W_seq ?_); refine W_region0 T_ok ?_)
  simp (maxSteps := 1000000) only [VL, VM, ↓Gd_none, ↓Gd_t, ↓Gd_f, reduceIte, reduceCtorEq, Int.reduceLE, Int.reduceLT, Int.reduceToNat, Int.reduceNeg, Nat.reduceLT, Nat.reduceEqDiff, Nat.reduceAdd, Nat.reduceSub, Nat.reduceMul, Nat.reduceLeDiff, u_shr, u_xor, u_mul]
  ((repeat refine W_seq ?_); refine W_region0 T_ok ?_)
  simp (maxSteps := 1000000) only [VL, VM, ↓Gd_none, ↓Gd_t, ↓Gd_f, reduceIte, reduceCtorEq, Int.reduceLE, Int.reduceLT, Int.reduceToNat, Int.reduceNeg, Nat.reduceLT, Nat.reduceEqDiff, Nat.reduceAdd, Nat.reduceSub, Nat.reduceMul, Nat.reduceLeDiff, u_shr, u_xor, u_mul]
  (repeat refine W_seq ?_)
  refine W_ret ?_
  try simp only [thenQ, blockQ]
  refine own_retD hd rfl ?_ (by rfl)
  simp only [get_cons, frz, vtup, Nat.reduceEqDiff, if_true, if_false, reduceIte]
  rfl
def castF (u n : Int) : Int := if n < 2 then 0 else IntKind.i64.wrap ((shU (rollV u) 2).tmod (wrU n))
def castU (u n : Int) : Int := if n < 2 then u else nextU u
theorem castF_range {u n : Int} (hn : n < 9223372036854775808) : 0 ≤ castF u n ∧ castF u n < max n 1 := by
  unfold castF
  by_cases h : n < 2
  · rw [if_pos h]; omega
  · rw [if_neg h]
    have hw : wrU n = n := by
      unfold wrU
      rw [IntKind.wrap_u64]
      omega
    rw [hw]
    have hs := shU_range (y := 2) (rollV_range u)
    have h1 := Int.tmod_nonneg n hs
    have h2 := Int.tmod_lt_of_pos (shU (rollV u) 2) (show 0 < n by omega)
    rw [IntWalk.i64_in _ (by omega)]
    omega
theorem cast_v {H0 : List VObj} {d : Nat} (hd : d < H0.length) (u n : Int) (lg : List (Nat × Nat)) (hn : n < 9223372036854775808) : VC Try.prog 45 [.ptr d 0, vi n] ⟨DH H0 d u [], lg⟩ (fun r M' => M' = ⟨DH H0 d (castU u n) [], lg⟩ ∧ r = vi (castF u n)) := by
  refine VC_own' T_ok (f := 45) (fn := Try.f45) (by kernel_rfl) rfl Try.ntmps45 (by rfl) (by rfl) ?_
  ((repeat refine W_seq ?_); refine W_region0 T_ok ?_)
  simp (maxSteps := 1000000) only [VL, VM, ↓Gd_none, ↓Gd_t, ↓Gd_f, reduceIte, reduceCtorEq, Int.reduceLE, Int.reduceLT, Int.reduceToNat, Int.reduceNeg, Nat.reduceLT, Nat.reduceEqDiff, Nat.reduceAdd, Nat.reduceSub, Nat.reduceMul, Nat.reduceLeDiff]
  ((repeat refine W_seq ?_); refine W_region0 T_ok ?_)
  by_cases h : n < 2
  · simp (maxSteps := 1000000) only [VL, VM, ↓Gd_none, ↓Gd_t, ↓Gd_f, reduceIte, reduceCtorEq, Int.reduceLE, Int.reduceLT, Int.reduceToNat, Int.reduceNeg, Nat.reduceLT, Nat.reduceEqDiff, Nat.reduceAdd, Nat.reduceSub, Nat.reduceMul, Nat.reduceLeDiff, h]
    ((repeat refine W_seq ?_); refine W_cond (b := true) (by first | rfl | simp only [ev, get_cons, Nat.reduceEqDiff, if_true, if_false, reduceIte]) (fun _ => ?_) (fun h => by cases h))
    ((repeat refine W_seq ?_); refine W_region0 T_ok ?_)
    simp (maxSteps := 1000000) only [VL, VM, ↓Gd_none, ↓Gd_t, ↓Gd_f, reduceIte, reduceCtorEq, Int.reduceLE, Int.reduceLT, Int.reduceToNat, Int.reduceNeg, Nat.reduceLT, Nat.reduceEqDiff, Nat.reduceAdd, Nat.reduceSub, Nat.reduceMul, Nat.reduceLeDiff]
    rw [castU, if_pos h, castF, if_pos h]
    (repeat refine W_seq ?_)
    refine W_ret ?_
    try simp only [thenQ, blockQ]
    refine own_retD hd rfl ?_ (by rfl)
    simp only [get_cons, frz, vtup, Nat.reduceEqDiff, if_true, if_false, reduceIte]
  · have hw : ¬ wrU n = 0 := by
      unfold wrU
      rw [IntKind.wrap_u64]
      omega
    simp (maxSteps := 1000000) only [VL, VM, ↓Gd_none, ↓Gd_t, ↓Gd_f, reduceIte, reduceCtorEq, Int.reduceLE, Int.reduceLT, Int.reduceToNat, Int.reduceNeg, Nat.reduceLT, Nat.reduceEqDiff, Nat.reduceAdd, Nat.reduceSub, Nat.reduceMul, Nat.reduceLeDiff, h]
    ((repeat refine W_seq ?_); refine W_cond (b := false) (by first | rfl | simp only [ev, get_cons, Nat.reduceEqDiff, if_true, if_false, reduceIte]) (fun h => by cases h) (fun _ => ?_))
    ((repeat refine W_seq ?_); refine W_skip ?_)
    simp (maxSteps := 1000000) only [VL, VM, ↓Gd_none, ↓Gd_t, ↓Gd_f, reduceIte, reduceCtorEq, Int.reduceLE, Int.reduceLT, Int.reduceToNat, Int.reduceNeg, Nat.reduceLT, Nat.reduceEqDiff, Nat.reduceAdd, Nat.reduceSub, Nat.reduceMul, Nat.reduceLeDiff]
    rw [castU, if_neg h, castF, if_neg h]
    ((repeat refine W_seq ?_); refine W_region0 T_ok ?_)
    simp (maxSteps := 1000000) only [VL, VM, ↓Gd_none, ↓Gd_t, ↓Gd_f, reduceIte, reduceCtorEq, Int.reduceLE, Int.reduceLT, Int.reduceToNat, Int.reduceNeg, Nat.reduceLT, Nat.reduceEqDiff, Nat.reduceAdd, Nat.reduceSub, Nat.reduceMul, Nat.reduceLeDiff]
    apply call_eq (f := 61) (fn := Try.f61) (by kernel_rfl) (by rfl)
    · exact roll_v hd u lg
    simp (maxSteps := 1000000) only [VL, VM, ↓Gd_none, ↓Gd_t, ↓Gd_f, reduceIte, reduceCtorEq, Int.reduceLE, Int.reduceLT, Int.reduceToNat, Int.reduceNeg, Nat.reduceLT, Nat.reduceEqDiff, Nat.reduceAdd, Nat.reduceSub, Nat.reduceMul, Nat.reduceLeDiff, u_shr, c_iu, u_rem, hw, c_ui, ne_eq]
    (repeat refine W_seq ?_)
    refine W_ret ?_
    try simp only [thenQ, blockQ]
    refine own_retD hd rfl ?_ (by rfl)
    simp only [get_cons, frz, vtup, Nat.reduceEqDiff, if_true, if_false, reduceIte]
def fromF (u lo hi : Int) : Int := lo + castF u (hi - lo + 1)
def fromU (u lo hi : Int) : Int := castU u (hi - lo + 1)
theorem fromF_range {u lo hi : Int} (h : hi - lo < 1000000000000) : lo ≤ fromF u lo hi ∧ fromF u lo hi ≤ max lo hi := by
  unfold fromF
  have := castF_range (u := u) (n := hi - lo + 1) (by omega)
  omega
theorem from_v {H0 : List VObj} {d : Nat} (hd : d < H0.length) (u lo hi : Int) (lg : List (Nat × Nat)) (h0 : -1000000000000 ≤ lo) (h1 : hi ≤ 1000000000000) (h2 : lo ≤ 1000000000000) (h3 : -1000000000000 ≤ hi) : VC Try.prog 46 [.ptr d 0, vi lo, vi hi] ⟨DH H0 d u [], lg⟩ (fun r M' => M' = ⟨DH H0 d (fromU u lo hi) [], lg⟩ ∧ r = vi (fromF u lo hi)) := by
  have k1 : -9223372036854775808 ≤ hi - lo ∧ hi - lo < 9223372036854775808 := by omega
  have k2 : -9223372036854775808 ≤ hi - lo + 1 ∧ hi - lo + 1 < 9223372036854775808 := by omega
  have hc := castF_range (u := u) (n := hi - lo + 1) (by omega)
  have k3 : -9223372036854775808 ≤ lo + castF u (hi - lo + 1) ∧ lo + castF u (hi - lo + 1) < 9223372036854775808 := by omega
  refine VC_own' T_ok (f := 46) (fn := Try.f46) (by kernel_rfl) rfl Try.ntmps46 (by rfl) (by rfl) ?_
  ((repeat refine W_seq ?_); refine W_region0 T_ok ?_)
  simp (maxSteps := 1000000) only [VL, VM, ↓Gd_none, ↓Gd_t, ↓Gd_f, reduceIte, reduceCtorEq, Int.reduceLE, Int.reduceLT, Int.reduceToNat, Int.reduceNeg, Nat.reduceLT, Nat.reduceEqDiff, Nat.reduceAdd, Nat.reduceSub, Nat.reduceMul, Nat.reduceLeDiff]
  ((repeat refine W_seq ?_); refine W_region0 T_ok ?_)
  simp (maxSteps := 1000000) only [VL, VM, ↓Gd_none, ↓Gd_t, ↓Gd_f, reduceIte, reduceCtorEq, Int.reduceLE, Int.reduceLT, Int.reduceToNat, Int.reduceNeg, Nat.reduceLT, Nat.reduceEqDiff, Nat.reduceAdd, Nat.reduceSub, Nat.reduceMul, Nat.reduceLeDiff, k1, k2]
  apply call_eq (f := 45) (fn := Try.f45) (by kernel_rfl) (by rfl)
  · exact cast_v hd u (hi - lo + 1) lg (by omega)
  simp (maxSteps := 1000000) only [VL, VM, ↓Gd_none, ↓Gd_t, ↓Gd_f, reduceIte, reduceCtorEq, Int.reduceLE, Int.reduceLT, Int.reduceToNat, Int.reduceNeg, Nat.reduceLT, Nat.reduceEqDiff, Nat.reduceAdd, Nat.reduceSub, Nat.reduceMul, Nat.reduceLeDiff, k3]
  (repeat refine W_seq ?_)
  refine W_ret ?_
  try simp only [thenQ, blockQ]
  refine own_retD hd rfl ?_ (by rfl)
  simp only [get_cons, frz, vtup, Nat.reduceEqDiff, if_true, if_false, reduceIte]
  rfl
def onceF (u n : Int) : Bool := decide (castF u n = 0)
theorem once_v {H0 : List VObj} {d : Nat} (hd : d < H0.length) (u n : Int) (lg : List (Nat × Nat)) (hn : n < 9223372036854775808) : VC Try.prog 41 [.ptr d 0, vi n] ⟨DH H0 d u [], lg⟩ (fun r M' => M' = ⟨DH H0 d (castU u n) [], lg⟩ ∧ r = vb (onceF u n)) := by
  refine VC_own' T_ok (f := 41) (fn := Try.f41) (by kernel_rfl) rfl Try.ntmps41 (by rfl) (by rfl) ?_
  ((repeat refine W_seq ?_); refine W_region0 T_ok ?_)
  simp (maxSteps := 1000000) only [VL, VM, ↓Gd_none, ↓Gd_t, ↓Gd_f, reduceIte, reduceCtorEq, Int.reduceLE, Int.reduceLT, Int.reduceToNat, Int.reduceNeg, Nat.reduceLT, Nat.reduceEqDiff, Nat.reduceAdd, Nat.reduceSub, Nat.reduceMul, Nat.reduceLeDiff]
  ((repeat refine W_seq ?_); refine W_region0 T_ok ?_)
  simp (maxSteps := 1000000) only [VL, VM, ↓Gd_none, ↓Gd_t, ↓Gd_f, reduceIte, reduceCtorEq, Int.reduceLE, Int.reduceLT, Int.reduceToNat, Int.reduceNeg, Nat.reduceLT, Nat.reduceEqDiff, Nat.reduceAdd, Nat.reduceSub, Nat.reduceMul, Nat.reduceLeDiff]
  apply call_eq (f := 45) (fn := Try.f45) (by kernel_rfl) (by rfl)
  · exact cast_v hd u n lg hn
  simp (maxSteps := 1000000) only [VL, VM, ↓Gd_none, ↓Gd_t, ↓Gd_f, reduceIte, reduceCtorEq, Int.reduceLE, Int.reduceLT, Int.reduceToNat, Int.reduceNeg, Nat.reduceLT, Nat.reduceEqDiff, Nat.reduceAdd, Nat.reduceSub, Nat.reduceMul, Nat.reduceLeDiff]
  (repeat refine W_seq ?_)
  refine W_ret ?_
  try simp only [thenQ, blockQ]
  refine own_retD hd rfl ?_ (by rfl)
  simp only [get_cons, frz, vtup, Nat.reduceEqDiff, if_true, if_false, reduceIte]
  rfl
def oneF (u : Int) (xs : List Int) : Int := xs.getD (castF u xs.length).toNat 0
def oneU (u : Int) (xs : List Int) : Int := castU u xs.length
theorem one_v {H0 : List VObj} {d : Nat} (hd : d < H0.length) (u : Int) (xs : List Int) (lg : List (Nat × Nat)) (h0 : xs.length ≠ 0) (hl : xs.length ≤ 1000000) : VC Try.prog 44 [.ptr d 0, intsV xs] ⟨DH H0 d u [], lg⟩ (fun r M' => M' = ⟨DH H0 d (oneU u xs) [], lg⟩ ∧ r = vi (oneF u xs)) := by
  have k1 : ((xs.length : Int) = 0) = False := eq_false (by omega)
  have hc := castF_range (u := u) (n := xs.length) (by omega)
  have hc0 := hc.1
  have hlt : (castF u xs.length).toNat < xs.length := by omega
  have hx : xs[(castF u xs.length).toNat]? = some (oneF u xs) := by simp [oneF, hlt]
  have hx' := map_at (f := intP) hx
  refine VC_own' T_ok (f := 44) (fn := Try.f44) (by kernel_rfl) rfl Try.ntmps44 (by rfl) (by rfl) ?_
  ((repeat refine W_seq ?_); refine W_region0 T_ok ?_)
  simp (maxSteps := 1000000) only [VL, VM, ↓Gd_none, ↓Gd_t, ↓Gd_f, reduceIte, reduceCtorEq, Int.reduceLE, Int.reduceLT, Int.reduceToNat, Int.reduceNeg, Nat.reduceLT, Nat.reduceEqDiff, Nat.reduceAdd, Nat.reduceSub, Nat.reduceMul, Nat.reduceLeDiff]
  ((repeat refine W_seq ?_); refine W_region0 T_ok ?_)
  simp (maxSteps := 1000000) only [VL, VM, ↓Gd_none, ↓Gd_t, ↓Gd_f, reduceIte, reduceCtorEq, Int.reduceLE, Int.reduceLT, Int.reduceToNat, Int.reduceNeg, Nat.reduceLT, Nat.reduceEqDiff, Nat.reduceAdd, Nat.reduceSub, Nat.reduceMul, Nat.reduceLeDiff, k1]
  ((repeat refine W_seq ?_); refine W_cond (b := false) (by first | rfl | simp only [ev, get_cons, Nat.reduceEqDiff, if_true, if_false, reduceIte]) (fun h => by cases h) (fun _ => ?_))
  ((repeat refine W_seq ?_); refine W_skip ?_)
  simp (maxSteps := 1000000) only [VL, VM, ↓Gd_none, ↓Gd_t, ↓Gd_f, reduceIte, reduceCtorEq, Int.reduceLE, Int.reduceLT, Int.reduceToNat, Int.reduceNeg, Nat.reduceLT, Nat.reduceEqDiff, Nat.reduceAdd, Nat.reduceSub, Nat.reduceMul, Nat.reduceLeDiff]
  ((repeat refine W_seq ?_); refine W_region0 T_ok ?_)
  simp (maxSteps := 1000000) only [VL, VM, ↓Gd_none, ↓Gd_t, ↓Gd_f, reduceIte, reduceCtorEq, Int.reduceLE, Int.reduceLT, Int.reduceToNat, Int.reduceNeg, Nat.reduceLT, Nat.reduceEqDiff, Nat.reduceAdd, Nat.reduceSub, Nat.reduceMul, Nat.reduceLeDiff]
  apply call_eq (f := 45) (fn := Try.f45) (by kernel_rfl) (by rfl)
  · exact cast_v hd u xs.length lg (by omega)
  simp (maxSteps := 1000000) only [VL, VM, ↓Gd_none, ↓Gd_t, ↓Gd_f, reduceIte, reduceCtorEq, Int.reduceLE, Int.reduceLT, Int.reduceToNat, Int.reduceNeg, Nat.reduceLT, Nat.reduceEqDiff, Nat.reduceAdd, Nat.reduceSub, Nat.reduceMul, Nat.reduceLeDiff, hc0, hx']
  (repeat refine W_seq ?_)
  refine W_ret ?_
  try simp only [thenQ, blockQ]
  refine own_retD hd rfl ?_ (by rfl)
  simp only [get_cons, frz, vtup, Nat.reduceEqDiff, if_true, if_false, reduceIte]
end Go.Proofs.Ytijcmgfblpokhaa.Vm

/- Dice, on values, part 2. (Vm) -/
namespace Go.Proofs.Ytijcmgfblpokhaa.Vm
open Go Go.Proofs
section
variable {H0 : List VObj} {d : Nat} (hd : d < H0.length) {u : Int} {L : List VObj}
include hd
/-- the end of a function whose result lies in memory -/
theorem own_retDc {f : Nat} {fn : Func} {lg : List (Nat × Nat)} {v : Int} {e : Env} {ex : Exit} {a t : Nat} {X Y : VV} (hex : ex = .normal ∨ ex = .ret) (h1 : fn.results.toList = [.cell a t]) (hr : vload T t (get e a) ⟨DH H0 d v L, lg⟩ = some Y) (hY : frz H0.length (DH H0 d v L) Y = X) (h2 : refs X = []) : ownQ T f fn ⟨DH H0 d u [], lg⟩ (fun r M' => M' = ⟨DH H0 d v [], lg⟩ ∧ r = X) ex e ⟨DH H0 d v L, lg⟩ [] :=
  ⟨hex, rfl, ⟨[], by simp, by simp⟩, DH H0 d v [], L, DH_eq hd, by rw [DH_len, DH_len], [Y], by rw [h1]; simp [vresL, hr], X, by rw [DH_len0]; exact hY, by simp [h2], rfl, rfl⟩
theorem from_c (u lo hi : Int) (lg : List (Nat × Nat)) (h0 : -1000000000000 ≤ lo) (h1 : hi ≤ 1000000000000) (h2 : lo ≤ 1000000000000) (h3 : -1000000000000 ≤ hi) : VC Try.prog 46 [.ptr d 0, vi lo, vi hi] ⟨DH H0 d u L, lg⟩ (fun r M' => M' = ⟨DH H0 d (fromU u lo hi) L, lg⟩ ∧ r = vi (fromF u lo hi)) := by
  rw [DH_base, DH_base (u := fromU u lo hi)]
  exact from_v (by rw [List.length_append]; omega) u lo hi lg h0 h1 h2 h3
theorem cast_c (u n : Int) (lg : List (Nat × Nat)) (hn : n < 9223372036854775808) : VC Try.prog 45 [.ptr d 0, vi n] ⟨DH H0 d u L, lg⟩ (fun r M' => M' = ⟨DH H0 d (castU u n) L, lg⟩ ∧ r = vi (castF u n)) := by
  rw [DH_base, DH_base (u := castU u n)]
  exact cast_v (by rw [List.length_append]; omega) u n lg hn
theorem once_c (u n : Int) (lg : List (Nat × Nat)) (hn : n < 9223372036854775808) : VC Try.prog 41 [.ptr d 0, vi n] ⟨DH H0 d u L, lg⟩ (fun r M' => M' = ⟨DH H0 d (castU u n) L, lg⟩ ∧ r = vb (onceF u n)) := by
  rw [DH_base, DH_base (u := castU u n)]
  exact once_v (by rw [List.length_append]; omega) u n lg hn
theorem one_c (u : Int) (xs : List Int) (lg : List (Nat × Nat)) (h0 : xs.length ≠ 0) (hl : xs.length ≤ 1000000) : VC Try.prog 44 [.ptr d 0, intsV xs] ⟨DH H0 d u L, lg⟩ (fun r M' => M' = ⟨DH H0 d (oneU u xs) L, lg⟩ ∧ r = vi (oneF u xs)) := by
  rw [DH_base, DH_base (u := oneU u xs)]
  exact one_v (by rw [List.length_append]; omega) u xs lg h0 hl
end
theorem oneF_mem {u : Int} {xs : List Int} (h0 : xs.length ≠ 0) (hl : xs.length ≤ 1000000) : oneF u xs ∈ xs := by
  have hc := castF_range (u := u) (n := xs.length) (by omega)
  have hlt : (castF u xs.length).toNat < xs.length := by omega
  have hx : xs[(castF u xs.length).toNat]? = some (oneF u xs) := by simp [oneF, hlt]
  exact List.mem_of_getElem? hx
/-- a span made of numbers -/
def spanU1 (u lo hi : Int) : Int := fromU u lo hi
def spanL (u lo hi : Int) : List Int := [fromF u lo hi, min hi (fromF u lo hi + 4), hi]
def spanM (u lo hi : Int) : Int := oneF (spanU1 u lo hi) (spanL u lo hi)
def spanU2 (u lo hi : Int) : Int := oneU (spanU1 u lo hi) (spanL u lo hi)
def spanF (u lo hi : Int) : Sp := ⟨fromF u lo hi, fromF (spanU2 u lo hi) (fromF u lo hi) (spanM u lo hi)⟩
def spanU (u lo hi : Int) : Int := fromU (spanU2 u lo hi) (fromF u lo hi) (spanM u lo hi)
theorem spanM_range {u lo hi : Int} (h : lo ≤ hi) (h2 : hi - lo < 1000000000) : fromF u lo hi ≤ spanM u lo hi ∧ spanM u lo hi ≤ hi := by
  have h1 := fromF_range (u := u) (lo := lo) (hi := hi) (by omega)
  have hm : spanM u lo hi ∈ spanL u lo hi := oneF_mem (by simp [spanL]) (by simp [spanL])
  simp only [spanL, List.mem_cons, List.not_mem_nil, or_false] at hm
  rcases hm with hm | hm | hm <;> rw [hm] <;> omega
theorem span_range {u lo hi : Int} (h : lo ≤ hi) (h2 : hi - lo < 1000000000) : lo ≤ (spanF u lo hi).lo ∧ (spanF u lo hi).lo ≤ (spanF u lo hi).hi ∧ (spanF u lo hi).hi ≤ hi := by
  have h1 := fromF_range (u := u) (lo := lo) (hi := hi) (by omega)
  have h3 := spanM_range (u := u) h h2
  have h4 := fromF_range (u := spanU2 u lo hi) (lo := fromF u lo hi) (hi := spanM u lo hi) (by omega)
  simp only [spanF]
  omega
theorem span_v {H0 : List VObj} {d : Nat} (hd : d < H0.length) (u lo hi : Int) (lg : List (Nat × Nat)) (h0 : 0 ≤ lo) (h1 : lo ≤ hi) (h2 : hi ≤ 100000000) : VC Try.prog 60 [.ptr d 0, vi lo, vi hi] ⟨DH H0 d u [], lg⟩ (fun r M' => M' = ⟨DH H0 d (spanU u lo hi) [], lg⟩ ∧ r = spV (spanF u lo hi)) := by
  have a1 := fromF_range (u := u) (lo := lo) (hi := hi) (by omega)
  have a2 := spanM_range (u := u) h1 (by omega)
  have k1 : -9223372036854775808 ≤ fromF u lo hi + 4 ∧ fromF u lo hi + 4 < 9223372036854775808 := by omega
  have g0 := DH_app hd (u := u) (L := [])
  refine VC_own' T_ok (f := 60) (fn := Try.f60) (by kernel_rfl) rfl Try.ntmps60 (by rfl) (by rfl) ?_
  ((repeat refine W_seq ?_); refine W_region0 T_ok ?_)
  simp (maxSteps := 1000000) only [VL, VM, ↓Gd_none, ↓Gd_t, ↓Gd_f, reduceIte, reduceCtorEq, Int.reduceLE, Int.reduceLT, Int.reduceToNat, Int.reduceNeg, Nat.reduceLT, Nat.reduceEqDiff, Nat.reduceAdd, Nat.reduceSub, Nat.reduceMul, Nat.reduceLeDiff, DH_app hd, DH_len, DH_len0]
  ((repeat refine W_seq ?_); refine W_region0 T_ok ?_)
  simp (maxSteps := 1000000) only [VL, VM, ↓Gd_none, ↓Gd_t, ↓Gd_f, reduceIte, reduceCtorEq, Int.reduceLE, Int.reduceLT, Int.reduceToNat, Int.reduceNeg, Nat.reduceLT, Nat.reduceEqDiff, Nat.reduceAdd, Nat.reduceSub, Nat.reduceMul, Nat.reduceLeDiff]
  apply call_eq (f := 46) (fn := Try.f46) (by kernel_rfl) (by rfl)
  · exact from_c hd u lo hi lg (by omega) (by omega) (by omega) (by omega)
  simp (maxSteps := 1000000) only [VL, VM, ↓Gd_none, ↓Gd_t, ↓Gd_f, reduceIte, reduceCtorEq, Int.reduceLE, Int.reduceLT, Int.reduceToNat, Int.reduceNeg, Nat.reduceLT, Nat.reduceEqDiff, Nat.reduceAdd, Nat.reduceSub, Nat.reduceMul, Nat.reduceLeDiff]
  ((repeat refine W_seq ?_); refine W_region0 T_ok ?_)
  simp (maxSteps := 1000000) only [VL, VM, ↓Gd_none, ↓Gd_t, ↓Gd_f, reduceIte, reduceCtorEq, Int.reduceLE, Int.reduceLT, Int.reduceToNat, Int.reduceNeg, Nat.reduceLT, Nat.reduceEqDiff, Nat.reduceAdd, Nat.reduceSub, Nat.reduceMul, Nat.reduceLeDiff, k1]
  apply call_eq (f := 44) (fn := Try.f44) (by kernel_rfl) (by rfl)
  · exact one_c hd (spanU1 u lo hi) (spanL u lo hi) lg (by simp [spanL]) (by simp [spanL])
  simp (maxSteps := 1000000) only [VL, VM, ↓Gd_none, ↓Gd_t, ↓Gd_f, reduceIte, reduceCtorEq, Int.reduceLE, Int.reduceLT, Int.reduceToNat, Int.reduceNeg, Nat.reduceLT, Nat.reduceEqDiff, Nat.reduceAdd, Nat.reduceSub, Nat.reduceMul, Nat.reduceLeDiff]
  ((repeat refine W_seq ?_); refine W_region0 T_ok ?_)
  simp (maxSteps := 1000000) only [VL, VM, ↓Gd_none, ↓Gd_t, ↓Gd_f, reduceIte, reduceCtorEq, Int.reduceLE, Int.reduceLT, Int.reduceToNat, Int.reduceNeg, Nat.reduceLT, Nat.reduceEqDiff, Nat.reduceAdd, Nat.reduceSub, Nat.reduceMul, Nat.reduceLeDiff]
  apply call_eq (f := 46) (fn := Try.f46) (by kernel_rfl) (by rfl)
  · exact from_c hd (spanU2 u lo hi) (fromF u lo hi) (spanM u lo hi) lg (by omega) (by omega) (by omega) (by omega)
  simp (maxSteps := 1000000) only [VL, VM, ↓Gd_none, ↓Gd_t, ↓Gd_f, reduceIte, reduceCtorEq, Int.reduceLE, Int.reduceLT, Int.reduceToNat, Int.reduceNeg, Nat.reduceLT, Nat.reduceEqDiff, Nat.reduceAdd, Nat.reduceSub, Nat.reduceMul, Nat.reduceLeDiff, DH_get0 hd, DH_get hd, DH_set hd, DH_set0 hd]
  (repeat refine W_seq ?_)
  refine W_ret ?_
  try simp only [thenQ, blockQ]
  refine own_retDc hd (.inr rfl) rfl (by simp [get_cons, vload, t_span, DH_get0 hd, nat_ble, strip1]; rfl) (by rfl) (by rfl)
theorem span_c {H0 : List VObj} {d : Nat} (hd : d < H0.length) {L : List VObj} (u lo hi : Int) (lg : List (Nat × Nat)) (h0 : 0 ≤ lo) (h1 : lo ≤ hi) (h2 : hi ≤ 100000000) : VC Try.prog 60 [.ptr d 0, vi lo, vi hi] ⟨DH H0 d u L, lg⟩ (fun r M' => M' = ⟨DH H0 d (spanU u lo hi) L, lg⟩ ∧ r = spV (spanF u lo hi)) := by
  rw [DH_base, DH_base (u := spanU u lo hi)]
  exact span_v (by rw [List.length_append]; omega) u lo hi lg h0 h1 h2
end Go.Proofs.Ytijcmgfblpokhaa.Vm

/- Dice, the second part. -/
namespace Go.Proofs.Ytijcmgfblpokhaa
open Go.RowKit
attribute [local go_sem ↓] Go.wp_at_zero Go.wp_at_succ
set_option maxRecDepth 100000 in
set_option maxHeartbeats 400000 in
theorem dieof_any (w : World) (v : Value) (xs : List Int) (hs : Sl w w.heap.size 1 intC v xs) :
    Calls Try.prog 17 #[v] w (RetX (fun v w' => ∃ D, v = .pointer (some ⟨D, 0, none⟩) ∧ w.heap.size ≤ D ∧ DieAt w' DT D) w) := by
  obtain ⟨A, c, rfl, hc, hc2, hg⟩ := hs.open_
  unfold maxLen at hc2
  go_enter Try.func17, Try.ntmps17
  go_wp2_with fail
  go_loopw [4] (fun i wr => ∃ k : Nat, k ≤ xs.length ∧ i = .int .i64 k ∧ DieAt wr DT w.heap.size ∧ Below w.heap.size w wr) (fun i _ => xs.length - (intOf i).toNat)
  case atStart => exact ⟨0, Nat.zero_le _, rfl, ⟨_, by omega, by omega, Blk.new _ _ _⟩, (Below.refl _ _).alloc (Nat.le_refl _) _⟩
  case round =>
    obtain ⟨k, hk, rfl, ⟨f, hf0, hf1, hf⟩, hb⟩ := hrel
    by_cases hlt : k < xs.length
    · obtain ⟨b, off, rfl, hbB, hcell⟩ := hg (by omega)
      have hx : wr.cell? ⟨b, off + k, none⟩ = some (.int .i64 xs[k]) := (hb.cell (p := ⟨b, off + k, none⟩) hbB).trans (one_at hcell hlt)
      have hfc : wr.cell? ⟨w.heap.size, 0, none⟩ = some (.int .u64 f) := by simpa using hf.cell 0
      have hfz := hf.frozen 0
      have hk0 : (0 : Int) ≤ k := by omega
      have hk1 : (k : Int) < xs.length := by omega
      go_wp2_with fail
      go_still_tail 14, (by kernel_rfl)
      have hb2 : Below w.heap.size w wr.drew := hb.drew
      have hf2 : Blk wr.drew w.heap.size DT #[.int .u64 f] := hf
      have hfc2 : wr.drew.cell? ⟨w.heap.size, 0, none⟩ = some (.int .u64 f) := hfc
      have hfz2 : wr.drew.frozen? ⟨w.heap.size, 0, none⟩ = false := hfz
      clear hx hfc hfz hb hf hf0 hf1
      change wpList _ _ _ _ _ wr.drew
      generalize wr.drew = w2 at *
      go_wp2_with fail
      refine (roll_any w.heap.size _ ⟨_, (wrap_u64 _).1, (wrap_u64 _).2, hf2.set_ 0 _⟩).mono ?_
      rintro e w3 ⟨v, rfl, ⟨n, _, _, rfl⟩, hd3, hf3⟩
      have hb3 := (hb2.setCell (p := ⟨w.heap.size, 0, none⟩) (Nat.le_refl _) (.int .u64 (IntKind.u64.wrap (bits .xor .u64 f (IntKind.u64.wrap xs[k]) * 11507291218515648293)))).trans (hf3.below (by have := hb2.size; simp [World.setCell]; omega) (Nat.le_refl _))
      clear hf3 hfc2 hfz2 hf2 hb2
      go_wp2_with fail
      go_roundw
      case rel => exact ⟨k + 1, by omega, by go_num, hd3, hb3⟩
      case measure => simp [intOf]; omega
    · go_wp2_with fail
      go_ret
      exact ⟨_, rfl, ⟨_, rfl, Nat.le_refl _, ⟨f, hf0, hf1, hf⟩⟩, hb⟩

theorem madeCells_one (z : Value) (hz : z.cells = #[z]) (n : Nat) : (madeCells z.cells n).toList = List.replicate n z := by
  rw [hz]
  apply List.ext_getElem
  · simp [size_madeCells]
  · intro i h1 h2
    simp [madeCells, Nat.mod_one]
theorem info_int : (Try.prog.info? 3).map (fun i => (i.zero, i.size, i.bytes)) = some (some (.int .i64 0), 1, 8) := by kernel_rfl
theorem swap_perm {α : Type} (x : α) : ∀ (p : List α) (c : Nat) (h : c < p.length), (p.set c x ++ [p[c]]).Perm (p ++ [x])
  | [], c, h => by simp at h
  | a :: l, 0, h => by
    simp only [List.set_cons_zero, List.getElem_cons_zero, List.cons_append]
    refine (List.Perm.cons x (List.perm_append_singleton a l)).trans ((List.Perm.swap _ _ _).trans (List.Perm.cons a (List.perm_append_singleton x l).symm))
  | a :: l, c + 1, h => by
    simp only [List.set_cons_succ, List.getElem_cons_succ, List.cons_append]
    exact List.Perm.cons a (swap_perm x l c (by simpa using h))
/-- k numbers shuffled, and zeros behind them -/
def Shuf (m k : Nat) (xs : List Int) : Prop := ∃ p : List Nat, p.Perm (List.range k) ∧ xs = p.map (fun i : Nat => (i : Int)) ++ List.replicate (m - k) 0
theorem Shuf.len {m k : Nat} {xs : List Int} (h : Shuf m k xs) (hk : k ≤ m) : xs.length = m := by
  obtain ⟨p, hp, rfl⟩ := h
  have := hp.length_eq
  simp at this
  simp [this]; omega
theorem Shuf.step {m k c : Nat} {xs : List Int} (h : Shuf m k xs) (hk : k < m) (hc : c ≤ k) (x : Int) (hx : xs[c]? = some x) : Shuf m (k + 1) ((xs.set k x).set c k) := by
  obtain ⟨p, hp, rfl⟩ := h
  have hl : p.length = k := by have := hp.length_eq; simpa using this
  have hrep : List.replicate (m - k) (0 : Int) = 0 :: List.replicate (m - (k + 1)) 0 := by rw [← List.replicate_succ]; congr 1; omega
  have e1 : ((p.map (fun i : Nat => (i : Int))) ++ List.replicate (m - k) 0).set k x = p.map (fun i : Nat => (i : Int)) ++ x :: List.replicate (m - (k + 1)) 0 := by
    rw [List.set_append_right _ _ (by simp [hl]), hrep]; simp [hl]
  rw [e1]
  rcases Nat.lt_or_ge c k with hck | hck
  · have hx' : x = (p[c]'(by omega) : Nat) := by
      rw [List.getElem?_append_left (by simp; omega)] at hx
      simp [show c < p.length by omega] at hx
      exact hx.symm
    refine ⟨p.set c k ++ [p[c]'(by omega)], ?_, ?_⟩
    · refine (swap_perm k p c (by omega)).trans ?_
      rw [List.range_succ]
      exact hp.append (List.Perm.refl _)
    · rw [List.set_append_left _ _ (by simp; omega), hx']
      simp [List.map_set]
  · have : c = k := by omega
    subst this
    refine ⟨p ++ [c], ?_, ?_⟩
    · rw [List.range_succ]; exact hp.append (List.Perm.refl _)
    · rw [List.set_append_right _ _ (by simp [hl])]
      simp [hl]
set_option maxHeartbeats 1000000 in
set_option maxRecDepth 100000 in
theorem shuffle_any (D : Nat) (w : World) (m : Nat) (h0 : m ≤ 1000000) (hd : DieAt w DT D) :
    Calls Try.prog 40 #[.pointer (some ⟨D, 0, none⟩), .int .i64 m] w fun e w' => ∃ g xs, e = .returned (.slice (some ⟨g, 0, none⟩) m m) ∧ w.heap.size ≤ g ∧ Blk w' g 3 ((xs : List Int).map (Value.int .i64)).toArray ∧ Shuf m m xs ∧ DieAt w' DT D ∧ Frm D w.heap.size w w' := by
  have hlt := hd.lt
  obtain ⟨i0, hi, hz0, hz1, hz2⟩ := info_parts info_int
  rcases Nat.eq_zero_or_pos m with hm | hm
  · subst hm
    go_enter Try.func40, Try.ntmps40
    go_wp2_with (at_make; refine wpList_make_full _ rfl _ _ 25 rfl w.heap.size 3 i0 (.int .i64 0) 1 Try.underlying25 hi hz0 hz1 .i64 .i64 0 0 0 rfl rfl rfl rfl (by rw [hz2]; omega) (by unfold maxLen; omega) (Nat.le_refl _) ?_; intro w1 hown hgrow)
    obtain ⟨hb, _⟩ := blk_of_own_full hown
    have hd1 : DieAt w1 DT D ∧ Frm D w.heap.size w w1 := by
      refine ⟨?_, (Frm.refl D _ w).grown hgrow (Nat.le_refl _) (by simp)⟩
      obtain ⟨f, a, b, h⟩ := hd
      exact ⟨f, a, b, h.grown hgrow (by simp)⟩
    refine wp_loop_once ?_
    go_wp2_with fail
    go_ret
    exact ⟨_, [], rfl, Nat.le_refl _, by simpa [madeCells] using hb, ⟨[], by simp, by simp⟩, hd1.1, hd1.2⟩
  have hm' : (0 : Int) < (m : Int) := by omega
  go_enter Try.func40, Try.ntmps40
  go_wp2_with (at_make; refine wpList_make_full _ rfl _ _ 25 rfl w.heap.size 3 i0 (.int .i64 0) 1 Try.underlying25 hi hz0 hz1 .i64 .i64 m m m rfl rfl rfl rfl (by rw [hz2]; omega) (by unfold maxLen; omega) (Nat.le_refl _) ?_; intro w1 hown hgrow)
  obtain ⟨hb, _⟩ := blk_of_own_full hown
  rw [Nat.mul_one, madeCells_one _ rfl] at hb
  have hd1 : DieAt w1 DT D ∧ Frm D w.heap.size w w1 := by
    refine ⟨?_, (Frm.refl D _ w).grown hgrow (Nat.le_refl _) (by simp)⟩
    obtain ⟨f, a, b, h⟩ := hd
    exact ⟨f, a, b, h.grown hgrow (by simp)⟩
  clear hown hgrow hi hz0 hz1 hz2 hd
  go_loopw [6] (fun i wr => ∃ (k : Nat) (xs : List Int), k ≤ m ∧ i = .int .i64 k ∧ Blk wr w.heap.size 3 (xs.map (Value.int .i64)).toArray ∧ Shuf m k xs ∧ DieAt wr DT D ∧ Frm D w.heap.size w wr) (fun i _ => m - (intOf i).toNat)
  case atStart => exact ⟨0, List.replicate m 0, Nat.zero_le _, rfl, by simpa using hb, ⟨[], by simp, by simp⟩, hd1.1, hd1.2⟩
  case round =>
    obtain ⟨k, xs, hk, rfl, hbx, hsh, hdr, hfr⟩ := hrel
    have hlen := hsh.len hk
    have Hlen := Lib.hid hlen
    clear hlen hb hd1
    by_cases hlt2 : k < m
    · have hk1 : (k : Int) < m := by omega
      go_wp2_with fail
      refine (cast_any D _ _ (by omega) hdr).mono ?_
      rintro e w2 ⟨v, rfl, ⟨c, hc0, hc1, rfl⟩, hd2, hf2⟩
      obtain ⟨c, rfl⟩ := Int.eq_ofNat_of_zero_le hc0
      have hb2 := hbx.frm hf2 hbx.lt (by omega)
      have hfr2 := hfr.trans (hf2.mono hfr.size)
      have hx : xs[c]? = some (xs[c]'(by rw [Hlen.out]; omega)) := List.getElem?_eq_getElem _
      have hc1 : w2.cell? ⟨w.heap.size, c, none⟩ = some (.int .i64 (xs[c]'(by rw [Hlen.out]; omega))) := by rw [hb2.cell]; simp [hx]
      have hz1 := hb2.frozen k
      have hck : w2.cell? ⟨w.heap.size, k, none⟩ = some (.int .i64 (xs[k]'(by rw [Hlen.out]; omega))) := by rw [hb2.cell]; simp [show k < xs.length by rw [Hlen.out]; omega]
      have hcm : (c : Int) < m := by omega
      have hbk := hb2.set_ k (.int .i64 (xs[c]'(by rw [Hlen.out]; omega)))
      have hbc := hbk.set_ c (.int .i64 k)
      have hck2 : ∃ v, (w2.setCell ⟨w.heap.size, k, none⟩ (.int .i64 (xs[c]'(by rw [Hlen.out]; omega)))).cell? ⟨w.heap.size, c, none⟩ = some v := by rw [hbk.cell]; exact ⟨_, Array.getElem?_eq_getElem (by simp [Hlen.out]; omega)⟩
      obtain ⟨v2, hck2⟩ := hck2
      have hz2 := hbk.frozen c
      have hsz := hfr2.size
      have hs3 : Shuf m (k + 1) ((xs.set k (xs[c]'(by rw [Hlen.out]; omega))).set c k) := hsh.step hlt2 (by omega) _ hx
      have Hx := Lib.hid hx
      clear hx
      go_wp2_with fail
      go_roundw
      case rel =>
        refine ⟨k + 1, _, by omega, by go_num, ?_, hs3, ((hd2.set_other (by show w.heap.size ≠ D; omega) _).set_other (by show w.heap.size ≠ D; omega) _), ((hfr2.setCell (.inl (Nat.le_refl _)) _).setCell (.inl (Nat.le_refl _)) _)⟩
        simpa [List.map_set] using hbc
      case measure => simp [intOf]; omega
    · go_wp2_with fail
      go_ret
      obtain rfl : k = m := by omega
      exact ⟨_, xs, rfl, Nat.le_refl _, hbx, hsh, hdr, hfr⟩
end Go.Proofs.Ytijcmgfblpokhaa

/- Dice, on values, part 3. (Vm) -/
namespace Go.Proofs.Ytijcmgfblpokhaa.Vm
open Go Go.Proofs
def trueU1 (u : Int) (x : Sp) : Int := fromU u x.lo x.hi
def trueU2 (u : Int) (x : Sp) : Int := fromU (trueU1 u x) x.lo x.hi
def trueL (u : Int) (x : Sp) : List Int := [x.lo, x.hi, fromF u x.lo x.hi, fromF (trueU1 u x) x.lo x.hi]
def trueF (u : Int) (x : Sp) : Int := oneF (trueU2 u x) (trueL u x)
def trueU (u : Int) (x : Sp) : Int := oneU (trueU2 u x) (trueL u x)
theorem trueF_range {u : Int} {x : Sp} (h : x.lo ≤ x.hi) (h2 : x.hi - x.lo < 1000000000) : x.lo ≤ trueF u x ∧ trueF u x ≤ x.hi := by
  have h1 := fromF_range (u := u) (lo := x.lo) (hi := x.hi) (by omega)
  have h3 := fromF_range (u := trueU1 u x) (lo := x.lo) (hi := x.hi) (by omega)
  have hm : trueF u x ∈ trueL u x := oneF_mem (by simp [trueL]) (by simp [trueL])
  simp only [trueL, List.mem_cons, List.not_mem_nil, or_false] at hm
  rcases hm with hm | hm | hm | hm <;> rw [hm] <;> omega
theorem true_v {H0 : List VObj} {d : Nat} (hd : d < H0.length) (u : Int) (x : Sp) (lg : List (Nat × Nat)) (h0 : 0 ≤ x.lo) (h1 : x.lo ≤ x.hi) (h2 : x.hi ≤ 100000000) : VC Try.prog 74 [.ptr d 0, spV x] ⟨DH H0 d u [], lg⟩ (fun r M' => M' = ⟨DH H0 d (trueU u x) [], lg⟩ ∧ r = vi (trueF u x)) := by
  refine VC_own' T_ok (f := 74) (fn := Try.f74) (by kernel_rfl) rfl Try.ntmps74 (by rfl) (by rfl) ?_
  ((repeat refine W_seq ?_); refine W_region0 T_ok ?_)
  simp (maxSteps := 1000000) only [VL, VM, ↓Gd_none, ↓Gd_t, ↓Gd_f, reduceIte, reduceCtorEq, Int.reduceLE, Int.reduceLT, Int.reduceToNat, Int.reduceNeg, Nat.reduceLT, Nat.reduceEqDiff, Nat.reduceAdd, Nat.reduceSub, Nat.reduceMul, Nat.reduceLeDiff, DH_app hd, DH_len, DH_len0, DH_get hd, DH_get0 hd, DH_set hd, DH_set0 hd, DH_setd, DH_die hd]
  (repeat refine W_seq ?_)
  refine W_drawP T_ok [] (by kernel_rfl) (by kernel_rfl) ?_
  generalize hi : mkPlan _ = infs
  cbv at hi
  subst hi
  simp (maxSteps := 1000000) only [VL, VM, ↓Gd_none, ↓Gd_t, ↓Gd_f, reduceIte, reduceCtorEq, Int.reduceLE, Int.reduceLT, Int.reduceToNat, Int.reduceNeg, Nat.reduceLT, Nat.reduceEqDiff, Nat.reduceAdd, Nat.reduceSub, Nat.reduceMul, Nat.reduceLeDiff, DH_app hd, DH_len, DH_len0, DH_get hd, DH_get0 hd, DH_set hd, DH_set0 hd, DH_setd, DH_die hd]
  apply call_d (f := 46) (fn := Try.f46) (by kernel_rfl) (by rfl)
  · exact from_c hd u x.lo x.hi lg (by omega) (by omega) (by omega) (by omega)
  simp (maxSteps := 1000000) only [VL, VM, ↓Gd_none, ↓Gd_t, ↓Gd_f, reduceIte, reduceCtorEq, Int.reduceLE, Int.reduceLT, Int.reduceToNat, Int.reduceNeg, Nat.reduceLT, Nat.reduceEqDiff, Nat.reduceAdd, Nat.reduceSub, Nat.reduceMul, Nat.reduceLeDiff, DH_app hd, DH_len, DH_len0, DH_get hd, DH_get0 hd, DH_set hd, DH_set0 hd, DH_setd, DH_die hd]
  apply call_d (f := 46) (fn := Try.f46) (by kernel_rfl) (by rfl)
  · exact from_c hd (trueU1 u x) x.lo x.hi lg (by omega) (by omega) (by omega) (by omega)
  simp (maxSteps := 1000000) only [VL, VM, ↓Gd_none, ↓Gd_t, ↓Gd_f, reduceIte, reduceCtorEq, Int.reduceLE, Int.reduceLT, Int.reduceToNat, Int.reduceNeg, Nat.reduceLT, Nat.reduceEqDiff, Nat.reduceAdd, Nat.reduceSub, Nat.reduceMul, Nat.reduceLeDiff, DH_app hd, DH_len, DH_len0, DH_get hd, DH_get0 hd, DH_set hd, DH_set0 hd, DH_setd, DH_die hd]
  apply call_d (f := 44) (fn := Try.f44) (by kernel_rfl) (by rfl)
  · exact one_c hd (trueU2 u x) (trueL u x) lg (by simp [trueL]) (by simp [trueL])
  simp (maxSteps := 1000000) only [VL, VM, ↓Gd_none, ↓Gd_t, ↓Gd_f, reduceIte, reduceCtorEq, Int.reduceLE, Int.reduceLT, Int.reduceToNat, Int.reduceNeg, Nat.reduceLT, Nat.reduceEqDiff, Nat.reduceAdd, Nat.reduceSub, Nat.reduceMul, Nat.reduceLeDiff, DH_app hd, DH_len, DH_len0, DH_get hd, DH_get0 hd, DH_set hd, DH_set0 hd, DH_setd, DH_die hd]
  (repeat refine W_seq ?_)
  refine W_ret ?_
  try simp only [thenQ, blockQ]
  refine own_retD hd rfl ?_ (by rfl)
  simp only [get_cons, frz, vtup, Nat.reduceEqDiff, if_true, if_false, reduceIte]
  rfl
def shufSt (u : Int) (m : Nat) : Nat → Int × List Int
  | 0 => (u, List.replicate m 0)
  | i + 1 => (castU (shufSt u m i).1 ((i : Int) + 1), ((shufSt u m i).2.set i ((shufSt u m i).2.getD (castF (shufSt u m i).1 ((i : Int) + 1)).toNat 0)).set (castF (shufSt u m i).1 ((i : Int) + 1)).toNat (i : Int))
theorem shufSt_len (u : Int) (m : Nat) : ∀ i, (shufSt u m i).2.length = m
  | 0 => by simp [shufSt]
  | i + 1 => by simp [shufSt, shufSt_len u m i]
def shufF (u : Int) (m : Nat) : List Int := (shufSt u m m).2
def shufU (u : Int) (m : Nat) : Int := (shufSt u m m).1
theorem shuffle_v {H0 : List VObj} {d : Nat} (hd : d < H0.length) (u : Int) (m : Nat) (lg : List (Nat × Nat)) (hm : m ≤ 1000000) : VC Try.prog 40 [.ptr d 0, vi m] ⟨DH H0 d u [], lg⟩ (fun r M' => M' = ⟨DH H0 d (shufU u m) [], lg⟩ ∧ r = intsV (shufF u m)) := by
  have hmax : max (0 : Int) (m : Int) = (m : Int) := by omega
  have q1 : (m * 8 ≤ 140737488355328) = True := eq_true (by omega)
  have q2 : (m ≤ 9223372036854775807) = True := eq_true (by omega)
  refine VC_own' T_ok (f := 40) (fn := Try.f40) (by kernel_rfl) rfl Try.ntmps40 (by rfl) (by rfl) ?_
  ((repeat refine W_seq ?_); refine W_region0 T_ok ?_)
  simp (maxSteps := 1000000) only [VL, VM, ↓Gd_none, ↓Gd_t, ↓Gd_f, reduceIte, reduceCtorEq, Int.reduceLE, Int.reduceLT, Int.reduceToNat, Int.reduceNeg, Nat.reduceLT, Nat.reduceEqDiff, Nat.reduceAdd, Nat.reduceSub, Nat.reduceMul, Nat.reduceLeDiff]
  ((repeat refine W_seq ?_); refine W_region0 T_ok ?_)
  simp (maxSteps := 1000000) only [VL, VM, ↓Gd_none, ↓Gd_t, ↓Gd_f, reduceIte, reduceCtorEq, Int.reduceLE, Int.reduceLT, Int.reduceToNat, Int.reduceNeg, Nat.reduceLT, Nat.reduceEqDiff, Nat.reduceAdd, Nat.reduceSub, Nat.reduceMul, Nat.reduceLeDiff, hmax, q1, q2, inCs_rep, DH_app hd, DH_len, DH_len0, DH_get hd, DH_get0 hd, DH_set hd, DH_set0 hd, DH_setd, DH_die hd]
  ((repeat refine W_seq ?_); refine W_region0 T_ok ?_)
  simp (maxSteps := 1000000) only [VL, VM, ↓Gd_none, ↓Gd_t, ↓Gd_f, reduceIte, reduceCtorEq, Int.reduceLE, Int.reduceLT, Int.reduceToNat, Int.reduceNeg, Nat.reduceLT, Nat.reduceEqDiff, Nat.reduceAdd, Nat.reduceSub, Nat.reduceMul, Nat.reduceLeDiff]
  ((repeat refine W_seq ?_); refine W_block ?_; (repeat refine W_seq ?_)); refine W_loopS (fun i : Nat => [(0, .ptr d 0), (5, .bf H0.length 0 m 1), (6, vi i)]) (fun i => ⟨DH H0 d (shufSt u m i).1 [VObj.obj (inCs (shufSt u m i).2)], lg⟩) (fun i => m - i) (fun i => i ≤ m) 0 (Nat.zero_le _) ⟨rfl, rfl, rfl, trivial⟩ rfl ?_
  rintro i hi
  have k1 : -9223372036854775808 ≤ (i : Int) + 1 ∧ (i : Int) + 1 < 9223372036854775808 := by omega
  ((repeat refine W_seq ?_); refine W_region0 T_ok ?_)
  rcases Nat.lt_or_ge i m with hlt | hge
  · have k2 : ((i : Int) < (m : Int)) = True := eq_true (by omega)
    generalize hs : shufSt u m i = s
    obtain ⟨v, xs⟩ := s
    have hl : xs.length = m := by have := shufSt_len u m i; rw [hs] at this; exact this
    have hc := castF_range (u := v) (n := (i : Int) + 1) (by omega)
    have hc0 := hc.1
    have hk : (castF v ((i : Int) + 1)).toNat < m := by omega
    have c1 : ((castF v ((i : Int) + 1)).toNat < m) = True := eq_true hk
    have c2 := inCs_at (l := xs) (k := (castF v ((i : Int) + 1)).toNat) (x := xs.getD (castF v ((i : Int) + 1)).toNat 0) (by simp [hl, hk])
    have c3 : (i + 1 ≤ (inCs xs).length) = True := eq_true (by rw [inCs_len]; omega)
    have c4 := inCs_set (l := xs) (k := i) (xs.getD (castF v ((i : Int) + 1)).toNat 0) (by omega)
    have c5 : ((castF v ((i : Int) + 1)).toNat + 1 ≤ (inCs (xs.set i (xs.getD (castF v ((i : Int) + 1)).toNat 0))).length) = True := eq_true (by rw [inCs_len]; simp; omega)
    have c6 := inCs_set (l := xs.set i (xs.getD (castF v ((i : Int) + 1)).toNat 0)) (k := (castF v ((i : Int) + 1)).toNat) (i : Int) (by simp; omega)
    have c7 : (i < m) = True := eq_true hlt
    simp (maxSteps := 1000000) only [VL, VM, ↓Gd_none, ↓Gd_t, ↓Gd_f, reduceIte, reduceCtorEq, Int.reduceLE, Int.reduceLT, Int.reduceToNat, Int.reduceNeg, Nat.reduceLT, Nat.reduceEqDiff, Nat.reduceAdd, Nat.reduceSub, Nat.reduceMul, Nat.reduceLeDiff, k2]
    ((repeat refine W_seq ?_); refine W_cond (b := true) (by first | rfl | simp only [ev, get_cons, Nat.reduceEqDiff, if_true, if_false, reduceIte]) (fun _ => ?_) (fun h => by cases h))
    ((repeat refine W_seq ?_); refine W_skip ?_)
    simp (maxSteps := 1000000) only [VL, VM, ↓Gd_none, ↓Gd_t, ↓Gd_f, reduceIte, reduceCtorEq, Int.reduceLE, Int.reduceLT, Int.reduceToNat, Int.reduceNeg, Nat.reduceLT, Nat.reduceEqDiff, Nat.reduceAdd, Nat.reduceSub, Nat.reduceMul, Nat.reduceLeDiff]
    ((repeat refine W_seq ?_); refine W_block ?_)
    ((repeat refine W_seq ?_); refine W_region0 T_ok ?_)
    simp (maxSteps := 1000000) only [VL, VM, ↓Gd_none, ↓Gd_t, ↓Gd_f, reduceIte, reduceCtorEq, Int.reduceLE, Int.reduceLT, Int.reduceToNat, Int.reduceNeg, Nat.reduceLT, Nat.reduceEqDiff, Nat.reduceAdd, Nat.reduceSub, Nat.reduceMul, Nat.reduceLeDiff, k1]
    apply call_eq (f := 45) (fn := Try.f45) (by kernel_rfl) (by rfl)
    · exact cast_c hd v ((i : Int) + 1) lg (by omega)
    simp (maxSteps := 1000000) only [VL, VM, ↓Gd_none, ↓Gd_t, ↓Gd_f, reduceIte, reduceCtorEq, Int.reduceLE, Int.reduceLT, Int.reduceToNat, Int.reduceNeg, Nat.reduceLT, Nat.reduceEqDiff, Nat.reduceAdd, Nat.reduceSub, Nat.reduceMul, Nat.reduceLeDiff]
    ((repeat refine W_seq ?_); refine W_region0 T_ok ?_)
    simp (maxSteps := 1000000) only [VL, VM, ↓Gd_none, ↓Gd_t, ↓Gd_f, reduceIte, reduceCtorEq, Int.reduceLE, Int.reduceLT, Int.reduceToNat, Int.reduceNeg, Nat.reduceLT, Nat.reduceEqDiff, Nat.reduceAdd, Nat.reduceSub, Nat.reduceMul, Nat.reduceLeDiff, DH_app hd, DH_len, DH_len0, DH_get hd, DH_get0 hd, DH_set hd, DH_set0 hd, DH_setd, DH_die hd, hc0, c1, c2, c3, c4, c7]
    ((repeat refine W_seq ?_); refine W_region0 T_ok ?_)
    simp (maxSteps := 1000000) only [VL, VM, ↓Gd_none, ↓Gd_t, ↓Gd_f, reduceIte, reduceCtorEq, Int.reduceLE, Int.reduceLT, Int.reduceToNat, Int.reduceNeg, Nat.reduceLT, Nat.reduceEqDiff, Nat.reduceAdd, Nat.reduceSub, Nat.reduceMul, Nat.reduceLeDiff, DH_app hd, DH_len, DH_len0, DH_get hd, DH_get0 hd, DH_set hd, DH_set0 hd, DH_setd, DH_die hd, hc0, c1, c5, c6, c7]
    ((repeat refine W_seq ?_); refine W_region0 T_ok ?_)
    simp (maxSteps := 1000000) only [VL, VM, ↓Gd_none, ↓Gd_t, ↓Gd_f, reduceIte, reduceCtorEq, Int.reduceLE, Int.reduceLT, Int.reduceToNat, Int.reduceNeg, Nat.reduceLT, Nat.reduceEqDiff, Nat.reduceAdd, Nat.reduceSub, Nat.reduceMul, Nat.reduceLeDiff, k1]
    refine LoopK.mk (i + 1) (by omega) (by omega) ⟨rfl, rfl, rfl, trivial⟩ ?_
    simp only [shufSt, hs]
  · have k2 : ((i : Int) < (m : Int)) = False := eq_false (by omega)
    obtain rfl : i = m := by omega
    simp (maxSteps := 1000000) only [VL, VM, ↓Gd_none, ↓Gd_t, ↓Gd_f, reduceIte, reduceCtorEq, Int.reduceLE, Int.reduceLT, Int.reduceToNat, Int.reduceNeg, Nat.reduceLT, Nat.reduceEqDiff, Nat.reduceAdd, Nat.reduceSub, Nat.reduceMul, Nat.reduceLeDiff, k2]
    ((repeat refine W_seq ?_); refine W_cond (b := false) (by first | rfl | simp only [ev, get_cons, Nat.reduceEqDiff, if_true, if_false, reduceIte]) (fun h => by cases h) (fun _ => ?_))
    ((repeat refine W_seq ?_); refine W_exit ?_)
    simp (maxSteps := 1000000) only [VL, VM, ↓Gd_none, ↓Gd_t, ↓Gd_f, reduceIte, reduceCtorEq, Int.reduceLE, Int.reduceLT, Int.reduceToNat, Int.reduceNeg, Nat.reduceLT, Nat.reduceEqDiff, Nat.reduceAdd, Nat.reduceSub, Nat.reduceMul, Nat.reduceLeDiff]
    ((repeat refine W_seq ?_); refine W_region0 T_ok ?_)
    simp (maxSteps := 1000000) only [VL, VM, ↓Gd_none, ↓Gd_t, ↓Gd_f, reduceIte, reduceCtorEq, Int.reduceLE, Int.reduceLT, Int.reduceToNat, Int.reduceNeg, Nat.reduceLT, Nat.reduceEqDiff, Nat.reduceAdd, Nat.reduceSub, Nat.reduceMul, Nat.reduceLeDiff]
    (repeat refine W_seq ?_)
    refine W_ret ?_
    try simp only [thenQ, blockQ]
    refine own_retD hd rfl ?_ (by rfl)
    show frz H0.length _ (.bf H0.length 0 i 1) = _
    have hl := shufSt_len u i i
    rw [show VV.bf H0.length 0 i 1 = VV.bf H0.length 0 (shufSt u i i).2.length 1 by rw [hl]]
    refine frz_ints (l := (shufSt u i i).2) (Nat.le_refl _) ?_
    rw [DH_get0 hd]
    rfl
end Go.Proofs.Ytijcmgfblpokhaa.Vm
