/- A part of the proofs about the chapter of the ramps; it states no condition of its own. -/
import Derived.Test.YthcicaelnchfdaaB10
import Derived.Test.YthcicaelnchfdaaB11
import Derived.Test.YthcicaelnchfdaaB12
import Derived.Test.YthcicaelnchfdaaRows
import Derived.WalkKit
import Derived.WalkSpells
import Derived.WalkLawsBesides
import Derived.Lib.Hide
import Derived.Maps.AppendAt
import Derived.OpenShut
import Derived.Deep.QuietTactic
set_option linter.unusedVariables false
set_option linter.unusedSimpArgs false
/- What is known of the program of this seat, in the machine on values. -/
namespace Go.Proofs.Ythcicaelnchfdaa.Vm
open Go Go.Proofs Go.RowKit
theorem take_n : ∀ {n : Nat} {xs : List Int}, xs.length = n + 1 → ∃ a ys, xs = a :: ys ∧ ys.length = n
 | n, a :: ys, h => ⟨a, ys, rfl, by simpa using h⟩
theorem take_0 {xs : List Int} (h : xs.length = 0) : xs = [] := List.eq_nil_of_length_eq_zero h

theorem eqIn_Span (d : Nat) (p0 p1 q0 q1 : Int) (w : World) : (Op.equalIn (d + 2) 57 (.agg #[.int .i64 p0, .int .i64 p1]) (.agg #[.int .i64 q0, .int .i64 q1])).run Try.prog w = .ok (decide (p0 = q0 ∧ p1 = q1)) w := by
 have u3 := Try.underlying3
 have a3 := Try.isAgg3
 have z3 := Try.sizeOf3
 have hS : Try.prog.underlying 57 = some (.struct (Try.prog.fieldsOf 57)) := by kernel_rfl
 have hp : Try.prog.stoodInHeld 57 = false := by kernel_rfl
 rw [run_equalIn_agg w (d + 1) _ _ _ hS hp]
 simp only [Program.fieldsOf, Try.underlying57]
 clear hS hp
 go_simp
 by_cases h0 : p0 = q0 <;> by_cases h1 : p1 = q1 <;> simp [h0, h1]
theorem cmpSpan : CmpOk Try.prog 57 2 := by
 refine ⟨fun xs ys w hx hy => ?_, by kernel_rfl, fun xs e w hx => ?_, ⟨.struct (Try.prog.fieldsOf 57), by kernel_rfl, fun k h => by (cases h), fun h => by (cases h), fun h => by (cases h)⟩⟩
 ·obtain ⟨p0, xs0, rfl, hx0⟩ := take_n hx
  obtain ⟨p1, xs1, rfl, hx1⟩ := take_n hx0
  obtain rfl := take_0 hx1
  obtain ⟨q0, ys0, rfl, hy0⟩ := take_n hy
  obtain ⟨q1, ys1, rfl, hy1⟩ := take_n hy0
  obtain rfl := take_0 hy1
  show (Op.equalIn (9998 + 2) _ _ _).run _ _ = _
  rw [show nums [p0, p1] = .agg #[.int .i64 p0, .int .i64 p1] from rfl, show nums [q0, q1] = .agg #[.int .i64 q0, .int .i64 q1] from rfl, eqIn_Span]
  congr 1
  by_cases h0 : p0 = q0 <;> by_cases h1 : p1 = q1 <;> simp [h0, h1]
 ·obtain ⟨p0, xs0, rfl, hx0⟩ := take_n hx
  obtain ⟨p1, xs1, rfl, hx1⟩ := take_n hx0
  obtain rfl := take_0 hx1
  have u3 := Try.underlying3
  have a3 := Try.isAgg3
  have z3 := Try.sizeOf3
  rw [show nums [p0, p1] = .agg #[.int .i64 p0, .int .i64 p1] from rfl]
  generalize hd : (10000 : Nat) = d
  obtain ⟨d, rfl⟩ : ∃ e, d = e + 3 := ⟨9997, by omega⟩
  clear hd
  have h3 : ∀ (m : Nat) (n : Int) (w : World), (Instr.checkKey e (m + 1) 3 (.int .i64 n)).run Try.prog w = .ok () w := fun m n w => by
   rw [Instr.checkKey]
   go_simp
  have h5 := h3 (d + 1)
  rw [Instr.checkKey]
  simp only [Sem.run_bind, Try.underlying57]
  go_simp
theorem eqIn_Slot (d : Nat) (p0 p1 q0 q1 : Int) (w : World) : (Op.equalIn (d + 2) 62 (.agg #[.int .i64 p0, .int .i64 p1]) (.agg #[.int .i64 q0, .int .i64 q1])).run Try.prog w = .ok (decide (p0 = q0 ∧ p1 = q1)) w := by
 have u3 := Try.underlying3
 have a3 := Try.isAgg3
 have z3 := Try.sizeOf3
 have hS : Try.prog.underlying 62 = some (.struct (Try.prog.fieldsOf 62)) := by kernel_rfl
 have hp : Try.prog.stoodInHeld 62 = false := by kernel_rfl
 rw [run_equalIn_agg w (d + 1) _ _ _ hS hp]
 simp only [Program.fieldsOf, Try.underlying62]
 clear hS hp
 go_simp
 by_cases h0 : p0 = q0 <;> by_cases h1 : p1 = q1 <;> simp [h0, h1]
theorem cmpSlot : CmpOk Try.prog 62 2 := by
 refine ⟨fun xs ys w hx hy => ?_, by kernel_rfl, fun xs e w hx => ?_, ⟨.struct (Try.prog.fieldsOf 62), by kernel_rfl, fun k h => by (cases h), fun h => by (cases h), fun h => by (cases h)⟩⟩
 ·obtain ⟨p0, xs0, rfl, hx0⟩ := take_n hx
  obtain ⟨p1, xs1, rfl, hx1⟩ := take_n hx0
  obtain rfl := take_0 hx1
  obtain ⟨q0, ys0, rfl, hy0⟩ := take_n hy
  obtain ⟨q1, ys1, rfl, hy1⟩ := take_n hy0
  obtain rfl := take_0 hy1
  show (Op.equalIn (9998 + 2) _ _ _).run _ _ = _
  rw [show nums [p0, p1] = .agg #[.int .i64 p0, .int .i64 p1] from rfl, show nums [q0, q1] = .agg #[.int .i64 q0, .int .i64 q1] from rfl, eqIn_Slot]
  congr 1
  by_cases h0 : p0 = q0 <;> by_cases h1 : p1 = q1 <;> simp [h0, h1]
 ·obtain ⟨p0, xs0, rfl, hx0⟩ := take_n hx
  obtain ⟨p1, xs1, rfl, hx1⟩ := take_n hx0
  obtain rfl := take_0 hx1
  have u3 := Try.underlying3
  have a3 := Try.isAgg3
  have z3 := Try.sizeOf3
  rw [show nums [p0, p1] = .agg #[.int .i64 p0, .int .i64 p1] from rfl]
  generalize hd : (10000 : Nat) = d
  obtain ⟨d, rfl⟩ : ∃ e, d = e + 3 := ⟨9997, by omega⟩
  clear hd
  have h3 : ∀ (m : Nat) (n : Int) (w : World), (Instr.checkKey e (m + 1) 3 (.int .i64 n)).run Try.prog w = .ok () w := fun m n w => by
   rw [Instr.checkKey]
   go_simp
  have h5 := h3 (d + 1)
  rw [Instr.checkKey]
  simp only [Sem.run_bind, Try.underlying62]
  go_simp
theorem eqIn_Ramp (d : Nat) (p0 p1 p2 q0 q1 q2 : Int) (w : World) : (Op.equalIn (d + 2) 53 (.agg #[.int .i64 p0, .int .i64 p1, .int .i64 p2]) (.agg #[.int .i64 q0, .int .i64 q1, .int .i64 q2])).run Try.prog w = .ok (decide (p0 = q0 ∧ p1 = q1 ∧ p2 = q2)) w := by
 have u3 := Try.underlying3
 have a3 := Try.isAgg3
 have z3 := Try.sizeOf3
 have hS : Try.prog.underlying 53 = some (.struct (Try.prog.fieldsOf 53)) := by kernel_rfl
 have hp : Try.prog.stoodInHeld 53 = false := by kernel_rfl
 rw [run_equalIn_agg w (d + 1) _ _ _ hS hp]
 simp only [Program.fieldsOf, Try.underlying53]
 clear hS hp
 go_simp
 by_cases h0 : p0 = q0 <;> by_cases h1 : p1 = q1 <;> by_cases h2 : p2 = q2 <;> simp [h0, h1, h2]
theorem cmpRamp : CmpOk Try.prog 53 3 := by
 refine ⟨fun xs ys w hx hy => ?_, by kernel_rfl, fun xs e w hx => ?_, ⟨.struct (Try.prog.fieldsOf 53), by kernel_rfl, fun k h => by (cases h), fun h => by (cases h), fun h => by (cases h)⟩⟩
 ·obtain ⟨p0, xs0, rfl, hx0⟩ := take_n hx
  obtain ⟨p1, xs1, rfl, hx1⟩ := take_n hx0
  obtain ⟨p2, xs2, rfl, hx2⟩ := take_n hx1
  obtain rfl := take_0 hx2
  obtain ⟨q0, ys0, rfl, hy0⟩ := take_n hy
  obtain ⟨q1, ys1, rfl, hy1⟩ := take_n hy0
  obtain ⟨q2, ys2, rfl, hy2⟩ := take_n hy1
  obtain rfl := take_0 hy2
  show (Op.equalIn (9998 + 2) _ _ _).run _ _ = _
  rw [show nums [p0, p1, p2] = .agg #[.int .i64 p0, .int .i64 p1, .int .i64 p2] from rfl, show nums [q0, q1, q2] = .agg #[.int .i64 q0, .int .i64 q1, .int .i64 q2] from rfl, eqIn_Ramp]
  congr 1
  by_cases h0 : p0 = q0 <;> by_cases h1 : p1 = q1 <;> by_cases h2 : p2 = q2 <;> simp [h0, h1, h2]
 ·obtain ⟨p0, xs0, rfl, hx0⟩ := take_n hx
  obtain ⟨p1, xs1, rfl, hx1⟩ := take_n hx0
  obtain ⟨p2, xs2, rfl, hx2⟩ := take_n hx1
  obtain rfl := take_0 hx2
  have u3 := Try.underlying3
  have a3 := Try.isAgg3
  have z3 := Try.sizeOf3
  rw [show nums [p0, p1, p2] = .agg #[.int .i64 p0, .int .i64 p1, .int .i64 p2] from rfl]
  generalize hd : (10000 : Nat) = d
  obtain ⟨d, rfl⟩ : ∃ e, d = e + 3 := ⟨9997, by omega⟩
  clear hd
  have h3 : ∀ (m : Nat) (n : Int) (w : World), (Instr.checkKey e (m + 1) 3 (.int .i64 n)).run Try.prog w = .ok () w := fun m n w => by
   rw [Instr.checkKey]
   go_simp
  have h5 := h3 (d + 1)
  rw [Instr.checkKey]
  simp only [Sem.run_bind, Try.underlying53]
  go_simp
def cmpB (t : Nat) : Bool := Nat.beq t 57 || (Nat.beq t 62 || (Nat.beq t 53))
theorem size_of {t n : Nat} {y : Ty} (h : tyOf Try.prog cmpB t = some y) (hn : (tyOf Try.prog cmpB t).map (·.size) = some n) : y.size = n := by
 rw [h] at hn
 exact Option.some.inj hn
theorem cmpB_ok : ∀ t y, cmpB t = true → tyOf Try.prog cmpB t = some y → CmpOk Try.prog t y.size := by
 intro t y h hy
 simp only [cmpB, Bool.or_eq_true] at h
 rcases h with h | h | h
 ·have := Nat.eq_of_beq_eq_true h
  subst this
  rw [size_of hy (n := 2) (by kernel_rfl)]
  exact cmpSpan
 ·have := Nat.eq_of_beq_eq_true h
  subst this
  rw [size_of hy (n := 2) (by kernel_rfl)]
  exact cmpSlot
 ·have := Nat.eq_of_beq_eq_true h
  subst this
  rw [size_of hy (n := 3) (by kernel_rfl)]
  exact cmpRamp
def keepsB (f : Nat) : Bool := false
noncomputable def T : Tab := tabOf Try.prog cmpB (varsOf Try.prog) keepsB
theorem T_ok : TabOk Try.prog T := tabOf_ok cmpB_ok (by kernel_rfl)
theorem Ws : type_of% @W_seq := @W_seq
theorem Wr {cx : Cx} {e : Env} {M : Mem} {D : List Nat} {Q : PQ} {id : Nat} {ops : Array Oper} (h : WOps Try.prog T cx.nt ops ops.toList e M fun e' M' => Q .normal e' M' D) : WCode Try.prog cx (.region id ops false) e M D Q := W_region0 T_ok h
theorem Wt {P : Program} {cx : Cx} {e : Env} {M : Mem} {D : List Nat} {Q : PQ} {c : Operand} {x y : Code} (hb : ev e c = .p (.bool true)) (h : WCode P cx x e M D Q) : WCode P cx (.cond c x y) e M D Q := W_cond (b := true) hb (fun _ => h) fun h => by cases h
theorem Wf {P : Program} {cx : Cx} {e : Env} {M : Mem} {D : List Nat} {Q : PQ} {c : Operand} {x y : Code} (hb : ev e c = .p (.bool false)) (h : WCode P cx y e M D Q) : WCode P cx (.cond c x y) e M D Q := W_cond (b := false) hb (fun h => by cases h) fun _ => h
theorem EV : type_of% (And.intro (@ev.eq_1) (And.intro (@ev.eq_2) (And.intro (@ev.eq_3) (And.intro (@ev.eq_4) (And.intro (@get_cons) (And.intro (@if_true.{1}) (@if_false.{1}))))))) := And.intro (@ev.eq_1) (And.intro (@ev.eq_2) (And.intro (@ev.eq_3) (And.intro (@ev.eq_4) (And.intro (@get_cons) (And.intro (@if_true.{1}) (@if_false.{1}))))))
end Go.Proofs.Ythcicaelnchfdaa.Vm

/- The machine on values at work: functions at any input. -/
namespace Go.Proofs.Ythcicaelnchfdaa.Vm
open Go Go.Proofs

abbrev vi (n : Int) : VV := .p (.int .i64 n)
abbrev vb (b : Bool) : VV := .p (.bool b)
theorem vbin_leq (T : Tab) (t : Nat) (a b : Int) : vbin T .leq t (vi a) (vi b) = some (vb (decide (a ≤ b))) := by
 exact fbin_ok T .leq t a b _ (by simp [fbin, leI_eq])
theorem vbin_geq (T : Tab) (t : Nat) (a b : Int) : vbin T .geq t (vi a) (vi b) = some (vb (decide (b ≤ a))) := by
 exact fbin_ok T .geq t a b _ (by simp [fbin, leI_eq])
end Go.Proofs.Ythcicaelnchfdaa.Vm

/- The types of the seat, as the machine on values knows them. -/
namespace Go.Proofs.Ythcicaelnchfdaa.Vm
open Go Go.Proofs

theorem t_int : T.ty 3 = some ⟨.int .i64, 1, [.int .i64 0], false, false⟩ := by kernel_rfl
theorem t_bool : T.ty 4 = some ⟨.bool, 1, [.bool false], false, false⟩ := by kernel_rfl
theorem t_errno : T.ty 28 = some ⟨.int .i64, 1, [.int .i64 0], false, false⟩ := by kernel_rfl
theorem t_u8 : T.ty 5 = some ⟨.int .u8, 1, [.int .u8 0], false, false⟩ := by kernel_rfl
theorem t_set : T.ty 91 = some ⟨.int .u8, 1, [.int .u8 0], false, false⟩ := by kernel_rfl
theorem t_str : T.ty 9 = some ⟨.str, 1, [.string ⟨#[]⟩], false, false⟩ := by kernel_rfl
theorem t_span : T.ty 57 = some ⟨.struct [(0, 1), (1, 1)], 2, [.int .i64 0, .int .i64 0], true, true⟩ := by kernel_rfl
theorem t_slot : T.ty 62 = some ⟨.struct [(0, 1), (1, 1)], 2, [.int .i64 0, .int .i64 0], true, true⟩ := by kernel_rfl
theorem t_ramp : T.ty 53 = some ⟨.struct [(0, 1), (1, 1), (2, 1)], 3, [.int .i64 0, .int .i64 0, .int .i64 0], true, true⟩ := by kernel_rfl
theorem t_cart : T.ty 59 = some ⟨.struct [(0, 1), (1, 1), (2, 2), (4, 1), (5, 1)], 6, [.int .i64 0, .int .i64 0, .int .i64 0, .int .i64 0, .int .i64 0, .slice none 0 0], true, false⟩ := by kernel_rfl
theorem t_yard : T.ty 25 = some ⟨.struct [(0, 1), (1, 1), (2, 1)], 3, [.slice none 0 0, .slice none 0 0, .int .i64 0], true, false⟩ := by kernel_rfl
theorem t_work : T.ty 93 = some ⟨.struct [(0, 1), (1, 1)], 2, [.int .u8 0, .int .u8 0], true, false⟩ := by kernel_rfl
theorem t_ry : T.ty 97 = some ⟨.struct [(0, 3), (3, 6), (9, 7), (16, 1)], 17, [.slice none 0 0, .slice none 0 0, .int .i64 0, .int .u8 0, .int .u8 0, .int .u8 0, .int .u8 0, .int .u8 0, .int .u8 0, .int .i64 0, .int .i64 0, .int .i64 0, .int .i64 0, .int .i64 0, .int .i64 0, .int .i64 0, .int .i64 0], true, false⟩ := by kernel_rfl
theorem t_die : T.ty 89 = some ⟨.struct [(0, 1)], 1, [.int .u64 0], true, false⟩ := by kernel_rfl
theorem t_ints : T.ty 26 = some ⟨.slice 3 1 8, 1, [.slice none 0 0], false, false⟩ := by kernel_rfl
theorem t_ramps : T.ty 22 = some ⟨.slice 53 3 24, 1, [.slice none 0 0], false, false⟩ := by kernel_rfl
theorem t_carts : T.ty 23 = some ⟨.slice 59 6 64, 1, [.slice none 0 0], false, false⟩ := by kernel_rfl
theorem t_slots : T.ty 37 = some ⟨.slice 62 2 16, 1, [.slice none 0 0], false, false⟩ := by kernel_rfl
theorem t_spans : T.ty 75 = some ⟨.slice 57 2 16, 1, [.slice none 0 0], false, false⟩ := by kernel_rfl
theorem t_table : T.ty 46 = some ⟨.slice 26 1 24, 1, [.slice none 0 0], false, false⟩ := by kernel_rfl
theorem t_yards : T.ty 35 = some ⟨.slice 25 3 56, 1, [.slice none 0 0], false, false⟩ := by kernel_rfl
theorem t_plans : T.ty 74 = some ⟨.slice 37 1 24, 1, [.slice none 0 0], false, false⟩ := by kernel_rfl
theorem t_sets : T.ty 109 = some ⟨.slice 91 1 1, 1, [.slice none 0 0], false, false⟩ := by kernel_rfl
theorem t_works : T.ty 94 = some ⟨.arr 3 93 2, 6, [.int .u8 0, .int .u8 0, .int .u8 0, .int .u8 0, .int .u8 0, .int .u8 0], true, false⟩ := by kernel_rfl
theorem t_froms : T.ty 95 = some ⟨.arr 7 3 1, 7, [.int .i64 0, .int .i64 0, .int .i64 0, .int .i64 0, .int .i64 0, .int .i64 0, .int .i64 0], true, false⟩ := by kernel_rfl
theorem t_known : T.ty 112 = some ⟨.map 91 4, 1, [.map none], false, false⟩ := by kernel_rfl
theorem t_u64 : T.ty 87 = some ⟨.int .u64, 1, [.int .u64 0], false, false⟩ := by kernel_rfl
theorem t_uint : T.ty 116 = some ⟨.int .u64, 1, [.int .u64 0], false, false⟩ := by kernel_rfl
theorem t_fmany : T.ty 103 = some ⟨.other, 1, [.nilFunc], false, false⟩ := by kernel_rfl
theorem t_flist : T.ty 105 = some ⟨.other, 1, [.nilFunc], false, false⟩ := by kernel_rfl
theorem t_ftakes : T.ty 119 = some ⟨.other, 1, [.nilFunc], false, false⟩ := by kernel_rfl
theorem t_fseq : T.ty 131 = some ⟨.other, 1, [.nilFunc], false, false⟩ := by kernel_rfl
theorem t_fput : T.ty 101 = some ⟨.other, 1, [.nilFunc], false, false⟩ := by kernel_rfl
theorem t_fcmp : T.ty 50 = some ⟨.other, 1, [.nilFunc], false, false⟩ := by kernel_rfl
theorem t_times : T.ty 127 = some ⟨.arr 128 3 1, 128, List.replicate 128 (.int .i64 0), true, false⟩ := by kernel_rfl
end Go.Proofs.Ythcicaelnchfdaa.Vm

/- Yards and plans as plain data. -/
namespace Go.Proofs.Ythcicaelnchfdaa
structure Sp where
 lo : Int
 hi : Int
 deriving DecidableEq
structure Ra where
 open_ : Int
 shut : Int
 bears : Int
 deriving DecidableEq
structure Ct where
 from_ : Int
 until_ : Int
 takes : Sp
 grams : Int
 ramps : List Int
 deriving DecidableEq
structure Ya where
 ramps : List Ra
 carts : List Ct
 sweep : Int
 deriving DecidableEq
structure St where
 ramp : Int
 from_ : Int
 deriving DecidableEq
def inR (n lo hi : Int) : Bool := decide (lo ≤ n) && decide (n ≤ hi)
theorem inR_true {n lo hi : Int} : inR n lo hi = true ↔ lo ≤ n ∧ n ≤ hi := by simp [inR]
end Go.Proofs.Ythcicaelnchfdaa

/- The machine on values at work: what its steps yield, for simp. -/
namespace Go.Proofs.Ythcicaelnchfdaa.Vm
open Go Go.Proofs

section
variable (T : Tab) (t : Nat) (a b : Int)
theorem v_lss : vbin T .lss t (vi a) (vi b) = some (vb (decide (a < b))) := fbin_ok T .lss t a b _ (by
 simp only [fbin, leI_eq]
 congr 2
 by_cases h : b ≤ a
 ·rw [decide_eq_true h, decide_eq_false (by omega)]; rfl
 ·rw [decide_eq_false h, decide_eq_true (by omega)]; rfl)
theorem v_gtr : vbin T .gtr t (vi a) (vi b) = some (vb (decide (b < a))) := fbin_ok T .gtr t a b _ (by
 simp only [fbin, leI_eq]
 congr 2
 by_cases h : a ≤ b
 ·rw [decide_eq_true h, decide_eq_false (by omega)]; rfl
 ·rw [decide_eq_false h, decide_eq_true (by omega)]; rfl)
theorem v_leq : vbin T .leq t (vi a) (vi b) = some (vb (decide (a ≤ b))) := vbin_leq T t a b
theorem v_geq : vbin T .geq t (vi a) (vi b) = some (vb (decide (b ≤ a))) := vbin_geq T t a b
theorem v_eql : vbin T .eql t (vi a) (vi b) = some (vb (decide (a = b))) := fbin_ok T .eql t a b _ (by simp [fbin, eqI_eq])
theorem v_neq : vbin T .neq t (vi a) (vi b) = some (vb (!decide (a = b))) := fbin_ok T .neq t a b _ (by simp [fbin, eqI_eq])
theorem v_add (h : -9223372036854775808 ≤ a + b ∧ a + b < 9223372036854775808) : vbin T .add t (vi a) (vi b) = some (vi (a + b)) := fbin_ok T .add t a b _ (by
 simp only [fbin, wrap64_eq]; rw [IntWalk.i64_in _ (by omega)])
theorem v_sub (h : -9223372036854775808 ≤ a - b ∧ a - b < 9223372036854775808) : vbin T .sub t (vi a) (vi b) = some (vi (a - b)) := fbin_ok T .sub t a b _ (by
 simp only [fbin, wrap64_eq]; rw [IntWalk.i64_in _ (by omega)])
theorem v_mul (h : -9223372036854775808 ≤ a * b ∧ a * b < 9223372036854775808) : vbin T .mul t (vi a) (vi b) = some (vi (a * b)) := fbin_ok T .mul t a b _ (by
 simp only [fbin, wrap64_eq]; rw [IntWalk.i64_in _ (by omega)])
theorem v_quo (h : 0 ≤ a ∧ a < 9223372036854775808) (hb : 1 ≤ b) : vbin T .quo t (vi a) (vi b) = some (vi (a / b)) := by
 have h0 : ¬ b = 0 := by omega
 have h1 := IntWalk.i64_quo a b (by omega)
 have h2 : Go.binOp .quo 0 (.int .i64 a) (.int .i64 b) = .pure (.int .i64 (a / b)) := by
  show Op.intDiv .quo .i64 a b = _
  unfold Op.intDiv
  rw [if_neg (by simpa using h0)]
  simp only [h1]
  rfl
 simp only [vbin, h2, pureOf, Option.map_some, ofValue]
theorem v_max2 : vexts true (vi a) [vi b] = some (vi (max a b)) := by
 by_cases h : a < b
 ·have h' : decide (b > a) = true := decide_eq_true h
  simp [vexts, vext, h', Int.max_eq_right (Int.le_of_lt h)]
 ·have h' : decide (b > a) = false := decide_eq_false h
  simp [vexts, vext, h', Int.max_eq_left (by omega : b ≤ a)]
theorem v_min2 : vexts false (vi a) [vi b] = some (vi (min a b)) := by
 by_cases h : b < a
 ·have h' : decide (b < a) = true := decide_eq_true h
  simp [vexts, vext, h', Int.min_eq_right (Int.le_of_lt h)]
 ·have h' : decide (b < a) = false := decide_eq_false h
  simp [vexts, vext, h', Int.min_eq_left (by omega : a ≤ b)]
theorem v_not (x : Bool) : vun .not (vb x) = some (vb (!x)) := by cases x <;> rfl
end
theorem hget (H L : List VObj) (k : Nat) : (H ++ L)[H.length + k]? = L[k]? := by rw [List.getElem?_append_right (by omega)]; congr 1; omega
theorem hget0 (H L : List VObj) : (H ++ L)[H.length]? = L[0]? := hget H L 0
theorem hset (H L : List VObj) (k : Nat) (o : VObj) : (H ++ L).set (H.length + k) o = H ++ L.set k o := by rw [List.set_append_right _ _ (by omega)]; congr 2; omega
theorem hset0 (H L : List VObj) (o : VObj) : (H ++ L).set H.length o = H ++ L.set 0 o := hset H L 0 o
theorem push_eq (M : Mem) (o : VObj) : M.push o = ⟨M.H ++ [o], M.lg⟩ := rfl
theorem addLg_nil (id : Nat) (lg : List (Nat × Nat)) : addLg id [] lg = lg := rfl

theorem nat_blt (a b : Nat) : Nat.blt a b = decide (a < b) := by
 cases h : Nat.blt a b with
 | true => rw [Nat.blt_eq] at h; simp [h]
 | false =>
  have : ¬ a < b := fun h' => by rw [← Nat.blt_eq] at h'; rw [h'] at h; cases h
  simp [this]
theorem nat_ble (a b : Nat) : Nat.ble a b = decide (a ≤ b) := by
 cases h : Nat.ble a b with
 | true => rw [Nat.ble_eq] at h; simp [h]
 | false =>
  have : ¬ a ≤ b := fun h' => by rw [← Nat.ble_eq] at h'; rw [h'] at h; cases h
  simp [this]
theorem nat_beq (a b : Nat) : Nat.beq a b = decide (a = b) := by
 cases h : Nat.beq a b with
 | true => rw [Nat.beq_eq] at h; simp [h]
 | false =>
  have : ¬ a = b := fun h' => by rw [← Nat.beq_eq] at h'; rw [h'] at h; cases h
  simp [this]
def ownQ (T : Tab) (f : Nat) (fn : Func) (M : Mem) (Q : VV → Mem → Prop) : PQ := fun ex e M' D => (ex = .normal ∨ ex = .ret) ∧ D = [] ∧ (∃ X, M'.lg = M.lg ++ X ∧ ∀ e ∈ X, M.H.length ≤ e.1) ∧ ∃ H1 L, M'.H = H1 ++ L ∧ H1.length = M.H.length ∧ ∃ vs, vresL T e M' fn.results.toList = some vs ∧ ∃ r, frz M.H.length M'.H (vtup vs) = r ∧ (∀ x ∈ refs r, x < M.H.length) ∧ Q r ⟨H1, M.lg⟩
theorem VC_own {P : Program} {T : Tab} (hT : TabOk P T) {f : Nat} {fn : Func} {c : Code} {args : List VV} {M : Mem} {Q : VV → Mem → Prop} (hf : T.fn f = some fn) (hb : fn.body = some c) (hn : args.length ≤ fn.ntmps) (hk : T.keeps f = false)
  (h : WCode P ⟨f, none, fn.ntmps⟩ c (zipEnv 0 args) M [] (ownQ T f fn M Q)) :
  VC P f args M Q := by
 refine VC_fn hT hf hb hn fun hlg => h.mono ?_
 rintro ex e M' D ⟨hex, rfl, ⟨X, hl, hX⟩, H1, L, hH, hlen, vs, h1, r, hr, h2, h3⟩
 have key : retQ T f M.H.length fn Q .ret e M' [] := by
  simp only [retQ, vkill]
  have hM : ({ M' with H := M'.H } : Mem) = M' := rfl
  rw [hM, h1]
  simp only
  have q1 : M'.lg.filter (fun e => Nat.blt e.1 M.H.length) = M.lg := by
   rw [hl, List.filter_append, List.filter_eq_self.2 fun e he => by rw [Nat.blt_eq]; exact (hlg e he).1, List.filter_eq_nil_iff.2 fun e he => by rw [Nat.blt_eq]; have := hX e he; omega, List.append_nil]
  have q2 : (M.lg.all fun e => Nat.blt e.2 M.H.length) = true := List.all_eq_true.2 fun e he => by rw [Nat.blt_eq]; exact (hlg e he).2
  have q3 : ((refs r).all (Nat.blt · M.H.length)) = true := List.all_eq_true.2 fun x hx => by rw [Nat.blt_eq]; exact h2 x hx
  have q4 : M'.H.take M.H.length = H1 := by rw [hH, ← hlen]; simp
  unfold vfinish
  rw [hk, q1, hr, q2, q3, q4]
  exact h3
 rcases hex with rfl | rfl
 ·exact key
 ·exact key
theorem VC_own' {P : Program} {T : Tab} (hT : TabOk P T) {f : Nat} {fn : Func} {c : Code} {nt : Nat} {args : List VV} {M : Mem} {Q : VV → Mem → Prop} (hf : T.fn f = some fn) (hb : fn.body = some c) (hnt : fn.ntmps = nt) (hn : Nat.ble args.length nt = true) (hk : T.keeps f = false)
  (h : WCode P ⟨f, none, nt⟩ c (zipEnv 0 args) M [] (ownQ T f fn M Q)) : VC P f args M Q := by
 subst hnt
 exact VC_own hT hf hb (Nat.le_of_ble_eq_true hn) hk h
theorem own_ret {T : Tab} {f : Nat} {fn : Func} {M : Mem} {L : List VObj} {Q : VV → Mem → Prop} {e : Env} {vs : List VV} {r : VV} (h1 : vresL T e ⟨M.H ++ L, M.lg⟩ fn.results.toList = some vs) (hr : frz M.H.length (M.H ++ L) (vtup vs) = r) (h2 : refs r = []) (h3 : Q r M) : ownQ T f fn M Q .ret e ⟨M.H ++ L, M.lg⟩ [] :=
 ⟨.inr rfl, rfl, ⟨[], by simp, by simp⟩, M.H, L, rfl, rfl, vs, h1, r, hr, by simp [h2], h3⟩
theorem own_ret0 {T : Tab} {f : Nat} {fn : Func} {M : Mem} {Q : VV → Mem → Prop} {e : Env} {vs : List VV} {r : VV} (h1 : vresL T e M fn.results.toList = some vs) (hr : frz M.H.length M.H (vtup vs) = r) (h2 : refs r = []) (h3 : Q r M) : ownQ T f fn M Q .ret e M [] :=
 ⟨.inr rfl, rfl, ⟨[], by simp, by simp⟩, M.H, [], by simp, rfl, vs, h1, r, hr, by simp [h2], h3⟩
abbrev intP (n : Int) : List PV := [.int .i64 n]
abbrev spP (c : Sp) : List PV := [.int .i64 c.lo, .int .i64 c.hi]
abbrev raP (c : Ra) : List PV := [.int .i64 c.open_, .int .i64 c.shut, .int .i64 c.bears]
abbrev ctP (c : Ct) : List PV := [.int .i64 c.from_, .int .i64 c.until_, .int .i64 c.takes.lo, .int .i64 c.takes.hi, .int .i64 c.grams, .sl 1 (c.ramps.map intP)]
abbrev stP (c : St) : List PV := [.int .i64 c.ramp, .int .i64 c.from_]
abbrev seP (c : Nat) : List PV := [.int .u8 c]
abbrev su (n : Nat) : VV := .p (.int .u8 n)
abbrev spV (c : Sp) : VV := .agg [vi c.lo, vi c.hi]
abbrev raV (c : Ra) : VV := .agg [vi c.open_, vi c.shut, vi c.bears]
abbrev stV (c : St) : VV := .agg [vi c.ramp, vi c.from_]
abbrev intsV (l : List Int) : VV := .p (.sl 1 (l.map intP))
abbrev spsV (l : List Sp) : VV := .p (.sl 2 (l.map spP))
abbrev rasV (l : List Ra) : VV := .p (.sl 3 (l.map raP))
abbrev ctsV (l : List Ct) : VV := .p (.sl 6 (l.map ctP))
abbrev stsV (l : List St) : VV := .p (.sl 2 (l.map stP))
abbrev sesV (l : List Nat) : VV := .p (.sl 1 (l.map seP))
abbrev ctC (c : Ct) : List VV := [vi c.from_, vi c.until_, vi c.takes.lo, vi c.takes.hi, vi c.grams, intsV c.ramps]
abbrev ctV (c : Ct) : VV := .agg (ctC c)
abbrev yardC (y : Ya) : List VV := [rasV y.ramps, ctsV y.carts, vi y.sweep]
abbrev yardV (y : Ya) : VV := .agg (yardC y)
theorem own_ret1 {T : Tab} {f : Nat} {fn : Func} {M : Mem} {L : List VObj} {e : Env} {t : Nat} {X : VV} (h1 : fn.results.toList = [.tmp t]) (hr : frz M.H.length (M.H ++ L) (get e t) = X) (h2 : refs X = []) : ownQ T f fn M (fun r M' => M' = M ∧ r = X) .ret e ⟨M.H ++ L, M.lg⟩ [] :=
 own_ret (vs := [get e t]) (by rw [h1]; rfl) hr h2 ⟨rfl, rfl⟩
theorem own_ret10 {T : Tab} {f : Nat} {fn : Func} {M : Mem} {e : Env} {t : Nat} {X : VV} (h1 : fn.results.toList = [.tmp t]) (hr : frz M.H.length M.H (get e t) = X) (h2 : refs X = []) : ownQ T f fn M (fun r M' => M' = M ∧ r = X) .ret e M [] :=
 own_ret0 (vs := [get e t]) (by rw [h1]; rfl) hr h2 ⟨rfl, rfl⟩
theorem idx_nat (n : Nat) : idx (vi (n : Int)) = some n := by
 have : (0 : Int) ≤ (n : Int) := Int.natCast_nonneg n
 simp [idx, this]
theorem idx_nn (a : Int) (h : 0 ≤ a) : idx (vi a) = some a.toNat := by simp [idx, h]
theorem map_at {α β : Type} {f : α → β} {l : List α} {i : Nat} {x : α} (h : l[i]? = some x) : (l.map f)[i]? = some (f x) := by simp [h]
def Sub : Env → Env → Prop
 | [], _ => True
 | (k, v) :: r, e => get e k = v ∧ Sub r e
theorem Sub.ok : ∀ {E e : Env}, Sub E e → ∀ t, get E t = get e t ∨ get E t = .any
 | [], _, _, _ => .inr rfl
 | (k, v) :: r, e, h, t => by
  rw [get_cons]
  by_cases ht : t = k
  ·rw [if_pos ht, ht]; exact .inl h.1.symm
  ·rw [if_neg ht]; exact Sub.ok h.2 t
def LoopK {σ : Type} (E : σ → Env) (N : σ → Mem) (m : σ → Nat) (good : σ → Prop) (D : List Nat) (s : σ) (e' : Env) (M' : Mem) (D' : List Nat) : Prop := D' = D ∧ ∃ s', m s' < m s ∧ good s' ∧ Sub (E s') e' ∧ M' = N s'
theorem LoopK.mk {σ : Type} {E : σ → Env} {N : σ → Mem} {m : σ → Nat} {good : σ → Prop} {D : List Nat} {s : σ} {e' : Env} {M' : Mem} (s' : σ) (h1 : m s' < m s) (h2 : good s') (h3 : Sub (E s') e') (h4 : M' = N s') : LoopK E N m good D s e' M' D := ⟨rfl, s', h1, h2, h3, h4⟩
theorem W_loopS {σ : Type} {P : Program} {cx : Cx} {e : Env} {M : Mem} {D : List Nat} {Q : PQ} {c : Code} (E : σ → Env) (N : σ → Mem) (m : σ → Nat) (good : σ → Prop) (s0 : σ) (h0 : good s0) (hE : Sub (E s0) e) (hM : M = N s0)
  (round : ∀ s, good s → WCode P cx c (E s) (N s) D (thenQ (LoopK E N m good D s) Q)) : WCode P cx (.loop c) e M D Q := by
 refine W_loop (fun n e M D' => ∃ s, n = m s ∧ good s ∧ Sub (E s) e ∧ M = N s ∧ D' = D) (n := m s0) ⟨s0, rfl, h0, hE, hM, rfl⟩ ?_
 rintro n e M D' ⟨s, rfl, hg, hS, rfl, rfl⟩
 refine (WCode.weak (round s hg) hS.ok).mono ?_
 rintro ex e' M' D1 h
 cases ex <;> first | exact h | skip
 obtain ⟨rfl, s', h1, h2, h3, h4⟩ := h
 exact ⟨m s', h1, s', rfl, h2, h3, h4, rfl⟩
theorem W_drawP {P : Program} {T : Tab} (hT : TabOk P T) {cx : Cx} {e : Env} {M : Mem} {D : List Nat} {Q : PQ} {id : Nat} {ops : Array Oper} (zs : List VObj) (hz : zerosOf T ops.toList = some zs) (hp : planOk ops (mkPlan ops) = true)
  (h : WDraw P T cx.nt ops ops.toList (mkPlan ops) e M.H.length { M with H := M.H ++ zs } [] [] fun e' M' => Q .normal e' M' D) : WCode P cx (.region id ops true) e M D Q := W_draw0 hT hp hz h
theorem arr_get {α : Type} (l : List α) (i : Nat) : (Array.mk l)[i]? = l[i]? := by simp
theorem app_get {H : List VObj} {i : Nat} {o : VObj} (h : H[i]? = some o) (L : List VObj) : (H ++ L)[i]? = some o := by
 rw [List.getElem?_append_left (List.getElem?_eq_some_iff.1 h).1, h]
theorem veq2 (a b c d : Int) : veqCells [vi a, vi b] [vi c, vi d] = some (decide (a = c) && (decide (b = d) && true)) := rfl
theorem v_eqSpan (a b : Sp) : vbin T .eql 57 (spV a) (spV b) = some (vb (decide (a = b))) := by
 simp only [vbin, t_span, veq2]
 cases a; cases b
 rename_i a b c d
 by_cases h1 : a = c <;> by_cases h2 : b = d <;> simp [h1, h2]
theorem v_neSpan (a b : Sp) : vbin T .neq 57 (spV a) (spV b) = some (vb (!decide (a = b))) := by
 simp only [vbin, t_span, veq2]
 cases a; cases b
 rename_i a b c d
 by_cases h1 : a = c <;> by_cases h2 : b = d <;> simp [h1, h2]
theorem veq3 (a b e c d f : Int) : veqCells [vi a, vi b, vi e] [vi c, vi d, vi f] = some (decide (a = c) && (decide (b = d) && (decide (e = f) && true))) := rfl
theorem v_eqSlot (a b : St) : vbin T .eql 62 (stV a) (stV b) = some (vb (decide (a = b))) := by
 simp only [vbin, t_slot, veq2]
 cases a; cases b
 rename_i a b c d
 by_cases h1 : a = c <;> by_cases h2 : b = d <;> simp [h1, h2]
theorem v_neSlot (a b : St) : vbin T .neq 62 (stV a) (stV b) = some (vb (!decide (a = b))) := by
 simp only [vbin, t_slot, veq2]
 cases a; cases b
 rename_i a b c d
 by_cases h1 : a = c <;> by_cases h2 : b = d <;> simp [h1, h2]
theorem v_eqRamp (a b : Ra) : vbin T .eql 53 (raV a) (raV b) = some (vb (decide (a = b))) := by
 simp only [vbin, t_ramp, veq3]
 obtain ⟨a, c, k⟩ := a
 obtain ⟨b, d, l⟩ := b
 by_cases h1 : a = b <;> by_cases h2 : c = d <;> by_cases h3 : k = l <;> simp [h1, h2, h3]
theorem fn_call {f : Nat} {fn : Func} {args : List VV} {M : Mem} {Q : VV → Mem → Prop} (hf : T.fn f = some fn) (hk : T.keeps f = false) (h : VC Try.prog f (args.map strip1) M Q) : VCall Try.prog (.fn (.func f) [] []) args M Q :=
 VCall_fn T_ok hf (by
  have : (sarg T f) = strip1 := funext fun v => by simp [sarg, hk]
  simpa [this] using h)
theorem call_eq {f : Nat} {fn : Func} {args : List VV} {M M1 : Mem} {v : VV} (hf : T.fn f = some fn) (hk : T.keeps f = false) (h : VC Try.prog f (args.map strip1) M (fun r M' => M' = M1 ∧ r = v)) {Q : VV → Mem → Prop} (hq : Q v M1) : VCall Try.prog (.fn (.func f) [] []) args M Q :=
 (fn_call hf hk h).mono fun r M' e => by obtain ⟨rfl, rfl⟩ := e; exact hq
theorem call_d {f : Nat} {fn : Func} {args : List VV} {M M1 : Mem} {v : VV} (hf : T.fn f = some fn) (hk : T.keeps f = false) (h : VC Try.prog f (args.map strip1) M (fun r M' => M' = M1 ∧ r = v)) {R : VV → Mem → Prop} (hq : R v M1) : DCallK Try.prog (.fn (.func f) [] []) args M R :=
 ⟨v, M1, call_eq hf hk h ⟨rfl, rfl⟩, hq⟩
theorem take_map {α β : Type} (f : α → β) (l : List α) (i : Nat) : (l.map f).take i = (l.take i).map f := List.map_take.symm
theorem drop_map {α β : Type} (f : α → β) (l : List α) (i : Nat) : (l.map f).drop i = (l.drop i).map f := List.map_drop.symm
theorem t_own (t : Nat) : T.own t = false ∧ T.ownS t = false := ⟨rfl, rfl⟩
theorem VL : type_of% (And.intro (@t_own) (And.intro (@S_move) (And.intro (@S_assign) (And.intro (@S_bin) (And.intro (@S_un) (And.intro (@S_guard) (And.intro (@S_pick) (And.intro (@S_nil) (And.intro (@S_box) (And.intro (@S_field) (And.intro (@S_load) (And.intro (@S_store) (And.intro (@S_indexAddr) (And.intro (@S_index) (And.intro (@S_len) (And.intro (@S_append) (And.intro (@S_slice) (And.intro (@S_lookup) (And.intro (@S_build) (And.intro (@S_buildSlice) (And.intro (@S_extract) (And.intro (@S_nilCheck) (And.intro (@S_makeSlice) (And.intro (@S_makeFunc) (And.intro (@S_convert) (And.intro (@S_call) (And.intro (@S_allocT) (And.intro (@S_mapUpdate) (And.intro (@S_makeMap) (And.intro (@S_max) (And.intro (@S_min) (And.intro (@Put_some) (And.intro (@PutM_some) (And.intro (@Then_app) (And.intro (@D_move) (And.intro (@D_assign) (And.intro (@D_bin) (And.intro (@D_un) (And.intro (@D_pick) (And.intro (@D_nil) (And.intro (@D_box) (And.intro (@D_field) (And.intro (@D_load) (And.intro (@D_store) (And.intro (@D_indexAddr) (And.intro (@D_index) (And.intro (@D_len) (And.intro (@D_append) (And.intro (@D_slice) (And.intro (@D_lookup) (And.intro (@D_build) (And.intro (@D_buildSlice) (And.intro (@D_extract) (And.intro (@D_nilCheck) (And.intro (@D_makeSlice) (And.intro (@D_makeFunc) (And.intro (@D_convert) (And.intro (@D_call) (And.intro (@D_mapUpdate) (And.intro (@D_makeMap) (And.intro (@D_max1) (And.intro (@D_min1) (And.intro (@DPut_some) (And.intro (@DRead_some) (And.intro (@DThen_app) (And.intro (@DPutM_some) (And.intro (@DStore_some) (And.intro (@get_cons) (And.intro (@v_lss) (And.intro (@v_gtr) (And.intro (@v_leq) (And.intro (@v_geq) (And.intro (@v_eql) (And.intro (@v_neq) (And.intro (@v_add) (And.intro (@v_sub) (And.intro (@v_mul) (And.intro (@v_quo) (And.intro (@v_not) (And.intro (@v_max2) (And.intro (@v_min2) (And.intro (@v_eqSpan) (And.intro (@v_neSpan) (And.intro (@v_eqSlot) (And.intro (@v_neSlot) (And.intro (@v_eqRamp) (And.intro (@idx_nat) (And.intro (@idx_nn) (And.intro (@push_eq) (And.intro (@hget) (And.intro (@hget0) (And.intro (@hset) (And.intro (@hset0) (And.intro (@addLg_nil) (And.intro (@t_int) (And.intro (@t_bool) (And.intro (@t_errno) (And.intro (@t_u8) (And.intro (@t_set) (And.intro (@t_str) (And.intro (@t_span) (And.intro (@t_slot) (And.intro (@t_ramp) (And.intro (@t_cart) (And.intro (@t_yard) (And.intro (@t_work) (And.intro (@t_ry) (And.intro (@t_die) (And.intro (@t_ints) (And.intro (@t_ramps) (And.intro (@t_carts) (And.intro (@t_slots) (And.intro (@t_spans) (And.intro (@t_table) (And.intro (@t_yards) (And.intro (@t_plans) (And.intro (@t_sets) (And.intro (@t_works) (And.intro (@t_froms) (And.intro (@t_known) (And.intro (@t_u64) (And.intro (@t_uint) (And.intro (@t_fmany) (And.intro (@t_flist) (And.intro (@t_ftakes) (And.intro (@t_fseq) (And.intro (@t_fput) (And.intro (@t_fcmp) (And.intro (@t_times) (And.intro (@List.isEmpty_nil.{0}) (And.intro (@List.isEmpty_cons.{0}) (And.intro (@Bool.or_true) (And.intro (@Bool.true_or) (And.intro (@Bool.or_false) (And.intro (@Bool.false_or) (And.intro (@arr_get) (And.intro (@Int.toNat_natCast) (And.intro (@Int.le_refl) (And.intro (@List.getElem?_toArray.{0}) (And.intro (@List.getElem?_cons_zero.{0}) (And.intro (@List.getElem?_cons_succ.{0}) (And.intro (@List.getElem?_nil.{0}) (And.intro (@List.map_cons.{0, 0}) (And.intro (@List.map_nil.{0, 0}) (And.intro (@List.all_cons.{0}) (And.intro (@List.all_nil.{0}) (And.intro (@List.length_cons.{0}) (And.intro (@List.length_nil.{0}) (And.intro (@List.length_append.{0}) (And.intro (@List.length_map.{0, 0}) (And.intro (@List.drop_zero.{0}) (And.intro (@List.drop_succ_cons.{0}) (And.intro (@List.take_succ_cons.{0}) (And.intro (@List.take_zero.{0}) (And.intro (@List.take_nil.{0}) (And.intro (@List.drop_nil.{0}) (And.intro (@List.cons_append.{0}) (And.intro (@List.nil_append.{0}) (And.intro (@List.append_nil.{0}) (And.intro (@List.append_assoc.{0}) (And.intro (@List.set_cons_zero.{0}) (And.intro (@List.set_cons_succ.{0}) (And.intro (@Option.bind_some.{0, 0}) (And.intro (@Option.bind_none.{0, 0}) (And.intro (@Option.map_some.{0, 0}) (And.intro (@Option.map_none.{0, 0}) (And.intro (@Option.some.injEq.{0}) (And.intro (@Prod.mk.injEq.{0, 0}) (And.intro (@Bool.and_true) (And.intro (@Bool.true_and) (And.intro (@Bool.and_false) (And.intro (@Bool.false_and) (And.intro (@and_true) (And.intro (@true_and) (And.intro (@and_false) (And.intro (@false_and) (And.intro (@Bool.not_true) (And.intro (@Bool.not_false) (And.intro (@Nat.mul_one) (And.intro (@Nat.add_zero) (And.intro (@Nat.zero_add) (And.intro (@Nat.add_assoc) (And.intro (@Nat.lt_add_one) (And.intro (@Nat.zero_lt_succ) (And.intro (@Bool.true_eq_false) (And.intro (@Bool.false_eq_true) (And.intro (@not_true) (And.intro (@not_false_eq_true) (And.intro (@beq_true) (And.intro (@_root_.beq_false) (And.intro (@nat_blt) (And.intro (@nat_ble) (And.intro (@nat_beq) (And.intro (@decide_true) (And.intro (@decide_false) (And.intro (@Nat.le_refl) (And.intro (@Nat.zero_le) (And.intro (@List.toList_toArray.{0}) (And.intro (@vload.eq_def) (And.intro (@vstore.eq_def) (And.intro (@vfieldAddr.eq_def) (And.intro (@vindexAddr.eq_def) (And.intro (@vlen.eq_def) (And.intro (@vindex.eq_def) (And.intro (@vbuild.eq_def) (And.intro (@vmakeSlice.eq_def) (And.intro (@vbuildSlice.eq_def) (And.intro (@vslice.eq_def) (And.intro (@vlookup.eq_def) (And.intro (@vmapUpdate.eq_def) (And.intro (@gdB.eq_def) (And.intro (@funcV.eq_def) (And.intro (@boxV.eq_def) (And.intro (@mapV.eq_def) (And.intro (@splice.eq_def) (And.intro (@placesOf.eq_def) (And.intro (@fits.eq_def) (And.intro (@shOf.eq_def) (And.intro (@zeroV.eq_def) (And.intro (@D_allocT) (And.intro (@DAl_some) (And.intro (@take_map) (@drop_map))))))))))))))))))))))))))))))))))))))))))))))))))))))))))))))))))))))))))))))))))))))))))))))))))))))))))))))))))))))))))))))))))))))))))))))))))))))))))))))))))))))))))))))))))))))))))))))))))))))))))))))))))))))))))))))) := (And.intro (@t_own) (And.intro (@S_move) (And.intro (@S_assign) (And.intro (@S_bin) (And.intro (@S_un) (And.intro (@S_guard) (And.intro (@S_pick) (And.intro (@S_nil) (And.intro (@S_box) (And.intro (@S_field) (And.intro (@S_load) (And.intro (@S_store) (And.intro (@S_indexAddr) (And.intro (@S_index) (And.intro (@S_len) (And.intro (@S_append) (And.intro (@S_slice) (And.intro (@S_lookup) (And.intro (@S_build) (And.intro (@S_buildSlice) (And.intro (@S_extract) (And.intro (@S_nilCheck) (And.intro (@S_makeSlice) (And.intro (@S_makeFunc) (And.intro (@S_convert) (And.intro (@S_call) (And.intro (@S_allocT) (And.intro (@S_mapUpdate) (And.intro (@S_makeMap) (And.intro (@S_max) (And.intro (@S_min) (And.intro (@Put_some) (And.intro (@PutM_some) (And.intro (@Then_app) (And.intro (@D_move) (And.intro (@D_assign) (And.intro (@D_bin) (And.intro (@D_un) (And.intro (@D_pick) (And.intro (@D_nil) (And.intro (@D_box) (And.intro (@D_field) (And.intro (@D_load) (And.intro (@D_store) (And.intro (@D_indexAddr) (And.intro (@D_index) (And.intro (@D_len) (And.intro (@D_append) (And.intro (@D_slice) (And.intro (@D_lookup) (And.intro (@D_build) (And.intro (@D_buildSlice) (And.intro (@D_extract) (And.intro (@D_nilCheck) (And.intro (@D_makeSlice) (And.intro (@D_makeFunc) (And.intro (@D_convert) (And.intro (@D_call) (And.intro (@D_mapUpdate) (And.intro (@D_makeMap) (And.intro (@D_max1) (And.intro (@D_min1) (And.intro (@DPut_some) (And.intro (@DRead_some) (And.intro (@DThen_app) (And.intro (@DPutM_some) (And.intro (@DStore_some) (And.intro (@get_cons) (And.intro (@v_lss) (And.intro (@v_gtr) (And.intro (@v_leq) (And.intro (@v_geq) (And.intro (@v_eql) (And.intro (@v_neq) (And.intro (@v_add) (And.intro (@v_sub) (And.intro (@v_mul) (And.intro (@v_quo) (And.intro (@v_not) (And.intro (@v_max2) (And.intro (@v_min2) (And.intro (@v_eqSpan) (And.intro (@v_neSpan) (And.intro (@v_eqSlot) (And.intro (@v_neSlot) (And.intro (@v_eqRamp) (And.intro (@idx_nat) (And.intro (@idx_nn) (And.intro (@push_eq) (And.intro (@hget) (And.intro (@hget0) (And.intro (@hset) (And.intro (@hset0) (And.intro (@addLg_nil) (And.intro (@t_int) (And.intro (@t_bool) (And.intro (@t_errno) (And.intro (@t_u8) (And.intro (@t_set) (And.intro (@t_str) (And.intro (@t_span) (And.intro (@t_slot) (And.intro (@t_ramp) (And.intro (@t_cart) (And.intro (@t_yard) (And.intro (@t_work) (And.intro (@t_ry) (And.intro (@t_die) (And.intro (@t_ints) (And.intro (@t_ramps) (And.intro (@t_carts) (And.intro (@t_slots) (And.intro (@t_spans) (And.intro (@t_table) (And.intro (@t_yards) (And.intro (@t_plans) (And.intro (@t_sets) (And.intro (@t_works) (And.intro (@t_froms) (And.intro (@t_known) (And.intro (@t_u64) (And.intro (@t_uint) (And.intro (@t_fmany) (And.intro (@t_flist) (And.intro (@t_ftakes) (And.intro (@t_fseq) (And.intro (@t_fput) (And.intro (@t_fcmp) (And.intro (@t_times) (And.intro (@List.isEmpty_nil.{0}) (And.intro (@List.isEmpty_cons.{0}) (And.intro (@Bool.or_true) (And.intro (@Bool.true_or) (And.intro (@Bool.or_false) (And.intro (@Bool.false_or) (And.intro (@arr_get) (And.intro (@Int.toNat_natCast) (And.intro (@Int.le_refl) (And.intro (@List.getElem?_toArray.{0}) (And.intro (@List.getElem?_cons_zero.{0}) (And.intro (@List.getElem?_cons_succ.{0}) (And.intro (@List.getElem?_nil.{0}) (And.intro (@List.map_cons.{0, 0}) (And.intro (@List.map_nil.{0, 0}) (And.intro (@List.all_cons.{0}) (And.intro (@List.all_nil.{0}) (And.intro (@List.length_cons.{0}) (And.intro (@List.length_nil.{0}) (And.intro (@List.length_append.{0}) (And.intro (@List.length_map.{0, 0}) (And.intro (@List.drop_zero.{0}) (And.intro (@List.drop_succ_cons.{0}) (And.intro (@List.take_succ_cons.{0}) (And.intro (@List.take_zero.{0}) (And.intro (@List.take_nil.{0}) (And.intro (@List.drop_nil.{0}) (And.intro (@List.cons_append.{0}) (And.intro (@List.nil_append.{0}) (And.intro (@List.append_nil.{0}) (And.intro (@List.append_assoc.{0}) (And.intro (@List.set_cons_zero.{0}) (And.intro (@List.set_cons_succ.{0}) (And.intro (@Option.bind_some.{0, 0}) (And.intro (@Option.bind_none.{0, 0}) (And.intro (@Option.map_some.{0, 0}) (And.intro (@Option.map_none.{0, 0}) (And.intro (@Option.some.injEq.{0}) (And.intro (@Prod.mk.injEq.{0, 0}) (And.intro (@Bool.and_true) (And.intro (@Bool.true_and) (And.intro (@Bool.and_false) (And.intro (@Bool.false_and) (And.intro (@and_true) (And.intro (@true_and) (And.intro (@and_false) (And.intro (@false_and) (And.intro (@Bool.not_true) (And.intro (@Bool.not_false) (And.intro (@Nat.mul_one) (And.intro (@Nat.add_zero) (And.intro (@Nat.zero_add) (And.intro (@Nat.add_assoc) (And.intro (@Nat.lt_add_one) (And.intro (@Nat.zero_lt_succ) (And.intro (@Bool.true_eq_false) (And.intro (@Bool.false_eq_true) (And.intro (@not_true) (And.intro (@not_false_eq_true) (And.intro (@beq_true) (And.intro (@_root_.beq_false) (And.intro (@nat_blt) (And.intro (@nat_ble) (And.intro (@nat_beq) (And.intro (@decide_true) (And.intro (@decide_false) (And.intro (@Nat.le_refl) (And.intro (@Nat.zero_le) (And.intro (@List.toList_toArray.{0}) (And.intro (@vload.eq_def) (And.intro (@vstore.eq_def) (And.intro (@vfieldAddr.eq_def) (And.intro (@vindexAddr.eq_def) (And.intro (@vlen.eq_def) (And.intro (@vindex.eq_def) (And.intro (@vbuild.eq_def) (And.intro (@vmakeSlice.eq_def) (And.intro (@vbuildSlice.eq_def) (And.intro (@vslice.eq_def) (And.intro (@vlookup.eq_def) (And.intro (@vmapUpdate.eq_def) (And.intro (@gdB.eq_def) (And.intro (@funcV.eq_def) (And.intro (@boxV.eq_def) (And.intro (@mapV.eq_def) (And.intro (@splice.eq_def) (And.intro (@placesOf.eq_def) (And.intro (@fits.eq_def) (And.intro (@shOf.eq_def) (And.intro (@zeroV.eq_def) (And.intro (@D_allocT) (And.intro (@DAl_some) (And.intro (@take_map) (@drop_map)))))))))))))))))))))))))))))))))))))))))))))))))))))))))))))))))))))))))))))))))))))))))))))))))))))))))))))))))))))))))))))))))))))))))))))))))))))))))))))))))))))))))))))))))))))))))))))))))))))))))))))))))))))))))))))))
theorem VM : type_of% (And.intro (@vappend.eq_1) (And.intro (@ev.eq_1) (And.intro (@ev.eq_2) (And.intro (@ev.eq_3) (And.intro (@ev.eq_4) (And.intro (@ofValue.eq_1) (And.intro (@ofValue.eq_2) (And.intro (@ofValue.eq_3) (And.intro (@ofValue.eq_4) (And.intro (@ofValue.eq_5) (And.intro (@ofValue.eq_6) (And.intro (@ofValue.eq_7) (And.intro (@ofValue.eq_8) (And.intro (@ofValue.eq_9) (And.intro (@zipEnv.eq_1) (And.intro (@zipEnv.eq_2) (And.intro (@thenQ.eq_1) (And.intro (@thenQ.eq_2) (And.intro (@blockQ.eq_1) (And.intro (@blockQ.eq_2) (And.intro (@vfill.eq_1) (And.intro (@vfill.eq_2) (And.intro (@inOrder.eq_1) (And.intro (@inOrder.eq_2) (And.intro (@toPss.eq_1) (And.intro (@toPss.eq_2) (And.intro (@toPs.eq_1) (And.intro (@toPs.eq_2) (And.intro (@toP.eq_1) (And.intro (@toP.eq_2) (And.intro (@toP.eq_3) (And.intro (@toP.eq_4) (And.intro (@obound.eq_1) (And.intro (@obound.eq_2) (And.intro (@keyOf.eq_1) (And.intro (@keyOf.eq_2) (And.intro (@keyOf.eq_3) (And.intro (@cellInts.eq_1) (And.intro (@cellInts.eq_2) (And.intro (@cellInts.eq_3) (And.intro (@elemsOf.eq_1) (And.intro (@elemsOf.eq_2) (And.intro (@elemsOf.eq_3) (And.intro (@elemsOf.eq_4) (And.intro (@nilV.eq_1) (And.intro (@nilV.eq_2) (And.intro (@nilV.eq_3) (And.intro (@nilV.eq_4) (And.intro (@extV.eq_1) (And.intro (@extV.eq_2) (And.intro (@pickV.eq_1) (And.intro (@pickV.eq_2) (And.intro (@refs.eq_1) (And.intro (@refs.eq_2) (And.intro (@refs.eq_3) (And.intro (@refs.eq_4) (And.intro (@refs.eq_5) (And.intro (@refs.eq_6) (And.intro (@refs.eq_7) (And.intro (@refs.eq_8) (And.intro (@refs.eq_9) (And.intro (@refs.eq_10) (And.intro (@refs.eq_11) (And.intro (@refs.eq_12) (And.intro (@refsL.eq_1) (And.intro (@refsL.eq_2) (And.intro (@isCell.eq_1) (And.intro (@isCell.eq_2) (And.intro (@isCell.eq_3) (And.intro (@isCell.eq_4) (And.intro (@cellsOf.eq_1) (And.intro (@cellsOf.eq_2) (And.intro (@strip1.eq_1) (And.intro (@strip1.eq_2) (And.intro (@strip1.eq_3) (And.intro (@gdV.eq_1) (And.intro (@gdV.eq_2) (And.intro (@gdV.eq_3) (And.intro (@pdOk.eq_1) (And.intro (@pdOk.eq_2) (And.intro (@pdPush.eq_1) (And.intro (@pdPush.eq_2) (And.intro (@pdTick.eq_1) (And.intro (@pdTick.eq_2) (And.intro (@pdTick.eq_3) (And.intro (@pdTick.eq_4) (And.intro (@Back.eq_1) (And.intro (@Back.eq_2) (And.intro (@Back.eq_3) (And.intro (@cond_true.{1}) (And.intro (@cond_false.{1}) (And.intro (@if_true.{1}) (And.intro (@if_true.{0}) (And.intro (@if_false.{1}) (And.intro (@if_false.{0}) (@forall_const.{0})))))))))))))))))))))))))))))))))))))))))))))))))))))))))))))))))))))))))))))))))))))))))))))))) := And.intro (@vappend.eq_1) (And.intro (@ev.eq_1) (And.intro (@ev.eq_2) (And.intro (@ev.eq_3) (And.intro (@ev.eq_4) (And.intro (@ofValue.eq_1) (And.intro (@ofValue.eq_2) (And.intro (@ofValue.eq_3) (And.intro (@ofValue.eq_4) (And.intro (@ofValue.eq_5) (And.intro (@ofValue.eq_6) (And.intro (@ofValue.eq_7) (And.intro (@ofValue.eq_8) (And.intro (@ofValue.eq_9) (And.intro (@zipEnv.eq_1) (And.intro (@zipEnv.eq_2) (And.intro (@thenQ.eq_1) (And.intro (@thenQ.eq_2) (And.intro (@blockQ.eq_1) (And.intro (@blockQ.eq_2) (And.intro (@vfill.eq_1) (And.intro (@vfill.eq_2) (And.intro (@inOrder.eq_1) (And.intro (@inOrder.eq_2) (And.intro (@toPss.eq_1) (And.intro (@toPss.eq_2) (And.intro (@toPs.eq_1) (And.intro (@toPs.eq_2) (And.intro (@toP.eq_1) (And.intro (@toP.eq_2) (And.intro (@toP.eq_3) (And.intro (@toP.eq_4) (And.intro (@obound.eq_1) (And.intro (@obound.eq_2) (And.intro (@keyOf.eq_1) (And.intro (@keyOf.eq_2) (And.intro (@keyOf.eq_3) (And.intro (@cellInts.eq_1) (And.intro (@cellInts.eq_2) (And.intro (@cellInts.eq_3) (And.intro (@elemsOf.eq_1) (And.intro (@elemsOf.eq_2) (And.intro (@elemsOf.eq_3) (And.intro (@elemsOf.eq_4) (And.intro (@nilV.eq_1) (And.intro (@nilV.eq_2) (And.intro (@nilV.eq_3) (And.intro (@nilV.eq_4) (And.intro (@extV.eq_1) (And.intro (@extV.eq_2) (And.intro (@pickV.eq_1) (And.intro (@pickV.eq_2) (And.intro (@refs.eq_1) (And.intro (@refs.eq_2) (And.intro (@refs.eq_3) (And.intro (@refs.eq_4) (And.intro (@refs.eq_5) (And.intro (@refs.eq_6) (And.intro (@refs.eq_7) (And.intro (@refs.eq_8) (And.intro (@refs.eq_9) (And.intro (@refs.eq_10) (And.intro (@refs.eq_11) (And.intro (@refs.eq_12) (And.intro (@refsL.eq_1) (And.intro (@refsL.eq_2) (And.intro (@isCell.eq_1) (And.intro (@isCell.eq_2) (And.intro (@isCell.eq_3) (And.intro (@isCell.eq_4) (And.intro (@cellsOf.eq_1) (And.intro (@cellsOf.eq_2) (And.intro (@strip1.eq_1) (And.intro (@strip1.eq_2) (And.intro (@strip1.eq_3) (And.intro (@gdV.eq_1) (And.intro (@gdV.eq_2) (And.intro (@gdV.eq_3) (And.intro (@pdOk.eq_1) (And.intro (@pdOk.eq_2) (And.intro (@pdPush.eq_1) (And.intro (@pdPush.eq_2) (And.intro (@pdTick.eq_1) (And.intro (@pdTick.eq_2) (And.intro (@pdTick.eq_3) (And.intro (@pdTick.eq_4) (And.intro (@Back.eq_1) (And.intro (@Back.eq_2) (And.intro (@Back.eq_3) (And.intro (@cond_true.{1}) (And.intro (@cond_false.{1}) (And.intro (@if_true.{1}) (And.intro (@if_true.{0}) (And.intro (@if_false.{1}) (And.intro (@if_false.{0}) (@forall_const.{0})))))))))))))))))))))))))))))))))))))))))))))))))))))))))))))))))))))))))))))))))))))))))))))))
end Go.Proofs.Ythcicaelnchfdaa.Vm
