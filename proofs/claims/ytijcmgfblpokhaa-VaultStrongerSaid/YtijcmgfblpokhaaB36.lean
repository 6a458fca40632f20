/- A part of the proofs about the chapter of the vaults; it states no condition of its own. -/
import Derived.Test.YtijcmgfblpokhaaB31
import Derived.Test.YtijcmgfblpokhaaB32
import Derived.Test.YtijcmgfblpokhaaB35
import Derived.Test.YtijcmgfblpokhaaRows
import Derived.OpenShut
import Derived.Deep.QuietTactic
set_option linter.unusedVariables false
set_option linter.unusedSimpArgs false
/- What is known of the program of this seat, in the machine on values. -/
namespace Go.Proofs.Ytijcmgfblpokhaa.Vm
open Go Go.Proofs Go.RowKit

theorem two {xs : List Int} (h : xs.length = 2) : ∃ a b, xs = [a, b] := by
  match xs, h with
  | [a, b], _ => exact ⟨a, b, rfl⟩
theorem three {xs : List Int} (h : xs.length = 3) : ∃ a b c, xs = [a, b, c] := by
  match xs, h with
  | [a, b, c], _ => exact ⟨a, b, c, rfl⟩
theorem eqIn_Cell (d : Nat) (a b c e : Int) (w : World) : (Op.equalIn (d + 2) 24 (.agg #[.int .i64 a, .int .i64 b]) (.agg #[.int .i64 c, .int .i64 e])).run Try.prog w = .ok (decide (a = c ∧ b = e)) w := by
  have u3 := Try.underlying3
  have a3 := Try.isAgg3
  have z3 := Try.sizeOf3
  have hS : Try.prog.underlying 24 = some (.struct (Try.prog.fieldsOf 24)) := by kernel_rfl
  have hp : Try.prog.stoodInHeld 24 = false := by kernel_rfl
  rw [run_equalIn_agg w (d + 1) _ _ _ hS hp]
  simp only [Program.fieldsOf, Try.underlying24]
  go_simp
  by_cases h1 : a = c <;> by_cases h2 : b = e <;> simp [h1, h2]
theorem eqIn_Span (d : Nat) (a b c e : Int) (w : World) : (Op.equalIn (d + 2) 54 (.agg #[.int .i64 a, .int .i64 b]) (.agg #[.int .i64 c, .int .i64 e])).run Try.prog w = .ok (decide (a = c ∧ b = e)) w := by
  have u3 := Try.underlying3
  have a3 := Try.isAgg3
  have z3 := Try.sizeOf3
  have hS : Try.prog.underlying 54 = some (.struct (Try.prog.fieldsOf 54)) := by kernel_rfl
  have hp : Try.prog.stoodInHeld 54 = false := by kernel_rfl
  rw [run_equalIn_agg w (d + 1) _ _ _ hS hp]
  simp only [Program.fieldsOf, Try.underlying54]
  go_simp
  by_cases h1 : a = c <;> by_cases h2 : b = e <;> simp [h1, h2]
theorem cmpCell : CmpOk Try.prog 24 2 := by
  refine ⟨fun xs ys w hx hy => ?_, by kernel_rfl, fun xs e w hx => ?_, ⟨.struct (Try.prog.fieldsOf 24), by kernel_rfl, fun k h => by (cases h), fun h => by (cases h), fun h => by (cases h)⟩⟩
  · obtain ⟨a, b, rfl⟩ := two hx
    obtain ⟨c, d, rfl⟩ := two hy
    show (Op.equalIn (9998 + 2) _ _ _).run _ _ = _
    rw [show nums [a, b] = .agg #[.int .i64 a, .int .i64 b] from rfl, show nums [c, d] = .agg #[.int .i64 c, .int .i64 d] from rfl, eqIn_Cell]
    congr 1
    by_cases h1 : a = c <;> by_cases h2 : b = d <;> simp [h1, h2]
  · obtain ⟨a, b, rfl⟩ := two hx
    have u3 := Try.underlying3
    have a3 := Try.isAgg3
    have z3 := Try.sizeOf3
    rw [show nums [a, b] = .agg #[.int .i64 a, .int .i64 b] from rfl]
    generalize hd : (10000 : Nat) = d
    obtain ⟨d, rfl⟩ : ∃ e, d = e + 3 := ⟨9997, by omega⟩
    clear hd
    have h3 : ∀ (n : Int) (w : World), (Instr.checkKey e (d + 2) 3 (.int .i64 n)).run Try.prog w = .ok () w := fun n w => by
      rw [Instr.checkKey]
      go_simp
    rw [Instr.checkKey]
    simp only [Sem.run_bind, Try.underlying24]
    go_simp
theorem cmpSpan : CmpOk Try.prog 54 2 := by
  refine ⟨fun xs ys w hx hy => ?_, by kernel_rfl, fun xs e w hx => ?_, ⟨.struct (Try.prog.fieldsOf 54), by kernel_rfl, fun k h => by (cases h), fun h => by (cases h), fun h => by (cases h)⟩⟩
  · obtain ⟨a, b, rfl⟩ := two hx
    obtain ⟨c, d, rfl⟩ := two hy
    show (Op.equalIn (9998 + 2) _ _ _).run _ _ = _
    rw [show nums [a, b] = .agg #[.int .i64 a, .int .i64 b] from rfl, show nums [c, d] = .agg #[.int .i64 c, .int .i64 d] from rfl, eqIn_Span]
    congr 1
    by_cases h1 : a = c <;> by_cases h2 : b = d <;> simp [h1, h2]
  · obtain ⟨a, b, rfl⟩ := two hx
    have u3 := Try.underlying3
    have a3 := Try.isAgg3
    have z3 := Try.sizeOf3
    rw [show nums [a, b] = .agg #[.int .i64 a, .int .i64 b] from rfl]
    generalize hd : (10000 : Nat) = d
    obtain ⟨d, rfl⟩ : ∃ e, d = e + 3 := ⟨9997, by omega⟩
    clear hd
    have h3 : ∀ (n : Int) (w : World), (Instr.checkKey e (d + 2) 3 (.int .i64 n)).run Try.prog w = .ok () w := fun n w => by
      rw [Instr.checkKey]
      go_simp
    rw [Instr.checkKey]
    simp only [Sem.run_bind, Try.underlying54]
    go_simp
theorem eqIn_Put (d : Nat) (a b k c e l : Int) (w : World) : (Op.equalIn (d + 3) 59 (.agg #[.int .i64 a, .int .i64 b, .int .i64 k]) (.agg #[.int .i64 c, .int .i64 e, .int .i64 l])).run Try.prog w = .ok (decide (a = c ∧ b = e ∧ k = l)) w := by
  have u3 := Try.underlying3
  have a3 := Try.isAgg3
  have z3 := Try.sizeOf3
  have a24 := Try.isAgg24
  have z24 := Try.sizeOf24
  have hIn := fun d w => eqIn_Cell d a b c e w
  have hS : Try.prog.underlying 59 = some (.struct (Try.prog.fieldsOf 59)) := by kernel_rfl
  have hp : Try.prog.stoodInHeld 59 = false := by kernel_rfl
  rw [run_equalIn_agg w (d + 2) _ _ _ hS hp]
  simp only [Program.fieldsOf, Try.underlying59]
  clear hS hp
  go_simp
  by_cases h1 : a = c <;> by_cases h2 : b = e <;> by_cases h3 : k = l <;> simp [h1, h2, h3]
theorem cmpPut : CmpOk Try.prog 59 3 := by
  refine ⟨fun xs ys w hx hy => ?_, by kernel_rfl, fun xs e w hx => ?_, ⟨.struct (Try.prog.fieldsOf 59), by kernel_rfl, fun k h => by (cases h), fun h => by (cases h), fun h => by (cases h)⟩⟩
  · obtain ⟨a, b, k, rfl⟩ := three hx
    obtain ⟨c, d, l, rfl⟩ := three hy
    show (Op.equalIn (9997 + 3) _ _ _).run _ _ = _
    rw [show nums [a, b, k] = .agg #[.int .i64 a, .int .i64 b, .int .i64 k] from rfl, show nums [c, d, l] = .agg #[.int .i64 c, .int .i64 d, .int .i64 l] from rfl, eqIn_Put]
    congr 1
    by_cases h1 : a = c <;> by_cases h2 : b = d <;> by_cases h3 : k = l <;> simp [h1, h2, h3]
  · obtain ⟨a, b, k, rfl⟩ := three hx
    have u3 := Try.underlying3
    have a3 := Try.isAgg3
    have z3 := Try.sizeOf3
    have a24 := Try.isAgg24
    have z24 := Try.sizeOf24
    rw [show nums [a, b, k] = .agg #[.int .i64 a, .int .i64 b, .int .i64 k] from rfl]
    generalize hd : (10000 : Nat) = d
    obtain ⟨d, rfl⟩ : ∃ e, d = e + 4 := ⟨9996, by omega⟩
    clear hd
    have h2 : ∀ (m : Nat) (n : Int) (w : World), (Instr.checkKey e (m + 1) 3 (.int .i64 n)).run Try.prog w = .ok () w := fun m n w => by
      rw [Instr.checkKey]
      go_simp
    have h3 : ∀ (a b : Int) (w : World), (Instr.checkKey e (d + 3) 24 (.agg #[.int .i64 a, .int .i64 b])).run Try.prog w = .ok () w := fun a b w => by
      have h4 := h2 (d + 1)
      rw [Instr.checkKey]
      simp only [Sem.run_bind, Try.underlying24]
      go_simp
    have h5 := h2 (d + 2)
    rw [Instr.checkKey]
    simp only [Sem.run_bind, Try.underlying59]
    go_simp
/-- the types whose values may be compared -/
def cmpB (t : Nat) : Bool := Nat.beq t 24 || (Nat.beq t 54 || Nat.beq t 59)
theorem size_of {t n : Nat} {y : Ty} (h : tyOf Try.prog cmpB t = some y) (hn : (tyOf Try.prog cmpB t).map (·.size) = some n) : y.size = n := by
  rw [h] at hn
  exact Option.some.inj hn
theorem cmpB_ok : ∀ t y, cmpB t = true → tyOf Try.prog cmpB t = some y → CmpOk Try.prog t y.size := by
  intro t y h hy
  simp only [cmpB, Bool.or_eq_true] at h
  rcases h with h | h | h
  · have := Nat.eq_of_beq_eq_true h
    subst this
    rw [size_of hy (n := 2) (by kernel_rfl)]
    exact cmpCell
  · have := Nat.eq_of_beq_eq_true h
    subst this
    rw [size_of hy (n := 2) (by kernel_rfl)]
    exact cmpSpan
  · have := Nat.eq_of_beq_eq_true h
    subst this
    rw [size_of hy (n := 3) (by kernel_rfl)]
    exact cmpPut
/-- functions whose arguments and results keep their tokens -/
def keepsB (f : Nat) : Bool := Nat.beq f 67 || Nat.beq f 31 || Nat.beq f 66
noncomputable def T : Tab := tabOf Try.prog cmpB (varsOf Try.prog) keepsB
theorem T_ok : TabOk Try.prog T := tabOf_ok cmpB_ok (by kernel_rfl)
end Go.Proofs.Ytijcmgfblpokhaa.Vm

/- The machine on values at work: functions at any input. -/
namespace Go.Proofs.Ytijcmgfblpokhaa.Vm
open Go Go.Proofs

abbrev vi (n : Int) : VV := .p (.int .i64 n)
abbrev vb (b : Bool) : VV := .p (.bool b)
theorem vfinish_same {T : Tab} {f : Nat} {r : VV} {M : Mem} (hk : T.keeps f = false) (hlg : ∀ e ∈ M.lg, e.1 < M.H.length ∧ e.2 < M.H.length) (hr : ∀ x ∈ refs (frz M.H.length M.H r), x < M.H.length) : vfinish T f M.H.length r M = (frz M.H.length M.H r, M) := by
  have h1 : M.lg.filter (fun e => Nat.blt e.1 M.H.length) = M.lg := List.filter_eq_self.2 fun e he => by rw [Nat.blt_eq]; exact (hlg e he).1
  unfold vfinish
  rw [hk, h1]
  have h2 : (M.lg.all fun e => Nat.blt e.2 M.H.length) = true := List.all_eq_true.2 fun e he => by rw [Nat.blt_eq]; exact (hlg e he).2
  have h3 : ((refs (frz M.H.length M.H r)).all (Nat.blt · M.H.length)) = true := List.all_eq_true.2 fun x hx => by rw [Nat.blt_eq]; exact hr x hx
  rw [h2, h3]
  simp
/-- a function that leaves memory alone, and yields plain data -/
theorem VC_plain {P : Program} {T : Tab} (hT : TabOk P T) {f : Nat} {fn : Func} {c : Code} {args : List VV} {M : Mem} {Q : VV → Prop} (hf : T.fn f = some fn) (hb : fn.body = some c) (hn : args.length ≤ fn.ntmps) (hk : T.keeps f = false)
    (h : WCode P ⟨f, none, fn.ntmps⟩ c (zipEnv 0 args) M [] (fun ex e M' D => (ex = .normal ∨ ex = .ret) ∧ M' = M ∧ D = [] ∧ ∃ vs, vresL T e M fn.results.toList = some vs ∧ (∀ x ∈ refs (frz M.H.length M.H (vtup vs)), x < M.H.length) ∧ Q (frz M.H.length M.H (vtup vs)))) :
    VC P f args M (fun r M' => M' = M ∧ Q r) := by
  refine VC_fn hT hf hb hn fun hlg => h.mono ?_
  rintro ex e M' D ⟨hex, rfl, rfl, vs, h1, h2, h3⟩
  have : retQ T f M'.H.length fn (fun r M1 => M1 = M' ∧ Q r) .ret e M' [] := by
    simp only [retQ, vkill]
    have hM : ({ M' with H := M'.H } : Mem) = M' := rfl
    rw [hM, h1]
    simp only
    rw [vfinish_same hk hlg h2]
    exact ⟨rfl, h3⟩
  rcases hex with rfl | rfl
  · exact this
  · exact this
theorem vbin_leq (T : Tab) (t : Nat) (a b : Int) : vbin T .leq t (vi a) (vi b) = some (vb (decide (a ≤ b))) := by
  exact fbin_ok T .leq t a b _ (by simp [fbin, leI_eq])
theorem vbin_geq (T : Tab) (t : Nat) (a b : Int) : vbin T .geq t (vi a) (vi b) = some (vb (decide (b ≤ a))) := by
  exact fbin_ok T .geq t a b _ (by simp [fbin, leI_eq])
end Go.Proofs.Ytijcmgfblpokhaa.Vm

/- The types of the seat, as the machine on values knows them. -/
namespace Go.Proofs.Ytijcmgfblpokhaa.Vm
open Go Go.Proofs

theorem t_int : T.ty 3 = some ⟨.int .i64, 1, [.int .i64 0], false, false⟩ := by kernel_rfl
theorem t_bool : T.ty 4 = some ⟨.bool, 1, [.bool false], false, false⟩ := by kernel_rfl
theorem t_errno : T.ty 30 = some ⟨.int .i64, 1, [.int .i64 0], false, false⟩ := by kernel_rfl
theorem t_cell : T.ty 24 = some ⟨.struct [(0, 1), (1, 1)], 2, [.int .i64 0, .int .i64 0], true, true⟩ := by kernel_rfl
theorem t_span : T.ty 54 = some ⟨.struct [(0, 1), (1, 1)], 2, [.int .i64 0, .int .i64 0], true, true⟩ := by kernel_rfl
theorem t_put : T.ty 59 = some ⟨.struct [(0, 2), (2, 1)], 3, [.int .i64 0, .int .i64 0, .int .i64 0], true, true⟩ := by kernel_rfl
theorem t_kind : T.ty 57 = some ⟨.struct [(0, 2), (2, 1), (3, 1), (4, 1), (5, 1)], 6, [.int .i64 0, .int .i64 0, .bool false, .slice none 0 0, .int .i64 0, .int .i64 0], true, false⟩ := by kernel_rfl
theorem t_hall : T.ty 28 = some ⟨.struct [(0, 1), (1, 1), (2, 1), (3, 1), (4, 2), (6, 1), (7, 1)], 8, [.int .i64 0, .int .i64 0, .slice none 0 0, .slice none 0 0, .int .i64 0, .int .i64 0, .slice none 0 0, .slice none 0 0], true, false⟩ := by kernel_rfl
theorem t_layout : T.ty 115 = some ⟨.struct [(0, 8), (8, 1), (9, 3)], 12, [.int .i64 0, .int .i64 0, .slice none 0 0, .slice none 0 0, .int .i64 0, .int .i64 0, .slice none 0 0, .slice none 0 0, .slice none 0 0, .int .i64 0, .int .i64 0, .int .i64 0], true, false⟩ := by kernel_rfl
theorem t_die : T.ty 88 = some ⟨.struct [(0, 1)], 1, [.int .u64 0], true, false⟩ := by kernel_rfl
theorem t_ints : T.ty 25 = some ⟨.slice 3 1 8, 1, [.slice none 0 0], false, false⟩ := by kernel_rfl
theorem t_cells : T.ty 22 = some ⟨.slice 24 2 16, 1, [.slice none 0 0], false, false⟩ := by kernel_rfl
theorem t_spans : T.ty 45 = some ⟨.slice 54 2 16, 1, [.slice none 0 0], false, false⟩ := by kernel_rfl
theorem t_puts : T.ty 38 = some ⟨.slice 59 3 24, 1, [.slice none 0 0], false, false⟩ := by kernel_rfl
theorem t_kinds : T.ty 26 = some ⟨.slice 57 6 64, 1, [.slice none 0 0], false, false⟩ := by kernel_rfl
theorem t_halls : T.ty 36 = some ⟨.slice 28 8 128, 1, [.slice none 0 0], false, false⟩ := by kernel_rfl
theorem t_lays : T.ty 62 = some ⟨.slice 38 1 24, 1, [.slice none 0 0], false, false⟩ := by kernel_rfl
theorem t_funcs : T.ty 117 = some ⟨.slice 116 1 8, 1, [.slice none 0 0], false, false⟩ := by kernel_rfl
theorem t_row : T.ty 96 = some ⟨.arr 6 3 1, 6, [.int .i64 0, .int .i64 0, .int .i64 0, .int .i64 0, .int .i64 0, .int .i64 0], true, false⟩ := by kernel_rfl
theorem t_floor : T.ty 98 = some ⟨.arr 4 96 6, 24, [.int .i64 0, .int .i64 0, .int .i64 0, .int .i64 0, .int .i64 0, .int .i64 0, .int .i64 0, .int .i64 0, .int .i64 0, .int .i64 0, .int .i64 0, .int .i64 0, .int .i64 0, .int .i64 0, .int .i64 0, .int .i64 0, .int .i64 0, .int .i64 0, .int .i64 0, .int .i64 0, .int .i64 0, .int .i64 0, .int .i64 0, .int .i64 0], true, false⟩ := by kernel_rfl
theorem t_floor0 : T.ty 97 = some ⟨.arr 4 96 6, 24, [.int .i64 0, .int .i64 0, .int .i64 0, .int .i64 0, .int .i64 0, .int .i64 0, .int .i64 0, .int .i64 0, .int .i64 0, .int .i64 0, .int .i64 0, .int .i64 0, .int .i64 0, .int .i64 0, .int .i64 0, .int .i64 0, .int .i64 0, .int .i64 0, .int .i64 0, .int .i64 0, .int .i64 0, .int .i64 0, .int .i64 0, .int .i64 0], true, false⟩ := by kernel_rfl
theorem t_cmap : T.ty 121 = some ⟨.map 24 4, 1, [.map none], false, false⟩ := by kernel_rfl
theorem t_imap : T.ty 118 = some ⟨.map 3 3, 1, [.map none], false, false⟩ := by kernel_rfl
theorem t_u64 : T.ty 86 = some ⟨.int .u64, 1, [.int .u64 0], false, false⟩ := by kernel_rfl
theorem t_uint : T.ty 107 = some ⟨.int .u64, 1, [.int .u64 0], false, false⟩ := by kernel_rfl
theorem t_err : T.ty 116 = some ⟨.other, 1, [.nilFunc], false, false⟩ := by kernel_rfl
theorem t_try : T.ty 95 = some ⟨.other, 1, [.nilFunc], false, false⟩ := by kernel_rfl
theorem t_playout : T.ty 113 = some ⟨.other, 1, [.pointer none], false, false⟩ := by kernel_rfl

end Go.Proofs.Ytijcmgfblpokhaa.Vm
