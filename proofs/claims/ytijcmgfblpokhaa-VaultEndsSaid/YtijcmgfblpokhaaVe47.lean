/- VaultEnds answers true for every list of numbers. Part 47 of its proof; no conditions. -/
import Derived.Test.YtijcmgfblpokhaaVe46
set_option linter.unusedVariables false
set_option linter.unusedSimpArgs false
/- Functions that a closed run takes by their contracts. (Vm) -/
namespace Go.Proofs.Ytijcmgfblpokhaa.Vm
open Go Go.Proofs
def mapO {α β : Type} (f : α → Option β) : List α → Option (List β)
  | [] => some []
  | x :: xs => match f x, mapO f xs with
    | some y, some ys => some (y :: ys)
    | _, _ => none
def unInt : List PV → Option Int
  | [.int .i64 n] => some n
  | _ => none
def unPl : List PV → Option Pl
  | [.int .i64 x, .int .i64 y] => some ⟨x, y⟩
  | _ => none
def unPu : List PV → Option Pu
  | [.int .i64 x, .int .i64 y, .int .i64 k] => some ⟨⟨x, y⟩, k⟩
  | _ => none
def unKi : List PV → Option Ki
  | [.int .i64 lo, .int .i64 hi, .bool w, .sl 1 aw, .int .i64 r, .int .i64 m] => match mapO unInt aw with
    | some a => some ⟨lo, hi, w, a, r, m⟩
    | none => none
  | _ => none
def unHall : VV → Option Ha
  | .agg [.p (.int .i64 w), .p (.int .i64 d), .p (.sl 2 wa), .p (.sl 2 sh), .p (.int .i64 bx), .p (.int .i64 by_), .p (.sl 1 be), .p (.sl 6 ks)] => match mapO unPl wa, mapO unPl sh, mapO unInt be, mapO unKi ks with
    | some wa, some sh, some be, some ks => some ⟨w, d, wa, sh, ⟨bx, by_⟩, be, ks⟩
    | _, _, _, _ => none
  | _ => none
def unPus : VV → Option (List Pu)
  | .p (.sl 3 l) => mapO unPu l
  | _ => none
theorem mapO_ok {α β : Type} {f : α → Option β} {g : β → α} (h : ∀ x y, f x = some y → x = g y) : ∀ {l : List α} {l' : List β}, mapO f l = some l' → l = l'.map g
  | [], l', e => by cases e; rfl
  | x :: xs, l', e => by
    simp only [mapO] at e
    split at e
    · rename_i y ys h1 h2
      cases e
      rw [h x y h1, mapO_ok h h2]; rfl
    · cases e
theorem unInt_ok (x : List PV) (y : Int) (e : unInt x = some y) : x = intP y := by
  unfold unInt at e
  split at e <;> cases e
  rfl
theorem unPl_ok (x : List PV) (y : Pl) (e : unPl x = some y) : x = plP y := by
  unfold unPl at e
  split at e <;> cases e
  rfl
theorem unPu_ok (x : List PV) (y : Pu) (e : unPu x = some y) : x = puP y := by
  unfold unPu at e
  split at e <;> cases e
  rfl
theorem unKi_ok (x : List PV) (y : Ki) (e : unKi x = some y) : x = kiP y := by
  unfold unKi at e
  split at e
  · split at e
    · rename_i a ha
      cases e
      rw [mapO_ok unInt_ok ha]
    · cases e
  · cases e
theorem unHall_ok {v : VV} {h : Ha} (e : unHall v = some h) : v = hallV h := by
  unfold unHall at e
  split at e
  · split at e
    · rename_i h1 h2 h3 h4
      cases e
      rw [mapO_ok unPl_ok h1, mapO_ok unPl_ok h2, mapO_ok unInt_ok h3, mapO_ok unKi_ok h4]
    · cases e
  · cases e
theorem unPus_ok {v : VV} {l : List Pu} (e : unPus v = some l) : v = pusV l := by
  unfold unPus at e
  split at e
  · rw [mapO_ok unPu_ok e]
  · cases e
def finB (h : Ha) : Bool := Nat.ble h.water.length 1000000 && Nat.ble h.shut.length 1000000 && Nat.ble h.bears.length 1000000 && Nat.ble h.kinds.length 1000000 && h.kinds.all fun k => Nat.ble k.away.length 1000000
theorem finB_ok {h : Ha} (e : finB h = true) : Fin h := by
  simp only [finB, Bool.and_eq_true, Nat.ble_eq, List.all_eq_true] at e
  exact ⟨e.1.1.1.1, e.1.1.1.2, e.1.1.2, e.1.2, e.2⟩
def goodB (h : Ha) (o : Pu) : Bool := isPl h o.pl && isKind h o.kind
def prim0 : CallT := fun f args M =>
  bif Nat.beq f 36 then (match args with
    | [a] => match unHall a with
      | some h => bif finB h then some (vi (hallErr h), M) else none
      | none => none
    | _ => none)
  else bif Nat.beq f 68 then (match args with
    | [a, b] => match unHall a, unPus b with
      | some h, some l => bif decide (hallErr h = 0) && Nat.ble l.length 1000000 then some (vi (layErr h l), M) else none
      | _, _ => none
    | _ => none)
  else bif Nat.beq f 69 then (match args with
    | [a, b] => match unHall a, unPus b with
      | some h, some l => bif decide (hallErr h = 0) && Nat.ble l.length 500 && l.all (goodB h) then some (vi (verdictOf h l), M) else none
      | _, _ => none
    | _ => none)
  else none
theorem prim0_ok (f : Nat) (args : List VV) (M : Mem) (r : VV) (M' : Mem) (e : prim0 f args M = some (r, M')) : VC Try.prog f args M (eqQ r M') := by
  unfold prim0 at e
  cases h1 : Nat.beq f 36 with
  | true =>
    have := Nat.eq_of_beq_eq_true h1
    subst this
    rw [h1] at e
    simp only [cond_true] at e
    split at e
    · rename_i a
      split at e
      · rename_i h hh
        cases hf : finB h with
        | false => rw [hf] at e; cases e
        | true =>
          rw [hf] at e
          cases e
          rw [unHall_ok hh]
          exact (check_vm h M (finB_ok hf)).mono fun r M' ⟨q1, q2⟩ => ⟨q2, q1⟩
      · cases e
    · cases e
  | false =>
  rw [h1] at e
  simp only [cond_false] at e
  cases h2 : Nat.beq f 68 with
  | true =>
    have := Nat.eq_of_beq_eq_true h2
    subst this
    rw [h2] at e
    simp only [cond_true] at e
    split at e
    · rename_i a b
      split at e
      · rename_i h l hh hl
        cases hf : decide (hallErr h = 0) && Nat.ble l.length 1000000 with
        | false => rw [hf] at e; cases e
        | true =>
          rw [hf] at e
          cases e
          rw [Bool.and_eq_true, Nat.ble_eq, decide_eq_true_eq] at hf
          rw [unHall_ok hh, unPus_ok hl]
          exact (checklayout_vm h l M (VH.of hf.1) hf.2).mono fun r M' ⟨q1, q2⟩ => ⟨q2, q1⟩
      · cases e
    · cases e
  | false =>
  rw [h2] at e
  simp only [cond_false] at e
  cases h3 : Nat.beq f 69 with
  | true =>
    have := Nat.eq_of_beq_eq_true h3
    subst this
    rw [h3] at e
    simp only [cond_true] at e
    split at e
    · rename_i a b
      split at e
      · rename_i h l hh hl
        cases hf : decide (hallErr h = 0) && Nat.ble l.length 500 && l.all (goodB h) with
        | false => rw [hf] at e; cases e
        | true =>
          rw [hf] at e
          cases e
          rw [Bool.and_eq_true, Bool.and_eq_true, Nat.ble_eq, decide_eq_true_eq, List.all_eq_true] at hf
          rw [unHall_ok hh, unPus_ok hl]
          refine (bears_vm h l M (VH.of hf.1.1) (fun o ho => ?_) hf.1.2).mono fun r M' ⟨q1, q2⟩ => ⟨q2, q1⟩
          have := hf.2 o ho
          rw [goodB, Bool.and_eq_true] at this
          exact this
      · cases e
    · cases e
  | false => rw [h3] at e; cases e
end Go.Proofs.Ytijcmgfblpokhaa.Vm
