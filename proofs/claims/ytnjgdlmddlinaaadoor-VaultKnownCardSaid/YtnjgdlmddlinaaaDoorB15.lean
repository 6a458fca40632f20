/- A part of the proofs about the chapter of the vaults; it states no condition of its own. -/
import Derived.Test.YtnjgdlmddlinaaaDoorB12
import Derived.Test.YtnjgdlmddlinaaaDoorB13
import Derived.Test.YtnjgdlmddlinaaaDoorB14
import Derived.Test.YtnjgdlmddlinaaaDoorRows
import Derived.ChangeSame
import Derived.ChangeSlices
import Derived.JoinedOf
import Derived.JoinedAt
import Derived.RowKit
import Derived.OpenShut
import Derived.Carry
set_option linter.unusedVariables false
set_option linter.unusedSimpArgs false
/- The machine on values at work: what its steps yield, for simp. -/
namespace Go.Proofs.YtnjgdlmddlinaaaDoor.Vm
open Go Go.Proofs

section
variable (T : Tab) (t : Nat) (a b : Int)
theorem v_lss : vbin T .lss t (vi a) (vi b) = some (vb (decide (a < b))) := fbin_ok T .lss t a b _ (by
 simp only [fbin, leI_eq]
 congr 2
 by_cases h : b ≤ a
 ·rw [decide_eq_true h, decide_eq_false (by omega)]; rfl
 ·rw [decide_eq_false h, decide_eq_true (by omega)]; rfl)
theorem v_gtr : vbin T .gtr t (vi a) (vi b) = some (vb (decide (b < a))) := fbin_ok T .gtr t a b _ (by
 simp only [fbin, leI_eq]
 congr 2
 by_cases h : a ≤ b
 ·rw [decide_eq_true h, decide_eq_false (by omega)]; rfl
 ·rw [decide_eq_false h, decide_eq_true (by omega)]; rfl)
theorem v_leq : vbin T .leq t (vi a) (vi b) = some (vb (decide (a ≤ b))) := vbin_leq T t a b
theorem v_geq : vbin T .geq t (vi a) (vi b) = some (vb (decide (b ≤ a))) := vbin_geq T t a b
theorem v_eql : vbin T .eql t (vi a) (vi b) = some (vb (decide (a = b))) := fbin_ok T .eql t a b _ (by simp [fbin, eqI_eq])
theorem v_neq : vbin T .neq t (vi a) (vi b) = some (vb (!decide (a = b))) := fbin_ok T .neq t a b _ (by simp [fbin, eqI_eq])
theorem v_add (h : -9223372036854775808 ≤ a + b ∧ a + b < 9223372036854775808) : vbin T .add t (vi a) (vi b) = some (vi (a + b)) := fbin_ok T .add t a b _ (by
 simp only [fbin, wrap64_eq]; rw [IntWalk.i64_in _ (by omega)])
theorem v_sub (h : -9223372036854775808 ≤ a - b ∧ a - b < 9223372036854775808) : vbin T .sub t (vi a) (vi b) = some (vi (a - b)) := fbin_ok T .sub t a b _ (by
 simp only [fbin, wrap64_eq]; rw [IntWalk.i64_in _ (by omega)])
theorem v_mul (h : -9223372036854775808 ≤ a * b ∧ a * b < 9223372036854775808) : vbin T .mul t (vi a) (vi b) = some (vi (a * b)) := fbin_ok T .mul t a b _ (by
 simp only [fbin, wrap64_eq]; rw [IntWalk.i64_in _ (by omega)])
theorem v_quo (h : 0 ≤ a ∧ a < 9223372036854775808) (hb : 1 ≤ b) : vbin T .quo t (vi a) (vi b) = some (vi (a / b)) := by
 have h0 : ¬ b = 0 := by omega
 have h1 := IntWalk.i64_quo a b (by omega)
 have h2 : Go.binOp .quo 0 (.int .i64 a) (.int .i64 b) = .pure (.int .i64 (a / b)) := by
  show Op.intDiv .quo .i64 a b = _
  unfold Op.intDiv
  rw [if_neg (by simpa using h0)]
  simp only [h1]
  rfl
 simp only [vbin, h2, pureOf, Option.map_some, ofValue]
theorem v_max2 : vexts true (vi a) [vi b] = some (vi (max a b)) := by
 by_cases h : a < b
 ·have h' : decide (b > a) = true := decide_eq_true h
  simp [vexts, vext, h', Int.max_eq_right (Int.le_of_lt h)]
 ·have h' : decide (b > a) = false := decide_eq_false h
  simp [vexts, vext, h', Int.max_eq_left (by omega : b ≤ a)]
theorem v_min2 : vexts false (vi a) [vi b] = some (vi (min a b)) := by
 by_cases h : b < a
 ·have h' : decide (b < a) = true := decide_eq_true h
  simp [vexts, vext, h', Int.min_eq_right (Int.le_of_lt h)]
 ·have h' : decide (b < a) = false := decide_eq_false h
  simp [vexts, vext, h', Int.min_eq_left (by omega : a ≤ b)]
theorem v_not (x : Bool) : vun .not (vb x) = some (vb (!x)) := by cases x <;> rfl
end
theorem hget (H L : List VObj) (k : Nat) : (H ++ L)[H.length + k]? = L[k]? := by rw [List.getElem?_append_right (by omega)]; congr 1; omega
theorem hget0 (H L : List VObj) : (H ++ L)[H.length]? = L[0]? := hget H L 0
theorem hset (H L : List VObj) (k : Nat) (o : VObj) : (H ++ L).set (H.length + k) o = H ++ L.set k o := by rw [List.set_append_right _ _ (by omega)]; congr 2; omega
theorem hset0 (H L : List VObj) (o : VObj) : (H ++ L).set H.length o = H ++ L.set 0 o := hset H L 0 o
theorem push_eq (M : Mem) (o : VObj) : M.push o = ⟨M.H ++ [o], M.lg⟩ := rfl
theorem addLg_nil (id : Nat) (lg : List (Nat × Nat)) : addLg id [] lg = lg := rfl

theorem nat_blt (a b : Nat) : Nat.blt a b = decide (a < b) := by
 cases h : Nat.blt a b with
 | true => rw [Nat.blt_eq] at h; simp [h]
 | false =>
  have : ¬ a < b := fun h' => by rw [← Nat.blt_eq] at h'; rw [h'] at h; cases h
  simp [this]
theorem nat_ble (a b : Nat) : Nat.ble a b = decide (a ≤ b) := by
 cases h : Nat.ble a b with
 | true => rw [Nat.ble_eq] at h; simp [h]
 | false =>
  have : ¬ a ≤ b := fun h' => by rw [← Nat.ble_eq] at h'; rw [h'] at h; cases h
  simp [this]
theorem nat_beq (a b : Nat) : Nat.beq a b = decide (a = b) := by
 cases h : Nat.beq a b with
 | true => rw [Nat.beq_eq] at h; simp [h]
 | false =>
  have : ¬ a = b := fun h' => by rw [← Nat.beq_eq] at h'; rw [h'] at h; cases h
  simp [this]
def ownQ (T : Tab) (f : Nat) (fn : Func) (M : Mem) (Q : VV → Mem → Prop) : PQ := fun ex e M' D => (ex = .normal ∨ ex = .ret) ∧ D = [] ∧ (∃ X, M'.lg = M.lg ++ X ∧ ∀ e ∈ X, M.H.length ≤ e.1) ∧ ∃ H1 L, M'.H = H1 ++ L ∧ H1.length = M.H.length ∧ ∃ vs, vresL T e M' fn.results.toList = some vs ∧ ∃ r, frz M.H.length M'.H (vtup vs) = r ∧ (∀ x ∈ refs r, x < M.H.length) ∧ Q r ⟨H1, M.lg⟩
theorem VC_own {P : Program} {T : Tab} (hT : TabOk P T) {f : Nat} {fn : Func} {c : Code} {args : List VV} {M : Mem} {Q : VV → Mem → Prop} (hf : T.fn f = some fn) (hb : fn.body = some c) (hn : args.length ≤ fn.ntmps) (hk : T.keeps f = false)
  (h : WCode P ⟨f, none, fn.ntmps⟩ c (zipEnv 0 args) M [] (ownQ T f fn M Q)) :
  VC P f args M Q := by
 refine VC_fn hT hf hb hn fun hlg => h.mono ?_
 rintro ex e M' D ⟨hex, rfl, ⟨X, hl, hX⟩, H1, L, hH, hlen, vs, h1, r, hr, h2, h3⟩
 have key : retQ T f M.H.length fn Q .ret e M' [] := by
  simp only [retQ, vkill]
  have hM : ({ M' with H := M'.H } : Mem) = M' := rfl
  rw [hM, h1]
  simp only
  have q1 : M'.lg.filter (fun e => Nat.blt e.1 M.H.length) = M.lg := by
   rw [hl, List.filter_append, List.filter_eq_self.2 fun e he => by rw [Nat.blt_eq]; exact (hlg e he).1, List.filter_eq_nil_iff.2 fun e he => by rw [Nat.blt_eq]; have := hX e he; omega, List.append_nil]
  have q2 : (M.lg.all fun e => Nat.blt e.2 M.H.length) = true := List.all_eq_true.2 fun e he => by rw [Nat.blt_eq]; exact (hlg e he).2
  have q3 : ((refs r).all (Nat.blt · M.H.length)) = true := List.all_eq_true.2 fun x hx => by rw [Nat.blt_eq]; exact h2 x hx
  have q4 : M'.H.take M.H.length = H1 := by rw [hH, ← hlen]; simp
  unfold vfinish
  rw [hk, q1, hr, q2, q3, q4]
  exact h3
 rcases hex with rfl | rfl
 ·exact key
 ·exact key
theorem VC_own' {P : Program} {T : Tab} (hT : TabOk P T) {f : Nat} {fn : Func} {c : Code} {nt : Nat} {args : List VV} {M : Mem} {Q : VV → Mem → Prop} (hf : T.fn f = some fn) (hb : fn.body = some c) (hnt : fn.ntmps = nt) (hn : Nat.ble args.length nt = true) (hk : T.keeps f = false)
  (h : WCode P ⟨f, none, nt⟩ c (zipEnv 0 args) M [] (ownQ T f fn M Q)) : VC P f args M Q := by
 subst hnt
 exact VC_own hT hf hb (Nat.le_of_ble_eq_true hn) hk h
theorem own_ret {T : Tab} {f : Nat} {fn : Func} {M : Mem} {L : List VObj} {Q : VV → Mem → Prop} {e : Env} {vs : List VV} {r : VV} (h1 : vresL T e ⟨M.H ++ L, M.lg⟩ fn.results.toList = some vs) (hr : frz M.H.length (M.H ++ L) (vtup vs) = r) (h2 : refs r = []) (h3 : Q r M) : ownQ T f fn M Q .ret e ⟨M.H ++ L, M.lg⟩ [] :=
 ⟨.inr rfl, rfl, ⟨[], by simp, by simp⟩, M.H, L, rfl, rfl, vs, h1, r, hr, by simp [h2], h3⟩
theorem own_ret0 {T : Tab} {f : Nat} {fn : Func} {M : Mem} {Q : VV → Mem → Prop} {e : Env} {vs : List VV} {r : VV} (h1 : vresL T e M fn.results.toList = some vs) (hr : frz M.H.length M.H (vtup vs) = r) (h2 : refs r = []) (h3 : Q r M) : ownQ T f fn M Q .ret e M [] :=
 ⟨.inr rfl, rfl, ⟨[], by simp, by simp⟩, M.H, [], by simp, rfl, vs, h1, r, hr, by simp [h2], h3⟩
abbrev intP (n : Int) : List PV := [.int .i64 n]
abbrev plP (c : Pl) : List PV := [.int .i64 c.x, .int .i64 c.y]
abbrev spP (c : Sp) : List PV := [.int .i64 c.lo, .int .i64 c.hi]
abbrev puP (c : Pu) : List PV := [.int .i64 c.pl.x, .int .i64 c.pl.y, .int .i64 c.kind]
abbrev kiP (k : Ki) : List PV := [.int .i64 k.lo, .int .i64 k.hi, .bool k.water, .sl 1 (k.away.map intP), .int .i64 k.rent, .int .i64 k.most]
abbrev plV (c : Pl) : VV := .agg [vi c.x, vi c.y]
abbrev spV (c : Sp) : VV := .agg [vi c.lo, vi c.hi]
abbrev puV (c : Pu) : VV := .agg [vi c.pl.x, vi c.pl.y, vi c.kind]
abbrev intsV (l : List Int) : VV := .p (.sl 1 (l.map intP))
abbrev plsV (l : List Pl) : VV := .p (.sl 2 (l.map plP))
abbrev spsV (l : List Sp) : VV := .p (.sl 2 (l.map spP))
abbrev pusV (l : List Pu) : VV := .p (.sl 3 (l.map puP))
abbrev kisV (l : List Ki) : VV := .p (.sl 6 (l.map kiP))
abbrev kiV (k : Ki) : VV := .agg [vi k.lo, vi k.hi, vb k.water, intsV k.away, vi k.rent, vi k.most]
abbrev hallV (h : Ha) : VV := .agg [vi h.wide, vi h.deep, plsV h.water, plsV h.shut, vi h.bay.x, vi h.bay.y, intsV h.bears, kisV h.kinds]
theorem own_ret1 {T : Tab} {f : Nat} {fn : Func} {M : Mem} {L : List VObj} {e : Env} {t : Nat} {X : VV} (h1 : fn.results.toList = [.tmp t]) (hr : frz M.H.length (M.H ++ L) (get e t) = X) (h2 : refs X = []) : ownQ T f fn M (fun r M' => M' = M ∧ r = X) .ret e ⟨M.H ++ L, M.lg⟩ [] :=
 own_ret (vs := [get e t]) (by rw [h1]; rfl) hr h2 ⟨rfl, rfl⟩
theorem own_ret10 {T : Tab} {f : Nat} {fn : Func} {M : Mem} {e : Env} {t : Nat} {X : VV} (h1 : fn.results.toList = [.tmp t]) (hr : frz M.H.length M.H (get e t) = X) (h2 : refs X = []) : ownQ T f fn M (fun r M' => M' = M ∧ r = X) .ret e M [] :=
 own_ret0 (vs := [get e t]) (by rw [h1]; rfl) hr h2 ⟨rfl, rfl⟩
theorem idx_nat (n : Nat) : idx (vi (n : Int)) = some n := by
 have : (0 : Int) ≤ (n : Int) := Int.natCast_nonneg n
 simp [idx, this]
theorem idx_nn (a : Int) (h : 0 ≤ a) : idx (vi a) = some a.toNat := by simp [idx, h]
theorem map_at {α β : Type} {f : α → β} {l : List α} {i : Nat} {x : α} (h : l[i]? = some x) : (l.map f)[i]? = some (f x) := by simp [h]
theorem assoc_set (ks k2 : List Int) (v : VV) : ∀ es, assoc k2 (assocSet ks v es) = if ks = k2 then some v else assoc k2 es
 | [] => by
  simp only [assocSet, assoc]
  by_cases h : ks = k2 <;> simp [h]
 | (k, u) :: r => by
  simp only [assocSet, assoc]
  by_cases h : k = ks
  ·subst h
   simp only [decide_true, cond_true, assoc]
   by_cases h2 : k = k2 <;> simp [h2]
  ·simp only [decide_eq_false h, cond_false, assoc, assoc_set ks k2 v r]
   by_cases h2 : k = k2
   ·subst h2
    have : ¬ ks = k := fun e => h e.symm
    simp [this]
   ·simp [h2]
def Sub : Env → Env → Prop
 | [], _ => True
 | (k, v) :: r, e => get e k = v ∧ Sub r e
theorem Sub.ok : ∀ {E e : Env}, Sub E e → ∀ t, get E t = get e t ∨ get E t = .any
 | [], _, _, _ => .inr rfl
 | (k, v) :: r, e, h, t => by
  rw [get_cons]
  by_cases ht : t = k
  ·rw [if_pos ht, ht]; exact .inl h.1.symm
  ·rw [if_neg ht]; exact Sub.ok h.2 t
def LoopK {σ : Type} (E : σ → Env) (N : σ → Mem) (m : σ → Nat) (good : σ → Prop) (D : List Nat) (s : σ) (e' : Env) (M' : Mem) (D' : List Nat) : Prop := D' = D ∧ ∃ s', m s' < m s ∧ good s' ∧ Sub (E s') e' ∧ M' = N s'
theorem LoopK.mk {σ : Type} {E : σ → Env} {N : σ → Mem} {m : σ → Nat} {good : σ → Prop} {D : List Nat} {s : σ} {e' : Env} {M' : Mem} (s' : σ) (h1 : m s' < m s) (h2 : good s') (h3 : Sub (E s') e') (h4 : M' = N s') : LoopK E N m good D s e' M' D := ⟨rfl, s', h1, h2, h3, h4⟩
theorem W_loopS {σ : Type} {P : Program} {cx : Cx} {e : Env} {M : Mem} {D : List Nat} {Q : PQ} {c : Code} (E : σ → Env) (N : σ → Mem) (m : σ → Nat) (good : σ → Prop) (s0 : σ) (h0 : good s0) (hE : Sub (E s0) e) (hM : M = N s0)
  (round : ∀ s, good s → WCode P cx c (E s) (N s) D (thenQ (LoopK E N m good D s) Q)) : WCode P cx (.loop c) e M D Q := by
 refine W_loop (fun n e M D' => ∃ s, n = m s ∧ good s ∧ Sub (E s) e ∧ M = N s ∧ D' = D) (n := m s0) ⟨s0, rfl, h0, hE, hM, rfl⟩ ?_
 rintro n e M D' ⟨s, rfl, hg, hS, rfl, rfl⟩
 refine (WCode.weak (round s hg) hS.ok).mono ?_
 rintro ex e' M' D1 h
 cases ex <;> first | exact h | skip
 obtain ⟨rfl, s', h1, h2, h3, h4⟩ := h
 exact ⟨m s', h1, s', rfl, h2, h3, h4, rfl⟩
theorem W_drawP {P : Program} {T : Tab} (hT : TabOk P T) {cx : Cx} {e : Env} {M : Mem} {D : List Nat} {Q : PQ} {id : Nat} {ops : Array Oper} (zs : List VObj) (hz : zerosOf T ops.toList = some zs) (hp : planOk ops (mkPlan ops) = true)
  (h : WDraw P T cx.nt ops ops.toList (mkPlan ops) e M.H.length { M with H := M.H ++ zs } [] [] fun e' M' => Q .normal e' M' D) : WCode P cx (.region id ops true) e M D Q := W_draw0 hT hp hz h
theorem arr_get {α : Type} (l : List α) (i : Nat) : (Array.mk l)[i]? = l[i]? := by simp
theorem app_get {H : List VObj} {i : Nat} {o : VObj} (h : H[i]? = some o) (L : List VObj) : (H ++ L)[i]? = some o := by
 rw [List.getElem?_append_left (List.getElem?_eq_some_iff.1 h).1, h]
theorem veq2 (a b c d : Int) : veqCells [vi a, vi b] [vi c, vi d] = some (decide (a = c) && (decide (b = d) && true)) := rfl
theorem v_eqCell (a b : Pl) : vbin T .eql 24 (plV a) (plV b) = some (vb (decide (a = b))) := by
 simp only [vbin, t_cell, veq2]
 cases a; cases b
 rename_i a b c d
 by_cases h1 : a = c <;> by_cases h2 : b = d <;> simp [h1, h2]
theorem v_neCell (a b : Pl) : vbin T .neq 24 (plV a) (plV b) = some (vb (!decide (a = b))) := by
 simp only [vbin, t_cell, veq2]
 cases a; cases b
 rename_i a b c d
 by_cases h1 : a = c <;> by_cases h2 : b = d <;> simp [h1, h2]
theorem v_eqSpan (a b : Sp) : vbin T .eql 51 (spV a) (spV b) = some (vb (decide (a = b))) := by
 simp only [vbin, t_span, veq2]
 cases a; cases b
 rename_i a b c d
 by_cases h1 : a = c <;> by_cases h2 : b = d <;> simp [h1, h2]
theorem veq3 (a b e c d f : Int) : veqCells [vi a, vi b, vi e] [vi c, vi d, vi f] = some (decide (a = c) && (decide (b = d) && (decide (e = f) && true))) := rfl
theorem v_eqPut (a b : Pu) : vbin T .eql 37 (puV a) (puV b) = some (vb (decide (a = b))) := by
 simp only [vbin, t_put, veq3]
 obtain ⟨⟨a, c⟩, k⟩ := a
 obtain ⟨⟨b, d⟩, l⟩ := b
 by_cases h1 : a = b <;> by_cases h2 : c = d <;> by_cases h3 : k = l <;> simp [h1, h2, h3]
theorem fn_call {f : Nat} {fn : Func} {args : List VV} {M : Mem} {Q : VV → Mem → Prop} (hf : T.fn f = some fn) (hk : T.keeps f = false) (h : VC Tryd.prog f (args.map strip1) M Q) : VCall Tryd.prog (.fn (.func f) [] []) args M Q :=
 VCall_fn T_ok hf (by
  have : (sarg T f) = strip1 := funext fun v => by simp [sarg, hk]
  simpa [this] using h)
theorem call_eq {f : Nat} {fn : Func} {args : List VV} {M M1 : Mem} {v : VV} (hf : T.fn f = some fn) (hk : T.keeps f = false) (h : VC Tryd.prog f (args.map strip1) M (fun r M' => M' = M1 ∧ r = v)) {Q : VV → Mem → Prop} (hq : Q v M1) : VCall Tryd.prog (.fn (.func f) [] []) args M Q :=
 (fn_call hf hk h).mono fun r M' e => by obtain ⟨rfl, rfl⟩ := e; exact hq
theorem call_d {f : Nat} {fn : Func} {args : List VV} {M M1 : Mem} {v : VV} (hf : T.fn f = some fn) (hk : T.keeps f = false) (h : VC Tryd.prog f (args.map strip1) M (fun r M' => M' = M1 ∧ r = v)) {R : VV → Mem → Prop} (hq : R v M1) : DCallK Tryd.prog (.fn (.func f) [] []) args M R :=
 ⟨v, M1, call_eq hf hk h ⟨rfl, rfl⟩, hq⟩
theorem take_map {α β : Type} (f : α → β) (l : List α) (i : Nat) : (l.map f).take i = (l.take i).map f := List.map_take.symm
theorem drop_map {α β : Type} (f : α → β) (l : List α) (i : Nat) : (l.map f).drop i = (l.drop i).map f := List.map_drop.symm
theorem t_own (t : Nat) : T.own t = false ∧ ∀ n, T.ownS t n = false := ⟨rfl, fun _ => rfl⟩
theorem VL : type_of% (And.intro (@t_own) (And.intro (@S_move) (And.intro (@S_assign) (And.intro (@S_bin) (And.intro (@S_un) (And.intro (@S_guard) (And.intro (@S_pick) (And.intro (@S_nil) (And.intro (@S_box) (And.intro (@S_field) (And.intro (@S_load) (And.intro (@S_store) (And.intro (@S_indexAddr) (And.intro (@S_index) (And.intro (@S_len) (And.intro (@S_append) (And.intro (@S_slice) (And.intro (@S_lookup) (And.intro (@S_build) (And.intro (@S_buildSlice) (And.intro (@S_extract) (And.intro (@S_nilCheck) (And.intro (@S_makeSlice) (And.intro (@S_makeFunc) (And.intro (@S_convert) (And.intro (@S_call) (And.intro (@S_allocT) (And.intro (@S_mapUpdate) (And.intro (@S_makeMap) (And.intro (@S_max) (And.intro (@S_min) (And.intro (@Put_some) (And.intro (@PutM_some) (And.intro (@Then_app) (And.intro (@D_move) (And.intro (@D_assign) (And.intro (@D_bin) (And.intro (@D_un) (And.intro (@D_pick) (And.intro (@D_nil) (And.intro (@D_box) (And.intro (@D_field) (And.intro (@D_load) (And.intro (@D_store) (And.intro (@D_indexAddr) (And.intro (@D_index) (And.intro (@D_len) (And.intro (@D_append) (And.intro (@D_slice) (And.intro (@D_lookup) (And.intro (@D_build) (And.intro (@D_buildSlice) (And.intro (@D_extract) (And.intro (@D_nilCheck) (And.intro (@D_makeSlice) (And.intro (@D_makeFunc) (And.intro (@D_convert) (And.intro (@D_call) (And.intro (@D_mapUpdate) (And.intro (@D_makeMap) (And.intro (@D_max1) (And.intro (@D_min1) (And.intro (@DPut_some) (And.intro (@DRead_some) (And.intro (@DThen_app) (And.intro (@DPutM_some) (And.intro (@DStore_some) (And.intro (@get_cons) (And.intro (@v_lss) (And.intro (@v_gtr) (And.intro (@v_leq) (And.intro (@v_geq) (And.intro (@v_eql) (And.intro (@v_neq) (And.intro (@v_add) (And.intro (@v_sub) (And.intro (@v_mul) (And.intro (@v_quo) (And.intro (@v_not) (And.intro (@v_max2) (And.intro (@v_min2) (And.intro (@v_eqCell) (And.intro (@v_eqPut) (And.intro (@v_eqSpan) (And.intro (@v_neCell) (And.intro (@idx_nat) (And.intro (@idx_nn) (And.intro (@push_eq) (And.intro (@hget) (And.intro (@hget0) (And.intro (@hset) (And.intro (@hset0) (And.intro (@addLg_nil) (And.intro (@t_int) (And.intro (@t_bool) (And.intro (@t_errno) (And.intro (@t_cell) (And.intro (@t_span) (And.intro (@t_put) (And.intro (@t_kind) (And.intro (@t_hall) (And.intro (@t_layout) (And.intro (@t_ints) (And.intro (@t_cells) (And.intro (@t_spans) (And.intro (@t_puts) (And.intro (@t_kinds) (And.intro (@t_funcs) (And.intro (@t_row) (And.intro (@t_floor) (And.intro (@t_floor0) (And.intro (@t_cmap) (And.intro (@t_imap) (And.intro (@t_u64) (And.intro (@t_uint) (And.intro (@t_err) (And.intro (@t_try) (And.intro (@t_playout) (And.intro (@t_u8) (And.intro (@t_str) (And.intro (@t_error) (And.intro (@t_build) (And.intro (@t_frow) (And.intro (@t_texts) (And.intro (@List.isEmpty_nil.{0}) (And.intro (@List.isEmpty_cons.{0}) (And.intro (@Bool.or_true) (And.intro (@Bool.true_or) (And.intro (@Bool.or_false) (And.intro (@Bool.false_or) (And.intro (@arr_get) (And.intro (@Int.toNat_natCast) (And.intro (@Int.le_refl) (And.intro (@List.getElem?_toArray.{0}) (And.intro (@List.getElem?_cons_zero.{0}) (And.intro (@List.getElem?_cons_succ.{0}) (And.intro (@List.getElem?_nil.{0}) (And.intro (@List.map_cons.{0, 0}) (And.intro (@List.map_nil.{0, 0}) (And.intro (@List.all_cons.{0}) (And.intro (@List.all_nil.{0}) (And.intro (@List.length_cons.{0}) (And.intro (@List.length_nil.{0}) (And.intro (@List.length_append.{0}) (And.intro (@List.length_map.{0, 0}) (And.intro (@List.drop_zero.{0}) (And.intro (@List.drop_succ_cons.{0}) (And.intro (@List.take_succ_cons.{0}) (And.intro (@List.take_zero.{0}) (And.intro (@List.take_nil.{0}) (And.intro (@List.drop_nil.{0}) (And.intro (@List.cons_append.{0}) (And.intro (@List.nil_append.{0}) (And.intro (@List.append_nil.{0}) (And.intro (@List.append_assoc.{0}) (And.intro (@List.set_cons_zero.{0}) (And.intro (@List.set_cons_succ.{0}) (And.intro (@Option.bind_some.{0, 0}) (And.intro (@Option.bind_none.{0, 0}) (And.intro (@Option.map_some.{0, 0}) (And.intro (@Option.map_none.{0, 0}) (And.intro (@Option.some.injEq.{0}) (And.intro (@Prod.mk.injEq.{0, 0}) (And.intro (@Bool.and_true) (And.intro (@Bool.true_and) (And.intro (@Bool.and_false) (And.intro (@Bool.false_and) (And.intro (@and_true) (And.intro (@true_and) (And.intro (@and_false) (And.intro (@false_and) (And.intro (@Bool.not_true) (And.intro (@Bool.not_false) (And.intro (@Nat.mul_one) (And.intro (@Nat.add_zero) (And.intro (@Nat.zero_add) (And.intro (@Nat.add_assoc) (And.intro (@Nat.lt_add_one) (And.intro (@Nat.zero_lt_succ) (And.intro (@Bool.true_eq_false) (And.intro (@Bool.false_eq_true) (And.intro (@not_true) (And.intro (@not_false_eq_true) (And.intro (@beq_true) (And.intro (@_root_.beq_false) (And.intro (@nat_blt) (And.intro (@nat_ble) (And.intro (@nat_beq) (And.intro (@decide_true) (And.intro (@decide_false) (And.intro (@Nat.le_refl) (And.intro (@Nat.zero_le) (And.intro (@List.toList_toArray.{0}) (And.intro (@vload.eq_def) (And.intro (@vstore.eq_def) (And.intro (@vfieldAddr.eq_def) (And.intro (@vindexAddr.eq_def) (And.intro (@vlen.eq_def) (And.intro (@vindex.eq_def) (And.intro (@vbuild.eq_def) (And.intro (@vmakeSlice.eq_def) (And.intro (@vbuildSlice.eq_def) (And.intro (@vslice.eq_def) (And.intro (@vlookup.eq_def) (And.intro (@vmapUpdate.eq_def) (And.intro (@gdB.eq_def) (And.intro (@funcV.eq_def) (And.intro (@boxV.eq_def) (And.intro (@mapV.eq_def) (And.intro (@splice.eq_def) (And.intro (@placesOf.eq_def) (And.intro (@fits.eq_def) (And.intro (@shOf.eq_def) (And.intro (@zeroV.eq_def) (And.intro (@D_allocT) (And.intro (@DAl_some) (And.intro (@take_map) (And.intro (@drop_map) (And.intro (@vbinK_int) (And.intro (@vbinK_bool) (And.intro (@vbinK_str) (@vbinK_agg)))))))))))))))))))))))))))))))))))))))))))))))))))))))))))))))))))))))))))))))))))))))))))))))))))))))))))))))))))))))))))))))))))))))))))))))))))))))))))))))))))))))))))))))))))))))))))))))))))))))))))))))))))))))))))))) := (And.intro (@t_own) (And.intro (@S_move) (And.intro (@S_assign) (And.intro (@S_bin) (And.intro (@S_un) (And.intro (@S_guard) (And.intro (@S_pick) (And.intro (@S_nil) (And.intro (@S_box) (And.intro (@S_field) (And.intro (@S_load) (And.intro (@S_store) (And.intro (@S_indexAddr) (And.intro (@S_index) (And.intro (@S_len) (And.intro (@S_append) (And.intro (@S_slice) (And.intro (@S_lookup) (And.intro (@S_build) (And.intro (@S_buildSlice) (And.intro (@S_extract) (And.intro (@S_nilCheck) (And.intro (@S_makeSlice) (And.intro (@S_makeFunc) (And.intro (@S_convert) (And.intro (@S_call) (And.intro (@S_allocT) (And.intro (@S_mapUpdate) (And.intro (@S_makeMap) (And.intro (@S_max) (And.intro (@S_min) (And.intro (@Put_some) (And.intro (@PutM_some) (And.intro (@Then_app) (And.intro (@D_move) (And.intro (@D_assign) (And.intro (@D_bin) (And.intro (@D_un) (And.intro (@D_pick) (And.intro (@D_nil) (And.intro (@D_box) (And.intro (@D_field) (And.intro (@D_load) (And.intro (@D_store) (And.intro (@D_indexAddr) (And.intro (@D_index) (And.intro (@D_len) (And.intro (@D_append) (And.intro (@D_slice) (And.intro (@D_lookup) (And.intro (@D_build) (And.intro (@D_buildSlice) (And.intro (@D_extract) (And.intro (@D_nilCheck) (And.intro (@D_makeSlice) (And.intro (@D_makeFunc) (And.intro (@D_convert) (And.intro (@D_call) (And.intro (@D_mapUpdate) (And.intro (@D_makeMap) (And.intro (@D_max1) (And.intro (@D_min1) (And.intro (@DPut_some) (And.intro (@DRead_some) (And.intro (@DThen_app) (And.intro (@DPutM_some) (And.intro (@DStore_some) (And.intro (@get_cons) (And.intro (@v_lss) (And.intro (@v_gtr) (And.intro (@v_leq) (And.intro (@v_geq) (And.intro (@v_eql) (And.intro (@v_neq) (And.intro (@v_add) (And.intro (@v_sub) (And.intro (@v_mul) (And.intro (@v_quo) (And.intro (@v_not) (And.intro (@v_max2) (And.intro (@v_min2) (And.intro (@v_eqCell) (And.intro (@v_eqPut) (And.intro (@v_eqSpan) (And.intro (@v_neCell) (And.intro (@idx_nat) (And.intro (@idx_nn) (And.intro (@push_eq) (And.intro (@hget) (And.intro (@hget0) (And.intro (@hset) (And.intro (@hset0) (And.intro (@addLg_nil) (And.intro (@t_int) (And.intro (@t_bool) (And.intro (@t_errno) (And.intro (@t_cell) (And.intro (@t_span) (And.intro (@t_put) (And.intro (@t_kind) (And.intro (@t_hall) (And.intro (@t_layout) (And.intro (@t_ints) (And.intro (@t_cells) (And.intro (@t_spans) (And.intro (@t_puts) (And.intro (@t_kinds) (And.intro (@t_funcs) (And.intro (@t_row) (And.intro (@t_floor) (And.intro (@t_floor0) (And.intro (@t_cmap) (And.intro (@t_imap) (And.intro (@t_u64) (And.intro (@t_uint) (And.intro (@t_err) (And.intro (@t_try) (And.intro (@t_playout) (And.intro (@t_u8) (And.intro (@t_str) (And.intro (@t_error) (And.intro (@t_build) (And.intro (@t_frow) (And.intro (@t_texts) (And.intro (@List.isEmpty_nil.{0}) (And.intro (@List.isEmpty_cons.{0}) (And.intro (@Bool.or_true) (And.intro (@Bool.true_or) (And.intro (@Bool.or_false) (And.intro (@Bool.false_or) (And.intro (@arr_get) (And.intro (@Int.toNat_natCast) (And.intro (@Int.le_refl) (And.intro (@List.getElem?_toArray.{0}) (And.intro (@List.getElem?_cons_zero.{0}) (And.intro (@List.getElem?_cons_succ.{0}) (And.intro (@List.getElem?_nil.{0}) (And.intro (@List.map_cons.{0, 0}) (And.intro (@List.map_nil.{0, 0}) (And.intro (@List.all_cons.{0}) (And.intro (@List.all_nil.{0}) (And.intro (@List.length_cons.{0}) (And.intro (@List.length_nil.{0}) (And.intro (@List.length_append.{0}) (And.intro (@List.length_map.{0, 0}) (And.intro (@List.drop_zero.{0}) (And.intro (@List.drop_succ_cons.{0}) (And.intro (@List.take_succ_cons.{0}) (And.intro (@List.take_zero.{0}) (And.intro (@List.take_nil.{0}) (And.intro (@List.drop_nil.{0}) (And.intro (@List.cons_append.{0}) (And.intro (@List.nil_append.{0}) (And.intro (@List.append_nil.{0}) (And.intro (@List.append_assoc.{0}) (And.intro (@List.set_cons_zero.{0}) (And.intro (@List.set_cons_succ.{0}) (And.intro (@Option.bind_some.{0, 0}) (And.intro (@Option.bind_none.{0, 0}) (And.intro (@Option.map_some.{0, 0}) (And.intro (@Option.map_none.{0, 0}) (And.intro (@Option.some.injEq.{0}) (And.intro (@Prod.mk.injEq.{0, 0}) (And.intro (@Bool.and_true) (And.intro (@Bool.true_and) (And.intro (@Bool.and_false) (And.intro (@Bool.false_and) (And.intro (@and_true) (And.intro (@true_and) (And.intro (@and_false) (And.intro (@false_and) (And.intro (@Bool.not_true) (And.intro (@Bool.not_false) (And.intro (@Nat.mul_one) (And.intro (@Nat.add_zero) (And.intro (@Nat.zero_add) (And.intro (@Nat.add_assoc) (And.intro (@Nat.lt_add_one) (And.intro (@Nat.zero_lt_succ) (And.intro (@Bool.true_eq_false) (And.intro (@Bool.false_eq_true) (And.intro (@not_true) (And.intro (@not_false_eq_true) (And.intro (@beq_true) (And.intro (@_root_.beq_false) (And.intro (@nat_blt) (And.intro (@nat_ble) (And.intro (@nat_beq) (And.intro (@decide_true) (And.intro (@decide_false) (And.intro (@Nat.le_refl) (And.intro (@Nat.zero_le) (And.intro (@List.toList_toArray.{0}) (And.intro (@vload.eq_def) (And.intro (@vstore.eq_def) (And.intro (@vfieldAddr.eq_def) (And.intro (@vindexAddr.eq_def) (And.intro (@vlen.eq_def) (And.intro (@vindex.eq_def) (And.intro (@vbuild.eq_def) (And.intro (@vmakeSlice.eq_def) (And.intro (@vbuildSlice.eq_def) (And.intro (@vslice.eq_def) (And.intro (@vlookup.eq_def) (And.intro (@vmapUpdate.eq_def) (And.intro (@gdB.eq_def) (And.intro (@funcV.eq_def) (And.intro (@boxV.eq_def) (And.intro (@mapV.eq_def) (And.intro (@splice.eq_def) (And.intro (@placesOf.eq_def) (And.intro (@fits.eq_def) (And.intro (@shOf.eq_def) (And.intro (@zeroV.eq_def) (And.intro (@D_allocT) (And.intro (@DAl_some) (And.intro (@take_map) (And.intro (@drop_map) (And.intro (@vbinK_int) (And.intro (@vbinK_bool) (And.intro (@vbinK_str) (@vbinK_agg))))))))))))))))))))))))))))))))))))))))))))))))))))))))))))))))))))))))))))))))))))))))))))))))))))))))))))))))))))))))))))))))))))))))))))))))))))))))))))))))))))))))))))))))))))))))))))))))))))))))))))))))))))))))))))))
theorem VM : type_of% (And.intro (@vappend.eq_1) (And.intro (@ev.eq_1) (And.intro (@ev.eq_2) (And.intro (@ev.eq_3) (And.intro (@ev.eq_4) (And.intro (@ofValue.eq_1) (And.intro (@ofValue.eq_2) (And.intro (@ofValue.eq_3) (And.intro (@ofValue.eq_4) (And.intro (@ofValue.eq_5) (And.intro (@ofValue.eq_6) (And.intro (@ofValue.eq_7) (And.intro (@ofValue.eq_8) (And.intro (@ofValue.eq_9) (And.intro (@ofValue.eq_10) (And.intro (@zipEnv.eq_1) (And.intro (@zipEnv.eq_2) (And.intro (@thenQ.eq_1) (And.intro (@thenQ.eq_2) (And.intro (@blockQ.eq_1) (And.intro (@blockQ.eq_2) (And.intro (@vfill.eq_1) (And.intro (@vfill.eq_2) (And.intro (@inOrder.eq_1) (And.intro (@inOrder.eq_2) (And.intro (@toPss.eq_1) (And.intro (@toPss.eq_2) (And.intro (@toPs.eq_1) (And.intro (@toPs.eq_2) (And.intro (@toP.eq_1) (And.intro (@toP.eq_2) (And.intro (@toP.eq_3) (And.intro (@toP.eq_4) (And.intro (@obound.eq_1) (And.intro (@obound.eq_2) (And.intro (@keyOf.eq_1) (And.intro (@keyOf.eq_2) (And.intro (@keyOf.eq_3) (And.intro (@cellInts.eq_1) (And.intro (@cellInts.eq_2) (And.intro (@cellInts.eq_3) (And.intro (@elemsOf.eq_1) (And.intro (@elemsOf.eq_2) (And.intro (@elemsOf.eq_3) (And.intro (@elemsOf.eq_4) (And.intro (@nilV.eq_1) (And.intro (@nilV.eq_2) (And.intro (@nilV.eq_3) (And.intro (@nilV.eq_4) (And.intro (@extV.eq_1) (And.intro (@extV.eq_2) (And.intro (@pickV.eq_1) (And.intro (@pickV.eq_2) (And.intro (@refs.eq_1) (And.intro (@refs.eq_2) (And.intro (@refs.eq_3) (And.intro (@refs.eq_4) (And.intro (@refs.eq_5) (And.intro (@refs.eq_6) (And.intro (@refs.eq_7) (And.intro (@refs.eq_8) (And.intro (@refs.eq_9) (And.intro (@refs.eq_10) (And.intro (@refs.eq_11) (And.intro (@refs.eq_12) (And.intro (@refsL.eq_1) (And.intro (@refsL.eq_2) (And.intro (@isCell.eq_1) (And.intro (@isCell.eq_2) (And.intro (@isCell.eq_3) (And.intro (@isCell.eq_4) (And.intro (@cellsOf.eq_1) (And.intro (@cellsOf.eq_2) (And.intro (@strip1.eq_1) (And.intro (@strip1.eq_2) (And.intro (@strip1.eq_3) (And.intro (@gdV.eq_1) (And.intro (@gdV.eq_2) (And.intro (@gdV.eq_3) (And.intro (@pdOk.eq_1) (And.intro (@pdOk.eq_2) (And.intro (@pdPush.eq_1) (And.intro (@pdPush.eq_2) (And.intro (@pdTick.eq_1) (And.intro (@pdTick.eq_2) (And.intro (@pdTick.eq_3) (And.intro (@pdTick.eq_4) (And.intro (@Back.eq_1) (And.intro (@Back.eq_2) (And.intro (@Back.eq_3) (And.intro (@cond_true.{1}) (And.intro (@cond_false.{1}) (And.intro (@if_true.{1}) (And.intro (@if_true.{0}) (And.intro (@if_false.{1}) (And.intro (@if_false.{0}) (@forall_const.{0}))))))))))))))))))))))))))))))))))))))))))))))))))))))))))))))))))))))))))))))))))))))))))))))))) := And.intro (@vappend.eq_1) (And.intro (@ev.eq_1) (And.intro (@ev.eq_2) (And.intro (@ev.eq_3) (And.intro (@ev.eq_4) (And.intro (@ofValue.eq_1) (And.intro (@ofValue.eq_2) (And.intro (@ofValue.eq_3) (And.intro (@ofValue.eq_4) (And.intro (@ofValue.eq_5) (And.intro (@ofValue.eq_6) (And.intro (@ofValue.eq_7) (And.intro (@ofValue.eq_8) (And.intro (@ofValue.eq_9) (And.intro (@ofValue.eq_10) (And.intro (@zipEnv.eq_1) (And.intro (@zipEnv.eq_2) (And.intro (@thenQ.eq_1) (And.intro (@thenQ.eq_2) (And.intro (@blockQ.eq_1) (And.intro (@blockQ.eq_2) (And.intro (@vfill.eq_1) (And.intro (@vfill.eq_2) (And.intro (@inOrder.eq_1) (And.intro (@inOrder.eq_2) (And.intro (@toPss.eq_1) (And.intro (@toPss.eq_2) (And.intro (@toPs.eq_1) (And.intro (@toPs.eq_2) (And.intro (@toP.eq_1) (And.intro (@toP.eq_2) (And.intro (@toP.eq_3) (And.intro (@toP.eq_4) (And.intro (@obound.eq_1) (And.intro (@obound.eq_2) (And.intro (@keyOf.eq_1) (And.intro (@keyOf.eq_2) (And.intro (@keyOf.eq_3) (And.intro (@cellInts.eq_1) (And.intro (@cellInts.eq_2) (And.intro (@cellInts.eq_3) (And.intro (@elemsOf.eq_1) (And.intro (@elemsOf.eq_2) (And.intro (@elemsOf.eq_3) (And.intro (@elemsOf.eq_4) (And.intro (@nilV.eq_1) (And.intro (@nilV.eq_2) (And.intro (@nilV.eq_3) (And.intro (@nilV.eq_4) (And.intro (@extV.eq_1) (And.intro (@extV.eq_2) (And.intro (@pickV.eq_1) (And.intro (@pickV.eq_2) (And.intro (@refs.eq_1) (And.intro (@refs.eq_2) (And.intro (@refs.eq_3) (And.intro (@refs.eq_4) (And.intro (@refs.eq_5) (And.intro (@refs.eq_6) (And.intro (@refs.eq_7) (And.intro (@refs.eq_8) (And.intro (@refs.eq_9) (And.intro (@refs.eq_10) (And.intro (@refs.eq_11) (And.intro (@refs.eq_12) (And.intro (@refsL.eq_1) (And.intro (@refsL.eq_2) (And.intro (@isCell.eq_1) (And.intro (@isCell.eq_2) (And.intro (@isCell.eq_3) (And.intro (@isCell.eq_4) (And.intro (@cellsOf.eq_1) (And.intro (@cellsOf.eq_2) (And.intro (@strip1.eq_1) (And.intro (@strip1.eq_2) (And.intro (@strip1.eq_3) (And.intro (@gdV.eq_1) (And.intro (@gdV.eq_2) (And.intro (@gdV.eq_3) (And.intro (@pdOk.eq_1) (And.intro (@pdOk.eq_2) (And.intro (@pdPush.eq_1) (And.intro (@pdPush.eq_2) (And.intro (@pdTick.eq_1) (And.intro (@pdTick.eq_2) (And.intro (@pdTick.eq_3) (And.intro (@pdTick.eq_4) (And.intro (@Back.eq_1) (And.intro (@Back.eq_2) (And.intro (@Back.eq_3) (And.intro (@cond_true.{1}) (And.intro (@cond_false.{1}) (And.intro (@if_true.{1}) (And.intro (@if_true.{0}) (And.intro (@if_false.{1}) (And.intro (@if_false.{0}) (@forall_const.{0}))))))))))))))))))))))))))))))))))))))))))))))))))))))))))))))))))))))))))))))))))))))))))))))))
end Go.Proofs.YtnjgdlmddlinaaaDoor.Vm

/- A law that answers true on values holds as its row says. (Vm) -/
namespace Go.Proofs.YtnjgdlmddlinaaaDoor.Vm
open Go Go.Proofs Go.ChangeShapes Go.WideShapes Go.ChangeAt Go.RowKit
theorem law_own : ownKnob Tryd.prog.godebug = none := by kernel_rfl
theorem law_laid : laidOutB Tryd.prog = true := by kernel_rfl
theorem law_run {f : Nat} {W : World} {args : Array Value} {vs : List VV} (hlz : Lz W.heap.size W (fun _ => False)) (ha : PW (RepV W (fun _ => none) []) args.toList vs) (hc : ∀ a ∈ vs, refs a = []) (hv : VC Tryd.prog f vs ⟨[], []⟩ (fun r M' => M' = ⟨[], []⟩ ∧ r = vb true)) :
  Calls Tryd.prog f args W fun e w' => e = .returned (.bool true) ∧ Below W.heap.size W w' := by
 have hI0 : Inv ⟨W.heap.size, W, fun _ => False, hlz⟩ W (fun _ => none) ⟨[], []⟩ := ⟨rfl, rfl, rfl, Nat.le_refl _, Nat.le_refl _, fun _ _ _ => rfl, fun i j b hi => by simp at hi, fun i b hi => by simp at hi, fun i o hi => by simp at hi, fun i o hi => by simp at hi, fun e he => by simp at he, fun i L hi => by simp at hi⟩
 refine (callsIn_wide.1 (hv _ W _ args hI0 ⟨ha, fun a h r hr => by rw [hc a h] at hr; cases hr⟩)).mono ?_
 rintro e w' ⟨rv, r, K', M', rfl, ⟨rfl, rfl⟩, hr, hcl, hE, hI'⟩
 refine ⟨?_, hI'.os, hI'.tape, hI'.output, hI'.size, fun b hb => hI'.old b hb (fun h => h)⟩
 cases hr with
 | p _ _ hp => cases hp with
 | bool b => rfl
theorem trodAll_stays {H : Type} {enc : TypeId × Value → H} {W W' : World} (hb : Below W.heap.size W W') {sp : Nat → Bool} : ∀ {ts : List TypeId} {vs : List Value} {ds : List (DataW H)} {ps : List MemPlace}, (∀ t ∈ ts, Tryd.prog.readableRec t = true ∧ t < Tryd.prog.types.size) →
  DataW.TrodAll enc Tryd.prog W 0 (fun _ => true) true ts vs ds ps → (∀ p ∈ ps, p.block < W.heap.size) → (∀ p ∈ ps, sp p.block = true) → DataW.TrodAll enc Tryd.prog W' 0 sp true ts vs ds ps
 | [], vs, ds, ps, ht, h, hlt, hs => by
  obtain ⟨rfl, rfl, rfl⟩ := trodAll_nil h
  exact trodAll_mk0
 | t :: ts, vs, ds, ps, ht, h, hlt, hs => by
  obtain ⟨v, vs, d, ds, p, q, rfl, rfl, rfl, h0, h1⟩ := trodAll_cons h
  refine trodAll_cons_mk ?_ (trodAll_stays hb (fun u hu => ht u (List.mem_cons_of_mem _ hu)) h1 (fun x hx => hlt x (List.mem_append_right _ hx)) (fun x hx => hs x (List.mem_append_right _ hx)))
  exact WideElems.Trod_stays law_laid (ht t (List.mem_cons_self ..)).1 (ht t (List.mem_cons_self ..)).2 h0 (fun x hx => hb.same (hlt x (List.mem_append_left _ hx))) (fun x hx => hs x (List.mem_append_left _ hx))
set_option maxRecDepth 100000 in
theorem law_after {f : Func} {s : ChangeSpec} {H : Type} {enc : TypeId × Value → H} {W W' : World} {args : Array Value} {v : Value} {ds gs : List (DataW H)} {before pa pv : List MemPlace}
  (hW : DataW.Whole enc Tryd.prog f.params.toList s.vars false W args.toList ds gs before)
  (hres : ∀ (b : Nat) (sp : Nat → Bool) (hd : Bool), DataW.TrodAll enc Tryd.prog W' b sp hd f.resultTypes.toList (v.resultList f.resultTypes.size) (s.fn H (ds ++ gs)).results [])
  (hargs : ∀ sp : Nat → Bool, (∀ p ∈ before, sp p.block = true) → DataW.TrodAll enc Tryd.prog W' 0 sp true f.params.toList args.toList (s.fn H (ds ++ gs)).args pa)
  (hvars : ∀ sp : Nat → Bool, (∀ p ∈ before, sp p.block = true) → DataW.TrodVars enc Tryd.prog W' sp s.vars (s.fn H (ds ++ gs)).vars pv)
  (hps : before = pa ++ pv) (hb : Below W.heap.size W W')
  (hok : ∀ (j : Nat) (t : TypeId) (r : Value), f.resultTypes[j]? = some t → (v.resultList f.resultTypes.size)[j]? = some r → Value.okWide Tryd.prog W' .any 0 t r) :
  s.post enc Tryd.prog f false true false false W args v W' := by
 have hlt : ∀ p ∈ before, p.block < W.heap.size := fun p hp => by simpa using hW.lt p hp
 have hold : ∀ p ∈ before, (fun b => decide (b < W.heap.size)) p.block = true := fun p hp => by simpa using hlt p hp
 refine ⟨ds, gs, before, [], pa, pv, hW, hres _ _ _, hargs _ hold, hvars _ hold, World.keptBut_mono (fun p hp => ⟨hp, ?_⟩) (hb.frame (· ∈ before)), fun _ => ?_⟩
 ·rw [hps, List.mem_append] at hp
  exact Or.inr hp
 ·obtain ⟨_, _, _, _, _, hz, hn⟩ := hW
  refine ⟨hok, _, _, ([] ++ pa) ++ pv, ⟨[] ++ pa, pv, trodAll_append (hargs _ (fun _ _ => rfl)) (hres _ _ _), hvars _ (fun _ _ => rfl), rfl, ?_, ?_⟩, ?_⟩
  ·intro b off hp
   have hp' : MemPlace.cell b off ∈ before := by rw [hps]; simpa using hp
   rw [hb.frozen (p := ⟨b, off, none⟩) (hlt _ hp')]
   exact hz b off hp'
  ·intro ha
   have := hn ha
   rw [hps] at this
   simpa using this
  ·intro p hp _
   rw [hps]
   simpa using hp
set_option maxRecDepth 100000 in
theorem law_post {f : Nat} {fn : Func} {s : ChangeSpec} {H : Type} {enc : TypeId × Value → H} {W : World} {args : Array Value} {ds gs : List (DataW H)} {before : List MemPlace} (hvs : s.vars = [])
  (hs : (s.fn H ds).results = [.lit (.bool true)] ∧ (s.fn H ds).args = ds ∧ (s.fn H ds).vars = []) (hres : fn.resultTypes = #[4]) (hp : ∀ t ∈ fn.params.toList, Tryd.prog.readableRec t = true ∧ t < Tryd.prog.types.size)
  (hW : DataW.Whole enc Tryd.prog fn.params.toList s.vars false W args.toList ds gs before)
  (walk : Calls Tryd.prog f args W fun e w' => e = .returned (.bool true) ∧ Below W.heap.size W w') :
  Calls Tryd.prog f args W fun e W' => ∃ v, e = .returned v ∧ s.post enc Tryd.prog fn false true false false W args v W' := by
 have hW' := hW
 obtain ⟨p, q, hA0, hV, rfl, hfz, hnd⟩ := hW
 have hA : DataW.TrodAll enc Tryd.prog W 0 (fun _ => true) true fn.params.toList args.toList ds p := hA0
 rw [hvs] at hV
 obtain ⟨rfl, rfl⟩ := trodVars_none hV
 have hlt : ∀ x ∈ p, x.block < W.heap.size := fun x hx => by simpa using hW'.lt x (List.mem_append_left _ hx)
 refine walk.mono fun e W' ⟨he, hb⟩ => ⟨.bool true, he, ?_⟩
 refine law_after (pa := p) (pv := []) hW' ?_ ?_ ?_ rfl hb ?_
 ·intro b sp hd
  rw [List.append_nil, hs.1, hres]
  exact trodAll_cons_mk (shut_bool Tryd.underlying4 _) trodAll_mk0
 ·intro sp hsp
  rw [List.append_nil, hs.2.1]
  exact trodAll_stays hb hp hA hlt (fun x hx => hsp x (List.mem_append_left _ hx))
 ·intro sp hsp
  rw [List.append_nil, hs.2.2]
  generalize s.vars = vs at hvs
  subst hvs
  rfl
 ·exact ok_one hres rfl (okWide_bool_mk Tryd.underlying4 _)
/-! ### data that came in, as values -/
inductive ShL : List TypeId → List PV → Prop
 | nil : ShL [] []
 | int (t : TypeId) (k : IntKind) (n : Int) (ts : List TypeId) (xs : List PV) (ht : Tryd.prog.underlying t = some (.int k)) (hw : (Lit.int k n).wf = true) (h : ShL ts xs) : ShL (t :: ts) (.int k n :: xs)
 | bool (t : TypeId) (b : Bool) (ts : List TypeId) (xs : List PV) (ht : Tryd.prog.underlying t = some .bool) (h : ShL ts xs) : ShL (t :: ts) (.bool b :: xs)
 | str (t : TypeId) (s : ByteArray) (ts : List TypeId) (xs : List PV) (ht : Tryd.prog.underlying t = some .string) (hs : s.size ≤ maxLen) (h : ShL ts xs) : ShL (t :: ts) (.str s :: xs)
 | sl (t e : TypeId) (rows : List (List PV)) (ts : List TypeId) (xs : List PV) (ht : Tryd.prog.underlying t = some (.slice e)) (hl : rows.length ≤ maxLen) (hr : ∀ x ∈ rows, ShL [e] x) (h : ShL ts xs) : ShL (t :: ts) (.sl (Tryd.prog.cellsOf e) rows :: xs)
 | st (t : TypeId) (fs : Array Field) (ts : List TypeId) (xs : List PV) (ht : Tryd.prog.underlying t = some (.struct fs)) (h : ShL (fs.toList.map (·.type) ++ ts) xs) : ShL (t :: ts) xs
theorem ShL.append {a b : List TypeId} {xs ys : List PV} (h : ShL a xs) (h' : ShL b ys) : ShL (a ++ b) (xs ++ ys) := by
 induction h with
 | nil => exact h'
 | int t k n ts xs ht hw _ ih => exact .int t k n _ _ ht hw ih
 | bool t b ts xs ht _ ih => exact .bool t b _ _ ht ih
 | str t s ts xs ht hs _ ih => exact .str t s _ _ ht hs ih
 | sl t e rows ts xs ht hl hr _ _ ih => exact .sl t e rows _ _ ht hl hr ih
 | st t fs ts xs ht _ ih => exact .st t fs _ _ ht (by rw [List.append_assoc] at ih; exact ih)
def RepC (W : World) (cs : List Value) (xs : List PV) : Prop := xs.length = cs.length ∧ ∀ (i : Nat) v u, cs[i]? = some v → xs[i]? = some u → RepP W (Im (fun _ => none) []) v u
theorem RepC.one {W : World} {v : Value} {u : PV} (h : RepP W (Im (fun _ => none) []) v u) : RepC W [v] [u] := ⟨rfl, fun i v' u' h1 h2 => by
 match i, h1, h2 with
 | 0, h1, h2 => cases h1; cases h2; exact h
 | i + 1, h1, _ => simp at h1⟩
theorem RepC.append {W : World} {cs cs' : List Value} {xs xs' : List PV} (h : RepC W cs xs) (h' : RepC W cs' xs') : RepC W (cs ++ cs') (xs ++ xs') := ⟨by simp [h.1, h'.1], fun i v u h1 h2 => by
 rcases Nat.lt_or_ge i cs.length with hlt | hge
 ·rw [List.getElem?_append_left hlt] at h1
  rw [List.getElem?_append_left (by rw [h.1]; exact hlt)] at h2
  exact h.2 i v u h1 h2
 ·rw [List.getElem?_append_right hge] at h1
  rw [List.getElem?_append_right (by rw [h.1]; exact hge), h.1] at h2
  exact h'.2 _ v u h1 h2⟩
section
variable {H : Type} {enc : TypeId × Value → H} {W : World}
end
end Go.Proofs.YtnjgdlmddlinaaaDoor.Vm
