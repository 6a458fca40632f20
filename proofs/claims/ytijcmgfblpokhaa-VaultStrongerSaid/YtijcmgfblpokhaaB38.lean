/- A part of the proofs about the chapter of the vaults; it states no condition of its own. -/
import Derived.Test.YtijcmgfblpokhaaB34
import Derived.Test.YtijcmgfblpokhaaB36
import Derived.Test.YtijcmgfblpokhaaB37
set_option linter.unusedVariables false
set_option linter.unusedSimpArgs false
/- The machine on values at work: what its steps yield, for simp. -/
namespace Go.Proofs.Ytijcmgfblpokhaa.Vm
open Go Go.Proofs

section
variable (T : Tab) (t : Nat) (a b : Int)
theorem v_lss : vbin T .lss t (vi a) (vi b) = some (vb (decide (a < b))) := fbin_ok T .lss t a b _ (by
  simp only [fbin, leI_eq]
  congr 2
  by_cases h : b ≤ a
  · rw [decide_eq_true h, decide_eq_false (by omega)]; rfl
  · rw [decide_eq_false h, decide_eq_true (by omega)]; rfl)
theorem v_gtr : vbin T .gtr t (vi a) (vi b) = some (vb (decide (b < a))) := fbin_ok T .gtr t a b _ (by
  simp only [fbin, leI_eq]
  congr 2
  by_cases h : a ≤ b
  · rw [decide_eq_true h, decide_eq_false (by omega)]; rfl
  · rw [decide_eq_false h, decide_eq_true (by omega)]; rfl)
theorem v_leq : vbin T .leq t (vi a) (vi b) = some (vb (decide (a ≤ b))) := vbin_leq T t a b
theorem v_geq : vbin T .geq t (vi a) (vi b) = some (vb (decide (b ≤ a))) := vbin_geq T t a b
theorem v_eql : vbin T .eql t (vi a) (vi b) = some (vb (decide (a = b))) := fbin_ok T .eql t a b _ (by simp [fbin, eqI_eq])
theorem v_neq : vbin T .neq t (vi a) (vi b) = some (vb (!decide (a = b))) := fbin_ok T .neq t a b _ (by simp [fbin, eqI_eq])
theorem v_add (h : -9223372036854775808 ≤ a + b ∧ a + b < 9223372036854775808) : vbin T .add t (vi a) (vi b) = some (vi (a + b)) := fbin_ok T .add t a b _ (by
  simp only [fbin, wrap64_eq]; rw [IntWalk.i64_in _ (by omega)])
theorem v_sub (h : -9223372036854775808 ≤ a - b ∧ a - b < 9223372036854775808) : vbin T .sub t (vi a) (vi b) = some (vi (a - b)) := fbin_ok T .sub t a b _ (by
  simp only [fbin, wrap64_eq]; rw [IntWalk.i64_in _ (by omega)])
theorem v_mul (h : -9223372036854775808 ≤ a * b ∧ a * b < 9223372036854775808) : vbin T .mul t (vi a) (vi b) = some (vi (a * b)) := fbin_ok T .mul t a b _ (by
  simp only [fbin, wrap64_eq]; rw [IntWalk.i64_in _ (by omega)])
theorem v_quo (h : 0 ≤ a ∧ a < 9223372036854775808) (hb : 1 ≤ b) : vbin T .quo t (vi a) (vi b) = some (vi (a / b)) := by
  have h0 : ¬ b = 0 := by omega
  have h1 := IntWalk.i64_quo a b (by omega)
  have h2 : Go.binOp .quo 0 (.int .i64 a) (.int .i64 b) = .pure (.int .i64 (a / b)) := by
    show Op.intDiv .quo .i64 a b = _
    unfold Op.intDiv
    rw [if_neg (by simpa using h0)]
    simp only [h1]
    rfl
  simp only [vbin, h2, pureOf, Option.map_some, ofValue]
theorem v_max2 : vexts true (vi a) [vi b] = some (vi (max a b)) := by
  by_cases h : a < b
  · have h' : decide (b > a) = true := decide_eq_true h
    simp [vexts, vext, h', Int.max_eq_right (Int.le_of_lt h)]
  · have h' : decide (b > a) = false := decide_eq_false h
    simp [vexts, vext, h', Int.max_eq_left (by omega : b ≤ a)]
theorem v_min2 : vexts false (vi a) [vi b] = some (vi (min a b)) := by
  by_cases h : b < a
  · have h' : decide (b < a) = true := decide_eq_true h
    simp [vexts, vext, h', Int.min_eq_right (Int.le_of_lt h)]
  · have h' : decide (b < a) = false := decide_eq_false h
    simp [vexts, vext, h', Int.min_eq_left (by omega : a ≤ b)]
theorem v_not (x : Bool) : vun .not (vb x) = some (vb (!x)) := by cases x <;> rfl
end
theorem hget (H L : List VObj) (k : Nat) : (H ++ L)[H.length + k]? = L[k]? := by rw [List.getElem?_append_right (by omega)]; congr 1; omega
theorem hget0 (H L : List VObj) : (H ++ L)[H.length]? = L[0]? := hget H L 0
theorem hset (H L : List VObj) (k : Nat) (o : VObj) : (H ++ L).set (H.length + k) o = H ++ L.set k o := by rw [List.set_append_right _ _ (by omega)]; congr 2; omega
theorem hset0 (H L : List VObj) (o : VObj) : (H ++ L).set H.length o = H ++ L.set 0 o := hset H L 0 o
theorem push_eq (M : Mem) (o : VObj) : M.push o = ⟨M.H ++ [o], M.lg⟩ := rfl
theorem addLg_nil (id : Nat) (lg : List (Nat × Nat)) : addLg id [] lg = lg := rfl

theorem nat_blt (a b : Nat) : Nat.blt a b = decide (a < b) := by
  cases h : Nat.blt a b with
  | true => rw [Nat.blt_eq] at h; simp [h]
  | false =>
    have : ¬ a < b := fun h' => by rw [← Nat.blt_eq] at h'; rw [h'] at h; cases h
    simp [this]
theorem nat_ble (a b : Nat) : Nat.ble a b = decide (a ≤ b) := by
  cases h : Nat.ble a b with
  | true => rw [Nat.ble_eq] at h; simp [h]
  | false =>
    have : ¬ a ≤ b := fun h' => by rw [← Nat.ble_eq] at h'; rw [h'] at h; cases h
    simp [this]
theorem nat_beq (a b : Nat) : Nat.beq a b = decide (a = b) := by
  cases h : Nat.beq a b with
  | true => rw [Nat.beq_eq] at h; simp [h]
  | false =>
    have : ¬ a = b := fun h' => by rw [← Nat.beq_eq] at h'; rw [h'] at h; cases h
    simp [this]
/-- the end of a function that makes objects of its own and drops them -/
def ownQ (T : Tab) (f : Nat) (fn : Func) (M : Mem) (Q : VV → Mem → Prop) : PQ := fun ex e M' D => (ex = .normal ∨ ex = .ret) ∧ D = [] ∧ (∃ X, M'.lg = M.lg ++ X ∧ ∀ e ∈ X, M.H.length ≤ e.1) ∧ ∃ H1 L, M'.H = H1 ++ L ∧ H1.length = M.H.length ∧ ∃ vs, vresL T e M' fn.results.toList = some vs ∧ ∃ r, frz M.H.length M'.H (vtup vs) = r ∧ (∀ x ∈ refs r, x < M.H.length) ∧ Q r ⟨H1, M.lg⟩
theorem VC_own {P : Program} {T : Tab} (hT : TabOk P T) {f : Nat} {fn : Func} {c : Code} {args : List VV} {M : Mem} {Q : VV → Mem → Prop} (hf : T.fn f = some fn) (hb : fn.body = some c) (hn : args.length ≤ fn.ntmps) (hk : T.keeps f = false)
    (h : WCode P ⟨f, none, fn.ntmps⟩ c (zipEnv 0 args) M [] (ownQ T f fn M Q)) :
    VC P f args M Q := by
  refine VC_fn hT hf hb hn fun hlg => h.mono ?_
  rintro ex e M' D ⟨hex, rfl, ⟨X, hl, hX⟩, H1, L, hH, hlen, vs, h1, r, hr, h2, h3⟩
  have key : retQ T f M.H.length fn Q .ret e M' [] := by
    simp only [retQ, vkill]
    have hM : ({ M' with H := M'.H } : Mem) = M' := rfl
    rw [hM, h1]
    simp only
    have q1 : M'.lg.filter (fun e => Nat.blt e.1 M.H.length) = M.lg := by
      rw [hl, List.filter_append, List.filter_eq_self.2 fun e he => by rw [Nat.blt_eq]; exact (hlg e he).1, List.filter_eq_nil_iff.2 fun e he => by rw [Nat.blt_eq]; have := hX e he; omega, List.append_nil]
    have q2 : (M.lg.all fun e => Nat.blt e.2 M.H.length) = true := List.all_eq_true.2 fun e he => by rw [Nat.blt_eq]; exact (hlg e he).2
    have q3 : ((refs r).all (Nat.blt · M.H.length)) = true := List.all_eq_true.2 fun x hx => by rw [Nat.blt_eq]; exact h2 x hx
    have q4 : M'.H.take M.H.length = H1 := by rw [hH, ← hlen]; simp
    unfold vfinish
    rw [hk, q1, hr, q2, q3, q4]
    exact h3
  rcases hex with rfl | rfl
  · exact key
  · exact key
theorem VC_own' {P : Program} {T : Tab} (hT : TabOk P T) {f : Nat} {fn : Func} {c : Code} {nt : Nat} {args : List VV} {M : Mem} {Q : VV → Mem → Prop} (hf : T.fn f = some fn) (hb : fn.body = some c) (hnt : fn.ntmps = nt) (hn : Nat.ble args.length nt = true) (hk : T.keeps f = false)
    (h : WCode P ⟨f, none, nt⟩ c (zipEnv 0 args) M [] (ownQ T f fn M Q)) : VC P f args M Q := by
  subst hnt
  exact VC_own hT hf hb (Nat.le_of_ble_eq_true hn) hk h
/-- the end, where memory is as it was -/
theorem own_ret {T : Tab} {f : Nat} {fn : Func} {M : Mem} {L : List VObj} {Q : VV → Mem → Prop} {e : Env} {vs : List VV} {r : VV} (h1 : vresL T e ⟨M.H ++ L, M.lg⟩ fn.results.toList = some vs) (hr : frz M.H.length (M.H ++ L) (vtup vs) = r) (h2 : refs r = []) (h3 : Q r M) : ownQ T f fn M Q .ret e ⟨M.H ++ L, M.lg⟩ [] :=
  ⟨.inr rfl, rfl, ⟨[], by simp, by simp⟩, M.H, L, rfl, rfl, vs, h1, r, hr, by simp [h2], h3⟩
theorem own_ret0 {T : Tab} {f : Nat} {fn : Func} {M : Mem} {Q : VV → Mem → Prop} {e : Env} {vs : List VV} {r : VV} (h1 : vresL T e M fn.results.toList = some vs) (hr : frz M.H.length M.H (vtup vs) = r) (h2 : refs r = []) (h3 : Q r M) : ownQ T f fn M Q .ret e M [] :=
  ⟨.inr rfl, rfl, ⟨[], by simp, by simp⟩, M.H, [], by simp, rfl, vs, h1, r, hr, by simp [h2], h3⟩
abbrev intP (n : Int) : List PV := [.int .i64 n]
abbrev plP (c : Pl) : List PV := [.int .i64 c.x, .int .i64 c.y]
abbrev spP (c : Sp) : List PV := [.int .i64 c.lo, .int .i64 c.hi]
abbrev puP (c : Pu) : List PV := [.int .i64 c.pl.x, .int .i64 c.pl.y, .int .i64 c.kind]
abbrev kiP (k : Ki) : List PV := [.int .i64 k.lo, .int .i64 k.hi, .bool k.water, .sl 1 (k.away.map intP), .int .i64 k.rent, .int .i64 k.most]
abbrev plV (c : Pl) : VV := .agg [vi c.x, vi c.y]
abbrev spV (c : Sp) : VV := .agg [vi c.lo, vi c.hi]
abbrev puV (c : Pu) : VV := .agg [vi c.pl.x, vi c.pl.y, vi c.kind]
abbrev intsV (l : List Int) : VV := .p (.sl 1 (l.map intP))
abbrev plsV (l : List Pl) : VV := .p (.sl 2 (l.map plP))
abbrev spsV (l : List Sp) : VV := .p (.sl 2 (l.map spP))
abbrev pusV (l : List Pu) : VV := .p (.sl 3 (l.map puP))
abbrev kisV (l : List Ki) : VV := .p (.sl 6 (l.map kiP))
abbrev kiV (k : Ki) : VV := .agg [vi k.lo, vi k.hi, vb k.water, intsV k.away, vi k.rent, vi k.most]
abbrev hallV (h : Ha) : VV := .agg [vi h.wide, vi h.deep, plsV h.water, plsV h.shut, vi h.bay.x, vi h.bay.y, intsV h.bears, kisV h.kinds]
theorem own_ret1 {T : Tab} {f : Nat} {fn : Func} {M : Mem} {L : List VObj} {e : Env} {t : Nat} {X : VV} (h1 : fn.results.toList = [.tmp t]) (hr : frz M.H.length (M.H ++ L) (get e t) = X) (h2 : refs X = []) : ownQ T f fn M (fun r M' => M' = M ∧ r = X) .ret e ⟨M.H ++ L, M.lg⟩ [] :=
  own_ret (vs := [get e t]) (by rw [h1]; rfl) hr h2 ⟨rfl, rfl⟩
theorem own_ret10 {T : Tab} {f : Nat} {fn : Func} {M : Mem} {e : Env} {t : Nat} {X : VV} (h1 : fn.results.toList = [.tmp t]) (hr : frz M.H.length M.H (get e t) = X) (h2 : refs X = []) : ownQ T f fn M (fun r M' => M' = M ∧ r = X) .ret e M [] :=
  own_ret0 (vs := [get e t]) (by rw [h1]; rfl) hr h2 ⟨rfl, rfl⟩
theorem idx_nat (n : Nat) : idx (vi (n : Int)) = some n := by
  have : (0 : Int) ≤ (n : Int) := Int.natCast_nonneg n
  simp [idx, this]
theorem idx_nn (a : Int) (h : 0 ≤ a) : idx (vi a) = some a.toNat := by simp [idx, h]
theorem map_at {α β : Type} {f : α → β} {l : List α} {i : Nat} {x : α} (h : l[i]? = some x) : (l.map f)[i]? = some (f x) := by simp [h]
theorem assoc_set (ks k2 : List Int) (v : VV) : ∀ es, assoc k2 (assocSet ks v es) = if ks = k2 then some v else assoc k2 es
  | [] => by
    simp only [assocSet, assoc]
    by_cases h : ks = k2 <;> simp [h]
  | (k, u) :: r => by
    simp only [assocSet, assoc]
    by_cases h : k = ks
    · subst h
      simp only [decide_true, cond_true, assoc]
      by_cases h2 : k = k2 <;> simp [h2]
    · simp only [decide_eq_false h, cond_false, assoc, assoc_set ks k2 v r]
      by_cases h2 : k = k2
      · subst h2
        have : ¬ ks = k := fun e => h e.symm
        simp [this]
      · simp [h2]
/-- an environment holds at least this -/
def Sub : Env → Env → Prop
  | [], _ => True
  | (k, v) :: r, e => get e k = v ∧ Sub r e
theorem Sub.ok : ∀ {E e : Env}, Sub E e → ∀ t, get E t = get e t ∨ get E t = .any
  | [], _, _, _ => .inr rfl
  | (k, v) :: r, e, h, t => by
    rw [get_cons]
    by_cases ht : t = k
    · rw [if_pos ht, ht]; exact .inl h.1.symm
    · rw [if_neg ht]; exact Sub.ok h.2 t
/-- the state behind a round -/
def LoopK {σ : Type} (E : σ → Env) (N : σ → Mem) (m : σ → Nat) (good : σ → Prop) (D : List Nat) (s : σ) (e' : Env) (M' : Mem) (D' : List Nat) : Prop := D' = D ∧ ∃ s', m s' < m s ∧ good s' ∧ Sub (E s') e' ∧ M' = N s'
theorem LoopK.mk {σ : Type} {E : σ → Env} {N : σ → Mem} {m : σ → Nat} {good : σ → Prop} {D : List Nat} {s : σ} {e' : Env} {M' : Mem} (s' : σ) (h1 : m s' < m s) (h2 : good s') (h3 : Sub (E s') e') (h4 : M' = N s') : LoopK E N m good D s e' M' D := ⟨rfl, s', h1, h2, h3, h4⟩
theorem W_loopS {σ : Type} {P : Program} {cx : Cx} {e : Env} {M : Mem} {D : List Nat} {Q : PQ} {c : Code} (E : σ → Env) (N : σ → Mem) (m : σ → Nat) (good : σ → Prop) (s0 : σ) (h0 : good s0) (hE : Sub (E s0) e) (hM : M = N s0)
    (round : ∀ s, good s → WCode P cx c (E s) (N s) D (thenQ (LoopK E N m good D s) Q)) : WCode P cx (.loop c) e M D Q := by
  refine W_loop (fun n e M D' => ∃ s, n = m s ∧ good s ∧ Sub (E s) e ∧ M = N s ∧ D' = D) (n := m s0) ⟨s0, rfl, h0, hE, hM, rfl⟩ ?_
  rintro n e M D' ⟨s, rfl, hg, hS, rfl, rfl⟩
  refine (WCode.weak (round s hg) hS.ok).mono ?_
  rintro ex e' M' D1 h
  cases ex <;> first | exact h | skip
  obtain ⟨rfl, s', h1, h2, h3, h4⟩ := h
  exact ⟨m s', h1, s', rfl, h2, h3, h4, rfl⟩
theorem W_drawP {P : Program} {T : Tab} (hT : TabOk P T) {cx : Cx} {e : Env} {M : Mem} {D : List Nat} {Q : PQ} {id : Nat} {ops : Array Oper} (zs : List VObj) (hz : zerosOf T ops.toList = some zs) (hp : planOk ops (mkPlan ops) = true)
    (h : WDraw P T cx.nt ops ops.toList (mkPlan ops) e M.H.length { M with H := M.H ++ zs } [] [] fun e' M' => Q .normal e' M' D) : WCode P cx (.region id ops true) e M D Q := W_draw0 hT hp hz h
theorem arr_get {α : Type} (l : List α) (i : Nat) : (Array.mk l)[i]? = l[i]? := by simp
theorem app_get {H : List VObj} {i : Nat} {o : VObj} (h : H[i]? = some o) (L : List VObj) : (H ++ L)[i]? = some o := by
  rw [List.getElem?_append_left (List.getElem?_eq_some_iff.1 h).1, h]
theorem veq2 (a b c d : Int) : veqCells [vi a, vi b] [vi c, vi d] = some (decide (a = c) && (decide (b = d) && true)) := rfl
theorem v_eqCell (a b : Pl) : vbin T .eql 24 (plV a) (plV b) = some (vb (decide (a = b))) := by
  simp only [vbin, t_cell, veq2]
  cases a; cases b
  rename_i a b c d
  by_cases h1 : a = c <;> by_cases h2 : b = d <;> simp [h1, h2]
theorem v_neCell (a b : Pl) : vbin T .neq 24 (plV a) (plV b) = some (vb (!decide (a = b))) := by
  simp only [vbin, t_cell, veq2]
  cases a; cases b
  rename_i a b c d
  by_cases h1 : a = c <;> by_cases h2 : b = d <;> simp [h1, h2]
theorem v_eqSpan (a b : Sp) : vbin T .eql 54 (spV a) (spV b) = some (vb (decide (a = b))) := by
  simp only [vbin, t_span, veq2]
  cases a; cases b
  rename_i a b c d
  by_cases h1 : a = c <;> by_cases h2 : b = d <;> simp [h1, h2]
theorem veq3 (a b e c d f : Int) : veqCells [vi a, vi b, vi e] [vi c, vi d, vi f] = some (decide (a = c) && (decide (b = d) && (decide (e = f) && true))) := rfl
theorem v_eqPut (a b : Pu) : vbin T .eql 59 (puV a) (puV b) = some (vb (decide (a = b))) := by
  simp only [vbin, t_put, veq3]
  obtain ⟨⟨a, c⟩, k⟩ := a
  obtain ⟨⟨b, d⟩, l⟩ := b
  by_cases h1 : a = b <;> by_cases h2 : c = d <;> by_cases h3 : k = l <;> simp [h1, h2, h3]
theorem fn_call {f : Nat} {fn : Func} {args : List VV} {M : Mem} {Q : VV → Mem → Prop} (hf : T.fn f = some fn) (hk : T.keeps f = false) (h : VC Try.prog f (args.map strip1) M Q) : VCall Try.prog (.fn (.func f) [] []) args M Q :=
  VCall_fn T_ok hf (by
    have : (sarg T f) = strip1 := funext fun v => by simp [sarg, hk]
    simpa [this] using h)
theorem call_eq {f : Nat} {fn : Func} {args : List VV} {M M1 : Mem} {v : VV} (hf : T.fn f = some fn) (hk : T.keeps f = false) (h : VC Try.prog f (args.map strip1) M (fun r M' => M' = M1 ∧ r = v)) {Q : VV → Mem → Prop} (hq : Q v M1) : VCall Try.prog (.fn (.func f) [] []) args M Q :=
  (fn_call hf hk h).mono fun r M' e => by obtain ⟨rfl, rfl⟩ := e; exact hq
theorem call_d {f : Nat} {fn : Func} {args : List VV} {M M1 : Mem} {v : VV} (hf : T.fn f = some fn) (hk : T.keeps f = false) (h : VC Try.prog f (args.map strip1) M (fun r M' => M' = M1 ∧ r = v)) {R : VV → Mem → Prop} (hq : R v M1) : DCallK Try.prog (.fn (.func f) [] []) args M R :=
  ⟨v, M1, call_eq hf hk h ⟨rfl, rfl⟩, hq⟩
theorem take_map {α β : Type} (f : α → β) (l : List α) (i : Nat) : (l.map f).take i = (l.take i).map f := List.map_take.symm
theorem drop_map {α β : Type} (f : α → β) (l : List α) (i : Nat) : (l.map f).drop i = (l.drop i).map f := List.map_drop.symm
/-- what the steps yield, all in one -/
theorem t_own (t : Nat) : T.own t = false := rfl
theorem VL : type_of% (And.intro (@t_own) (And.intro (@S_move) (And.intro (@S_assign) (And.intro (@S_bin) (And.intro (@S_un) (And.intro (@S_guard) (And.intro (@S_pick) (And.intro (@S_nil) (And.intro (@S_box) (And.intro (@S_field) (And.intro (@S_load) (And.intro (@S_store) (And.intro (@S_indexAddr) (And.intro (@S_index) (And.intro (@S_len) (And.intro (@S_append) (And.intro (@S_slice) (And.intro (@S_lookup) (And.intro (@S_build) (And.intro (@S_buildSlice) (And.intro (@S_extract) (And.intro (@S_nilCheck) (And.intro (@S_makeSlice) (And.intro (@S_makeFunc) (And.intro (@S_convert) (And.intro (@S_call) (And.intro (@S_allocT) (And.intro (@S_mapUpdate) (And.intro (@S_makeMap) (And.intro (@S_max) (And.intro (@S_min) (And.intro (@Put_some) (And.intro (@PutM_some) (And.intro (@Then_app) (And.intro (@D_move) (And.intro (@D_assign) (And.intro (@D_bin) (And.intro (@D_un) (And.intro (@D_pick) (And.intro (@D_nil) (And.intro (@D_box) (And.intro (@D_field) (And.intro (@D_load) (And.intro (@D_store) (And.intro (@D_indexAddr) (And.intro (@D_index) (And.intro (@D_len) (And.intro (@D_append) (And.intro (@D_slice) (And.intro (@D_lookup) (And.intro (@D_build) (And.intro (@D_buildSlice) (And.intro (@D_extract) (And.intro (@D_nilCheck) (And.intro (@D_makeSlice) (And.intro (@D_makeFunc) (And.intro (@D_convert) (And.intro (@D_call) (And.intro (@D_mapUpdate) (And.intro (@D_makeMap) (And.intro (@D_max1) (And.intro (@D_min1) (And.intro (@DPut_some) (And.intro (@DRead_some) (And.intro (@DThen_app) (And.intro (@DPutM_some) (And.intro (@DStore_some) (And.intro (@get_cons) (And.intro (@v_lss) (And.intro (@v_gtr) (And.intro (@v_leq) (And.intro (@v_geq) (And.intro (@v_eql) (And.intro (@v_neq) (And.intro (@v_add) (And.intro (@v_sub) (And.intro (@v_mul) (And.intro (@v_quo) (And.intro (@v_not) (And.intro (@v_max2) (And.intro (@v_min2) (And.intro (@v_eqCell) (And.intro (@v_eqPut) (And.intro (@v_eqSpan) (And.intro (@v_neCell) (And.intro (@idx_nat) (And.intro (@idx_nn) (And.intro (@push_eq) (And.intro (@hget) (And.intro (@hget0) (And.intro (@hset) (And.intro (@hset0) (And.intro (@addLg_nil) (And.intro (@t_int) (And.intro (@t_bool) (And.intro (@t_errno) (And.intro (@t_cell) (And.intro (@t_span) (And.intro (@t_put) (And.intro (@t_kind) (And.intro (@t_hall) (And.intro (@t_layout) (And.intro (@t_die) (And.intro (@t_ints) (And.intro (@t_cells) (And.intro (@t_spans) (And.intro (@t_puts) (And.intro (@t_kinds) (And.intro (@t_halls) (And.intro (@t_lays) (And.intro (@t_funcs) (And.intro (@t_row) (And.intro (@t_floor) (And.intro (@t_floor0) (And.intro (@t_cmap) (And.intro (@t_imap) (And.intro (@t_u64) (And.intro (@t_uint) (And.intro (@t_err) (And.intro (@t_try) (And.intro (@t_playout) (And.intro (@List.isEmpty_nil.{0}) (And.intro (@List.isEmpty_cons.{0}) (And.intro (@Bool.or_true) (And.intro (@Bool.true_or) (And.intro (@Bool.or_false) (And.intro (@Bool.false_or) (And.intro (@arr_get) (And.intro (@Int.toNat_natCast) (And.intro (@Int.le_refl) (And.intro (@List.getElem?_toArray.{0}) (And.intro (@List.getElem?_cons_zero.{0}) (And.intro (@List.getElem?_cons_succ.{0}) (And.intro (@List.getElem?_nil.{0}) (And.intro (@List.map_cons.{0, 0}) (And.intro (@List.map_nil.{0, 0}) (And.intro (@List.all_cons.{0}) (And.intro (@List.all_nil.{0}) (And.intro (@List.length_cons.{0}) (And.intro (@List.length_nil.{0}) (And.intro (@List.length_append.{0}) (And.intro (@List.length_map.{0, 0}) (And.intro (@List.drop_zero.{0}) (And.intro (@List.drop_succ_cons.{0}) (And.intro (@List.take_succ_cons.{0}) (And.intro (@List.take_zero.{0}) (And.intro (@List.take_nil.{0}) (And.intro (@List.drop_nil.{0}) (And.intro (@List.cons_append.{0}) (And.intro (@List.nil_append.{0}) (And.intro (@List.append_nil.{0}) (And.intro (@List.append_assoc.{0}) (And.intro (@List.set_cons_zero.{0}) (And.intro (@List.set_cons_succ.{0}) (And.intro (@Option.bind_some.{0, 0}) (And.intro (@Option.bind_none.{0, 0}) (And.intro (@Option.map_some.{0, 0}) (And.intro (@Option.map_none.{0, 0}) (And.intro (@Option.some.injEq.{0}) (And.intro (@Prod.mk.injEq.{0, 0}) (And.intro (@Bool.and_true) (And.intro (@Bool.true_and) (And.intro (@Bool.and_false) (And.intro (@Bool.false_and) (And.intro (@and_true) (And.intro (@true_and) (And.intro (@and_false) (And.intro (@false_and) (And.intro (@Bool.not_true) (And.intro (@Bool.not_false) (And.intro (@Nat.mul_one) (And.intro (@Nat.add_zero) (And.intro (@Nat.zero_add) (And.intro (@Nat.add_assoc) (And.intro (@Nat.lt_add_one) (And.intro (@Nat.zero_lt_succ) (And.intro (@Bool.true_eq_false) (And.intro (@Bool.false_eq_true) (And.intro (@not_true) (And.intro (@not_false_eq_true) (And.intro (@beq_true) (And.intro (@beq_false) (And.intro (@nat_blt) (And.intro (@nat_ble) (And.intro (@nat_beq) (And.intro (@decide_true) (And.intro (@decide_false) (And.intro (@Nat.le_refl) (And.intro (@Nat.zero_le) (And.intro (@List.toList_toArray.{0}) (And.intro (@vload.eq_def) (And.intro (@vstore.eq_def) (And.intro (@vfieldAddr.eq_def) (And.intro (@vindexAddr.eq_def) (And.intro (@vlen.eq_def) (And.intro (@vindex.eq_def) (And.intro (@vbuild.eq_def) (And.intro (@vmakeSlice.eq_def) (And.intro (@vbuildSlice.eq_def) (And.intro (@vslice.eq_def) (And.intro (@vlookup.eq_def) (And.intro (@vmapUpdate.eq_def) (And.intro (@gdB.eq_def) (And.intro (@funcV.eq_def) (And.intro (@boxV.eq_def) (And.intro (@mapV.eq_def) (And.intro (@splice.eq_def) (And.intro (@placesOf.eq_def) (And.intro (@fits.eq_def) (And.intro (@shOf.eq_def) (And.intro (@zeroV.eq_def) (And.intro (@D_allocT) (And.intro (@DAl_some) (And.intro (@take_map) (@drop_map))))))))))))))))))))))))))))))))))))))))))))))))))))))))))))))))))))))))))))))))))))))))))))))))))))))))))))))))))))))))))))))))))))))))))))))))))))))))))))))))))))))))))))))))))))))))))))))))))))))))))))))))))))))) := And.intro (@t_own) (And.intro (@S_move) (And.intro (@S_assign) (And.intro (@S_bin) (And.intro (@S_un) (And.intro (@S_guard) (And.intro (@S_pick) (And.intro (@S_nil) (And.intro (@S_box) (And.intro (@S_field) (And.intro (@S_load) (And.intro (@S_store) (And.intro (@S_indexAddr) (And.intro (@S_index) (And.intro (@S_len) (And.intro (@S_append) (And.intro (@S_slice) (And.intro (@S_lookup) (And.intro (@S_build) (And.intro (@S_buildSlice) (And.intro (@S_extract) (And.intro (@S_nilCheck) (And.intro (@S_makeSlice) (And.intro (@S_makeFunc) (And.intro (@S_convert) (And.intro (@S_call) (And.intro (@S_allocT) (And.intro (@S_mapUpdate) (And.intro (@S_makeMap) (And.intro (@S_max) (And.intro (@S_min) (And.intro (@Put_some) (And.intro (@PutM_some) (And.intro (@Then_app) (And.intro (@D_move) (And.intro (@D_assign) (And.intro (@D_bin) (And.intro (@D_un) (And.intro (@D_pick) (And.intro (@D_nil) (And.intro (@D_box) (And.intro (@D_field) (And.intro (@D_load) (And.intro (@D_store) (And.intro (@D_indexAddr) (And.intro (@D_index) (And.intro (@D_len) (And.intro (@D_append) (And.intro (@D_slice) (And.intro (@D_lookup) (And.intro (@D_build) (And.intro (@D_buildSlice) (And.intro (@D_extract) (And.intro (@D_nilCheck) (And.intro (@D_makeSlice) (And.intro (@D_makeFunc) (And.intro (@D_convert) (And.intro (@D_call) (And.intro (@D_mapUpdate) (And.intro (@D_makeMap) (And.intro (@D_max1) (And.intro (@D_min1) (And.intro (@DPut_some) (And.intro (@DRead_some) (And.intro (@DThen_app) (And.intro (@DPutM_some) (And.intro (@DStore_some) (And.intro (@get_cons) (And.intro (@v_lss) (And.intro (@v_gtr) (And.intro (@v_leq) (And.intro (@v_geq) (And.intro (@v_eql) (And.intro (@v_neq) (And.intro (@v_add) (And.intro (@v_sub) (And.intro (@v_mul) (And.intro (@v_quo) (And.intro (@v_not) (And.intro (@v_max2) (And.intro (@v_min2) (And.intro (@v_eqCell) (And.intro (@v_eqPut) (And.intro (@v_eqSpan) (And.intro (@v_neCell) (And.intro (@idx_nat) (And.intro (@idx_nn) (And.intro (@push_eq) (And.intro (@hget) (And.intro (@hget0) (And.intro (@hset) (And.intro (@hset0) (And.intro (@addLg_nil) (And.intro (@t_int) (And.intro (@t_bool) (And.intro (@t_errno) (And.intro (@t_cell) (And.intro (@t_span) (And.intro (@t_put) (And.intro (@t_kind) (And.intro (@t_hall) (And.intro (@t_layout) (And.intro (@t_die) (And.intro (@t_ints) (And.intro (@t_cells) (And.intro (@t_spans) (And.intro (@t_puts) (And.intro (@t_kinds) (And.intro (@t_halls) (And.intro (@t_lays) (And.intro (@t_funcs) (And.intro (@t_row) (And.intro (@t_floor) (And.intro (@t_floor0) (And.intro (@t_cmap) (And.intro (@t_imap) (And.intro (@t_u64) (And.intro (@t_uint) (And.intro (@t_err) (And.intro (@t_try) (And.intro (@t_playout) (And.intro (@List.isEmpty_nil.{0}) (And.intro (@List.isEmpty_cons.{0}) (And.intro (@Bool.or_true) (And.intro (@Bool.true_or) (And.intro (@Bool.or_false) (And.intro (@Bool.false_or) (And.intro (@arr_get) (And.intro (@Int.toNat_natCast) (And.intro (@Int.le_refl) (And.intro (@List.getElem?_toArray.{0}) (And.intro (@List.getElem?_cons_zero.{0}) (And.intro (@List.getElem?_cons_succ.{0}) (And.intro (@List.getElem?_nil.{0}) (And.intro (@List.map_cons.{0, 0}) (And.intro (@List.map_nil.{0, 0}) (And.intro (@List.all_cons.{0}) (And.intro (@List.all_nil.{0}) (And.intro (@List.length_cons.{0}) (And.intro (@List.length_nil.{0}) (And.intro (@List.length_append.{0}) (And.intro (@List.length_map.{0, 0}) (And.intro (@List.drop_zero.{0}) (And.intro (@List.drop_succ_cons.{0}) (And.intro (@List.take_succ_cons.{0}) (And.intro (@List.take_zero.{0}) (And.intro (@List.take_nil.{0}) (And.intro (@List.drop_nil.{0}) (And.intro (@List.cons_append.{0}) (And.intro (@List.nil_append.{0}) (And.intro (@List.append_nil.{0}) (And.intro (@List.append_assoc.{0}) (And.intro (@List.set_cons_zero.{0}) (And.intro (@List.set_cons_succ.{0}) (And.intro (@Option.bind_some.{0, 0}) (And.intro (@Option.bind_none.{0, 0}) (And.intro (@Option.map_some.{0, 0}) (And.intro (@Option.map_none.{0, 0}) (And.intro (@Option.some.injEq.{0}) (And.intro (@Prod.mk.injEq.{0, 0}) (And.intro (@Bool.and_true) (And.intro (@Bool.true_and) (And.intro (@Bool.and_false) (And.intro (@Bool.false_and) (And.intro (@and_true) (And.intro (@true_and) (And.intro (@and_false) (And.intro (@false_and) (And.intro (@Bool.not_true) (And.intro (@Bool.not_false) (And.intro (@Nat.mul_one) (And.intro (@Nat.add_zero) (And.intro (@Nat.zero_add) (And.intro (@Nat.add_assoc) (And.intro (@Nat.lt_add_one) (And.intro (@Nat.zero_lt_succ) (And.intro (@Bool.true_eq_false) (And.intro (@Bool.false_eq_true) (And.intro (@not_true) (And.intro (@not_false_eq_true) (And.intro (@beq_true) (And.intro (@beq_false) (And.intro (@nat_blt) (And.intro (@nat_ble) (And.intro (@nat_beq) (And.intro (@decide_true) (And.intro (@decide_false) (And.intro (@Nat.le_refl) (And.intro (@Nat.zero_le) (And.intro (@List.toList_toArray.{0}) (And.intro (@vload.eq_def) (And.intro (@vstore.eq_def) (And.intro (@vfieldAddr.eq_def) (And.intro (@vindexAddr.eq_def) (And.intro (@vlen.eq_def) (And.intro (@vindex.eq_def) (And.intro (@vbuild.eq_def) (And.intro (@vmakeSlice.eq_def) (And.intro (@vbuildSlice.eq_def) (And.intro (@vslice.eq_def) (And.intro (@vlookup.eq_def) (And.intro (@vmapUpdate.eq_def) (And.intro (@gdB.eq_def) (And.intro (@funcV.eq_def) (And.intro (@boxV.eq_def) (And.intro (@mapV.eq_def) (And.intro (@splice.eq_def) (And.intro (@placesOf.eq_def) (And.intro (@fits.eq_def) (And.intro (@shOf.eq_def) (And.intro (@zeroV.eq_def) (And.intro (@D_allocT) (And.intro (@DAl_some) (And.intro (@take_map) (@drop_map))))))))))))))))))))))))))))))))))))))))))))))))))))))))))))))))))))))))))))))))))))))))))))))))))))))))))))))))))))))))))))))))))))))))))))))))))))))))))))))))))))))))))))))))))))))))))))))))))))))))))))))))))))))
/-- what their small functions yield, all in one -/
theorem VM : type_of% (And.intro (@vappend.eq_1) (And.intro (@ev.eq_1) (And.intro (@ev.eq_2) (And.intro (@ev.eq_3) (And.intro (@ev.eq_4) (And.intro (@ofValue.eq_1) (And.intro (@ofValue.eq_2) (And.intro (@ofValue.eq_3) (And.intro (@ofValue.eq_4) (And.intro (@ofValue.eq_5) (And.intro (@ofValue.eq_6) (And.intro (@ofValue.eq_7) (And.intro (@ofValue.eq_8) (And.intro (@ofValue.eq_9) (And.intro (@zipEnv.eq_1) (And.intro (@zipEnv.eq_2) (And.intro (@thenQ.eq_1) (And.intro (@thenQ.eq_2) (And.intro (@blockQ.eq_1) (And.intro (@blockQ.eq_2) (And.intro (@vfill.eq_1) (And.intro (@vfill.eq_2) (And.intro (@inOrder.eq_1) (And.intro (@inOrder.eq_2) (And.intro (@toPss.eq_1) (And.intro (@toPss.eq_2) (And.intro (@toPs.eq_1) (And.intro (@toPs.eq_2) (And.intro (@toP.eq_1) (And.intro (@toP.eq_2) (And.intro (@toP.eq_3) (And.intro (@toP.eq_4) (And.intro (@obound.eq_1) (And.intro (@obound.eq_2) (And.intro (@keyOf.eq_1) (And.intro (@keyOf.eq_2) (And.intro (@keyOf.eq_3) (And.intro (@cellInts.eq_1) (And.intro (@cellInts.eq_2) (And.intro (@cellInts.eq_3) (And.intro (@elemsOf.eq_1) (And.intro (@elemsOf.eq_2) (And.intro (@elemsOf.eq_3) (And.intro (@elemsOf.eq_4) (And.intro (@nilV.eq_1) (And.intro (@nilV.eq_2) (And.intro (@nilV.eq_3) (And.intro (@nilV.eq_4) (And.intro (@extV.eq_1) (And.intro (@extV.eq_2) (And.intro (@pickV.eq_1) (And.intro (@pickV.eq_2) (And.intro (@refs.eq_1) (And.intro (@refs.eq_2) (And.intro (@refs.eq_3) (And.intro (@refs.eq_4) (And.intro (@refs.eq_5) (And.intro (@refs.eq_6) (And.intro (@refs.eq_7) (And.intro (@refs.eq_8) (And.intro (@refs.eq_9) (And.intro (@refs.eq_10) (And.intro (@refs.eq_11) (And.intro (@refs.eq_12) (And.intro (@refsL.eq_1) (And.intro (@refsL.eq_2) (And.intro (@isCell.eq_1) (And.intro (@isCell.eq_2) (And.intro (@isCell.eq_3) (And.intro (@isCell.eq_4) (And.intro (@cellsOf.eq_1) (And.intro (@cellsOf.eq_2) (And.intro (@strip1.eq_1) (And.intro (@strip1.eq_2) (And.intro (@strip1.eq_3) (And.intro (@gdV.eq_1) (And.intro (@gdV.eq_2) (And.intro (@gdV.eq_3) (And.intro (@pdOk.eq_1) (And.intro (@pdOk.eq_2) (And.intro (@pdPush.eq_1) (And.intro (@pdPush.eq_2) (And.intro (@pdTick.eq_1) (And.intro (@pdTick.eq_2) (And.intro (@pdTick.eq_3) (And.intro (@pdTick.eq_4) (And.intro (@Back.eq_1) (And.intro (@Back.eq_2) (And.intro (@Back.eq_3) (And.intro (@cond_true.{1}) (And.intro (@cond_false.{1}) (And.intro (@if_true.{1}) (And.intro (@if_true.{0}) (And.intro (@if_false.{1}) (And.intro (@if_false.{0}) (@forall_const.{0})))))))))))))))))))))))))))))))))))))))))))))))))))))))))))))))))))))))))))))))))))))))))))))))) := And.intro (@vappend.eq_1) (And.intro (@ev.eq_1) (And.intro (@ev.eq_2) (And.intro (@ev.eq_3) (And.intro (@ev.eq_4) (And.intro (@ofValue.eq_1) (And.intro (@ofValue.eq_2) (And.intro (@ofValue.eq_3) (And.intro (@ofValue.eq_4) (And.intro (@ofValue.eq_5) (And.intro (@ofValue.eq_6) (And.intro (@ofValue.eq_7) (And.intro (@ofValue.eq_8) (And.intro (@ofValue.eq_9) (And.intro (@zipEnv.eq_1) (And.intro (@zipEnv.eq_2) (And.intro (@thenQ.eq_1) (And.intro (@thenQ.eq_2) (And.intro (@blockQ.eq_1) (And.intro (@blockQ.eq_2) (And.intro (@vfill.eq_1) (And.intro (@vfill.eq_2) (And.intro (@inOrder.eq_1) (And.intro (@inOrder.eq_2) (And.intro (@toPss.eq_1) (And.intro (@toPss.eq_2) (And.intro (@toPs.eq_1) (And.intro (@toPs.eq_2) (And.intro (@toP.eq_1) (And.intro (@toP.eq_2) (And.intro (@toP.eq_3) (And.intro (@toP.eq_4) (And.intro (@obound.eq_1) (And.intro (@obound.eq_2) (And.intro (@keyOf.eq_1) (And.intro (@keyOf.eq_2) (And.intro (@keyOf.eq_3) (And.intro (@cellInts.eq_1) (And.intro (@cellInts.eq_2) (And.intro (@cellInts.eq_3) (And.intro (@elemsOf.eq_1) (And.intro (@elemsOf.eq_2) (And.intro (@elemsOf.eq_3) (And.intro (@elemsOf.eq_4) (And.intro (@nilV.eq_1) (And.intro (@nilV.eq_2) (And.intro (@nilV.eq_3) (And.intro (@nilV.eq_4) (And.intro (@extV.eq_1) (And.intro (@extV.eq_2) (And.intro (@pickV.eq_1) (And.intro (@pickV.eq_2) (And.intro (@refs.eq_1) (And.intro (@refs.eq_2) (And.intro (@refs.eq_3) (And.intro (@refs.eq_4) (And.intro (@refs.eq_5) (And.intro (@refs.eq_6) (And.intro (@refs.eq_7) (And.intro (@refs.eq_8) (And.intro (@refs.eq_9) (And.intro (@refs.eq_10) (And.intro (@refs.eq_11) (And.intro (@refs.eq_12) (And.intro (@refsL.eq_1) (And.intro (@refsL.eq_2) (And.intro (@isCell.eq_1) (And.intro (@isCell.eq_2) (And.intro (@isCell.eq_3) (And.intro (@isCell.eq_4) (And.intro (@cellsOf.eq_1) (And.intro (@cellsOf.eq_2) (And.intro (@strip1.eq_1) (And.intro (@strip1.eq_2) (And.intro (@strip1.eq_3) (And.intro (@gdV.eq_1) (And.intro (@gdV.eq_2) (And.intro (@gdV.eq_3) (And.intro (@pdOk.eq_1) (And.intro (@pdOk.eq_2) (And.intro (@pdPush.eq_1) (And.intro (@pdPush.eq_2) (And.intro (@pdTick.eq_1) (And.intro (@pdTick.eq_2) (And.intro (@pdTick.eq_3) (And.intro (@pdTick.eq_4) (And.intro (@Back.eq_1) (And.intro (@Back.eq_2) (And.intro (@Back.eq_3) (And.intro (@cond_true.{1}) (And.intro (@cond_false.{1}) (And.intro (@if_true.{1}) (And.intro (@if_true.{0}) (And.intro (@if_false.{1}) (And.intro (@if_false.{0}) (@forall_const.{0})))))))))))))))))))))))))))))))))))))))))))))))))))))))))))))))))))))))))))))))))))))))))))))))
end Go.Proofs.Ytijcmgfblpokhaa.Vm

/- What the chapter's functions compute, in plain Lean, part 2: no program in sight. -/
namespace Go.Proofs.Ytijcmgfblpokhaa
open Go.RowKit
theorem kAt_get {h : Ha} {n : Nat} (hn : n < h.kinds.length) : kAt h (n : Int) = h.kinds[n] := by simp [kAt, hn]
theorem good_take {h : Ha} {l : List Pu} {k : Nat} (e : firstErr (putErrAt h l) k = 0) (hk : k ≤ l.length) : ∀ o ∈ l.take k, GoodP h o := by
  intro o ho
  obtain ⟨i, hi, rfl⟩ := List.getElem_of_mem ho
  have hi' : i < k := by simp at hi; omega
  have := firstErr_zero.1 e i hi'
  simp only [putErrAt, show l[i]? = some l[i] from List.getElem?_eq_getElem (by omega)] at this
  rw [List.getElem_take]
  exact GoodP.of this
def rentOf (h : Ha) (l : List Pu) : Int := (l.map fun p => (kAt h p.kind).rent).sum
def rowOf (y : Nat) (n : Nat) : List Pl := (List.range n).map fun x : Nat => ⟨(x : Int), (y : Int)⟩
def rowsOf (n : Nat) (wd : Nat) : List Pl := (List.range n).flatMap fun y => rowOf y wd
def placesL (h : Ha) : List Pl := rowsOf h.deep.toNat h.wide.toNat
theorem rowOf_succ (y n : Nat) : rowOf y (n + 1) = rowOf y n ++ [⟨(n : Int), (y : Int)⟩] := by simp [rowOf, List.range_succ]
theorem rowsOf_succ (n wd : Nat) : rowsOf (n + 1) wd = rowsOf n wd ++ rowOf n wd := by simp [rowsOf, List.range_succ]
theorem rowsOf_len (n wd : Nat) : (rowsOf n wd).length = n * wd := by
  induction n with
  | zero => simp [rowsOf]
  | succ n ih => rw [rowsOf_succ, List.length_append, ih]; simp [rowOf, Nat.add_mul]
theorem lay_len {h : Ha} {l : List Pu} (e : layErr h l = 0) : l.length ≤ 24 := by
  unfold layErr at e
  by_cases h1 : 24 < l.length
  · rw [if_pos h1] at e; exact absurd e (by decide)
  · omega
theorem lay_puts {h : Ha} {l : List Pu} (e : layErr h l = 0) : firstErr (putErrAt h l) l.length = 0 := by
  have h1 := lay_len e
  unfold layErr at e
  rw [if_neg (by omega)] at e
  by_cases h2 : firstErr (putErrAt h l) l.length = 0
  · exact h2
  · rw [if_pos h2] at e; exact absurd e h2
theorem lay_good {h : Ha} {l : List Pu} (e : layErr h l = 0) : ∀ o ∈ l, GoodP h o := by
  have := good_take (lay_puts e) (Nat.le_refl _)
  rwa [List.take_of_length_le (Nat.le_refl _)] at this
theorem layout_ok {h : Ha} {l : List Pu} : layoutErr h l = 0 ↔ hallErr h = 0 ∧ layErr h l = 0 := by
  unfold layoutErr
  by_cases h1 : hallErr h = 0 <;> simp [h1]
def loadAt (h : Ha) (l : List Pu) (b : Nat) : Sp :=
  ⟨((l.filter fun p => bayOf h p.pl = (b : Int)).map fun p => (kAt h p.kind).lo).sum, ((l.filter fun p => bayOf h p.pl = (b : Int)).map fun p => (kAt h p.kind).hi).sum⟩
def loadsOf (h : Ha) (l : List Pu) : List Sp := (List.range (baysOf h).toNat).map (loadAt h l)
theorem ediv_mono {a b c : Int} (hc : 1 ≤ c) (h : a ≤ b) : a / c ≤ b / c := Int.ediv_le_ediv (by omega) h
theorem bay_in {h : Ha} {c : Pl} (V : VH h) (e : isPl h c = true) : 0 ≤ bayOf h c ∧ bayOf h c < baysOf h := by
  simp only [isPl, Bool.and_eq_true, inR_true] at e
  have hx := V.x1
  have hy := V.y1
  rw [← bays_eq hx hy]
  have h1 := ediv_mono hx (show c.x ≤ h.wide - 1 by omega)
  have h2 := ediv_mono hy (show c.y ≤ h.deep - 1 by omega)
  have h3 : 0 ≤ colsOf h := (cols_le V.small).1
  have h4 := Int.mul_le_mul_of_nonneg_right h2 h3
  have h5 := Int.mul_nonneg (div_le (show 0 ≤ c.y by omega) hy).1 h3
  have h6 := (div_le (show 0 ≤ c.x by omega) hx).1
  unfold bayOf
  simp only []
  omega
theorem bays_pos {h : Ha} (V : VH h) : 1 ≤ baysOf h ∧ baysOf h ≤ 5000000 := by
  have hx := V.x1
  have hy := V.y1
  rw [← bays_eq hx hy]
  have hc := cols_le V.small
  have hd := div_le (show 0 ≤ h.deep - 1 by have := V.d1; omega) hy
  have he := div_le (show 0 ≤ h.wide - 1 by have := V.w1; omega) hx
  have := V.d2
  have := V.w2
  have hm := mul_le hd.1 hc.1 (show (h.deep - 1) / h.bay.y ≤ 1000 by omega) hc.2
  unfold bayOf colsOf
  simp only []
  omega
theorem loadAt_snoc (h : Ha) (l : List Pu) (p : Pu) (b : Nat) : loadAt h (l ++ [p]) b = if bayOf h p.pl = (b : Int) then ⟨(loadAt h l b).lo + (kAt h p.kind).lo, (loadAt h l b).hi + (kAt h p.kind).hi⟩ else loadAt h l b := by
  unfold loadAt
  rw [List.filter_append]
  by_cases hb : bayOf h p.pl = (b : Int) <;> simp [hb]
theorem loadsOf_snoc (h : Ha) (l : List Pu) (p : Pu) (k : Nat) (hk : bayOf h p.pl = (k : Int)) :
    loadsOf h (l ++ [p]) = (loadsOf h l).set k ⟨(loadAt h l k).lo + (kAt h p.kind).lo, (loadAt h l k).hi + (kAt h p.kind).hi⟩ := by
  apply List.ext_getElem
  · simp [loadsOf]
  · intro i h1 h2
    rw [List.getElem_set]
    simp only [loadsOf, List.getElem_map, List.getElem_range, loadAt_snoc]
    by_cases h : k = i
    · subst h; simp [hk]
    · rw [if_neg (by omega), if_neg h]
theorem loadAt_le {h : Ha} {l : List Pu} (V : VH h) (hg : ∀ o ∈ l, GoodP h o) (b : Nat) : 0 ≤ (loadAt h l b).lo ∧ (loadAt h l b).lo ≤ 1000000 * l.length ∧ 0 ≤ (loadAt h l b).hi ∧ (loadAt h l b).hi ≤ 1000000 * l.length := by
  induction l with
  | nil => simp [loadAt]
  | cons p l ih =>
    have ih := ih fun o ho => hg o (List.mem_cons_of_mem _ ho)
    have hp := (hg p (List.mem_cons_self ..)).bounds V
    obtain ⟨k, hk⟩ := Int.eq_ofNat_of_zero_le hp.2.2.2.2.1
    have hk' : k < h.kinds.length := by omega
    have hv := V.kind _ (List.getElem_mem hk')
    have e : kAt h p.kind = h.kinds[k] := by rw [hk]; exact kAt_get hk'
    have := hv.lo0
    have := hv.loHi
    have := hv.hi1
    simp only [loadAt, List.filter_cons] at ih ⊢
    split <;> simp [e] <;> omega
def puLt (x y : Pu) : Bool := if x.pl.y ≠ y.pl.y then decide (x.pl.y < y.pl.y) else if x.pl.x ≠ y.pl.x then decide (x.pl.x < y.pl.x) else decide (x.kind < y.kind)
def firstB : List Pu → List Pu → Bool
  | x :: xs, y :: ys => if x = y then firstB xs ys else puLt x y
  | _, _ => false
def fitsHi (h : Ha) (l : List Pu) (k : Nat) : Bool := (List.range k).all fun i => decide ((loadAt h l i).hi ≤ h.bears.getD i 0)
def fitsLo (h : Ha) (l : List Pu) (k : Nat) : Bool := (List.range k).all fun i => decide ((loadAt h l i).lo ≤ h.bears.getD i 0)
theorem fitsHi_step (h : Ha) (l : List Pu) (k : Nat) : fitsHi h l (k + 1) = (fitsHi h l k && decide ((loadAt h l k).hi ≤ h.bears.getD k 0)) := by
  simp [fitsHi, List.range_succ]
theorem fitsLo_step (h : Ha) (l : List Pu) (k : Nat) : fitsLo h l (k + 1) = (fitsLo h l k && decide ((loadAt h l k).lo ≤ h.bears.getD k 0)) := by
  simp [fitsLo, List.range_succ]
def verdictOf (h : Ha) (l : List Pu) : Int := if fitsHi h l h.bears.length then 1 else if fitsLo h l h.bears.length then 3 else 2
def allowedB (h : Ha) (l : List Pu) : Bool := decide (layErr h l = 0) && decide (verdictOf h l = 1)
theorem loadAt_lohi {h : Ha} {l : List Pu} (V : VH h) (hg : ∀ o ∈ l, GoodP h o) (b : Nat) : (loadAt h l b).lo ≤ (loadAt h l b).hi := by
  induction l with
  | nil => simp [loadAt]
  | cons p l ih =>
    have ih := ih fun o ho => hg o (List.mem_cons_of_mem _ ho)
    have hp := (hg p (List.mem_cons_self ..)).bounds V
    obtain ⟨k, hk⟩ := Int.eq_ofNat_of_zero_le hp.2.2.2.2.1
    have hk' : k < h.kinds.length := by omega
    have hv := V.kind _ (List.getElem_mem hk')
    have e : kAt h p.kind = h.kinds[k] := by rw [hk]; exact kAt_get hk'
    have := hv.loHi
    simp only [loadAt, List.filter_cons] at ih ⊢
    split <;> simp [e] <;> omega
end Go.Proofs.Ytijcmgfblpokhaa

/- The cells of spans. (Vm) -/
namespace Go.Proofs.Ytijcmgfblpokhaa.Vm
open Go Go.Proofs
/-- the cells of spans -/
def spCs (l : List Sp) : List VV := l.flatMap fun s => [vi s.lo, vi s.hi]
theorem spCs_len (l : List Sp) : (spCs l).length = l.length * 2 := by
  induction l with
  | nil => rfl
  | cons s l ih => simp only [spCs, List.flatMap_cons, List.length_append, List.length_cons, List.length_nil] at ih ⊢; omega
theorem spCs_drop (l : List Sp) (k : Nat) : (spCs l).drop (k * 2) = spCs (l.drop k) := by
  induction l generalizing k with
  | nil => simp [spCs]
  | cons s l ih =>
    cases k with
    | zero => rfl
    | succ k =>
      have := ih k
      rw [show (k + 1) * 2 = k * 2 + 2 by omega]
      simpa [spCs] using this
theorem spCs_take (l : List Sp) (k : Nat) : (spCs l).take (k * 2) = spCs (l.take k) := by
  induction l generalizing k with
  | nil => simp [spCs]
  | cons s l ih =>
    cases k with
    | zero => rfl
    | succ k =>
      have := ih k
      rw [show (k + 1) * 2 = k * 2 + 2 by omega]
      simpa [spCs] using this
theorem spCs_at {l : List Sp} {k : Nat} {x : Sp} (h : l[k]? = some x) : ((spCs l).drop (k * 2)).take 2 = [vi x.lo, vi x.hi] := by
  rw [spCs_drop]
  have hk := (List.getElem?_eq_some_iff.1 h).1
  rw [List.drop_eq_getElem_cons hk]
  have : l[k] = x := (List.getElem?_eq_some_iff.1 h).2
  simp [spCs, this]
theorem spCs_set {l : List Sp} {k : Nat} (x : Sp) (h : k < l.length) : (spCs l).take (k * 2) ++ vi x.lo :: vi x.hi :: (spCs l).drop (k * 2 + 2) = spCs (l.set k x) := by
  rw [show k * 2 + 2 = (k + 1) * 2 by omega, spCs_take, spCs_drop, List.set_eq_take_append_cons_drop, if_pos h]
  simp [spCs]
theorem spCs_rep (n : Nat) : (List.replicate n [vi 0, vi 0]).flatten = spCs (List.replicate n ⟨0, 0⟩) := by
  induction n with
  | zero => rfl
  | succ n ih => rw [List.replicate_succ, List.replicate_succ, List.flatten_cons, ih]; rfl
theorem spCs_chunks (l : List Sp) : ∀ (m : Nat) (k : Nat), k + m = l.length → toPss (chunksOf (spCs l) 2 (k * 2) m) = some ((l.drop k).map spP)
  | 0, k, h => by simp [chunksOf, toPss, List.drop_of_length_le (show l.length ≤ k by omega)]
  | m + 1, k, h => by
    have hk : k < l.length := by omega
    have ih := spCs_chunks l m (k + 1) (by omega)
    rw [show (k + 1) * 2 = k * 2 + 2 by omega] at ih
    rw [chunksOf, toPss, ih, spCs_at (List.getElem?_eq_getElem hk), List.drop_eq_getElem_cons hk]
    rfl
theorem frz_spans {n0 : Nat} {H : List VObj} {id : Nat} {l : List Sp} (hid : n0 ≤ id) (h : H[id]? = some (.obj (spCs l))) : frz n0 H (.bf id 0 l.length 2) = spsV l := by
  have h0 : Nat.ble n0 id = true := by rw [Nat.ble_eq]; exact hid
  have h1 : Nat.ble (0 + l.length * 2) (spCs l).length = true := by rw [Nat.ble_eq, spCs_len]; omega
  have h2 := spCs_chunks l l.length 0 (by omega)
  rw [Nat.zero_mul] at h2
  simp only [frz, h0, h, h1, h2, cond_true, List.drop_zero]
end Go.Proofs.Ytijcmgfblpokhaa.Vm

/- The program's small functions, on values. -/
namespace Go.Proofs.Ytijcmgfblpokhaa.Vm
open Go Go.Proofs
theorem in_vm (n lo hi : Int) (M : Mem) : VC Try.prog 77 [vi n, vi lo, vi hi] M (fun r M' => M' = M ∧ r = vb (inR n lo hi)) := by
  refine VC_plain T_ok (f := 77) (fn := Try.f77) (by kernel_rfl) rfl (by simp [Try.f77]) (by rfl) ?_
  ((repeat refine W_seq ?_); refine W_region0 T_ok ?_)
  simp only [Try.f77, S_assign, S_nil, ev, ofValue, Nat.reduceLT, true_and, thenQ]
  ((repeat refine W_seq ?_); refine W_region0 T_ok ?_)
  by_cases h1 : lo ≤ n <;> by_cases h2 : n ≤ hi
  all_goals
    simp only [VL, VM, ↓Gd_none, ↓Gd_t, ↓Gd_f, reduceIte, reduceCtorEq, Int.reduceLE, Int.reduceLT, Int.reduceToNat, Int.reduceNeg, Nat.reduceLT, Nat.reduceEqDiff, Nat.reduceAdd, Nat.reduceSub, Nat.reduceMul, Nat.reduceLeDiff, h1, h2]
    refine W_ret ?_
    simp [vresL, get_cons, vtup, frz, refs, inR, h1, h2]
theorem place_vm (h : Ha) (c : Pl) (M : Mem) (h1 : 1 ≤ h.wide) (h2 : h.wide ≤ 1000) (h3 : 1 ≤ h.deep) (h4 : h.deep ≤ 1000) : VC Try.prog 98 [hallV h, plV c] M (fun r M' => M' = M ∧ r = vb (isPl h c)) := by
  have k1 : -9223372036854775808 ≤ h.wide - 1 ∧ h.wide - 1 < 9223372036854775808 := by omega
  have k2 : -9223372036854775808 ≤ h.deep - 1 ∧ h.deep - 1 < 9223372036854775808 := by omega
  refine VC_own' T_ok (f := 98) (fn := Try.f98) (by kernel_rfl) rfl Try.ntmps98 (by rfl) (by rfl) ?_
  ((repeat refine W_seq ?_); refine W_region0 T_ok ?_)
  simp (maxSteps := 1000000) only [VL, VM, ↓Gd_none, ↓Gd_t, ↓Gd_f, reduceIte, reduceCtorEq, Int.reduceLE, Int.reduceLT, Int.reduceToNat, Int.reduceNeg, Nat.reduceLT, Nat.reduceEqDiff, Nat.reduceAdd, Nat.reduceSub, Nat.reduceMul, Nat.reduceLeDiff, k1, k2]
  ((repeat refine W_seq ?_); refine W_region0 T_ok ?_)
  simp (maxSteps := 1000000) only [VL, VM, ↓Gd_none, ↓Gd_t, ↓Gd_f, reduceIte, reduceCtorEq, Int.reduceLE, Int.reduceLT, Int.reduceToNat, Int.reduceNeg, Nat.reduceLT, Nat.reduceEqDiff, Nat.reduceAdd, Nat.reduceSub, Nat.reduceMul, Nat.reduceLeDiff, k1, k2]
  apply call_eq (f := 77) (fn := Try.f77) (by kernel_rfl) (by rfl)
  · exact in_vm _ _ _ _
  cases hb : inR c.x 0 (h.wide - 1)
  · simp (maxSteps := 1000000) only [VL, VM, ↓Gd_none, ↓Gd_t, ↓Gd_f, reduceIte, reduceCtorEq, Int.reduceLE, Int.reduceLT, Int.reduceToNat, Int.reduceNeg, Nat.reduceLT, Nat.reduceEqDiff, Nat.reduceAdd, Nat.reduceSub, Nat.reduceMul, Nat.reduceLeDiff, k1, k2]
    (repeat refine W_seq ?_)
    refine W_ret ?_
    try simp only [thenQ, blockQ]
    refine own_ret1 rfl ?_ (by rfl)
    simp only [get_cons, frz, vtup, Nat.reduceEqDiff, if_true, if_false, reduceIte]
    simp [isPl, hb]
  · simp (maxSteps := 1000000) only [VL, VM, ↓Gd_none, ↓Gd_t, ↓Gd_f, reduceIte, reduceCtorEq, Int.reduceLE, Int.reduceLT, Int.reduceToNat, Int.reduceNeg, Nat.reduceLT, Nat.reduceEqDiff, Nat.reduceAdd, Nat.reduceSub, Nat.reduceMul, Nat.reduceLeDiff, k1, k2]
    apply call_eq (f := 77) (fn := Try.f77) (by kernel_rfl) (by rfl)
    · exact in_vm _ _ _ _
    simp (maxSteps := 1000000) only [VL, VM, ↓Gd_none, ↓Gd_t, ↓Gd_f, reduceIte, reduceCtorEq, Int.reduceLE, Int.reduceLT, Int.reduceToNat, Int.reduceNeg, Nat.reduceLT, Nat.reduceEqDiff, Nat.reduceAdd, Nat.reduceSub, Nat.reduceMul, Nat.reduceLeDiff, k1, k2]
    (repeat refine W_seq ?_)
    refine W_ret ?_
    try simp only [thenQ, blockQ]
    refine own_ret1 rfl ?_ (by rfl)
    simp only [get_cons, frz, vtup, Nat.reduceEqDiff, if_true, if_false, reduceIte]
    simp [isPl, hb]
theorem columns_vm (h : Ha) (M : Mem) (S : Small h) : VC Try.prog 99 [hallV h] M (fun r M' => M' = M ∧ r = vi (colsOf h)) := by
  obtain ⟨w1, w2, d1, d2, x1, x2, y1, y2⟩ := S
  have k1 : -9223372036854775808 ≤ h.wide + h.bay.x ∧ h.wide + h.bay.x < 9223372036854775808 := by omega
  have k2 : -9223372036854775808 ≤ h.wide + h.bay.x - 1 ∧ h.wide + h.bay.x - 1 < 9223372036854775808 := by omega
  have k3 : 0 ≤ h.wide + h.bay.x - 1 ∧ h.wide + h.bay.x - 1 < 9223372036854775808 := by omega
  refine VC_own' T_ok (f := 99) (fn := Try.f99) (by kernel_rfl) rfl Try.ntmps99 (by rfl) (by rfl) ?_
  ((repeat refine W_seq ?_); refine W_region0 T_ok ?_)
  simp (maxSteps := 1000000) only [VL, VM, ↓Gd_none, ↓Gd_t, ↓Gd_f, reduceIte, reduceCtorEq, Int.reduceLE, Int.reduceLT, Int.reduceToNat, Int.reduceNeg, Nat.reduceLT, Nat.reduceEqDiff, Nat.reduceAdd, Nat.reduceSub, Nat.reduceMul, Nat.reduceLeDiff, k1, k2, k3, x1]
  ((repeat refine W_seq ?_); refine W_region0 T_ok ?_)
  simp (maxSteps := 1000000) only [VL, VM, ↓Gd_none, ↓Gd_t, ↓Gd_f, reduceIte, reduceCtorEq, Int.reduceLE, Int.reduceLT, Int.reduceToNat, Int.reduceNeg, Nat.reduceLT, Nat.reduceEqDiff, Nat.reduceAdd, Nat.reduceSub, Nat.reduceMul, Nat.reduceLeDiff, k1, k2, k3, x1]
  (repeat refine W_seq ?_)
  refine W_ret ?_
  try simp only [thenQ, blockQ]
  refine own_ret1 rfl ?_ (by rfl)
  simp only [get_cons, frz, vtup, Nat.reduceEqDiff, if_true, if_false, reduceIte]
  rfl
theorem bays_vm (h : Ha) (M : Mem) (S : Small h) : VC Try.prog 79 [hallV h] M (fun r M' => M' = M ∧ r = vi (baysOf h)) := by
  have hc := cols_le S
  have hS := S
  obtain ⟨w1, w2, d1, d2, x1, x2, y1, y2⟩ := S
  have hd := div_le (n := h.deep + h.bay.y - 1) (b := h.bay.y) (by omega) y1
  have hm := mul_le hc.1 hd.1 hc.2 (show (h.deep + h.bay.y - 1) / h.bay.y ≤ 2000 by omega)
  have k1 : -9223372036854775808 ≤ h.deep + h.bay.y ∧ h.deep + h.bay.y < 9223372036854775808 := by omega
  have k2 : -9223372036854775808 ≤ h.deep + h.bay.y - 1 ∧ h.deep + h.bay.y - 1 < 9223372036854775808 := by omega
  have k3 : 0 ≤ h.deep + h.bay.y - 1 ∧ h.deep + h.bay.y - 1 < 9223372036854775808 := by omega
  have k4 : -9223372036854775808 ≤ colsOf h * ((h.deep + h.bay.y - 1) / h.bay.y) ∧ colsOf h * ((h.deep + h.bay.y - 1) / h.bay.y) < 9223372036854775808 := by unfold colsOf; omega
  refine VC_own' T_ok (f := 79) (fn := Try.f79) (by kernel_rfl) rfl Try.ntmps79 (by rfl) (by rfl) ?_
  ((repeat refine W_seq ?_); refine W_region0 T_ok ?_)
  simp (maxSteps := 1000000) only [VL, VM, ↓Gd_none, ↓Gd_t, ↓Gd_f, reduceIte, reduceCtorEq, Int.reduceLE, Int.reduceLT, Int.reduceToNat, Int.reduceNeg, Nat.reduceLT, Nat.reduceEqDiff, Nat.reduceAdd, Nat.reduceSub, Nat.reduceMul, Nat.reduceLeDiff, k1, k2, k3, k4, y1]
  (repeat refine W_seq ?_)
  refine W_drawP T_ok [] (by kernel_rfl) (by kernel_rfl) ?_
  generalize hi : mkPlan _ = infs
  cbv at hi
  subst hi
  simp (maxSteps := 1000000) only [VL, VM, ↓Gd_none, ↓Gd_t, ↓Gd_f, reduceIte, reduceCtorEq, Int.reduceLE, Int.reduceLT, Int.reduceToNat, Int.reduceNeg, Nat.reduceLT, Nat.reduceEqDiff, Nat.reduceAdd, Nat.reduceSub, Nat.reduceMul, Nat.reduceLeDiff, k1, k2, k3, k4, y1]
  apply call_d (f := 99) (fn := Try.f99) (by kernel_rfl) (by rfl)
  · exact columns_vm h _ hS
  simp (maxSteps := 1000000) only [VL, VM, ↓Gd_none, ↓Gd_t, ↓Gd_f, reduceIte, reduceCtorEq, Int.reduceLE, Int.reduceLT, Int.reduceToNat, Int.reduceNeg, Nat.reduceLT, Nat.reduceEqDiff, Nat.reduceAdd, Nat.reduceSub, Nat.reduceMul, Nat.reduceLeDiff, k1, k2, k3, k4, y1]
  (repeat refine W_seq ?_)
  refine W_ret ?_
  try simp only [thenQ, blockQ]
  refine own_ret1 rfl ?_ (by rfl)
  simp only [get_cons, frz, vtup, Nat.reduceEqDiff, if_true, if_false, reduceIte]
  rfl
end Go.Proofs.Ytijcmgfblpokhaa.Vm

/- The library's searches, on values. -/
namespace Go.Proofs.Ytijcmgfblpokhaa.Vm
open Go Go.Proofs
theorem any_take {α : Type} (p : α → Bool) (l : List α) (i : Nat) (x : α) (h : l[i]? = some x) : (l.take (i + 1)).any p = ((l.take i).any p || p x) := by
  rw [List.take_add_one, h]
  simp
theorem any_hit {α : Type} (p : α → Bool) (l : List α) (i : Nat) (x : α) (h : l[i]? = some x) (hp : p x = true) : l.any p = true := List.any_eq_true.2 ⟨x, List.mem_of_getElem? h, hp⟩
theorem indexints_vm (fv : VV) (xs : List Int) (p : Int → Bool) (M : Mem) (hl : xs.length ≤ 1000000) (hf : ∀ x ∈ xs, VCall Try.prog fv [vi x] M (fun r M' => M' = M ∧ r = vb (p x))) :
    VC Try.prog 100 [intsV xs, fv] M (fun r M' => M' = M ∧ ∃ k : Int, r = vi k ∧ decide (0 ≤ k) = xs.any p) := by
  refine VC_own' T_ok (f := 100) (fn := Try.f100) (by kernel_rfl) rfl Try.ntmps100 (by rfl) (by rfl) ?_
  ((repeat refine W_seq ?_); refine W_region0 T_ok ?_)
  simp (maxSteps := 1000000) only [VL, VM, ↓Gd_none, ↓Gd_t, ↓Gd_f, reduceIte, reduceCtorEq, Int.reduceLE, Int.reduceLT, Int.reduceToNat, Int.reduceNeg, Nat.reduceLT, Nat.reduceEqDiff, Nat.reduceAdd, Nat.reduceSub, Nat.reduceMul, Nat.reduceLeDiff]
  ((repeat refine W_seq ?_); refine W_region0 T_ok ?_)
  simp (maxSteps := 1000000) only [VL, VM, ↓Gd_none, ↓Gd_t, ↓Gd_f, reduceIte, reduceCtorEq, Int.reduceLE, Int.reduceLT, Int.reduceToNat, Int.reduceNeg, Nat.reduceLT, Nat.reduceEqDiff, Nat.reduceAdd, Nat.reduceSub, Nat.reduceMul, Nat.reduceLeDiff]
  ((repeat refine W_seq ?_); refine W_block ?_; (repeat refine W_seq ?_)); refine W_loopS (fun i : Nat => [(0, intsV xs), (1, fv), (7, vi xs.length), (8, vi i)]) (fun _ => M) (fun i => xs.length - i) (fun i => i ≤ xs.length ∧ (xs.take i).any p = false) 0 ⟨by omega, by simp⟩ ⟨rfl, rfl, rfl, rfl, trivial⟩ rfl ?_
  rintro i ⟨hi, hno⟩
  have k1 : -9223372036854775808 ≤ (i : Int) + 1 ∧ (i : Int) + 1 < 9223372036854775808 := by omega
  ((repeat refine W_seq ?_); refine W_region0 T_ok ?_)
  rcases Nat.lt_or_ge i xs.length with hlt | hge
  · have k2 : ((i : Int) < (xs.length : Int)) = True := eq_true (by omega)
    have hx : xs[i]? = some xs[i] := List.getElem?_eq_getElem hlt
    have hx' := map_at (f := intP) hx
    simp (maxSteps := 1000000) only [VL, VM, ↓Gd_none, ↓Gd_t, ↓Gd_f, reduceIte, reduceCtorEq, Int.reduceLE, Int.reduceLT, Int.reduceToNat, Int.reduceNeg, Nat.reduceLT, Nat.reduceEqDiff, Nat.reduceAdd, Nat.reduceSub, Nat.reduceMul, Nat.reduceLeDiff, k1, k2, hx']
    ((repeat refine W_seq ?_); refine W_cond (b := true) (by first | rfl | simp only [ev, get_cons, Nat.reduceEqDiff, if_true, if_false, reduceIte]) (fun _ => ?_) (fun h => by cases h))
    ((repeat refine W_seq ?_); refine W_skip ?_)
    simp (maxSteps := 1000000) only [VL, VM, ↓Gd_none, ↓Gd_t, ↓Gd_f, reduceIte, reduceCtorEq, Int.reduceLE, Int.reduceLT, Int.reduceToNat, Int.reduceNeg, Nat.reduceLT, Nat.reduceEqDiff, Nat.reduceAdd, Nat.reduceSub, Nat.reduceMul, Nat.reduceLeDiff]
    ((repeat refine W_seq ?_); refine W_block ?_)
    ((repeat refine W_seq ?_); refine W_region0 T_ok ?_)
    simp (maxSteps := 1000000) only [VL, VM, ↓Gd_none, ↓Gd_t, ↓Gd_f, reduceIte, reduceCtorEq, Int.reduceLE, Int.reduceLT, Int.reduceToNat, Int.reduceNeg, Nat.reduceLT, Nat.reduceEqDiff, Nat.reduceAdd, Nat.reduceSub, Nat.reduceMul, Nat.reduceLeDiff]
    ((repeat refine W_seq ?_); refine W_region0 T_ok ?_)
    simp (maxSteps := 1000000) only [VL, VM, ↓Gd_none, ↓Gd_t, ↓Gd_f, reduceIte, reduceCtorEq, Int.reduceLE, Int.reduceLT, Int.reduceToNat, Int.reduceNeg, Nat.reduceLT, Nat.reduceEqDiff, Nat.reduceAdd, Nat.reduceSub, Nat.reduceMul, Nat.reduceLeDiff, hx']
    refine (hf _ (List.getElem_mem hlt)).mono ?_
    rintro _ _ ⟨rfl, rfl⟩
    simp (maxSteps := 1000000) only [VL, VM, ↓Gd_none, ↓Gd_t, ↓Gd_f, reduceIte, reduceCtorEq, Int.reduceLE, Int.reduceLT, Int.reduceToNat, Int.reduceNeg, Nat.reduceLT, Nat.reduceEqDiff, Nat.reduceAdd, Nat.reduceSub, Nat.reduceMul, Nat.reduceLeDiff]
    cases hp : p xs[i]
    · ((repeat refine W_seq ?_); refine W_cond (b := false) (by first | rfl | simp only [ev, get_cons, Nat.reduceEqDiff, if_true, if_false, reduceIte]) (fun h => by cases h) (fun _ => ?_))
      ((repeat refine W_seq ?_); refine W_skip ?_)
      simp (maxSteps := 1000000) only [VL, VM, ↓Gd_none, ↓Gd_t, ↓Gd_f, reduceIte, reduceCtorEq, Int.reduceLE, Int.reduceLT, Int.reduceToNat, Int.reduceNeg, Nat.reduceLT, Nat.reduceEqDiff, Nat.reduceAdd, Nat.reduceSub, Nat.reduceMul, Nat.reduceLeDiff]
      ((repeat refine W_seq ?_); refine W_region0 T_ok ?_)
      simp (maxSteps := 1000000) only [VL, VM, ↓Gd_none, ↓Gd_t, ↓Gd_f, reduceIte, reduceCtorEq, Int.reduceLE, Int.reduceLT, Int.reduceToNat, Int.reduceNeg, Nat.reduceLT, Nat.reduceEqDiff, Nat.reduceAdd, Nat.reduceSub, Nat.reduceMul, Nat.reduceLeDiff, k1]
      refine LoopK.mk (i + 1) (by omega) ⟨by omega, ?_⟩ ⟨rfl, rfl, rfl, rfl, trivial⟩ rfl
      rw [any_take p xs i _ hx, hno, hp]; rfl
    · ((repeat refine W_seq ?_); refine W_cond (b := true) (by first | rfl | simp only [ev, get_cons, Nat.reduceEqDiff, if_true, if_false, reduceIte]) (fun _ => ?_) (fun h => by cases h))
      ((repeat refine W_seq ?_); refine W_region0 T_ok ?_)
      simp (maxSteps := 1000000) only [VL, VM, ↓Gd_none, ↓Gd_t, ↓Gd_f, reduceIte, reduceCtorEq, Int.reduceLE, Int.reduceLT, Int.reduceToNat, Int.reduceNeg, Nat.reduceLT, Nat.reduceEqDiff, Nat.reduceAdd, Nat.reduceSub, Nat.reduceMul, Nat.reduceLeDiff]
      (repeat refine W_seq ?_)
      refine W_ret ?_
      try simp only [thenQ, blockQ]
      refine own_ret0 rfl rfl rfl ⟨rfl, (i : Int), rfl, ?_⟩
      rw [any_hit p xs i _ hx hp]; simp
  · have k2 : ((i : Int) < (xs.length : Int)) = False := eq_false (by omega)
    simp (maxSteps := 1000000) only [VL, VM, ↓Gd_none, ↓Gd_t, ↓Gd_f, reduceIte, reduceCtorEq, Int.reduceLE, Int.reduceLT, Int.reduceToNat, Int.reduceNeg, Nat.reduceLT, Nat.reduceEqDiff, Nat.reduceAdd, Nat.reduceSub, Nat.reduceMul, Nat.reduceLeDiff, k1, k2]
    ((repeat refine W_seq ?_); refine W_cond (b := false) (by first | rfl | simp only [ev, get_cons, Nat.reduceEqDiff, if_true, if_false, reduceIte]) (fun h => by cases h) (fun _ => ?_))
    ((repeat refine W_seq ?_); refine W_exit ?_)
    simp (maxSteps := 1000000) only [VL, VM, ↓Gd_none, ↓Gd_t, ↓Gd_f, reduceIte, reduceCtorEq, Int.reduceLE, Int.reduceLT, Int.reduceToNat, Int.reduceNeg, Nat.reduceLT, Nat.reduceEqDiff, Nat.reduceAdd, Nat.reduceSub, Nat.reduceMul, Nat.reduceLeDiff]
    ((repeat refine W_seq ?_); refine W_region0 T_ok ?_)
    simp (maxSteps := 1000000) only [VL, VM, ↓Gd_none, ↓Gd_t, ↓Gd_f, reduceIte, reduceCtorEq, Int.reduceLE, Int.reduceLT, Int.reduceToNat, Int.reduceNeg, Nat.reduceLT, Nat.reduceEqDiff, Nat.reduceAdd, Nat.reduceSub, Nat.reduceMul, Nat.reduceLeDiff]
    (repeat refine W_seq ?_)
    refine W_ret ?_
    try simp only [thenQ, blockQ]
    refine own_ret0 rfl rfl rfl ⟨rfl, -1, rfl, ?_⟩
    rw [List.take_of_length_le hge] at hno
    rw [hno]; rfl
theorem containsints_vm (fv : VV) (xs : List Int) (p : Int → Bool) (M : Mem) (hl : xs.length ≤ 1000000) (hs : strip1 fv = fv) (hf : ∀ x ∈ xs, VCall Try.prog fv [vi x] M (fun r M' => M' = M ∧ r = vb (p x))) :
    VC Try.prog 80 [intsV xs, fv] M (fun r M' => M' = M ∧ r = vb (xs.any p)) := by
  refine VC_own' T_ok (f := 80) (fn := Try.f80) (by kernel_rfl) rfl Try.ntmps80 (by rfl) (by rfl) ?_
  ((repeat refine W_seq ?_); refine W_region0 T_ok ?_)
  simp (maxSteps := 1000000) only [VL, VM, ↓Gd_none, ↓Gd_t, ↓Gd_f, reduceIte, reduceCtorEq, Int.reduceLE, Int.reduceLT, Int.reduceToNat, Int.reduceNeg, Nat.reduceLT, Nat.reduceEqDiff, Nat.reduceAdd, Nat.reduceSub, Nat.reduceMul, Nat.reduceLeDiff]
  ((repeat refine W_seq ?_); refine W_region0 T_ok ?_)
  simp (maxSteps := 1000000) only [VL, VM, ↓Gd_none, ↓Gd_t, ↓Gd_f, reduceIte, reduceCtorEq, Int.reduceLE, Int.reduceLT, Int.reduceToNat, Int.reduceNeg, Nat.reduceLT, Nat.reduceEqDiff, Nat.reduceAdd, Nat.reduceSub, Nat.reduceMul, Nat.reduceLeDiff]
  refine fn_call (f := 100) (fn := Try.f100) (by kernel_rfl) (by rfl) ?_
  rw [show List.map strip1 [intsV xs, fv] = [intsV xs, fv] by rw [List.map_cons, List.map_cons, hs]; rfl]
  refine (indexints_vm fv xs p M hl hf).mono ?_
  rintro _ _ ⟨rfl, k, rfl, hk⟩
  simp (maxSteps := 1000000) only [VL, VM, ↓Gd_none, ↓Gd_t, ↓Gd_f, reduceIte, reduceCtorEq, Int.reduceLE, Int.reduceLT, Int.reduceToNat, Int.reduceNeg, Nat.reduceLT, Nat.reduceEqDiff, Nat.reduceAdd, Nat.reduceSub, Nat.reduceMul, Nat.reduceLeDiff]
  (repeat refine W_seq ?_)
  refine W_ret ?_
  try simp only [thenQ, blockQ]
  refine own_ret10 rfl ?_ (by rfl)
  simp only [get_cons, frz, vtup, Nat.reduceEqDiff, if_true, if_false, reduceIte]
  rw [hk]
end Go.Proofs.Ytijcmgfblpokhaa.Vm

/- The program's small functions, on values, part 2. (Vm) -/
namespace Go.Proofs.Ytijcmgfblpokhaa.Vm
open Go Go.Proofs
theorem far_vm (a b : Pl) (M : Mem) (a1 : 0 ≤ a.x) (a2 : a.x ≤ 1000) (a3 : 0 ≤ a.y) (a4 : a.y ≤ 1000) (b1 : 0 ≤ b.x) (b2 : b.x ≤ 1000) (b3 : 0 ≤ b.y) (b4 : b.y ≤ 1000) :
    VC Try.prog 110 [plV a, plV b] M (fun r M' => M' = M ∧ r = vi (farOf a b)) := by
  have k1 : -9223372036854775808 ≤ a.x - b.x ∧ a.x - b.x < 9223372036854775808 := by omega
  have k2 : -9223372036854775808 ≤ b.x - a.x ∧ b.x - a.x < 9223372036854775808 := by omega
  have k3 : -9223372036854775808 ≤ a.y - b.y ∧ a.y - b.y < 9223372036854775808 := by omega
  have k4 : -9223372036854775808 ≤ b.y - a.y ∧ b.y - a.y < 9223372036854775808 := by omega
  have k5 : -9223372036854775808 ≤ max (a.x - b.x) (b.x - a.x) + max (a.y - b.y) (b.y - a.y) ∧ max (a.x - b.x) (b.x - a.x) + max (a.y - b.y) (b.y - a.y) < 9223372036854775808 := by omega
  refine VC_own' T_ok (f := 110) (fn := Try.f110) (by kernel_rfl) rfl Try.ntmps110 (by rfl) (by rfl) ?_
  ((repeat refine W_seq ?_); refine W_region0 T_ok ?_)
  simp (maxSteps := 1000000) only [VL, VM, ↓Gd_none, ↓Gd_t, ↓Gd_f, reduceIte, reduceCtorEq, Int.reduceLE, Int.reduceLT, Int.reduceToNat, Int.reduceNeg, Nat.reduceLT, Nat.reduceEqDiff, Nat.reduceAdd, Nat.reduceSub, Nat.reduceMul, Nat.reduceLeDiff]
  ((repeat refine W_seq ?_); refine W_region0 T_ok ?_)
  simp (maxSteps := 1000000) only [VL, VM, ↓Gd_none, ↓Gd_t, ↓Gd_f, reduceIte, reduceCtorEq, Int.reduceLE, Int.reduceLT, Int.reduceToNat, Int.reduceNeg, Nat.reduceLT, Nat.reduceEqDiff, Nat.reduceAdd, Nat.reduceSub, Nat.reduceMul, Nat.reduceLeDiff, k1, k2, k3, k4, k5]
  (repeat refine W_seq ?_)
  refine W_ret ?_
  try simp only [thenQ, blockQ]
  refine own_ret1 rfl ?_ (by rfl)
  simp only [get_cons, frz, vtup, Nat.reduceEqDiff, if_true, if_false, reduceIte]
  rfl
theorem unless_vm (b : Bool) (n : Int) (M : Mem) : VC Try.prog 103 [vb b, vi n] M (fun r M' => M' = M ∧ r = vi (if b then 0 else n)) := by
  refine VC_own' T_ok (f := 103) (fn := Try.f103) (by kernel_rfl) rfl Try.ntmps103 (by rfl) (by rfl) ?_
  ((repeat refine W_seq ?_); refine W_region0 T_ok ?_)
  simp (maxSteps := 1000000) only [VL, VM, ↓Gd_none, ↓Gd_t, ↓Gd_f, reduceIte, reduceCtorEq, Int.reduceLE, Int.reduceLT, Int.reduceToNat, Int.reduceNeg, Nat.reduceLT, Nat.reduceEqDiff, Nat.reduceAdd, Nat.reduceSub, Nat.reduceMul, Nat.reduceLeDiff]
  ((repeat refine W_seq ?_); refine W_region0 T_ok ?_)
  simp (maxSteps := 1000000) only [VL, VM, ↓Gd_none, ↓Gd_t, ↓Gd_f, reduceIte, reduceCtorEq, Int.reduceLE, Int.reduceLT, Int.reduceToNat, Int.reduceNeg, Nat.reduceLT, Nat.reduceEqDiff, Nat.reduceAdd, Nat.reduceSub, Nat.reduceMul, Nat.reduceLeDiff]
  cases b
  · ((repeat refine W_seq ?_); refine W_cond (b := false) (by first | rfl | simp only [ev, get_cons, Nat.reduceEqDiff, if_true, if_false, reduceIte]) (fun h => by cases h) (fun _ => ?_))
    ((repeat refine W_seq ?_); refine W_skip ?_)
    simp (maxSteps := 1000000) only [VL, VM, ↓Gd_none, ↓Gd_t, ↓Gd_f, reduceIte, reduceCtorEq, Int.reduceLE, Int.reduceLT, Int.reduceToNat, Int.reduceNeg, Nat.reduceLT, Nat.reduceEqDiff, Nat.reduceAdd, Nat.reduceSub, Nat.reduceMul, Nat.reduceLeDiff]
    ((repeat refine W_seq ?_); refine W_region0 T_ok ?_)
    simp (maxSteps := 1000000) only [VL, VM, ↓Gd_none, ↓Gd_t, ↓Gd_f, reduceIte, reduceCtorEq, Int.reduceLE, Int.reduceLT, Int.reduceToNat, Int.reduceNeg, Nat.reduceLT, Nat.reduceEqDiff, Nat.reduceAdd, Nat.reduceSub, Nat.reduceMul, Nat.reduceLeDiff]
    (repeat refine W_seq ?_)
    refine W_ret ?_
    try simp only [thenQ, blockQ]
    refine own_ret10 rfl ?_ (by rfl)
    rfl
  · ((repeat refine W_seq ?_); refine W_cond (b := true) (by first | rfl | simp only [ev, get_cons, Nat.reduceEqDiff, if_true, if_false, reduceIte]) (fun _ => ?_) (fun h => by cases h))
    ((repeat refine W_seq ?_); refine W_region0 T_ok ?_)
    simp (maxSteps := 1000000) only [VL, VM, ↓Gd_none, ↓Gd_t, ↓Gd_f, reduceIte, reduceCtorEq, Int.reduceLE, Int.reduceLT, Int.reduceToNat, Int.reduceNeg, Nat.reduceLT, Nat.reduceEqDiff, Nat.reduceAdd, Nat.reduceSub, Nat.reduceMul, Nat.reduceLeDiff]
    (repeat refine W_seq ?_)
    refine W_ret ?_
    try simp only [thenQ, blockQ]
    refine own_ret10 rfl ?_ (by rfl)
    rfl
theorem bay_vm (h : Ha) (c : Pl) (M : Mem) (S : Small h) (c1 : 0 ≤ c.x) (c2 : c.x ≤ 1000) (c3 : 0 ≤ c.y) (c4 : c.y ≤ 1000) : VC Try.prog 96 [hallV h, plV c] M (fun r M' => M' = M ∧ r = vi (bayOf h c)) := by
  have hc := cols_le S
  have hS := S
  obtain ⟨w1, w2, d1, d2, x1, x2, y1, y2⟩ := S
  have hy := div_le (n := c.y) (b := h.bay.y) c3 y1
  have hx := div_le (n := c.x) (b := h.bay.x) c1 x1
  have hm := mul_le hy.1 hc.1 (show c.y / h.bay.y ≤ 1000 by omega) hc.2
  have k1 : 0 ≤ c.y ∧ c.y < 9223372036854775808 := by omega
  have k2 : 0 ≤ c.x ∧ c.x < 9223372036854775808 := by omega
  have k3 : -9223372036854775808 ≤ c.y / h.bay.y * colsOf h ∧ c.y / h.bay.y * colsOf h < 9223372036854775808 := by unfold colsOf; omega
  have k4 : -9223372036854775808 ≤ c.y / h.bay.y * colsOf h + c.x / h.bay.x ∧ c.y / h.bay.y * colsOf h + c.x / h.bay.x < 9223372036854775808 := by unfold colsOf; omega
  refine VC_own' T_ok (f := 96) (fn := Try.f96) (by kernel_rfl) rfl Try.ntmps96 (by rfl) (by rfl) ?_
  ((repeat refine W_seq ?_); refine W_region0 T_ok ?_)
  simp (maxSteps := 1000000) only [VL, VM, ↓Gd_none, ↓Gd_t, ↓Gd_f, reduceIte, reduceCtorEq, Int.reduceLE, Int.reduceLT, Int.reduceToNat, Int.reduceNeg, Nat.reduceLT, Nat.reduceEqDiff, Nat.reduceAdd, Nat.reduceSub, Nat.reduceMul, Nat.reduceLeDiff]
  (repeat refine W_seq ?_)
  refine W_drawP T_ok [] (by kernel_rfl) (by kernel_rfl) ?_
  generalize hi : mkPlan _ = infs
  cbv at hi
  subst hi
  simp (maxSteps := 1000000) only [VL, VM, ↓Gd_none, ↓Gd_t, ↓Gd_f, reduceIte, reduceCtorEq, Int.reduceLE, Int.reduceLT, Int.reduceToNat, Int.reduceNeg, Nat.reduceLT, Nat.reduceEqDiff, Nat.reduceAdd, Nat.reduceSub, Nat.reduceMul, Nat.reduceLeDiff, k1, y1]
  apply call_d (f := 99) (fn := Try.f99) (by kernel_rfl) (by rfl)
  · exact columns_vm h _ hS
  simp (maxSteps := 1000000) only [VL, VM, ↓Gd_none, ↓Gd_t, ↓Gd_f, reduceIte, reduceCtorEq, Int.reduceLE, Int.reduceLT, Int.reduceToNat, Int.reduceNeg, Nat.reduceLT, Nat.reduceEqDiff, Nat.reduceAdd, Nat.reduceSub, Nat.reduceMul, Nat.reduceLeDiff, k1, k2, k3, k4, x1, y1]
  (repeat refine W_seq ?_)
  refine W_ret ?_
  try simp only [thenQ, blockQ]
  refine own_ret1 rfl ?_ (by rfl)
  simp only [get_cons, frz, vtup, Nat.reduceEqDiff, if_true, if_false, reduceIte]
  rfl
theorem away_vm (n : Int) (M : Mem) : VC Try.prog 101 [vi n] M (fun r M' => M' = M ∧ r = vb (!inR n 0 9)) := by
  refine VC_own' T_ok (f := 101) (fn := Try.f101) (by kernel_rfl) rfl Try.ntmps101 (by rfl) (by rfl) ?_
  ((repeat refine W_seq ?_); refine W_region0 T_ok ?_)
  simp (maxSteps := 1000000) only [VL, VM, ↓Gd_none, ↓Gd_t, ↓Gd_f, reduceIte, reduceCtorEq, Int.reduceLE, Int.reduceLT, Int.reduceToNat, Int.reduceNeg, Nat.reduceLT, Nat.reduceEqDiff, Nat.reduceAdd, Nat.reduceSub, Nat.reduceMul, Nat.reduceLeDiff]
  ((repeat refine W_seq ?_); refine W_region0 T_ok ?_)
  simp (maxSteps := 1000000) only [VL, VM, ↓Gd_none, ↓Gd_t, ↓Gd_f, reduceIte, reduceCtorEq, Int.reduceLE, Int.reduceLT, Int.reduceToNat, Int.reduceNeg, Nat.reduceLT, Nat.reduceEqDiff, Nat.reduceAdd, Nat.reduceSub, Nat.reduceMul, Nat.reduceLeDiff]
  apply call_eq (f := 77) (fn := Try.f77) (by kernel_rfl) (by rfl)
  · exact in_vm _ _ _ _
  simp (maxSteps := 1000000) only [VL, VM, ↓Gd_none, ↓Gd_t, ↓Gd_f, reduceIte, reduceCtorEq, Int.reduceLE, Int.reduceLT, Int.reduceToNat, Int.reduceNeg, Nat.reduceLT, Nat.reduceEqDiff, Nat.reduceAdd, Nat.reduceSub, Nat.reduceMul, Nat.reduceLeDiff]
  (repeat refine W_seq ?_)
  refine W_ret ?_
  try simp only [thenQ, blockQ]
  refine own_ret10 rfl ?_ (by rfl)
  simp only [get_cons, frz, vtup, Nat.reduceEqDiff, if_true, if_false, reduceIte]
theorem bearsin_vm (n : Int) (M : Mem) : VC Try.prog 81 [vi n] M (fun r M' => M' = M ∧ r = vb (!inR n 0 10000000)) := by
  refine VC_own' T_ok (f := 81) (fn := Try.f81) (by kernel_rfl) rfl Try.ntmps81 (by rfl) (by rfl) ?_
  ((repeat refine W_seq ?_); refine W_region0 T_ok ?_)
  simp (maxSteps := 1000000) only [VL, VM, ↓Gd_none, ↓Gd_t, ↓Gd_f, reduceIte, reduceCtorEq, Int.reduceLE, Int.reduceLT, Int.reduceToNat, Int.reduceNeg, Nat.reduceLT, Nat.reduceEqDiff, Nat.reduceAdd, Nat.reduceSub, Nat.reduceMul, Nat.reduceLeDiff]
  ((repeat refine W_seq ?_); refine W_region0 T_ok ?_)
  simp (maxSteps := 1000000) only [VL, VM, ↓Gd_none, ↓Gd_t, ↓Gd_f, reduceIte, reduceCtorEq, Int.reduceLE, Int.reduceLT, Int.reduceToNat, Int.reduceNeg, Nat.reduceLT, Nat.reduceEqDiff, Nat.reduceAdd, Nat.reduceSub, Nat.reduceMul, Nat.reduceLeDiff]
  apply call_eq (f := 77) (fn := Try.f77) (by kernel_rfl) (by rfl)
  · exact in_vm _ _ _ _
  simp (maxSteps := 1000000) only [VL, VM, ↓Gd_none, ↓Gd_t, ↓Gd_f, reduceIte, reduceCtorEq, Int.reduceLE, Int.reduceLT, Int.reduceToNat, Int.reduceNeg, Nat.reduceLT, Nat.reduceEqDiff, Nat.reduceAdd, Nat.reduceSub, Nat.reduceMul, Nat.reduceLeDiff]
  (repeat refine W_seq ?_)
  refine W_ret ?_
  try simp only [thenQ, blockQ]
  refine own_ret10 rfl ?_ (by rfl)
  simp only [get_cons, frz, vtup, Nat.reduceEqDiff, if_true, if_false, reduceIte]
end Go.Proofs.Ytijcmgfblpokhaa.Vm
