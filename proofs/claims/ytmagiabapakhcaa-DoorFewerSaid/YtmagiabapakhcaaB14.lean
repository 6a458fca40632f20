/- A part of the proofs about the chapter of the doors; it states no condition of its own. -/
import Derived.Test.YtmagiabapakhcaaB13
set_option linter.unusedVariables false
set_option linter.unusedSimpArgs false
/- A machine on values: code. -/
namespace Go.Proofs.Ytmagiabapakhcaa.Vm
open Go

structure Cx where
  fid : Nat
  rd : Option Nat
  nt : Nat
abbrev PQ := Exit → Env → Mem → List Nat → Prop
structure StOk (cx : Cx) (G : Ghost) (w : World) (K : Nat → Option Nat) (M : Mem) (a : Act) (e : Env) (D : List Nat) : Prop where
  fr : FrOk w K M cx.nt a.tmps e
  df : PW (fun (d : Deferred) (id : Nat) => ∃ b, K id = some b ∧ d = { target := .collected b, args := #[] } ∧ M.H[id]? = some .dfr) a.defers D
  inv : Inv G w K M
  rd : ∀ id, cx.rd = some id → ∃ L, M.H[id]? = some (.lp L)
def OkEx : Exit → Prop
  | .normal | .ret | .exit _ => True
  | _ => False
def prune (vs : List Nat) (e : Env) : Env := vs.map fun t => (t, get e t)

section
variable {w w' : World} {K K' : Nat → Option Nat} {M M' : Mem}
theorem Ext.dfr (he : Ext w K M.H w' K' M'.H) {id : Nat} (h : M.H[id]? = some .dfr) : M'.H[id]? = some .dfr ∧ K' id = K id := by
  obtain ⟨o', ho, hl⟩ := he.obj id _ h
  obtain ⟨rfl, hk⟩ := hl
  exact ⟨ho, hk⟩
theorem Ext.lp (he : Ext w K M.H w' K' M'.H) {id : Nat} {L : LoopV} (h : M.H[id]? = some (.lp L)) : (∃ L', M'.H[id]? = some (.lp L')) ∧ K' id = K id := by
  obtain ⟨o', ho, hl⟩ := he.obj id _ h
  obtain ⟨⟨L', rfl⟩, hk⟩ := hl
  exact ⟨⟨L', ho⟩, hk⟩
theorem df_ext {ds : List Deferred} {D : List Nat} (he : Ext w K M.H w' K' M'.H) (h : PW (fun (d : Deferred) (id : Nat) => ∃ b, K id = some b ∧ d = { target := .collected b, args := #[] } ∧ M.H[id]? = some .dfr) ds D) :
    PW (fun (d : Deferred) (id : Nat) => ∃ b, K' id = some b ∧ d = { target := .collected b, args := #[] } ∧ M'.H[id]? = some .dfr) ds D :=
  ⟨h.1, fun i a b ha hb => by
    obtain ⟨x, h1, h2, h3⟩ := h.2 i a b ha hb
    obtain ⟨h4, h5⟩ := he.dfr h3
    exact ⟨x, h5.trans h1, h2, h4⟩⟩
theorem rd_ext {cx : Cx} (he : Ext w K M.H w' K' M'.H) (h : ∀ id, cx.rd = some id → ∃ L, M.H[id]? = some (.lp L)) : (∀ id, cx.rd = some id → ∃ L, M'.H[id]? = some (.lp L)) ∧ cx.rd.bind K' = cx.rd.bind K := by
  refine ⟨fun id hid => ?_, ?_⟩
  · obtain ⟨L, hL⟩ := h id hid
    exact (he.lp hL).1
  · cases hr : cx.rd with
    | none => rfl
    | some id =>
      obtain ⟨L, hL⟩ := h id hr
      exact (he.lp hL).2
end
theorem get_prune (vs : List Nat) (e : Env) (t : Nat) : get (prune vs e) t = get e t ∨ get (prune vs e) t = .any := by
  unfold prune
  induction vs with
  | nil => exact .inr rfl
  | cons v vs ih =>
    simp only [List.map_cons, get_cons]
    by_cases h : t = v
    · rw [if_pos h, h]; exact .inl rfl
    · rw [if_neg h]; exact ih
theorem FrOk.weak {w : World} {K : Nat → Option Nat} {M : Mem} {nt : Nat} {tmps : Array Value} {e e' : Env} (h : FrOk w K M nt tmps e) (hw : ∀ t, get e' t = get e t ∨ get e' t = .any) : FrOk w K M nt tmps e' :=
  ⟨h.size, fun t => by rcases hw t with h1 | h1 <;> rw [h1]; exact h.rep t; exact .any _, fun t => by rcases hw t with h1 | h1 <;> rw [h1]; exact h.cl t; exact cl_any _⟩

/-- the least number with a property -/
theorem least {p : Nat → Prop} (h : ∃ n, p n) : ∃ n, p n ∧ ∀ m, p m → n ≤ m := by
  obtain ⟨n, hn⟩ := h
  induction n using Nat.strongRecOn with
  | _ n ih =>
    by_cases hm : ∃ m, m < n ∧ p m
    · obtain ⟨m, hlt, hpm⟩ := hm
      exact ih m hlt hpm
    · exact ⟨n, hn, fun m hpm => Nat.le_of_not_lt fun hlt => hm ⟨m, hlt, hpm⟩⟩
open Classical in
noncomputable def leastOf (p : Nat → Prop) : Nat := if h : ∃ n, p n then (least h).choose else 0
theorem leastOf_spec {p : Nat → Prop} {n : Nat} (h : p n) : p (leastOf p) ∧ leastOf p ≤ n := by
  have hx : ∃ n, p n := ⟨n, h⟩
  unfold leastOf
  rw [dif_pos hx]
  exact ⟨(least hx).choose_spec.1, (least hx).choose_spec.2 n h⟩

section
variable (P : Program) (T : Tab)
/-- what is asked of a way out -/
def WPost (cx : Cx) (G : Ghost) (w : World) (K : Nat → Option Nat) (M : Mem) (Q : PQ) (ex : Exit) (a' : Act) (w' : World) : Prop :=
  ∃ e' M' K' D', Q ex e' M' D' ∧ OkEx ex ∧ StOk cx G w' K' M' a' e' D' ∧ Ext w K M.H w' K' M'.H
def WCode (cx : Cx) (c : Code) (e : Env) (M : Mem) (D : List Nat) (Q : PQ) : Prop :=
  ∀ (G : Ghost) (w : World) (K : Nat → Option Nat) (a : Act), StOk cx G w K M a e D → c.wpIn (fence (cx.rd.bind K)) 0 P (WPost cx G w K M Q) a w
def thenQ (Kn : Env → Mem → List Nat → Prop) (Q : PQ) : PQ
  | .normal, e, M, D => Kn e M D
  | ex, e, M, D => Q ex e M D
def blockQ (id : Nat) (Q : PQ) : PQ
  | .exit id', e, M, D => if id' = id then Q .normal e M D else Q (.exit id') e M D
  | ex, e, M, D => Q ex e M D

variable {P T}
variable {cx : Cx} {e : Env} {M : Mem} {D : List Nat} {Q : PQ}
theorem WCode.mono {c : Code} {Q' : PQ} (h : WCode P cx c e M D Q) (hq : ∀ ex e M D, Q ex e M D → Q' ex e M D) : WCode P cx c e M D Q' := fun G w K a hs =>
  wpIn_mono (h G w K a hs) fun ex a' w' ⟨e', M', K', D', h1, h2⟩ => ⟨e', M', K', D', hq _ _ _ _ h1, h2⟩
theorem WCode.weak {c : Code} {e' : Env} (h : WCode P cx c e' M D Q) (hw : ∀ t, get e' t = get e t ∨ get e' t = .any) : WCode P cx c e M D Q := fun G w K a hs =>
  h G w K a ⟨hs.fr.weak hw, hs.df, hs.inv, hs.rd⟩
theorem W_skip (h : Q .normal e M D) : WCode P cx .skip e M D Q := fun G w K a hs => wpIn_skip ⟨e, M, K, D, h, trivial, hs, Ext.refl _ _ _⟩
theorem W_exit {id : Nat} (h : Q (.exit id) e M D) : WCode P cx (.exit id) e M D Q := fun G w K a hs => wpIn_exit ⟨e, M, K, D, h, trivial, hs, Ext.refl _ _ _⟩
theorem W_ret (h : Q .ret e M D) : WCode P cx .ret e M D Q := fun G w K a hs => wpIn_ret ⟨e, M, K, D, h, trivial, hs, Ext.refl _ _ _⟩
theorem W_seq {x y : Code} (h : WCode P cx x e M D (thenQ (fun e' M' D' => WCode P cx y e' M' D' Q) Q)) : WCode P cx (.seq x y) e M D Q := by
  intro G w K a hs
  refine wpIn_seq (wpIn_mono (h G w K a hs) ?_)
  rintro ex a' w' ⟨e', M', K', D', h1, h2, h3, h4⟩
  cases ex with
  | normal =>
    have hy : WCode P cx y e' M' D' Q := h1
    have := hy G w' K' a' h3
    rw [(rd_ext h4 hs.rd).2] at this
    exact wpIn_mono this fun ex a2 w2 ⟨e2, M2, K2, D2, q1, q2, q3, q4⟩ => ⟨e2, M2, K2, D2, q1, q2, q3, h4.trans q4⟩
  | ret => exact ⟨e', M', K', D', h1, h2, h3, h4⟩
  | exit id => exact ⟨e', M', K', D', h1, h2, h3, h4⟩
  | _ => exact h2.elim
theorem W_cond {c : Operand} {x y : Code} {b : Bool} (hb : ev e c = .p (.bool b)) (hx : b = true → WCode P cx x e M D Q) (hy : b = false → WCode P cx y e M D Q) : WCode P cx (.cond c x y) e M D Q := by
  intro G w K a hs
  have := (hs.fr.ev c).1
  rw [hb] at this
  have := rep_bool this
  cases b with
  | true => exact wpIn_cond_true this (hx rfl G w K a hs)
  | false => exact wpIn_cond_false this (hy rfl G w K a hs)
theorem W_block {id : Nat} {c : Code} (h : WCode P cx c e M D (blockQ id Q)) : WCode P cx (.block id c) e M D Q := by
  intro G w K a hs
  refine wpIn_block (wpIn_mono (h G w K a hs) ?_)
  rintro ex a' w' ⟨e', M', K', D', h1, h2, h3, h4⟩
  cases ex with
  | exit id' =>
    simp only [blockQ] at h1
    simp only [Exit.inBlock]
    by_cases hid : id' = id
    · rw [if_pos hid] at h1 ⊢
      exact ⟨e', M', K', D', h1, trivial, h3, h4⟩
    · rw [if_neg hid] at h1 ⊢
      exact ⟨e', M', K', D', h1, trivial, h3, h4⟩
  | normal => exact ⟨e', M', K', D', h1, h2, h3, h4⟩
  | ret => exact ⟨e', M', K', D', h1, h2, h3, h4⟩
  | _ => exact h2.elim
theorem W_loop {c : Code} (I : Nat → Env → Mem → List Nat → Prop) {n : Nat} (h0 : I n e M D)
    (round : ∀ n e M D, I n e M D → WCode P cx c e M D (thenQ (fun e' M' D' => ∃ n', n' < n ∧ I n' e' M' D') Q)) : WCode P cx (.loop c) e M D Q := by
  intro G w K a hs
  let J : Nat → Act → World → Prop := fun n a' w' => ∃ e' M' K' D', I n e' M' D' ∧ StOk cx G w' K' M' a' e' D' ∧ Ext w K M.H w' K' M'.H
  refine wpIn_loop (fun a' w' => ∃ n, J n a' w') (fun a' w' => leastOf fun n => J n a' w') ⟨n, e, M, K, D, h0, hs, Ext.refl _ _ _⟩ ?_
  rintro a1 w1 ⟨n1, hn1⟩
  obtain ⟨⟨e', M', K', D', h1, h2, h3⟩, _⟩ := leastOf_spec (p := fun n => J n a1 w1) hn1
  have hr := round _ e' M' D' h1 G w1 K' a1 h2
  rw [(rd_ext h3 hs.rd).2] at hr
  refine wpIn_mono hr ?_
  rintro ex a2 w2 ⟨e2, M2, K2, D2, q1, q2, q3, q4⟩
  cases ex with
  | normal =>
    obtain ⟨n', hlt, hI'⟩ := q1
    have hJ : J n' a2 w2 := ⟨e2, M2, K2, D2, hI', q3, h3.trans q4⟩
    exact ⟨⟨n', hJ⟩, Nat.lt_of_le_of_lt (leastOf_spec (p := fun n => J n a2 w2) hJ).2 hlt⟩
  | ret => exact ⟨e2, M2, K2, D2, q1, q2, q3, h3.trans q4⟩
  | exit id => exact ⟨e2, M2, K2, D2, q1, q2, q3, h3.trans q4⟩
  | _ => exact q2.elim
theorem W_region_g (hT : TabOk P T) {id : Nat} {ops : Array Oper} {f : Env → Env} (hf : ∀ e t, get (f e) t = get e t ∨ get (f e) t = .any) (h : WOps P T cx.nt ops ops.toList e M fun e' M' => Q .normal (f e') M' D) : WCode P cx (.region id ops false) e M D Q := by
  intro G w K a hs
  refine wpIn_region ?_
  have := wops_ok hT (r := cx.rd.bind K) (Q := WPost cx G w K M Q) ops.toList 0 w K M a e _ (fun j => by simp) hs.fr hs.inv h fun e' M' a' w' K' h1 h2 h3 h4 h5 =>
    ⟨f e', M', K', D, h1, trivial, ⟨h2.weak (hf e'), by rw [h3]; exact df_ext h5 hs.df, h4, (rd_ext h5 hs.rd).1⟩, h5⟩
  rw [List.range_eq_range']
  simpa using this
theorem W_region0 (hT : TabOk P T) {id : Nat} {ops : Array Oper} (h : WOps P T cx.nt ops ops.toList e M fun e' M' => Q .normal e' M' D) : WCode P cx (.region id ops false) e M D Q := W_region_g (f := fun e => e) hT (fun _ _ => .inl rfl) h
end
end Go.Proofs.Ytmagiabapakhcaa.Vm
