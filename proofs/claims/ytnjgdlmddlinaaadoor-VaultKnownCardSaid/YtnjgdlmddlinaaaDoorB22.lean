/- A part of the proofs about the chapter of the vaults; it states no condition of its own. -/
import Derived.Test.YtnjgdlmddlinaaaDoorB21
set_option linter.unusedVariables false
set_option linter.unusedSimpArgs false
/- Layouts in another order, and fewer puts: plain facts. (Vm) -/
namespace Go.Proofs.YtnjgdlmddlinaaaDoor.Vm
open Go Go.Proofs
def ownB (h : Ha) (p : Pu) : Bool := isPl h p.pl && !hasPl h.shut p.pl && isKind h p.kind && (!(kAt h p.kind).water || hasPl h.water p.pl)
def Compat (h : Ha) (o p : Pu) : Prop := o.pl ≠ p.pl ∧ clash h o p = false
theorem far_symm (a b : Pl) : farOf a b = farOf b a := by
 unfold farOf
 rw [Int.max_comm (a.x - b.x), Int.max_comm (a.y - b.y)]
theorem clash_symm (h : Ha) (o p : Pu) : clash h o p = clash h p o := by
 unfold clash
 rw [far_symm, Int.max_comm]
theorem Compat.symm {h : Ha} {o p : Pu} (c : Compat h o p) : Compat h p o := ⟨fun e => c.1 e.symm, by rw [clash_symm]; exact c.2⟩
theorem putErr_zero {h : Ha} {b : List Pu} {p : Pu} : putErr h b p = 0 ↔ ownB h p = true ∧ ∀ o ∈ b, Compat h o p := by
 unfold putErr ownB Compat
 cases h1 : isPl h p.pl
 ·simp
 cases h2 : hasPl h.shut p.pl
 rotate_left
 ·simp
 cases h3 : isKind h p.kind
 ·simp
 cases h4 : b.any fun o => decide (o.pl = p.pl)
 rotate_left
 ·simp only [Bool.not_true, Bool.false_eq_true, if_false, if_true]
  rw [List.any_eq_true] at h4
  obtain ⟨o, ho, h4⟩ := h4
  rw [decide_eq_true_eq] at h4
  constructor
  ·intro h; omega
  ·intro h; exact absurd h4 (h.2 o ho).1
 cases h5 : ((kAt h p.kind).water && !hasPl h.water p.pl)
 rotate_left
 ·simp only [Bool.not_true, Bool.false_eq_true, if_false, if_true]
  constructor
  ·intro h; omega
  ·intro h; simp at h5; simp [h5] at h
 have h5' : (!(kAt h p.kind).water || hasPl h.water p.pl) = true := by
  cases q1 : (kAt h p.kind).water <;> cases q2 : hasPl h.water p.pl <;> simp_all
 cases h6 : b.any fun o => clash h o p
 rotate_left
 ·simp only [Bool.not_true, Bool.false_eq_true, if_false, if_true]
  rw [List.any_eq_true] at h6
  obtain ⟨o, ho, h6⟩ := h6
  constructor
  ·intro h; omega
  ·intro h
   have := (h.2 o ho).2
   rw [h6] at this; cases this
 rw [List.any_eq_false] at h4 h6
 simp only [h5', Bool.not_true, Bool.not_false, Bool.and_true, Bool.false_eq_true, if_false, true_and]
 simp only [decide_eq_true_eq] at h4
 constructor
 ·intro _ o ho
  exact ⟨h4 o ho, by simpa using h6 o ho⟩
 ·intro _; trivial
def LayOk (h : Ha) (l : List Pu) : Prop := l.length ≤ 24 ∧ (∀ p ∈ l, ownB h p = true) ∧ l.Pairwise (Compat h) ∧ ∀ (k : Nat) (q : Ki), h.kinds[k]? = some q → (manyOf l k : Int) ≤ q.most
theorem layErr_zero {h : Ha} {l : List Pu} : layErr h l = 0 ↔ LayOk h l := by
 have hputs : firstErr (putErrAt h l) l.length = 0 ↔ (∀ p ∈ l, ownB h p = true) ∧ l.Pairwise (Compat h) := by
  rw [firstErr_zero]
  constructor
  ·intro hz
   have hz' : ∀ k (hk : k < l.length), ownB h l[k] = true ∧ ∀ o ∈ l.take k, Compat h o l[k] := by
    intro k hk
    have := hz k hk
    unfold putErrAt at this
    rw [List.getElem?_eq_getElem hk] at this
    exact putErr_zero.1 this
   refine ⟨fun p hp => ?_, ?_⟩
   ·obtain ⟨k, hk, rfl⟩ := List.getElem_of_mem hp
    exact (hz' k hk).1
   ·rw [List.pairwise_iff_getElem]
    intro i j hi hj hij
    refine (hz' j hj).2 l[i] ?_
    rw [List.mem_take_iff_getElem]
    exact ⟨i, by omega, rfl⟩
  ·rintro ⟨h1, h2⟩ k hk
   unfold putErrAt
   rw [List.getElem?_eq_getElem hk]
   refine putErr_zero.2 ⟨h1 _ (List.getElem_mem hk), fun o ho => ?_⟩
   rw [List.mem_take_iff_getElem] at ho
   obtain ⟨i, hi, rfl⟩ := ho
   exact List.pairwise_iff_getElem.1 h2 i k (by omega) hk (by omega)
 have hover : firstErr (overAt h l) h.kinds.length = 0 ↔ ∀ (k : Nat) (q : Ki), h.kinds[k]? = some q → (manyOf l k : Int) ≤ q.most := by
  rw [firstErr_zero]
  constructor
  ·intro hz k q hq
   have := hz k (List.getElem?_eq_some_iff.1 hq).1
   unfold overAt at this
   rw [hq] at this
   simp only at this
   split at this
   ·omega
   ·omega
  ·intro hz k hk
   unfold overAt
   rw [List.getElem?_eq_getElem hk]
   have := hz k _ (List.getElem?_eq_getElem hk)
   simp only
   rw [if_neg (by omega)]
 unfold layErr LayOk
 split
 ·constructor
  ·intro h; omega
  ·intro h; omega
 ·split
  ·rename_i h1 h2
   constructor
   ·intro h; exact absurd h h2
   ·rintro ⟨_, a, b, _⟩
    exact absurd (hputs.2 ⟨a, b⟩) h2
  ·rename_i h1 h2
   rw [hover]
   have h3 := hputs.1 (Decidable.not_not.1 h2)
   constructor
   ·intro h; exact ⟨by omega, h3.1, h3.2, h⟩
   ·intro h; exact h.2.2.2
theorem LayOk.sub {h : Ha} {l m : List Pu} (hs : m.Sublist l) (hl : LayOk h l) : LayOk h m :=
 ⟨by have := hs.length_le; have := hl.1; omega, fun p hm => hl.2.1 p (hs.mem hm), hl.2.2.1.sublist hs, fun k q hq => by
  have h1 := hl.2.2.2 k q hq
  have h2 := (hs.filter fun p : Pu => decide (p.kind = (k : Int))).length_le
  unfold manyOf at h1 ⊢
  omega⟩
end Go.Proofs.YtnjgdlmddlinaaaDoor.Vm

/- The best layout: plain facts. (Vm) -/
namespace Go.Proofs.YtnjgdlmddlinaaaDoor.Vm
open Go Go.Proofs
theorem allowedB_iff {h : Ha} {l : List Pu} : allowedB h l = true ↔ LayOk h l ∧ verdictOf h l = 1 := by
 unfold allowedB
 rw [Bool.and_eq_true, decide_eq_true_eq, decide_eq_true_eq, layErr_zero]
theorem LayOk.good {h : Ha} {l : List Pu} (hl : LayOk h l) : ∀ o ∈ l, GoodP h o := lay_good (layErr_zero.2 hl)
theorem allowedB_nil {h : Ha} (V : VH h) : allowedB h [] = true := by
 rw [allowedB_iff]
 refine ⟨⟨by simp, by simp, by simp, fun k q hq => ?_⟩, ?_⟩
 ·have := (V.kind q (List.mem_of_getElem? hq)).most0
  simpa [manyOf] using this
 ·unfold verdictOf
  have : fitsHi h [] h.bears.length = true := by
   unfold fitsHi
   rw [List.all_eq_true]
   intro i hi
   rw [List.mem_range] at hi
   have hb := V.bearsIn _ (List.getElem_mem hi)
   rw [decide_eq_true_eq, List.getD_eq_getElem?_getD, List.getElem?_eq_getElem hi]
   simp only [loadAt, List.filter_nil, List.map_nil, List.sum_nil, Option.getD_some]
   exact hb.1
  rw [this]; rfl
/-! ### the order of layouts -/
theorem puLt_asymm {x y : Pu} (h : puLt x y = true) : puLt y x = false := by
 unfold puLt at *
 by_cases h1 : x.pl.y = y.pl.y
 ·by_cases h2 : x.pl.x = y.pl.x
  ·simp [h1, h2] at *; omega
  ·have h3 : ¬ y.pl.x = x.pl.x := fun e => h2 e.symm
   simp [h1, h2, h3] at *; omega
 ·have h3 : ¬ y.pl.y = x.pl.y := fun e => h1 e.symm
  simp [h1, h3] at *; omega
theorem puLt_ne {x y : Pu} (h : puLt x y = true) : x ≠ y := by
 rintro rfl
 have := puLt_asymm h
 rw [h] at this; cases this
theorem puLt_total {x y : Pu} (h : x ≠ y) : puLt x y = true ∨ puLt y x = true := by
 unfold puLt
 by_cases h1 : x.pl.y = y.pl.y
 ·by_cases h2 : x.pl.x = y.pl.x
  ·have h4 : x.kind ≠ y.kind := fun e => h (by
    obtain ⟨⟨a, b⟩, c⟩ := x
    obtain ⟨⟨a', b'⟩, c'⟩ := y
    simp at *; exact ⟨⟨h2, h1⟩, e⟩)
   simp [h1, h2]; omega
  ·have h3 : ¬ y.pl.x = x.pl.x := fun e => h2 e.symm
   simp [h1, h2, h3]; omega
 ·have h3 : ¬ y.pl.y = x.pl.y := fun e => h1 e.symm
  simp [h1, h3]; omega
theorem puLt_trans {x y z : Pu} (h : puLt x y = true) (h' : puLt y z = true) : puLt x z = true := by
 unfold puLt at *
 by_cases a1 : x.pl.y = y.pl.y
 ·by_cases a2 : y.pl.y = z.pl.y
  ·by_cases b1 : x.pl.x = y.pl.x
   ·by_cases b2 : y.pl.x = z.pl.x
    ·simp [a1, a2, b1, b2] at *; omega
    ·simp [a1, a2, b1, b2] at *; omega
   ·by_cases b2 : y.pl.x = z.pl.x
    ·have b3 : ¬ x.pl.x = z.pl.x := by omega
     simp [a1, a2, b1, b2, b3] at *; omega
    ·simp [a1, a2, b1, b2] at *
     have b3 : ¬ x.pl.x = z.pl.x := by omega
     simp [b3]; omega
  ·simp [a1, a2] at *; omega
 ·by_cases a2 : y.pl.y = z.pl.y
  ·have a3 : ¬ x.pl.y = z.pl.y := by omega
   simp [a1, a2, a3] at *; omega
  ·simp [a1, a2] at *
   have a3 : ¬ x.pl.y = z.pl.y := by omega
   simp [a3]; omega
theorem firstB_total : ∀ {a b : List Pu}, a.length = b.length → a = b ∨ firstB a b = true ∨ firstB b a = true
 | [], [], _ => .inl rfl
 | [], _ :: _, h => by simp at h
 | _ :: _, [], h => by simp at h
 | x :: a, y :: b, h => by
  unfold firstB
  by_cases e : x = y
  ·rw [if_pos e, if_pos e.symm]
   rcases firstB_total (a := a) (b := b) (by simpa using h) with rfl | h1
   ·exact .inl (by rw [e])
   ·exact .inr h1
  ·rw [if_neg e, if_neg fun q => e q.symm]
   exact .inr (puLt_total e)
theorem firstB_trans : ∀ {a b c : List Pu}, firstB a b = true → firstB b c = true → firstB a c = true
 | [], [], _, h, _ => by simp [firstB] at h
 | [], _ :: _, _, h, _ => by simp [firstB] at h
 | _ :: _, [], _, h, _ => by simp [firstB] at h
 | _ :: _, _ :: _, [], _, h => by simp [firstB] at h
 | x :: a, y :: b, z :: c, h, h' => by
  unfold firstB at *
  by_cases e : x = y
  ·subst e
   rw [if_pos rfl] at h
   by_cases e' : x = z
   ·rw [if_pos e'] at h' ⊢
    exact firstB_trans h h'
   ·rw [if_neg e'] at h' ⊢
    exact h'
  ·rw [if_neg e] at h
   by_cases e' : y = z
   ·subst e'
    rw [if_neg e]; exact h
   ·rw [if_neg e'] at h'
    have := puLt_trans h h'
    rw [if_neg (puLt_ne this)]; exact this
def Bt (h : Ha) (b x : List Pu) : Prop := rentOf h x < rentOf h b ∨ rentOf h x = rentOf h b ∧ (b.length < x.length ∨ b.length = x.length ∧ (x = b ∨ firstB b x = true))
def betterB (h : Ha) (a b : List Pu) : Bool := decide (rentOf h b < rentOf h a) || (decide (rentOf h a = rentOf h b) && (decide (a.length < b.length) || (decide (a.length = b.length) && firstB a b)))
theorem Bt.refl (h : Ha) (b : List Pu) : Bt h b b := .inr ⟨rfl, .inr ⟨rfl, .inl rfl⟩⟩
theorem Bt.trans {h : Ha} {a b c : List Pu} (h1 : Bt h a b) (h2 : Bt h b c) : Bt h a c := by
 rcases h1 with h1 | ⟨h1, h1' | ⟨h1', rfl | h1''⟩⟩
 ·rcases h2 with h2 | ⟨h2, _⟩ <;> exact .inl (by omega)
 ·rcases h2 with h2 | ⟨h2, h2' | ⟨h2', _⟩⟩
  ·exact .inl (by omega)
  ·exact .inr ⟨by omega, .inl (by omega)⟩
  ·exact .inr ⟨by omega, .inl (by omega)⟩
 ·exact h2
 ·rcases h2 with h2 | ⟨h2, h2' | ⟨h2', rfl | h2''⟩⟩
  ·exact .inl (by omega)
  ·exact .inr ⟨by omega, .inl (by omega)⟩
  ·exact .inr ⟨h1, .inr ⟨h1', .inr h1''⟩⟩
  ·exact .inr ⟨by omega, .inr ⟨by omega, .inr (firstB_trans h1'' h2'')⟩⟩
theorem Bt.of_not {h : Ha} {b x : List Pu} (hb : betterB h x b = false) : Bt h b x := by
 unfold betterB at hb
 simp only [Bool.or_eq_false_iff, decide_eq_false_iff_not, Bool.and_eq_false_iff] at hb
 obtain ⟨h1, h2⟩ := hb
 by_cases e : rentOf h x = rentOf h b
 ·refine .inr ⟨e, ?_⟩
  rcases h2 with h2 | ⟨h2, h3⟩
  ·exact absurd e h2
  ·by_cases e' : x.length = b.length
   ·refine .inr ⟨e'.symm, ?_⟩
    rcases h3 with h3 | h3
    ·exact absurd e' h3
    ·rcases firstB_total e' with q | q | q
     ·exact .inl q
     ·rw [h3] at q; cases q
     ·exact .inr q
   ·exact .inl (by omega)
 ·exact .inl (by omega)
theorem Bt.of_better {h : Ha} {b x : List Pu} (hb : betterB h x b = true) : Bt h x b := by
 unfold betterB at hb
 simp only [Bool.or_eq_true, decide_eq_true_eq, Bool.and_eq_true] at hb
 rcases hb with h1 | ⟨h1, h2 | ⟨h2, h3⟩⟩
 ·exact .inl h1
 ·exact .inr ⟨h1.symm, .inl h2⟩
 ·exact .inr ⟨h1.symm, .inr ⟨h2, .inr h3⟩⟩
def chooseL (h : Ha) (b : List Pu) (l : List (List Pu)) : List Pu := l.foldl (fun b x => if betterB h x b then x else b) b
theorem choose_spec (h : Ha) (l : List (List Pu)) : ∀ b, chooseL h b l ∈ b :: l ∧ ∀ x ∈ b :: l, Bt h (chooseL h b l) x := by
 induction l with
 | nil => intro b; exact ⟨List.mem_cons_self .., fun x hx => by rw [List.mem_singleton] at hx; subst hx; exact Bt.refl ..⟩
 | cons y l ih =>
  intro b
  have hc : chooseL h b (y :: l) = chooseL h (if betterB h y b then y else b) l := rfl
  rw [hc]
  obtain ⟨h1, h2⟩ := ih (if betterB h y b then y else b)
  have h3 := h2 _ (List.mem_cons_self ..)
  cases hb : betterB h y b with
  | true =>
   rw [hb] at h1 h2 h3
   simp only [if_true] at *
   refine ⟨List.mem_cons_of_mem _ h1, fun x hx => ?_⟩
   rcases List.mem_cons.1 hx with rfl | hx
   ·exact h3.trans (Bt.of_better hb)
   ·exact h2 x hx
  | false =>
   rw [hb] at h1 h2 h3
   simp only [Bool.false_eq_true, if_false] at *
   refine ⟨?_, fun x hx => ?_⟩
   ·rcases List.mem_cons.1 h1 with h1 | h1
    ·rw [h1]; exact List.mem_cons_self ..
    ·exact List.mem_cons_of_mem _ (List.mem_cons_of_mem _ h1)
   ·rcases List.mem_cons.1 hx with rfl | hx
    ·exact h3
    ·rcases List.mem_cons.1 hx with rfl | hx
     ·exact h3.trans (Bt.of_not hb)
     ·exact h2 x (List.mem_cons_of_mem _ hx)
/-! ### what the program tries -/
def openL (h : Ha) : List Pl := (placesL h).filter fun c => !hasPl h.shut c
def dearL (h : Ha) : Int := h.kinds.foldl (fun d k => max d k.rent) 0
def stepB (h : Ha) (st : List Pu × Int) (x : List Pu) : List Pu × Int := if st.2 < rentOf h x ∨ rentOf h x = st.2 ∧ x.length < st.1.length then (x, rentOf h x) else st
def tryS (h : Ha) : List Pl → List Pu → List Pu × Int → List Pu × Int
 | [], now, st => stepB h st now
 | c :: cs, now, st =>
  if rentOf h now + dearL h * ((cs.length : Int) + 1) < (stepB h st now).2 ∨ rentOf h now + dearL h * ((cs.length : Int) + 1) = (stepB h st now).2 ∧ (stepB h st now).1.length ≤ now.length then stepB h st now
  else tryS h cs now ((List.range h.kinds.length).foldl (fun s (k : Nat) => if allowedB h (now ++ [⟨c, (k : Int)⟩]) then tryS h cs (now ++ [⟨c, (k : Int)⟩]) s else s) (stepB h st now))
theorem dear_ge {ks : List Ki} : ∀ {d : Int}, d ≤ ks.foldl (fun d k => max d k.rent) d ∧ ∀ k ∈ ks, k.rent ≤ ks.foldl (fun d k => max d k.rent) d := by
 induction ks with
 | nil => intro d; exact ⟨Int.le_refl _, fun k hk => by cases hk⟩
 | cons k ks ih =>
  intro d
  have := ih (d := max d k.rent)
  refine ⟨by simp only [List.foldl_cons]; omega, fun q hq => ?_⟩
  rcases List.mem_cons.1 hq with rfl | hq
  ·simp only [List.foldl_cons]; omega
  ·exact this.2 q hq
theorem rent_snoc (h : Ha) (l : List Pu) (p : Pu) : rentOf h (l ++ [p]) = rentOf h l + (kAt h p.kind).rent := by
 simp [rentOf, List.sum_append]
def plLt (a b : Pl) : Prop := a.y < b.y ∨ a.y = b.y ∧ a.x < b.x
theorem places_ord (h : Ha) : (placesL h).Pairwise plLt := by
 unfold placesL rowsOf
 rw [List.pairwise_flatMap]
 refine ⟨fun y _ => ?_, List.pairwise_lt_range.imp fun {i j} hij x hx y hy => ?_⟩
 ·unfold rowOf
  rw [List.pairwise_map]
  exact List.pairwise_lt_range.imp fun {i j} hij => .inr ⟨rfl, by simp only; omega⟩
 ·unfold rowOf at hx hy
  obtain ⟨a, _, rfl⟩ := List.mem_map.1 hx
  obtain ⟨b, _, rfl⟩ := List.mem_map.1 hy
  exact .inl (by simp only; omega)
theorem open_ord (h : Ha) : (openL h).Pairwise plLt := (places_ord h).sublist List.filter_sublist
def InA (h : Ha) (x : List Pu) : Prop := allowedB h x = true ∧ (x.map Pu.pl).Sublist (placesL h)
theorem InA.open {h : Ha} {x : List Pu} (a : InA h x) : (x.map Pu.pl).Sublist (openL h) := by
 have := a.2.filter fun c => !hasPl h.shut c
 rwa [List.filter_eq_self.2] at this
 intro c hc
 obtain ⟨p, hp, rfl⟩ := List.mem_map.1 hc
 have := (allowedB_iff.1 a.1).1.2.1 p hp
 unfold ownB at this
 simp only [Bool.and_eq_true] at this
 exact this.1.1.2
def bestS (h : Ha) : List Pu × Int := tryS h (openL h) [] ([], 0)
def bestL (h : Ha) : List Pu := (bestS h).1
theorem InA.nil {h : Ha} (V : VH h) : InA h [] := ⟨allowedB_nil V, by simp⟩
end Go.Proofs.YtnjgdlmddlinaaaDoor.Vm

/- The floor of a hall: plain facts. (Vm) -/
namespace Go.Proofs.YtnjgdlmddlinaaaDoor.Vm
open Go Go.Proofs
theorem plLt_irrefl {c : Pl} : ¬ plLt c c := by
 rintro (h | ⟨_, h⟩) <;> omega
theorem plLt_asymm {c d : Pl} (h : plLt c d) : ¬ plLt d c := by
 rintro (h1 | ⟨h0, h1⟩) <;> rcases h with h | ⟨h, h'⟩ <;> omega
structure FlOk (h : Ha) (fl : List Int) (now : List Pu) (cs : List Pl) : Prop where
 len : fl.length = 24
 val : ∀ n ∈ fl, 0 ≤ n ∧ n ≤ 1000
 is : nowOf h fl = now
 lt : ∀ p ∈ now, ∀ c ∈ cs, plLt p.pl c
theorem FlOk.tail {h : Ha} {fl : List Int} {now : List Pu} {c : Pl} {cs : List Pl} (F : FlOk h fl now (c :: cs)) : FlOk h fl now cs :=
 ⟨F.len, F.val, F.is, fun p hp d hd => F.lt p hp d (List.mem_cons_of_mem _ hd)⟩
theorem flAt_set {fl : List Int} {c d : Pl} {k : Int} (hl : fl.length = 24) (hc : 0 ≤ c.x ∧ c.x ≤ 5 ∧ 0 ≤ c.y ∧ c.y ≤ 3) (hd : 0 ≤ d.x ∧ d.x ≤ 5 ∧ 0 ≤ d.y ∧ d.y ≤ 3) : flAt (fl.set (c.y.toNat * 6 + c.x.toNat) k) d = if d = c then k else flAt fl d := by
 unfold flAt
 rw [List.getD_eq_getElem?_getD, List.getElem?_set, List.getD_eq_getElem?_getD]
 by_cases e : d = c
 ·subst e
  rw [if_pos rfl, if_pos (by omega), if_pos rfl]; rfl
 ·rw [if_neg e, if_neg]
  intro e'
  apply e
  obtain ⟨a, b⟩ := c
  obtain ⟨a', b'⟩ := d
  simp only at *
  have h1 : b = b' := by omega
  have h2 : a = a' := by omega
  rw [h1, h2]
theorem filterMap_nil_of {α β : Type} {f : α → Option β} : ∀ {l : List α}, (∀ x ∈ l, f x = none) → l.filterMap f = []
 | [], _ => rfl
 | x :: l, h => by
  rw [List.filterMap_cons, h x (List.mem_cons_self ..)]
  exact filterMap_nil_of fun y hy => h y (List.mem_cons_of_mem _ hy)
theorem filterMap_same {α β : Type} {f g : α → Option β} : ∀ {l : List α}, (∀ x ∈ l, f x = g x) → l.filterMap f = l.filterMap g
 | [], _ => rfl
 | x :: l, h => by
  rw [List.filterMap_cons, List.filterMap_cons, h x (List.mem_cons_self ..), filterMap_same fun y hy => h y (List.mem_cons_of_mem _ hy)]
theorem FlOk.put {h : Ha} {fl : List Int} {now : List Pu} {c : Pl} {cs : List Pl} {k : Nat} (V : VH h) (F : FlOk h fl now (c :: cs)) (hc : c ∈ placesL h) (hcs : (c :: cs).Pairwise plLt) (hk : k ≤ 900) : FlOk h (fl.set (c.y.toNat * 6 + c.x.toNat) ((k : Int) + 1)) (now ++ [⟨c, (k : Int)⟩]) cs := by
 have hb := fun d hd => mem_places (c := d) V.w2 V.d2 hd
 have hcb := hb c hc
 refine ⟨by rw [List.length_set]; exact F.len, fun n hn => ?_, ?_, fun p hp d hd => ?_⟩
 ·rcases List.mem_or_eq_of_mem_set hn with hn | rfl
  ·exact F.val n hn
  ·omega
 ·obtain ⟨P1, P2, he⟩ := List.append_of_mem hc
  have ho := places_ord h
  rw [he, List.pairwise_append, List.pairwise_cons] at ho
  obtain ⟨_, ⟨o2, _⟩, o3⟩ := ho
  have hnow := F.is
  have hlt := F.lt
  unfold nowOf at hnow ⊢
  rw [he, List.filterMap_append, List.filterMap_cons] at hnow ⊢
  have in1 : ∀ x ∈ P1, x ∈ placesL h := fun x hx => by rw [he]; exact List.mem_append_left _ hx
  have in2 : ∀ x ∈ P2, x ∈ placesL h := fun x hx => by rw [he]; exact List.mem_append_right _ (List.mem_cons_of_mem _ hx)
  have z0 : ¬ 0 < flAt fl c := by
   intro hpos
   have hm : (⟨c, flAt fl c - 1⟩ : Pu) ∈ now := by
    rw [← hnow, if_pos hpos]; simp
   exact plLt_irrefl (hlt _ hm c (List.mem_cons_self ..))
  have z2 : ∀ x ∈ P2, ¬ 0 < flAt fl x := by
   intro x hx hpos
   have hm : (⟨x, flAt fl x - 1⟩ : Pu) ∈ now := by
    rw [← hnow, if_neg z0]
    refine List.mem_append_right _ (List.mem_filterMap.2 ⟨x, hx, if_pos hpos⟩)
   exact plLt_asymm (hlt _ hm c (List.mem_cons_self ..)) (o2 x hx)
  have n2 : P2.filterMap (fun c => if 0 < flAt fl c then some (⟨c, flAt fl c - 1⟩ : Pu) else none) = [] := filterMap_nil_of fun x hx => if_neg (z2 x hx)
  have hne1 : ∀ x ∈ P1, x ≠ c := fun x hx e => plLt_irrefl (e ▸ o3 x hx c (List.mem_cons_self ..))
  have hne2 : ∀ x ∈ P2, x ≠ c := fun x hx e => plLt_irrefl (e ▸ o2 x hx)
  have s1 : P1.filterMap (fun d => if 0 < flAt (fl.set (c.y.toNat * 6 + c.x.toNat) ((k : Int) + 1)) d then some (⟨d, flAt (fl.set (c.y.toNat * 6 + c.x.toNat) ((k : Int) + 1)) d - 1⟩ : Pu) else none) = P1.filterMap (fun c => if 0 < flAt fl c then some (⟨c, flAt fl c - 1⟩ : Pu) else none) := filterMap_same fun x hx => by
   rw [flAt_set F.len hcb (hb x (in1 x hx)), if_neg (hne1 x hx)]
  have s2 : P2.filterMap (fun d => if 0 < flAt (fl.set (c.y.toNat * 6 + c.x.toNat) ((k : Int) + 1)) d then some (⟨d, flAt (fl.set (c.y.toNat * 6 + c.x.toNat) ((k : Int) + 1)) d - 1⟩ : Pu) else none) = [] := filterMap_nil_of fun x hx => by
   rw [flAt_set F.len hcb (hb x (in2 x hx)), if_neg (hne2 x hx)]
   exact if_neg (z2 x hx)
  rw [s1, s2, flAt_set F.len hcb hcb, if_pos rfl, if_pos (by omega)]
  rw [n2, if_neg z0] at hnow
  simp only [List.append_nil] at hnow
  rw [hnow, Int.add_sub_cancel]
 ·rcases List.mem_append.1 hp with hp | hp
  ·exact F.lt p hp d (List.mem_cons_of_mem _ hd)
  ·rw [List.mem_singleton] at hp
   subst hp
   exact (List.pairwise_cons.1 hcs).1 d hd
theorem FlOk.zero (h : Ha) (cs : List Pl) : FlOk h (List.replicate 24 0) [] cs := by
 have hz : ∀ c : Pl, flAt (List.replicate 24 0) c = 0 := fun c => by
  unfold flAt
  rw [List.getD_eq_getElem?_getD, List.getElem?_replicate]
  split <;> rfl
 refine ⟨by simp, fun n hn => ?_, ?_, fun p hp => by cases hp⟩
 ·have := List.eq_of_mem_replicate hn
  omega
 ·unfold nowOf
  refine filterMap_nil_of fun c _ => ?_
  rw [hz]; rfl
theorem dear_le {h : Ha} (V : VH h) : 0 ≤ dearL h ∧ dearL h ≤ 1000000 := by
 refine ⟨(dear_ge (d := 0)).1, ?_⟩
 have : ∀ (ks : List Ki) (d : Int), d ≤ 1000000 → (∀ k ∈ ks, k.rent ≤ 1000000) → ks.foldl (fun d k => max d k.rent) d ≤ 1000000 := by
  intro ks
  induction ks with
  | nil => intro d hd _; exact hd
  | cons k ks ih =>
   intro d hd hk
   rw [List.foldl_cons]
   have := hk k (List.mem_cons_self ..)
   exact ih _ (by omega) fun q hq => hk q (List.mem_cons_of_mem _ hq)
 exact this _ _ (by omega) fun k hk => (V.kind k hk).rent1
theorem open_mem {h : Ha} {c : Pl} (hc : c ∈ openL h) : c ∈ placesL h := (List.mem_filter.1 hc).1
end Go.Proofs.YtnjgdlmddlinaaaDoor.Vm
