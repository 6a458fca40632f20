/- A part of the proofs about the chapter of the vaults; it states no condition of its own. -/
import Derived.Test.YtijcmgfblpokhaaB38
import Derived.Test.YtijcmgfblpokhaaB49
import Derived.Test.YtijcmgfblpokhaaB51
import Derived.Test.YtijcmgfblpokhaaB52
set_option linter.unusedVariables false
set_option linter.unusedSimpArgs false
/- Laws of halls: what comes in, as values. (Vm) -/
namespace Go.Proofs.Ytijcmgfblpokhaa.Vm
open Go Go.Proofs Go.ChangeShapes Go.WideShapes Go.ChangeAt Go.RowKit
section
variable {H : Type} {enc : TypeId × Value → H} {W : World} {b0 : Nat} {v : Value} {d : DataW H} {ps : List MemPlace}
end
end Go.Proofs.Ytijcmgfblpokhaa.Vm

/- The best layout: plain facts. (Vm) -/
namespace Go.Proofs.Ytijcmgfblpokhaa.Vm
open Go Go.Proofs
theorem allowedB_iff {h : Ha} {l : List Pu} : allowedB h l = true ↔ LayOk h l ∧ verdictOf h l = 1 := by
  unfold allowedB
  rw [Bool.and_eq_true, decide_eq_true_eq, decide_eq_true_eq, layErr_zero]
theorem LayOk.good {h : Ha} {l : List Pu} (hl : LayOk h l) : ∀ o ∈ l, GoodP h o := lay_good (layErr_zero.2 hl)
theorem allowedB_sub {h : Ha} {l m : List Pu} (V : VH h) (hs : m.Sublist l) (ha : allowedB h l = true) : allowedB h m = true := by
  rw [allowedB_iff] at *
  exact ⟨ha.1.sub hs, verdict_sub V ha.1.good hs ha.2⟩
theorem allowedB_nil {h : Ha} (V : VH h) : allowedB h [] = true := by
  rw [allowedB_iff]
  refine ⟨⟨by simp, by simp, by simp, fun k q hq => ?_⟩, ?_⟩
  · have := (V.kind q (List.mem_of_getElem? hq)).most0
    simpa [manyOf] using this
  · unfold verdictOf
    have : fitsHi h [] h.bears.length = true := by
      unfold fitsHi
      rw [List.all_eq_true]
      intro i hi
      rw [List.mem_range] at hi
      have hb := V.bearsIn _ (List.getElem_mem hi)
      rw [decide_eq_true_eq, List.getD_eq_getElem?_getD, List.getElem?_eq_getElem hi]
      simp only [loadAt, List.filter_nil, List.map_nil, List.sum_nil, Option.getD_some]
      exact hb.1
    rw [this]; rfl
/-! ### the order of layouts -/
theorem puLt_asymm {x y : Pu} (h : puLt x y = true) : puLt y x = false := by
  unfold puLt at *
  by_cases h1 : x.pl.y = y.pl.y
  · by_cases h2 : x.pl.x = y.pl.x
    · simp [h1, h2] at *; omega
    · have h3 : ¬ y.pl.x = x.pl.x := fun e => h2 e.symm
      simp [h1, h2, h3] at *; omega
  · have h3 : ¬ y.pl.y = x.pl.y := fun e => h1 e.symm
    simp [h1, h3] at *; omega
theorem puLt_ne {x y : Pu} (h : puLt x y = true) : x ≠ y := by
  rintro rfl
  have := puLt_asymm h
  rw [h] at this; cases this
theorem puLt_total {x y : Pu} (h : x ≠ y) : puLt x y = true ∨ puLt y x = true := by
  unfold puLt
  by_cases h1 : x.pl.y = y.pl.y
  · by_cases h2 : x.pl.x = y.pl.x
    · have h4 : x.kind ≠ y.kind := fun e => h (by
        obtain ⟨⟨a, b⟩, c⟩ := x
        obtain ⟨⟨a', b'⟩, c'⟩ := y
        simp at *; exact ⟨⟨h2, h1⟩, e⟩)
      simp [h1, h2]; omega
    · have h3 : ¬ y.pl.x = x.pl.x := fun e => h2 e.symm
      simp [h1, h2, h3]; omega
  · have h3 : ¬ y.pl.y = x.pl.y := fun e => h1 e.symm
    simp [h1, h3]; omega
theorem puLt_trans {x y z : Pu} (h : puLt x y = true) (h' : puLt y z = true) : puLt x z = true := by
  unfold puLt at *
  by_cases a1 : x.pl.y = y.pl.y
  · by_cases a2 : y.pl.y = z.pl.y
    · by_cases b1 : x.pl.x = y.pl.x
      · by_cases b2 : y.pl.x = z.pl.x
        · simp [a1, a2, b1, b2] at *; omega
        · simp [a1, a2, b1, b2] at *; omega
      · by_cases b2 : y.pl.x = z.pl.x
        · have b3 : ¬ x.pl.x = z.pl.x := by omega
          simp [a1, a2, b1, b2, b3] at *; omega
        · simp [a1, a2, b1, b2] at *
          have b3 : ¬ x.pl.x = z.pl.x := by omega
          simp [b3]; omega
    · simp [a1, a2] at *; omega
  · by_cases a2 : y.pl.y = z.pl.y
    · have a3 : ¬ x.pl.y = z.pl.y := by omega
      simp [a1, a2, a3] at *; omega
    · simp [a1, a2] at *
      have a3 : ¬ x.pl.y = z.pl.y := by omega
      simp [a3]; omega
theorem firstB_total : ∀ {a b : List Pu}, a.length = b.length → a = b ∨ firstB a b = true ∨ firstB b a = true
  | [], [], _ => .inl rfl
  | [], _ :: _, h => by simp at h
  | _ :: _, [], h => by simp at h
  | x :: a, y :: b, h => by
    unfold firstB
    by_cases e : x = y
    · rw [if_pos e, if_pos e.symm]
      rcases firstB_total (a := a) (b := b) (by simpa using h) with rfl | h1
      · exact .inl (by rw [e])
      · exact .inr h1
    · rw [if_neg e, if_neg fun q => e q.symm]
      exact .inr (puLt_total e)
theorem firstB_trans : ∀ {a b c : List Pu}, firstB a b = true → firstB b c = true → firstB a c = true
  | [], [], _, h, _ => by simp [firstB] at h
  | [], _ :: _, _, h, _ => by simp [firstB] at h
  | _ :: _, [], _, h, _ => by simp [firstB] at h
  | _ :: _, _ :: _, [], _, h => by simp [firstB] at h
  | x :: a, y :: b, z :: c, h, h' => by
    unfold firstB at *
    by_cases e : x = y
    · subst e
      rw [if_pos rfl] at h
      by_cases e' : x = z
      · rw [if_pos e'] at h' ⊢
        exact firstB_trans h h'
      · rw [if_neg e'] at h' ⊢
        exact h'
    · rw [if_neg e] at h
      by_cases e' : y = z
      · subst e'
        rw [if_neg e]; exact h
      · rw [if_neg e'] at h'
        have := puLt_trans h h'
        rw [if_neg (puLt_ne this)]; exact this
theorem firstB_append (a x y : List Pu) : firstB (a ++ x) (a ++ y) = firstB x y := by
  induction a with
  | nil => rfl
  | cons p a ih => simp only [List.cons_append, firstB, if_pos]; exact ih
/-- at least as good -/
def Bt (h : Ha) (b x : List Pu) : Prop := rentOf h x < rentOf h b ∨ rentOf h x = rentOf h b ∧ (b.length < x.length ∨ b.length = x.length ∧ (x = b ∨ firstB b x = true))
def betterB (h : Ha) (a b : List Pu) : Bool := decide (rentOf h b < rentOf h a) || (decide (rentOf h a = rentOf h b) && (decide (a.length < b.length) || (decide (a.length = b.length) && firstB a b)))
theorem Bt.refl (h : Ha) (b : List Pu) : Bt h b b := .inr ⟨rfl, .inr ⟨rfl, .inl rfl⟩⟩
theorem Bt.trans {h : Ha} {a b c : List Pu} (h1 : Bt h a b) (h2 : Bt h b c) : Bt h a c := by
  rcases h1 with h1 | ⟨h1, h1' | ⟨h1', rfl | h1''⟩⟩
  · rcases h2 with h2 | ⟨h2, _⟩ <;> exact .inl (by omega)
  · rcases h2 with h2 | ⟨h2, h2' | ⟨h2', _⟩⟩
    · exact .inl (by omega)
    · exact .inr ⟨by omega, .inl (by omega)⟩
    · exact .inr ⟨by omega, .inl (by omega)⟩
  · exact h2
  · rcases h2 with h2 | ⟨h2, h2' | ⟨h2', rfl | h2''⟩⟩
    · exact .inl (by omega)
    · exact .inr ⟨by omega, .inl (by omega)⟩
    · exact .inr ⟨h1, .inr ⟨h1', .inr h1''⟩⟩
    · exact .inr ⟨by omega, .inr ⟨by omega, .inr (firstB_trans h1'' h2'')⟩⟩
theorem Bt.of_not {h : Ha} {b x : List Pu} (hb : betterB h x b = false) : Bt h b x := by
  unfold betterB at hb
  simp only [Bool.or_eq_false_iff, decide_eq_false_iff_not, Bool.and_eq_false_iff] at hb
  obtain ⟨h1, h2⟩ := hb
  by_cases e : rentOf h x = rentOf h b
  · refine .inr ⟨e, ?_⟩
    rcases h2 with h2 | ⟨h2, h3⟩
    · exact absurd e h2
    · by_cases e' : x.length = b.length
      · refine .inr ⟨e'.symm, ?_⟩
        rcases h3 with h3 | h3
        · exact absurd e' h3
        · rcases firstB_total e' with q | q | q
          · exact .inl q
          · rw [h3] at q; cases q
          · exact .inr q
      · exact .inl (by omega)
  · exact .inl (by omega)
theorem Bt.of_better {h : Ha} {b x : List Pu} (hb : betterB h x b = true) : Bt h x b := by
  unfold betterB at hb
  simp only [Bool.or_eq_true, decide_eq_true_eq, Bool.and_eq_true] at hb
  rcases hb with h1 | ⟨h1, h2 | ⟨h2, h3⟩⟩
  · exact .inl h1
  · exact .inr ⟨h1.symm, .inl h2⟩
  · exact .inr ⟨h1.symm, .inr ⟨h2, .inr h3⟩⟩
/-- what the reference chooses -/
def chooseL (h : Ha) (b : List Pu) (l : List (List Pu)) : List Pu := l.foldl (fun b x => if betterB h x b then x else b) b
theorem choose_spec (h : Ha) (l : List (List Pu)) : ∀ b, chooseL h b l ∈ b :: l ∧ ∀ x ∈ b :: l, Bt h (chooseL h b l) x := by
  induction l with
  | nil => intro b; exact ⟨List.mem_cons_self .., fun x hx => by rw [List.mem_singleton] at hx; subst hx; exact Bt.refl ..⟩
  | cons y l ih =>
    intro b
    have hc : chooseL h b (y :: l) = chooseL h (if betterB h y b then y else b) l := rfl
    rw [hc]
    obtain ⟨h1, h2⟩ := ih (if betterB h y b then y else b)
    have h3 := h2 _ (List.mem_cons_self ..)
    cases hb : betterB h y b with
    | true =>
      rw [hb] at h1 h2 h3
      simp only [if_true] at *
      refine ⟨List.mem_cons_of_mem _ h1, fun x hx => ?_⟩
      rcases List.mem_cons.1 hx with rfl | hx
      · exact h3.trans (Bt.of_better hb)
      · exact h2 x hx
    | false =>
      rw [hb] at h1 h2 h3
      simp only [Bool.false_eq_true, if_false] at *
      refine ⟨?_, fun x hx => ?_⟩
      · rcases List.mem_cons.1 h1 with h1 | h1
        · rw [h1]; exact List.mem_cons_self ..
        · exact List.mem_cons_of_mem _ (List.mem_cons_of_mem _ h1)
      · rcases List.mem_cons.1 hx with rfl | hx
        · exact h3
        · rcases List.mem_cons.1 hx with rfl | hx
          · exact h3.trans (Bt.of_not hb)
          · exact h2 x (List.mem_cons_of_mem _ hx)
/-! ### what the program tries -/
def openL (h : Ha) : List Pl := (placesL h).filter fun c => !hasPl h.shut c
def dearL (h : Ha) : Int := h.kinds.foldl (fun d k => max d k.rent) 0
def stepB (h : Ha) (st : List Pu × Int) (x : List Pu) : List Pu × Int := if st.2 < rentOf h x ∨ rentOf h x = st.2 ∧ x.length < st.1.length then (x, rentOf h x) else st
def seqL (h : Ha) : List Pl → List Pu → List (List Pu)
  | [], now => [now]
  | c :: cs, now => now :: (((List.range h.kinds.length).flatMap fun k : Nat => if allowedB h (now ++ [⟨c, (k : Int)⟩]) then seqL h cs (now ++ [⟨c, (k : Int)⟩]) else []) ++ seqL h cs now)
def tryS (h : Ha) : List Pl → List Pu → List Pu × Int → List Pu × Int
  | [], now, st => stepB h st now
  | c :: cs, now, st =>
    if rentOf h now + dearL h * ((cs.length : Int) + 1) < (stepB h st now).2 ∨ rentOf h now + dearL h * ((cs.length : Int) + 1) = (stepB h st now).2 ∧ (stepB h st now).1.length ≤ now.length then stepB h st now
    else tryS h cs now ((List.range h.kinds.length).foldl (fun s (k : Nat) => if allowedB h (now ++ [⟨c, (k : Int)⟩]) then tryS h cs (now ++ [⟨c, (k : Int)⟩]) s else s) (stepB h st now))
theorem dear_ge {ks : List Ki} : ∀ {d : Int}, d ≤ ks.foldl (fun d k => max d k.rent) d ∧ ∀ k ∈ ks, k.rent ≤ ks.foldl (fun d k => max d k.rent) d := by
  induction ks with
  | nil => intro d; exact ⟨Int.le_refl _, fun k hk => by cases hk⟩
  | cons k ks ih =>
    intro d
    have := ih (d := max d k.rent)
    refine ⟨by simp only [List.foldl_cons]; omega, fun q hq => ?_⟩
    rcases List.mem_cons.1 hq with rfl | hq
    · simp only [List.foldl_cons]; omega
    · exact this.2 q hq
theorem dear_kAt {h : Ha} {k : Nat} (hk : k < h.kinds.length) : (kAt h (k : Int)).rent ≤ dearL h := by
  rw [kAt_get hk]
  exact (dear_ge (d := 0)).2 _ (List.getElem_mem hk)
theorem rent_snoc (h : Ha) (l : List Pu) (p : Pu) : rentOf h (l ++ [p]) = rentOf h l + (kAt h p.kind).rent := by
  simp [rentOf, List.sum_append]
theorem seq_bound (h : Ha) : ∀ (cs : List Pl) (now x : List Pu), x ∈ seqL h cs now → rentOf h x ≤ rentOf h now + dearL h * (cs.length : Int) ∧ now.length ≤ x.length
  | [], now, x, hx => by
    simp only [seqL, List.mem_singleton] at hx
    subst hx; simp
  | c :: cs, now, x, hx => by
    have hd : 0 ≤ dearL h := (dear_ge (d := 0)).1
    simp only [seqL, List.mem_cons, List.mem_append, List.mem_flatMap, List.mem_range] at hx
    have hmul : dearL h * ((c :: cs).length : Int) = dearL h * (cs.length : Int) + dearL h := by
      rw [List.length_cons, Int.natCast_add, Int.mul_add]; simp
    rw [hmul]
    have hm : 0 ≤ dearL h * (cs.length : Int) := Int.mul_nonneg hd (by omega)
    rcases hx with rfl | ⟨k, hk, hx⟩ | hx
    · exact ⟨by omega, Nat.le_refl _⟩
    · split at hx
      · have := seq_bound h cs _ x hx
        rw [rent_snoc] at this
        have h3 := dear_kAt hk
        simp only [List.length_append, List.length_singleton] at this
        exact ⟨by omega, by omega⟩
      · cases hx
    · have := seq_bound h cs now x hx
      exact ⟨by omega, this.2⟩
theorem foldl_fix {α β : Type} {f : α → β → α} {s : α} : ∀ {l : List β}, (∀ x ∈ l, f s x = s) → l.foldl f s = s
  | [], _ => rfl
  | x :: l, h => by
    rw [List.foldl_cons, h x (List.mem_cons_self ..)]
    exact foldl_fix fun y hy => h y (List.mem_cons_of_mem _ hy)
theorem foldl_flat {α β γ : Type} (f : α → γ → α) (g : β → List γ) : ∀ (l : List β) (s : α), (l.flatMap g).foldl f s = l.foldl (fun s x => (g x).foldl f s) s
  | [], s => rfl
  | x :: l, s => by rw [List.flatMap_cons, List.foldl_append, List.foldl_cons, foldl_flat f g l]
theorem foldl_same {α β : Type} {f g : α → β → α} : ∀ {l : List β} {s : α}, (∀ x ∈ l, ∀ s, f s x = g s x) → l.foldl f s = l.foldl g s
  | [], s, _ => rfl
  | x :: l, s, h => by
    rw [List.foldl_cons, List.foldl_cons, h x (List.mem_cons_self ..)]
    exact foldl_same fun y hy => h y (List.mem_cons_of_mem _ hy)
theorem try_pick (h : Ha) : ∀ (cs : List Pl) (now : List Pu) (st : List Pu × Int), tryS h cs now st = (seqL h cs now).foldl (stepB h) st
  | [], now, st => rfl
  | c :: cs, now, st => by
    have e : seqL h (c :: cs) now = now :: (((List.range h.kinds.length).flatMap fun k : Nat => if allowedB h (now ++ [⟨c, (k : Int)⟩]) then seqL h cs (now ++ [⟨c, (k : Int)⟩]) else []) ++ seqL h cs now) := rfl
    rw [tryS, e, List.foldl_cons]
    split
    · rename_i hc
      refine (foldl_fix fun x hx => ?_).symm
      have hb := seq_bound h (c :: cs) now x (by rw [e]; exact List.mem_cons_of_mem _ hx)
      have hl : ((c :: cs).length : Int) = (cs.length : Int) + 1 := by simp
      rw [hl] at hb
      generalize stepB h st now = s at hc
      unfold stepB
      rw [if_neg]
      omega
    · rw [try_pick h cs now, List.foldl_append, foldl_flat]
      congr 1
      exact foldl_same fun k _ s => by
        split
        · exact try_pick h cs _ s
        · rfl
/-- earlier ones come first -/
def Ord (x y : List Pu) : Prop := x.length = y.length → y = x ∨ firstB x y = true
theorem pick_spec (h : Ha) (l : List (List Pu)) : ∀ b, (b :: l).Pairwise Ord → (l.foldl (stepB h) (b, rentOf h b)).2 = rentOf h (l.foldl (stepB h) (b, rentOf h b)).1 ∧ (l.foldl (stepB h) (b, rentOf h b)).1 ∈ b :: l ∧ ∀ x ∈ b :: l, Bt h (l.foldl (stepB h) (b, rentOf h b)).1 x := by
  induction l with
  | nil => intro b _; exact ⟨rfl, List.mem_cons_self .., fun x hx => by rw [List.mem_singleton] at hx; subst hx; exact Bt.refl ..⟩
  | cons y l ih =>
    intro b hp
    rw [List.pairwise_cons] at hp
    obtain ⟨p1, p2⟩ := hp
    rw [List.foldl_cons]
    by_cases hb : rentOf h b < rentOf h y ∨ rentOf h y = rentOf h b ∧ y.length < b.length
    · rw [show stepB h (b, rentOf h b) y = (y, rentOf h y) from if_pos hb]
      obtain ⟨h1, h2, h3⟩ := ih y p2
      refine ⟨h1, List.mem_cons_of_mem _ h2, fun x hx => ?_⟩
      rcases List.mem_cons.1 hx with rfl | hx
      · refine (h3 y (List.mem_cons_self ..)).trans ?_
        rcases hb with hb | ⟨hb, hb'⟩
        · exact .inl hb
        · exact .inr ⟨hb.symm, .inl hb'⟩
      · exact h3 x hx
    · rw [show stepB h (b, rentOf h b) y = (b, rentOf h b) from if_neg hb]
      rw [List.pairwise_cons] at p2
      obtain ⟨h1, h2, h3⟩ := ih b (List.pairwise_cons.2 ⟨fun z hz => p1 z (List.mem_cons_of_mem _ hz), p2.2⟩)
      refine ⟨h1, ?_, fun x hx => ?_⟩
      · rcases List.mem_cons.1 h2 with h2 | h2
        · rw [h2]; exact List.mem_cons_self ..
        · exact List.mem_cons_of_mem _ (List.mem_cons_of_mem _ h2)
      · rcases List.mem_cons.1 hx with rfl | hx
        · exact h3 x (List.mem_cons_self ..)
        · rcases List.mem_cons.1 hx with rfl | hx
          · refine (h3 b (List.mem_cons_self ..)).trans ?_
            by_cases e : rentOf h x = rentOf h b
            · refine .inr ⟨e, ?_⟩
              by_cases e' : b.length = x.length
              · exact .inr ⟨e', p1 x (List.mem_cons_self ..) e'⟩
              · exact .inl (by omega)
            · exact .inl (by omega)
          · exact h3 x (List.mem_cons_of_mem _ hx)
def plLt (a b : Pl) : Prop := a.y < b.y ∨ a.y = b.y ∧ a.x < b.x
theorem puLt_of_pl {p q : Pu} (e : plLt p.pl q.pl) : puLt p q = true := by
  unfold puLt
  rcases e with e | ⟨e, e'⟩
  · have : ¬ p.pl.y = q.pl.y := by omega
    simp [this, e]
  · have : ¬ p.pl.x = q.pl.x := by omega
    simp [e, this, e']
theorem mem_seq {h : Ha} : ∀ {cs : List Pl} {now x : List Pu}, x ∈ seqL h cs now → ∃ t, x = now ++ t ∧ (t.map Pu.pl).Sublist cs ∧ (allowedB h now = true → allowedB h x = true)
  | [], now, x, hx => by
    simp only [seqL, List.mem_singleton] at hx
    exact ⟨[], by simp [hx], by simp, fun q => by rw [hx]; exact q⟩
  | c :: cs, now, x, hx => by
    simp only [seqL, List.mem_cons, List.mem_append, List.mem_flatMap, List.mem_range] at hx
    rcases hx with rfl | ⟨k, hk, hx⟩ | hx
    · exact ⟨[], by simp, by simp, fun q => q⟩
    · split at hx
      · rename_i ha
        obtain ⟨t, rfl, h2, h3⟩ := mem_seq hx
        exact ⟨⟨c, k⟩ :: t, by simp, by simpa using h2, fun _ => h3 ha⟩
      · cases hx
    · obtain ⟨t, rfl, h2, h3⟩ := mem_seq hx
      exact ⟨t, rfl, h2.cons _, h3⟩
theorem seq_mem {h : Ha} (V : VH h) : ∀ {cs : List Pl} {now t : List Pu}, (t.map Pu.pl).Sublist cs → allowedB h (now ++ t) = true → now ++ t ∈ seqL h cs now
  | [], now, t, hs, _ => by
    have : t = [] := by simpa using hs
    subst this
    simp [seqL]
  | c :: cs, now, t, hs, ha => by
    simp only [seqL, List.mem_cons, List.mem_append, List.mem_flatMap, List.mem_range]
    match t, hs, ha with
    | [], _, _ => exact .inl (by simp)
    | p :: t, hs, ha =>
      rw [List.map_cons] at hs
      rcases List.sublist_cons_iff.1 hs with h1 | ⟨r, h1, h2⟩
      · exact .inr (.inr (seq_mem V (t := p :: t) (by simpa using h1) ha))
      · obtain ⟨hq, rfl⟩ := List.cons.inj h1
        have hgp := (allowedB_iff.1 ha).1.good p (by simp)
        have hb := hgp.bounds V
        have e : p = ⟨c, (p.kind.toNat : Nat)⟩ := by
          obtain ⟨a, b⟩ := p
          simp only at hq hb ⊢
          rw [hq, Int.toNat_of_nonneg hb.2.2.2.2.1]
        refine .inr (.inl ⟨p.kind.toNat, by omega, ?_⟩)
        rw [← e, if_pos (allowedB_sub V (List.Sublist.append (List.Sublist.refl _) (by simp)) ha)]
        rw [show now ++ p :: t = (now ++ [p]) ++ t by simp] at ha ⊢
        exact seq_mem V h2 ha
theorem seq_ord (h : Ha) : ∀ (cs : List Pl) (now : List Pu), cs.Pairwise plLt → (seqL h cs now).Pairwise Ord
  | [], now, _ => by simp [seqL]
  | c :: cs, now, hp => by
    rw [List.pairwise_cons] at hp
    obtain ⟨p1, p2⟩ := hp
    have ahead : ∀ (k : Nat) (x y : List Pu), x ∈ (if allowedB h (now ++ [⟨c, (k : Int)⟩]) then seqL h cs (now ++ [⟨c, (k : Int)⟩]) else []) → (∃ q t, y = now ++ q :: t ∧ puLt ⟨c, (k : Int)⟩ q = true) → Ord x y := by
      rintro k x y hx ⟨q, t, rfl, hq⟩ _
      split at hx
      · obtain ⟨s, rfl, _, _⟩ := mem_seq hx
        refine .inr ?_
        rw [List.append_assoc, firstB_append]
        show firstB (⟨c, (k : Int)⟩ :: s) (q :: t) = true
        unfold firstB
        rw [if_neg (puLt_ne hq)]; exact hq
      · cases hx
    simp only [seqL]
    rw [List.pairwise_cons, List.pairwise_append, List.pairwise_flatMap]
    refine ⟨fun y hy e => ?_, ⟨fun k _ => ?_, List.pairwise_lt_range.imp fun {i j} hij x hx y hy => ?_⟩, seq_ord h cs now p2, fun x hx y hy => ?_⟩
    · have hy' : y ∈ seqL h (c :: cs) now := by
        simp only [seqL]; exact List.mem_cons_of_mem _ hy
      obtain ⟨t, rfl, _, _⟩ := mem_seq hy'
      have : t = [] := by
        rw [List.length_append] at e
        exact List.eq_nil_of_length_eq_zero (by omega)
      subst this
      exact .inl (by simp)
    · split
      · exact seq_ord h cs _ p2
      · exact List.Pairwise.nil
    · refine ahead i x y hx ?_
      split at hy
      · obtain ⟨s, rfl, _, _⟩ := mem_seq hy
        refine ⟨⟨c, (j : Int)⟩, s, by simp, ?_⟩
        unfold puLt
        simp; omega
      · cases hy
    · rw [List.mem_flatMap] at hx
      obtain ⟨k, _, hx⟩ := hx
      obtain ⟨s, rfl, hs, _⟩ := mem_seq hy
      match s, hs with
      | q :: s, hs =>
        refine ahead k x _ hx ⟨q, s, rfl, puLt_of_pl (p1 q.pl (hs.mem (by simp)))⟩
      | [], _ =>
        intro e
        split at hx
        · obtain ⟨s', rfl, _, _⟩ := mem_seq hx
          simp at e
        · cases hx
theorem places_ord (h : Ha) : (placesL h).Pairwise plLt := by
  unfold placesL rowsOf
  rw [List.pairwise_flatMap]
  refine ⟨fun y _ => ?_, List.pairwise_lt_range.imp fun {i j} hij x hx y hy => ?_⟩
  · unfold rowOf
    rw [List.pairwise_map]
    exact List.pairwise_lt_range.imp fun {i j} hij => .inr ⟨rfl, by simp only; omega⟩
  · unfold rowOf at hx hy
    obtain ⟨a, _, rfl⟩ := List.mem_map.1 hx
    obtain ⟨b, _, rfl⟩ := List.mem_map.1 hy
    exact .inl (by simp only; omega)
theorem open_ord (h : Ha) : (openL h).Pairwise plLt := (places_ord h).sublist List.filter_sublist
/-- layouts that are allowed, in order -/
def InA (h : Ha) (x : List Pu) : Prop := allowedB h x = true ∧ (x.map Pu.pl).Sublist (placesL h)
theorem InA.open {h : Ha} {x : List Pu} (a : InA h x) : (x.map Pu.pl).Sublist (openL h) := by
  have := a.2.filter fun c => !hasPl h.shut c
  rwa [List.filter_eq_self.2] at this
  intro c hc
  obtain ⟨p, hp, rfl⟩ := List.mem_map.1 hc
  have := (allowedB_iff.1 a.1).1.2.1 p hp
  unfold ownB at this
  simp only [Bool.and_eq_true] at this
  exact this.1.1.2
def bestS (h : Ha) : List Pu × Int := tryS h (openL h) [] ([], 0)
def bestL (h : Ha) : List Pu := (bestS h).1
theorem mem_seq_open {h : Ha} (V : VH h) {x : List Pu} : x ∈ seqL h (openL h) [] ↔ InA h x := by
  constructor
  · intro hx
    obtain ⟨t, rfl, h2, h3⟩ := mem_seq hx
    exact ⟨h3 (allowedB_nil V), h2.trans List.filter_sublist⟩
  · intro a
    exact seq_mem V (now := []) a.open a.1
theorem InA.nil {h : Ha} (V : VH h) : InA h [] := ⟨allowedB_nil V, by simp⟩
theorem best_spec {h : Ha} (V : VH h) : (bestS h).2 = rentOf h (bestL h) ∧ InA h (bestL h) ∧ ∀ x, InA h x → Bt h (bestL h) x := by
  have h0 : ([], 0) = (([] : List Pu), rentOf h []) := rfl
  unfold bestL bestS
  rw [try_pick, h0]
  have hp : ([] :: seqL h (openL h) []).Pairwise Ord := by
    rw [List.pairwise_cons]
    refine ⟨fun y _ e => .inl ?_, seq_ord h _ _ (open_ord h)⟩
    exact List.eq_nil_of_length_eq_zero (by simpa using e.symm)
  obtain ⟨h1, h2, h3⟩ := pick_spec h (seqL h (openL h) []) [] hp
  refine ⟨h1, ?_, fun x hx => h3 x (List.mem_cons_of_mem _ ((mem_seq_open V).2 hx))⟩
  rcases List.mem_cons.1 h2 with h2 | h2
  · rw [h2]; exact InA.nil V
  · exact (mem_seq_open V).1 h2
end Go.Proofs.Ytijcmgfblpokhaa.Vm

/- Weaker views of a temporary and of an object; a cut behind a piece of code. (Vm) -/
namespace Go.Proofs.Ytijcmgfblpokhaa.Vm
open Go Go.Proofs
section
variable {P : Program} {T : Tab} {cx : Cx} {e : Env} {M : Mem} {D : List Nat} {Q : PQ} {c : Code}
theorem so_plain {w : World} {K : Nat → Option Nat} {H : List VObj} {v : Value} {g k : Nat} {xs : List (List PV)} (h : RepV w K H v (.so g k xs)) : RepV w K H v (.p (.sl k xs)) := by
  cases h with
  | so _ _ _ _ h _ => exact .p _ _ h
/-- a slice of our own, read as plain data -/
theorem W_strip {t g k : Nat} {xs : List (List PV)} (ht : get e t = .so g k xs) (h : WCode P cx c ((t, .p (.sl k xs)) :: e) M D Q) : WCode P cx c e M D Q := by
  intro G w K a hs
  have hf2 : FrOk w K M cx.nt a.tmps ((t, .p (.sl k xs)) :: e) := by
    refine ⟨hs.fr.size, fun t' => ?_, fun t' => ?_⟩
    · rw [get_cons]
      by_cases h1 : t' = t
      · subst h1
        rw [if_pos rfl]
        have := hs.fr.rep t'
        rw [ht] at this
        exact so_plain this
      · rw [if_neg h1]; exact hs.fr.rep t'
    · rw [get_cons]
      by_cases h1 : t' = t
      · rw [if_pos h1]
        intro r hr
        simp [refs] at hr
      · rw [if_neg h1]; exact hs.fr.cl t'
  exact h G w K a ⟨hf2, hs.df, hs.inv, hs.rd⟩
/-- a nil slice of an object, read as plain data -/
theorem W_nilobj {id off k k0 : Nat} {cs : List VV} (ho : M.H[id]? = some (.obj cs)) (hc : cs[off]? = some (.sf k0 [])) (h : WCode P cx c e ⟨M.H.set id (.obj (cs.set off (.p (.sl k [])))), M.lg⟩ D Q) : WCode P cx c e M D Q := by
  intro G w K a hs
  have i1 := hs.inv
  have hil := (List.getElem?_eq_some_iff.1 ho).1
  have hs2 : ∀ j x, (M.H.set id (.obj (cs.set off (.p (.sl k [])))))[j]? = some x → (j = id ∧ x = .obj (cs.set off (.p (.sl k [])))) ∨ (j ≠ id ∧ M.H[j]? = some x) := fun j x hx => by
    rcases set_get hx with ⟨rfl, rfl, _⟩ | ⟨h1, h2⟩
    · exact .inl ⟨rfl, rfl⟩
    · exact .inr ⟨h1, h2⟩
  have hE : Ext w K M.H w K (M.H.set id (.obj (cs.set off (.p (.sl k []))))) := by
    refine ⟨Nat.le_refl _, fun b o _ him i ob hi hb => ?_, fun _ _ _ _ => rfl, fun i o hi => ?_⟩
    · rcases hs2 i ob hi with ⟨rfl, rfl⟩ | ⟨_, h2⟩
      · rcases him i _ ho hb with e2 | ⟨m, k', e2, _⟩ <;> cases e2
      · exact him i ob h2 hb
    · by_cases h1 : i = id
      · subst h1
        rw [ho] at hi
        cases hi
        exact ⟨.obj (cs.set off (.p (.sl k []))), by simp [hil], fun _ _ e => VObj.noConfusion e, rfl⟩
      · refine ⟨o, by rw [List.getElem?_set_ne (Ne.symm h1)]; exact hi, ?_⟩
        exact objLe_same rfl fun b _ => rfl
  have hI2 : Inv G w K { H := M.H.set id (.obj (cs.set off (.p (.sl k [])))), lg := M.lg } := by
    refine ⟨i1.os, i1.tape, i1.output, i1.size, i1.gB, i1.old, fun i j b hi hj => i1.inj i j b (by simpa using hi) (by simpa using hj), fun i b hi => i1.blk i b (by simpa using hi), fun i o hi => ?_, fun i o hi cc hcc r hr => ?_, fun en hen => ?_, fun i L hi => ?_⟩
    · rcases hs2 i o hi with ⟨rfl, rfl⟩ | ⟨h1, h2⟩
      · intro b hb
        obtain ⟨vs, t, q1, q2, q3⟩ := i1.obj i _ ho b hb
        refine ⟨vs, t, q1, by simpa using q2, fun j v cv hv hcv => ?_⟩
        rw [List.getElem?_set] at hcv
        by_cases hj : off = j
        · subst hj
          have hlt := (List.getElem?_eq_some_iff.1 hc).1
          rw [if_pos rfl, if_pos hlt] at hcv
          cases hcv
          obtain ⟨r1, r2⟩ := q3 off v _ hv hc
          refine ⟨?_, r2⟩
          cases r1 with
          | sf A _ _ h0 => exact .p _ _ (.sl A 0 k 0 0 [] (fun _ _ => undef) (Nat.le_refl _) (by simp [maxLen]) (fun x hx => by cases hx) (fun hx => absurd rfl hx) (fun i x j u hx => by simp at hx) (fun i x j u hx => by simp at hx) (fun i x j u hx => by simp at hx))
        · rw [if_neg hj] at hcv
          obtain ⟨r1, r2⟩ := q3 j v cv hv hcv
          exact ⟨r1.ext hE (i1.content ho cv (by simp only [contents]; exact List.mem_of_getElem? hcv)), r2⟩
      · exact (i1.obj i o h2).ext hE (fun _ _ => rfl) (i1.content h2)
    · simp only [List.length_set]
      rcases hs2 i o hi with ⟨rfl, rfl⟩ | ⟨h1, h2⟩
      · simp only [contents] at hcc
        rcases List.mem_or_eq_of_mem_set hcc with hm | rfl
        · exact i1.cl i _ ho cc (by simp only [contents]; exact hm) r hr
        · simp [refs] at hr
      · exact i1.cl i o h2 cc hcc r hr
    · simp only [List.length_set]
      exact i1.lg en hen
    · rcases hs2 i _ hi with ⟨rfl, e2⟩ | ⟨_, h2⟩
      · cases e2
      · exact i1.lpd i L h2
  have hs3 : StOk cx G w K { H := M.H.set id (.obj (cs.set off (.p (.sl k [])))), lg := M.lg } a e D := ⟨hs.fr.ext (M' := { H := M.H.set id (.obj (cs.set off (.p (.sl k [])))), lg := M.lg }) hE, df_ext (M' := { H := M.H.set id (.obj (cs.set off (.p (.sl k [])))), lg := M.lg }) hE hs.df, hI2, (rd_ext (M' := { H := M.H.set id (.obj (cs.set off (.p (.sl k [])))), lg := M.lg }) hE hs.rd).1⟩
  have h2 := h G w _ a hs3
  exact wpIn_mono h2 fun ex a' w' ⟨e', M', K', D', q1, q2, q3, q4⟩ => ⟨e', M', K', D', q1, q2, q3, hE.trans q4⟩
/-- what holds behind a piece of code, and goes on -/
theorem W_then {Kn : Env → Mem → List Nat → Prop} (E : Env) (M1 : Mem) (h1 : WCode P cx c e M D (fun ex e' M' D' => ex = .normal ∧ D' = D ∧ M' = M1 ∧ Sub E e')) (h2 : ∀ e', Sub E e' → Kn e' M1 D) : WCode P cx c e M D (thenQ Kn Q) :=
  h1.mono (by rintro ex e' M' D' ⟨rfl, rfl, rfl, hS⟩; exact h2 e' hS)
end
theorem VC_keepK {P : Program} {T : Tab} (hT : TabOk P T) {f : Nat} {fn : Func} {c : Code} {nt : Nat} {args : List VV} {M : Mem} {Q : VV → Mem → Prop} (hf : T.fn f = some fn) (hb : fn.body = some c) (hnt : fn.ntmps = nt) (hn : Nat.ble args.length nt = true) (hk : T.keeps f = true)
    (h : WCode P ⟨f, none, nt⟩ c (zipEnv 0 args) M [] (fun ex e M' D => (ex = .normal ∨ ex = .ret) ∧ ∃ H', vkill M.H.length D M'.H = some H' ∧ ∃ vs, vresL T e ⟨H', M'.lg⟩ fn.results.toList = some vs ∧ Q (vtup vs) ⟨H', M'.lg⟩)) : VC P f args M Q := by
  subst hnt
  refine VC_fn hT hf hb (Nat.le_of_ble_eq_true hn) fun hlg => h.mono ?_
  rintro ex e M' D ⟨hex, H', hk2, vs, h1, h3⟩
  have key : retQ T f M.H.length fn Q .ret e M' D := by
    simp only [retQ, hk2]
    have hM : ({ M' with H := H' } : Mem) = ⟨H', M'.lg⟩ := rfl
    rw [hM, h1]
    simp only
    unfold vfinish
    rw [hk]
    exact h3
  rcases hex with rfl | rfl
  · exact key
  · exact key
/-! ### the floor -/
def flAt (fl : List Int) (c : Pl) : Int := fl.getD (c.y.toNat * 6 + c.x.toNat) 0
def nowOf (h : Ha) (fl : List Int) : List Pu := (placesL h).filterMap fun c => if 0 < flAt fl c then some ⟨c, flAt fl c - 1⟩ else none
abbrev floorV (fl : List Int) : VV := .agg (fl.map vi)
theorem mem_places {h : Ha} {c : Pl} (hw : h.wide ≤ 6) (hd : h.deep ≤ 4) (hc : c ∈ placesL h) : 0 ≤ c.x ∧ c.x ≤ 5 ∧ 0 ≤ c.y ∧ c.y ≤ 3 := by
  unfold placesL rowsOf rowOf at hc
  rw [List.mem_flatMap] at hc
  obtain ⟨y, hy, hc⟩ := hc
  obtain ⟨x, hx, rfl⟩ := List.mem_map.1 hc
  rw [List.mem_range] at hx hy
  simp only
  omega
end Go.Proofs.Ytijcmgfblpokhaa.Vm

/- A region whose order is drawn, order by order. (Vm) -/
namespace Go.Proofs.Ytijcmgfblpokhaa.Vm
open Go Go.Proofs
end Go.Proofs.Ytijcmgfblpokhaa.Vm
