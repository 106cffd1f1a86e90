/- Plain: what is true of all tokens that the scanner tells. -/
import Derived.Test.YtmdaedeagiamkaaFlexP
set_option linter.unusedVariables false
set_option linter.unusedSimpArgs false
namespace Go.Proofs.Ytmdaedeagiamkaa

/-- A text that is just one token, and nothing else. -/
def Whole (t : List UInt8) (k : Int) : Prop := t ≠ [] ∧ kindOf t = k ∧ k ≠ 0 ∧ endOf t = t.length
/-- Tokens of a text, up to a place. -/
def Good (l : List UInt8) : Nat → List Tok → Prop
  | p, ts => (∀ k (h : k < ts.length), Whole ts[k].text ts[k].kind ∧ ts[k].at_ + ts[k].text.length ≤ p ∧ (l.drop ts[k].at_).take ts[k].text.length = ts[k].text) ∧
      (∀ k (h : k + 1 < ts.length), ts[k].at_ + ts[k].text.length ≤ ts[k + 1].at_) ∧ p ≤ l.length

theorem tw_append (p : Int → Bool) (a b : List UInt8) : tw p (a ++ b) = if tw p a = a.length then a.length + tw p b else tw p a := by
  induction a with
  | nil => simp [tw]
  | cons c a ih =>
    cases h : p c.toNat with
    | true =>
      rw [List.cons_append, tw_yes p c _ h, tw_yes p c _ h, ih, List.length_cons]
      by_cases e : tw p a = a.length
      · rw [if_pos e, if_pos (by omega)]; omega
      · rw [if_neg e, if_neg (by omega)]
    | false =>
      rw [List.cons_append, tw_no p c _ h, tw_no p c _ h]; simp
theorem tw_take (p : Int → Bool) (l : List UInt8) (n : Nat) (h : tw p l ≤ n) : tw p (l.take n) = tw p l := by
  by_cases hn : n ≤ l.length
  · have := tw_append p (l.take n) (l.drop n)
    rw [List.take_append_drop] at this
    have hl := tw_le p (l.take n)
    rw [List.length_take, Nat.min_eq_left hn] at hl this
    by_cases e : tw p (l.take n) = n
    · rw [if_pos e] at this; omega
    · rw [if_neg e] at this; exact this.symm
  · rw [List.take_of_length_le (by omega)]
theorem drop_take_tw (l : List UInt8) (a n : Nat) : (l.take n).drop a = (l.drop a).take (n - a) := by rw [List.drop_take]

theorem endOf_take (l : List UInt8) (hne : l ≠ []) : endOf (l.take (endOf l)) = endOf l := by
  have h1 := (endOf_le l hne).2
  have hl := (endOf_le l hne).1
  generalize hn : endOf l = n at *
  have hh : hd0 (l.take n) = hd0 l := hd0_take h1
  unfold endOf at hn ⊢
  rw [hh]
  by_cases hL : isLe (hd0 l) = true
  · rw [if_pos hL] at hn ⊢
    rw [tw_take _ _ _ (by omega)]; exact hn
  · rw [if_neg hL] at hn ⊢
    by_cases hD : isDi (hd0 l) = true
    · rw [if_pos hD] at hn ⊢
      have h0 := (tw_pos (p := isDi) hne).2 hD
      by_cases hx : hd0 (l.drop (tw isDi l)) = 46 ∧ isDi (hd0 (l.drop (tw isDi l + 1))) = true
      · rw [if_pos hx] at hn
        have hne2 : l.drop (tw isDi l + 1) ≠ [] := by intro h; rw [h] at hx; exact absurd hx.2 (by decide)
        have hk := (tw_pos (p := isDi) hne2).2 hx.2
        have ht : tw isDi (l.take n) = tw isDi l := tw_take _ _ _ (by omega)
        rw [ht, drop_take_tw, drop_take_tw, hd0_take (by omega), hd0_take (by omega), if_pos hx, tw_take _ _ _ (by omega)]
        exact hn
      · rw [if_neg hx] at hn
        have ht : tw isDi (l.take n) = tw isDi l := tw_take _ _ _ (by omega)
        rw [ht]
        have hd : (l.take n).drop (tw isDi l + 1) = [] := List.drop_of_length_le (by rw [List.length_take]; omega)
        rw [hd, if_neg (fun h => absurd h.2 (by decide))]
        exact hn
    · rw [if_neg hD] at hn ⊢
      by_cases hx : 2 ≤ l.length ∧ isSign (l.take 2) = true
      · rw [if_pos hx] at hn
        subst hn
        rw [List.take_take, if_pos ⟨by rw [List.length_take]; omega, hx.2⟩]
      · rw [if_neg hx] at hn
        subst hn
        rw [if_neg (fun h => by have := h.1; rw [List.length_take] at this; omega)]

theorem whole_of_tok {l : List UInt8} {n : Nat} {k : Int} (hne : l ≠ []) (h : tokOf l = (n, k)) (hn : n ≠ 0) : Whole (l.take n) k ∧ n = endOf l := by
  rw [tok_eq l hne] at h
  have hl := endOf_le l hne
  by_cases hk : kindOf (l.take (endOf l)) = 0
  · rw [if_pos hk] at h; injection h with h1 h2; exact absurd h1.symm hn
  · rw [if_neg hk] at h
    injection h with h1 h2
    subst h1
    refine ⟨⟨?_, h2, h2 ▸ hk, ?_⟩, rfl⟩
    · intro e; have := congrArg List.length e; rw [List.length_take, List.length_nil] at this; omega
    · rw [endOf_take l hne, List.length_take]; omega

theorem good_go (l : List UInt8) : ∀ (f : Nat) (p : Nat) (ts : List Tok), Good l p ts → ∀ r e q, scanGo f (l.drop p) p ts = (r, e, q) → e = 0 → ∃ p', Good l p' r := by
  intro f
  induction f with
  | zero => intro p ts hg r e q h he; simp [scanGo] at h; exact ⟨p, h.1 ▸ hg⟩
  | succ f ih =>
    intro p ts hg r e q h he
    simp only [scanGo] at h
    by_cases hne : l.drop p = []
    · rw [if_pos hne] at h; injection h with h1 h2; exact ⟨p, h1 ▸ hg⟩
    · rw [if_neg hne] at h
      generalize ht : tokOf (l.drop p) = t at *
      obtain ⟨n, k⟩ := t
      by_cases hn : n = 0
      · rw [if_pos hn] at h; injection h with h1 h2; injection h2 with h2 h3; omega
      · rw [if_neg hn] at h
        by_cases hl : ts.length = 2048
        · rw [if_pos hl] at h; injection h with h1 h2; injection h2 with h2 h3; omega
        · rw [if_neg hl] at h
          obtain ⟨hw, hnl⟩ := whole_of_tok hne ht hn
          have hlen := tokOf_le (l.drop p)
          rw [ht, List.length_drop] at hlen
          have hlen : n ≤ l.length - p := hlen
          have hpl := hg.2.2
          have hpl2 : p < l.length := by
            by_cases hc : p < l.length
            · exact hc
            · exact absurd (List.drop_of_length_le (by omega)) hne
          have hbl := tw_le isBl ((l.drop p).drop n)
          rw [List.length_drop, List.length_drop] at hbl
          generalize tw isBl ((l.drop p).drop n) = b at *
          rw [List.drop_drop, show p + (n + b) = p + n + b by omega] at h
          refine ih (p + n + b) _ ?_ r e q h he
          have htl : ((l.drop p).take n).length = n := by rw [List.length_take, List.length_drop]; omega
          refine ⟨fun j hj => ?_, fun j hj => ?_, by omega⟩
          · rw [List.length_append, List.length_singleton] at hj
            by_cases hjl : j < ts.length
            · rw [List.getElem_append_left hjl]
              obtain ⟨g1, g2, g3⟩ := hg.1 j hjl
              exact ⟨g1, by omega, g3⟩
            · obtain rfl : j = ts.length := by omega
              rw [List.getElem_concat_length rfl]
              refine ⟨hw, ?_, ?_⟩
              · show p + ((l.drop p).take n).length ≤ _; omega
              · show (l.drop p).take ((l.drop p).take n).length = _; rw [htl]
          · rw [List.length_append, List.length_singleton] at hj
            have hjl : j < ts.length := by omega
            rw [List.getElem_append_left hjl]
            by_cases hjl2 : j + 1 < ts.length
            · rw [List.getElem_append_left hjl2]; exact hg.2.1 j hjl2
            · have : j + 1 = ts.length := by omega
              rw [List.getElem_append_right (by omega)]
              simp only [this, Nat.sub_self, List.getElem_cons_zero]
              exact (hg.1 j hjl).2.1

theorem scan_good (l : List UInt8) (h : (scan l).2.1 = 0) : ∃ p', Good l p' (scan l).1 := by
  generalize hr : scan l = R at *
  obtain ⟨r, e, q⟩ := R
  unfold scan at hr
  split at hr
  · injection hr with h1 h2; injection h2 with h2 h3; simp at h; omega
  · have hb := tw_le isBl l
    exact good_go l _ _ [] ⟨fun k hk => by simp at hk, fun k hk => by simp at hk, hb⟩ r e q hr h

theorem scan_count (l : List UInt8) : (scan l).1.length ≤ 2048 := by
  have : ∀ (f : Nat) (l : List UInt8) (p : Nat) (ts : List Tok), ts.length ≤ 2048 → (scanGo f l p ts).1.length ≤ 2048 := by
    intro f
    induction f with
    | zero => intro l p ts h; exact h
    | succ f ih =>
      intro l p ts h
      simp only [scanGo]
      repeat' split
      all_goals first | exact h | exact Nat.zero_le _ | exact ih _ _ _ (by rw [List.length_append, List.length_singleton]; omega)
  unfold scan
  split
  · simp
  · exact this _ _ _ _ (by simp)

theorem scan_ends (l : List UInt8) : ((scan l).2.1 = 0 → (scan l).2.2 = 0) ∧ ((scan l).2.1 ≠ 0 → (scan l).1 = []) := by
  have : ∀ (f : Nat) (l : List UInt8) (p : Nat) (ts : List Tok), ((scanGo f l p ts).2.1 = 0 → (scanGo f l p ts).2.2 = 0) ∧ ((scanGo f l p ts).2.1 ≠ 0 → (scanGo f l p ts).1 = []) := by
    intro f
    induction f with
    | zero => intro l p ts; exact ⟨fun _ => rfl, fun h => absurd rfl h⟩
    | succ f ih =>
      intro l p ts
      simp only [scanGo]
      repeat' split
      · exact ⟨fun _ => rfl, fun h => absurd rfl h⟩
      · exact ⟨fun h => absurd (show (3 : Int) = 0 from h) (by decide), fun _ => rfl⟩
      · exact ⟨fun h => absurd (show (5 : Int) = 0 from h) (by decide), fun _ => rfl⟩
      · exact ih _ _ _
  unfold scan
  split
  · exact ⟨fun h => absurd (show (5 : Int) = 0 from h) (by decide), fun _ => rfl⟩
  · exact this _ _ _ _
/-! ### Tokens with blanks between them -/
def Blanks (b : List UInt8) : Prop := b ≠ [] ∧ (b.all fun c => isBl c.toNat) = true
inductive Sep : List UInt8 → List Tok → Prop
  | nil : Sep [] []
  | last (t : Tok) : Whole t.text t.kind → Sep t.text [t]
  | cons (t : Tok) (b r : List UInt8) (ts : List Tok) : Whole t.text t.kind → Blanks b → Sep r ts → Sep (t.text ++ (b ++ r)) (t :: ts)

theorem sign_blank (c : UInt8) (b : UInt8) (h : isBl b.toNat = true) : isSign [c, b] = false := by
  rw [Bool.eq_false_iff]
  intro hs
  unfold isSign at hs
  rw [List.contains_iff_mem] at hs
  have : (signsL.all fun x => !isBl (hd0 (x.drop 1))) = true := by decide +kernel
  have := List.all_eq_true.1 this _ hs
  simp only [List.drop_succ_cons, List.drop_zero, hd0, h] at this
  exact absurd this (by simp)
theorem bl_not (r : Int) (h : isBl r = true) : inNm r = false ∧ isDi r = false ∧ r ≠ 46 := by
  unfold isBl at h
  unfold inNm isLe isDi
  simp at h ⊢
  omega
theorem hd0_append (a b : List UInt8) (h : a ≠ []) : hd0 (a ++ b) = hd0 a := by
  cases a with
  | nil => exact absurd rfl h
  | cons c a => rfl

/-- Where a token ends plays no part what stands behind a blank. -/
theorem endOf_sep (t : List UInt8) (b : UInt8) (r : List UInt8) (hne : t ≠ []) (he : endOf t = t.length) (hb : isBl b.toNat = true) : endOf (t ++ b :: r) = t.length := by
  obtain ⟨hb1, hb2, hb3⟩ := bl_not _ hb
  have hp : 1 ≤ t.length := by cases t with | nil => exact absurd rfl hne | cons c t => simp
  have hh : hd0 (t ++ b :: r) = hd0 t := hd0_append _ _ hne
  unfold endOf at he ⊢
  rw [hh]
  by_cases hL : isLe (hd0 t) = true
  · rw [if_pos hL] at he ⊢
    rw [tw_append, if_pos he, tw_no inNm b r hb1]; rfl
  · rw [if_neg hL] at he ⊢
    by_cases hD : isDi (hd0 t) = true
    · rw [if_pos hD] at he ⊢
      have htl := tw_le isDi t
      by_cases hx : hd0 (t.drop (tw isDi t)) = 46 ∧ isDi (hd0 (t.drop (tw isDi t + 1))) = true
      · rw [if_pos hx] at he
        have hne2 : t.drop (tw isDi t + 1) ≠ [] := by intro h; rw [h] at hx; exact absurd hx.2 (by decide)
        have hlt : tw isDi t + 1 < t.length := by
          by_cases hc : tw isDi t + 1 < t.length
          · exact hc
          · exact absurd (List.drop_of_length_le (by omega)) hne2
        have e1 : tw isDi (t ++ b :: r) = tw isDi t := by rw [tw_append, if_neg (by omega)]
        have e2 : (t ++ b :: r).drop (tw isDi t) = t.drop (tw isDi t) ++ b :: r := List.drop_append_of_le_length (by omega)
        have e3 : (t ++ b :: r).drop (tw isDi t + 1) = t.drop (tw isDi t + 1) ++ b :: r := List.drop_append_of_le_length (by omega)
        have hne3 : t.drop (tw isDi t) ≠ [] := by intro h; rw [h] at hx; exact absurd hx.1 (by decide)
        rw [e1, e2, e3, hd0_append _ _ hne3, hd0_append _ _ hne2, if_pos hx, tw_append]
        have hl2 : (t.drop (tw isDi t + 1)).length = tw isDi (t.drop (tw isDi t + 1)) := by rw [List.length_drop]; omega
        rw [if_pos hl2.symm, tw_no isDi b r hb2, List.length_drop]
        omega
      · rw [if_neg hx] at he
        have e1 : tw isDi (t ++ b :: r) = t.length := by rw [tw_append, if_pos he, tw_no isDi b r hb2]; rfl
        have e2 : (t ++ b :: r).drop t.length = b :: r := List.drop_left
        rw [e1, e2, if_neg (fun h => hb3 h.1)]
    · rw [if_neg hD] at he ⊢
      by_cases hx : 2 ≤ t.length ∧ isSign (t.take 2) = true
      · rw [if_pos hx] at he
        rw [if_pos ⟨by rw [List.length_append]; omega, by rw [List.take_append_of_le_length hx.1]; exact hx.2⟩]
        exact he
      · rw [if_neg hx] at he
        match t, he with
        | [c], _ =>
          rw [if_neg (fun h => by
            have := h.2
            rw [show ([c] ++ b :: r).take 2 = [c, b] from rfl, sign_blank c b hb] at this
            exact absurd this (by simp))]
          rfl

theorem tok_of_whole (t r : List UInt8) (k : Int) (h : Whole t k) (hr : r = [] ∨ ∃ b r', r = b :: r' ∧ isBl b.toNat = true) : tokOf (t ++ r) = (t.length, k) := by
  obtain ⟨h1, h2, h3, h4⟩ := h
  have he : endOf (t ++ r) = t.length := by
    rcases hr with rfl | ⟨b, r', rfl, hb⟩
    · rw [List.append_nil]; exact h4
    · exact endOf_sep t b r' h1 h4 hb
  rw [tok_eq _ (by simp [h1]), he, List.take_left, h2, if_neg h3]

theorem whole_head {t : List UInt8} {k : Int} (h : Whole t k) : isBl (hd0 t) = false := by
  obtain ⟨h1, h2, h3, h4⟩ := h
  rw [Bool.eq_false_iff]
  intro hb
  obtain ⟨hb1, hb2, hb3⟩ := bl_not _ hb
  have hL : isLe (hd0 t) = false := by
    rw [Bool.eq_false_iff]; intro h
    unfold inNm at hb1; rw [h] at hb1; simp at hb1
  have he : endOf t = if 2 ≤ t.length ∧ isSign (t.take 2) = true then 2 else 1 := by
    unfold endOf; rw [if_neg (by rw [hL]; simp), if_neg (by rw [hb2]; simp)]
  have hs : ∀ x : List UInt8, isBl (hd0 x) = true → isSign x = false := by
    intro x hx
    rw [Bool.eq_false_iff]
    intro hs
    unfold isSign at hs
    rw [List.contains_iff_mem] at hs
    have : (signsL.all fun x => !isBl (hd0 x)) = true := by decide +kernel
    have := List.all_eq_true.1 this _ hs
    rw [hx] at this
    exact absurd this (by simp)
  have ht2 : isSign (t.take 2) = false := hs _ (by rw [hd0_take (by omega)]; exact hb)
  rw [if_neg (fun h => by rw [ht2] at h; exact absurd h.2 (by simp))] at he
  have hk : kindOf t = 0 := by
    unfold kindOf
    rw [not_word hL, not_name hL, not_int hb2, hs t hb]
    have hr : isRealL t = false := by
      match t, he.symm.trans h4 with
      | [c], _ =>
        unfold isRealL
        by_cases h : c == 46
        · simp [h, isIntL]
        · simp [h]
    rw [hr]; simp
  exact h3 (h2.symm.trans hk)

theorem sep_head {l : List UInt8} {ts : List Tok} (h : Sep l ts) : tw isBl l = 0 := by
  cases h with
  | nil => rfl
  | last t hw =>
    have := whole_head hw
    obtain ⟨h1, _⟩ := hw
    generalize t.text = x at *
    cases x with
    | nil => exact absurd rfl h1
    | cons c x => exact tw_no isBl c x this
  | cons t b r ts hw hb hs =>
    have := whole_head hw
    obtain ⟨h1, _⟩ := hw
    generalize t.text = x at *
    cases x with
    | nil => exact absurd rfl h1
    | cons c x => exact tw_no isBl c _ this

theorem go_sep : ∀ (ts : List Tok) (l : List UInt8), Sep l ts → ∀ (f p : Nat) (acc : List Tok), l.length < f → acc.length + ts.length ≤ 2048 →
    ∃ r, scanGo f l p acc = (acc ++ r, 0, 0) ∧ r.length = ts.length ∧ ∀ k (h1 : k < r.length) (h2 : k < ts.length), r[k].kind = ts[k].kind ∧ r[k].text = ts[k].text := by
  intro ts
  induction ts with
  | nil =>
    intro l hs f p acc hf hc
    cases hs
    obtain ⟨f, rfl⟩ : ∃ g, f = g + 1 := ⟨f - 1, by omega⟩
    exact ⟨[], by simp [scanGo], rfl, fun k h1 h2 => by simp at h1⟩
  | cons t ts ih =>
    intro l hs f p acc hf hc
    rw [List.length_cons] at hc
    obtain ⟨f, rfl⟩ : ∃ g, f = g + 1 := ⟨f - 1, by omega⟩
    have key : ∃ b r, l = t.text ++ (b ++ r) ∧ Whole t.text t.kind ∧ (b ++ r = [] ∨ ∃ c r', b ++ r = c :: r' ∧ isBl c.toNat = true) ∧ (b.all fun c => isBl c.toNat) = true ∧ Sep r ts := by
      cases hs with
      | last t hw => exact ⟨[], [], by simp, hw, Or.inl rfl, rfl, Sep.nil⟩
      | cons t b r ts hw hb hs =>
        refine ⟨b, r, rfl, hw, Or.inr ?_, hb.2, hs⟩
        obtain ⟨hb1, hb2⟩ := hb
        cases b with
        | nil => exact absurd rfl hb1
        | cons c b => simp at hb2; exact ⟨c, b ++ r, rfl, hb2.1⟩
    obtain ⟨b, r, rfl, hw, hbr, hb, hsr⟩ := key
    have htok := tok_of_whole t.text (b ++ r) t.kind hw hbr
    have hne : t.text ++ (b ++ r) ≠ [] := by have := hw.1; simp [this]
    have htl : t.text.length ≠ 0 := by intro h; exact hw.1 (List.eq_nil_of_length_eq_zero h)
    have hbl : tw isBl (b ++ r) = b.length := by rw [tw_append, if_pos (tw_all_eq hb), sep_head hsr]; rfl
    simp only [scanGo]
    rw [if_neg hne, htok, if_neg htl, if_neg (by omega), List.drop_left, hbl, List.take_left]
    have hd : (t.text ++ (b ++ r)).drop (t.text.length + b.length) = r := by
      rw [← List.append_assoc, ← List.length_append, List.drop_left]
    rw [hd]
    obtain ⟨r', h1, h2, h3⟩ := ih r hsr f (p + t.text.length + b.length) (acc ++ [⟨t.kind, t.text, p⟩]) (by simp only [List.length_append] at hf; omega) (by rw [List.length_append, List.length_singleton]; omega)
    refine ⟨⟨t.kind, t.text, p⟩ :: r', by rw [h1]; simp, by simp [h2], fun k hk1 hk2 => ?_⟩
    cases k with
    | zero => exact ⟨rfl, rfl⟩
    | succ k => simpa using h3 k (by simpa using hk1) (by simpa using hk2)

/-- A text of tokens with blanks between, and ahead, is scanned as these tokens. -/
theorem scan_sep (b l : List UInt8) (ts : List Tok) (hb : (b.all fun c => isBl c.toNat) = true) (hs : Sep l ts) (hl : (b ++ l).length ≤ 8192) (hc : ts.length ≤ 2048) :
    (scan (b ++ l)).2 = (0, 0) ∧ (scan (b ++ l)).1.length = ts.length ∧ ∀ k (h1 : k < (scan (b ++ l)).1.length) (h2 : k < ts.length), (scan (b ++ l)).1[k].kind = ts[k].kind ∧ (scan (b ++ l)).1[k].text = ts[k].text := by
  have hbl : tw isBl (b ++ l) = b.length := by rw [tw_append, if_pos (tw_all_eq hb), sep_head hs]; rfl
  have hsc : scan (b ++ l) = scanGo ((b ++ l).length + 1) l b.length [] := by
    unfold scan
    rw [if_neg (by omega), hbl, List.drop_left]
  obtain ⟨r, h1, h2, h3⟩ := go_sep ts l hs ((b ++ l).length + 1) b.length [] (by rw [List.length_append]; omega) (by simpa using hc)
  rw [hsc, h1]
  exact ⟨rfl, h2, h3⟩

/-- A name, or a word, is one token. -/
theorem whole_name {l : List UInt8} (h : isName l = true ∨ isWord l = true) : Whole l (if isWord l = true then 2 else 1) := by
  have hh : isLe (hd0 l) = true ∧ l ≠ [] ∧ (l.all fun c => inNm c.toNat) = true := by
    rcases h with h | h
    · unfold isName at h
      simp only [Bool.and_eq_true, decide_eq_true_eq] at h
      obtain ⟨⟨⟨⟨h1, h2⟩, h3⟩, h4⟩, h5⟩ := h
      refine ⟨h3, h1, ?_⟩
      rw [← tw_all]; simpa using h4
    · unfold isWord at h
      rw [List.contains_iff_mem] at h
      have : (wordsL.all fun x => isLe (hd0 x) && decide (x ≠ []) && x.all fun c => inNm c.toNat) = true := by decide +kernel
      have := List.all_eq_true.1 this l h
      simp only [Bool.and_eq_true, decide_eq_true_eq] at this
      exact ⟨this.1.1, this.1.2, this.2⟩
  obtain ⟨h1, h2, h3⟩ := hh
  refine ⟨h2, ?_, ?_, ?_⟩
  · unfold kindOf
    by_cases hw : isWord l = true
    · rw [if_pos hw, if_pos hw]
    · rw [if_neg hw, if_neg hw]
      rcases h with h | h
      · rw [if_pos h]
      · exact absurd h hw
  · split <;> decide
  · unfold endOf; rw [if_pos h1]; exact tw_all_eq h3
theorem scan_one {l : List UInt8} {k : Int} (h : Whole l k) (hl : l.length ≤ 8192) : scan l = ([⟨k, l, 0⟩], 0, 0) := by
  have htok := tok_of_whole l [] k h (Or.inl rfl)
  rw [List.append_nil] at htok
  have h0 : tw isBl l = 0 := sep_head (Sep.last ⟨k, l, 0⟩ h)
  have hlen : l.length ≠ 0 := fun e => h.1 (List.eq_nil_of_length_eq_zero e)
  unfold scan
  rw [if_neg (by omega), h0, List.drop_zero]
  simp only [scanGo]
  rw [if_neg h.1, htok]
  simp only [List.take_length, List.drop_length, tw_nil, Nat.add_zero, Nat.zero_add, List.nil_append]
  rw [if_neg hlen, if_neg (by simp)]
  generalize l.length = m at *
  cases m with
  | zero => exact absurd rfl hlen
  | succ m => simp [scanGo]
theorem name_of_scan {l : List UInt8} {ts : List Tok} (h : scan l = (ts, 0, 0)) (k : Nat) (hk : k < ts.length) (hx : ts[k].kind = 1 ∨ ts[k].kind = 2) : isName ts[k].text = true ∨ isWord ts[k].text = true := by
  obtain ⟨p, hg⟩ := scan_good l (by rw [h])
  rw [h] at hg
  obtain ⟨h1, h2, h3, h4⟩ := (hg.1 k hk).1
  unfold kindOf at h2
  by_cases hw : isWord ts[k].text = true
  · exact Or.inr hw
  · rw [if_neg hw] at h2
    by_cases hn : isName ts[k].text = true
    · exact Or.inl hn
    · rw [if_neg hn] at h2
      rcases hx with hx | hx <;> rw [hx] at h2 <;> (repeat' split at h2) <;> simp at h2
end Go.Proofs.Ytmdaedeagiamkaa
