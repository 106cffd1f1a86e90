/- The scanner of package flex: what it answers. -/
import Derived.Test.YtmdaedeagiamkaaFlexB
import Derived.Test.YtmdaedeagiamkaaRep
set_option linter.unusedVariables false
set_option linter.unusedSimpArgs false
namespace Go.Proofs.Ytmdaedeagiamkaa
open Go.RowKit

/-- A token: its kind, its text, its place. -/
structure Tok where
  kind : Int
  text : List UInt8
  at_ : Nat
instance : DecidableEq Tok := fun a b => decidable_of_iff (a.kind = b.kind ∧ a.text = b.text ∧ a.at_ = b.at_) (by cases a; cases b; simp)
def Tok.cells (t : Tok) : List Value := [.int .i64 t.kind, strV t.text, .int .i64 t.at_]
def tokCells (ts : List Tok) : List Value := ts.flatMap Tok.cells
theorem tokCells_length (ts : List Tok) : (tokCells ts).length = ts.length * 3 := by
  induction ts with
  | nil => rfl
  | cons t ts ih => simp [tokCells, Tok.cells] at *; omega
theorem tokCells_snoc (ts : List Tok) (t : Tok) : tokCells (ts ++ [t]) = tokCells ts ++ t.cells := by simp [tokCells]

/-- The scanner, from a place on. -/
def scanGo : Nat → List UInt8 → Nat → List Tok → List Tok × Int × Nat
  | 0, _, _, ts => (ts, 0, 0)
  | f + 1, l, p, ts =>
    if l = [] then (ts, 0, 0)
    else if (tokOf l).1 = 0 then ([], 3, p)
    else if ts.length = 2048 then ([], 5, p)
    else scanGo f (l.drop ((tokOf l).1 + tw isBl (l.drop (tokOf l).1))) (p + (tokOf l).1 + tw isBl (l.drop (tokOf l).1)) (ts ++ [⟨(tokOf l).2, l.take (tokOf l).1, p⟩])
def scan (l : List UInt8) : List Tok × Int × Nat :=
  if 8192 < l.length then ([], 5, 0) else scanGo (l.length + 1) (l.drop (tw isBl l)) (tw isBl l) []

theorem numOf_le (l : List UInt8) : (numOf l).1 ≤ l.length := by
  unfold numOf
  have h1 := tw_le isDi l
  have h2 := tw_le isDi (l.drop (tw isDi l + 1))
  rw [List.length_drop] at h2
  split
  · rename_i h; show _ + _ + _ ≤ _; omega
  · exact h1
theorem signOf_le (l : List UInt8) : signOf l ≤ l.length := by
  unfold signOf
  split
  · rename_i h
    rw [List.any_eq_true] at h
    obtain ⟨p, hp, hx⟩ := h
    have := hasPrefix_size hx
    have hl : p.length = 2 := by
      simp [twosL] at hp
      rcases hp with rfl | rfl | rfl | rfl | rfl | rfl <;> rfl
    omega
  · split
    · rename_i h
      cases l with
      | nil => simp at h
      | cons c l => simp
    · omega
theorem tokOf_le (l : List UInt8) : (tokOf l).1 ≤ l.length := by
  unfold tokOf
  have h1 := tw_le inNm l
  have h2 := numOf_le l
  have h3 := signOf_le l
  repeat' split
  all_goals first | exact h1 | exact h2 | exact h3 | exact Nat.zero_le _

theorem lexInfo : (Try.prog.info? 32).map (fun i => (i.zero, i.size, i.bytes)) = some (some (.agg #[.int .i64 0, .string ⟨#[]⟩, .int .i64 0]), 3, 32) := by kernel_rfl
theorem scan_calls (s : ByteArray) (w : World) (hs : s.size ≤ maxLen) :
    Calls Try.prog 10 #[.string s] w fun e w' => ∃ v, e = .returned (.tuple #[v, .int .i64 (scan s.data.toList).2.1, .int .i64 (scan s.data.toList).2.2]) ∧
      RdAt w' v (scan s.data.toList).1.length 3 (tokCells (scan s.data.toList).1) ∧ Below w.heap.size w w' := by
  have Hsz := Lib.hid hs
  unfold maxLen at hs
  by_cases hbig : 8192 < s.size
  · have hd : decide ((8192 : Int) < (s.size : Int)) = true := by simp; omega
    have hr : scan s.data.toList = ([], 5, 0) := by unfold scan; rw [if_pos (by simpa using hbig)]
    have Hr := Lib.hid hr
    clear hr
    go_enter Try.func10, Try.ntmps10
    go_wp2_with fail
    go_ret3
    rw [Hr.out]
    exact ⟨_, rfl, RdAt.nil _ _ _ _, Below.refl _ _⟩
  · have hr : scan s.data.toList = scanGo (s.size + 1) (s.data.toList.drop (tw isBl s.data.toList)) (tw isBl s.data.toList) [] := by
      unfold scan; rw [if_neg (by simpa using hbig)]; simp
    have hd : decide ((8192 : Int) < (s.size : Int)) = false := by simp; omega
    generalize hR : scan s.data.toList = R at *
    have Hr := Lib.hid hr
    clear hr hR
    go_enter Try.func10, Try.ntmps10
    go_wp2_with fail
    refine (whileBlank_calls _ _ Hsz.out).mono ?_
    rintro e w2 ⟨rfl, hb2⟩
    have hle := tw_le isBl s.data.toList
    generalize tw isBl s.data.toList = p0 at *
    have hle2 : p0 ≤ s.size := by simpa using hle
    have Hb2 := Lib.hid hb2
    clear hle hb2
    go_wp2_with fail
    go_loopw [5, 6] (fun v p W => ∃ (ts : List Tok) (q f : Nat), p = .int .i64 q ∧ q ≤ s.size ∧ ts.length ≤ 2048 ∧ W.ownsRow w.heap.size 32 3 v ts.length (tokCells ts) ∧ Below w.heap.size w W ∧
      s.size - q < f ∧ scanGo f (s.data.toList.drop q) q ts = R) (fun _ p _ => s.size - (intOf p).toNat)
    case atStart => exact ⟨[], p0, s.size + 1, rfl, hle2, by simp, World.ownsRow_nil _ _ _ _, Hb2.out, by omega, Hr.out.symm⟩
    case round =>
      obtain ⟨ts, q, f, rfl, hq, hts, hown, hbw, hf, hgo⟩ := hrel
      have Hown := Lib.hid hown
      have Hbw := Lib.hid hbw
      have Hgo := Lib.hid hgo
      clear hown hbw hgo hd Hr Hb2
      by_cases hlt : q < s.size
      · have hz : (s.extract q s.size).size ≤ maxLen := by unfold maxLen; simp; omega
        have hz1 : 1 ≤ (s.extract q s.size).size := by simp; omega
        have Hz := Lib.hid hz
        have Hz1 := Lib.hid hz1
        clear hz hz1
        go_wp2_with fail
        refine (token_calls _ _ Hz.out Hz1.out).mono ?_
        rintro e w3 ⟨rfl, hb3⟩
        rw [Lib.extract_to_end]
        have hle := tokOf_le (s.data.toList.drop q)
        generalize ht : tokOf (s.data.toList.drop q) = t at *
        obtain ⟨n, k⟩ := t
        have hn : n ≤ s.size - q := by simpa using hle
        have Ht := Lib.hid ht
        obtain ⟨f, rfl⟩ : ∃ g, f = g + 1 := ⟨f - 1, by omega⟩
        have hne : ¬ s.data.toList.drop q = [] := by
          intro h
          have := congrArg List.length h
          simp at this
          omega
        have hgo := Hgo.out
        simp only [scanGo, ht] at hgo
        rw [if_neg hne] at hgo
        clear Hgo
        have hown3 := own_kept Hown.out hb3
        obtain ⟨A, c, rfl⟩ := own_shape Hown.out
        have Hown3 := Lib.hid hown3
        have Hb3 := Lib.hid (below2 Hbw.out hb3)
        clear hown3 hb3 ht hle hne
        by_cases hn0 : n = 0
        · subst hn0
          rw [if_pos rfl] at hgo
          subst hgo
          go_wp2_with fail
          go_ret3
          exact ⟨_, rfl, RdAt.nil _ _ _ _, Hb3.out⟩
        · rw [if_neg hn0] at hgo
          have hn1 : ((n : Int) == 0) = false := by simp; omega
          by_cases hlen : ts.length = 2048
          · rw [if_pos hlen] at hgo
            subst hgo
            have hl2 : ((ts.length : Int) == 2048) = true := by simp; omega
            clear hlen
            go_wp2_with fail
            go_ret3
            exact ⟨_, rfl, RdAt.nil _ _ _ _, Hb3.out⟩
          · rw [if_neg hlen] at hgo
            have hl2 : ((ts.length : Int) == 2048) = false := by simp; omega
            have Hgo := Lib.hid hgo
            clear hgo
            have hqn : (q : Int) + (n : Int) ≤ (s.size : Int) := by omega
            have hqq : (q : Int) ≤ (q : Int) + (n : Int) := by omega
            obtain ⟨i0, hi, hz0, hz1, hz2⟩ := info_parts lexInfo
            have hx : s.extract q (q + n) = ⟨((s.data.toList.drop q).take n).toArray⟩ := by
              apply string_ext; rw [Lib.extract_data]; simp
            have Hx := Lib.hid hx
            have hbase := Hb3.out.size
            clear hx
            go_wp2_with (first | (at_builtin; refine append_lit _ _ _ rfl _ _ 22 rfl w.heap.size i0 _ 3 32 Try.underlying22 hi hz0 hz1 hz2 rfl (by decide) _ _ _ rfl Hown3.out 1 _ rfl rfl rfl rfl (by omega) (by decide) hbase Hb3.out ?_; intro v' w4 hown4 hg4 hb4))
            rw [Hx.out] at hown4
            have Hown4 := Lib.hid hown4
            have Hb4 := Lib.hid hb4
            clear hown4 hg4 hb4
            go_wp2_with fail
            refine (whileBlank_calls _ _ (by unfold maxLen; simp; omega)).mono ?_
            rintro e w5 ⟨rfl, hb5⟩
            rw [Lib.extract_to_end]
            have hle5 := tw_le isBl (s.data.toList.drop (q + n))
            have hown5 := own_kept Hown4.out hb5
            have hgo5 := Hgo.out
            simp only [List.drop_drop] at hgo5
            generalize tw isBl (s.data.toList.drop (q + n)) = b at *
            have hb : b ≤ s.size - (q + n) := by simpa using hle5
            have Hown5 := Lib.hid hown5
            have Hb5 := Lib.hid (below2 Hb4.out hb5)
            have Hgo5 := Lib.hid hgo5
            clear hle5 hown5 hgo5 hb5 Hgo
            go_wp2_with fail
            go_roundw
            case rel =>
              refine ⟨ts ++ [⟨k, (s.data.toList.drop q).take n, q⟩], q + n + b, f, by go_num, by omega, by simp; omega, ?_, Hb5.out, by omega, ?_⟩
              · have := Hown5.out
                rw [tokCells_snoc, List.length_append]
                exact this
              · rw [← Hgo5.out]
                rw [Nat.add_assoc]
            case measure => simp [intOf]; omega
      · go_wp2_with fail
        go_ret3
        cases f with
        | zero => omega
        | succ f =>
          have hgo := Hgo.out
          rw [List.drop_of_length_le (by simpa using hlt)] at hgo
          simp only [scanGo, if_true] at hgo
          subst hgo
          exact ⟨_, rfl, RdAt.of_own Hown.out (by show ts.length ≤ _; omega), Hbw.out⟩
end Go.Proofs.Ytmdaedeagiamkaa
