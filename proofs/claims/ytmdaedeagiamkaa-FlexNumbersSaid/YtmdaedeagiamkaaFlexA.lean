/- The small functions of package flex: what each of them answers. -/
import Derived.Test.YtmdaedeagiamkaaProg
import Derived.WalkKit
import Derived.Below
import Derived.Deep.QuietTactic
import Derived.BigQuiet
import Derived.Deep.LoopGhost
import Derived.Lib.Hide
set_option linter.unusedVariables false
set_option linter.unusedSimpArgs false
namespace Go.Proofs.Ytmdaedeagiamkaa
open Go.RowKit

theorem ret_int {k : IntKind} {a b : Int} (h : a = b) : Ending.returned (.int k a) = .returned (.int k b) := by rw [h]
theorem ret_bool {a b : Bool} (h : a = b) : Ending.returned (.bool a) = .returned (.bool b) := by rw [h]

/-! classes of characters: 0 other, 1 blank, 2 letter, 3 digit -/
def isBl (r : Int) : Bool := decide (r = 32 ∨ r = 9 ∨ r = 10 ∨ r = 13)
def isLe (r : Int) : Bool := decide (97 ≤ r ∧ r ≤ 122 ∨ 65 ≤ r ∧ r ≤ 90)
def isDi (r : Int) : Bool := decide (48 ≤ r ∧ r ≤ 57)
def clsOf (r : Int) : Int := if isBl r then 1 else if isLe r then 2 else if isDi r then 3 else 0
def inNm (r : Int) : Bool := isLe r || isDi r || (r == 95)

theorem classOf_calls (r : Int) (w : World) :
    Calls Try.prog 27 #[.int .i32 r] w fun e w' => e = .returned (.int .i64 (clsOf r)) ∧ w' = w := by
  go_enter Try.func27, Try.ntmps27
  go_wp2
  all_goals
    go_ret
    exact ⟨ret_int (by simp_all [clsOf, isBl, isLe, isDi] <;> omega), rfl⟩

theorem clsOf_letter (r : Int) : (clsOf r == 2) = isLe r := by
  unfold clsOf isBl isLe isDi
  repeat' split
  all_goals simp_all
  all_goals omega
theorem clsOf_digit (r : Int) : (clsOf r == 3) = isDi r := by
  unfold clsOf isBl isLe isDi
  repeat' split
  all_goals simp_all
  all_goals omega
theorem clsOf_blank (r : Int) : (clsOf r == 1) = isBl r := by
  unfold clsOf isBl isLe isDi
  repeat' split
  all_goals simp_all

theorem inName_calls (r : Int) (w : World) :
    Calls Try.prog 28 #[.int .i64 (clsOf r), .int .i32 r] w fun e w' => e = .returned (.bool (inNm r)) ∧ w' = w := by
  have h2 := clsOf_letter r
  have h3 := clsOf_digit r
  have H2 := Lib.hid h2
  have H3 := Lib.hid h3
  clear h2 h3
  go_enter Try.func28, Try.ntmps28
  go_wp2
  all_goals
    go_ret
    have h2 := H2.out
    have h3 := H3.out
    exact ⟨ret_bool (by simp_all [inNm]), rfl⟩
theorem isDigit_calls (r : Int) (w : World) :
    Calls Try.prog 42 #[.int .i64 (clsOf r), .int .i32 r] w fun e w' => e = .returned (.bool (isDi r)) ∧ w' = w := by
  go_enter Try.func42, Try.ntmps42
  go_wp2
  go_ret
  exact ⟨ret_bool (clsOf_digit r), rfl⟩
theorem isBlank_calls (r : Int) (w : World) :
    Calls Try.prog 22 #[.int .i64 (clsOf r), .int .i32 r] w fun e w' => e = .returned (.bool (isBl r)) ∧ w' = w := by
  go_enter Try.func22, Try.ntmps22
  go_wp2
  go_ret
  exact ⟨ret_bool (clsOf_blank r), rfl⟩

/-- How many bytes a text begins with that are so. -/
def tw (p : Int → Bool) (l : List UInt8) : Nat := (l.takeWhile fun c => p c.toNat).length
theorem tw_le (p : Int → Bool) (l : List UInt8) : tw p l ≤ l.length := (List.takeWhile_prefix _).length_le
theorem tw_nil (p : Int → Bool) : tw p [] = 0 := rfl
theorem tw_yes (p : Int → Bool) (c : UInt8) (l : List UInt8) (h : p c.toNat = true) : tw p (c :: l) = tw p l + 1 := by simp [tw, h]
theorem tw_no (p : Int → Bool) (c : UInt8) (l : List UInt8) (h : p c.toNat = false) : tw p (c :: l) = 0 := by simp [tw, h]
theorem drop_at (s : ByteArray) (pos : Nat) (h : pos < s.size) : s.data.toList.drop pos = s[pos] :: s.data.toList.drop (pos + 1) := by
  rw [List.drop_eq_getElem_cons (by simpa using h)]; rfl
/-- A step over a text from a place on, of bytes that are so. -/
def TwAt (p : Int → Bool) (s : ByteArray) (pos : Nat) : Prop := pos ≤ s.size ∧ tw p s.data.toList = pos + tw p (s.data.toList.drop pos)
theorem TwAt.start (p : Int → Bool) (s : ByteArray) : TwAt p s 0 := ⟨Nat.zero_le _, by simp⟩
theorem TwAt.yes {p : Int → Bool} {s : ByteArray} {pos : Nat} (h : TwAt p s pos) (hlt : pos < s.size) (hp : ∀ r, 128 ≤ r → p r = false)
    (hy : p ((Utf8.decode s pos).1 : Int) = true) : TwAt p s (pos + (Utf8.decode s pos).2) ∧ 1 ≤ (Utf8.decode s pos).2 := by
  by_cases ha : (s[pos]'hlt).toNat < 128
  · have hd := decode_ascii s pos hlt ha
    rw [hd] at hy ⊢
    refine ⟨⟨by simp; omega, ?_⟩, by simp⟩
    rw [h.2, drop_at s pos hlt, tw_yes p _ _ hy]; simp; omega
  · have := decode_high s pos hlt (by omega)
    rw [hp _ (by omega)] at hy
    exact absurd hy (by simp)
theorem TwAt.no {p : Int → Bool} {s : ByteArray} {pos : Nat} (h : TwAt p s pos) (hlt : pos < s.size) (hp : ∀ r, 128 ≤ r → p r = false)
    (hn : p ((Utf8.decode s pos).1 : Int) = false) : tw p s.data.toList = pos := by
  rw [h.2, drop_at s pos hlt, tw_no]
  · rfl
  by_cases ha : (s[pos]'hlt).toNat < 128
  · rw [decode_ascii s pos hlt ha] at hn; exact hn
  · exact hp _ (by omega)
theorem TwAt.done {p : Int → Bool} {s : ByteArray} {pos : Nat} (h : TwAt p s pos) (hge : ¬ pos < s.size) : tw p s.data.toList = s.size := by
  have h1 := h.1
  have : pos = s.size := by omega
  subst this
  rw [h.2, List.drop_of_length_le (by simp), tw_nil]; rfl

theorem while_calls (s : ByteArray) (g : FuncId) (p : Int → Bool) (w : World) (hs : s.size ≤ maxLen)
    (hg : ∀ r W, Calls Try.prog g #[.int .i64 (clsOf r), .int .i32 r] W fun e W' => e = .returned (.bool (p r)) ∧ W' = W)
    (hp : ∀ r, 128 ≤ r → p r = false) (hc : ∀ a W, (callFunc g a).run Try.prog W = .ok (.enter g a) W) :
    Calls Try.prog 21 #[.string s, .func (.func g) #[] #[]] w fun e w' => e = .returned (.int .i64 (tw p s.data.toList)) ∧ Below w.heap.size w w' := by
  unfold maxLen at hs
  have hG := Lib.hid hg
  have hP := Lib.hid hp
  clear hg hp
  go_enter Try.func21, Try.ntmps21
  go_wp2
  go_loopw [4] (fun n w' => ∃ (pos : Nat), w' = w.iter s pos ∧ n = .int .i64 0 ∧ TwAt p s pos) (fun _ w' => s.size - w'.iterPos w.heap.size)
  case atStart => exact ⟨0, rfl, rfl, TwAt.start p s⟩
  case round =>
    obtain ⟨pos, rfl, rfl, ht⟩ := hrel
    by_cases hlt : pos < s.size
    · have hnx : ∀ ty, (Instr.next (.pointer (some ⟨w.heap.size, 0, none⟩)) true ty).run Try.prog (w.iter s pos) = _ := fun ty => run_next_any w s pos ty hlt
      go_wp2_with fail
      refine (classOf_calls _ _).mono ?_
      rintro e w' ⟨rfl, rfl⟩
      go_wp2_with fail
      refine (hG.out _ _).mono ?_
      rintro e w' ⟨rfl, rfl⟩
      by_cases hy : p ((Utf8.decode s pos).1 : Int) = true
      · have hn := ht.yes hlt hP.out hy
        have Hn := Lib.hid hn
        clear hn
        go_wp2_with fail
        go_roundw
        case rel => exact ⟨_, rfl, rfl, Hn.out.1⟩
        case measure =>
          have := Hn.out.2
          simp
          omega
      · have hy' : p ((Utf8.decode s pos).1 : Int) = false := by simpa using hy
        clear hy
        have hn := ht.no hlt hP.out hy'
        have Hn := Lib.hid hn
        clear hn
        go_wp2_with fail
        go_ret
        refine ⟨ret_int ?_, (Below.refl _ _).alloc (Nat.le_refl _) _⟩
        rw [Hn.out]
    · have hnx : ∀ ty, (Instr.next (.pointer (some ⟨w.heap.size, 0, none⟩)) true ty).run Try.prog (w.iter s pos) = _ := fun ty => run_next_end w s pos ty hlt
      go_wp2
      go_ret
      refine ⟨ret_int ?_, (Below.refl _ _).alloc (Nat.le_refl _) _⟩
      rw [ht.done hlt]

theorem isBl_high (r : Int) (h : 128 ≤ r) : isBl r = false := by unfold isBl; simp; omega
theorem isDi_high (r : Int) (h : 128 ≤ r) : isDi r = false := by unfold isDi; simp; omega
theorem inNm_high (r : Int) (h : 128 ≤ r) : inNm r = false := by unfold inNm isLe isDi; simp; omega
theorem whileBlank_calls (s : ByteArray) (w : World) (hs : s.size ≤ maxLen) :
    Calls Try.prog 21 #[.string s, .func (.func 22) #[] #[]] w fun e w' => e = .returned (.int .i64 (tw isBl s.data.toList)) ∧ Below w.heap.size w w' :=
  while_calls s _ isBl w hs isBlank_calls isBl_high (fun a W => by kernel_rfl)
theorem whileDigit_calls (s : ByteArray) (w : World) (hs : s.size ≤ maxLen) :
    Calls Try.prog 21 #[.string s, .func (.func 42) #[] #[]] w fun e w' => e = .returned (.int .i64 (tw isDi s.data.toList)) ∧ Below w.heap.size w w' :=
  while_calls s _ isDi w hs isDigit_calls isDi_high (fun a W => by kernel_rfl)
theorem whileName_calls (s : ByteArray) (w : World) (hs : s.size ≤ maxLen) :
    Calls Try.prog 21 #[.string s, .func (.func 28) #[] #[]] w fun e w' => e = .returned (.int .i64 (tw inNm s.data.toList)) ∧ Below w.heap.size w w' :=
  while_calls s _ inNm w hs inName_calls inNm_high (fun a W => by kernel_rfl)
end Go.Proofs.Ytmdaedeagiamkaa
