/- How lists in memory are read: a slice whose cells are known. The small functions of package flex: what each of them answers. Words, numbers, signs and tokens of package flex: what each function answers. The scanner of package flex: what it answers. IsName and Join of package flex. -/
import Derived.Test.YtokdcfehnhifhaaGreatDoorProg
import Derived.Test.YtokdcfehnhifhaaGreatDoorShelf
import Derived.WalkKit
import Derived.Below
import Derived.Lib.Hide
import Derived.Deep.WholeRow
import Derived.Deep.QuietTactic
import Derived.BigQuiet
import Derived.Deep.LoopGhost
namespace Go.Proofs.YtokdcfehnhifhaaGreatDoor
/-! How lists in memory are read: a slice whose cells are known. -/
section
set_option linter.unusedVariables false
set_option linter.unusedSimpArgs false
open Go.RowKit

/-- A slice of n elements, each of so many cells, holds these cells, wherever it lies. -/
def RdAt (w : World) (v : Value) (n size : Nat) (cells : List Value) : Prop :=
  cells.length = n * size ∧ n ≤ 140737488355328 ∧
  ((n = 0 ∧ ∃ A c, v = .slice A 0 c) ∨
   ∃ b off c, v = .slice (some ⟨b, off, none⟩) n c ∧ n ≤ c ∧ b < w.heap.size ∧ ∀ j u, cells[j]? = some u → w.cell? ⟨b, off + j, none⟩ = some u)

theorem RdAt.below {w w' : World} {v : Value} {n size : Nat} {cells : List Value} (h : RdAt w v n size cells) (hb : Below w.heap.size w w') : RdAt w' v n size cells := by
  obtain ⟨h1, h2, h3⟩ := h
  refine ⟨h1, h2, ?_⟩
  rcases h3 with h3 | ⟨b, off, c, hv, hle, hlt, hc⟩
  · exact Or.inl h3
  · refine Or.inr ⟨b, off, c, hv, hle, Nat.lt_of_lt_of_le hlt hb.size, fun j u hj => ?_⟩
    rw [hb.cell (p := ⟨b, off + j, none⟩) hlt]
    exact hc j u hj
theorem RdAt.slice {w : World} {v : Value} {n size : Nat} {cells : List Value} (h : RdAt w v n size cells) : ∃ A c, v = .slice A n c := by
  rcases h.2.2 with ⟨rfl, A, c, hv⟩ | ⟨b, off, c, hv, _⟩
  · exact ⟨A, c, hv⟩
  · exact ⟨_, c, hv⟩
/-- A slice of at least one element: where it lies. -/
theorem RdAt.pos {w : World} {v : Value} {n size : Nat} {cells : List Value} (h : RdAt w v n size cells) (hn : 0 < n) :
    ∃ b off c, v = .slice (some ⟨b, off, none⟩) n c ∧ n ≤ c ∧ b < w.heap.size ∧ ∀ j u, cells[j]? = some u → w.cell? ⟨b, off + j, none⟩ = some u := by
  rcases h.2.2 with ⟨h0, _⟩ | h1
  · omega
  · exact h1
theorem RdAt.nil (w : World) (A : Option Addr) (c size : Nat) : RdAt w (.slice A 0 c) 0 size [] := ⟨by simp, by omega, Or.inl ⟨rfl, A, c, rfl⟩⟩
theorem RdAt.of_own {w : World} {base : Nat} {e : TypeId} {size n : Nat} {v : Value} {cells : List Value} (h : w.ownsRow base e size v n cells) (hn : n ≤ 140737488355328) : RdAt w v n size cells := by
  refine ⟨h.1, hn, ?_⟩
  rcases h.2 with ⟨rfl, rfl⟩ | ⟨g, cap, cur, rfl, hg, hh, hle, hm, hs, ht⟩
  · exact Or.inl ⟨rfl, none, 0, rfl⟩
  · refine Or.inr ⟨g, 0, cap, rfl, hle, (Array.getElem?_eq_some_iff.1 hh).1, fun j u hj => ?_⟩
    have := h.cells (g := g) rfl j u hj
    have ha : (⟨g, 0, none⟩ : Addr).add j = ⟨g, 0 + j, none⟩ := by unfold Addr.add; split <;> simp_all
    rwa [ha] at this
theorem string_ext {a b : ByteArray} (h : a.data.toList = b.data.toList) : a = b := by
  obtain ⟨⟨a⟩⟩ := a
  obtain ⟨⟨b⟩⟩ := b
  simp at h
  rw [h]
theorem string_mk (a : ByteArray) : a = ⟨a.data.toList.toArray⟩ := by simp
theorem str_ne {s : ByteArray} (h : 1 ≤ s.size) : s.toList.isEmpty = false := by
  rw [ByteArray.toList_eq]
  obtain ⟨⟨l⟩⟩ := s
  cases l with
  | nil => simp [ByteArray.size] at h
  | cons c l => rfl
theorem str_ne' {s : ByteArray} (h : 1 ≤ s.size) : ¬ s.data.toList = [] := by
  obtain ⟨⟨l⟩⟩ := s
  cases l with
  | nil => simp [ByteArray.size] at h
  | cons c l => simp
theorem str_nil {s : ByteArray} (h : s.size = 0) : s = ⟨#[]⟩ := by
  obtain ⟨⟨l⟩⟩ := s
  cases l with
  | nil => rfl
  | cons c l => simp [ByteArray.size] at h
/-- A text as a value. -/
abbrev strV (l : List UInt8) : Value := .string ⟨l.toArray⟩
theorem strV_eq {a : ByteArray} {l : List UInt8} (h : a.data.toList = l) : (.string a : Value) = strV l := by
  rw [strV, ← h]
theorem bcell {W w1 : World} (hb : Below W.heap.size W w1) : (∀ b o, b < W.heap.size → w1.cell? ⟨b, o, none⟩ = W.cell? ⟨b, o, none⟩) ∧ (∀ b o, b < W.heap.size → w1.frozen? ⟨b, o, none⟩ = W.frozen? ⟨b, o, none⟩) :=
  ⟨fun b o h => hb.cell (p := ⟨b, o, none⟩) h, fun b o h => hb.frozen (p := ⟨b, o, none⟩) h⟩
theorem Below.then {B : Nat} {w w1 w2 : World} (h : Below B w w1) (hB : B ≤ w1.heap.size) (k : Below w1.heap.size w1 w2) : Below B w w2 :=
  h.trans (k.mono hB)
theorem below2 {w w1 w2 : World} (h : Below w.heap.size w w1) (k : Below w1.heap.size w1 w2) : Below w.heap.size w w2 := h.trans (k.mono h.size)
theorem grownBy_of_below {w w' : World} (h : Below w.heap.size w w') : w.grownBy w' none :=
  ⟨h.os, h.tape, h.output, h.size, fun k hk _ => h.block k hk⟩
theorem own_kept {w w' : World} {base : Nat} {e : TypeId} {size n : Nat} {v : Value} {cells : List Value} (h : w.ownsRow base e size v n cells) (hb : Below w.heap.size w w') : w'.ownsRow base e size v n cells :=
  h.kept (grownBy_of_below hb) (by cases v.ownBlock <;> simp)
theorem own_shape {w : World} {base : Nat} {e : TypeId} {size n : Nat} {v : Value} {cells : List Value} (h : w.ownsRow base e size v n cells) : ∃ A c, v = .slice A n c := by
  rcases h.2 with ⟨rfl, rfl⟩ | ⟨g, cap, cur, rfl, _⟩
  · exact ⟨none, 0, rfl⟩
  · exact ⟨_, cap, rfl⟩
theorem add_mk (b o j : Nat) : (⟨b, o, none⟩ : Addr).add j = ⟨b, o + j, none⟩ := by unfold Addr.add; split <;> simp_all

/-- 'xs = append(xs, x)' at a row of the call's own, x being a literal of one element. -/
theorem append_lit (W : World) (news : Array Value) (e : TypeId) {P : Program} {W0 : World} {ops : Array Oper} {rest : List Oper} {o : Oper} {a : Act} {Q : Exit → Act → World → Prop} (hgd : o.guard = none) (s x : Operand) (t : TypeId)
    (ho : o.op = .call { callee := .builtin .append, args := #[s, x], argTypes := #[t, t] })
    (base : Nat) (i : TypeInfo) (z : Value) (size bytes : Nat) (ht : P.underlying t = some (.slice e)) (hi : P.info? e = some i) (hz : i.zero = some z)
    (hsize : i.size = size) (hby : i.bytes = bytes) (hzs : z.cells.size = size) (hsz : 0 < size)
    (v : Value) (n : Nat) (xs : List Value) (hs : a.eval s = v) (hown : W.ownsRow base e size v n xs)
    (c B1 : Nat) (hx : a.eval x = .slice (some ⟨B1, 0, none⟩) 1 c) (hB1 : B1 = W.heap.size) (hl : news.size = size) (h1 : (news.toList.all fun u => u.oneCell') = true)
    (hn : n < 1048576) (hbytes : bytes ≤ 134217728) (hbase : base ≤ W.heap.size) (hbel : Below base W0 W)
    (h : ∀ v' w', w'.ownsRow base e size v' (n + 1) (xs ++ news.toList) → W.grownBy w' v.ownBlock → Below base W0 w' → wpList P ops Q rest (a.put o.dst v') w') : wpList P ops Q (o :: rest) a (W.alloc (.cells news e)) := by
  subst hB1
  have hmul : (n + 1) * bytes ≤ 1048576 * 134217728 := Nat.mul_le_mul (by omega) hbytes
  refine wpList_append_own _ hgd s x t ho base e i z size bytes ht hi hz hsize hby hzs hsz v n xs hs (hown.alloc _) ⟨W.heap.size, 0, none⟩ 1 c news.toList hx (by simpa using hl) ?_ (fun u hu => List.all_eq_true.1 h1 u hu) (by unfold maxLen; omega) (by omega) (by simp; omega) ?_
  · intro j u hj
    rw [add_mk, Nat.zero_add, World.cell?_alloc_new]
    simpa using hj
  · intro v' w' hown' hg _
    have hg' : W.grownBy w' v.ownBlock := ⟨hg.os, hg.tape, hg.output, by have := hg.size; simp at this; omega, fun k hk hne => by
      rw [hg.block k (by simp; omega) hne, Below.heap_alloc _ _ _ hk]⟩
    exact h v' w' hown' hg' (hbel.grown hg' hbase (fun k hk => (hown.lt k hk).1))
/-- A whole row goes into the block that was made last. -/
theorem wpList_store_new (W : World) (c : Array Value) (ty : TypeId) {P : Program} {ops : Array Oper} {rest : List Oper} {o : Oper} {a : Act} {Q : Exit → Act → World → Prop} (hgd : o.guard = none) (x y : Operand) (ho : o.op = .store ty x y)
    (B1 : Nat) (c' : Array Value) (hx : a.eval x = .pointer (some ⟨B1, 0, none⟩)) (hB1 : B1 = W.heap.size) (hy : a.eval y = .agg c') (hi : (P.info? ty).map (·.size) = some c'.size) (hc : c.size = c'.size) (h1 : (c'.all fun u => u.oneCell') = true)
    (h : wpList P ops Q rest (a.put o.dst undef) (W.alloc (.cells c' ty))) : wpList P ops Q (o :: rest) a (W.alloc (.cells c ty)) := by
  subst hB1
  refine wpList_plain hgd fun K hK => ?_
  unfold Oper.wp execOp
  simp only [ho, hx, hy, Sem.run_bind, run_storeAt_new (P := P) W ty c c' hi hc h1, Result.andThen_ok]
  exact hK _ _ h
/-- A new block of cells: the world behind it gets a name. -/
theorem wp_named {P : Program} {c : Code} {Q : Exit → Act → World → Prop} {a : Act} {w : World} {cs : Array Value} {t : TypeId}
    (h : ∀ W, Below w.heap.size w W → (∀ j u, cs[j]? = some u → W.cell? ⟨w.heap.size, j, none⟩ = some u) → W.heap.size = w.heap.size + 1 → c.wp P Q a W) : c.wp P Q a (w.alloc (.cells cs t)) :=
  h _ ((Below.refl _ _).alloc (Nat.le_refl _) _) (fun j u hj => by rw [World.cell?_alloc_new]; exact hj) (by simp)
theorem toList_beq (a b : ByteArray) : (a.toList == b.toList) = decide (a.data.toList = b.data.toList) := by
  rw [ByteArray.toList_eq, ByteArray.toList_eq]
  rw [Bool.eq_iff_iff, decide_eq_true_eq, beq_iff_eq]
end

/-! The small functions of package flex: what each of them answers. -/
section
set_option linter.unusedVariables false
set_option linter.unusedSimpArgs false
open Go.RowKit

theorem ret_int {k : IntKind} {a b : Int} (h : a = b) : Ending.returned (.int k a) = .returned (.int k b) := by rw [h]
theorem ret_bool {a b : Bool} (h : a = b) : Ending.returned (.bool a) = .returned (.bool b) := by rw [h]

/-! classes of characters: 0 other, 1 blank, 2 letter, 3 digit -/
def isBl (r : Int) : Bool := decide (r = 32 ∨ r = 9 ∨ r = 10 ∨ r = 13)
def isLe (r : Int) : Bool := decide (97 ≤ r ∧ r ≤ 122 ∨ 65 ≤ r ∧ r ≤ 90)
def isDi (r : Int) : Bool := decide (48 ≤ r ∧ r ≤ 57)
def clsOf (r : Int) : Int := if isBl r then 1 else if isLe r then 2 else if isDi r then 3 else 0
def inNm (r : Int) : Bool := isLe r || isDi r || (r == 95)

theorem classOf_calls (r : Int) (w : World) :
    Calls Tryz.prog 77 #[.int .i32 r] w fun e w' => e = .returned (.int .i64 (clsOf r)) ∧ w' = w := by
  go_enter Tryz.func77, Tryz.ntmps77
  go_wp2
  all_goals
    go_ret
    exact ⟨ret_int (by simp_all [clsOf, isBl, isLe, isDi] <;> omega), rfl⟩

theorem clsOf_letter (r : Int) : (clsOf r == 2) = isLe r := by
  unfold clsOf isBl isLe isDi
  repeat' split
  all_goals simp_all
  all_goals omega
theorem clsOf_digit (r : Int) : (clsOf r == 3) = isDi r := by
  unfold clsOf isBl isLe isDi
  repeat' split
  all_goals simp_all
  all_goals omega
theorem clsOf_blank (r : Int) : (clsOf r == 1) = isBl r := by
  unfold clsOf isBl isLe isDi
  repeat' split
  all_goals simp_all

theorem inName_calls (r : Int) (w : World) :
    Calls Tryz.prog 78 #[.int .i64 (clsOf r), .int .i32 r] w fun e w' => e = .returned (.bool (inNm r)) ∧ w' = w := by
  have h2 := clsOf_letter r
  have h3 := clsOf_digit r
  have H2 := Lib.hid h2
  have H3 := Lib.hid h3
  clear h2 h3
  go_enter Tryz.func78, Tryz.ntmps78
  go_wp2
  all_goals
    go_ret
    have h2 := H2.out
    have h3 := H3.out
    exact ⟨ret_bool (by simp_all [inNm]), rfl⟩
theorem isDigit_calls (r : Int) (w : World) :
    Calls Tryz.prog 130 #[.int .i64 (clsOf r), .int .i32 r] w fun e w' => e = .returned (.bool (isDi r)) ∧ w' = w := by
  go_enter Tryz.func130, Tryz.ntmps130
  go_wp2
  go_ret
  exact ⟨ret_bool (clsOf_digit r), rfl⟩
theorem isBlank_calls (r : Int) (w : World) :
    Calls Tryz.prog 50 #[.int .i64 (clsOf r), .int .i32 r] w fun e w' => e = .returned (.bool (isBl r)) ∧ w' = w := by
  go_enter Tryz.func50, Tryz.ntmps50
  go_wp2
  go_ret
  exact ⟨ret_bool (clsOf_blank r), rfl⟩

/-- How many bytes a text begins with that are so. -/
def tw (p : Int → Bool) (l : List UInt8) : Nat := (l.takeWhile fun c => p c.toNat).length
theorem tw_le (p : Int → Bool) (l : List UInt8) : tw p l ≤ l.length := (List.takeWhile_prefix _).length_le
theorem tw_nil (p : Int → Bool) : tw p [] = 0 := rfl
theorem tw_yes (p : Int → Bool) (c : UInt8) (l : List UInt8) (h : p c.toNat = true) : tw p (c :: l) = tw p l + 1 := by simp [tw, h]
theorem tw_no (p : Int → Bool) (c : UInt8) (l : List UInt8) (h : p c.toNat = false) : tw p (c :: l) = 0 := by simp [tw, h]
theorem drop_at (s : ByteArray) (pos : Nat) (h : pos < s.size) : s.data.toList.drop pos = s[pos] :: s.data.toList.drop (pos + 1) := by
  rw [List.drop_eq_getElem_cons (by simpa using h)]; rfl
/-- A step over a text from a place on, of bytes that are so. -/
def TwAt (p : Int → Bool) (s : ByteArray) (pos : Nat) : Prop := pos ≤ s.size ∧ tw p s.data.toList = pos + tw p (s.data.toList.drop pos)
theorem TwAt.start (p : Int → Bool) (s : ByteArray) : TwAt p s 0 := ⟨Nat.zero_le _, by simp⟩
theorem TwAt.yes {p : Int → Bool} {s : ByteArray} {pos : Nat} (h : TwAt p s pos) (hlt : pos < s.size) (hp : ∀ r, 128 ≤ r → p r = false)
    (hy : p ((Utf8.decode s pos).1 : Int) = true) : TwAt p s (pos + (Utf8.decode s pos).2) ∧ 1 ≤ (Utf8.decode s pos).2 := by
  by_cases ha : (s[pos]'hlt).toNat < 128
  · have hd := decode_ascii s pos hlt ha
    rw [hd] at hy ⊢
    refine ⟨⟨by simp; omega, ?_⟩, by simp⟩
    rw [h.2, drop_at s pos hlt, tw_yes p _ _ hy]; simp; omega
  · have := decode_high s pos hlt (by omega)
    rw [hp _ (by omega)] at hy
    exact absurd hy (by simp)
theorem TwAt.no {p : Int → Bool} {s : ByteArray} {pos : Nat} (h : TwAt p s pos) (hlt : pos < s.size) (hp : ∀ r, 128 ≤ r → p r = false)
    (hn : p ((Utf8.decode s pos).1 : Int) = false) : tw p s.data.toList = pos := by
  rw [h.2, drop_at s pos hlt, tw_no]
  · rfl
  by_cases ha : (s[pos]'hlt).toNat < 128
  · rw [decode_ascii s pos hlt ha] at hn; exact hn
  · exact hp _ (by omega)
theorem TwAt.done {p : Int → Bool} {s : ByteArray} {pos : Nat} (h : TwAt p s pos) (hge : ¬ pos < s.size) : tw p s.data.toList = s.size := by
  have h1 := h.1
  have : pos = s.size := by omega
  subst this
  rw [h.2, List.drop_of_length_le (by simp), tw_nil]; rfl

theorem while_calls (s : ByteArray) (g : FuncId) (p : Int → Bool) (w : World) (hs : s.size ≤ maxLen)
    (hg : ∀ r W, Calls Tryz.prog g #[.int .i64 (clsOf r), .int .i32 r] W fun e W' => e = .returned (.bool (p r)) ∧ W' = W)
    (hp : ∀ r, 128 ≤ r → p r = false) (hc : ∀ a W, (callFunc g a).run Tryz.prog W = .ok (.enter g a) W) :
    Calls Tryz.prog 49 #[.string s, .func (.func g) #[] #[]] w fun e w' => e = .returned (.int .i64 (tw p s.data.toList)) ∧ Below w.heap.size w w' := by
  unfold maxLen at hs
  have hG := Lib.hid hg
  have hP := Lib.hid hp
  clear hg hp
  go_enter Tryz.func49, Tryz.ntmps49
  go_wp2
  go_loopw [4] (fun n w' => ∃ (pos : Nat), w' = w.iter s pos ∧ n = .int .i64 0 ∧ TwAt p s pos) (fun _ w' => s.size - w'.iterPos w.heap.size)
  case atStart => exact ⟨0, rfl, rfl, TwAt.start p s⟩
  case round =>
    obtain ⟨pos, rfl, rfl, ht⟩ := hrel
    by_cases hlt : pos < s.size
    · have hnx : ∀ ty, (Instr.next (.pointer (some ⟨w.heap.size, 0, none⟩)) true ty).run Tryz.prog (w.iter s pos) = _ := fun ty => run_next_any w s pos ty hlt
      go_wp2_with fail
      refine (classOf_calls _ _).mono ?_
      rintro e w' ⟨rfl, rfl⟩
      go_wp2_with fail
      refine (hG.out _ _).mono ?_
      rintro e w' ⟨rfl, rfl⟩
      by_cases hy : p ((Utf8.decode s pos).1 : Int) = true
      · have hn := ht.yes hlt hP.out hy
        have Hn := Lib.hid hn
        clear hn
        go_wp2_with fail
        go_roundw
        case rel => exact ⟨_, rfl, rfl, Hn.out.1⟩
        case measure =>
          have := Hn.out.2
          simp
          omega
      · have hy' : p ((Utf8.decode s pos).1 : Int) = false := by simpa using hy
        clear hy
        have hn := ht.no hlt hP.out hy'
        have Hn := Lib.hid hn
        clear hn
        go_wp2_with fail
        go_ret
        refine ⟨ret_int ?_, (Below.refl _ _).alloc (Nat.le_refl _) _⟩
        rw [Hn.out]
    · have hnx : ∀ ty, (Instr.next (.pointer (some ⟨w.heap.size, 0, none⟩)) true ty).run Tryz.prog (w.iter s pos) = _ := fun ty => run_next_end w s pos ty hlt
      go_wp2
      go_ret
      refine ⟨ret_int ?_, (Below.refl _ _).alloc (Nat.le_refl _) _⟩
      rw [ht.done hlt]

theorem isBl_high (r : Int) (h : 128 ≤ r) : isBl r = false := by unfold isBl; simp; omega
theorem isDi_high (r : Int) (h : 128 ≤ r) : isDi r = false := by unfold isDi; simp; omega
theorem inNm_high (r : Int) (h : 128 ≤ r) : inNm r = false := by unfold inNm isLe isDi; simp; omega
theorem whileBlank_calls (s : ByteArray) (w : World) (hs : s.size ≤ maxLen) :
    Calls Tryz.prog 49 #[.string s, .func (.func 50) #[] #[]] w fun e w' => e = .returned (.int .i64 (tw isBl s.data.toList)) ∧ Below w.heap.size w w' :=
  while_calls s _ isBl w hs isBlank_calls isBl_high (fun a W => by kernel_rfl)
theorem whileDigit_calls (s : ByteArray) (w : World) (hs : s.size ≤ maxLen) :
    Calls Tryz.prog 49 #[.string s, .func (.func 130) #[] #[]] w fun e w' => e = .returned (.int .i64 (tw isDi s.data.toList)) ∧ Below w.heap.size w w' :=
  while_calls s _ isDi w hs isDigit_calls isDi_high (fun a W => by kernel_rfl)
theorem whileName_calls (s : ByteArray) (w : World) (hs : s.size ≤ maxLen) :
    Calls Tryz.prog 49 #[.string s, .func (.func 78) #[] #[]] w fun e w' => e = .returned (.int .i64 (tw inNm s.data.toList)) ∧ Below w.heap.size w w' :=
  while_calls s _ inNm w hs inName_calls inNm_high (fun a W => by kernel_rfl)
end

/-! Words, numbers, signs and tokens of package flex: what each function answers. -/
section
set_option linter.unusedVariables false
set_option linter.unusedSimpArgs false
open Go.RowKit

/-- The words of the language. -/
def wordsL : List (List UInt8) := [[105, 110, 116], [102, 108, 111, 97, 116], [100, 111, 117, 98, 108, 101], [105, 102], [101, 108, 115, 101], [119, 104, 105, 108, 101], [114, 101, 97, 100], [105, 110], [115, 113, 114, 116], [97, 98, 115]]
def wordsB : List ByteArray := wordsL.map fun l => ⟨l.toArray⟩
def isWord (l : List UInt8) : Bool := wordsL.contains l
theorem isWord_B (s : ByteArray) : Lib.containsS (wordsB.take 10) s = isWord s.data.toList := by
  rw [Bool.eq_iff_iff, Lib.containsS_iff]
  have : wordsB.take 10 = wordsB := rfl
  rw [this]
  unfold isWord wordsB
  rw [List.contains_iff_mem, List.mem_map]
  constructor
  · rintro ⟨l, hl, rfl⟩; exact hl
  · intro h; exact ⟨_, h, rfl⟩

theorem isWord_calls (s : ByteArray) (w : World) :
    Calls Tryz.prog 79 #[.string s] w fun e w' => e = .returned (.bool (isWord s.data.toList)) ∧ Below w.heap.size w w' := by
  go_enter Tryz.func79, Tryz.ntmps79
  go_wp2_with fail
  refine (Tryz.slices_Contains_string w.heap.size 0 10 10 wordsB s _ (by decide) (by decide) ?_).mono ?_
  · intro j hj
    have hj' : j < 10 := hj
    simp only [Nat.zero_add]
    rcases j with _ | _ | _ | _ | _ | _ | _ | _ | _ | _ | j <;> first | omega | simp [wordsB, wordsL]
  rintro e w1 ⟨rfl, rfl⟩
  rw [isWord_B]
  go_wp2_with fail
  go_ret
  exact ⟨rfl, (Below.refl _ _).alloc (Nat.le_refl _) _⟩

/-- The number that a text begins with: its length and its kind. -/
def numOf (l : List UInt8) : Nat × Int :=
  if Lib.hasPrefix (l.drop (tw isDi l)) [46] = true ∧ 0 < tw isDi (l.drop (tw isDi l + 1)) then (tw isDi l + 1 + tw isDi (l.drop (tw isDi l + 1)), 4) else (tw isDi l, 3)

theorem hasPrefix_size {l : List UInt8} {p : List UInt8} (h : Lib.hasPrefix l p = true) : p.length ≤ l.length := by
  have := List.isPrefixOf_iff_prefix.1 h
  exact this.length_le

theorem number_calls (s : ByteArray) (w : World) (hs : s.size ≤ maxLen) :
    Calls Tryz.prog 90 #[.string s] w fun e w' => e = .returned (.tuple #[.int .i64 (numOf s.data.toList).1, .int .i64 (numOf s.data.toList).2]) ∧ Below w.heap.size w w' := by
  have Hsz := Lib.hid hs
  unfold maxLen at hs
  go_enter Tryz.func90, Tryz.ntmps90
  go_wp2_with fail
  refine (whileDigit_calls _ _ Hsz.out).mono ?_
  rintro e w1 ⟨rfl, hb1⟩
  have hle := tw_le isDi s.data.toList
  have hx := Lib.extract_to_end s (tw isDi s.data.toList)
  have hx1 := Lib.extract_to_end s (tw isDi s.data.toList + 1)
  generalize hn : tw isDi s.data.toList = n at *
  have Hn := Lib.hid hn
  have Hx := Lib.hid hx
  have Hx1 := Lib.hid hx1
  clear hx hx1 hn
  have hle2 : n ≤ s.size := by simpa using hle
  clear hle
  go_wp2_with fail
  refine (Tryz.strings_HasPrefix _ _ _).mono ?_
  rintro e w2 ⟨rfl, rfl⟩
  rw [Hx.out]
  generalize hp : Lib.hasPrefix (s.data.toList.drop n) [46] = b at *
  cases b
  · have Hp := Lib.hid hp
    clear hp
    go_wp2_with fail
    go_ret2
    exact ⟨by simp [numOf, Hn.out, Hp.out], hb1⟩
  · have hlt : n < s.size := by
      have := hasPrefix_size hp
      simp at this
      omega
    have Hp := Lib.hid hp
    clear hp
    have h1 : (1 : Int) ≤ ((s.size - n : Nat) : Int) := by omega
    go_wp2_with fail
    have hd : ((s.extract n s.size).extract 1 (s.size - n)).data.toList = s.data.toList.drop (n + 1) := by
      rw [Lib.extract_data, Lib.extract_to_end, List.drop_drop, List.take_of_length_le]
      simp
      omega
    have hz : ((s.extract n s.size).extract 1 (s.size - n)).size ≤ maxLen := by
      unfold maxLen; simp; omega
    refine (whileDigit_calls _ _ hz).mono ?_
    rintro e w3 ⟨rfl, hb3⟩
    rw [hd]
    clear hd hz
    have hle3 := tw_le isDi (s.data.toList.drop (n + 1))
    have hle4 : tw isDi (s.data.toList.drop (n + 1)) ≤ s.size - (n + 1) := by simpa using hle3
    clear hle3
    have hb : Below w.heap.size w w3 := hb1.trans (hb3.mono hb1.size)
    have Hb := Lib.hid hb
    clear hb hb1 hb3
    generalize hk : tw isDi (s.data.toList.drop (n + 1)) = k at *
    have Hk := Lib.hid hk
    clear hk
    by_cases hk0 : 0 < k
    · have hk1 : decide ((0 : Int) < (k : Int)) = true := by simp; omega
      go_wp2_with fail
      go_ret2
      refine ⟨?_, Hb.out⟩
      simp only [numOf, Hn.out, Hp.out, Hk.out]
      rw [if_pos ⟨trivial, hk0⟩]
      simp
    · obtain rfl : k = 0 := by omega
      go_wp2_with fail
      go_ret2
      refine ⟨?_, Hb.out⟩
      simp only [numOf, Hn.out, Hp.out, Hk.out]
      simp

/-- The length of the sign that a text begins with. -/
def twosL : List (List UInt8) := [[61, 61], [33, 61], [60, 61], [62, 61], [38, 38], [124, 124]]
def twosB : List ByteArray := twosL.map fun l => ⟨l.toArray⟩
def onesL : List UInt8 := [43, 45, 42, 47, 40, 41, 91, 93, 123, 125, 59, 44, 61, 60, 62, 33]
def signOf (l : List UInt8) : Nat := if twosL.any (Lib.hasPrefix l) then 2 else if onesL.any (fun c => l.head? == some c) then 1 else 0

theorem indexByte_ge (l : List UInt8) (c : UInt8) : -1 ≤ Lib.indexByte l c := by
  induction l with
  | nil => simp [Lib.indexByte]
  | cons b l ih =>
    simp only [Lib.indexByte]
    split
    · omega
    · split <;> omega
theorem indexByte_mem (l : List UInt8) (c : UInt8) : 0 ≤ Lib.indexByte l c ↔ c ∈ l := by
  induction l with
  | nil => simp [Lib.indexByte]
  | cons b l ih =>
    have := indexByte_ge l c
    simp only [Lib.indexByte, List.mem_cons]
    by_cases h : b == c
    · rw [if_pos h]; simp at h; simp [h]
    · rw [if_neg h]
      simp at h
      by_cases h1 : (Lib.indexByte l c == -1) = true
      · rw [if_pos h1]
        simp at h1
        have : ¬ c ∈ l := fun hm => by have := ih.2 hm; omega
        simp [this, Ne.symm h]
      · rw [if_neg h1]
        simp at h1
        have : c ∈ l := ih.1 (by omega)
        simp [this]
        omega
theorem twos_at (k : Nat) (h : k < 6) : twosL.take (k + 1) = twosL.take k ++ [(twosB[k]?.getD ByteArray.empty).data.toList] := by
  rcases k with _ | _ | _ | _ | _ | _ | k <;> first | omega | rfl
theorem signOf_two {l : List UInt8} {k : Nat} (hk : k < 6) (h : Lib.hasPrefix l (twosB[k]?.getD ByteArray.empty).data.toList = true) : signOf l = 2 := by
  unfold signOf
  rw [if_pos]
  rw [← List.take_append_drop (k + 1) twosL, List.any_append, twos_at k hk, List.any_append]
  simp [h]
theorem size_one (s : ByteArray) (h1 : 1 ≤ s.size) : ∃ c l, s.data.toList = c :: l ∧ s.extract 0 1 = ⟨#[c]⟩ := by
  obtain ⟨⟨l⟩⟩ := s
  cases l with
  | nil => simp [ByteArray.size] at h1
  | cons c l => exact ⟨c, l, rfl, by apply ByteArray.ext; simp [ByteArray.data_extract]⟩

theorem sign_calls (s : ByteArray) (w : World) (hs : s.size ≤ maxLen) (h1 : 1 ≤ s.size) :
    Calls Tryz.prog 91 #[.string s] w fun e w' => e = .returned (.int .i64 (signOf s.data.toList)) ∧ Below w.heap.size w w' := by
  unfold maxLen at hs
  go_enter Tryz.func91, Tryz.ntmps91
  go_wp2_with fail
  have hcells : ∀ j, j < 6 → (w.alloc (.cells #[.string ⟨#[61, 61]⟩, .string ⟨#[33, 61]⟩, .string ⟨#[60, 61]⟩, .string ⟨#[62, 61]⟩, .string ⟨#[38, 38]⟩, .string ⟨#[124, 124]⟩] 9)).cell? ⟨w.heap.size, j, none⟩ = some (.string (twosB.getD j ByteArray.empty)) := by
    intro j hj
    rcases j with _ | _ | _ | _ | _ | _ | j <;> first | omega | simp [twosB, twosL]
  have hb : Below w.heap.size w (w.alloc (.cells #[.string ⟨#[61, 61]⟩, .string ⟨#[33, 61]⟩, .string ⟨#[60, 61]⟩, .string ⟨#[62, 61]⟩, .string ⟨#[38, 38]⟩, .string ⟨#[124, 124]⟩] 9)) := (Below.refl _ _).alloc (Nat.le_refl _) _
  generalize w.alloc _ = W at *
  generalize w.heap.size = B at hcells ⊢
  have Hc := Lib.hid hcells
  have Hb := Lib.hid hb
  clear hcells hb
  go_loop [7] (fun i => ∃ k : Nat, k ≤ 6 ∧ i = .int .i64 k ∧ (twosL.take k).any (Lib.hasPrefix s.data.toList) = false) (fun i => 6 - (intOf i).toNat)
  case atStart => exact ⟨0, by omega, rfl, rfl⟩
  case round =>
    obtain ⟨k, hk, rfl, hno⟩ := hrel
    have Hno := Lib.hid hno
    clear hno
    by_cases hlt : k < 6
    · have hcell := Hc.out k hlt
      go_wp2_with fail
      refine (Tryz.strings_HasPrefix _ _ _).mono ?_
      rintro e w2 ⟨rfl, rfl⟩
      generalize hp : Lib.hasPrefix s.data.toList (twosB[k]?.getD ByteArray.empty).data.toList = b at *
      cases b
      · have hn : (twosL.take (k + 1)).any (Lib.hasPrefix s.data.toList) = false := by
          rw [twos_at k hlt, List.any_append, Hno.out]; simp [hp]
        have Hn := Lib.hid hn
        clear hn hp
        go_wp2_with fail
        go_round
        case rel => exact ⟨k + 1, by omega, by go_num, Hn.out⟩
        case measure => simp [intOf]; omega
      · have h2 := signOf_two hlt hp
        have H2 := Lib.hid h2
        clear h2 hp
        go_wp2_with fail
        go_ret
        exact ⟨ret_int (by rw [H2.out]; rfl), Hb.out⟩
    · obtain rfl : k = 6 := by omega
      obtain ⟨c, l, hl, hx⟩ := size_one s h1
      have Hx := Lib.hid hx
      have Hl := Lib.hid hl
      clear hx hl
      have hs1 : signOf s.data.toList = if c ∈ onesL then 1 else 0 := by
        unfold signOf
        have : twosL.any (Lib.hasPrefix s.data.toList) = false := Hno.out
        rw [this, Hl.out]
        simp
      have Hs1 := Lib.hid hs1
      clear hs1
      go_wp2_with fail
      rw [Hx.out]
      refine (Tryz.strings_Contains_one _ _ _).mono ?_
      rintro e w2 ⟨rfl, rfl⟩
      by_cases hm : c ∈ onesL
      · have hd : decide (0 ≤ Lib.indexByte (⟨#[43, 45, 42, 47, 40, 41, 91, 93, 123, 125, 59, 44, 61, 60, 62, 33]⟩ : ByteArray).data.toList c) = true := by
          rw [decide_eq_true_eq, indexByte_mem]; exact hm
        rw [hd]
        clear hd
        go_wp2_with fail
        go_ret
        exact ⟨ret_int (by rw [Hs1.out, if_pos hm]; rfl), Hb.out⟩
      · have hd : decide (0 ≤ Lib.indexByte (⟨#[43, 45, 42, 47, 40, 41, 91, 93, 123, 125, 59, 44, 61, 60, 62, 33]⟩ : ByteArray).data.toList c) = false := by
          rw [decide_eq_false_iff_not, indexByte_mem]; exact hm
        rw [hd]
        clear hd
        go_wp2_with fail
        go_ret
        exact ⟨ret_int (by rw [Hs1.out, if_neg hm]; rfl), Hb.out⟩

/-- A text's first byte (0: there is none). -/
def hd0 : List UInt8 → Int
  | [] => 0
  | c :: _ => (c.toNat : Int)

/-- The token that a text begins with: its length and its kind; 0: there is none. -/
def tokOf (l : List UInt8) : Nat × Int :=
  if isLe (hd0 l) = true then
    (if isWord (l.take (tw inNm l)) = true then (tw inNm l, 2) else if 16 < tw inNm l then (0, 0) else (tw inNm l, 1))
  else if isDi (hd0 l) = true then numOf l
  else if 0 < signOf l then (signOf l, 5) else (0, 0)

theorem head_wrap (s : ByteArray) (h1 : 0 < s.size) : wrap32 ((s[0]'h1).toNat : Int) = hd0 s.data.toList := by
  obtain ⟨⟨l⟩⟩ := s
  cases l with
  | nil => simp [ByteArray.size] at h1
  | cons c l =>
    have := c.toNat_lt
    show wrap32 (c.toNat : Int) = (c.toNat : Int)
    unfold wrap32
    omega
theorem clsOf_two {r : Int} (h : isLe r = true) : clsOf r = 2 := by
  have := clsOf_letter r; rw [h] at this; simpa using this
theorem clsOf_three {r : Int} (h : isDi r = true) : clsOf r = 3 := by
  have := clsOf_digit r; rw [h] at this; simpa using this
theorem clsOf_ne_two {r : Int} (h : ¬ isLe r = true) : (clsOf r == 2) = false := by
  rw [clsOf_letter r]; simpa using h
theorem clsOf_ne_three {r : Int} (h : ¬ isDi r = true) : (clsOf r == 3) = false := by
  rw [clsOf_digit r]; simpa using h
theorem extract_take (s : ByteArray) (n : Nat) : (s.extract 0 n).data.toList = s.data.toList.take n := by
  rw [Lib.extract_data]; simp

theorem token_calls (s : ByteArray) (w : World) (hs : s.size ≤ maxLen) (h1 : 1 ≤ s.size) :
    Calls Tryz.prog 51 #[.string s] w fun e w' => e = .returned (.tuple #[.int .i64 (tokOf s.data.toList).1, .int .i64 (tokOf s.data.toList).2]) ∧ Below w.heap.size w w' := by
  have Hsz := Lib.hid hs
  unfold maxLen at hs
  go_enter Tryz.func51, Tryz.ntmps51
  go_wp2_with fail
  refine wp_scope_jumps 0 (fun a W => (∃ x0 x1 x2 x3 x4 x5 x6 x7 x8 x9 x10 x11 x12 x13 x14 x15 x16 x17 x18 x19 x20 x21 x22 x23 x24 x25 x26 x27 x28 x29 x30 x31 x32 : Value, a = { tmps := #[x0, x1, x2, x3, x4, x5, x6, x7, x8, x9, x10, x11, x12, x13, x14, x15, x16, x17, x18, x19, x20, x21, x22, x23, x24, x25, x26, x27, x28, x29, x30, x31, x32], defers := [] }) ∧ tokOf s.data.toList = (0, 0) ∧ Below w.heap.size w W) (fun _ _ => 0) rfl ?_ ?_
  rotate_left
  · rintro a W ⟨⟨x0, x1, x2, x3, x4, x5, x6, x7, x8, x9, x10, x11, x12, x13, x14, x15, x16, x17, x18, x19, x20, x21, x22, x23, x24, x25, x26, x27, x28, x29, x30, x31, x32, rfl⟩, ht, hb⟩
    have Ht := Lib.hid ht
    have Hb := Lib.hid hb
    clear ht hb
    go_wp2_with fail
    unfold Exit.jump
    go_ret2
    exact ⟨by rw [Ht.out]; rfl, Hb.out⟩
  go_wp2_with fail
  rw [head_wrap s h1]
  refine (classOf_calls _ _).mono ?_
  rintro e w ⟨rfl, rfl⟩
  generalize hr : hd0 s.data.toList = r at *
  have Hr := Lib.hid hr
  clear hr
  by_cases hL : isLe r = true
  · rw [clsOf_two hL]
    have HL := Lib.hid hL
    clear hL
    go_wp2_with fail
    refine (whileName_calls _ _ Hsz.out).mono ?_
    rintro e w2 ⟨rfl, hb2⟩
    have hle := tw_le inNm s.data.toList
    generalize hn : tw inNm s.data.toList = n at *
    have Hn := Lib.hid hn
    clear hn
    have hle2 : n ≤ s.size := by simpa using hle
    clear hle
    go_wp2_with fail
    refine (isWord_calls _ _).mono ?_
    rintro e w3 ⟨rfl, hb3⟩
    have hb : Below w.heap.size w w3 := hb2.trans (hb3.mono hb2.size)
    have Hb := Lib.hid hb
    clear hb hb2 hb3
    rw [extract_take]
    generalize hw : isWord (s.data.toList.take n) = b at *
    have Hw := Lib.hid hw
    clear hw
    cases b
    · by_cases h16 : 16 < n
      · have hd : decide ((16 : Int) < (n : Int)) = true := by simp; omega
        go_wp2_with fail
        go_step3
        exact ⟨rfl, ⟨_, _, _, _, _, _, _, _, _, _, _, _, _, _, _, _, _, _, _, _, _, _, _, _, _, _, _, _, _, _, _, _, _, rfl⟩, by simp [tokOf, Hr.out, HL.out, Hn.out, Hw.out, h16], Hb.out⟩
      · have hd : decide ((16 : Int) < (n : Int)) = false := by simp; omega
        go_wp2_with fail
        unfold Exit.jump
        go_ret2
        exact ⟨by simp [tokOf, Hr.out, HL.out, Hn.out, Hw.out, h16], Hb.out⟩
    · go_wp2_with fail
      unfold Exit.jump
      go_ret2
      exact ⟨by simp [tokOf, Hr.out, HL.out, Hn.out, Hw.out], Hb.out⟩
  · by_cases hD : isDi r = true
    · rw [clsOf_three hD]
      have HL := Lib.hid hL
      have HD := Lib.hid hD
      clear hL hD
      go_wp2_with fail
      refine (number_calls _ _ Hsz.out).mono ?_
      rintro e w2 ⟨rfl, hb2⟩
      have Hb := Lib.hid hb2
      clear hb2
      generalize hn : numOf s.data.toList = q at *
      have Hn := Lib.hid hn
      clear hn
      go_wp2_with fail
      unfold Exit.jump
      go_ret2
      exact ⟨by simp [tokOf, Hr.out, HL.out, HD.out, Hn.out], Hb.out⟩
    · have c2 := clsOf_ne_two hL
      have c3 := clsOf_ne_three hD
      have HL := Lib.hid hL
      have HD := Lib.hid hD
      clear hL hD
      generalize clsOf r = c at *
      go_wp2_with fail
      refine (sign_calls _ _ Hsz.out h1).mono ?_
      rintro e w2 ⟨rfl, hb2⟩
      have Hb := Lib.hid hb2
      clear hb2 c2 c3
      generalize hn : signOf s.data.toList = q at *
      have Hn := Lib.hid hn
      clear hn
      by_cases hq : 0 < q
      · have hd : decide ((0 : Int) < (q : Int)) = true := by simp; omega
        go_wp2_with fail
        unfold Exit.jump
        go_ret2
        exact ⟨by simp [tokOf, Hr.out, HL.out, HD.out, Hn.out, hq], Hb.out⟩
      · obtain rfl : q = 0 := by omega
        go_wp2_with fail
        go_step3
        go_wp2_with fail
        unfold Exit.jump
        go_ret2
        exact ⟨by simp [tokOf, Hr.out, HL.out, HD.out, Hn.out], Hb.out⟩
end

/-! The scanner of package flex: what it answers. -/
section
set_option linter.unusedVariables false
set_option linter.unusedSimpArgs false
open Go.RowKit

/-- A token: its kind, its text, its place. -/
structure Tok where
  kind : Int
  text : List UInt8
  at_ : Nat
instance : DecidableEq Tok := fun a b => decidable_of_iff (a.kind = b.kind ∧ a.text = b.text ∧ a.at_ = b.at_) (by cases a; cases b; simp)
def Tok.cells (t : Tok) : List Value := [.int .i64 t.kind, strV t.text, .int .i64 t.at_]
def tokCells (ts : List Tok) : List Value := ts.flatMap Tok.cells
theorem tokCells_length (ts : List Tok) : (tokCells ts).length = ts.length * 3 := by
  induction ts with
  | nil => rfl
  | cons t ts ih => simp [tokCells, Tok.cells] at *; omega
theorem tokCells_snoc (ts : List Tok) (t : Tok) : tokCells (ts ++ [t]) = tokCells ts ++ t.cells := by simp [tokCells]

/-- The scanner, from a place on. -/
def scanGo : Nat → List UInt8 → Nat → List Tok → List Tok × Int × Nat
  | 0, _, _, ts => (ts, 0, 0)
  | f + 1, l, p, ts =>
    if l = [] then (ts, 0, 0)
    else if (tokOf l).1 = 0 then ([], 3, p)
    else if ts.length = 2048 then ([], 5, p)
    else scanGo f (l.drop ((tokOf l).1 + tw isBl (l.drop (tokOf l).1))) (p + (tokOf l).1 + tw isBl (l.drop (tokOf l).1)) (ts ++ [⟨(tokOf l).2, l.take (tokOf l).1, p⟩])
def scan (l : List UInt8) : List Tok × Int × Nat :=
  if 8192 < l.length then ([], 5, 0) else scanGo (l.length + 1) (l.drop (tw isBl l)) (tw isBl l) []

theorem numOf_le (l : List UInt8) : (numOf l).1 ≤ l.length := by
  unfold numOf
  have h1 := tw_le isDi l
  have h2 := tw_le isDi (l.drop (tw isDi l + 1))
  rw [List.length_drop] at h2
  split
  · rename_i h; show _ + _ + _ ≤ _; omega
  · exact h1
theorem signOf_le (l : List UInt8) : signOf l ≤ l.length := by
  unfold signOf
  split
  · rename_i h
    rw [List.any_eq_true] at h
    obtain ⟨p, hp, hx⟩ := h
    have := hasPrefix_size hx
    have hl : p.length = 2 := by
      simp [twosL] at hp
      rcases hp with rfl | rfl | rfl | rfl | rfl | rfl <;> rfl
    omega
  · split
    · rename_i h
      cases l with
      | nil => simp at h
      | cons c l => simp
    · omega
theorem tokOf_le (l : List UInt8) : (tokOf l).1 ≤ l.length := by
  unfold tokOf
  have h1 := tw_le inNm l
  have h2 := numOf_le l
  have h3 := signOf_le l
  repeat' split
  all_goals first | exact h1 | exact h2 | exact h3 | exact Nat.zero_le _

theorem lexInfo : (Tryz.prog.info? 42).map (fun i => (i.zero, i.size, i.bytes)) = some (some (.agg #[.int .i64 0, .string ⟨#[]⟩, .int .i64 0]), 3, 32) := by kernel_rfl
theorem scan_calls (s : ByteArray) (w : World) (hs : s.size ≤ maxLen) :
    Calls Tryz.prog 22 #[.string s] w fun e w' => ∃ v, e = .returned (.tuple #[v, .int .i64 (scan s.data.toList).2.1, .int .i64 (scan s.data.toList).2.2]) ∧
      RdAt w' v (scan s.data.toList).1.length 3 (tokCells (scan s.data.toList).1) ∧ Below w.heap.size w w' := by
  have Hsz := Lib.hid hs
  unfold maxLen at hs
  by_cases hbig : 8192 < s.size
  · have hd : decide ((8192 : Int) < (s.size : Int)) = true := by simp; omega
    have hr : scan s.data.toList = ([], 5, 0) := by unfold scan; rw [if_pos (by simpa using hbig)]
    have Hr := Lib.hid hr
    clear hr
    go_enter Tryz.func22, Tryz.ntmps22
    go_wp2_with fail
    go_ret3
    rw [Hr.out]
    exact ⟨_, rfl, RdAt.nil _ _ _ _, Below.refl _ _⟩
  · have hr : scan s.data.toList = scanGo (s.size + 1) (s.data.toList.drop (tw isBl s.data.toList)) (tw isBl s.data.toList) [] := by
      unfold scan; rw [if_neg (by simpa using hbig)]; simp
    have hd : decide ((8192 : Int) < (s.size : Int)) = false := by simp; omega
    generalize hR : scan s.data.toList = R at *
    have Hr := Lib.hid hr
    clear hr hR
    go_enter Tryz.func22, Tryz.ntmps22
    go_wp2_with fail
    refine (whileBlank_calls _ _ Hsz.out).mono ?_
    rintro e w2 ⟨rfl, hb2⟩
    have hle := tw_le isBl s.data.toList
    generalize tw isBl s.data.toList = p0 at *
    have hle2 : p0 ≤ s.size := by simpa using hle
    have Hb2 := Lib.hid hb2
    clear hle hb2
    go_wp2_with fail
    go_loopw [5, 6] (fun v p W => ∃ (ts : List Tok) (q f : Nat), p = .int .i64 q ∧ q ≤ s.size ∧ ts.length ≤ 2048 ∧ W.ownsRow w.heap.size 42 3 v ts.length (tokCells ts) ∧ Below w.heap.size w W ∧
      s.size - q < f ∧ scanGo f (s.data.toList.drop q) q ts = R) (fun _ p _ => s.size - (intOf p).toNat)
    case atStart => exact ⟨[], p0, s.size + 1, rfl, hle2, by simp, World.ownsRow_nil _ _ _ _, Hb2.out, by omega, Hr.out.symm⟩
    case round =>
      obtain ⟨ts, q, f, rfl, hq, hts, hown, hbw, hf, hgo⟩ := hrel
      have Hown := Lib.hid hown
      have Hbw := Lib.hid hbw
      have Hgo := Lib.hid hgo
      clear hown hbw hgo hd Hr Hb2
      by_cases hlt : q < s.size
      · have hz : (s.extract q s.size).size ≤ maxLen := by unfold maxLen; simp; omega
        have hz1 : 1 ≤ (s.extract q s.size).size := by simp; omega
        have Hz := Lib.hid hz
        have Hz1 := Lib.hid hz1
        clear hz hz1
        go_wp2_with fail
        refine (token_calls _ _ Hz.out Hz1.out).mono ?_
        rintro e w3 ⟨rfl, hb3⟩
        rw [Lib.extract_to_end]
        have hle := tokOf_le (s.data.toList.drop q)
        generalize ht : tokOf (s.data.toList.drop q) = t at *
        obtain ⟨n, k⟩ := t
        have hn : n ≤ s.size - q := by simpa using hle
        have Ht := Lib.hid ht
        obtain ⟨f, rfl⟩ : ∃ g, f = g + 1 := ⟨f - 1, by omega⟩
        have hne : ¬ s.data.toList.drop q = [] := by
          intro h
          have := congrArg List.length h
          simp at this
          omega
        have hgo := Hgo.out
        simp only [scanGo, ht] at hgo
        rw [if_neg hne] at hgo
        clear Hgo
        have hown3 := own_kept Hown.out hb3
        obtain ⟨A, c, rfl⟩ := own_shape Hown.out
        have Hown3 := Lib.hid hown3
        have Hb3 := Lib.hid (below2 Hbw.out hb3)
        clear hown3 hb3 ht hle hne
        by_cases hn0 : n = 0
        · subst hn0
          rw [if_pos rfl] at hgo
          subst hgo
          go_wp2_with fail
          go_ret3
          exact ⟨_, rfl, RdAt.nil _ _ _ _, Hb3.out⟩
        · rw [if_neg hn0] at hgo
          have hn1 : ((n : Int) == 0) = false := by simp; omega
          by_cases hlen : ts.length = 2048
          · rw [if_pos hlen] at hgo
            subst hgo
            have hl2 : ((ts.length : Int) == 2048) = true := by simp; omega
            clear hlen
            go_wp2_with fail
            go_ret3
            exact ⟨_, rfl, RdAt.nil _ _ _ _, Hb3.out⟩
          · rw [if_neg hlen] at hgo
            have hl2 : ((ts.length : Int) == 2048) = false := by simp; omega
            have Hgo := Lib.hid hgo
            clear hgo
            have hqn : (q : Int) + (n : Int) ≤ (s.size : Int) := by omega
            have hqq : (q : Int) ≤ (q : Int) + (n : Int) := by omega
            obtain ⟨i0, hi, hz0, hz1, hz2⟩ := info_parts lexInfo
            have hx : s.extract q (q + n) = ⟨((s.data.toList.drop q).take n).toArray⟩ := by
              apply string_ext; rw [Lib.extract_data]; simp
            have Hx := Lib.hid hx
            have hbase := Hb3.out.size
            clear hx
            go_wp2_with (first | (at_builtin; refine append_lit _ _ _ rfl _ _ 37 rfl w.heap.size i0 _ 3 32 Tryz.underlying37 hi hz0 hz1 hz2 rfl (by decide) _ _ _ rfl Hown3.out 1 _ rfl rfl rfl rfl (by omega) (by decide) hbase Hb3.out ?_; intro v' w4 hown4 hg4 hb4))
            rw [Hx.out] at hown4
            have Hown4 := Lib.hid hown4
            have Hb4 := Lib.hid hb4
            clear hown4 hg4 hb4
            go_wp2_with fail
            refine (whileBlank_calls _ _ (by unfold maxLen; simp; omega)).mono ?_
            rintro e w5 ⟨rfl, hb5⟩
            rw [Lib.extract_to_end]
            have hle5 := tw_le isBl (s.data.toList.drop (q + n))
            have hown5 := own_kept Hown4.out hb5
            have hgo5 := Hgo.out
            simp only [List.drop_drop] at hgo5
            generalize tw isBl (s.data.toList.drop (q + n)) = b at *
            have hb : b ≤ s.size - (q + n) := by simpa using hle5
            have Hown5 := Lib.hid hown5
            have Hb5 := Lib.hid (below2 Hb4.out hb5)
            have Hgo5 := Lib.hid hgo5
            clear hle5 hown5 hgo5 hb5 Hgo
            go_wp2_with fail
            go_roundw
            case rel =>
              refine ⟨ts ++ [⟨k, (s.data.toList.drop q).take n, q⟩], q + n + b, f, by go_num, by omega, by simp; omega, ?_, Hb5.out, by omega, ?_⟩
              · have := Hown5.out
                rw [tokCells_snoc, List.length_append]
                exact this
              · rw [← Hgo5.out]
                rw [Nat.add_assoc]
            case measure => simp [intOf]; omega
      · go_wp2_with fail
        go_ret3
        cases f with
        | zero => omega
        | succ f =>
          have hgo := Hgo.out
          rw [List.drop_of_length_le (by simpa using hlt)] at hgo
          simp only [scanGo, if_true] at hgo
          subst hgo
          exact ⟨_, rfl, RdAt.of_own Hown.out (by show ts.length ≤ _; omega), Hbw.out⟩
end

/-! IsName and Join of package flex. -/
section
set_option linter.unusedVariables false
set_option linter.unusedSimpArgs false
open Go.RowKit

def isName (l : List UInt8) : Bool := decide (l ≠ []) && decide (l.length ≤ 16) && isLe (hd0 l) && decide (tw inNm l = l.length) && !isWord l

theorem isName_calls (s : ByteArray) (w : World) (hs : s.size ≤ maxLen) :
    Calls Tryz.prog 39 #[.string s] w fun e w' => e = .returned (.bool (isName s.data.toList)) ∧ Below w.heap.size w w' := by
  have Hsz := Lib.hid hs
  unfold maxLen at hs
  by_cases h0 : s.size = 0
  · obtain rfl := str_nil h0
    go_enter Tryz.func39, Tryz.ntmps39
    go_wp2
    go_ret
    exact ⟨rfl, Below.refl _ _⟩
  · have h1 : 1 ≤ s.size := by omega
    have hne := str_ne h1
    have Hne := Lib.hid (str_ne' h1)
    have Hl : Hid (s.data.toList.length = s.size) := by simp [Hid]
    by_cases h16 : s.size ≤ 16
    · have hd : decide ((s.size : Int) ≤ 16) = true := by simp; omega
      go_enter Tryz.func39, Tryz.ntmps39
      go_wp2_with fail
      rw [head_wrap s h1]
      refine (classOf_calls _ _).mono ?_
      rintro e w ⟨rfl, rfl⟩
      generalize hr : hd0 s.data.toList = r at *
      have Hr := Lib.hid hr
      clear hr
      by_cases hL : isLe r = true
      · rw [clsOf_two hL]
        have HL := Lib.hid hL
        clear hL
        go_wp2_with fail
        refine (whileName_calls _ _ Hsz.out).mono ?_
        rintro e w2 ⟨rfl, hb2⟩
        have Hb2 := Lib.hid hb2
        clear hb2
        generalize hn : tw inNm s.data.toList = n at *
        have Hn := Lib.hid hn
        clear hn
        by_cases he : n = s.size
        · have hd2 : ((n : Int) == (s.size : Int)) = true := by simp; omega
          have He := Lib.hid he
          clear he
          go_wp2_with fail
          refine (isWord_calls _ _).mono ?_
          rintro e w3 ⟨rfl, hb3⟩
          have Hb := Lib.hid (below2 Hb2.out hb3)
          clear hb3
          generalize hw : isWord s.data.toList = b at *
          have Hw := Lib.hid hw
          clear hw
          go_wp2_with fail
          go_ret
          exact ⟨ret_bool (by simp [isName, Hne.out, Hr.out, HL.out, Hn.out, He.out, Hw.out, Hl.out, h16]), Hb.out⟩
        · have hd2 : ((n : Int) == (s.size : Int)) = false := by simp; omega
          have He := Lib.hid he
          clear he
          go_wp2_with fail
          go_ret
          exact ⟨ret_bool (by simp [isName, Hn.out, He.out, Hl.out]), Hb2.out⟩
      · have c2 := clsOf_ne_two hL
        have HL := Lib.hid hL
        clear hL
        generalize clsOf r = c at *
        go_wp2_with fail
        go_ret
        exact ⟨ret_bool (by simp [isName, Hr.out, HL.out]), Below.refl _ _⟩
    · have hd : decide ((s.size : Int) ≤ 16) = false := by simp; omega
      go_enter Tryz.func39, Tryz.ntmps39
      go_wp2_with fail
      go_ret
      exact ⟨ret_bool (by simp [isName, Hl.out, h16]), Below.refl _ _⟩

theorem tokCells_get (ts : List Tok) (k : Nat) (h : k < ts.length) (j : Nat) (hj : j < 3) : (tokCells ts)[k * 3 + j]? = (ts[k]).cells[j]? := by
  induction ts generalizing k with
  | nil => simp at h
  | cons t ts ih =>
    have h3 : t.cells.length = 3 := rfl
    cases k with
    | zero => simp [tokCells, List.getElem?_append, h3, hj]
    | succ k =>
      have := ih k (by simpa using h)
      rw [show (k + 1) * 3 + j = 3 + (k * 3 + j) by omega]
      simp only [tokCells, List.flatMap_cons, List.getElem_cons_succ]
      rw [List.getElem?_append_right (by omega), h3, Nat.add_sub_cancel_left]
      exact this
end
end Go.Proofs.YtokdcfehnhifhaaGreatDoor
