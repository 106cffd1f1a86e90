/- The parser's small functions. The parser's functions of kinds, types and operators. The parser's expressions. -/
import Derived.Test.YtokdcfehnhifhaaGreatDoorPur
import Derived.Test.YtokdcfehnhifhaaGreatDoorShelf
import Derived.Handy
import Derived.WalkLawsBesides
import Derived.MapKept
import Derived.Deep.LoopGhost
import Derived.Deep.RegionWith
import Derived.Deep.QuietTactic
namespace Go.Proofs.YtokdcfehnhifhaaGreatDoor
/-! The parser's small functions. -/
section
set_option linter.unusedVariables false
set_option linter.unusedSimpArgs false
open Go.RowKit

theorem bel_alloc (w : World) (o : Obj) : Below w.heap.size w (w.alloc o) := (Below.refl _ _).alloc (Nat.le_refl _) _
/-- The library's two errors lie where they lay. -/
def Glob (w : World) (pb : Nat) : Prop := ∃ g1 g2 t1 p1 t2 p2, Tryz.prog.globalNamed "strconv.ErrSyntax" = some g1 ∧ Tryz.prog.globalNamed "strconv.ErrRange" = some g2 ∧ g1 < pb ∧ g2 < pb ∧
  w.var? Tryz.prog "strconv.ErrSyntax" = some #[.iface t1 p1] ∧ w.var? Tryz.prog "strconv.ErrRange" = some #[.iface t2 p2]
theorem var_same {P : Program} {w w' : World} {n : String} {g : Nat} (hn : P.globalNamed n = some g) (h : w'.heap[g]? = w.heap[g]?) : w'.var? P n = w.var? P n := by
  unfold World.var?
  rw [hn]
  simp only [Option.bind_some, h]
theorem Glob.gr {w w' : World} {pb : Nat} (h : Glob w pb) (hlt : pb ≤ w.heap.size) (hg : Gr (· < pb) w w') : Glob w' pb := by
  obtain ⟨g1, g2, t1, p1, t2, p2, n1, n2, l1, l2, v1, v2⟩ := h
  exact ⟨g1, g2, t1, p1, t2, p2, n1, n2, l1, l2, by rw [var_same n1 (hg.block g1 (by omega) l1)]; exact v1, by rw [var_same n2 (hg.block g2 (by omega) l2)]; exact v2⟩
/-- The parser's state in memory. -/
structure PSt (w : World) (pb : Nat) (s : PS) : Prop where
  lt : pb < w.heap.size
  toks : ∃ v, w.cell? ⟨pb, 0, none⟩ = some v ∧ RdK (· < pb) w v s.toks.length 3 (tokCells s.toks)
  deep : w.cell? ⟨pb, 1, none⟩ = some (.int .i64 s.deep)
  most : w.cell? ⟨pb, 2, none⟩ = some (.int .i64 s.most)
  odd : w.cell? ⟨pb, 3, none⟩ = some (.bool s.odd)
  frz : ∀ i, i < 4 → w.frozen? ⟨pb, i, none⟩ = false
  len : s.toks.length ≤ 2048
  txt : ∀ t, t ∈ s.toks → t.text.length ≤ 8192
  glob : Glob w pb
theorem PSt.gr {w w' : World} {pb : Nat} {s : PS} (h : PSt w pb s) (hb : Gr (· ≤ pb) w w') : PSt w' pb s := by
  obtain ⟨h1, ⟨v, h2, h3⟩, h4, h5, h6, h7, h8, h9, h10⟩ := h
  have hc := fun i => hb.cell (p := ⟨pb, i, none⟩) h1 (Nat.le_refl _)
  exact ⟨Nat.lt_of_lt_of_le h1 hb.size, ⟨v, by rw [hc]; exact h2, h3.gr (hb.mono fun _ _ h => Nat.le_of_lt h)⟩, by rw [hc]; exact h4, by rw [hc]; exact h5, by rw [hc]; exact h6, fun i hi => by rw [hb.frozen (p := ⟨pb, i, none⟩) h1 (Nat.le_refl _)]; exact h7 i hi, h8, h9, h10.gr (Nat.le_of_lt h1) (hb.mono fun _ _ h => Nat.le_of_lt h)⟩
theorem PSt.below {w w' : World} {pb : Nat} {s : PS} (h : PSt w pb s) (hb : Below w.heap.size w w') : PSt w' pb s := h.gr (Gr.of_below _ hb)

/-- How a call of the parser ends. -/
def PEnd {α : Type} (w : World) (pb : Nat) (r : Res α) (rd : α → Value → World → Prop) (e : Ending) (w' : World) : Prop :=
  match r with
  | .ok a s => ∃ v, e = .returned v ∧ rd a v w' ∧ PSt w' pb s ∧ Gr (· ≠ pb) w w'
  | .bad n => e = .panicked [⟨.iface 99 (.agg #[.int .i64 n]), false, false⟩] ∧ Gr (· ≠ pb) w w'
def tokV (t : Tok) : Value := .agg #[.int .i64 t.kind, strV t.text, .int .i64 t.at_]

theorem peek_calls (pb : Nat) (s : PS) (w : World) (hs : PSt w pb s) :
    Calls Tryz.prog 94 #[.pointer (some ⟨pb, 0, none⟩)] w fun e w' => e = .returned (tokV (hd s)) ∧ Below w.heap.size w w' := by
  obtain ⟨v, h0, hrd⟩ := hs.toks
  have Hs := Lib.hid hs
  obtain ⟨A, c, rfl⟩ := hrd.slice
  have hlt := hs.lt
  cases ht : s.toks with
  | nil =>
    have e0 : hd s = ⟨0, [], 0⟩ := by simp [hd, ht]
    have E0 := Lib.hid e0
    rw [ht] at h0
    simp at h0
    clear hrd e0 ht hs
    go_enter Tryz.func94, Tryz.ntmps94
    go_wp2_with fail
    go_returns
    exact ⟨by rw [E0.out]; rfl, (Below.refl _ _).alloc (Nat.le_refl _) _⟩
  | cons t r =>
    have e0 : hd s = t := by simp [hd, ht]
    have E0 := Lib.hid e0
    rw [ht] at h0 hrd
    obtain ⟨b, o, c, hv, hle, hne, hb, hc⟩ := hrd.pos (by simp)
    have g0 : w.cell? ⟨b, o, none⟩ = _ := hc 0 _ (show _ = some (.int .i64 t.kind) by simp [tokCells, Tok.cells])
    have g1 := hc 1 _ (show _ = some (strV t.text) by simp [tokCells, Tok.cells])
    have g2 := hc 2 _ (show _ = some (.int .i64 t.at_) by simp [tokCells, Tok.cells])
    rw [hv] at h0
    simp only [List.length_cons] at h0 hle
    simp only [strV] at g1
    clear hrd e0 ht hs hc hv
    go_enter Tryz.func94, Tryz.ntmps94
    go_wp2_with fail
    go_returns
    exact ⟨by rw [E0.out]; rfl, (Below.refl _ _).alloc (Nat.le_refl _) _⟩

theorem containsS_eq (ts : List (List UInt8)) (x : ByteArray) : Lib.containsS (ts.map fun l => ⟨l.toArray⟩) x = ts.contains x.data.toList := by
  rw [Bool.eq_iff_iff, Lib.containsS_iff, List.contains_iff_mem, List.mem_map]
  constructor
  · rintro ⟨l, hl, rfl⟩
    simpa using hl
  · intro h
    exact ⟨_, h, by simp⟩
theorem contains_calls (v : Value) (ts : List (List UInt8)) (x : ByteArray) (w : World) (hv : RdAt w v ts.length 1 (ts.map strV)) :
    Calls Tryz.prog 95 #[v, .string x] w fun e w' => e = .returned (.bool (ts.contains x.data.toList)) ∧ w' = w := by
  by_cases h0 : ts.length = 0
  · obtain rfl : ts = [] := List.eq_nil_of_length_eq_zero h0
    obtain ⟨A, c, rfl⟩ := hv.slice
    exact Tryz.slices_Contains_string_empty A c x w
  · obtain ⟨b, off, c, rfl, hle, hb, hc⟩ := hv.pos (by omega)
    have := Tryz.slices_Contains_string b off ts.length c (ts.map fun l => ⟨l.toArray⟩) x w (by simp) (by have := hv.2.1; omega) (fun j hj => by
      have hj' : j < ts.length := by simpa using hj
      refine hc j _ ?_
      simp [List.getD, hj'])
    rw [List.take_of_length_le (by simp), containsS_eq] at this
    exact this

theorem is_calls (pb : Nat) (s : PS) (w : World) (hs : PSt w pb s) (v : Value) (ts : List (List UInt8)) (hv : RdAt w v ts.length 1 (ts.map strV)) :
    Calls Tryz.prog 56 #[.pointer (some ⟨pb, 0, none⟩), v] w fun e w' => e = .returned (.bool (isOf ts s)) ∧ Below w.heap.size w w' := by
  obtain ⟨A, c, rfl⟩ := hv.slice
  have Hs := Lib.hid hs
  have Hv := Lib.hid hv
  clear hs hv
  go_enter Tryz.func56, Tryz.ntmps56
  go_wp2_with fail
  refine (peek_calls _ _ _ Hs.out).mono ?_
  rintro e w1 ⟨rfl, hb⟩
  have Hv1 := Lib.hid (Hv.out.below hb)
  have Hb := Lib.hid hb
  clear hb
  have hr : isOf ts s = (((hd s).kind == 2 || (hd s).kind == 5) && ts.contains (hd s).text) := rfl
  have Hr := Lib.hid hr
  clear hr
  generalize hd s = t at *
  obtain ⟨k, tx, p⟩ := t
  simp only [tokV]
  simp only at Hr
  by_cases h2 : k = 2
  · have t2 : (k == 2) = true := by simp [h2]
    have H2 := Lib.hid h2
    clear h2
    go_wp2_with fail
    refine (contains_calls _ ts _ _ (Hv1.out.below (bel_alloc _ _))).mono ?_
    rintro e w2 ⟨rfl, rfl⟩
    go_wp2_with fail
    go_returns
    exact ⟨by rw [Hr.out, H2.out]; simp, below2 Hb.out (bel_alloc _ _)⟩
  · have t2 : (k == 2) = false := by simp [h2]
    have H2 := Lib.hid h2
    clear h2
    by_cases h5 : k = 5
    · have t5 : (k == 5) = true := by simp [h5]
      have H5 := Lib.hid h5
      clear h5
      go_wp2_with fail
      refine (contains_calls _ ts _ _ (Hv1.out.below (bel_alloc _ _))).mono ?_
      rintro e w2 ⟨rfl, rfl⟩
      go_wp2_with fail
      go_returns
      exact ⟨by rw [Hr.out, H5.out]; simp, below2 Hb.out (bel_alloc _ _)⟩
    · have t5 : (k == 5) = false := by simp [h5]
      have H5 := Lib.hid h5
      clear h5
      go_wp2_with fail
      go_returns
      exact ⟨by rw [Hr.out]; simp [H2.out, H5.out], below2 Hb.out (bel_alloc _ _)⟩

/-- A token goes by. -/
theorem PSt.head {w : World} {pb : Nat} {s : PS} (h : PSt w pb s) (hn : s.toks ≠ []) : ∃ b o c, w.cell? ⟨pb, 0, none⟩ = some (.slice (some ⟨b, o, none⟩) s.toks.length c) ∧ 1 ≤ s.toks.length ∧ s.toks.length ≤ c ∧
    RdK (· < pb) w (.slice (some ⟨b, o + 3, none⟩) (s.toks.length - 1) (c - 1)) (s.toks.length - 1) 3 ((tokCells s.toks).drop 3) := by
  obtain ⟨v, h0, hrd⟩ := h.toks
  have hp : 0 < s.toks.length := List.length_pos_iff.2 hn
  obtain ⟨b, o, c, rfl, hle, hne, hlt, ht⟩ := hrd.tail hp
  exact ⟨b, o, c, h0, hp, hle, ht⟩
theorem ne_off {b i j : Nat} (h : i ≠ j) : (⟨b, i, none⟩ : Addr) ≠ ⟨b, j, none⟩ := by intro e; injection e; contradiction
section
variable {w : World} {pb : Nat} {s : PS}
theorem setCell_gr (w : World) (pb i : Nat) (v : Value) : Gr (· ≠ pb) w (w.setCell ⟨pb, i, none⟩ v) := (Gr.refl _ _).setCell (Or.inr (by simp)) v
theorem setCell_gr' (w : World) (pb i : Nat) (v : Value) : Gr (· < pb) w (w.setCell ⟨pb, i, none⟩ v) := (Gr.refl _ _).setCell (Or.inr (by simp)) v
theorem PSt.store (h : PSt w pb s) (v : Value) (ts : List Tok) (hv : RdK (· < pb) w v ts.length 3 (tokCells ts)) (hl : ts.length ≤ 2048) (ht : ∀ t, t ∈ ts → t.text.length ≤ 8192) : PSt (w.setCell ⟨pb, 0, none⟩ v) pb { s with toks := ts } := by
  obtain ⟨h1, ⟨v0, h2, h3⟩, h4, h5, h6, h7, h8, h9, h10⟩ := h
  exact ⟨by simpa using h1, ⟨v, World.cell?_setCell_same _ _ _ h2, hv.gr (setCell_gr' _ _ _ _)⟩, (World.cell?_setCell_other _ _ _ _ (ne_off (by decide))).trans h4,
    (World.cell?_setCell_other _ _ _ _ (ne_off (by decide))).trans h5, (World.cell?_setCell_other _ _ _ _ (ne_off (by decide))).trans h6, fun i hi => by simpa using h7 i hi, hl, ht, h10.gr (Nat.le_of_lt h1) (setCell_gr' _ _ _ _)⟩
theorem PSt.setDeep (h : PSt w pb s) (x : Int) : PSt (w.setCell ⟨pb, 1, none⟩ (.int .i64 x)) pb { s with deep := x } := by
  obtain ⟨h1, ⟨v0, h2, h3⟩, h4, h5, h6, h7, h8, h9, h10⟩ := h
  exact ⟨by simpa using h1, ⟨v0, (World.cell?_setCell_other _ _ _ _ (ne_off (by decide))).trans h2, h3.gr (setCell_gr' _ _ _ _)⟩, World.cell?_setCell_same _ _ _ h4,
    (World.cell?_setCell_other _ _ _ _ (ne_off (by decide))).trans h5, (World.cell?_setCell_other _ _ _ _ (ne_off (by decide))).trans h6, fun i hi => by simpa using h7 i hi, h8, h9, h10.gr (Nat.le_of_lt h1) (setCell_gr' _ _ _ _)⟩
theorem PSt.setMost (h : PSt w pb s) (x : Int) : PSt (w.setCell ⟨pb, 2, none⟩ (.int .i64 x)) pb { s with most := x } := by
  obtain ⟨h1, ⟨v0, h2, h3⟩, h4, h5, h6, h7, h8, h9, h10⟩ := h
  exact ⟨by simpa using h1, ⟨v0, (World.cell?_setCell_other _ _ _ _ (ne_off (by decide))).trans h2, h3.gr (setCell_gr' _ _ _ _)⟩, (World.cell?_setCell_other _ _ _ _ (ne_off (by decide))).trans h4,
    World.cell?_setCell_same _ _ _ h5, (World.cell?_setCell_other _ _ _ _ (ne_off (by decide))).trans h6, fun i hi => by simpa using h7 i hi, h8, h9, h10.gr (Nat.le_of_lt h1) (setCell_gr' _ _ _ _)⟩
theorem PSt.setOdd (h : PSt w pb s) (x : Bool) : PSt (w.setCell ⟨pb, 3, none⟩ (.bool x)) pb { s with odd := x } := by
  obtain ⟨h1, ⟨v0, h2, h3⟩, h4, h5, h6, h7, h8, h9, h10⟩ := h
  exact ⟨by simpa using h1, ⟨v0, (World.cell?_setCell_other _ _ _ _ (ne_off (by decide))).trans h2, h3.gr (setCell_gr' _ _ _ _)⟩, (World.cell?_setCell_other _ _ _ _ (ne_off (by decide))).trans h4,
    (World.cell?_setCell_other _ _ _ _ (ne_off (by decide))).trans h5, World.cell?_setCell_same _ _ _ h6, fun i hi => by simpa using h7 i hi, h8, h9, h10.gr (Nat.le_of_lt h1) (setCell_gr' _ _ _ _)⟩
end
theorem tail_toks (s : PS) (hn : s.toks ≠ []) : s.toks.tail.length = s.toks.length - 1 ∧ tokCells s.toks.tail = (tokCells s.toks).drop 3 := by
  cases ht : s.toks with
  | nil => exact absurd ht hn
  | cons t r => exact ⟨by simp, by simp [tokCells, Tok.cells]⟩
theorem pass_calls (pb : Nat) (s : PS) (w : World) (hs : PSt w pb s) (hn : s.toks ≠ []) :
    Calls Tryz.prog 97 #[.pointer (some ⟨pb, 0, none⟩)] w fun e w' => e = .returned (strV (hd s).text) ∧ PSt w' pb (drop1 s) ∧ Gr (· ≠ pb) w w' := by
  have Hs := Lib.hid hs
  have Hn := Lib.hid hn
  clear hs hn
  go_enter Tryz.func97, Tryz.ntmps97
  go_wp2_with fail
  refine (peek_calls _ _ _ Hs.out).mono ?_
  rintro e w1 ⟨rfl, hb⟩
  have hs1 := Hs.out.below hb
  obtain ⟨b, o, c, h0, h1, h2, h3⟩ := hs1.head Hn.out
  have hf := hs1.frz 0 (by omega)
  have hlt := hs1.lt
  obtain ⟨e1, e2⟩ := tail_toks s Hn.out
  rw [← e1, ← e2] at h3
  have Hs1 := Lib.hid hs1
  have Hb := Lib.hid hb
  have H3 := Lib.hid h3
  have E1 := Lib.hid e1
  clear hs1
  clear hb
  clear h3
  clear e1
  clear e2
  simp only [tokV]
  by_cases hc1 : c = 1
  · subst hc1
    go_wp2_with fail
    go_returns
    have e0 : s.toks.tail = [] := List.eq_nil_of_length_eq_zero (by have := E1.out; omega)
    have hv : RdK (· < pb) w1 (.slice (some ⟨b, o, none⟩) 0 0) s.toks.tail.length 3 (tokCells s.toks.tail) := by
      rw [e0]; exact RdK.nil _ _ _ _ _
    exact ⟨rfl, (Hs1.out.store _ _ hv (by have := Hs1.out.len; have := E1.out; omega) (fun t ht => Hs1.out.txt t (List.mem_of_mem_tail ht))).below (bel_alloc _ _), ((Gr.of_below _ Hb.out).trans (setCell_gr _ _ _ _)).alloc _⟩
  · go_wp2_with fail
    go_returns
    rw [← E1.out]
    exact ⟨rfl, (Hs1.out.store _ _ H3.out (by have := Hs1.out.len; have := E1.out; omega) (fun t ht => Hs1.out.txt t (List.mem_of_mem_tail ht))).below (bel_alloc _ _), ((Gr.of_below _ Hb.out).trans (setCell_gr _ _ _ _)).alloc _⟩

/-- A row of literals, new. -/
theorem rd_new (w : World) (cs : Array Value) (t : TypeId) (n size : Nat) (hl : cs.size = n * size) (hn : n ≤ 140737488355328) (hn0 : 0 < n) : RdAt (w.alloc (.cells cs t)) (.slice (some ⟨w.heap.size, 0, none⟩) n n) n size cs.toList := by
  refine ⟨by simpa using hl, hn, Or.inr ⟨w.heap.size, 0, n, rfl, Nat.le_refl _, by simp, fun j u hj => ?_⟩⟩
  rw [Nat.zero_add, World.cell?_alloc_new]
  simpa using hj
/-- The same, the block's number written otherwise. -/
theorem rd_newB (w : World) (cs : Array Value) (t : TypeId) (B n size : Nat) (hB : B = w.heap.size) (hl : cs.size = n * size) (hn : n ≤ 140737488355328) (hn0 : 0 < n) : RdAt (w.alloc (.cells cs t)) (.slice (some ⟨B, 0, none⟩) n n) n size cs.toList := by
  subst hB; exact rd_new w cs t n size hl hn hn0
theorem rd_one (w : World) (x : List UInt8) (t : TypeId) {B : Nat} (hB : B = w.heap.size) : RdAt (w.alloc (.cells #[strV x] t)) (.slice (some ⟨B, 0, none⟩) 1 1) [x].length 1 ([x].map strV) := rd_newB w _ t B 1 1 hB rfl (by omega) (by omega)
/-- A row of texts that was just made. -/
theorem rd_texts (w : World) (xs : List (List UInt8)) (cs : Array Value) (t : TypeId) {B n : Nat} (hB : B = w.heap.size) (hn : xs.length = n) (hc : cs.toList = xs.map strV) (h0 : 0 < n) (hle : n ≤ 1000) : RdAt (w.alloc (.cells cs t)) (.slice (some ⟨B, 0, none⟩) n n) xs.length 1 (xs.map strV) := by
  subst hn
  rw [← hc]
  exact rd_newB w cs t B xs.length 1 hB (by rw [← Array.length_toList, hc]; simp) (by omega) h0
theorem rd_t1 (w : World) (x : List UInt8) (t : TypeId) {B : Nat} (hB : B = w.heap.size) : RdAt (w.alloc (.cells #[strV x] t)) (.slice (some ⟨B, 0, none⟩) 1 1) [x].length 1 ([x].map strV) := rd_texts w [x] _ t hB rfl rfl (by omega) (by omega)
theorem rd_t2 (w : World) (x y : List UInt8) (t : TypeId) {B : Nat} (hB : B = w.heap.size) : RdAt (w.alloc (.cells #[strV x, strV y] t)) (.slice (some ⟨B, 0, none⟩) 2 2) [x, y].length 1 ([x, y].map strV) := rd_texts w [x, y] _ t hB rfl rfl (by omega) (by omega)
theorem rd_t3 (w : World) (x y z : List UInt8) (t : TypeId) {B : Nat} (hB : B = w.heap.size) : RdAt (w.alloc (.cells #[strV x, strV y, strV z] t)) (.slice (some ⟨B, 0, none⟩) 3 3) [x, y, z].length 1 ([x, y, z].map strV) := rd_texts w [x, y, z] _ t hB rfl rfl (by omega) (by omega)
theorem isOf_ne {ts : List (List UInt8)} {s : PS} (h : isOf ts s = true) : s.toks ≠ [] := by
  intro e
  simp [isOf, hd, e] at h
def eatS (x : List UInt8) (s : PS) : PS := if isOf [x] s = true then drop1 s else s
theorem eat_calls (pb : Nat) (s : PS) (w : World) (hs : PSt w pb s) (x : ByteArray) :
    Calls Tryz.prog 99 #[.pointer (some ⟨pb, 0, none⟩), .string x] w fun e w' => e = .returned (.bool (isOf [x.data.toList] s)) ∧ PSt w' pb (eatS x.data.toList s) ∧ Gr (· ≠ pb) w w' := by
  have Hs := Lib.hid hs
  clear hs
  go_enter Tryz.func99, Tryz.ntmps99
  go_wp2_with fail
  refine (is_calls pb s _ (Hs.out.below (bel_alloc _ _)) _ [x.data.toList] (rd_one w x.data.toList _ rfl)).mono ?_
  rintro e w1 ⟨rfl, hb⟩
  have Hb := Lib.hid (below2 (bel_alloc _ _) hb)
  clear hb
  generalize hr : isOf [x.data.toList] s = r
  have Hr := Lib.hid hr
  clear hr
  cases r with
  | true =>
    go_wp2_with fail
    refine (pass_calls pb s _ (Hs.out.below Hb.out) (isOf_ne Hr.out)).mono ?_
    rintro e w2 ⟨rfl, hs2, hg2⟩
    have Hs2 := Lib.hid hs2
    have Hg2 := Lib.hid hg2
    clear hs2
    clear hg2
    go_wp2_with fail
    go_returns
    exact ⟨ret_bool Hr.out.symm, by rw [eatS, if_pos Hr.out]; exact Hs2.out, (Gr.of_below _ Hb.out).trans Hg2.out⟩
  | false =>
    go_wp2_with fail
    go_returns
    exact ⟨ret_bool Hr.out.symm, by rw [eatS, if_neg (by rw [Hr.out]; simp)]; exact Hs.out.below Hb.out, Gr.of_below _ Hb.out⟩
theorem fail_calls (pb : Nat) (s : PS) (w : World) (hs : PSt w pb s) :
    Calls Tryz.prog 135 #[.pointer (some ⟨pb, 0, none⟩)] w fun e w' => e = .panicked [⟨.iface 99 (.agg #[.int .i64 s.toks.length]), false, false⟩] ∧ w' = w := by
  obtain ⟨v, h0, hrd⟩ := hs.toks
  obtain ⟨A, c, rfl⟩ := hrd.slice
  have hlt := hs.lt
  clear hrd hs
  go_enter Tryz.func135, Tryz.ntmps135
  go_wp2_with fail
  exact ⟨rfl, rfl, rfl⟩

/-- All of them must be there. -/
theorem bind_ret_true {s : PS} {x : List UInt8} {r : List (List UInt8)} (h : isOf [x] s = true) : pMust (x :: r) s = pMust r (drop1 s) := by
  simp [pMust, P.bind, pEat, h]
theorem must_bad {s : PS} {x : List UInt8} {r : List (List UInt8)} (h : isOf [x] s = false) : pMust (x :: r) s = some (.bad s.toks.length) := by
  simp [pMust, P.bind, pEat, h, P.fail]
theorem strs_get {ts : List (List UInt8)} {q : Nat} (h : q < ts.length) : (ts.map strV)[q]? = some (.string ⟨(ts[q]).toArray⟩) := by simp [h]
theorem must_calls (pb : Nat) (s : PS) (w : World) (hs : PSt w pb s) (v : Value) (ts : List (List UInt8)) (hv : RdK (· ≠ pb) w v ts.length 1 (ts.map strV)) (r : Res Unit) (h : pMust ts s = some r) :
    Calls Tryz.prog 101 #[.pointer (some ⟨pb, 0, none⟩), v] w (PEnd w pb r fun _ v _ => v = .tuple #[]) := by
  obtain ⟨A, c, rfl⟩ := hv.slice
  have hlen := hv.le
  have Hs := Lib.hid hs
  have Hv := Lib.hid hv
  have H := Lib.hid h
  clear hs
  clear hv
  clear h
  go_enter Tryz.func101, Tryz.ntmps101
  go_wp2_with fail
  go_loopw [8] (fun k W => ∃ (q : Nat) (s' : PS), k = .int .i64 q ∧ q ≤ ts.length ∧ pMust (ts.drop q) s' = some r ∧ PSt W pb s' ∧ Gr (· ≠ pb) w W) (fun k _ => ts.length - (intOf k).toNat)
  case atStart => exact ⟨0, s, rfl, by omega, H.out, Hs.out, Gr.refl _ _⟩
  case round =>
    obtain ⟨q, s', rfl, hq, hm, hs', hg⟩ := hrel
    by_cases hlt : q < ts.length
    · obtain ⟨b, off, c', hsl, hle, hne, hbl, hc⟩ := Hv.out.pos (by omega)
      injection hsl with hA hn' hc'
      subst hA hc'
      have g0 : wr.cell? ⟨b, off + q, none⟩ = some (.string ⟨(ts[q]).toArray⟩) := by
        rw [hg.cell (p := ⟨b, off + q, none⟩) hbl hne]; exact hc q _ (strs_get hlt)
      rw [List.drop_eq_getElem_cons hlt] at hm
      clear hc hn'
      have Hs' := Lib.hid hs'
      have Hg := Lib.hid hg
      have Hm := Lib.hid hm
      clear hs'
      clear hg
      clear hm
      go_wp2_with fail
      refine (eat_calls pb s' _ Hs'.out _).mono ?_
      rintro e w1 ⟨rfl, hs1, hg1⟩
      simp only at hs1
      have Hg1 := Lib.hid (Hg.out.trans hg1)
      have Hs1 := Lib.hid hs1
      clear hs1
      clear hg1
      generalize hr : isOf [ts[q]] s' = t
      have Hr := Lib.hid hr
      cases t with
      | true =>
        go_wp2_with fail
        go_roundw
        case rel => exact ⟨q + 1, drop1 s', by go_num, by omega, by rw [← bind_ret_true Hr.out]; exact Hm.out, by have := Hs1.out; rwa [eatS, if_pos Hr.out] at this, Hg1.out⟩
        case measure => simp [intOf]; omega
      | false =>
        go_wp2_with fail
        have hs2 := Hs1.out
        rw [eatS, if_neg (by rw [Hr.out]; simp)] at hs2
        refine (fail_calls pb s' _ hs2).mono ?_
        rintro e w2 ⟨rfl, rfl⟩
        have hm := Hm.out
        rw [must_bad Hr.out] at hm
        injection hm with hm
        subst hm
        go_wp2_with fail
        exact ⟨rfl, rfl, Hg1.out⟩
    · have hq' : q = ts.length := by omega
      rw [List.drop_of_length_le (by omega)] at hm
      injection hm with hm
      subst hm
      have Hs' := Lib.hid hs'
      have Hg := Lib.hid hg
      clear hs'
      clear hg
      go_wp2_with fail
      go_returns
      exact ⟨_, rfl, rfl, Hs'.out, Hg.out⟩
end

/-! The parser's functions of kinds, types and operators. -/
section
set_option linter.unusedVariables false
set_option linter.unusedSimpArgs false
open Go.RowKit

theorem kindIndex_calls (v : Value) (ks : List Int) (x : Int) (w : World) (hv : RdAt w v ks.length 1 (ks.map (.int .i64 ·))) :
    Calls Tryz.prog 157 #[v, .int .i64 x] w fun e w' => (∃ i : Int, e = .returned (.int .i64 i) ∧ decide (i ≥ 0) = ks.contains x) ∧ w' = w := by
  obtain ⟨A, c, rfl⟩ := hv.slice
  have hlen := hv.2.1
  have Hv := Lib.hid hv
  clear hv
  go_enter Tryz.func157, Tryz.ntmps157
  go_wp2_with fail
  go_loopw [8] (fun k W => ∃ (q : Nat), k = .int .i64 q ∧ q ≤ ks.length ∧ (ks.take q).contains x = false ∧ W = w) (fun k _ => ks.length - (intOf k).toNat)
  case atStart => exact ⟨0, rfl, by omega, by simp, rfl⟩
  case round =>
    obtain ⟨q, rfl, hq, hm, rfl⟩ := hrel
    by_cases hlt : q < ks.length
    · obtain ⟨b, off, c', hsl, hle, hbl, hc⟩ := Hv.out.pos (by omega)
      injection hsl with hA hn' hc'
      subst hA hc'
      have g0 : wr.cell? ⟨b, off + q, none⟩ = some (.int .i64 ks[q]) := hc q _ (by simp [hlt])
      clear hc hn'
      have hx : (ks.take (q + 1)).contains x = ((ks.take q).contains x || x == ks[q]) := by
        have hm : x ∈ ks.take (q + 1) ↔ x ∈ ks.take q ∨ x = ks[q] := by rw [List.take_succ_eq_append_getElem hlt, List.mem_append, List.mem_singleton]
        rw [Bool.eq_iff_iff]; simp [hm]
      rw [hm, Bool.false_or] at hx
      by_cases hxq : x = ks[q]
      · have t : (x == ks[q]) = true := by simp [hxq]
        have Hx := Lib.hid hx
        have Hm := Lib.hid hm
        have Hxq := Lib.hid hxq
        clear hx
        clear hm
        clear hxq
        go_wp2_with fail
        go_returns
        refine ⟨⟨_, rfl, ?_⟩, rfl⟩
        have : ks.contains x = true := by rw [List.contains_iff_mem, Hxq.out]; exact List.getElem_mem _
        rw [this]
        simp
      · have t : (x == ks[q]) = false := by simp [hxq]
        rw [t] at hx
        have Hx := Lib.hid hx
        have Hm := Lib.hid hm
        have Hxq := Lib.hid hxq
        clear hx
        clear hm
        clear hxq
        go_wp2_with fail
        go_roundw
        case rel => exact ⟨q + 1, by go_num, by omega, Hx.out, by trivial⟩
        case measure => simp [intOf]; omega
    · have hq' : q = ks.length := by omega
      rw [List.take_of_length_le (by omega)] at hm
      have Hm := Lib.hid hm
      clear hm
      go_wp2_with fail
      go_returns
      exact ⟨⟨_, rfl, by rw [Hm.out]; rfl⟩, rfl⟩
theorem kinds_calls (v : Value) (ks : List Int) (x : Int) (w : World) (hv : RdAt w v ks.length 1 (ks.map (.int .i64 ·))) :
    Calls Tryz.prog 134 #[v, .int .i64 x] w fun e w' => e = .returned (.bool (ks.contains x)) ∧ w' = w := by
  go_enter Tryz.func134, Tryz.ntmps134
  go_wp2_with fail
  refine (kindIndex_calls v ks x w hv).mono ?_
  rintro e w1 ⟨⟨i, rfl, hi⟩, rfl⟩
  have Hi := Lib.hid hi
  clear hi
  go_wp2_with fail
  go_returns
  exact ⟨ret_bool Hi.out, rfl⟩
theorem hd_ne {s : PS} (h : (hd s).kind ≠ 0) : s.toks ≠ [] := by
  intro e
  exact h (by simp [hd, e])
theorem lex_field0 (k : Int) (x : ByteArray) (p : Int) (w : World) : (Instr.field 42 (.agg #[.int .i64 k, .string x, .int .i64 p]) 0).run Tryz.prog w = .ok (.int .i64 k) w := by kernel_rfl
theorem take_calls (pb : Nat) (s : PS) (w : World) (hs : PSt w pb s) (v : Value) (ks : List Int) (hv : RdAt w v ks.length 1 (ks.map (.int .i64 ·))) (h0 : ks.contains 0 = false) (r : Res (List UInt8)) (h : pTake ks s = some r) :
    Calls Tryz.prog 98 #[.pointer (some ⟨pb, 0, none⟩), v] w (PEnd w pb r fun a v _ => v = strV a) := by
  have Hs := Lib.hid hs
  have Hv := Lib.hid hv
  have H := Lib.hid h
  have H0 := Lib.hid h0
  clear hs
  clear hv
  clear h
  clear h0
  go_enter Tryz.func98, Tryz.ntmps98
  go_wp2_with fail
  refine (peek_calls _ _ _ Hs.out).mono ?_
  rintro e w1 ⟨rfl, hb⟩
  have Hb := Lib.hid hb
  clear hb
  simp only [tokV, strV]
  obtain ⟨k, hk⟩ : ∃ k, k = (hd s).kind := ⟨_, rfl⟩
  rw [← hk]
  have Hk := Lib.hid hk
  clear hk
  generalize (hd s).at_ = p
  generalize (hd s).text = tx
  have hfd := lex_field0 k ⟨tx.toArray⟩ p
  go_wp2_with fail
  refine (kinds_calls v ks k _ (Hv.out.below Hb.out)).mono ?_
  rintro e w2 ⟨rfl, rfl⟩
  generalize hr : ks.contains k = t
  have Hr := Lib.hid hr
  clear hr
  have h := H.out
  rw [pTake, ← Hk.out, Hr.out] at h
  cases t with
  | true =>
    have hne : s.toks ≠ [] := hd_ne (by intro e; have := Hr.out; rw [Hk.out, e, H0.out] at this; cases this)
    have Hne := Lib.hid hne
    clear hne
    simp only [if_true, pPass] at h
    injection h with h
    subst h
    go_wp2_with fail
    refine (pass_calls pb s _ (Hs.out.below Hb.out) Hne.out).mono ?_
    rintro e w2 ⟨rfl, hs2, hg2⟩
    have Hs2 := Lib.hid hs2
    have Hg2 := Lib.hid hg2
    clear hs2
    clear hg2
    go_wp2_with fail
    go_returns
    exact ⟨_, rfl, rfl, Hs2.out, (Gr.of_below _ Hb.out).trans Hg2.out⟩
  | false =>
    simp only [if_neg (show ¬ (false = true) by simp), P.fail] at h
    injection h with h
    subst h
    go_wp2_with fail
    refine (fail_calls pb s _ (Hs.out.below Hb.out)).mono ?_
    rintro e w2 ⟨rfl, rfl⟩
    go_wp2_with fail
    exact ⟨rfl, rfl, Gr.of_below _ Hb.out⟩
theorem rd_kinds (w : World) (ks : List Int) (cs : Array Value) (t : TypeId) {B n : Nat} (hB : B = w.heap.size) (hn : ks.length = n) (hc : cs.toList = ks.map (.int .i64 ·)) (h0 : 0 < n) (hle : n ≤ 1000) : RdAt (w.alloc (.cells cs t)) (.slice (some ⟨B, 0, none⟩) n n) ks.length 1 (ks.map (.int .i64 ·)) := by
  subst hn
  rw [← hc]
  exact rd_newB w cs t B ks.length 1 hB (by rw [← Array.length_toList, hc]; simp) (by omega) h0
theorem rd_k1 (w : World) (x : Int) (t : TypeId) {B : Nat} (hB : B = w.heap.size) : RdAt (w.alloc (.cells #[.int .i64 x] t)) (.slice (some ⟨B, 0, none⟩) 1 1) [x].length 1 ([x].map (.int .i64 ·)) := rd_kinds w [x] _ t hB rfl rfl (by omega) (by omega)
theorem rd_k2 (w : World) (x y : Int) (t : TypeId) {B : Nat} (hB : B = w.heap.size) : RdAt (w.alloc (.cells #[.int .i64 x, .int .i64 y] t)) (.slice (some ⟨B, 0, none⟩) 2 2) [x, y].length 1 ([x, y].map (.int .i64 ·)) := rd_kinds w [x, y] _ t hB rfl rfl (by omega) (by omega)
theorem with_calls (o : Int) (A : Option Addr) (n c : Nat) (w : World) :
    Calls Tryz.prog 138 #[.int .i64 o, .slice A n c] w fun e w' => e = .returned (.agg #[.int .i64 o, .string ⟨#[]⟩, .int .i64 0, .slice A n c]) ∧ Below w.heap.size w w' := by
  go_enter Tryz.func138, Tryz.ntmps138
  go_wp2_with fail
  go_returns
  exact ⟨rfl, bel_alloc _ _⟩
/-- How a call ends that hands back an expression, in new memory. -/
def rdE (n : Nat) : Ex → Value → World → Prop := fun a v w' =>
  ∃ A m c, v = .agg #[.int .i64 a.op, .string ⟨a.text.toArray⟩, .int .i64 a.ty, .slice A m c] ∧ ExC (n ≤ ·) w' a [.int .i64 a.op, strV a.text, .int .i64 a.ty, .slice A m c]
/-- The cell in which a result lies, behind calls. -/
theorem res4 {w wk : World} {pb : Nat} {t : TypeId} {z0 z1 z2 z3 : Value} (hlt : pb < w.heap.size) (G : Gr (· ≠ pb) (w.alloc (.cells #[z0, z1, z2, z3] t)) wk) :
    wk.cell? ⟨w.heap.size, 0, none⟩ = some z0 ∧ wk.cell? ⟨w.heap.size, 1, none⟩ = some z1 ∧ wk.cell? ⟨w.heap.size, 2, none⟩ = some z2 ∧ wk.cell? ⟨w.heap.size, 3, none⟩ = some z3 ∧
    wk.frozen? ⟨w.heap.size, 0, none⟩ = false ∧ wk.frozen? ⟨w.heap.size, 1, none⟩ = false ∧ wk.frozen? ⟨w.heap.size, 2, none⟩ = false ∧ wk.frozen? ⟨w.heap.size, 3, none⟩ = false ∧ w.heap.size < wk.heap.size := by
  have hs := G.size
  simp only [World.size_alloc] at hs
  have hc := fun i => G.cell (p := ⟨w.heap.size, i, none⟩) (by simp) (by simp; omega)
  have hf := fun i => G.frozen (p := ⟨w.heap.size, i, none⟩) (by simp) (by simp; omega)
  refine ⟨?_, ?_, ?_, ?_, ?_, ?_, ?_, ?_, by omega⟩
  · rw [hc, World.cell?_alloc_new]; rfl
  · rw [hc, World.cell?_alloc_new]; rfl
  · rw [hc, World.cell?_alloc_new]; rfl
  · rw [hc, World.cell?_alloc_new]; rfl
  all_goals rw [hf]; simp
theorem Gr.pre {ok : Nat → Prop} {w wk : World} {o : Obj} (h : Gr ok (w.alloc o) wk) : Gr ok w wk := ((Gr.refl _ _).alloc o).trans h
theorem Gr.step {ok : Nat → Prop} {w0 wk W w1 : World} (h : Gr ok w0 wk) (hb : Below wk.heap.size wk W) (k : Gr ok W w1) : Gr ok w0 w1 := (h.trans (Gr.of_below _ hb)).trans k
theorem exC_leaf (ok : Nat → Prop) (w : World) (o : Int) (t : List UInt8) (ty : Int) (A : Option Addr) (c : Nat) : ExC ok w (.mk o t ty []) [.int .i64 o, strV t, .int .i64 ty, .slice A 0 c] := by
  simp only [ExC]
  exact ⟨_, [], rfl, RdK.nil _ _ _ _ _, by simp [ExsC]⟩
theorem exC_one {ok : Nat → Prop} {w : World} {e : Ex} {x0 x1 x2 x3 : Value} (E : ExC ok w e [x0, x1, x2, x3]) (o : Int) (t : List UInt8) (ty : Int) (T : TypeId) {B : Nat} (hB : B = w.heap.size) (hok : ok B) :
    ExC ok (w.alloc (.cells #[x0, x1, x2, x3] T)) (.mk o t ty [e]) [.int .i64 o, strV t, .int .i64 ty, .slice (some ⟨B, 0, none⟩) 1 1] := by
  simp only [ExC]
  refine ⟨_, [x0, x1, x2, x3], rfl, ?_, [x0, x1, x2, x3], [], rfl, E.gr (Gr.of_below _ (bel_alloc _ _)), rfl⟩
  obtain ⟨h1, h2, h3⟩ := rd_newB w #[x0, x1, x2, x3] T B 1 4 hB rfl (by omega) (by omega)
  refine ⟨h1, h2, ?_⟩
  rcases h3 with ⟨h, _⟩ | ⟨b, off, c, hv, hle, hlt, hc⟩
  · omega
  · refine Or.inr ⟨b, off, c, hv, hle, ?_, hlt, hc⟩
    injection hv with hv
    injection hv with hv
    injection hv with hv
    subst hv
    exact hok
theorem exC_two {ok : Nat → Prop} {w : World} {e e' : Ex} {x0 x1 x2 x3 y0 y1 y2 y3 : Value} (E : ExC ok w e [x0, x1, x2, x3]) (E' : ExC ok w e' [y0, y1, y2, y3]) (o : Int) (t : List UInt8) (ty : Int) (T : TypeId) {B : Nat} (hB : B = w.heap.size) (hok : ok B) :
    ExC ok (w.alloc (.cells #[x0, x1, x2, x3, y0, y1, y2, y3] T)) (.mk o t ty [e, e']) [.int .i64 o, strV t, .int .i64 ty, .slice (some ⟨B, 0, none⟩) 2 2] := by
  simp only [ExC]
  refine ⟨_, [x0, x1, x2, x3, y0, y1, y2, y3], rfl, ?_, [x0, x1, x2, x3], [y0, y1, y2, y3], rfl, E.gr (Gr.of_below _ (bel_alloc _ _)), [y0, y1, y2, y3], [], rfl, E'.gr (Gr.of_below _ (bel_alloc _ _)), rfl⟩
  obtain ⟨h1, h2, h3⟩ := rd_newB w #[x0, x1, x2, x3, y0, y1, y2, y3] T B 2 4 hB rfl (by omega) (by omega)
  refine ⟨h1, h2, ?_⟩
  rcases h3 with ⟨h, _⟩ | ⟨b, off, c, hv, hle, hlt, hc⟩
  · omega
  · refine Or.inr ⟨b, off, c, hv, hle, ?_, hlt, hc⟩
    injection hv with hv
    injection hv with hv
    injection hv with hv
    subst hv
    exact hok
/-- The end: the result was stored. -/
theorem pend4 {w wk : World} {pb : Nat} {s : PS} {o : Obj} (hlt : pb < w.heap.size) (G : Gr (· ≠ pb) (w.alloc o) wk) (S : PSt wk pb s) (a : Ex) (A : Option Addr) (m c : Nat)
    (E : ExC (w.heap.size < ·) wk a [.int .i64 a.op, strV a.text, .int .i64 a.ty, .slice A m c]) (v0 v1 v2 v3 : Value) :
    PEnd w pb (.ok a s) (rdE w.heap.size) (.returned (.agg #[.int .i64 a.op, .string ⟨a.text.toArray⟩, .int .i64 a.ty, .slice A m c]))
      ((((wk.setCell ⟨w.heap.size, 0, none⟩ v0).setCell ⟨w.heap.size, 1, none⟩ v1).setCell ⟨w.heap.size, 2, none⟩ v2).setCell ⟨w.heap.size, 3, none⟩ v3) := by
  have hg : ∀ ok : Nat → Prop, ¬ ok w.heap.size → Gr ok wk ((((wk.setCell ⟨w.heap.size, 0, none⟩ v0).setCell ⟨w.heap.size, 1, none⟩ v1).setCell ⟨w.heap.size, 2, none⟩ v2).setCell ⟨w.heap.size, 3, none⟩ v3) :=
    fun ok h => ((((Gr.refl _ _).setCell (Or.inr h) _).setCell (Or.inr h) _).setCell (Or.inr h) _).setCell (Or.inr h) _
  refine ⟨_, rfl, ⟨A, m, c, rfl, ?_⟩, S.gr (hg _ (by omega)), ?_⟩
  · exact ((E.gr (hg _ (by omega))).mono fun b _ hb => Nat.le_of_lt hb)
  · exact ((((G.pre).setCell (Or.inl (Nat.le_refl _)) _).setCell (Or.inl (Nat.le_refl _)) _).setCell (Or.inl (Nat.le_refl _)) _).setCell (Or.inl (Nat.le_refl _)) _
theorem rdk_new {w : World} {v : Value} {n size : Nat} {cells : List Value} {pb : Nat} (h : RdAt w v n size cells) (hv : ∀ b o m c, v = .slice (some ⟨b, o, none⟩) m c → b ≠ pb) : RdK (· ≠ pb) w v n size cells := by
  obtain ⟨h1, h2, h3⟩ := h
  refine ⟨h1, h2, ?_⟩
  rcases h3 with h3 | ⟨b, off, c, hv', hle, hlt, hc⟩
  · exact Or.inl h3
  · exact Or.inr ⟨b, off, c, hv', hle, hv _ _ _ _ hv', hlt, hc⟩
theorem rdk_t1 (w : World) (x : List UInt8) (t : TypeId) {B pb : Nat} (hB : B = w.heap.size) (h : pb < B) : RdK (· ≠ pb) (w.alloc (.cells #[strV x] t)) (.slice (some ⟨B, 0, none⟩) 1 1) [x].length 1 ([x].map strV) :=
  rdk_new (rd_t1 w x t hB) (by rintro b o m c h; injection h with h; injection h with h; injection h with h; omega)
theorem rdk_t2 (w : World) (x y : List UInt8) (t : TypeId) {B pb : Nat} (hB : B = w.heap.size) (h : pb < B) : RdK (· ≠ pb) (w.alloc (.cells #[strV x, strV y] t)) (.slice (some ⟨B, 0, none⟩) 2 2) [x, y].length 1 ([x, y].map strV) :=
  rdk_new (rd_t2 w x y t hB) (by rintro b o m c h; injection h with h; injection h with h; injection h with h; omega)
theorem bind_eat {α : Type} (t : List UInt8) (f : Bool → P α) (s : PS) : (pEat t).bind f s = f (isOf [t] s) (eatS t s) := by
  unfold P.bind pEat eatS
  cases h : isOf [t] s <;> simp

theorem eat_text (pb : Nat) (s : PS) (w : World) (hs : PSt w pb s) (t : List UInt8) :
    Calls Tryz.prog 99 #[.pointer (some ⟨pb, 0, none⟩), .string ⟨t.toArray⟩] w fun e w' => e = .returned (.bool (isOf [t] s)) ∧ PSt w' pb (eatS t s) ∧ Gr (· ≠ pb) w w' := by
  have := eat_calls pb s w hs ⟨t.toArray⟩
  simpa using this
theorem numeral_calls (pb : Nat) (s0 : PS) (w : World) (hs : PSt w pb s0) (r : Res Ex) (h : pNumeral s0 = some r) :
    Calls Tryz.prog 139 #[.pointer (some ⟨pb, 0, none⟩)] w (PEnd w pb r (rdE w.heap.size)) := by
  have hlt := hs.lt
  have G0 := Lib.hid (Gr.refl (· ≠ pb) (w.alloc (.cells #[.int .i64 0, .string ⟨#[]⟩, .int .i64 0, .slice none 0 0] 64)))
  have S0 := Lib.hid hs
  clear hs
  unfold pNumeral at h
  obtain ⟨q1, hq, h⟩ := P.bind_some h
  have Hq1 := Lib.hid hq
  have H1 := Lib.hid h
  clear hq h
  go_enter Tryz.func139, Tryz.ntmps139
  go_wp2_with fail
  refine (take_calls pb s0 _ (S0.out.below (by go_grown)) _ [3, 4] (rd_k2 _ 3 4 _ (by simp)) (by decide) q1 Hq1.out).mono ?_
  rintro e w1 he
  rcases H1.out with ⟨n, rfl, rfl⟩ | ⟨a1, s1, rfl, h⟩
  · obtain ⟨rfl, hg⟩ := he
    have G1 := Lib.hid (G0.out.step (by go_grown) hg)
    clear hg
    go_wp2_with fail
    exact ⟨rfl, rfl, G1.out.pre⟩
  obtain ⟨_, rfl, rfl, hs, hg⟩ := he
  have S1 := Lib.hid hs
  have G1 := Lib.hid (G0.out.step (by go_grown) hg)
  clear hs hg
  try clear c0 c1 c2 c3 f0 f1 f2 f3 hz
  obtain ⟨c0, c1, c2, c3, f0, f1, f2, f3, hz⟩ := res4 hlt G1.out
  injection h with h
  subst h
  go_wp2_with fail
  try simp only [Exit.inBlock, Exit.then]
  refine bodyPost_ret (by simp [results, Tryz.results139, go_sem, c0, c1, c2, c3, f0, f1, f2, f3]; try rfl) rfl ?_
  exact pend4 hlt G1.out S1.out (.mk 1 a1 0 []) none 0 0 (exC_leaf _ _ _ _ _ _ _) _ _ _ _
theorem bound_calls (pb : Nat) (s0 : PS) (w : World) (hs : PSt w pb s0) (r : Res Ex) (h : pBound s0 = some r) :
    Calls Tryz.prog 102 #[.pointer (some ⟨pb, 0, none⟩)] w (PEnd w pb r (rdE w.heap.size)) := by
  have hlt := hs.lt
  have G0 := Lib.hid (Gr.refl (· ≠ pb) (w.alloc (.cells #[.int .i64 0, .string ⟨#[]⟩, .int .i64 0, .slice none 0 0] 64)))
  have S0 := Lib.hid hs
  clear hs
  unfold pBound at h
  rw [bind_eat] at h
  have B1 := Lib.hid h
  clear h
  go_enter Tryz.func102, Tryz.ntmps102
  go_wp2_with fail
  refine (eat_text pb s0 _ (S0.out.below (by go_grown)) [45]).mono ?_
  rintro e w1 ⟨rfl, hs, hg⟩
  have h := B1.out
  generalize hbq : isOf [[45]] s0 = b at h ⊢
  have Hb1 := Lib.hid hbq
  clear hbq
  generalize eatS [45] s0 = s1 at h hs
  have S1 := Lib.hid hs
  have G1 := Lib.hid (G0.out.step (by go_grown) hg)
  clear hs hg
  try clear c0 c1 c2 c3 f0 f1 f2 f3 hz
  obtain ⟨c0, c1, c2, c3, f0, f1, f2, f3, hz⟩ := res4 hlt G1.out
  cases b with
  | true =>
    simp only [if_true] at h
    obtain ⟨q2, hq, h⟩ := P.bind_some h
    have Hq2 := Lib.hid hq
    have H2 := Lib.hid h
    clear hq h
    go_wp2_with fail
    refine (numeral_calls pb s1 _ (S1.out.below (by go_grown)) q2 Hq2.out).mono ?_
    rintro e w2 he
    rcases H2.out with ⟨n, rfl, rfl⟩ | ⟨a2, s2, rfl, h⟩
    · obtain ⟨rfl, hg⟩ := he
      have G2 := Lib.hid (G1.out.step (by go_grown) hg)
      clear hg
      go_wp2_with fail
      exact ⟨rfl, rfl, G2.out.pre⟩
    obtain ⟨_, rfl, ⟨A2, m2, n2, rfl, he⟩, hs, hg⟩ := he
    have S2 := Lib.hid hs
    have G2 := Lib.hid (G1.out.step (by go_grown) hg)
    have E2 := Lib.hid (he.mono (ok' := (w.heap.size < ·)) (fun b _ hb => by have := G1.out.size; simp at hb this ⊢; omega))
    clear he
    clear hs hg
    try clear c0 c1 c2 c3 f0 f1 f2 f3 hz
    obtain ⟨c0, c1, c2, c3, f0, f1, f2, f3, hz⟩ := res4 hlt G2.out
    injection h with h
    subst h
    go_wp2_with fail
    refine (with_calls 4 _ _ _ _).mono ?_
    rintro e wz ⟨rfl, hb⟩
    have EZ := Lib.hid ((exC_one E2.out (4) [] 0 _ rfl hz).gr (Gr.of_below _ hb))
    have SZ := Lib.hid ((S2.out.below (bel_alloc _ _)).below hb)
    have GZ := Lib.hid ((G2.out.alloc _).trans (Gr.of_below _ hb))
    clear hb c0 c1 c2 c3 f0 f1 f2 f3 hz
    obtain ⟨c0, c1, c2, c3, f0, f1, f2, f3, hz⟩ := res4 hlt GZ.out
    go_wp2_with fail
    try simp only [Exit.inBlock, Exit.then]
    refine bodyPost_ret (by simp [results, Tryz.results102, go_sem, c0, c1, c2, c3, f0, f1, f2, f3]; try rfl) rfl ?_
    exact pend4 hlt GZ.out SZ.out (withE (4) [a2]) _ _ _ EZ.out _ _ _ _
  | false =>
    simp only [if_neg (show ¬ (false = true) by simp)] at h
    have H := Lib.hid h
    clear h
    go_wp2_with fail
    refine (numeral_calls pb s1 _ (S1.out.below (by go_grown)) r H.out).mono ?_
    rintro e w2 he
    cases r with
    | bad n =>
      obtain ⟨rfl, hg⟩ := he
      have G2 := Lib.hid (G1.out.step (by go_grown) hg)
      clear hg
      go_wp2_with fail
      exact ⟨rfl, rfl, G2.out.pre⟩
    | ok a s2 =>
      obtain ⟨_, rfl, ⟨A, m, n, rfl, he⟩, hs, hg⟩ := he
      have S2 := Lib.hid hs
      have G2 := Lib.hid (G1.out.step (by go_grown) hg)
      have E2 := Lib.hid (he.mono (ok' := (w.heap.size < ·)) (fun b _ hb => by have := G1.out.size; simp at hb this ⊢; omega))
      clear hs hg he
      try clear c0 c1 c2 c3 f0 f1 f2 f3 hz
      obtain ⟨c0, c1, c2, c3, f0, f1, f2, f3, hz⟩ := res4 hlt G2.out
      go_wp2_with fail
      try simp only [Exit.inBlock, Exit.then]
      refine bodyPost_ret (by simp [results, Tryz.results102, go_sem, c0, c1, c2, c3, f0, f1, f2, f3]; try rfl) rfl ?_
      exact pend4 hlt G2.out S2.out a _ _ _ E2.out _ _ _ _
theorem tx_eq (t l : List UInt8) : ((⟨t.toArray⟩ : ByteArray) = ⟨l.toArray⟩) ↔ t = l := by
  constructor
  · intro h; injection h with h; exact List.toArray_inj h
  · rintro rfl; rfl
theorem idx_types (t : List UInt8) : Lib.idxOfS ([([] : List UInt8), sInt, sFloat, sDouble].map fun l => ⟨l.toArray⟩) ⟨t.toArray⟩ = typeOf t := by
  simp only [Lib.idxOfS, List.map, Lib.idxFromS, tx_eq, typeOf]
  simp only [eq_comm (a := t)]
  repeat' split
  all_goals first | rfl | simp_all
theorem typeOf_calls (t : List UInt8) (w : World) :
    Calls Tryz.prog 96 #[.string ⟨t.toArray⟩] w fun e w' => e = .returned (.int .i64 (typeOf t)) ∧ Below w.heap.size w w' := by
  go_enter Tryz.func96, Tryz.ntmps96
  go_wp2_with fail
  have hc : ∀ j, j < ([([] : List UInt8), sInt, sFloat, sDouble].map fun l => (⟨l.toArray⟩ : ByteArray)).length → (w.alloc (.cells #[.string ⟨#[]⟩, .string ⟨#[105, 110, 116]⟩, .string ⟨#[102, 108, 111, 97, 116]⟩, .string ⟨#[100, 111, 117, 98, 108, 101]⟩] 9)).cell? ⟨w.heap.size, 0 + j, none⟩ = some (.string (([([] : List UInt8), sInt, sFloat, sDouble].map fun l => (⟨l.toArray⟩ : ByteArray)).getD j ByteArray.empty)) := by
    intro j hj
    rw [Nat.zero_add, World.cell?_alloc_new]
    have : j = 0 ∨ j = 1 ∨ j = 2 ∨ j = 3 := by simp at hj; omega
    rcases this with rfl | rfl | rfl | rfl <;> rfl
  refine (Tryz.slices_Index_string w.heap.size 0 4 4 ([([] : List UInt8), sInt, sFloat, sDouble].map fun l => ⟨l.toArray⟩) ⟨t.toArray⟩ _ (by decide) (by decide) hc).mono ?_
  rintro e w1 ⟨rfl, rfl⟩
  rw [List.take_of_length_le (by decide), idx_types]
  obtain ⟨k, hk⟩ : ∃ k, k = typeOf t := ⟨_, rfl⟩
  rw [← hk]
  have Hk := Lib.hid hk
  clear hk
  go_wp2_with fail
  go_returns
  exact ⟨by rw [← Hk.out]; rfl, bel_alloc _ _⟩

theorem rdl_new (w0 : World) {w : World} {v : Value} {n size : Nat} {cells : List Value} (h : RdAt w v n size cells) (hv : ∀ b o m c, v = .slice (some ⟨b, o, none⟩) m c → w0.heap.size ≤ b) : RdK (w0.heap.size ≤ ·) w v n size cells := by
  obtain ⟨h1, h2, h3⟩ := h
  refine ⟨h1, h2, ?_⟩
  rcases h3 with h3 | ⟨b, off, c, hv', hle, hlt, hc⟩
  · exact Or.inl h3
  · exact Or.inr ⟨b, off, c, hv', hle, hv _ _ _ _ hv', hlt, hc⟩
theorem rdl_texts (w0 w : World) (xs : List (List UInt8)) (cs : Array Value) (t : TypeId) {B n : Nat} (hB : B = w.heap.size) (hn : xs.length = n) (hc : cs.toList = xs.map strV) (h0 : 0 < n) (hle : n ≤ 1000) (hw : w0.heap.size ≤ B) : RdK (w0.heap.size ≤ ·) (w.alloc (.cells cs t)) (.slice (some ⟨B, 0, none⟩) n n) xs.length 1 (xs.map strV) :=
  rdl_new w0 (rd_texts w xs cs t hB hn hc h0 hle) (by rintro b o m c h; injection h with h; injection h with h; injection h with h; omega)
theorem operators_calls (w : World) :
    Calls Tryz.prog 140 #[] w fun e w' => (∃ B, e = .returned (.slice (some ⟨B, 0, none⟩) 5 5) ∧ w.heap.size ≤ B ∧ B < w'.heap.size ∧
      ∀ k, k < 5 → ∃ A n c, w'.cell? ⟨B, k, none⟩ = some (.slice A n c) ∧ RdK (w.heap.size ≤ ·) w' (.slice A n c) (opsAt k).length 1 ((opsAt k).map strV)) ∧ Below w.heap.size w w' := by
  go_enter Tryz.func140, Tryz.ntmps140
  go_wp2_with fail
  go_returns
  refine ⟨⟨_, rfl, by omega, by simp, fun k hk => ?_⟩, by go_grown⟩
  have hk' : k = 0 ∨ k = 1 ∨ k = 2 ∨ k = 3 ∨ k = 4 := by omega
  rcases hk' with rfl | rfl | rfl | rfl | rfl
  · exact ⟨some ⟨w.heap.size, 0, none⟩, 1, 1, by simp [go_sem], (rdl_texts (n := 1) w w [[124, 124]] #[.string ⟨#[124, 124]⟩] 9 (by simp) rfl rfl (by omega) (by omega) (by omega)).gr (Gr.of_below _ (by go_grown))⟩
  · exact ⟨some ⟨w.heap.size + 1, 0, none⟩, 1, 1, by simp [go_sem], (rdl_texts (n := 1) w (w.alloc (.cells #[.string ⟨#[124, 124]⟩] 9)) [[38, 38]] #[.string ⟨#[38, 38]⟩] 9 (by simp) rfl rfl (by omega) (by omega) (by omega)).gr (Gr.of_below _ (by go_grown))⟩
  · exact ⟨some ⟨w.heap.size + 1 + 1, 0, none⟩, 6, 6, by simp [go_sem], (rdl_texts (n := 6) w ((w.alloc (.cells #[.string ⟨#[124, 124]⟩] 9)).alloc (.cells #[.string ⟨#[38, 38]⟩] 9)) [[61, 61], [33, 61], [60], [60, 61], [62], [62, 61]] #[.string ⟨#[61, 61]⟩, .string ⟨#[33, 61]⟩, .string ⟨#[60]⟩, .string ⟨#[60, 61]⟩, .string ⟨#[62]⟩, .string ⟨#[62, 61]⟩] 9 (by simp) rfl rfl (by omega) (by omega) (by omega)).gr (Gr.of_below _ (by go_grown))⟩
  · exact ⟨some ⟨w.heap.size + 1 + 1 + 1, 0, none⟩, 2, 2, by simp [go_sem], (rdl_texts (n := 2) w (((w.alloc (.cells #[.string ⟨#[124, 124]⟩] 9)).alloc (.cells #[.string ⟨#[38, 38]⟩] 9)).alloc (.cells #[.string ⟨#[61, 61]⟩, .string ⟨#[33, 61]⟩, .string ⟨#[60]⟩, .string ⟨#[60, 61]⟩, .string ⟨#[62]⟩, .string ⟨#[62, 61]⟩] 9)) [[43], [45]] #[.string ⟨#[43]⟩, .string ⟨#[45]⟩] 9 (by simp) rfl rfl (by omega) (by omega) (by omega)).gr (Gr.of_below _ (by go_grown))⟩
  · exact ⟨some ⟨w.heap.size + 1 + 1 + 1 + 1, 0, none⟩, 2, 2, by simp [go_sem], (rdl_texts (n := 2) w ((((w.alloc (.cells #[.string ⟨#[124, 124]⟩] 9)).alloc (.cells #[.string ⟨#[38, 38]⟩] 9)).alloc (.cells #[.string ⟨#[61, 61]⟩, .string ⟨#[33, 61]⟩, .string ⟨#[60]⟩, .string ⟨#[60, 61]⟩, .string ⟨#[62]⟩, .string ⟨#[62, 61]⟩] 9)).alloc (.cells #[.string ⟨#[43]⟩, .string ⟨#[45]⟩] 9)) [[42], [47]] #[.string ⟨#[42]⟩, .string ⟨#[47]⟩] 9 (by simp) rfl rfl (by omega) (by omega) (by omega)).gr (Gr.of_below _ (by go_grown))⟩

theorem run_ins {P : Program} (w : World) (mty kt et : TypeId) (clock r : Nat) (es : Array MapEntry) (s : ByteArray) (val : Value) (hm : P.underlying mty = some (.map kt et)) (hk : P.underlying kt = some .string)
    (hr : r = w.heap.size) (hf : Instr.findNow .string (.string s) es.toList 0 = some none) :
    (Instr.mapUpdate mty (.map (some r)) (.string s) val).run P (w.alloc (.map es clock)) = .ok () (w.alloc (.map (es.push { key := .string s, val := val, born := clock }) (clock + 1))) := by
  subst hr
  have hb : (w.alloc (.map es clock)).heap[w.heap.size]? = some (.map es clock) := by unfold World.alloc; simp
  have hc : (Instr.checkKey false 10000 kt (.string s)).run P (w.alloc (.map es clock)) = .ok () (w.alloc (.map es clock)) := MapKept.run_checkKey (k := .string s) hk (by simp [MapKept.IsKey]) false 9999
  simp only [Instr.mapUpdate, Sem.run_bind, run_underlying hm, MapKept.run_getObj_map hb, hc, MapKept.run_findKey hk hf, MapKept.run_setObj_map _ hb, Result.andThen]
  have e : ∀ x y : Obj, (w.heap.push x).setIfInBounds w.heap.size y = w.heap.push y := fun x y => by
    apply Array.ext'
    simp [Array.setIfInBounds]
  show Result.ok () { w with heap := (w.heap.push _).setIfInBounds w.heap.size _ } = Result.ok () { w with heap := w.heap.push _ }
  rw [e]
def opMap : List (List UInt8 × Int) := [([124, 124], 19), ([38, 38], 18), ([61, 61], 16), ([33, 61], 17), ([60], 12), ([60, 61], 13), ([62], 14), ([62, 61], 15), ([43], 8), ([45], 9), ([42], 10), ([47], 11)]
def opEs (n : Nat) : Array MapEntry := ((opMap.take n).zipIdx.map fun x => { key := .string ⟨x.1.1.toArray⟩, val := .int .i64 x.1.2, born := x.2 }).toArray
theorem opEs_push : ∀ n, n < 12 → (opEs n).push { key := .string ⟨(opMap.getD n ([], 0)).1.toArray⟩, val := .int .i64 (opMap.getD n ([], 0)).2, born := n } = opEs (n + 1) := by
  intro n hn
  have : n = 0 ∨ n = 1 ∨ n = 2 ∨ n = 3 ∨ n = 4 ∨ n = 5 ∨ n = 6 ∨ n = 7 ∨ n = 8 ∨ n = 9 ∨ n = 10 ∨ n = 11 := by omega
  rcases this with rfl | rfl | rfl | rfl | rfl | rfl | rfl | rfl | rfl | rfl | rfl | rfl <;> rfl
theorem op_new (n : Nat) (hn : n < 12) : Instr.findNow .string (.string ⟨(opMap.getD n ([], 0)).1.toArray⟩) (opEs n).toList 0 = some none := by
  have : n = 0 ∨ n = 1 ∨ n = 2 ∨ n = 3 ∨ n = 4 ∨ n = 5 ∨ n = 6 ∨ n = 7 ∨ n = 8 ∨ n = 9 ∨ n = 10 ∨ n = 11 := by omega
  rcases this with rfl | rfl | rfl | rfl | rfl | rfl | rfl | rfl | rfl | rfl | rfl | rfl <;> rfl
theorem op_ins (w : World) (n : Nat) (hn : n < 12) (r : Nat) (hr : r = w.heap.size) :
    (Instr.mapUpdate 175 (.map (some r)) (.string ⟨(opMap.getD n ([], 0)).1.toArray⟩) (.int .i64 (opMap.getD n ([], 0)).2)).run Tryz.prog (w.alloc (.map (opEs n) n)) = .ok () (w.alloc (.map (opEs (n + 1)) (n + 1))) := by
  rw [run_ins w _ 9 62 n r (opEs n) _ _ Tryz.underlying175 Tryz.underlying9 hr (op_new n hn), opEs_push n hn]
theorem tx_beq {t l : List UInt8} (h : t ≠ l) : ((⟨t.toArray⟩ : ByteArray) == ⟨l.toArray⟩) = false := by
  show (t.toArray == l.toArray) = false
  rw [beq_eq_false_iff_ne]; exact fun e => h (List.toArray_inj e)
theorem op_find (t : List UInt8) : Instr.findNow .string (.string ⟨t.toArray⟩) (opEs 12).toList 0 = some (if opOf t = 0 then none else some ((opMap.map (·.1)).idxOf t, .int .i64 (opOf t))) := by
  by_cases h0 : t = [124, 124]
  · subst h0; kernel_rfl
  by_cases h1 : t = [38, 38]
  · subst h1; kernel_rfl
  by_cases h2 : t = [61, 61]
  · subst h2; kernel_rfl
  by_cases h3 : t = [33, 61]
  · subst h3; kernel_rfl
  by_cases h4 : t = [60]
  · subst h4; kernel_rfl
  by_cases h5 : t = [60, 61]
  · subst h5; kernel_rfl
  by_cases h6 : t = [62]
  · subst h6; kernel_rfl
  by_cases h7 : t = [62, 61]
  · subst h7; kernel_rfl
  by_cases h8 : t = [43]
  · subst h8; kernel_rfl
  by_cases h9 : t = [45]
  · subst h9; kernel_rfl
  by_cases h10 : t = [42]
  · subst h10; kernel_rfl
  by_cases h11 : t = [47]
  · subst h11; kernel_rfl
  have hn : opOf t = 0 := by simp [opOf, h0, h1, h2, h3, h4, h5, h6, h7, h8, h9, h10, h11]
  rw [hn, if_pos rfl]
  simp only [opEs, opMap, List.take, List.zipIdx, List.map, Instr.findNow, Instr.sameNow, tx_beq h0, tx_beq h1, tx_beq h2, tx_beq h3, tx_beq h4, tx_beq h5, tx_beq h6, tx_beq h7, tx_beq h8, tx_beq h9, tx_beq h10, tx_beq h11]
theorem op_look (w : World) (t : List UInt8) (r : Nat) (hr : r = w.heap.size) :
    (Instr.lookup 175 (.map (some r)) (.string ⟨t.toArray⟩) false).run Tryz.prog (w.alloc (.map (opEs 12) 12)) = .ok (.int .i64 (opOf t)) (w.alloc (.map (opEs 12) 12)) := by
  subst hr
  have hb : (w.alloc (.map (opEs 12) 12)).heap[w.heap.size]? = some (.map (opEs 12) 12) := by unfold World.alloc; simp
  have hc : ∀ b, (Instr.checkKey b 10000 9 (.string ⟨t.toArray⟩)).run Tryz.prog (w.alloc (.map (opEs 12) 12)) = .ok () (w.alloc (.map (opEs 12) 12)) := fun b => MapKept.run_checkKey (k := .string ⟨t.toArray⟩) Tryz.underlying9 (by simp [MapKept.IsKey]) b 9999
  have hz : ∀ w, (zeroValue 62).run Tryz.prog w = .ok (.int .i64 0) w := fun w => by kernel_rfl
  have hk := MapKept.run_findKey (P := Tryz.prog) (w := w.alloc (.map (opEs 12) 12)) Tryz.underlying9 (op_find t)
  by_cases h : opOf t = 0
  · rw [if_pos h] at hk
    simp [Instr.lookup, run_underlying Tryz.underlying175, MapKept.run_getObj_map hb, hc, hk, hz, h, Result.andThen]
  · rw [if_neg h] at hk
    simp [Instr.lookup, run_underlying Tryz.underlying175, MapKept.run_getObj_map hb, hc, hk, hz, Result.andThen]
theorem opOf_calls (t : List UInt8) (w : World) :
    Calls Tryz.prog 142 #[.string ⟨t.toArray⟩] w fun e w' => e = .returned (.int .i64 (opOf t)) ∧ Below w.heap.size w w' := by
  have hmm := @run_makeMap Tryz.prog
  have i0 : (Instr.mapUpdate 175 (.map (some w.heap.size)) (.string ⟨#[124, 124]⟩) (.int .i64 19)).run Tryz.prog (w.alloc (.map #[] 0)) = .ok () (w.alloc (.map (opEs 1) 1)) := op_ins w 0 (by omega) _ rfl
  have i1 : (Instr.mapUpdate 175 (.map (some w.heap.size)) (.string ⟨#[38, 38]⟩) (.int .i64 18)).run Tryz.prog (w.alloc (.map (opEs 1) 1)) = .ok () (w.alloc (.map (opEs 2) 2)) := op_ins w 1 (by omega) _ rfl
  have i2 : (Instr.mapUpdate 175 (.map (some w.heap.size)) (.string ⟨#[61, 61]⟩) (.int .i64 16)).run Tryz.prog (w.alloc (.map (opEs 2) 2)) = .ok () (w.alloc (.map (opEs 3) 3)) := op_ins w 2 (by omega) _ rfl
  have i3 : (Instr.mapUpdate 175 (.map (some w.heap.size)) (.string ⟨#[33, 61]⟩) (.int .i64 17)).run Tryz.prog (w.alloc (.map (opEs 3) 3)) = .ok () (w.alloc (.map (opEs 4) 4)) := op_ins w 3 (by omega) _ rfl
  have i4 : (Instr.mapUpdate 175 (.map (some w.heap.size)) (.string ⟨#[60]⟩) (.int .i64 12)).run Tryz.prog (w.alloc (.map (opEs 4) 4)) = .ok () (w.alloc (.map (opEs 5) 5)) := op_ins w 4 (by omega) _ rfl
  have i5 : (Instr.mapUpdate 175 (.map (some w.heap.size)) (.string ⟨#[60, 61]⟩) (.int .i64 13)).run Tryz.prog (w.alloc (.map (opEs 5) 5)) = .ok () (w.alloc (.map (opEs 6) 6)) := op_ins w 5 (by omega) _ rfl
  have i6 : (Instr.mapUpdate 175 (.map (some w.heap.size)) (.string ⟨#[62]⟩) (.int .i64 14)).run Tryz.prog (w.alloc (.map (opEs 6) 6)) = .ok () (w.alloc (.map (opEs 7) 7)) := op_ins w 6 (by omega) _ rfl
  have i7 : (Instr.mapUpdate 175 (.map (some w.heap.size)) (.string ⟨#[62, 61]⟩) (.int .i64 15)).run Tryz.prog (w.alloc (.map (opEs 7) 7)) = .ok () (w.alloc (.map (opEs 8) 8)) := op_ins w 7 (by omega) _ rfl
  have i8 : (Instr.mapUpdate 175 (.map (some w.heap.size)) (.string ⟨#[43]⟩) (.int .i64 8)).run Tryz.prog (w.alloc (.map (opEs 8) 8)) = .ok () (w.alloc (.map (opEs 9) 9)) := op_ins w 8 (by omega) _ rfl
  have i9 : (Instr.mapUpdate 175 (.map (some w.heap.size)) (.string ⟨#[45]⟩) (.int .i64 9)).run Tryz.prog (w.alloc (.map (opEs 9) 9)) = .ok () (w.alloc (.map (opEs 10) 10)) := op_ins w 9 (by omega) _ rfl
  have i10 : (Instr.mapUpdate 175 (.map (some w.heap.size)) (.string ⟨#[42]⟩) (.int .i64 10)).run Tryz.prog (w.alloc (.map (opEs 10) 10)) = .ok () (w.alloc (.map (opEs 11) 11)) := op_ins w 10 (by omega) _ rfl
  have i11 : (Instr.mapUpdate 175 (.map (some w.heap.size)) (.string ⟨#[47]⟩) (.int .i64 11)).run Tryz.prog (w.alloc (.map (opEs 11) 11)) = .ok () (w.alloc (.map (opEs 12) 12)) := op_ins w 11 (by omega) _ rfl
  have il := op_look w t _ rfl
  go_enter Tryz.func142, Tryz.ntmps142
  go_wp2_with fail
  go_returns
  exact ⟨rfl, bel_alloc _ _⟩
end

/-! The parser's expressions. -/
section
set_option linter.unusedVariables false
set_option linter.unusedSimpArgs false
open Go.RowKit

def CallsE (f : Nat) : Prop := ∀ (level : Nat) (pb : Nat) (s : PS) (w : World) (r : Res Ex), level ≤ 5 → PSt w pb s → pExpr f level s = some r →
  Calls Tryz.prog 105 #[.pointer (some ⟨pb, 0, none⟩), .int .i64 level] w (PEnd w pb r (rdE w.heap.size))
def CallsU (f : Nat) : Prop := ∀ (pb : Nat) (s : PS) (w : World) (r : Res Ex), PSt w pb s → pUnary f s = some r →
  Calls Tryz.prog 141 #[.pointer (some ⟨pb, 0, none⟩)] w (PEnd w pb r (rdE w.heap.size))
def CallsP (f : Nat) : Prop := ∀ (pb : Nat) (s : PS) (w : World) (r : Res Ex), PSt w pb s → pPrimary f s = some r →
  Calls Tryz.prog 163 #[.pointer (some ⟨pb, 0, none⟩)] w (PEnd w pb r (rdE w.heap.size))
def CallsW (f : Nat) : Prop := ∀ (pb : Nat) (s : PS) (w : World) (r : Res Ex), PSt w pb s → pWithin f s = some r →
  Calls Tryz.prog 177 #[.pointer (some ⟨pb, 0, none⟩)] w (PEnd w pb r (rdE w.heap.size))

/-- What a variable of the call's own holds. -/
structure Has (w : World) (b : Nat) (cs : Array Value) : Prop where
  lt : b < w.heap.size
  cell : ∀ (i : Nat) (u : Value), cs[i]? = some u → w.cell? ⟨b, i, none⟩ = some u
  frz : ∀ i, i < cs.size → w.frozen? ⟨b, i, none⟩ = false
section
variable {w w' : World} {b : Nat} {cs : Array Value}
theorem Has.gr {ok : Nat → Prop} (h : Has w b cs) (hg : Gr ok w w') (ho : ok b) : Has w' b cs :=
  ⟨Nat.lt_of_lt_of_le h.lt hg.size, fun i u hi => by rw [hg.cell (p := ⟨b, i, none⟩) h.lt ho]; exact h.cell i u hi, fun i hi => by rw [hg.frozen (p := ⟨b, i, none⟩) h.lt ho]; exact h.frz i hi⟩
theorem Has.below (h : Has w b cs) (hg : Below w.heap.size w w') : Has w' b cs := h.gr (Gr.of_below (fun _ => True) hg) trivial
theorem Has.new (w : World) (cs : Array Value) (t : TypeId) {B : Nat} (hB : B = w.heap.size) : Has (w.alloc (.cells cs t)) B cs := by
  subst hB
  exact ⟨by simp, fun i u hi => by rw [World.cell?_alloc_new]; exact hi, fun i hi => by simp⟩
theorem Has.set (h : Has w b cs) (k : Nat) (v : Value) (hk : k < cs.size) : Has (w.setCell ⟨b, k, none⟩ v) b (cs.setIfInBounds k v) := by
  refine ⟨by simpa using h.lt, fun i u hi => ?_, fun i hi => by simpa using h.frz i (by simpa using hi)⟩
  by_cases e : k = i
  · subst e
    have hc : (cs.setIfInBounds k v)[k]? = some v := by simp [hk]
    rw [hc] at hi
    injection hi with hi
    subst hi
    obtain ⟨x, hx⟩ : ∃ x, cs[k]? = some x := ⟨_, Array.getElem?_eq_getElem hk⟩
    exact World.cell?_setCell_same _ _ _ (h.cell k x hx)
  · rw [World.cell?_setCell_other _ _ _ _ (ne_off e)]
    refine h.cell i u ?_
    rw [← hi]
    simp [Array.getElem?_setIfInBounds, e]
theorem Has.off (h : Has w b cs) (p : Addr) (v : Value) (hp : p.block ≠ b) : Has (w.setCell p v) b cs :=
  h.gr (ok := (· = b)) ((Gr.refl _ _).setCell (Or.inr hp) v) rfl
theorem Has.c4 {x0 x1 x2 x3 : Value} (h : Has w b #[x0, x1, x2, x3]) : w.cell? ⟨b, 0, none⟩ = some x0 ∧ w.cell? ⟨b, 1, none⟩ = some x1 ∧ w.cell? ⟨b, 2, none⟩ = some x2 ∧ w.cell? ⟨b, 3, none⟩ = some x3 ∧
    w.frozen? ⟨b, 0, none⟩ = false ∧ w.frozen? ⟨b, 1, none⟩ = false ∧ w.frozen? ⟨b, 2, none⟩ = false ∧ w.frozen? ⟨b, 3, none⟩ = false ∧ b < w.heap.size :=
  ⟨h.cell 0 _ rfl, h.cell 1 _ rfl, h.cell 2 _ rfl, h.cell 3 _ rfl, h.frz 0 (by simp), h.frz 1 (by simp), h.frz 2 (by simp), h.frz 3 (by simp), h.lt⟩
end
theorem pend4a {w wk : World} {pb : Nat} {s : PS} {o o' : Obj} (hlt : pb < w.heap.size) (G : Gr (· ≠ pb) (w.alloc o) wk) (S : PSt wk pb s) (a : Ex) (A : Option Addr) (m c : Nat)
    (E : ExC (w.heap.size < ·) (wk.alloc o') a [.int .i64 a.op, strV a.text, .int .i64 a.ty, .slice A m c]) (v0 v1 v2 v3 : Value) :
    PEnd w pb (.ok a s) (rdE w.heap.size) (.returned (.agg #[.int .i64 a.op, .string ⟨a.text.toArray⟩, .int .i64 a.ty, .slice A m c]))
      (((((wk.setCell ⟨w.heap.size, 0, none⟩ v0).setCell ⟨w.heap.size, 1, none⟩ v1).setCell ⟨w.heap.size, 2, none⟩ v2).setCell ⟨w.heap.size, 3, none⟩ v3).alloc o') := by
  have hz : w.heap.size < wk.heap.size := by have := G.size; simp at this; omega
  have := pend4 hlt (G.alloc o') (S.below (bel_alloc _ _)) a A m c E v0 v1 v2 v3
  rw [World.setCell_alloc_past _ _ _ _ hz, World.setCell_alloc_past _ _ _ _ (by simpa using hz), World.setCell_alloc_past _ _ _ _ (by simpa using hz), World.setCell_alloc_past _ _ _ _ (by simpa using hz)] at this
  exact this
theorem bind_pass {α : Type} (f : List UInt8 → P α) (s : PS) : pPass.bind f s = f (hd s).text (drop1 s) := rfl
theorem bind_in {α : Type} (f : Unit → P α) (s : PS) : pIn.bind f s = f () { s with deep := wrap64 (s.deep + 1), most := max s.most (wrap64 (s.deep + 1)) } := rfl
theorem bind_out {α : Type} (f : Unit → P α) (s : PS) : pOut.bind f s = f () { s with deep := wrap64 (s.deep - 1) } := rfl
theorem within_step (f : Nat) (ih : CallsE f) : CallsW (f + 1) := by
  intro pb s0 w r hs h
  have hlt := hs.lt
  have G0 := Lib.hid (Gr.refl (· ≠ pb) (w.alloc (.cells #[.int .i64 0, .string ⟨#[]⟩, .int .i64 0, .slice none 0 0] 64)))
  have S0 := Lib.hid hs
  clear hs
  unfold pWithin at h
  obtain ⟨q1, hq, h⟩ := P.bind_some h
  have Hq1 := Lib.hid hq
  have H1 := Lib.hid h
  clear hq h
  go_enter Tryz.func177, Tryz.ntmps177
  go_wp2_with fail
  refine (must_calls pb s0 _ (S0.out.below (by go_grown)) _ [[40]] (rdk_t1 _ [40] _ (by simp) (by omega)) q1 Hq1.out).mono ?_
  rintro e w1 he
  rcases H1.out with ⟨n, rfl, rfl⟩ | ⟨a1, s1, rfl, h⟩
  · obtain ⟨rfl, hg⟩ := he
    have G1 := Lib.hid (G0.out.step (by go_grown) hg)
    clear hg
    go_wp2_with fail
    exact ⟨rfl, rfl, G1.out.pre⟩
  obtain ⟨_, rfl, rfl, hs, hg⟩ := he
  have S1 := Lib.hid hs
  have G1 := Lib.hid (G0.out.step (by go_grown) hg)
  clear hs hg
  try clear c0 c1 c2 c3 f0 f1 f2 f3 hz
  obtain ⟨c0, c1, c2, c3, f0, f1, f2, f3, hz⟩ := res4 hlt G1.out
  rw [bind_in] at h
  obtain ⟨q2, hq, h⟩ := P.bind_some h
  have Hq2 := Lib.hid hq
  have H2 := Lib.hid h
  clear hq h
  have d1 := S1.out.deep
  have d2 := S1.out.most
  have g1 := S1.out.frz 1 (by omega)
  have g2 := S1.out.frz 2 (by omega)
  have hl1 := S1.out.lt
  go_wp2_with fail
  go_region
  have S1b := Lib.hid (((S1.out.setDeep (wrap64 (s1.deep + 1))).setMost (max s1.most (wrap64 (s1.deep + 1)))).below (w' := ((w1.setCell ⟨pb, 1, none⟩ (.int .i64 (wrap64 (s1.deep + 1)))).setCell ⟨pb, 2, none⟩ (.int .i64 (max s1.most (wrap64 (s1.deep + 1))))).drew) (by go_grown))
  have G1b := Lib.hid (((G1.out.setCell (p := ⟨pb, 1, none⟩) (Or.inr (by simp)) (.int .i64 (wrap64 (s1.deep + 1)))).setCell (p := ⟨pb, 2, none⟩) (Or.inr (by simp)) (.int .i64 (max s1.most (wrap64 (s1.deep + 1))))).drew)
  clear d1 d2 g1 g2 hl1
  go_wp2_with fail
  refine (ih 0 pb _ _ q2 (by omega) S1b.out Hq2.out).mono ?_
  rintro e w2 he
  rcases H2.out with ⟨n, rfl, rfl⟩ | ⟨a2, s2, rfl, h⟩
  · obtain ⟨rfl, hg⟩ := he
    have G2 := Lib.hid (G1b.out.step (by go_grown) hg)
    clear hg
    go_wp2_with fail
    exact ⟨rfl, rfl, G2.out.pre⟩
  obtain ⟨_, rfl, ⟨A2, m2, n2, rfl, he⟩, hs, hg⟩ := he
  have S2 := Lib.hid hs
  have G2 := Lib.hid (G1b.out.step (by go_grown) hg)
  have E2 := Lib.hid (he.mono (ok' := (w.heap.size < ·)) (fun b _ hb => by have := G1b.out.size; simp at hb this ⊢; omega))
  clear he
  clear hs hg
  try clear c0 c1 c2 c3 f0 f1 f2 f3 hz
  obtain ⟨c0, c1, c2, c3, f0, f1, f2, f3, hz⟩ := res4 hlt G2.out
  obtain ⟨q3, hq, h⟩ := P.bind_some h
  have Hq3 := Lib.hid hq
  have H3 := Lib.hid h
  clear hq h
  have xlt : pb < w2.heap.size := by omega
  have x2 := Lib.hid (Has.new w2 #[.int .i64 a2.op, .string ⟨a2.text.toArray⟩, .int .i64 a2.ty, .slice A2 m2 n2] 64 rfl)
  go_wp2_with fail
  refine (must_calls pb s2 _ (S2.out.below (by go_grown)) _ [[41]] (rdk_t1 _ [41] _ (by simp) (by omega)) q3 Hq3.out).mono ?_
  rintro e w3 he
  rcases H3.out with ⟨n, rfl, rfl⟩ | ⟨a3, s3, rfl, h⟩
  · obtain ⟨rfl, hg⟩ := he
    have G3 := Lib.hid (G2.out.step (by go_grown) hg)
    clear hg
    go_wp2_with fail
    exact ⟨rfl, rfl, G3.out.pre⟩
  obtain ⟨_, rfl, rfl, hs, hg⟩ := he
  have S3 := Lib.hid hs
  have G3 := Lib.hid (G2.out.step (by go_grown) hg)
  have E2x3 := Lib.hid ((E2.out.gr (Gr.of_below _ (by go_grown))).gr (hg.mono fun b hb hb' => by omega))
  have x3 := Lib.hid ((x2.out.below (by go_grown)).gr hg (by omega))
  clear hs hg
  try clear c0 c1 c2 c3 f0 f1 f2 f3 hz
  obtain ⟨c0, c1, c2, c3, f0, f1, f2, f3, hz⟩ := res4 hlt G3.out
  rw [bind_out] at h
  injection h with h
  subst h
  have d1 := S3.out.deep
  have g1 := S3.out.frz 1 (by omega)
  have hl1 := S3.out.lt
  obtain ⟨x3c0, x3c1, x3c2, x3c3, x3f0, x3f1, x3f2, x3f3, x3z⟩ := x3.out.c4
  go_wp2_with fail
  have hne : ¬ pb = w.heap.size := by omega
  have hne' : ¬ w.heap.size = pb := by omega
  try simp only [Exit.inBlock, Exit.then]
  refine bodyPost_ret (by simp [results, Tryz.results177, go_sem, c0, c1, c2, c3, f0, f1, f2, f3, hne, hne']; try rfl) rfl ?_
  exact pend4 hlt (G3.out.setCell (Or.inr (by simp)) _) (S3.out.setDeep _) a2 _ _ _ (E2x3.out.gr ((Gr.refl _ _).setCell (Or.inr (by simp; omega)) _)) _ _ _ _
theorem unary_step (f : Nat) (ihU : CallsU f) (ihP : CallsP f) : CallsU (f + 1) := by
  intro pb s0 w r hs h
  have hlt := hs.lt
  have G0 := Lib.hid (Gr.refl (· ≠ pb) (w.alloc (.cells #[.int .i64 0, .string ⟨#[]⟩, .int .i64 0, .slice none 0 0] 64)))
  have S0 := Lib.hid hs
  clear hs
  unfold pUnary at h
  rw [bind_eat] at h
  have B1 := Lib.hid h
  clear h
  go_enter Tryz.func141, Tryz.ntmps141
  go_wp2_with fail
  refine (eat_text pb s0 _ (S0.out.below (by go_grown)) [45]).mono ?_
  rintro e w1 ⟨rfl, hs, hg⟩
  have h := B1.out
  generalize hbq : isOf [[45]] s0 = b at h ⊢
  have Hb1 := Lib.hid hbq
  clear hbq
  generalize eatS [45] s0 = s1 at h hs
  have S1 := Lib.hid hs
  have G1 := Lib.hid (G0.out.step (by go_grown) hg)
  clear hs hg
  try clear c0 c1 c2 c3 f0 f1 f2 f3 hz
  obtain ⟨c0, c1, c2, c3, f0, f1, f2, f3, hz⟩ := res4 hlt G1.out
  cases b with
  | true =>
    simp only [if_true] at h
    obtain ⟨q2, hq, h⟩ := P.bind_some h
    have Hq2 := Lib.hid hq
    have H2 := Lib.hid h
    clear hq h
    go_wp2_with fail
    refine (ihU pb s1 _ q2 (S1.out.below (by go_grown)) Hq2.out).mono ?_
    rintro e w2 he
    rcases H2.out with ⟨n, rfl, rfl⟩ | ⟨a2, s2, rfl, h⟩
    · obtain ⟨rfl, hg⟩ := he
      have G2 := Lib.hid (G1.out.step (by go_grown) hg)
      clear hg
      go_wp2_with fail
      exact ⟨rfl, rfl, G2.out.pre⟩
    obtain ⟨_, rfl, ⟨A2, m2, n2, rfl, he⟩, hs, hg⟩ := he
    have S2 := Lib.hid hs
    have G2 := Lib.hid (G1.out.step (by go_grown) hg)
    have E2 := Lib.hid (he.mono (ok' := (w.heap.size < ·)) (fun b _ hb => by have := G1.out.size; simp at hb this ⊢; omega))
    clear he
    clear hs hg
    try clear c0 c1 c2 c3 f0 f1 f2 f3 hz
    obtain ⟨c0, c1, c2, c3, f0, f1, f2, f3, hz⟩ := res4 hlt G2.out
    injection h with h
    subst h
    go_wp2_with fail
    refine (with_calls 4 _ _ _ _).mono ?_
    rintro e wz ⟨rfl, hb⟩
    have EZ := Lib.hid ((exC_one E2.out (4) [] 0 _ rfl hz).gr (Gr.of_below _ hb))
    have SZ := Lib.hid ((S2.out.below (bel_alloc _ _)).below hb)
    have GZ := Lib.hid ((G2.out.alloc _).trans (Gr.of_below _ hb))
    clear hb c0 c1 c2 c3 f0 f1 f2 f3 hz
    obtain ⟨c0, c1, c2, c3, f0, f1, f2, f3, hz⟩ := res4 hlt GZ.out
    go_wp2_with fail
    try simp only [Exit.inBlock, Exit.then]
    refine bodyPost_ret (by simp [results, Tryz.results141, go_sem, c0, c1, c2, c3, f0, f1, f2, f3]; try rfl) rfl ?_
    exact pend4 hlt GZ.out SZ.out (withE (4) [a2]) _ _ _ EZ.out _ _ _ _
  | false =>
    simp only [if_neg (show ¬ (false = true) by simp)] at h
    rw [bind_eat] at h
    have B2 := Lib.hid h
    clear h
    go_wp2_with fail
    refine (eat_text pb s1 _ (S1.out.below (by go_grown)) [33]).mono ?_
    rintro e w2 ⟨rfl, hs, hg⟩
    have h := B2.out
    generalize hbq : isOf [[33]] s1 = b at h ⊢
    have Hb2 := Lib.hid hbq
    clear hbq
    generalize eatS [33] s1 = s2 at h hs
    have S2 := Lib.hid hs
    have G2 := Lib.hid (G1.out.step (by go_grown) hg)
    clear hs hg
    try clear c0 c1 c2 c3 f0 f1 f2 f3 hz
    obtain ⟨c0, c1, c2, c3, f0, f1, f2, f3, hz⟩ := res4 hlt G2.out
    cases b with
    | true =>
      simp only [if_true] at h
      obtain ⟨q3, hq, h⟩ := P.bind_some h
      have Hq3 := Lib.hid hq
      have H3 := Lib.hid h
      clear hq h
      go_wp2_with fail
      refine (ihU pb s2 _ q3 (S2.out.below (by go_grown)) Hq3.out).mono ?_
      rintro e w3 he
      rcases H3.out with ⟨n, rfl, rfl⟩ | ⟨a3, s3, rfl, h⟩
      · obtain ⟨rfl, hg⟩ := he
        have G3 := Lib.hid (G2.out.step (by go_grown) hg)
        clear hg
        go_wp2_with fail
        exact ⟨rfl, rfl, G3.out.pre⟩
      obtain ⟨_, rfl, ⟨A3, m3, n3, rfl, he⟩, hs, hg⟩ := he
      have S3 := Lib.hid hs
      have G3 := Lib.hid (G2.out.step (by go_grown) hg)
      have E3 := Lib.hid (he.mono (ok' := (w.heap.size < ·)) (fun b _ hb => by have := G2.out.size; simp at hb this ⊢; omega))
      clear he
      clear hs hg
      try clear c0 c1 c2 c3 f0 f1 f2 f3 hz
      obtain ⟨c0, c1, c2, c3, f0, f1, f2, f3, hz⟩ := res4 hlt G3.out
      injection h with h
      subst h
      go_wp2_with fail
      refine (with_calls 20 _ _ _ _).mono ?_
      rintro e wz ⟨rfl, hb⟩
      have EZ := Lib.hid ((exC_one E3.out (20) [] 0 _ rfl hz).gr (Gr.of_below _ hb))
      have SZ := Lib.hid ((S3.out.below (bel_alloc _ _)).below hb)
      have GZ := Lib.hid ((G3.out.alloc _).trans (Gr.of_below _ hb))
      clear hb c0 c1 c2 c3 f0 f1 f2 f3 hz
      obtain ⟨c0, c1, c2, c3, f0, f1, f2, f3, hz⟩ := res4 hlt GZ.out
      go_wp2_with fail
      try simp only [Exit.inBlock, Exit.then]
      refine bodyPost_ret (by simp [results, Tryz.results141, go_sem, c0, c1, c2, c3, f0, f1, f2, f3]; try rfl) rfl ?_
      exact pend4 hlt GZ.out SZ.out (withE (20) [a3]) _ _ _ EZ.out _ _ _ _
    | false =>
      simp only [if_neg (show ¬ (false = true) by simp)] at h
      have H := Lib.hid h
      clear h
      go_wp2_with fail
      refine (ihP pb s2 _ r (S2.out.below (by go_grown)) H.out).mono ?_
      rintro e w3 he
      cases r with
      | bad n =>
        obtain ⟨rfl, hg⟩ := he
        have G3 := Lib.hid (G2.out.step (by go_grown) hg)
        clear hg
        go_wp2_with fail
        exact ⟨rfl, rfl, G3.out.pre⟩
      | ok a s3 =>
        obtain ⟨_, rfl, ⟨A, m, n, rfl, he⟩, hs, hg⟩ := he
        have S3 := Lib.hid hs
        have G3 := Lib.hid (G2.out.step (by go_grown) hg)
        have E3 := Lib.hid (he.mono (ok' := (w.heap.size < ·)) (fun b _ hb => by have := G2.out.size; simp at hb this ⊢; omega))
        clear hs hg he
        try clear c0 c1 c2 c3 f0 f1 f2 f3 hz
        obtain ⟨c0, c1, c2, c3, f0, f1, f2, f3, hz⟩ := res4 hlt G3.out
        go_wp2_with fail
        try simp only [Exit.inBlock, Exit.then]
        refine bodyPost_ret (by simp [results, Tryz.results141, go_sem, c0, c1, c2, c3, f0, f1, f2, f3]; try rfl) rfl ?_
        exact pend4 hlt G3.out S3.out a _ _ _ E3.out _ _ _ _

set_option maxHeartbeats 4000000 in
theorem primary_step (f : Nat) (ihE : CallsE f) (ihW : CallsW f) : CallsP (f + 1) := by
  intro pb s0 w r hs h
  have hlt := hs.lt
  have G0 := Lib.hid (Gr.refl (· ≠ pb) (w.alloc (.cells #[.int .i64 0, .string ⟨#[]⟩, .int .i64 0, .slice none 0 0] 64)))
  have S0 := Lib.hid hs
  clear hs
  unfold pPrimary at h
  have H0 := Lib.hid h
  clear h
  go_enter Tryz.func163, Tryz.ntmps163
  go_wp2_with fail
  refine (peek_calls pb s0 _ (S0.out.below (by go_grown))).mono ?_
  rintro e w1 ⟨rfl, hb⟩
  have S0x := Lib.hid ((S0.out.below (bel_alloc _ _)).below hb)
  have G0x := Lib.hid (G0.out.trans (Gr.of_below _ hb))
  clear hb
  have h := H0.out
  simp only [tokV]
  obtain ⟨k, hk⟩ : ∃ k, k = (hd s0).kind := ⟨_, rfl⟩
  rw [← hk] at h ⊢
  have Hne := fun (e : k ≠ 0) => hd_ne (s := s0) (by rw [← hk]; exact e)
  have HNE := Lib.hid Hne
  clear hk Hne
  generalize (hd s0).at_ = p
  generalize (hd s0).text = tx
  by_cases h3 : k = 3 ∨ k = 4
  · rw [if_pos h3] at h
    have hs0 := HNE.out (by rcases h3 with rfl | rfl <;> simp)
    have HS := Lib.hid hs0
    injection h with h
    subst h
    obtain ⟨c0, c1, c2, c3, f0, f1, f2, f3, hz⟩ := res4 hlt G0x.out
    clear hs0 HNE
    rcases h3 with rfl | rfl
    · go_wp2_with fail
      refine (pass_calls pb s0 _ (S0x.out.below (by go_grown)) HS.out).mono ?_
      rintro e w2 ⟨rfl, hs, hg⟩
      have G2 := Lib.hid (G0x.out.step (by go_grown) hg)
      have S2 := Lib.hid hs
      clear hs hg
      try clear c0 c1 c2 c3 f0 f1 f2 f3 hz
      obtain ⟨c0, c1, c2, c3, f0, f1, f2, f3, hz⟩ := res4 hlt G2.out
      go_wp2_with fail
      try simp only [Exit.inBlock, Exit.then]
      refine bodyPost_ret (by simp [results, Tryz.results163, go_sem, c0, c1, c2, c3, f0, f1, f2, f3]; try rfl) rfl ?_
      exact pend4 hlt G2.out S2.out (.mk 1 (hd s0).text 0 []) none 0 0 (exC_leaf _ _ _ _ _ _ _) _ _ _ _
    · go_wp2_with fail
      refine (pass_calls pb s0 _ (S0x.out.below (by go_grown)) HS.out).mono ?_
      rintro e w2 ⟨rfl, hs, hg⟩
      have G2 := Lib.hid (G0x.out.step (by go_grown) hg)
      have S2 := Lib.hid hs
      clear hs hg
      try clear c0 c1 c2 c3 f0 f1 f2 f3 hz
      obtain ⟨c0, c1, c2, c3, f0, f1, f2, f3, hz⟩ := res4 hlt G2.out
      go_wp2_with fail
      try simp only [Exit.inBlock, Exit.then]
      refine bodyPost_ret (by simp [results, Tryz.results163, go_sem, c0, c1, c2, c3, f0, f1, f2, f3]; try rfl) rfl ?_
      exact pend4 hlt G2.out S2.out (.mk 1 (hd s0).text 0 []) none 0 0 (exC_leaf _ _ _ _ _ _ _) _ _ _ _
  · rw [if_neg h3] at h
    have t3 : (k == 3) = false := by simp; omega
    have t4 : (k == 4) = false := by simp; omega
    by_cases h1 : k = 1
    · rw [if_pos h1] at h
      subst h1
      have HS := Lib.hid (HNE.out (by simp))
      clear HNE h3 t3 t4
      rw [bind_pass] at h
      rw [bind_eat] at h
      have B3 := Lib.hid h
      clear h
      obtain ⟨c0, c1, c2, c3, f0, f1, f2, f3, hz⟩ := res4 hlt G0x.out
      go_wp2_with fail
      refine (pass_calls pb s0 _ (S0x.out.below (by go_grown)) HS.out).mono ?_
      rintro e w2 ⟨rfl, hs, hg⟩
      have G2 := Lib.hid (G0x.out.step (by go_grown) hg)
      have S2 := Lib.hid hs
      clear hs hg
      try clear c0 c1 c2 c3 f0 f1 f2 f3 hz
      obtain ⟨c0, c1, c2, c3, f0, f1, f2, f3, hz⟩ := res4 hlt G2.out
      have xlt : pb < w2.heap.size := by omega
      have Y2 := Lib.hid (Has.new w2 #[.int .i64 2, .string ⟨(hd s0).text.toArray⟩, .int .i64 0, .slice none 0 0] 64 rfl)
      generalize (hd s0).text = t at *
      generalize drop1 s0 = s2 at *
      go_wp2_with fail
      refine (eat_text pb s2 _ (S2.out.below (by go_grown)) [91]).mono ?_
      rintro e w3 ⟨rfl, hs, hg⟩
      have h := B3.out
      generalize hbq : isOf [[91]] s2 = b at h ⊢
      have Hb3 := Lib.hid hbq
      clear hbq
      generalize eatS [91] s2 = s3 at h hs
      have S3 := Lib.hid hs
      have G3 := Lib.hid (G2.out.step (by go_grown) hg)
      have Y3 := Lib.hid ((Y2.out.below (by go_grown)).gr hg (by omega))
      clear hs hg
      try clear c0 c1 c2 c3 f0 f1 f2 f3 hz
      obtain ⟨c0, c1, c2, c3, f0, f1, f2, f3, hz⟩ := res4 hlt G3.out
      cases b with
      | true =>
        simp only [if_true] at h
        obtain ⟨q4, hq, h⟩ := P.bind_some h
        have Hq4 := Lib.hid hq
        have H4 := Lib.hid h
        clear hq h
        obtain ⟨Y3c0, Y3c1, Y3c2, Y3c3, Y3f0, Y3f1, Y3f2, Y3f3, Y3z⟩ := Y3.out.c4
        go_wp2_with fail
        refine (ihE 0 pb s3 _ q4 (by omega) (S3.out.below (by go_grown)) Hq4.out).mono ?_
        rintro e w4 he
        rcases H4.out with ⟨n, rfl, rfl⟩ | ⟨a4, s4, rfl, h⟩
        · obtain ⟨rfl, hg⟩ := he
          have G4 := Lib.hid (G3.out.step (by go_grown) hg)
          clear hg
          go_wp2_with fail
          exact ⟨rfl, rfl, G4.out.pre⟩
        obtain ⟨_, rfl, ⟨A4, m4, n4, rfl, he⟩, hs, hg⟩ := he
        have S4 := Lib.hid hs
        have G4 := Lib.hid (G3.out.step (by go_grown) hg)
        have Y4 := Lib.hid ((Y3.out.below (by go_grown)).gr hg (by omega))
        have E4 := Lib.hid (he.mono (ok' := (w2.heap.size < ·)) (fun b _ hb => by have := G3.out.size; simp at hb this ⊢; omega))
        clear he
        clear hs hg
        try clear c0 c1 c2 c3 f0 f1 f2 f3 hz
        obtain ⟨c0, c1, c2, c3, f0, f1, f2, f3, hz⟩ := res4 hlt G4.out
        obtain ⟨q5, hq, h⟩ := P.bind_some h
        have Hq5 := Lib.hid hq
        have H5 := Lib.hid h
        clear hq h
        obtain ⟨Y4c0, Y4c1, Y4c2, Y4c3, Y4f0, Y4f1, Y4f2, Y4f3, Y4z⟩ := Y4.out.c4
        go_wp2_with fail
        have hwy : w.heap.size < w2.heap.size := by have := G2.out.size; simp at this; omega
        have G4b := Lib.hid (((G4.out).setCell (p := ⟨w2.heap.size, 0, none⟩) (Or.inl (by simp; omega)) (.int .i64 3)).setCell (p := ⟨w2.heap.size, 3, none⟩) (Or.inl (by simp; omega)) (.slice (some ⟨w4.heap.size, 0, none⟩) 1 1))
        have S4b := Lib.hid (S4.out.gr (((Gr.refl (· ≤ pb) w4).setCell (p := ⟨w2.heap.size, 0, none⟩) (Or.inr (by simp; omega)) (.int .i64 3)).setCell (p := ⟨w2.heap.size, 3, none⟩) (Or.inr (by simp; omega)) (.slice (some ⟨w4.heap.size, 0, none⟩) 1 1)))
        have K4b := Lib.hid (((Gr.refl (w2.heap.size < ·) w4).setCell (p := ⟨w2.heap.size, 0, none⟩) (Or.inr (by simp)) (.int .i64 3)).setCell (p := ⟨w2.heap.size, 3, none⟩) (Or.inr (by simp)) (.slice (some ⟨w4.heap.size, 0, none⟩) 1 1))
        have J4b := Lib.hid (((Gr.refl (· ≠ w2.heap.size) w4).setCell (p := ⟨w2.heap.size, 0, none⟩) (Or.inr (by simp)) (.int .i64 3)).setCell (p := ⟨w2.heap.size, 3, none⟩) (Or.inr (by simp)) (.slice (some ⟨w4.heap.size, 0, none⟩) 1 1))
        have Y4b := Lib.hid (((Y4.out).set 0 (.int .i64 3) (by simp)).set 3 (.slice (some ⟨w4.heap.size, 0, none⟩) 1 1) (by simp))
        have E4b := Lib.hid ((exC_one (E4.out.gr K4b.out) 3 t 0 64 (B := w4.heap.size) (by simp) (by have := Y4.out.lt; omega)).mono (ok' := (w.heap.size < ·)) (fun b _ hb => by have hb : w2.heap.size < b := hb; show w.heap.size < b; omega))
        refine (must_calls pb s4 _ (S4b.out.below (by go_grown)) _ [[93]] (rdk_t1 _ [93] _ (by simp) (by omega)) q5 Hq5.out).mono ?_
        rintro e w5 he
        rcases H5.out with ⟨n, rfl, rfl⟩ | ⟨a5, s5, rfl, h⟩
        · obtain ⟨rfl, hg⟩ := he
          have G5 := Lib.hid (G4b.out.step (by go_grown) hg)
          clear hg
          go_wp2_with fail
          exact ⟨rfl, rfl, G5.out.pre⟩
        obtain ⟨_, rfl, rfl, hs, hg⟩ := he
        have S5 := Lib.hid hs
        have G5 := Lib.hid (G4b.out.step (by go_grown) hg)
        have E4bx5 := Lib.hid ((E4b.out.gr (Gr.of_below _ (by go_grown))).gr (hg.mono fun b hb hb' => by omega))
        have Y5 := Lib.hid ((Y4b.out.below (by go_grown)).gr hg (by omega))
        clear hs hg
        try clear c0 c1 c2 c3 f0 f1 f2 f3 hz
        obtain ⟨c0, c1, c2, c3, f0, f1, f2, f3, hz⟩ := res4 hlt G5.out
        injection h with h
        subst h
        obtain ⟨Y5c0, Y5c1, Y5c2, Y5c3, Y5f0, Y5f1, Y5f2, Y5f3, Y5z⟩ := Y5.out.c4
        go_wp2_with fail
        try simp only [Exit.inBlock, Exit.then]
        refine bodyPost_ret (by simp [results, Tryz.results163, go_sem, c0, c1, c2, c3, f0, f1, f2, f3]; try rfl) rfl ?_
        exact pend4 hlt G5.out S5.out (.mk 3 t 0 [a4]) _ _ _ E4bx5.out _ _ _ _
      | false =>
        simp only [if_neg (show ¬ (false = true) by simp)] at h
        injection h with h
        subst h
        obtain ⟨Y3c0, Y3c1, Y3c2, Y3c3, Y3f0, Y3f1, Y3f2, Y3f3, Y3z⟩ := Y3.out.c4
        go_wp2_with fail
        try simp only [Exit.inBlock, Exit.then]
        refine bodyPost_ret (by simp [results, Tryz.results163, go_sem, c0, c1, c2, c3, f0, f1, f2, f3]; try rfl) rfl ?_
        exact pend4 hlt G3.out S3.out (.mk 2 t 0 []) none 0 0 (exC_leaf _ _ _ _ _ _ _) _ _ _ _
    · rw [if_neg h1] at h
      have t1 : (k == 1) = false := by simp; omega
      clear HNE h3 h1
      have S3 := S0x
      have G3 := G0x
      go_wp2_with fail
      refine (is_calls pb s0 _ (S3.out.below (by go_grown)) _ [[40]] (rd_t1 _ [40] _ (by simp))).mono ?_
      rintro e w4 ⟨rfl, hb⟩
      have hg := And.intro hb (Gr.of_below (· ≠ pb) hb)
      clear hb
      have S4 := Lib.hid ((S3.out.below (by go_grown)).below hg.1)
      have G4 := Lib.hid (G3.out.step (by go_grown) hg.2)
      generalize isOf [[40]] s0 = b at h ⊢
      clear hg
      try clear c0 c1 c2 c3 f0 f1 f2 f3 hz
      obtain ⟨c0, c1, c2, c3, f0, f1, f2, f3, hz⟩ := res4 hlt G4.out
      cases b with
      | true =>
        simp only [if_true] at h
        have H := Lib.hid h
        clear h
        go_wp2_with fail
        refine (ihW pb s0 _ r (S4.out.below (by go_grown)) H.out).mono ?_
        rintro e w5 he
        cases r with
        | bad n =>
          obtain ⟨rfl, hg⟩ := he
          have G5 := Lib.hid (G4.out.step (by go_grown) hg)
          clear hg
          go_wp2_with fail
          exact ⟨rfl, rfl, G5.out.pre⟩
        | ok a s5 =>
          obtain ⟨_, rfl, ⟨A, m, n, rfl, he⟩, hs, hg⟩ := he
          have S5 := Lib.hid hs
          have G5 := Lib.hid (G4.out.step (by go_grown) hg)
          have E5 := Lib.hid (he.mono (ok' := (w.heap.size < ·)) (fun b _ hb => by have := G4.out.size; simp at hb this ⊢; omega))
          clear hs hg he
          try clear c0 c1 c2 c3 f0 f1 f2 f3 hz
          obtain ⟨c0, c1, c2, c3, f0, f1, f2, f3, hz⟩ := res4 hlt G5.out
          go_wp2_with fail
          try simp only [Exit.inBlock, Exit.then]
          refine bodyPost_ret (by simp [results, Tryz.results163, go_sem, c0, c1, c2, c3, f0, f1, f2, f3]; try rfl) rfl ?_
          exact pend4 hlt G5.out S5.out a _ _ _ E5.out _ _ _ _
      | false =>
        simp only [if_neg (show ¬ (false = true) by simp)] at h
        rw [bind_eat] at h
        have B5 := Lib.hid h
        clear h
        go_wp2_with fail
        refine (eat_text pb s0 _ (S4.out.below (by go_grown)) [115, 113, 114, 116]).mono ?_
        rintro e w5 ⟨rfl, hs, hg⟩
        have h := B5.out
        generalize hbq : isOf [[115, 113, 114, 116]] s0 = b at h ⊢
        have Hb5 := Lib.hid hbq
        clear hbq
        generalize eatS [115, 113, 114, 116] s0 = s5 at h hs
        have S5 := Lib.hid hs
        have G5 := Lib.hid (G4.out.step (by go_grown) hg)
        clear hs hg
        try clear c0 c1 c2 c3 f0 f1 f2 f3 hz
        obtain ⟨c0, c1, c2, c3, f0, f1, f2, f3, hz⟩ := res4 hlt G5.out
        cases b with
        | true =>
          simp only [if_true] at h
          obtain ⟨q6, hq, h⟩ := P.bind_some h
          have Hq6 := Lib.hid hq
          have H6 := Lib.hid h
          clear hq h
          go_wp2_with fail
          refine (ihW pb s5 _ q6 (S5.out.below (by go_grown)) Hq6.out).mono ?_
          rintro e w6 he
          rcases H6.out with ⟨n, rfl, rfl⟩ | ⟨a6, s6, rfl, h⟩
          · obtain ⟨rfl, hg⟩ := he
            have G6 := Lib.hid (G5.out.step (by go_grown) hg)
            clear hg
            go_wp2_with fail
            exact ⟨rfl, rfl, G6.out.pre⟩
          obtain ⟨_, rfl, ⟨A6, m6, n6, rfl, he⟩, hs, hg⟩ := he
          have S6 := Lib.hid hs
          have G6 := Lib.hid (G5.out.step (by go_grown) hg)
          have E6 := Lib.hid (he.mono (ok' := (w.heap.size < ·)) (fun b _ hb => by have := G5.out.size; simp at hb this ⊢; omega))
          clear he
          clear hs hg
          try clear c0 c1 c2 c3 f0 f1 f2 f3 hz
          obtain ⟨c0, c1, c2, c3, f0, f1, f2, f3, hz⟩ := res4 hlt G6.out
          injection h with h
          subst h
          go_wp2_with fail
          refine (with_calls 6 _ _ _ _).mono ?_
          rintro e wz ⟨rfl, hb⟩
          have EZ := Lib.hid ((exC_one E6.out (6) [] 0 _ rfl hz).gr (Gr.of_below _ hb))
          have SZ := Lib.hid ((S6.out.below (bel_alloc _ _)).below hb)
          have GZ := Lib.hid ((G6.out.alloc _).trans (Gr.of_below _ hb))
          clear hb c0 c1 c2 c3 f0 f1 f2 f3 hz
          obtain ⟨c0, c1, c2, c3, f0, f1, f2, f3, hz⟩ := res4 hlt GZ.out
          go_wp2_with fail
          try simp only [Exit.inBlock, Exit.then]
          refine bodyPost_ret (by simp [results, Tryz.results163, go_sem, c0, c1, c2, c3, f0, f1, f2, f3]; try rfl) rfl ?_
          exact pend4 hlt GZ.out SZ.out (withE (6) [a6]) _ _ _ EZ.out _ _ _ _
        | false =>
          simp only [if_neg (show ¬ (false = true) by simp)] at h
          rw [bind_eat] at h
          have B6 := Lib.hid h
          clear h
          go_wp2_with fail
          refine (eat_text pb s5 _ (S5.out.below (by go_grown)) [97, 98, 115]).mono ?_
          rintro e w6 ⟨rfl, hs, hg⟩
          have h := B6.out
          generalize hbq : isOf [[97, 98, 115]] s5 = b at h ⊢
          have Hb6 := Lib.hid hbq
          clear hbq
          generalize eatS [97, 98, 115] s5 = s6 at h hs
          have S6 := Lib.hid hs
          have G6 := Lib.hid (G5.out.step (by go_grown) hg)
          clear hs hg
          try clear c0 c1 c2 c3 f0 f1 f2 f3 hz
          obtain ⟨c0, c1, c2, c3, f0, f1, f2, f3, hz⟩ := res4 hlt G6.out
          cases b with
          | true =>
            simp only [if_true] at h
            obtain ⟨q7, hq, h⟩ := P.bind_some h
            have Hq7 := Lib.hid hq
            have H7 := Lib.hid h
            clear hq h
            go_wp2_with fail
            refine (ihW pb s6 _ q7 (S6.out.below (by go_grown)) Hq7.out).mono ?_
            rintro e w7 he
            rcases H7.out with ⟨n, rfl, rfl⟩ | ⟨a7, s7, rfl, h⟩
            · obtain ⟨rfl, hg⟩ := he
              have G7 := Lib.hid (G6.out.step (by go_grown) hg)
              clear hg
              go_wp2_with fail
              exact ⟨rfl, rfl, G7.out.pre⟩
            obtain ⟨_, rfl, ⟨A7, m7, n7, rfl, he⟩, hs, hg⟩ := he
            have S7 := Lib.hid hs
            have G7 := Lib.hid (G6.out.step (by go_grown) hg)
            have E7 := Lib.hid (he.mono (ok' := (w.heap.size < ·)) (fun b _ hb => by have := G6.out.size; simp at hb this ⊢; omega))
            clear he
            clear hs hg
            try clear c0 c1 c2 c3 f0 f1 f2 f3 hz
            obtain ⟨c0, c1, c2, c3, f0, f1, f2, f3, hz⟩ := res4 hlt G7.out
            injection h with h
            subst h
            go_wp2_with fail
            refine (with_calls 5 _ _ _ _).mono ?_
            rintro e wz ⟨rfl, hb⟩
            have EZ := Lib.hid ((exC_one E7.out (5) [] 0 _ rfl hz).gr (Gr.of_below _ hb))
            have SZ := Lib.hid ((S7.out.below (bel_alloc _ _)).below hb)
            have GZ := Lib.hid ((G7.out.alloc _).trans (Gr.of_below _ hb))
            clear hb c0 c1 c2 c3 f0 f1 f2 f3 hz
            obtain ⟨c0, c1, c2, c3, f0, f1, f2, f3, hz⟩ := res4 hlt GZ.out
            go_wp2_with fail
            try simp only [Exit.inBlock, Exit.then]
            refine bodyPost_ret (by simp [results, Tryz.results163, go_sem, c0, c1, c2, c3, f0, f1, f2, f3]; try rfl) rfl ?_
            exact pend4 hlt GZ.out SZ.out (withE (5) [a7]) _ _ _ EZ.out _ _ _ _
          | false =>
            simp only [if_neg (show ¬ (false = true) by simp), pCastW] at h
            have HI := fun (e : isOf typesL s6 = true) => isOf_ne e
            have HJ := Lib.hid HI
            clear HI
            go_wp2_with fail
            refine (is_calls pb s6 _ (S6.out.below (by go_grown)) _ typesL (rd_t3 _ sInt sFloat sDouble _ (by simp))).mono ?_
            rintro e w7 ⟨rfl, hb⟩
            have S7 := Lib.hid ((S6.out.below (by go_grown)).below hb)
            have G7 := Lib.hid (G6.out.step (by go_grown) (Gr.of_below (· ≠ pb) hb))
            clear hb
            generalize isOf typesL s6 = b at h HJ ⊢
            cases b with
            | true =>
              simp only [if_true] at h
              rw [bind_pass] at h
              obtain ⟨q9, hq, h⟩ := P.bind_some h
              have Hq9 := Lib.hid hq
              have H9 := Lib.hid h
              clear hq h
              go_wp2_with fail
              refine (pass_calls pb s6 _ (S7.out.below (by go_grown)) (HJ.out (by trivial))).mono ?_
              rintro e w8 ⟨rfl, hs, hg⟩
              have G8 := Lib.hid (G7.out.step (by go_grown) hg)
              have S8 := Lib.hid hs
              clear hs hg
              try clear c0 c1 c2 c3 f0 f1 f2 f3 hz
              obtain ⟨c0, c1, c2, c3, f0, f1, f2, f3, hz⟩ := res4 hlt G8.out
              generalize (hd s6).text = t at *
              generalize drop1 s6 = s8 at *
              obtain ⟨k8, hk8⟩ : ∃ k, k = typeOf t := ⟨_, rfl⟩
              have H := H9.out
              rw [← hk8] at H
              have Hk := Lib.hid hk8
              have HH := Lib.hid H
              clear H hk8 H9
              go_wp2_with fail
              refine (typeOf_calls t _).mono ?_
              rintro e w8b ⟨rfl, hb⟩
              rw [← Hk.out]
              have S8b := Lib.hid (S8.out.below hb)
              have G8b := Lib.hid (G8.out.trans (Gr.of_below _ hb))
              clear hb
              have H9 := HH
              go_wp2_with fail
              refine (ihW pb s8 _ q9 (S8b.out.below (by go_grown)) Hq9.out).mono ?_
              rintro e w9 he
              rcases H9.out with ⟨n, rfl, rfl⟩ | ⟨a9, s9, rfl, h⟩
              · obtain ⟨rfl, hg⟩ := he
                have G9 := Lib.hid (G8b.out.step (by go_grown) hg)
                clear hg
                go_wp2_with fail
                exact ⟨rfl, rfl, G9.out.pre⟩
              obtain ⟨_, rfl, ⟨A9, m9, n9, rfl, he⟩, hs, hg⟩ := he
              have S9 := Lib.hid hs
              have G9 := Lib.hid (G8b.out.step (by go_grown) hg)
              have E9 := Lib.hid (he.mono (ok' := (w.heap.size < ·)) (fun b _ hb => by have := G8b.out.size; simp at hb this ⊢; omega))
              clear he
              clear hs hg
              try clear c0 c1 c2 c3 f0 f1 f2 f3 hz
              obtain ⟨c0, c1, c2, c3, f0, f1, f2, f3, hz⟩ := res4 hlt G9.out
              injection h with h
              subst h
              go_wp2_with fail
              have hzn : ¬ w.heap.size = w9.heap.size := by omega
              try simp only [Exit.inBlock, Exit.then]
              refine bodyPost_ret (by simp [results, Tryz.results163, go_sem, c0, c1, c2, c3, f0, f1, f2, f3, hz, hzn]; try rfl) rfl ?_
              rw [Hk.out]
              exact pend4a hlt G9.out S9.out (.mk 7 [] (typeOf t) [a9]) _ _ _ (exC_one E9.out 7 [] _ _ rfl hz) _ _ _ _
            | false =>
              simp only [if_neg (show ¬ (false = true) by simp), P.fail] at h
              injection h with h
              subst h
              go_wp2_with fail
              refine (fail_calls pb s6 _ (S7.out.below (by go_grown))).mono ?_
              rintro e w8 ⟨rfl, rfl⟩
              go_wp2_with fail
              exact ⟨rfl, rfl, G7.out.pre⟩
end
end Go.Proofs.YtokdcfehnhifhaaGreatDoor
