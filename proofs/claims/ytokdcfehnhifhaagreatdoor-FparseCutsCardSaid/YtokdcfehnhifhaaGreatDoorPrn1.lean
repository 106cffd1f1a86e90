/- The printer's text that grows: a strings.Builder inside a struct. What the printer holds, as a text. Signs, words and strength; a program's text in plain words. Expressions are written. Expressions are written: calls, and all of it. -/
import Derived.Test.YtokdcfehnhifhaaGreatDoorPar1
import Derived.Test.YtokdcfehnhifhaaGreatDoorPar2
import Derived.Test.YtokdcfehnhifhaaGreatDoorChk1
import Derived.Shelf.Strings.BuilderK
namespace Go.Proofs.YtokdcfehnhifhaaGreatDoor
/-! The printer's text that grows: a strings.Builder inside a struct. -/
section
set_option linter.unusedVariables false
set_option linter.unusedSimpArgs false
open Go.RowKit

/-- The printer in block pb holds this text; whatever it makes lies from B on. -/
def PrS (B pb : Nat) (t : List UInt8) (w : World) : Prop := Lib.IsBuilderF 75 5 B pb (Lib.byteCells t) w
/-- Which blocks stay as they are while it writes: those ahead of it, and all but its own that hold no bytes. -/
def KO (B pb : Nat) (w : World) (k : Nat) : Prop := k < B ∨ (k ≠ pb ∧ ∃ o, w.heap[k]? = some o ∧ ∀ c fz, o ≠ .cells c 5 fz)
def Pg1 (B pb : Nat) (w w' : World) : Prop := Gr (KO B pb w) w w'
section
variable {B pb : Nat} {w w1 w2 : World}
theorem KO.up {k : Nat} (h : KO B pb w k) (hg : Pg1 B pb w w1) (hk : k < w.heap.size) : KO B pb w1 k := by
  rcases h with h | ⟨h1, o, h2, h3⟩
  · exact Or.inl h
  · exact Or.inr ⟨h1, o, by rw [hg.block k hk (Or.inr ⟨h1, o, h2, h3⟩)]; exact h2, h3⟩
theorem Pg1.refl (B pb : Nat) (w : World) : Pg1 B pb w w := Gr.refl _ _
theorem Pg1.trans (h : Pg1 B pb w w1) (k : Pg1 B pb w1 w2) : Pg1 B pb w w2 := Gr.later h k (fun b hb hk => hk.up h hb)
theorem Pg1.of_below (B pb : Nat) (h : Below w.heap.size w w1) : Pg1 B pb w w1 := Gr.of_below _ h
theorem Pg1.low (h : Pg1 B pb w w1) : Gr (· < B) w w1 := h.mono fun k _ hk => Or.inl hk
theorem Pg1.of_kept (hb : Below B w w1) (ho : Lib.OthersKept 5 (some pb) w w1) : Pg1 B pb w w1 := by
  refine ⟨hb.os, hb.tape, hb.output, hb.size, fun k hk h => ?_⟩
  rcases h with h | ⟨h1, o, h2, h3⟩
  · exact hb.block k h
  · rw [h2]; exact ho k o h2 (by simpa using h1) h3
/-- A block that is made now stays. -/
theorem KO.new {cs : Array Value} {t : TypeId} (ht : t ≠ 5) (hp : pb < w.heap.size) : KO B pb (w.alloc (.cells cs t)) w.heap.size := by
  refine Or.inr ⟨by omega, .cells cs t (0, 0), by unfold World.alloc; simp, fun c fz h => ?_⟩
  injection h with _ h _
  exact ht h
theorem PrS.lt {t : List UInt8} (h : PrS B pb t w) : pb < w.heap.size := by
  rcases h with h | h <;> exact h.lt
theorem PrS.le {t : List UInt8} (h : PrS B pb t w) : B ≤ pb := by
  rcases h with h | h <;> exact h.1
theorem PrS.alloc {t : List UInt8} (h : PrS B pb t w) (o : Obj) : PrS B pb t (w.alloc o) := Lib.IsBuilderF.alloc h o
theorem builder_below {p : Value} {bs : List Value} (h : Lib.BuilderAtF 75 5 B pb p bs w) (hb : Below w.heap.size w w1) : Lib.BuilderAtF 75 5 B pb p bs w1 := by
  have hlt := h.lt
  obtain ⟨hB, v, hbk, hown, hne⟩ := h
  exact ⟨hB, v, by rw [hb.block pb hlt]; exact hbk, hown.kept (grownBy_of_below hb) (by cases hv : v.ownBlock <;> simp), hne⟩
theorem PrS.below {t : List UInt8} (h : PrS B pb t w) (hb : Below w.heap.size w w1) : PrS B pb t w1 :=
  h.elim (fun x => .inl (builder_below x hb)) (fun x => .inr (builder_below x hb))
end

set_option maxHeartbeats 1000000 in
set_option maxRecDepth 20000 in
theorem check_used (b : Nat) (w : World) (h0 : w.cell? ⟨b, 0, none⟩ = some (.pointer (some ⟨b, 0, none⟩))) :
    Calls Tryz.prog 114 #[.pointer (some ⟨b, 0, none⟩)] w fun e w' => e = .returned (.tuple #[]) ∧ w' = w := by
  have hs : (Tryz.prog.info? 73).map (·.size) = some 2 := by kernel_rfl
  obtain ⟨j, hj, _⟩ := Option.map_eq_some_iff.1 hs
  clear hs
  go_enter Tryz.func114, Tryz.ntmps114
  go_wp2
  rw [Lib.run_neq_ptr_same w _ Tryz.underlying70 hj]
  go_wp2
  go_end0
  exact ⟨rfl, rfl⟩
set_option maxHeartbeats 1000000 in
set_option maxRecDepth 20000 in
theorem check_fresh (b : Nat) (w : World) (h0 : w.cell? ⟨b, 0, none⟩ = some (.pointer none)) (hsh : w.shape? b = some (75, 2)) (hfz : w.frozen? ⟨b, 0, none⟩ = false) :
    Calls Tryz.prog 114 #[.pointer (some ⟨b, 0, none⟩)] w fun e w' => e = .returned (.tuple #[]) ∧ w' = w.setCell ⟨b, 0, none⟩ (.pointer (some ⟨b, 0, none⟩)) := by
  have hs : (Tryz.prog.info? 73).map (·.size) = some 2 := by kernel_rfl
  obtain ⟨j, hj, hjs⟩ := Option.map_eq_some_iff.1 hs
  have hl : liesAt Tryz.prog Tryz.prog.depth 75 (2 / Tryz.prog.cellsOf 75) 0 73 1 = true := by kernel_rfl
  clear hs
  go_enter Tryz.func114, Tryz.ntmps114
  go_wp2
  rw [Lib.run_to_unsafe w ⟨b, 0, none⟩ Tryz.underlying70 Tryz.underlying157 hj (by rw [hjs]; decide) hsh (Nat.zero_lt_succ 1)]
  simp only [Result.andThen]
  rw [Oper.upon_value]
  go_wp2
  rw [run_callFunc_extern Tryz.func144 (by kernel_rfl) (by kernel_rfl) (by kernel_rfl) (e := Extern.AbiNoEscape.same) (by kernel_rfl)]
  rw [Lib.run_noEscape]
  simp only [Result.andThen]
  rw [Oper.upon_value]
  go_wp2
  rw [Lib.run_from_unsafe w ⟨b, 0, none⟩ Tryz.underlying157 Tryz.underlying70 hj hsh hl]
  simp only [Result.andThen]
  rw [Oper.upon_value]
  go_wp2
  go_end0
  exact ⟨rfl, rfl⟩
theorem check_calls (B b : Nat) (t : List UInt8) (w : World) (h : PrS B b t w) :
    Calls Tryz.prog 114 #[.pointer (some ⟨b, 0, none⟩)] w fun e w' => e = .returned (.tuple #[]) ∧ (Lib.BuilderAtF 75 5 B b (.pointer (some ⟨b, 0, none⟩)) (Lib.byteCells t) w' ∧ Below B w w' ∧ Lib.OthersKept 5 (some b) w w') := by
  rcases h with h | h
  · refine (check_fresh b w h.cell0 h.shape h.frozen0).mono ?_
    rintro e w' ⟨rfl, rfl⟩
    exact ⟨rfl, h.used _, (Below.refl B w).setCell (p := ⟨b, 0, none⟩) h.1 _, (Lib.OthersKept.refl _ _ w).setCell ⟨b, 0, none⟩ rfl _⟩
  · refine (check_used b w h.cell0).mono ?_
    rintro e w' ⟨rfl, rfl⟩
    exact ⟨rfl, h, Below.refl B _, Lib.OthersKept.refl _ _ _⟩
theorem u8Info : (Tryz.prog.info? 5).map (fun i => (i.zero, i.size, i.bytes)) = some (some (.int .u8 0), 1, 1) := by kernel_rfl
set_option maxHeartbeats 2000000 in
set_option maxRecDepth 20000 in
/-- A text goes in behind what is there. -/
theorem write_calls (B b : Nat) (t : List UInt8) (s : ByteArray) (w : World) (h : PrS B b t w) (hlen : t.length + s.size ≤ 140737488355328) :
    Calls Tryz.prog 73 #[.pointer (some ⟨b, 0, none⟩), .string s] w fun e w' => e = .returned (.tuple #[.int .i64 s.size, .nilIface]) ∧ PrS B b (t ++ s.data.toList) w' ∧ Pg1 B b w w' := by
  obtain ⟨i0, hi, hz0, hz1, hz2⟩ := info_parts u8Info
  have hBw : B ≤ w.heap.size := by have := h.lt; have := h.le; omega
  have hne5 : (75 : TypeId) ≠ 5 := by decide
  go_enter Tryz.func73, Tryz.ntmps73
  go_wp2_with (go_at_call 114; refine (check_calls B b t _ h).mono ?_)
  rintro e w1 ⟨rfl, h1, hb1, hk1⟩
  obtain ⟨hB, v, hbk, hown, hne⟩ := h1
  have c0 : w1.cell? ⟨b, 0, none⟩ = some (.pointer (some ⟨b, 0, none⟩)) := by rw [Lib.cell_of_heap hbk]; rfl
  have c1 : w1.cell? ⟨b, 1, none⟩ = some v := by rw [Lib.cell_of_heap hbk]; rfl
  go_wp2_with (at_builtin; refine Lib.wpList_append_own_stringF _ rfl _ _ 71 9 rfl B 5 i0 Tryz.underlying71 Tryz.underlying9 hi hz0 hz1 hz2 _ _ _ rfl hown s rfl ?c3 ?c4 ?c5 ?_)
  case c3 => rw [Lib.byteCells_length]; unfold maxLen; omega
  case c4 => rw [Lib.byteCells_length]; omega
  case c5 => have := hb1.size; omega
  intro v' w2 hown' hgrow _
  have hlt : b < w1.heap.size := by
    rcases Nat.lt_or_ge b w1.heap.size with h' | h'
    · exact h'
    · simp [Array.getElem?_eq_none h'] at hbk
  have hb2 : w2.heap[b]? = some (.cells #[.pointer (some ⟨b, 0, none⟩), v] 75 (0, 0)) := by
    rw [hgrow.block b hlt (fun e => hne e.symm)]
    exact hbk
  have d0 : w2.cell? ⟨b, 0, none⟩ = some (.pointer (some ⟨b, 0, none⟩)) := by rw [Lib.cell_of_heap hb2]; rfl
  have d1 : w2.cell? ⟨b, 1, none⟩ = some v := by rw [Lib.cell_of_heap hb2]; rfl
  have f1 : w2.frozen? ⟨b, 1, none⟩ = false := Lib.frozen_of_heap hb2 1
  obtain ⟨ao, n', cap, rfl⟩ : ∃ ao n' cap, v' = .slice ao n' cap := by
    rcases hown'.2 with ⟨hv, _⟩ | ⟨g, cap, cur, fz, hv, _⟩
    · exact ⟨_, _, _, hv⟩
    · exact ⟨_, _, _, hv⟩
  have hx : Lib.byteCells t ++ Lib.strCells s = Lib.byteCells (t ++ s.data.toList) := by rw [Lib.byteCells_append, Lib.strCells_eq]
  have hl : (Lib.byteCells t).length + s.size = (Lib.byteCells (t ++ s.data.toList)).length := by rw [Lib.byteCells_length, Lib.byteCells_length, List.length_append, Lib.size_eq]
  rw [hx, hl] at hown'
  have Hown := Lib.hid hown'
  clear hown' hx hl
  go_wp2
  go_ret2
  refine ⟨rfl, Or.inr ?_, Pg1.of_kept ?_ ((hk1.grown hgrow (Lib.ownsRowF_kind hown)).setCell ⟨b, 1, none⟩ rfl _)⟩
  · exact Lib.BuilderAtF.put (T := 75) (e := 5) hB hb2 Hown.out hne5
  · exact (hb1.grown hgrow (by have := hb1.size; omega) (fun k hk => (hown.lt k hk).1)).setCell (p := ⟨b, 1, none⟩) hB _
theorem flat_split {ts : List (List UInt8)} {q : Nat} (h : q < ts.length) : (ts.take q).flatten ++ ts[q] = (ts.take (q + 1)).flatten := by
  rw [List.take_succ_eq_append_getElem h, List.flatten_append]
  simp
theorem flat_le (ts : List (List UInt8)) (q : Nat) : (ts.take q).flatten.length ≤ ts.flatten.length := by
  conv => rhs; rw [← List.take_append_drop q ts, List.flatten_append, List.length_append]
  omega
set_option maxHeartbeats 1000000 in
theorem put_calls (B b : Nat) (t : List UInt8) (ts : List (List UInt8)) (v : Value) (w : World) (h : PrS B b t w) (hv : RdK (KO B b w) w v ts.length 1 (ts.map strV)) (hlen : t.length + ts.flatten.length ≤ 140737488355328) :
    Calls Tryz.prog 30 #[.pointer (some ⟨b, 0, none⟩), v] w fun e w' => e = .returned (.tuple #[]) ∧ PrS B b (t ++ ts.flatten) w' ∧ Pg1 B b w w' := by
  obtain ⟨A, c, rfl⟩ := hv.slice
  have hn := hv.le
  have Hs := Lib.hid h
  have Hv := Lib.hid hv
  clear h
  clear hv
  go_enter Tryz.func30, Tryz.ntmps30
  go_wp2_with fail
  go_loopw [8] (fun k W => ∃ q : Nat, k = .int .i64 q ∧ q ≤ ts.length ∧ PrS B b (t ++ (ts.take q).flatten) W ∧ Pg1 B b w W) (fun k _ => ts.length - (intOf k).toNat)
  case atStart => exact ⟨0, rfl, by omega, by simpa using Hs.out, Pg1.refl _ _ _⟩
  case round =>
    obtain ⟨q, rfl, hq, hs, hg⟩ := hrel
    by_cases hlt : q < ts.length
    · obtain ⟨b', off, c', hsl, hle, hok, hbl, hc⟩ := Hv.out.pos (by omega)
      injection hsl with hA hn' hc'
      subst hA hc'
      have g0 : wr.cell? ⟨b', off + q, none⟩ = some (.string ⟨(ts[q]).toArray⟩) := by
        rw [hg.cell (p := ⟨b', off + q, none⟩) hbl hok]; exact hc q _ (strs_get hlt)
      have hl1 := flat_split hlt
      have hl2 := flat_le ts (q + 1)
      rw [← hl1, List.length_append] at hl2
      clear hc hn'
      have Hs' := Lib.hid hs
      have Hg := Lib.hid hg
      have H1 := Lib.hid hl1
      clear hs
      clear hg
      clear hl1
      go_wp2_with fail
      refine (write_calls B b _ _ _ Hs'.out (by rw [List.length_append, show (⟨(ts[q]).toArray⟩ : ByteArray).size = (ts[q]).length by simp [ByteArray.size]]; omega)).mono ?_
      rintro e w1 ⟨rfl, hs1, hg1⟩
      simp only [List.append_assoc, H1.out] at hs1
      have Hg1 := Lib.hid (Hg.out.trans hg1)
      have Hs1 := Lib.hid hs1
      clear hs1
      clear hg1
      go_wp2_with fail
      go_roundw
      case rel => exact ⟨q + 1, by go_num, by omega, Hs1.out, Hg1.out⟩
      case measure => simp [intOf]; omega
    · obtain rfl : q = ts.length := by omega
      rw [List.take_length] at hs
      have Hs' := Lib.hid hs
      have Hg := Lib.hid hg
      clear hs
      clear hg
      go_wp2_with fail
      try simp only [Exit.inBlock, Exit.then]
      first | go_end0 | refine bodyPost_ret (results_none rfl _ _ _) rfl ?_
      exact ⟨rfl, Hs'.out, Hg.out⟩
end

/-! What the printer holds, as a text. -/
section
set_option linter.unusedVariables false
set_option linter.unusedSimpArgs false
open Go.RowKit

theorem us_none (W : World) (q : Option Addr) : (Builtin.unsafeString_ #[119, 3] 9 #[.pointer q, .int .i64 0]).run Tryz.prog W = .ok (.string .empty) W :=
  Lib.run_unsafeString_none W _ _ _ q
set_option maxHeartbeats 1000000 in
set_option maxRecDepth 20000 in
theorem string_some (B b : Nat) (l : List UInt8) (w : World) (h : PrS B b l w) (h0 : l ≠ []) :
    Calls Tryz.prog 34 #[.pointer (some ⟨b, 0, none⟩)] w fun e w' => e = .returned (.string ⟨l.toArray⟩) ∧ Pg1 B b w w' := by
  obtain ⟨p, hAt⟩ : ∃ p, Lib.BuilderAtF 75 5 B b p (Lib.byteCells l) w := by
    rcases h with h | h
    · exact ⟨_, h⟩
    · exact ⟨_, h⟩
  obtain ⟨hB, v, hbk, hown, hne⟩ := hAt
  have hl0 : l.length ≠ 0 := by simpa using h0
  rw [Lib.byteCells_length] at hown
  obtain ⟨g, cap, cur, fz, rfl, hbg, hg, hfz, hnc, hcm, hcs, htake⟩ : ∃ g cap cur fz, v = .slice (some ⟨g, 0, none⟩) l.length cap ∧ B ≤ g ∧ w.heap[g]? = some (.cells cur 5 fz) ∧ fz.2 ≤ l.length * 1 ∧ l.length ≤ cap ∧ cap ≤ maxLen ∧ cur.size = cap * 1 ∧ cur.toList.take (l.length * 1) = Lib.byteCells l := by
    rcases hown.2 with ⟨_, hz⟩ | ⟨g, cap, cur, fz, hv, r⟩
    · exact absurd hz hl0
    · exact ⟨g, cap, cur, fz, hv, r⟩
  have c1 : w.drew.cell? ⟨b, 1, none⟩ = some (.slice (some ⟨g, 0, none⟩) l.length cap) := by
    have : w.drew.heap[b]? = some (.cells #[p, .slice (some ⟨g, 0, none⟩) l.length cap] 75 (0, 0)) := hbk
    rw [Lib.cell_of_heap this]; rfl
  have hSD : (Builtin.unsafeSliceData_ #[71] 119 #[.slice (some ⟨g, 0, none⟩) l.length cap]).run Tryz.prog w.drew = .ok (.pointer (some ⟨g, 0, none⟩)) w.drew :=
    Lib.run_unsafeSliceData_row _ _ _ _ _ _ (by omega)
  have hUS : (Builtin.unsafeString_ #[119, 3] 9 #[.pointer (some ⟨g, 0, none⟩), .int .i64 l.length]).run Tryz.prog w.drew = .ok (.string ⟨l.toArray⟩) (w.drew.freeze ⟨g, 0, none⟩ l.length) := by
    refine Lib.run_unsafeString_row w.drew 119 3 9 5 Tryz.underlying119 (by kernel_rfl) g cur.size (by have hg' : w.drew.heap[g]? = some (.cells cur 5 fz) := hg; simp [World.shape?, hg']) l h0 (by omega) (by unfold maxLen at hcm; omega) ?_
    intro j x hx
    have := hown.cells (g := g) rfl j (.int .u8 x.toNat) (by simp [Lib.byteCells, hx])
    exact this
  clear h hne
  go_enter Tryz.func34, Tryz.ntmps34
  go_wp2
  go_region
  all_goals (go_wp2; go_ret; exact ⟨rfl, Pg1.of_kept (Lib.below_freeze (Below.drew (Below.refl B w)) (p := ⟨g, 0, none⟩) hbg _) (((Lib.OthersKept.refl _ _ w).drew).freeze ⟨g, 0, none⟩ _ ⟨cur, fz, hg⟩)⟩)
set_option maxHeartbeats 1000000 in
set_option maxRecDepth 20000 in
theorem bstr_nil (B b : Nat) (p : Value) (w : World) (hbk : w.heap[b]? = some (.cells #[p, .slice none 0 0] 75 (0, 0))) :
    Calls Tryz.prog 34 #[.pointer (some ⟨b, 0, none⟩)] w fun e w' => e = .returned (.string ⟨#[]⟩) ∧ Pg1 B b w w' := by
  have hUS := us_none
  have c1 : w.drew.cell? ⟨b, 1, none⟩ = some (.slice none 0 0) := by
    have : w.drew.heap[b]? = some (.cells #[p, .slice none 0 0] 75 (0, 0)) := hbk
    rw [Lib.cell_of_heap this]; rfl
  have hSD : (Builtin.unsafeSliceData_ #[71] 119 #[.slice none 0 0]).run Tryz.prog w.drew = .ok (.pointer none) w.drew := rfl
  go_enter Tryz.func34, Tryz.ntmps34
  go_wp2
  go_region
  all_goals (go_wp2; go_ret; exact ⟨rfl, Pg1.of_kept (Below.drew (Below.refl B w)) ((Lib.OthersKept.refl _ _ w).drew)⟩)
set_option maxHeartbeats 1000000 in
set_option maxRecDepth 20000 in
theorem string_noroom (B b g : Nat) (p : Value) (cur : Array Value) (w : World) (hBw : B ≤ w.heap.size) (hbk : w.heap[b]? = some (.cells #[p, .slice (some ⟨g, 0, none⟩) 0 0] 75 (0, 0))) (fz : Nat × Nat) (hg : w.heap[g]? = some (.cells cur 5 fz)) :
    Calls Tryz.prog 34 #[.pointer (some ⟨b, 0, none⟩)] w fun e w' => e = .returned (.string ⟨#[]⟩) ∧ Pg1 B b w w' := by
  have hUS := us_none
  have hlt : b < w.heap.size := by
    rcases Nat.lt_or_ge b w.heap.size with h' | h'
    · exact h'
    · simp [Array.getElem?_eq_none h'] at hbk
  have c1 : w.drew.cell? ⟨b, 1, none⟩ = some (.slice (some ⟨g, 0, none⟩) 0 0) := by
    have : w.drew.heap[b]? = some (.cells #[p, .slice (some ⟨g, 0, none⟩) 0 0] 75 (0, 0)) := hbk
    rw [Lib.cell_of_heap this]; rfl
  have hSD : (Builtin.unsafeSliceData_ #[71] 119 #[.slice (some ⟨g, 0, none⟩) 0 0]).run Tryz.prog w.drew = .ok (.pointer (some ⟨w.drew.heap.size, 0, none⟩)) (w.drew.alloc (.view ⟨g, 0, none⟩ 5)) :=
    Lib.run_unsafeSliceData_zero w.drew _ _ 5 Tryz.underlying119 ⟨g, 0, none⟩ 0 (5, cur.size) (by have hg' : w.drew.heap[g]? = some (.cells cur 5 fz) := hg; simp [World.shape?, hg'])
  have c2 : (w.drew.alloc (.view ⟨g, 0, none⟩ 5)).cell? ⟨b, 1, none⟩ = some (.slice (some ⟨g, 0, none⟩) 0 0) := by
    have : (w.drew.alloc (.view ⟨g, 0, none⟩ 5)).heap[b]? = _ := (Lib.alloc_old w.drew _ b hlt).trans hbk
    rw [Lib.cell_of_heap this]; rfl
  have c3 : (w.alloc (.view ⟨g, 0, none⟩ 5)).drew.cell? ⟨b, 1, none⟩ = some (.slice (some ⟨g, 0, none⟩) 0 0) := c2
  have c0 : w.cell? ⟨b, 1, none⟩ = some (.slice (some ⟨g, 0, none⟩) 0 0) := c1
  go_enter Tryz.func34, Tryz.ntmps34
  go_wp2
  go_region
  all_goals (go_wp2; go_ret; exact ⟨rfl, Pg1.of_kept ((Below.drew (Below.refl B w)).alloc hBw _) (((Lib.OthersKept.refl _ _ w).drew).alloc _)⟩)
set_option maxHeartbeats 1000000 in
set_option maxRecDepth 20000 in
theorem string_room (B b g cap : Nat) (p : Value) (w : World) (hc0 : cap ≠ 0) (hbk : w.heap[b]? = some (.cells #[p, .slice (some ⟨g, 0, none⟩) 0 cap] 75 (0, 0))) :
    Calls Tryz.prog 34 #[.pointer (some ⟨b, 0, none⟩)] w fun e w' => e = .returned (.string ⟨#[]⟩) ∧ Pg1 B b w w' := by
  have hUS := us_none
  have c1 : w.drew.cell? ⟨b, 1, none⟩ = some (.slice (some ⟨g, 0, none⟩) 0 cap) := by
    have : w.drew.heap[b]? = some (.cells #[p, .slice (some ⟨g, 0, none⟩) 0 cap] 75 (0, 0)) := hbk
    rw [Lib.cell_of_heap this]; rfl
  have hSD : (Builtin.unsafeSliceData_ #[71] 119 #[.slice (some ⟨g, 0, none⟩) 0 cap]).run Tryz.prog w.drew = .ok (.pointer (some ⟨g, 0, none⟩)) w.drew :=
    Lib.run_unsafeSliceData_row _ _ _ _ _ _ hc0
  clear hc0
  go_enter Tryz.func34, Tryz.ntmps34
  go_wp2
  go_region
  all_goals (go_wp2; go_ret; exact ⟨rfl, Pg1.of_kept (Below.drew (Below.refl B w)) ((Lib.OthersKept.refl _ _ w).drew)⟩)
theorem string_calls (B b : Nat) (l : List UInt8) (w : World) (h : PrS B b l w) :
    Calls Tryz.prog 34 #[.pointer (some ⟨b, 0, none⟩)] w fun e w' => e = .returned (.string ⟨l.toArray⟩) ∧ Pg1 B b w w' := by
  have hBw : B ≤ w.heap.size := by have := h.lt; have := h.le; omega
  cases l with
  | cons x r => exact string_some B b (x :: r) w h (by simp)
  | nil =>
    obtain ⟨p, hAt⟩ : ∃ p, Lib.BuilderAtF 75 5 B b p (Lib.byteCells []) w := by
      rcases h with h | h
      · exact ⟨_, h⟩
      · exact ⟨_, h⟩
    obtain ⟨hB, v, hbk, hown, hne⟩ := hAt
    rcases hown.2 with ⟨rfl, _⟩ | ⟨g, cap, cur, fz, rfl, hbg, hg, _, _, _, _, _⟩
    · exact bstr_nil B b p w hbk
    · by_cases hc0 : cap = 0
      · subst hc0
        exact string_noroom B b g p cur w hBw hbk fz hg
      · exact string_room B b g cap p w hc0 hbk
end

/-! Signs, words and strength; a program's text in plain words. -/
section
set_option linter.unusedVariables false
set_option linter.unusedSimpArgs false
open Go.RowKit

def signL (o : Int) : Nat → List (List (List UInt8)) → List UInt8 × Int
  | _, [] => ([], 0)
  | k, l :: r => match l.find? (fun s => opOf s == o) with | some s => (s, (k : Int) + 1) | none => signL o (k + 1) r
/-- An operator's sign, and how strong it is. -/
def signO (o : Int) : List UInt8 × Int := signL o 0 opsL
def wordOf (t : Int) : List UInt8 := if t = 1 then sInt else if t = 2 then sFloat else if t = 3 then sDouble else []
def strE (e : Ex) : Int := if e.op = 4 ∨ e.op = 20 then 6 else if 0 < (signO e.op).2 then (signO e.op).2 else 7
def inP (least s : Int) (t : List UInt8) : List UInt8 := if s < least then [40] ++ t ++ [41] else t
/-- What an expression is written as, those within being written. -/
def asmE (o : Int) (t : List UInt8) (y : Int) (ss : List Int) (ts : List (List UInt8)) : List UInt8 :=
  if o = 1 ∨ o = 2 then t
  else if o = 3 then t ++ [91] ++ ts.headD [] ++ [93]
  else if o = 4 then [45] ++ inP 6 (ss.headD 0) (ts.headD [])
  else if o = 20 then [33] ++ inP 6 (ss.headD 0) (ts.headD [])
  else if o = 6 then [115, 113, 114, 116] ++ [40] ++ ts.headD [] ++ [41]
  else if o = 5 then [97, 98, 115] ++ [40] ++ ts.headD [] ++ [41]
  else if o = 7 then wordOf y ++ [40] ++ ts.headD [] ++ [41]
  else inP (signO o).2 (ss.headD 0) (ts.headD []) ++ ([32] ++ (signO o).1 ++ [32]) ++ inP ((signO o).2 + 1) (ss.getD 1 0) (ts.getD 1 [])
mutual
def prE : Ex → List UInt8
  | .mk o t y k => asmE o t y (k.map strE) (prEs k)
def prEs : List Ex → List (List UInt8)
  | [] => []
  | e :: r => prE e :: prEs r
end
theorem prEs_map : ∀ l : List Ex, prEs l = l.map prE
  | [] => rfl
  | e :: r => by rw [prEs, prEs_map r]; rfl
theorem opsL_drop {q : Nat} (h : q < 5) : opsL.drop q = opsAt q :: opsL.drop (q + 1) := by
  have hl : opsL.length = 5 := rfl
  rw [List.drop_eq_getElem_cons (by omega)]
  simp [opsAt, List.getD_eq_getElem?_getD, List.getElem?_eq_getElem (show q < opsL.length by omega)]
theorem signL_cons (o : Int) (k : Nat) (l : List (List UInt8)) (r : List (List (List UInt8))) : signL o k (l :: r) = match l.find? (fun s => opOf s == o) with | some s => (s, (k : Int) + 1) | none => signL o (k + 1) r := rfl
set_option maxHeartbeats 2000000 in
theorem signOf_calls (o : Int) (w : World) :
    Calls Tryz.prog 118 #[.int .i64 o] w fun e w' => e = .returned (.tuple #[strV (signO o).1, .int .i64 (signO o).2]) ∧ Below w.heap.size w w' := by
  go_enter Tryz.func118, Tryz.ntmps118
  go_wp2_with fail
  refine (operators_calls _).mono ?_
  rintro e w1 ⟨⟨B, rfl, hB1, hB2, hB3⟩, hb⟩
  have Hb := Lib.hid hb
  have HB := Lib.hid hB2
  have H3 := Lib.hid hB3
  clear hb
  clear hB2
  clear hB3
  go_wp2_with fail
  go_loopw [10] (fun k W => ∃ q : Nat, k = .int .i64 q ∧ q ≤ 5 ∧ signL o q (opsL.drop q) = signO o ∧ Below w.heap.size w W ∧ Below w1.heap.size w1 W) (fun k _ => 5 - (intOf k).toNat)
  case atStart => exact ⟨0, rfl, by omega, rfl, Hb.out, Below.refl _ _⟩
  case round =>
    obtain ⟨q, rfl, hq, hs, hb0, hb1⟩ := hrel
    by_cases hlt : q < 5
    · obtain ⟨A0, n0, c0, hO1, hO2⟩ := H3.out q hlt
      obtain ⟨A', c', hsl⟩ := hO2.slice
      injection hsl with h1 hn h2
      subst h1 hn h2
      have g0 : wr.cell? ⟨B, q, none⟩ = some (.slice A0 (opsAt q).length c0) := by rw [hb1.cell (p := ⟨B, q, none⟩) HB.out]; exact hO1
      have R := Lib.hid (hO2.rd.below hb1)
      have hle := hO2.le
      rw [opsL_drop hlt, signL_cons] at hs
      have hli : (q : Int) < 5 := by omega
      have Hs := Lib.hid hs
      have Hb0 := Lib.hid hb0
      have Hb1 := Lib.hid hb1
      clear hs
      clear hb0
      clear hb1
      clear hO1 hO2
      go_wp2_with fail
      obtain ⟨wo, rfl⟩ : ∃ wo : World, wo = wr := ⟨_, rfl⟩
      go_loopw [17] (fun j W => ∃ p : Nat, j = .int .i64 p ∧ p ≤ (opsAt q).length ∧ ((opsAt q).drop p).find? (fun s => opOf s == o) = (opsAt q).find? (fun s => opOf s == o) ∧ Below wo.heap.size wo W) (fun j _ => (opsAt q).length - (intOf j).toNat)
      case atStart => exact ⟨0, rfl, by omega, rfl, Below.refl _ _⟩
      case round =>
        obtain ⟨p, rfl, hp, hf, hbw⟩ := hrel
        by_cases hlt2 : p < (opsAt q).length
        · obtain ⟨b, off, c', hsl, hle', hbl, hc⟩ := (R.out.below hbw).pos (by omega)
          injection hsl with hA hn' hc'
          subst hA hc'
          have g1 : wr.cell? ⟨b, off + p, none⟩ = some (.string ⟨((opsAt q)[p]).toArray⟩) := hc p _ (strs_get hlt2)
          rw [List.drop_eq_getElem_cons hlt2, List.find?_cons] at hf
          clear hc hn' g0
          have Hf := Lib.hid hf
          have Hbw := Lib.hid hbw
          clear hf
          clear hbw
          go_wp2_with fail
          refine (opOf_calls _ _).mono ?_
          rintro e w2 ⟨rfl, hb2⟩
          have HB2 := Lib.hid (below2 Hbw.out hb2)
          clear hb2
          cases ht : (opOf (opsAt q)[p] == o) with
          | true =>
            have Ht := Lib.hid ht
            go_wp2_with fail
            go_ret2
            have hf := Hf.out
            rw [Ht.out] at hf
            have hs := Hs.out
            rw [← hf] at hs
            simp only at hs
            exact ⟨by rw [← hs]; rfl, below2 Hb0.out HB2.out⟩
          | false =>
            have Ht := Lib.hid ht
            go_wp2_with fail
            go_roundw
            case rel => exact ⟨p + 1, by go_num, by omega, by have hf := Hf.out; rw [Ht.out] at hf; exact hf, HB2.out⟩
            case measure => simp [intOf]; omega
        · obtain rfl : p = (opsAt q).length := by omega
          have Hbw := Lib.hid hbw
          have Hf := Lib.hid hf
          clear hbw hf
          go_wp2_with fail
          go_roundw
          case rel =>
            refine ⟨q + 1, by go_num, by omega, ?_, below2 Hb0.out Hbw.out, below2 Hb1.out Hbw.out⟩
            have hf := Hf.out
            rw [List.drop_length] at hf
            have hs := Hs.out
            rw [← hf] at hs
            exact hs
          case measure => simp [intOf]; omega
    · obtain rfl : q = 5 := by omega
      have Hs := Lib.hid hs
      have Hb0 := Lib.hid hb0
      clear hs hb0 hb1
      go_wp2_with fail
      go_ret2
      exact ⟨by rw [← Hs.out]; rfl, Hb0.out⟩
theorem word_calls (t : Int) (w : World) (h0 : 0 ≤ t) (h3 : t ≤ 3) :
    Calls Tryz.prog 31 #[.int .i64 t] w fun e w' => e = .returned (strV (wordOf t)) ∧ Below w.heap.size w w' := by
  have ht : t = 0 ∨ t = 1 ∨ t = 2 ∨ t = 3 := by omega
  rcases ht with rfl | rfl | rfl | rfl
  all_goals
    go_enter Tryz.func31, Tryz.ntmps31
    go_wp2_with fail
    go_returns
    exact ⟨rfl, by go_grown⟩
theorem strength_calls (o : Int) (t : List UInt8) (y : Int) (A : Option Addr) (n c : Nat) (k : List Ex) (w : World) :
    Calls Tryz.prog 149 #[.agg #[.int .i64 o, .string ⟨t.toArray⟩, .int .i64 y, .slice A n c]] w fun e w' => e = .returned (.int .i64 (strE (.mk o t y k))) ∧ Below w.heap.size w w' := by
  have hE : strE (.mk o t y k) = if o = 4 ∨ o = 20 then 6 else if 0 < (signO o).2 then (signO o).2 else 7 := rfl
  by_cases h4 : o = 4
  · have e0 : strE (.mk o t y k) = 6 := by rw [hE, if_pos (Or.inl h4)]
    subst h4
    have E0 := Lib.hid e0
    clear e0
    clear hE
    go_enter Tryz.func149, Tryz.ntmps149
    go_wp2_with fail
    go_returns
    exact ⟨by rw [E0.out]; rfl, by go_grown⟩
  · by_cases h20 : o = 20
    · have e0 : strE (.mk o t y k) = 6 := by rw [hE, if_pos (Or.inr h20)]
      subst h20
      have E0 := Lib.hid e0
      clear e0
      clear hE
      go_enter Tryz.func149, Tryz.ntmps149
      go_wp2_with fail
      go_returns
      exact ⟨by rw [E0.out]; rfl, by go_grown⟩
    · have t4 : (o == 4) = false := by simpa using h4
      have t20 : (o == 20) = false := by simpa using h20
      rw [if_neg (by omega)] at hE
      have E0 := Lib.hid hE
      clear hE
      clear h4 h20
      go_enter Tryz.func149, Tryz.ntmps149
      go_wp2_with fail
      refine (signOf_calls _ _).mono ?_
      rintro e w1 ⟨rfl, hb⟩
      have HB := Lib.hid (below2 (bel_alloc w _) hb)
      clear hb
      generalize signO o = so at *
      obtain ⟨s1, s2⟩ := so
      by_cases hp : 0 < s2
      · have e1 := E0.out
        rw [if_pos hp] at e1
        have E1 := Lib.hid e1
        clear e1
        go_wp2_with fail
        go_returns
        exact ⟨by rw [E1.out]; rfl, HB.out⟩
      · have e1 := E0.out
        rw [if_neg hp] at e1
        have hp' : s2 ≤ 0 := by omega
        have E1 := Lib.hid e1
        clear e1
        go_wp2_with fail
        go_returns
        exact ⟨by rw [E1.out]; rfl, HB.out⟩
end

/-! Expressions are written. -/
section
set_option linter.unusedVariables false
set_option linter.unusedSimpArgs false
open Go.RowKit

set_option maxHeartbeats 1000000 in
theorem put_deferred (B b : Nat) (t : List UInt8) (ts : List (List UInt8)) (v : Value) (w : World) (h : PrS B b t w) (hv : RdK (KO B b w) w v ts.length 1 (ts.map strV)) (hlen : t.length + ts.flatten.length ≤ 140737488355328) :
    CallsD Tryz.prog 30 #[.pointer (some ⟨b, 0, none⟩), v] .returning w fun e u' w' => u' = .returning ∧ (e = .returned (.tuple #[]) ∧ PrS B b (t ++ ts.flatten) w' ∧ Pg1 B b w w') := by
  obtain ⟨A, c, rfl⟩ := hv.slice
  have hn := hv.le
  have Hs := Lib.hid h
  have Hv := Lib.hid hv
  clear h
  clear hv
  refine callsD_of_wp (R := fun e w' => e = .returned (.tuple #[]) ∧ PrS B b (t ++ ts.flatten) w' ∧ Pg1 B b w w') Tryz.func30 rfl ?_
  simp only [Tryz.ntmps30, List.size_toArray, List.length_cons, List.length_nil, Nat.reduceAdd, Nat.reduceSub, Array.replicate_succ, Array.replicate_zero, List.push_toArray, List.append_toArray, List.nil_append, List.cons_append]
  go_wp2_with fail
  go_loopw [8] (fun k W => ∃ q : Nat, k = .int .i64 q ∧ q ≤ ts.length ∧ PrS B b (t ++ (ts.take q).flatten) W ∧ Pg1 B b w W) (fun k _ => ts.length - (intOf k).toNat)
  case atStart => exact ⟨0, rfl, by omega, by simpa using Hs.out, Pg1.refl _ _ _⟩
  case round =>
    obtain ⟨q, rfl, hq, hs, hg⟩ := hrel
    by_cases hlt : q < ts.length
    · obtain ⟨b', off, c', hsl, hle, hok, hbl, hc⟩ := Hv.out.pos (by omega)
      injection hsl with hA hn' hc'
      subst hA hc'
      have g0 : wr.cell? ⟨b', off + q, none⟩ = some (.string ⟨(ts[q]).toArray⟩) := by
        rw [hg.cell (p := ⟨b', off + q, none⟩) hbl hok]; exact hc q _ (strs_get hlt)
      have hl1 := flat_split hlt
      have hl2 := flat_le ts (q + 1)
      rw [← hl1, List.length_append] at hl2
      clear hc hn'
      have Hs' := Lib.hid hs
      have Hg := Lib.hid hg
      have H1 := Lib.hid hl1
      clear hs
      clear hg
      clear hl1
      go_wp2_with fail
      refine (write_calls B b _ _ _ Hs'.out (by rw [List.length_append, show (⟨(ts[q]).toArray⟩ : ByteArray).size = (ts[q]).length by simp [ByteArray.size]]; omega)).mono ?_
      rintro e w1 ⟨rfl, hs1, hg1⟩
      simp only [List.append_assoc, H1.out] at hs1
      have Hg1 := Lib.hid (Hg.out.trans hg1)
      have Hs1 := Lib.hid hs1
      clear hs1
      clear hg1
      go_wp2_with fail
      go_roundw
      case rel => exact ⟨q + 1, by go_num, by omega, Hs1.out, Hg1.out⟩
      case measure => simp [intOf]; omega
    · obtain rfl : q = ts.length := by omega
      rw [List.take_length] at hs
      have Hs' := Lib.hid hs
      have Hg := Lib.hid hg
      clear hs
      clear hg
      go_wp2_with fail
      try simp only [Exit.inBlock, Exit.then]
      first | go_end0 | refine bodyPost_ret (results_none rfl _ _ _) rfl ?_
      exact ⟨rfl, Hs'.out, Hg.out⟩
theorem rdk_put {B pb n : Nat} {W : World} {xs : List (List UInt8)} {cs : Array Value} (hp : pb < W.heap.size) (hn : xs.length = n) (hc : cs.toList = xs.map strV) (h0 : 0 < n) (hle : n ≤ 1000) :
    RdK (KO B pb (W.alloc (.cells cs 9))) (W.alloc (.cells cs 9)) (.slice (some ⟨W.heap.size, 0, none⟩) n n) xs.length 1 (xs.map strV) := by
  refine (rdl_texts W W xs cs 9 rfl hn hc h0 hle (Nat.le_refl _)).mono fun b hb hb' => ?_
  simp at hb
  obtain rfl : b = W.heap.size := by omega
  exact KO.new (by decide) hp
theorem put_new (B pb : Nat) (t : List UInt8) (xs : List (List UInt8)) (cs : Array Value) (n B1 : Nat) (W : World) (hS : PrS B pb t W) (hn : xs.length = n) (hc : cs.toList = xs.map strV) (h0 : 0 < n) (hle : n ≤ 1000) (hB1 : B1 = W.heap.size)
    (hlen : t.length + xs.flatten.length ≤ 140737488355328) :
    Calls Tryz.prog 30 #[.pointer (some ⟨pb, 0, none⟩), .slice (some ⟨B1, 0, none⟩) n n] (W.alloc (.cells cs 9)) fun e w' => e = .returned (.tuple #[]) ∧ PrS B pb (t ++ xs.flatten) w' ∧ Pg1 B pb W w' := by
  subst hB1
  refine (put_calls B pb t xs _ _ (hS.alloc _) (rdk_put hS.lt hn hc h0 hle) hlen).mono ?_
  rintro e w' ⟨rfl, h1, h2⟩
  exact ⟨rfl, h1, (Pg1.of_below B pb (bel_alloc _ _)).trans h2⟩
mutual
/-- Each expression within is right. -/
def Ex.okE : Ex → Prop
  | .mk o t y k => aloneB o t y k.length = true ∧ exsOk k
def exsOk : List Ex → Prop
  | [] => True
  | e :: r => e.okE ∧ exsOk r
end
theorem exsOk_get : ∀ {l : List Ex} (h : exsOk l) (k : Nat) (hk : k < l.length), l[k].okE
  | e :: r, h, 0, _ => by simp only [exsOk] at h; exact h.1
  | e :: r, h, k + 1, hk => by simp only [exsOk] at h; exact exsOk_get h.2 k (by simpa using hk)
def WrEnd (B pb : Nat) (t x : List UInt8) (w : World) (e : Ending) (w' : World) : Prop := e = .returned (.tuple #[]) ∧ PrS B pb (t ++ x) w' ∧ Pg1 B pb w w'
abbrev exV (e : Ex) (A : Option Addr) (c : Nat) : Value := .agg #[.int .i64 e.op, .string ⟨e.text.toArray⟩, .int .i64 e.ty, .slice A e.kids.length c]
def ECalls (N : Nat) : Prop := ∀ (e : Ex), e.sz ≤ N → e.okE → ∀ (B pb : Nat) (t : List UInt8) (A : Option Addr) (c : Nat) (w : World), PrS B pb t w →
  ExC (· < B) w e [.int .i64 e.op, .string ⟨e.text.toArray⟩, .int .i64 e.ty, .slice A e.kids.length c] → t.length + (prE e).length ≤ 140737488355328 →
  Calls Tryz.prog 75 #[.pointer (some ⟨pb, 0, none⟩), .agg #[.int .i64 e.op, .string ⟨e.text.toArray⟩, .int .i64 e.ty, .slice A e.kids.length c]] w (WrEnd B pb t (prE e) w)
def ICalls (N : Nat) : Prop := ∀ (e : Ex), e.sz ≤ N → e.okE → ∀ (least : Int) (B pb : Nat) (t : List UInt8) (A : Option Addr) (c : Nat) (w : World), PrS B pb t w →
  ExC (· < B) w e [.int .i64 e.op, .string ⟨e.text.toArray⟩, .int .i64 e.ty, .slice A e.kids.length c] → t.length + (inP least (strE e) (prE e)).length ≤ 140737488355328 →
  Calls Tryz.prog 116 #[.pointer (some ⟨pb, 0, none⟩), .int .i64 least, .agg #[.int .i64 e.op, .string ⟨e.text.toArray⟩, .int .i64 e.ty, .slice A e.kids.length c]] w (WrEnd B pb t (inP least (strE e) (prE e)) w)
theorem KO.go {B pb k : Nat} {w w1 : World} (h : KO B pb w k) (hg : Pg1 B pb w w1) : KO B pb w1 k := by
  rcases h with h | ⟨h1, o, h2, h3⟩
  · exact Or.inl h
  · exact KO.up (Or.inr ⟨h1, o, h2, h3⟩) hg (Array.getElem?_eq_some_iff.1 h2).1
set_option maxHeartbeats 2000000 in
theorem in_of (N : Nat) (ih : ECalls N) : ICalls N := by
  intro e hN hok least B pb t A c w hS he hlen
  have hlt := hS.lt
  have hSg := strength_calls e.op e.text e.ty A e.kids.length c e.kids
  have hse : strE (.mk e.op e.text e.ty e.kids) = strE e := rfl
  rw [hse] at hSg
  have Sg := Lib.hid hSg
  have X := Lib.hid he
  have S0 := Lib.hid hS
  have Ok := Lib.hid hok
  have Bx := Lib.hid (Has.new w #[.int .i64 e.op, .string ⟨e.text.toArray⟩, .int .i64 e.ty, .slice A e.kids.length c] 64 rfl)
  clear hSg hse he hS hok
  by_cases hl : strE e < least
  · have hi : inP least (strE e) (prE e) = [40] ++ prE e ++ [41] := if_pos hl
    rw [hi] at hlen ⊢
    simp only [List.length_append, List.length_cons, List.length_nil] at hlen
    have hd : decide (strE e < least) = true := by simpa using hl
    clear hi
    go_enter_defers Tryz.func116, Tryz.ntmps116
    go_wp2_with fail
    refine (Sg.out _).mono ?_
    rintro e1 w1 ⟨rfl, hb⟩
    have S1 := Lib.hid (((S0.out.alloc _).below hb))
    have K := Lib.hid (KO.new (B := B) (pb := pb) (w := w) (cs := #[.int .i64 e.op, .string ⟨e.text.toArray⟩, .int .i64 e.ty, .slice A e.kids.length c]) (t := 64) (by decide) hlt)
    have G1 := Lib.hid (Pg1.of_below B pb hb)
    clear hb
    obtain ⟨c0, c1, c2, c3, f0, f1, f2, f3, hz⟩ := (Bx.out.gr G1.out K.out).c4
    go_wp2_with fail
    refine (put_new B pb _ [[40]] #[.string ⟨#[40]⟩] 1 _ _ S1.out rfl rfl (by decide) (by decide) rfl (by simp; omega)).mono ?_
    rintro e2 w2 ⟨rfl, hs, hg⟩
    have S2 := Lib.hid hs
    have G2 := Lib.hid (G1.out.trans hg)
    clear hs hg c0 c1 c2 c3 f0 f1 f2 f3 hz
    obtain ⟨c0, c1, c2, c3, f0, f1, f2, f3, hz⟩ := (Bx.out.gr G2.out K.out).c4
    go_wp2_with fail
    refine (ih e hN Ok.out B pb _ A c _ (S2.out.alloc _) ((X.out.gr (Gr.of_below _ (bel_alloc _ _))).gr (G2.out.trans (Pg1.of_below B pb (bel_alloc _ _))).low) (by simp; omega)).mono ?_
    rintro e3 w3 ⟨rfl, hs, hg⟩
    go_wp2_with fail
    refine leaves_cons (f := 30) (args := #[.pointer (some ⟨pb, 0, none⟩), .slice (some ⟨w2.heap.size, 0, none⟩) 1 1]) (by simp) (by simp [go_sem]) ?_
    refine (put_deferred B pb _ [[41]] _ _ hs (((rdk_put (cs := #[.string ⟨#[41]⟩]) S2.out.lt rfl rfl (by decide) (by decide)).gr hg).mono (fun b _ hk => hk.go hg)) (by simp; omega)).mono ?_
    rintro e4 u4 w4 ⟨rfl, rfl, hs4, hg4⟩
    refine ⟨_, results_none rfl _ _ _, rfl, ?_, ?_⟩
    · simpa using hs4
    · exact (Pg1.of_below B pb (bel_alloc _ _)).trans (G2.out.trans ((Pg1.of_below B pb (bel_alloc _ _)).trans (hg.trans hg4)))
  · have hi : inP least (strE e) (prE e) = prE e := if_neg hl
    rw [hi] at hlen ⊢
    have hd : decide (strE e < least) = false := by simpa using hl
    clear hi
    go_enter_defers Tryz.func116, Tryz.ntmps116
    go_wp2_with fail
    refine (Sg.out _).mono ?_
    rintro e1 w1 ⟨rfl, hb⟩
    have S1 := Lib.hid (((S0.out.alloc _).below hb))
    have K := Lib.hid (KO.new (B := B) (pb := pb) (w := w) (cs := #[.int .i64 e.op, .string ⟨e.text.toArray⟩, .int .i64 e.ty, .slice A e.kids.length c]) (t := 64) (by decide) hlt)
    have G1 := Lib.hid (Pg1.of_below B pb hb)
    clear hb
    obtain ⟨c0, c1, c2, c3, f0, f1, f2, f3, hz⟩ := (Bx.out.gr G1.out K.out).c4
    go_wp2_with fail
    refine (ih e hN Ok.out B pb _ A c _ S1.out ((X.out.gr (Gr.of_below _ (bel_alloc _ _))).gr G1.out.low) hlen).mono ?_
    rintro e3 w3 ⟨rfl, hs, hg⟩
    go_wp2_with fail
    refine ⟨_, results_none rfl _ _ _, rfl, hs, ?_⟩
    exact (Pg1.of_below B pb (bel_alloc _ _)).trans (G1.out.trans hg)
end

/-! Expressions are written: calls, and all of it. -/
section
set_option linter.unusedVariables false
set_option linter.unusedSimpArgs false
open Go.RowKit

def CCalls (N : Nat) : Prop := ∀ (e : Ex), e.sz ≤ N → e.okE → ∀ (nm : List UInt8) (B pb : Nat) (t : List UInt8) (A : Option Addr) (c : Nat) (w : World), PrS B pb t w →
  ExC (· < B) w e [.int .i64 e.op, .string ⟨e.text.toArray⟩, .int .i64 e.ty, .slice A e.kids.length c] → t.length + (nm ++ [40] ++ prE e ++ [41]).length ≤ 140737488355328 →
  Calls Tryz.prog 117 #[.pointer (some ⟨pb, 0, none⟩), .string ⟨nm.toArray⟩, .agg #[.int .i64 e.op, .string ⟨e.text.toArray⟩, .int .i64 e.ty, .slice A e.kids.length c]] w (WrEnd B pb t (nm ++ [40] ++ prE e ++ [41]) w)
set_option maxHeartbeats 2000000 in
theorem call_of (N : Nat) (ih : ECalls N) : CCalls N := by
  intro e hN hok nm B pb t A c w hS he hlen
  have hlt := hS.lt
  simp only [List.length_append, List.length_cons, List.length_nil] at hlen
  have X := Lib.hid he
  have S1 := Lib.hid (hS.alloc (.cells #[.int .i64 e.op, .string ⟨e.text.toArray⟩, .int .i64 e.ty, .slice A e.kids.length c] 64))
  have Ok := Lib.hid hok
  have Bx := Lib.hid (Has.new w #[.int .i64 e.op, .string ⟨e.text.toArray⟩, .int .i64 e.ty, .slice A e.kids.length c] 64 rfl)
  have K := Lib.hid (KO.new (B := B) (pb := pb) (w := w) (cs := #[.int .i64 e.op, .string ⟨e.text.toArray⟩, .int .i64 e.ty, .slice A e.kids.length c]) (t := 64) (by decide) hlt)
  have G1 := Lib.hid (Pg1.refl B pb (w.alloc (.cells #[.int .i64 e.op, .string ⟨e.text.toArray⟩, .int .i64 e.ty, .slice A e.kids.length c] 64)))
  clear he hS hok
  go_enter Tryz.func117, Tryz.ntmps117
  go_wp2_with fail
  refine (put_new B pb _ [nm, [40]] #[.string ⟨nm.toArray⟩, .string ⟨#[40]⟩] 2 _ _ S1.out rfl rfl (by decide) (by decide) (World.size_alloc _ _).symm (by simp; omega)).mono ?_
  rintro e w2 ⟨rfl, hs, hg⟩
  have S2 := Lib.hid hs
  have G2 := Lib.hid (G1.out.trans hg)
  clear hs hg
  try clear c0 c1 c2 c3 f0 f1 f2 f3 hz
  obtain ⟨c0, c1, c2, c3, f0, f1, f2, f3, hz⟩ := (Bx.out.gr G2.out K.out).c4
  go_wp2_with fail
  refine (ih e hN Ok.out B pb _ A c _ S2.out ((X.out.gr (Gr.of_below _ (bel_alloc _ _))).gr G2.out.low) (by simp; omega)).mono ?_
  rintro e w3 ⟨rfl, hs, hg⟩
  have S3 := Lib.hid hs
  have G3 := Lib.hid (G2.out.trans hg)
  clear hs hg
  try clear c0 c1 c2 c3 f0 f1 f2 f3 hz
  obtain ⟨c0, c1, c2, c3, f0, f1, f2, f3, hz⟩ := (Bx.out.gr G3.out K.out).c4
  go_wp2_with fail
  refine (put_new B pb _ [[41]] #[.string ⟨#[41]⟩] 1 _ _ S3.out rfl rfl (by decide) (by decide) rfl (by simp; omega)).mono ?_
  rintro e w4 ⟨rfl, hs, hg⟩
  have S4 := Lib.hid hs
  have G4 := Lib.hid (G3.out.trans hg)
  clear hs hg
  try clear c0 c1 c2 c3 f0 f1 f2 f3 hz
  obtain ⟨c0, c1, c2, c3, f0, f1, f2, f3, hz⟩ := (Bx.out.gr G4.out K.out).c4
  go_wp2_with fail
  first | go_end0 | refine bodyPost_ret (results_none rfl _ _ _) rfl ?_
  refine ⟨rfl, ?_, (Pg1.of_below B pb (bel_alloc _ _)).trans G4.out⟩
  simpa using S4.out
end
end Go.Proofs.YtokdcfehnhifhaaGreatDoor
