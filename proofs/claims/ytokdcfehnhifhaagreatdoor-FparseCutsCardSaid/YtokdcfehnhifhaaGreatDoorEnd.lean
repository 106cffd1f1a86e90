/- The texts of what is parsed are those of tokens. Parse: what a text says. Print: a program's text. What must be whatever is asked; whether a program is empty; how many points it has. -/
import Derived.Test.YtokdcfehnhifhaaGreatDoorPur
import Derived.Test.YtokdcfehnhifhaaGreatDoorChk1
import Derived.Test.YtokdcfehnhifhaaGreatDoorPar4
import Derived.Test.YtokdcfehnhifhaaGreatDoorChk4
import Derived.Test.YtokdcfehnhifhaaGreatDoorRef
import Derived.Test.YtokdcfehnhifhaaGreatDoorPrn2
import Derived.Test.YtokdcfehnhifhaaGreatDoorPrn3
import Derived.IntWalk
import Derived.RegionTactic
import Derived.ChangeAlike
namespace Go.Proofs.YtokdcfehnhifhaaGreatDoor
/-! The texts of what is parsed are those of tokens. -/
section
set_option linter.unusedVariables false
set_option linter.unusedSimpArgs false
open Go.RowKit

def Tx (s : PS) : Prop := ∀ t ∈ s.toks, t.text.length ≤ maxLen
/-- What it hands back is so, if tokens' texts are short. -/
def PT {α : Type} (Q : α → Prop) (m : P α) : Prop := ∀ s a s', Tx s → m s = some (.ok a s') → Q a ∧ Tx s'
theorem pt_ret {α : Type} {Q : α → Prop} {a : α} (h : Q a) : PT Q (P.ret a) := by
  intro s b s' ht h
  injection h with h
  injection h with h1 h
  subst h1 h
  exact ⟨by assumption, ht⟩
theorem pt_fail {α : Type} {Q : α → Prop} : PT Q (P.fail : P α) := by
  intro s b s' ht h
  injection h with h
  cases h
theorem pt_none {α : Type} {Q : α → Prop} : PT Q (fun _ => none : P α) := by intro s a s' _ h; cases h
theorem pt_bind {α β : Type} {R : α → Prop} {Q : β → Prop} {x : P α} {f : α → P β} (hx : PT R x) (hf : ∀ a, R a → PT Q (f a)) : PT Q (x.bind f) := by
  intro s b s' ht h
  obtain ⟨q, hq, ⟨n, rfl, hr⟩ | ⟨a, s1, rfl, hr⟩⟩ := P.bind_some h
  · cases hr
  · obtain ⟨h1, h2⟩ := hx _ _ _ ht hq
    exact hf a h1 _ _ _ h2 hr
theorem tx_drop {s : PS} (h : Tx s) : Tx (drop1 s) := fun t ht => h t (List.mem_of_mem_tail ht)
theorem tx_hd {s : PS} (h : Tx s) : (hd s).text.length ≤ maxLen := by
  unfold hd
  cases e : s.toks with
  | nil => simp
  | cons t r => exact h t (by rw [e]; simp)
theorem pt_pass : PT (fun a : List UInt8 => a.length ≤ maxLen) pPass := by
  intro s a s' ht h
  injection h with h
  injection h with h1 h
  subst h1 h
  exact ⟨tx_hd ht, tx_drop ht⟩
theorem pt_take (ks : List Int) : PT (fun a : List UInt8 => a.length ≤ maxLen) (pTake ks) := by
  intro s a s' ht h
  unfold pTake at h
  split at h
  · exact pt_pass _ _ _ ht h
  · injection h with h; cases h
theorem pt_eat (t : List UInt8) : PT (fun _ => True) (pEat t) := by
  intro s a s' ht h
  unfold pEat at h
  split at h
  · injection h with h; injection h with _ h; subst h; exact ⟨trivial, tx_drop ht⟩
  · injection h with h; injection h with _ h; subst h; exact ⟨trivial, ht⟩
theorem pt_if {β : Type} {Q : β → Prop} (t : List UInt8) {x y : P β} (hx : PT Q x) (hy : PT Q y) : PT Q ((pEat t).bind fun b => if b = true then x else y) :=
  pt_bind (pt_eat t) fun b _ => by cases b <;> simpa
theorem pt_must : ∀ l, PT (fun _ => True) (pMust l)
  | [] => pt_ret trivial
  | t :: r => pt_if t (pt_must r) pt_fail
theorem pt_in : PT (fun _ => True) pIn := by
  intro s a s' ht h
  injection h with h; injection h with _ h
  subst h
  exact ⟨trivial, ht⟩
theorem pt_out : PT (fun _ => True) pOut := by
  intro s a s' ht h
  injection h with h; injection h with _ h
  subst h
  exact ⟨trivial, ht⟩
theorem ex_tx {o : Int} {t : List UInt8} {y : Int} {k : List Ex} (h1 : t.length ≤ maxLen) (h2 : exsTx k) : (Ex.mk o t y k).tx := by simp only [Ex.tx]; exact ⟨h1, h2⟩
theorem exs_tx0 : exsTx [] := by simp only [exsTx]
theorem exs_tx1 {e : Ex} (h : e.tx) : exsTx [e] := by simp only [exsTx]; exact ⟨h, trivial⟩
theorem exs_tx2 {e e2 : Ex} (h : e.tx) (h2 : e2.tx) : exsTx [e, e2] := by simp only [exsTx]; exact ⟨h, h2, trivial⟩
theorem nil_tx : ([] : List UInt8).length ≤ maxLen := by simp
theorem pt_cast {x : P Ex} (hx : PT Ex.tx x) : PT Ex.tx (pCastW x) := by
  intro s a s' ht h
  unfold pCastW at h
  split at h
  · exact pt_bind pt_pass (fun t _ => pt_bind hx fun e he => pt_ret (ex_tx nil_tx (exs_tx1 he))) _ _ _ ht h
  · injection h with h; cases h
theorem txs (f : Nat) : (∀ l, PT Ex.tx (pExpr f l)) ∧ (∀ l e, e.tx → PT Ex.tx (pRest f l e)) ∧ PT Ex.tx (pUnary f) ∧ PT Ex.tx (pPrimary f) ∧ PT Ex.tx (pWithin f) := by
  induction f with
  | zero =>
    refine ⟨fun l => ?_, fun l e _ => ?_, ?_, ?_, ?_⟩
    · unfold pExpr; exact pt_none
    · unfold pRest; exact pt_none
    · unfold pUnary; exact pt_none
    · unfold pPrimary; exact pt_none
    · unfold pWithin; exact pt_none
  | succ f ih =>
    obtain ⟨h1, h2, h3, h4, h5⟩ := ih
    refine ⟨fun l => ?_, fun l e he => ?_, ?_, ?_, ?_⟩
    · unfold pExpr
      split
      · exact h3
      · exact pt_bind (h1 _) fun e he => h2 _ _ he
    · unfold pRest
      intro s a s' ht h
      simp only at h
      split at h
      · exact pt_bind pt_pass (fun t _ => pt_bind (h1 _) fun e2 h2' => h2 _ _ (ex_tx nil_tx (exs_tx2 he h2'))) _ _ _ ht h
      · injection h with h; injection h with h1' h; subst h h1'; exact ⟨he, ht⟩
    · unfold pUnary
      exact pt_if _ (pt_bind h3 fun e he => pt_ret (ex_tx nil_tx (exs_tx1 he))) (pt_if _ (pt_bind h3 fun e he => pt_ret (ex_tx nil_tx (exs_tx1 he))) h4)
    · unfold pPrimary
      intro s a s' ht h
      simp only at h
      split at h
      · exact pt_bind pt_pass (fun t h => pt_ret (ex_tx h exs_tx0)) _ _ _ ht h
      · split at h
        · exact pt_bind pt_pass (fun t h => pt_if _ (pt_bind (h1 _) fun e he => pt_bind (pt_must _) fun _ _ => pt_ret (ex_tx h (exs_tx1 he))) (pt_ret (ex_tx h exs_tx0))) _ _ _ ht h
        · split at h
          · exact h5 _ _ _ ht h
          · exact pt_if _ (pt_bind h5 fun e he => pt_ret (ex_tx nil_tx (exs_tx1 he))) (pt_if _ (pt_bind h5 fun e he => pt_ret (ex_tx nil_tx (exs_tx1 he))) (pt_cast h5)) _ _ _ ht h
    · unfold pWithin
      exact pt_bind (pt_must _) fun _ _ => pt_bind pt_in fun _ _ => pt_bind (h1 _) fun e he => pt_bind (pt_must _) fun _ _ => pt_bind pt_out fun _ _ => pt_ret he
theorem pt_numeral : PT Ex.tx pNumeral := pt_bind (pt_take _) fun t h => pt_ret (ex_tx h exs_tx0)
theorem pt_bound : PT Ex.tx pBound := pt_if _ (pt_bind pt_numeral fun e he => pt_ret (ex_tx nil_tx (exs_tx1 he))) pt_numeral
theorem pt_condition (f : Nat) : PT Ex.tx (pCondition f) := pt_bind (pt_must _) fun _ _ => pt_bind ((txs f).1 _) fun e he => pt_bind (pt_must _) fun _ _ => pt_ret he
theorem no_tx : Ex.no.tx := ex_tx nil_tx exs_tx0
theorem st_tx {d : Int} {n : List UInt8} {ix : List Ex} {v l h : Ex} {t e : List St} (h1 : n.length ≤ maxLen) (h2 : exsTx ix) (h3 : v.tx) (h4 : l.tx) (h5 : h.tx) (h6 : stsTx t) (h7 : stsTx e) : (St.mk d n ix v l h t e).tx := by
  simp only [St.tx]; exact ⟨h1, h2, h3, h4, h5, h6, h7⟩
theorem sts_tx0 : stsTx [] := by simp only [stsTx]
theorem sts_snoc : ∀ {l : List St} {x : St}, stsTx l → x.tx → stsTx (l ++ [x])
  | [], x, h, hx => by simp only [List.nil_append, stsTx]; exact ⟨hx, trivial⟩
  | s :: r, x, h, hx => by simp only [stsTx, List.cons_append] at h ⊢; exact ⟨h.1, sts_snoc h.2 hx⟩
theorem txS (f : Nat) : PT St.tx (pStmt f) ∧ PT stsTx (pBlock f) ∧ ∀ acc, stsTx acc → PT stsTx (pStmts f acc) := by
  induction f with
  | zero =>
    refine ⟨?_, ?_, fun acc _ => ?_⟩
    · unfold pStmt; exact pt_none
    · unfold pBlock; exact pt_none
    · unfold pStmts; exact pt_none
  | succ f ih =>
    obtain ⟨h1, h2, h3⟩ := ih
    have hE := ((txs f).1 0)
    refine ⟨?_, ?_, fun acc ha => ?_⟩
    · unfold pStmt
      refine pt_if _ (pt_bind (pt_take _) fun n hn => pt_bind (pt_must _) fun _ _ => pt_bind pt_bound fun l hl => pt_bind (pt_must _) fun _ _ => pt_bind pt_bound fun h hh => pt_bind (pt_must _) fun _ _ => pt_ret (st_tx hn exs_tx0 no_tx hl hh sts_tx0 sts_tx0)) ?_
      refine pt_if _ (pt_bind (pt_condition f) fun e he => pt_bind h2 fun t ht => pt_if _ (pt_bind h2 fun u hu => pt_ret (st_tx nil_tx exs_tx0 he no_tx no_tx ht hu)) (pt_ret (st_tx nil_tx exs_tx0 he no_tx no_tx ht sts_tx0))) ?_
      refine pt_if _ (pt_bind (pt_condition f) fun e he => pt_bind h2 fun t ht => pt_ret (st_tx nil_tx exs_tx0 he no_tx no_tx ht sts_tx0)) ?_
      exact pt_bind (pt_take _) fun n hn => pt_if _ (pt_bind hE fun i hi => pt_bind (pt_must _) fun _ _ => pt_bind (pt_must _) fun _ _ => pt_bind hE fun e he => pt_bind (pt_must _) fun _ _ => pt_ret (st_tx hn (exs_tx1 hi) he no_tx no_tx sts_tx0 sts_tx0)) (pt_bind (pt_must _) fun _ _ => pt_bind hE fun e he => pt_bind (pt_must _) fun _ _ => pt_ret (st_tx hn exs_tx0 he no_tx no_tx sts_tx0 sts_tx0))
    · unfold pBlock
      exact pt_bind (pt_must _) fun _ _ => h3 _ sts_tx0
    · unfold pStmts
      exact pt_if _ (pt_ret ha) (pt_bind h1 fun x hx => h3 _ (sts_snoc ha hx))
def DsTx (l : List De) : Prop := ∀ d ∈ l, d.name.length ≤ maxLen
theorem pt_odd (t : List UInt8) : PT (fun _ => True) (pOdd t) := by
  intro s a s' ht h
  injection h with h; injection h with _ h
  subst h
  exact ⟨trivial, ht⟩
theorem pt_decl : PT (fun d : De => d.name.length ≤ maxLen) pDecl := by
  unfold pDecl
  exact pt_bind pt_pass fun ty _ => pt_bind (pt_take _) fun n hn => pt_if _ (pt_bind (pt_take _) fun t _ => pt_bind (pt_odd _) fun c _ => pt_bind (pt_must _) fun _ _ => pt_bind (pt_must _) fun _ _ => pt_ret hn) (pt_bind (pt_must _) fun _ _ => pt_ret hn)
theorem pt_decls (f : Nat) : ∀ acc, DsTx acc → PT DsTx (pDecls f acc) := by
  induction f with
  | zero => intro acc _; unfold pDecls; exact pt_none
  | succ f ih =>
    intro acc ha s a s' ht h
    unfold pDecls at h
    try simp only at h
    split at h
    · exact pt_bind pt_decl (fun d hd => ih _ (fun x hx => by rcases List.mem_append.1 hx with hx | hx; exact ha x hx; rw [List.mem_singleton.1 hx]; exact hd)) _ _ _ ht h
    · injection h with h; injection h with h1 h; subst h h1; exact ⟨ha, ht⟩
theorem pt_body (f k : Nat) : ∀ acc, stsTx acc → PT stsTx (pBody f k acc) := by
  induction k with
  | zero => intro acc _; unfold pBody; exact pt_none
  | succ k ih =>
    intro acc ha s a s' ht h
    unfold pBody at h
    try simp only at h
    split at h
    · injection h with h; injection h with h1 h; subst h h1; exact ⟨ha, ht⟩
    · exact pt_bind (txS f).1 (fun x hx => ih _ (sts_snoc ha hx)) _ _ _ ht h
theorem pt_whole (f : Nat) : PT (fun p : Pg => DsTx p.decls ∧ stsTx p.body) (pWhole f) :=
  pt_bind (pt_decls f [] (fun d hd => by cases hd)) fun ds hd => pt_bind (pt_body f f [] sts_tx0) fun b hb => pt_ret ⟨hd, hb⟩

/-! Where it gives up a token of its own stands, or none. -/
def PB {α : Type} (m : P α) : Prop := ∀ s n, m s = some (.bad n) → n ≤ s.toks.length
theorem pb_ret {α : Type} (a : α) : PB (P.ret a) := by intro s n h; injection h with h; cases h
theorem pb_fail {α : Type} : PB (P.fail : P α) := by intro s n h; injection h with h; injection h with h; omega
theorem pb_none {α : Type} : PB (fun _ => none : P α) := by intro s n h; cases h
theorem pb_bind {α β : Type} {x : P α} {f : α → P β} (hx : PB x) (hl : PLe x) (hf : ∀ a, PB (f a)) : PB (x.bind f) := by
  intro s n h
  obtain ⟨q, hq, ⟨m, rfl, hr⟩ | ⟨a, s1, rfl, hr⟩⟩ := P.bind_some h
  · injection hr with hr; subst hr; exact hx _ _ hq
  · exact Nat.le_trans (hf a _ _ hr) (hl _ _ _ hq)
theorem pb_pass : PB pPass := by intro s n h; injection h with h; cases h
theorem pb_take (ks : List Int) : PB (pTake ks) := by
  intro s n h
  unfold pTake at h
  split at h
  · exact pb_pass _ _ h
  · exact pb_fail _ _ h
theorem ple_take (ks : List Int) : PLe (pTake ks) := by
  intro s a s' h
  unfold pTake at h
  split at h
  · exact ple_pass _ _ _ h
  · injection h with h; cases h
theorem pb_eat (t : List UInt8) : PB (pEat t) := by
  intro s n h
  unfold pEat at h
  split at h <;> (injection h with h; cases h)
theorem pb_if {β : Type} (t : List UInt8) {x y : P β} (hx : PB x) (hy : PB y) : PB ((pEat t).bind fun b => if b = true then x else y) :=
  pb_bind (pb_eat t) (ple_eat t) fun b => by cases b <;> simpa
theorem pb_must : ∀ l, PB (pMust l)
  | [] => pb_ret ()
  | t :: r => pb_if t (pb_must r) pb_fail
theorem pb_in : PB pIn := by intro s n h; injection h with h; cases h
theorem pb_out : PB pOut := by intro s n h; injection h with h; cases h
theorem pb_cast {x : P Ex} (hx : PB x) (hl : PLe x) : PB (pCastW x) := by
  intro s n h
  unfold pCastW at h
  split at h
  · exact pb_bind pb_pass ple_pass (fun t => pb_bind hx hl fun e => pb_ret _) _ _ h
  · exact pb_fail _ _ h
theorem bads (f : Nat) : (∀ l, PB (pExpr f l)) ∧ (∀ l e, PB (pRest f l e)) ∧ PB (pUnary f) ∧ PB (pPrimary f) ∧ PB (pWithin f) := by
  induction f with
  | zero =>
    refine ⟨fun l => ?_, fun l e => ?_, ?_, ?_, ?_⟩
    · unfold pExpr; exact pb_none
    · unfold pRest; exact pb_none
    · unfold pUnary; exact pb_none
    · unfold pPrimary; exact pb_none
    · unfold pWithin; exact pb_none
  | succ f ih =>
    obtain ⟨h1, h2, h3, h4, h5⟩ := ih
    obtain ⟨l1, l2, l3, l4, l5⟩ := lens f
    refine ⟨fun l => ?_, fun l e => ?_, ?_, ?_, ?_⟩
    · unfold pExpr
      split
      · exact h3
      · exact pb_bind (h1 _) (l1 _).le fun e => h2 _ _
    · unfold pRest
      intro s n h
      try simp only at h
      split at h
      · exact pb_bind pb_pass ple_pass (fun t => pb_bind (h1 _) (l1 _).le fun e2 => h2 _ _) _ _ h
      · injection h with h; cases h
    · unfold pUnary
      exact pb_if _ (pb_bind h3 l3.le fun e => pb_ret _) (pb_if _ (pb_bind h3 l3.le fun e => pb_ret _) h4)
    · unfold pPrimary
      intro s n h
      try simp only at h
      split at h
      · exact pb_bind pb_pass ple_pass (fun t => pb_ret _) _ _ h
      · split at h
        · exact pb_bind pb_pass ple_pass (fun t => pb_if _ (pb_bind (h1 _) (l1 _).le fun e => pb_bind (pb_must _) (ple_must _) fun _ => pb_ret _) (pb_ret _)) _ _ h
        · split at h
          · exact h5 _ _ h
          · exact pb_if _ (pb_bind h5 l5.le fun e => pb_ret _) (pb_if _ (pb_bind h5 l5.le fun e => pb_ret _) (pb_cast h5 l5.le)) _ _ h
    · unfold pWithin
      exact pb_bind (pb_must _) (ple_must _) fun _ => pb_bind pb_in ple_in fun _ => pb_bind (h1 _) (l1 _).le fun e => pb_bind (pb_must _) (ple_must _) fun _ => pb_bind pb_out ple_out fun _ => pb_ret _
theorem pb_numeral : PB pNumeral := pb_bind (pb_take _) (ple_take _) fun t => pb_ret _
theorem pb_bound : PB pBound := pb_if _ (pb_bind pb_numeral plt_numeral.le fun e => pb_ret _) pb_numeral
theorem pb_condition (f : Nat) : PB (pCondition f) := pb_bind (pb_must _) (ple_must _) fun _ => pb_bind ((bads f).1 _) ((lens f).1 _).le fun e => pb_bind (pb_must _) (ple_must _) fun _ => pb_ret _
theorem badS (f : Nat) : PB (pStmt f) ∧ PB (pBlock f) ∧ ∀ acc, PB (pStmts f acc) := by
  induction f with
  | zero =>
    refine ⟨?_, ?_, fun acc => ?_⟩
    · unfold pStmt; exact pb_none
    · unfold pBlock; exact pb_none
    · unfold pStmts; exact pb_none
  | succ f ih =>
    obtain ⟨h1, h2, h3⟩ := ih
    obtain ⟨l1, l2, l3⟩ := lenS f
    have hE := ((bads f).1 0)
    have lE := ((lens f).1 0).le
    refine ⟨?_, ?_, fun acc => ?_⟩
    · unfold pStmt
      refine pb_if _ (pb_bind (pb_take _) (ple_take _) fun n => pb_bind (pb_must _) (ple_must _) fun _ => pb_bind pb_bound plt_bound.le fun l => pb_bind (pb_must _) (ple_must _) fun _ => pb_bind pb_bound plt_bound.le fun h => pb_bind (pb_must _) (ple_must _) fun _ => pb_ret _) ?_
      refine pb_if _ (pb_bind (pb_condition f) (plt_condition f).le fun e => pb_bind h2 l2.le fun t => pb_if _ (pb_bind h2 l2.le fun u => pb_ret _) (pb_ret _)) ?_
      refine pb_if _ (pb_bind (pb_condition f) (plt_condition f).le fun e => pb_bind h2 l2.le fun t => pb_ret _) ?_
      exact pb_bind (pb_take _) (ple_take _) fun n => pb_if _ (pb_bind hE lE fun i => pb_bind (pb_must _) (ple_must _) fun _ => pb_bind (pb_must _) (ple_must _) fun _ => pb_bind hE lE fun e => pb_bind (pb_must _) (ple_must _) fun _ => pb_ret _) (pb_bind (pb_must _) (ple_must _) fun _ => pb_bind hE lE fun e => pb_bind (pb_must _) (ple_must _) fun _ => pb_ret _)
    · unfold pBlock
      exact pb_bind (pb_must _) (ple_must _) fun _ => h3 _
    · unfold pStmts
      exact pb_if _ (pb_ret _) (pb_bind h1 l1.le fun x => h3 _)
theorem pb_odd (t : List UInt8) : PB (pOdd t) := by intro s n h; injection h with h; cases h
theorem ple_odd (t : List UInt8) : PLe (pOdd t) := by intro s a s' h; injection h with h; injection h with _ h; subst h; exact Nat.le_refl _
theorem pb_decl : PB pDecl := by
  unfold pDecl
  exact pb_bind pb_pass ple_pass fun ty => pb_bind (pb_take _) (ple_take _) fun n => pb_if _ (pb_bind (pb_take _) (ple_take _) fun t => pb_bind (pb_odd _) (ple_odd _) fun c => pb_bind (pb_must _) (ple_must _) fun _ => pb_bind (pb_must _) (ple_must _) fun _ => pb_ret _) (pb_bind (pb_must _) (ple_must _) fun _ => pb_ret _)
theorem pb_decls (f : Nat) : ∀ acc, PB (pDecls f acc) := by
  induction f with
  | zero => intro acc; unfold pDecls; exact pb_none
  | succ f ih =>
    intro acc s n h
    unfold pDecls at h
    try simp only at h
    split at h
    · exact pb_bind pb_decl plt_decl.le (fun d => ih _) _ _ h
    · injection h with h; cases h
theorem pb_body (f k : Nat) : ∀ acc, PB (pBody f k acc) := by
  induction k with
  | zero => intro acc; unfold pBody; exact pb_none
  | succ k ih =>
    intro acc s n h
    unfold pBody at h
    try simp only at h
    split at h
    · injection h with h; cases h
    · exact pb_bind (badS f).1 (lenS f).1.le (fun x => ih _) _ _ h
theorem ple_body (f k : Nat) : ∀ acc, PLe (pBody f k acc) := by
  induction k with
  | zero => intro acc; unfold pBody; exact none_lt.le
  | succ k ih =>
    intro acc s a s' h
    unfold pBody at h
    try simp only at h
    split at h
    · injection h with h; injection h with _ h; subst h; exact Nat.le_refl _
    · exact ple_bind (lenS f).1.le (fun x => ih _) _ _ _ h
theorem pb_whole (f : Nat) : PB (pWhole f) := pb_bind (pb_decls f _) (ple_decls f _) fun ds => pb_bind (pb_body f f _) (ple_body f f _) fun b => pb_ret _
end

/-! Parse: what a text says. -/
section
set_option linter.unusedVariables false
set_option linter.unusedSimpArgs false
open Go.RowKit

theorem go_txt (N : Nat) : ∀ (f : Nat) (l : List UInt8) (p : Nat) (ts : List Tok), l.length ≤ N → (∀ t ∈ ts, t.text.length ≤ N) → ∀ t ∈ (scanGo f l p ts).1, t.text.length ≤ N
  | 0, l, p, ts, hl, ht => by unfold scanGo; exact ht
  | f + 1, l, p, ts, hl, ht => by
    unfold scanGo
    split
    · exact ht
    · split
      · intro t h; cases h
      · split
        · intro t h; cases h
        · refine go_txt N f _ _ _ (by rw [List.length_drop]; omega) (fun t h => ?_)
          rcases List.mem_append.1 h with h | h
          · exact ht t h
          · rw [List.mem_singleton.1 h]
            show (l.take _).length ≤ N
            rw [List.length_take]
            omega
theorem scan_txt (l : List UInt8) : ∀ t ∈ (scan l).1, t.text.length ≤ 8192 := by
  unfold scan
  split
  · intro t h; cases h
  · exact go_txt 8192 _ _ _ _ (by rw [List.length_drop]; omega) (fun t h => by cases h)

def noPg : Pg := ⟨[], []⟩
/-- What the parser makes of tokens: the program, the error, the place. -/
def pTold (n : Nat) (ts : List Tok) : Pg × Int × Int :=
  match pWhole (fuelOf ts) (ps0 ts) with
  | some (.bad left) => if left = 0 then (noPg, 4, (n : Int)) else (noPg, 4, ((ts.getD (ts.length - left) ⟨0, [], 0⟩).at_ : Int))
  | some (.ok x st) => if (st.odd || decide (24 < st.most) || !rightB x) = true then (noPg, 5, 0) else (x, 0, 0)
  | none => (noPg, 0, 0)
/-- What Parse answers. -/
def pParse (l : List UInt8) : Pg × Int × Int :=
  if (scan l).2.1 ≠ 0 then (noPg, (scan l).2.1, ((scan l).2.2 : Int)) else pTold l.length (scan l).1
def PaEnd (w : World) (r : Pg × Int × Int) (e : Ending) (w' : World) : Prop :=
  ∃ v, e = .returned (.tuple #[v, .int .i64 r.2.1, .int .i64 r.2.2]) ∧ PgC (w.heap.size ≤ ·) w' r.1 v ∧ Below w.heap.size w w'
theorem pa_none {w W : World} (a b : Int) (h : Below w.heap.size w W) : PaEnd w (noPg, a, b) (.returned (.tuple #[.agg #[.slice none 0 0, .slice none 0 0], .int .i64 a, .int .i64 b])) W :=
  ⟨_, rfl, ⟨_, _, [], rfl, RdK.nil _ _ none 0 3, RdK.nil _ _ none 0 17, sts0 _ _⟩, h⟩
theorem tok_get {ts : List Tok} {k : Nat} (h : k < ts.length) : (tokCells ts)[k * 3 + 2]? = some (.int .i64 ((ts.getD k ⟨0, [], 0⟩).at_ : Int)) := by
  induction ts generalizing k with
  | nil => simp at h
  | cons t r ih =>
    cases k with
    | zero => rfl
    | succ k =>
      have e : tokCells (t :: r) = t.cells ++ tokCells r := rfl
      rw [e, List.getElem?_append_right (by simp [Tok.cells]; omega)]
      have e2 : (k + 1) * 3 + 2 - t.cells.length = k * 3 + 2 := by simp [Tok.cells]; omega
      rw [e2, ih (by simpa using h)]
      simp
theorem pst_new (w1 : World) (v : Value) (ts : List Tok) (t : TypeId) (hv : RdAt w1 v ts.length 3 (tokCells ts)) (hl : ts.length ≤ 2048) (ht : ∀ t ∈ ts, t.text.length ≤ 8192) (hg : Glob w1 w1.heap.size) :
    PSt (w1.alloc (.cells #[v, .int .i64 0, .int .i64 0, .bool false] t)) w1.heap.size (ps0 ts) := by
  have h := Has.new w1 #[v, .int .i64 0, .int .i64 0, .bool false] t rfl
  exact ⟨h.lt, ⟨v, h.cell 0 _ rfl, (hv.k (ok := (· < w1.heap.size)) (fun b hb => hb)).gr (Gr.of_below _ (bel_alloc _ _))⟩, h.cell 1 _ rfl, h.cell 2 _ rfl, h.cell 3 _ rfl, fun i hi => h.frz i hi, hl, ht, hg.gr (Nat.le_refl _) (Gr.of_below _ (bel_alloc _ _))⟩
theorem glob_up {w w1 : World} (h : Glob w w.heap.size) (hb : Below w.heap.size w w1) : Glob w1 w1.heap.size := by
  have hs := hb.size
  obtain ⟨g1, g2, t1, p1, t2, p2, n1, n2, l1, l2, v1, v2⟩ := h.gr (Nat.le_refl _) (Gr.of_below _ hb)
  exact ⟨g1, g2, t1, p1, t2, p2, n1, n2, by omega, by omega, v1, v2⟩
theorem pa_two {w W : World} (h : Below w.heap.size w W) (x y : Value) : Below w.heap.size w ((W.setCell ⟨w.heap.size, 0, none⟩ x).setCell ⟨w.heap.size, 1, none⟩ y) :=
  (h.setCell (p := ⟨w.heap.size, 0, none⟩) (Nat.le_refl _) _).setCell (p := ⟨w.heap.size, 1, none⟩) (Nat.le_refl _) _
theorem pa_ok {w W : World} {x : Pg} {dv bv : Value} (h : Below w.heap.size w W) (hp : PgC (w.heap.size < ·) W x (.agg #[dv, bv])) :
    PaEnd w (x, 0, 0) (.returned (.tuple #[.agg #[dv, bv], .int .i64 0, .int .i64 0])) ((W.setCell ⟨w.heap.size, 0, none⟩ dv).setCell ⟨w.heap.size, 1, none⟩ bv) :=
  ⟨_, rfl, hp.go (((Gr.refl _ W).setCell (Or.inr (by simp)) _).setCell (Or.inr (by simp)) _) (fun b _ hb => Nat.le_of_lt hb), pa_two h _ _⟩
set_option maxHeartbeats 4000000 in
theorem parse_calls (s : ByteArray) (w : World) (hs : s.size ≤ maxLen) (hg : Glob w w.heap.size) :
    Calls Tryz.prog 11 #[.string s] w (PaEnd w (pParse s.data.toList)) := by
  have Gl := Lib.hid hg
  have hc := scan_calls s (w.alloc (.cells #[.slice none 0 0, .slice none 0 0] 25)) hs
  have htx := scan_txt s.data.toList
  have hcn := scan_count s.data.toList
  have he : pParse s.data.toList = if (scan s.data.toList).2.1 ≠ 0 then (noPg, (scan s.data.toList).2.1, ((scan s.data.toList).2.2 : Int)) else pTold s.data.toList.length (scan s.data.toList).1 := rfl
  have hsl : s.data.toList.length = s.size := Lib.size_eq s
  rw [hsl] at he
  rw [he]
  generalize scan s.data.toList = sc at *
  obtain ⟨ts, e0, p0⟩ := sc
  simp only at hc htx hcn ⊢
  have Tx0 := Lib.hid htx
  have C0 := Lib.hid hc
  unfold maxLen at hs
  clear hg hc htx he hsl
  by_cases h0 : e0 = 0
  · subst h0
    rw [if_neg (by simp)]
    obtain ⟨r, hr⟩ := ends_whole ts
    have hT : pTold s.size ts = match some r with
      | some (.bad left) => if left = 0 then (noPg, 4, (s.size : Int)) else (noPg, 4, ((ts.getD (ts.length - left) ⟨0, [], 0⟩).at_ : Int))
      | some (.ok x st) => if (st.odd || decide (24 < st.most) || !rightB x) = true then (noPg, 5, 0) else (x, 0, 0)
      | none => (noPg, 0, 0) := by rw [← hr]; rfl
    generalize pTold s.size ts = R at *
    have HR := Lib.hid hT
    clear hT
    have Hr := Lib.hid hr
    have Hb := Lib.hid (pb_whole (fuelOf ts) (ps0 ts))
    have Ht := Lib.hid (pt_whole (fuelOf ts) (ps0 ts))
    clear hr
    go_enter Tryz.func11, Tryz.ntmps11
    go_wp2_with fail
    refine C0.out.mono ?_
    rintro e w1 ⟨v, rfl, hrd, hb1⟩
    have B1 := Lib.hid (below2 (bel_alloc w _) hb1)
    have B1' := Lib.hid hb1
    have R1 := Lib.hid hrd
    obtain ⟨A, c, rfl⟩ := hrd.slice
    have Z1 := Lib.hid ((Has.new w #[.slice none 0 0, .slice none 0 0] 25 rfl).below hb1)
    clear hb1 hrd
    go_wp2_with fail
    have hp := pst_new w1 (.slice A ts.length c) ts 50 R1.out hcn Tx0.out (glob_up Gl.out B1.out)
    refine (whole_calls (fuelOf ts) w1.heap.size (ps0 ts) _ r hp Hr.out).mono ?_
    rintro e w2 ⟨hg, he⟩
    have hz1 := Z1.out.lt
    have Z2 := Lib.hid ((Z1.out.below (bel_alloc w1 (.cells #[.slice A ts.length c, .int .i64 0, .int .i64 0, .bool false] 50))).gr hg (by omega))
    have B2 := Lib.hid (((Gr.of_below (fun b => b < w.heap.size) (below2 B1.out (bel_alloc w1 (.cells #[.slice A ts.length c, .int .i64 0, .int .i64 0, .bool false] 50)))).later hg (fun b hb h => by omega)).below_of (fun k hk => hk))
    have hsz2 := hg.size
    simp only [World.size_alloc] at hsz2
    have W2 := Lib.hid hg
    clear hg hp
    cases r with
    | bad n =>
      obtain rfl := he
      have hn := Hb.out _ Hr.out
      have hn : n ≤ ts.length := hn
      obtain ⟨z0, z1, y0, y1, hz⟩ := (Z2.out.below (bel_alloc w2 (.cells #[.slice none 0 0, .slice none 0 0] 25))).c2
      by_cases hn0 : n = 0
      · subst hn0
        go_wp2_with fail
        try simp only [Exit.inBlock, Exit.then]
        refine bodyPost_ret (by simp [results, Tryz.results11, go_sem, z0, z1, y0, y1]; try rfl) rfl ?_
        rw [HR.out]
        exact pa_none _ _ (pa_two (below2 B2.out (bel_alloc _ _)) _ _)
      · have H2 := Lib.hid (show R = (noPg, 4, ((ts.getD (ts.length - n) ⟨0, [], 0⟩).at_ : Int)) by rw [HR.out]; show (if n = 0 then _ else _) = _; rw [if_neg hn0])
        have t1 : ((n : Int) == 0) = false := by simp; omega
        have hnn : 1 ≤ n := by omega
        clear hn0 HR
        obtain ⟨b, off, c', hsl, hle, hbl, hc⟩ := R1.out.pos (by omega)
        injection hsl with hA hn' hc'
        subst hA hc'
        have g0 : w2.cell? ⟨b, off + (ts.length - n) * 3 + 2, none⟩ = some (.int .i64 ((ts.getD (ts.length - n) ⟨0, [], 0⟩).at_ : Int)) := by
          rw [W2.out.cell (p := ⟨b, off + (ts.length - n) * 3 + 2, none⟩) (by simp; omega) (by show b ≠ _; omega), (bel_alloc w1 _).cell (p := ⟨b, off + (ts.length - n) * 3 + 2, none⟩) hbl, Nat.add_assoc]
          exact hc _ _ (tok_get (by omega))
        have hbl2 : b < w2.heap.size := by omega
        generalize ((ts.getD (ts.length - n) ⟨0, [], 0⟩).at_ : Int) = at0 at *
        clear hn' hc
        have hs1 : IntKind.i64.wrap ((ts.length : Int) - (n : Int)) = (ts.length : Int) - (n : Int) := IntWalk.i64_in _ (by omega)
        have hs2 : (0 : Int) ≤ (ts.length : Int) - (n : Int) := by omega
        have hs3 : (ts.length : Int) - (n : Int) < (ts.length : Int) := by omega
        have hs4 : ((ts.length : Int) - (n : Int)).toNat = ts.length - n := by omega
        go_wp2_with fail
        go_region
        all_goals
          go_wp2_with fail
          try simp only [Exit.inBlock, Exit.then]
          refine bodyPost_ret (by simp [results, Tryz.results11, go_sem, z0, z1, y0, y1]; try rfl) rfl ?_
          rw [H2.out]
          exact pa_none _ _ (Below.drew (pa_two (below2 B2.out (bel_alloc _ _)) _ _))
    | ok x st =>
      obtain ⟨v, rfl, hpg, hst⟩ := he
      have Hx := Lib.hid (Ht.out _ _ (fun t ht => Nat.le_trans (Tx0.out t ht) (by unfold maxLen; omega)) Hr.out).1
      obtain ⟨dv, bv, bc, rfl, hd1, hd2, hd3⟩ := hpg
      obtain ⟨A1, c1, rfl⟩ := hd1.slice
      obtain ⟨A2, c2, rfl⟩ := hd2.slice
      have X2 := Lib.hid (show PgC (w.heap.size < ·) w2 x (.agg #[.slice A1 x.decls.length c1, .slice A2 x.body.length c2]) from (PgC.go (ok := fun b => (w1.alloc (.cells #[.slice A ts.length c, .int .i64 0, .int .i64 0, .bool false] 50)).heap.size ≤ b) ⟨_, _, bc, rfl, hd1, hd2, hd3⟩ (Gr.refl _ _) (fun b _ hb => by simp at hb; omega)))
      have hm := hst.most
      have ho := hst.odd
      clear hd1 hd2 hd3 hst
      obtain ⟨z0, z1, y0, y1, hz⟩ := (Z2.out.below (bel_alloc w2 (.cells #[.slice A1 x.decls.length c1, .slice A2 x.body.length c2] 25))).c2
      have hpb : w1.heap.size < w2.heap.size := by omega
      cases hodd : st.odd with
      | true =>
        rw [hodd] at ho
        have H2 := Lib.hid (show R = (noPg, 5, 0) by rw [HR.out]; show (if _ then _ else _) = _; rw [if_pos (by simp [hodd])])
        clear hodd HR
        go_wp2_with fail
        try simp only [Exit.inBlock, Exit.then]
        refine bodyPost_ret (by simp [results, Tryz.results11, go_sem, z0, z1, y0, y1]; try rfl) rfl ?_
        rw [H2.out]
        exact pa_none _ _ (pa_two (below2 B2.out (bel_alloc _ _)) _ _)
      | false =>
        rw [hodd] at ho
        by_cases hmost : 24 < st.most
        · have H2 := Lib.hid (show R = (noPg, 5, 0) by rw [HR.out]; show (if _ then _ else _) = _; rw [if_pos (by simp [hmost])])
          clear hodd HR
          have hd1 : decide ((24 : Int) < st.most) = true := by simpa using hmost
          go_wp2_with fail
          try simp only [Exit.inBlock, Exit.then]
          refine bodyPost_ret (by simp [results, Tryz.results11, go_sem, z0, z1, y0, y1]; try rfl) rfl ?_
          rw [H2.out]
          exact pa_none _ _ (pa_two (below2 B2.out (bel_alloc _ _)) _ _)
        · have hd1 : decide ((24 : Int) < st.most) = false := by simpa using hmost
          have H2 := Lib.hid (show R = if rightB x = true then (x, 0, 0) else (noPg, 5, 0) by
            rw [HR.out]
            show (if (st.odd || decide (24 < st.most) || !rightB x) = true then (noPg, (5 : Int), (0 : Int)) else (x, 0, 0)) = _
            rw [hodd, hd1]
            cases rightB x <;> rfl)
          have hmm : st.most ≤ 24 := by omega
          clear hodd HR hmost
          go_wp2_with fail
          refine (right_calls x _ _ (X2.out.go (Gr.of_below _ (bel_alloc _ _)) (fun _ _ _ => trivial)) ⟨Hx.out.1, Hx.out.2⟩).mono ?_
          rintro e w3 ⟨rfl, hb3⟩
          have X3 := Lib.hid ((X2.out.go (Gr.of_below _ (bel_alloc _ _)) (fun _ _ hb => hb)).go (Gr.of_below _ hb3) (fun _ _ hb => hb))
          have B3 := Lib.hid (below2 (below2 B2.out (bel_alloc _ _)) hb3)
          have Y3 := Lib.hid ((Has.new w2 #[.slice A1 x.decls.length c1, .slice A2 x.body.length c2] 25 rfl).below hb3)
          clear z0 z1 y0 y1 hz hd1
          obtain ⟨z0, z1, y0, y1, hz⟩ := ((Z2.out.below (bel_alloc w2 (.cells #[.slice A1 x.decls.length c1, .slice A2 x.body.length c2] 25))).below hb3).c2
          obtain ⟨x0, x1, v0, v1, hz4⟩ := Y3.out.c2
          clear hb3
          cases hrb : rightB x with
          | true =>
            have H3 := Lib.hid (show R = (x, 0, 0) by rw [H2.out, if_pos hrb])
            clear hrb H2
            go_wp2_with fail
            try simp only [Exit.inBlock, Exit.then]
            refine bodyPost_ret (by simp [results, Tryz.results11, go_sem, z0, z1, y0, y1]; try rfl) rfl ?_
            rw [H3.out]
            exact pa_ok B3.out X3.out
          | false =>
            have H3 := Lib.hid (show R = (noPg, 5, 0) by rw [H2.out, if_neg (by rw [hrb]; simp)])
            clear hrb H2
            go_wp2_with fail
            try simp only [Exit.inBlock, Exit.then]
            refine bodyPost_ret (by simp [results, Tryz.results11, go_sem, z0, z1, y0, y1]; try rfl) rfl ?_
            rw [H3.out]
            exact pa_none _ _ (pa_two B3.out _ _)
  · rw [if_pos h0]
    have t1 : (e0 == 0) = false := by simpa using h0
    have t2 : (e0 != 0) = true := by simpa using h0
    go_enter Tryz.func11, Tryz.ntmps11
    go_wp2_with fail
    refine C0.out.mono ?_
    rintro e w1 ⟨v, rfl, hrd, hb1⟩
    have B1 := Lib.hid (below2 (bel_alloc w _) hb1)
    obtain ⟨z0, z1, y0, y1, hz⟩ := ((Has.new w #[.slice none 0 0, .slice none 0 0] 25 rfl).below hb1).c2
    clear hb1 hrd
    go_wp2_with fail
    try simp only [Exit.inBlock, Exit.then]
    refine bodyPost_ret (by simp [results, Tryz.results11, go_sem, z0, z1, y0, y1]; try rfl) rfl ?_
    exact pa_none _ _ (pa_two B1.out _ _)
end

/-! Print: a program's text. -/
section
set_option linter.unusedVariables false
set_option linter.unusedSimpArgs false
open Go.RowKit

def deT (d : De) : List UInt8 := wordOf d.ty ++ [32] ++ d.name ++ (if 0 < d.cells then [91] ++ Lib.decDigits d.cells.toNat ++ [93] else []) ++ [59, 10]
def dsT (l : List De) : List UInt8 := l.flatMap deT
theorem dsT_take {l : List De} {q : Nat} (h : q < l.length) : dsT (l.take (q + 1)) = dsT (l.take q) ++ deT l[q] := by
  rw [List.take_succ_eq_append_getElem h]
  simp only [dsT, List.flatMap_append, List.flatMap_cons, List.flatMap_nil, List.append_nil]
theorem dsT_le (l : List De) (q : Nat) : (dsT (l.take q)).length ≤ (dsT l).length := by
  have : dsT l = dsT (l.take q) ++ dsT (l.drop q) := by rw [dsT, dsT, dsT, ← List.flatMap_append, List.take_append_drop]
  rw [this, List.length_append]
  omega
/-- A program's text. -/
def pgT (p : Pg) : List UInt8 := dsT p.decls ++ prSs p.body []
/-- What Print answers. -/
def pPrint (p : Pg) : List UInt8 × Int := if rightB p = true then (if (pParse (pgT p)).2.1 = 5 then ([], 5) else (pgT p, 0)) else ([], 4)
def PrEnd (w : World) (r : List UInt8 × Int) (e : Ending) (w' : World) : Prop := e = .returned (.tuple #[strV r.1, .int .i64 r.2]) ∧ Below w.heap.size w w'
theorem prs_new (w : World) : PrS w.heap.size w.heap.size [] (w.alloc (.cells #[.pointer none, .slice none 0 0] 75)) := by
  refine Or.inl ⟨Nat.le_refl _, .slice none 0 0, by unfold World.alloc; simp, ⟨rfl, Or.inl ⟨rfl, rfl⟩⟩, by simp [Value.ownBlock]⟩
theorem below_low {w W : World} {B pb : Nat} (h : Pg1 B pb w W) (hB : w.heap.size ≤ B) : Below w.heap.size w W := (h.low.mono (ok' := (· < w.heap.size)) fun k hk h => Nat.lt_of_lt_of_le h hB).below_of (fun k hk => hk)
set_option maxRecDepth 100000 in
set_option maxHeartbeats 8000000 in
theorem print_calls (p : Pg) (v : Value) (w : World) (hp : PgC (fun _ => True) w p v) (ht : p.tx) (hg : Glob w w.heap.size) (hlen : rightB p = true → (pgT p).length ≤ 140737488355328) :
    Calls Tryz.prog 16 #[v] w (PrEnd w (pPrint p)) := by
  have hpe : pPrint p = if rightB p = true then (if (pParse (pgT p)).2.1 = 5 then ([], 5) else (pgT p, 0)) else ([], 4) := rfl
  generalize pPrint p = R at *
  have HR := Lib.hid hpe
  have Gl := Lib.hid hg
  have Hp := Lib.hid hp
  have Ht := Lib.hid ht
  obtain ⟨dv, bv, bc, rfl, h1, h2, h3⟩ := hp
  obtain ⟨A1, c1, rfl⟩ := h1.slice
  obtain ⟨A2, c2, rfl⟩ := h2.slice
  have H1 := Lib.hid h1
  have H2 := Lib.hid h2
  have H3 := Lib.hid h3
  have Bx := Lib.hid (Has.new w #[.slice A1 p.decls.length c1, .slice A2 p.body.length c2] 25 rfl)
  have hn := h1.le
  clear hpe hg ht h1 h2 h3
  cases hr : rightB p with
  | false =>
    have H4 := Lib.hid (show R = ([], 4) by rw [HR.out, if_neg (by rw [hr]; simp)])
    have Rc := right_calls p _ (w.alloc (.cells #[.slice A1 p.decls.length c1, .slice A2 p.body.length c2] 25)) (Hp.out.go (Gr.of_below _ (bel_alloc _ _)) (fun _ _ h => h)) Ht.out
    rw [hr] at Rc
    have RC := Lib.hid Rc
    clear hr hlen Rc HR
    go_enter Tryz.func16, Tryz.ntmps16
    go_wp2_with fail
    refine RC.out.mono ?_
    rintro e w1 ⟨rfl, hb⟩
    have HB := Lib.hid (below2 (bel_alloc w _) hb)
    clear hb
    go_wp2_with fail
    go_ret2
    exact ⟨by rw [H4.out]; rfl, HB.out⟩
  | true =>
    have hl := hlen hr
    have hrp := right_ok hr
    have H4 := Lib.hid (show R = if (pParse (pgT p)).2.1 = 5 then ([], 5) else (pgT p, 0) by rw [HR.out, if_pos hr])
    have Rc := right_calls p _ (w.alloc (.cells #[.slice A1 p.decls.length c1, .slice A2 p.body.length c2] 25)) (Hp.out.go (Gr.of_below _ (bel_alloc _ _)) (fun _ _ h => h)) Ht.out
    rw [hr] at Rc
    have RC := Lib.hid Rc
    have hl : (dsT p.decls).length + (prSs p.body []).length ≤ 140737488355328 := by rw [← List.length_append]; exact hl
    have hnd := hrp.decls
    have Rb := Lib.hid hrp.body
    have Re := Lib.hid hrp.each
    clear hr hlen Rc HR hrp
    go_enter Tryz.func16, Tryz.ntmps16
    go_wp2_with fail
    refine RC.out.mono ?_
    rintro e w1 ⟨rfl, hb⟩
    have HB := Lib.hid (below2 (bel_alloc w _) hb)
    have hw1 : w.heap.size < w1.heap.size := by have := hb.size; simp at this; omega
    have bw := bel_alloc w1 (.cells #[.pointer none, .slice none 0 0] 75)
    have BxW := Lib.hid ((Bx.out.below hb).below bw)
    have D1 := Lib.hid (((H1.out.gr (Gr.of_below _ HB.out)).mono (ok' := (· < w1.heap.size)) (fun b hb _ => hb)).gr (Gr.of_below _ bw))
    have D2 := Lib.hid (((H2.out.gr (Gr.of_below _ HB.out)).mono (ok' := (· < w1.heap.size)) (fun b hb _ => hb)).gr (Gr.of_below _ bw))
    have D3 := Lib.hid (((H3.out.gr (Gr.of_below _ HB.out)).mono (ok' := (· < w1.heap.size)) (fun b hb _ => hb)).gr (Gr.of_below _ bw))
    have HW := Lib.hid (below2 HB.out bw)
    have hS := prs_new w1
    obtain ⟨x0, x1, y0, y1, hz⟩ := BxW.out.c2
    clear hb bw
    go_wp2_with fail
    generalize w1.alloc (.cells #[.pointer none, .slice none 0 0] 75) = W at *
    generalize hB : w1.heap.size = B at *
    have S0 := Lib.hid hS
    clear hS x0 x1 y0 y1 hz
    go_loopw [19] (fun k V => ∃ q : Nat, k = .int .i64 q ∧ q ≤ p.decls.length ∧ PrS B B (dsT (p.decls.take q)) V ∧ Pg1 B B W V) (fun k _ => p.decls.length - (intOf k).toNat)
    case atStart => exact ⟨0, rfl, by omega, by simpa [dsT] using S0.out, Pg1.refl _ _ _⟩
    case round =>
      obtain ⟨q, rfl, hq, hs, hg⟩ := hrel
      have hltw := hs.lt
      by_cases hlt2 : q < p.decls.length
      · obtain ⟨b, off, c', hsl, hle, hbl, g0, g1, g2⟩ := de_elem (D1.out.gr hg.low) q hlt2
        injection hsl with hA hn' hc'
        subst hA hc'
        have htk := dsT_take hlt2
        have hl1 := dsT_le p.decls (q + 1)
        have hbd := Re.out _ (List.getElem_mem hlt2)
        rw [htk, List.length_append] at hl1
        have Htk := Lib.hid htk
        have G0 := Lib.hid hg
        clear hn' htk hg
        generalize p.decls[q] = d at *
        generalize hT : dsT (p.decls.take q) = T at *
        clear hT
        obtain ⟨nm, ty, cl⟩ := d
        simp only at g0 g1 g2
        have hb5 : 1 ≤ ty ∧ ty ≤ 3 ∧ 0 ≤ cl ∧ cl ≤ 64 := by
          simp only [badD, Bool.or_eq_false_iff, decide_eq_false_iff_not] at hbd
          omega
        obtain ⟨ht1, ht3, hc0, hc64⟩ := hb5
        obtain ⟨n, rfl⟩ := Int.eq_ofNat_of_zero_le hc0
        have hde : deT ⟨nm, ty, (n : Int)⟩ = wordOf ty ++ [32] ++ nm ++ (if 0 < (n : Int) then [91] ++ Lib.decDigits n ++ [93] else []) ++ [59, 10] := rfl
        rw [hde] at hl1
        have Hde := Lib.hid hde
        have Bq := Lib.hid (Has.new wr #[.string ⟨nm.toArray⟩, .int .i64 ty, .int .i64 (n : Int)] 58 rfl)
        have K := Lib.hid (KO.new (B := B) (pb := B) (w := wr) (cs := #[.string ⟨nm.toArray⟩, .int .i64 ty, .int .i64 (n : Int)]) (t := 58) (by decide) hltw)
        have S1 := Lib.hid (hs.alloc (.cells #[.string ⟨nm.toArray⟩, .int .i64 ty, .int .i64 (n : Int)] 58))
        simp only [List.length_append, List.length_cons, List.length_nil] at hl1
        clear hs hbd hde
        go_wp2_with fail
        go_region_with (first | (go_at_call 31; refine (word_calls ty _ (by omega) ht3).mono ?_; rintro e' w5 ⟨rfl, hb⟩; have Hb := Lib.hid (below_dr hb); clear hb; obtain ⟨c0, c1', c2', f0, f1, f2, hz⟩ := (Bq.out.below Hb.out).c3) | (go_at_call 30; refine (put_new B B _ [wordOf ty, [32], nm] #[.string ⟨(wordOf ty).toArray⟩, .string ⟨#[32]⟩, .string ⟨nm.toArray⟩] 3 _ _ (S1.out.below Hb.out) rfl rfl (by decide) (by decide) rfl (by simp; omega)).mono ?_; rintro e'' w6 ⟨rfl, hs, hg⟩; have S2 := Lib.hid hs; have G2 := Lib.hid ((Pg1.of_below B B Hb.out).trans hg); clear hs hg) | fail)
        all_goals
          try clear c0 c1' c2' f0 f1 f2 hz
          obtain ⟨c0, c1', c2', f0, f1, f2, hz⟩ := (Bq.out.gr G2.out K.out).c3
          by_cases hn0 : n = 0
          · subst hn0
            rw [if_neg (by simp)] at hl1
            have hd2 := Hde.out
            rw [if_neg (by simp)] at hd2
            have Hd2 := Lib.hid hd2
            clear hd2
            go_wp2_with fail
            refine (put_new B B _ [[59, 10]] #[.string ⟨#[59, 10]⟩] 1 _ _ S2.out rfl rfl (by decide) (by decide) rfl (by simp; omega)).mono ?_
            rintro e w7 ⟨rfl, hs, hg⟩
            have S3 := Lib.hid hs
            have G3 := Lib.hid (G2.out.trans hg)
            clear hs hg
            go_wp2_with fail
            go_roundw
            case rel => exact ⟨q + 1, by go_num, by omega, by rw [Htk.out, Hd2.out]; simpa using S3.out, G0.out.trans ((Pg1.of_below B B (bel_alloc _ _)).trans G3.out)⟩
            case measure => simp [intOf]; omega
          · have hpos : (0 : Int) < (n : Int) := by omega
            have hpos2 : 0 < n := by omega
            rw [if_pos hpos] at hl1
            simp only [List.length_append, List.length_cons, List.length_nil] at hl1
            have hd2 := Hde.out
            rw [if_pos hpos] at hd2
            have Hd2 := Lib.hid hd2
            clear hd2 hn0
            go_wp2_with fail
            refine (Tryz.strconv_Itoa_small n (by omega) _).mono ?_
            rintro e w7 ⟨rfl, rfl⟩
            go_wp2_with fail
            refine (put_new B B _ [[91], Lib.decDigits n, [93]] #[.string ⟨#[91]⟩, .string ⟨(Lib.decDigits n).toArray⟩, .string ⟨#[93]⟩] 3 _ _ S2.out rfl rfl (by decide) (by decide) rfl (by simp; omega)).mono ?_
            rintro e w8 ⟨rfl, hs, hg⟩
            have S3 := Lib.hid hs
            have G3 := Lib.hid (G2.out.trans hg)
            clear hs hg
            go_wp2_with fail
            refine (put_new B B _ [[59, 10]] #[.string ⟨#[59, 10]⟩] 1 _ _ S3.out rfl rfl (by decide) (by decide) rfl (by simp; omega)).mono ?_
            rintro e w9 ⟨rfl, hs, hg⟩
            have S4 := Lib.hid hs
            have G4 := Lib.hid (G3.out.trans hg)
            clear hs hg
            go_wp2_with fail
            go_roundw
            case rel => exact ⟨q + 1, by go_num, by omega, by rw [Htk.out, Hd2.out]; simpa using S4.out, G0.out.trans ((Pg1.of_below B B (bel_alloc _ _)).trans G4.out)⟩
            case measure => simp [intOf]; omega
      · obtain rfl : q = p.decls.length := by omega
        rw [List.take_length] at hs
        have S1 := Lib.hid hs
        have G1 := Lib.hid hg
        obtain ⟨x0, x1, y0, y1, hz⟩ := (BxW.out.gr hg.low (show w.heap.size < B by omega)).c2
        clear hs hg
        go_wp2_with fail
        refine (prSs_calls p.body Rb.out B B _ [] A2 c2 _ bc S1.out (D2.out.gr G1.out.low) (D3.out.gr G1.out.low) hl).mono ?_
        rintro e w5 ⟨rfl, hs, hg⟩
        have S2 := Lib.hid hs
        have G2 := Lib.hid (G1.out.trans hg)
        have hlt5 := hs.lt
        clear hs hg x0 x1 y0 y1 hz
        go_wp2_with fail
        refine (string_calls B B _ _ S2.out).mono ?_
        rintro e w6 ⟨rfl, hg⟩
        have G3 := Lib.hid (G2.out.trans hg)
        have HB6 := Lib.hid (((Gr.of_below (fun b => b < w.heap.size) HW.out).later G3.out.low (fun b hb _ => by show b < B; omega)).below_of (fun k hk => hk))
        clear hg
        have hpc := parse_calls ⟨(dsT p.decls ++ prSs p.body []).toArray⟩ w6 (by simp [ByteArray.size]; unfold maxLen; omega) (glob_up Gl.out HB6.out)
        have e1 : (⟨(dsT p.decls ++ prSs p.body []).toArray⟩ : ByteArray).data.toList = pgT p := by simp [pgT]
        rw [e1] at hpc
        have PC := Lib.hid hpc
        have e2 : pgT p = dsT p.decls ++ prSs p.body [] := rfl
        have E2 := Lib.hid e2
        clear hpc e1 e2
        generalize pgT p = TT at *
        generalize pParse TT = r at *
        obtain ⟨rp, re, ra⟩ := r
        by_cases h5 : re = 5
        · subst h5
          have H6 := Lib.hid (show R = ([], 5) by rw [H4.out]; rfl)
          clear H4
          go_wp2_with fail
          refine PC.out.mono ?_
          rintro e w7 ⟨v, rfl, hpg, hb⟩
          obtain ⟨dv, bv, bc', rfl, k1, k2, k3⟩ := hpg
          obtain ⟨A3, c3, rfl⟩ := k1.slice
          obtain ⟨A4, c4, rfl⟩ := k2.slice
          have HB7 := Lib.hid (below2 HB6.out hb)
          clear hb k1 k2 k3
          go_wp2_with fail
          go_ret2
          exact ⟨by rw [H6.out]; rfl, below2 HB7.out (bel_alloc _ _)⟩
        · have H6 := Lib.hid (show R = (TT, 0) by rw [H4.out]; exact if_neg h5)
          have t5 : (re == 5) = false := by simpa using h5
          clear H4
          go_wp2_with fail
          refine PC.out.mono ?_
          rintro e w7 ⟨v, rfl, hpg, hb⟩
          obtain ⟨dv, bv, bc', rfl, k1, k2, k3⟩ := hpg
          obtain ⟨A3, c3, rfl⟩ := k1.slice
          obtain ⟨A4, c4, rfl⟩ := k2.slice
          have HB7 := Lib.hid (below2 HB6.out hb)
          clear hb k1 k2 k3
          go_wp2_with fail
          go_ret2
          exact ⟨by rw [H6.out, E2.out]; rfl, below2 HB7.out (bel_alloc _ _)⟩
end

/-! What must be whatever is asked; whether a program is empty; how many points it has. -/
section
set_option linter.unusedVariables false
set_option linter.unusedSimpArgs false
open Go.RowKit

def pPoints (p : Pg) : Int := if rightB p = true then (stsPts p.body : Int) else 0
set_option maxHeartbeats 1000000 in
theorem points_all (p : Pg) (v : Value) (w : World) (hp : PgC (fun _ => True) w p v) (ht : p.tx) :
    Calls Tryz.prog 20 #[v] w fun e w' => e = .returned (.int .i64 (pPoints p)) ∧ Below w.heap.size w w' := by
  have hpe : pPoints p = if rightB p = true then (stsPts p.body : Int) else 0 := rfl
  have Hp := Lib.hid hp
  obtain ⟨dv, bv, bc, rfl, h1, h2, h3⟩ := hp
  obtain ⟨A1, c1, rfl⟩ := h1.slice
  obtain ⟨A2, c2, rfl⟩ := h2.slice
  have H2 := Lib.hid h2
  have H3 := Lib.hid h3
  have Bx := Lib.hid (Has.new w #[.slice A1 p.decls.length c1, .slice A2 p.body.length c2] 25 rfl)
  have Rc := right_calls p _ (w.alloc (.cells #[.slice A1 p.decls.length c1, .slice A2 p.body.length c2] 25)) (Hp.out.go (Gr.of_below _ (bel_alloc _ _)) (fun _ _ h => h)) ht
  cases hr : rightB p with
  | false =>
    rw [hr] at Rc hpe
    rw [if_neg (by simp)] at hpe
    have RC := Lib.hid Rc
    have HE := Lib.hid hpe
    clear hr Rc hpe h1 h2 h3 ht
    go_enter Tryz.func20, Tryz.ntmps20
    go_wp2_with fail
    refine RC.out.mono ?_
    rintro e w1 ⟨rfl, hb⟩
    have HB := Lib.hid (below2 (bel_alloc w _) hb)
    clear hb
    go_wp2_with fail
    go_ret
    exact ⟨by rw [HE.out]; rfl, HB.out⟩
  | true =>
    have hrp := Lib.hid (right_ok hr)
    rw [hr] at Rc hpe
    rw [if_pos rfl] at hpe
    have RC := Lib.hid Rc
    have HE := Lib.hid hpe
    clear hr Rc hpe h1 h2 h3 ht
    go_enter Tryz.func20, Tryz.ntmps20
    go_wp2_with fail
    refine RC.out.mono ?_
    rintro e w1 ⟨rfl, hb⟩
    have HB := Lib.hid (below2 (bel_alloc w _) hb)
    obtain ⟨x0, x1, y0, y1, hz⟩ := (Bx.out.below hb).c2
    clear hb
    go_wp2_with fail
    refine (points_calls p.body (by have := hrp.out.pts; omega) A2 c2 _ bc (H2.out.gr (Gr.of_below _ HB.out)) (H3.out.gr (Gr.of_below _ HB.out))).mono ?_
    rintro e w2 ⟨rfl, hb⟩
    go_wp2_with fail
    go_ret
    exact ⟨by rw [HE.out]; rfl, below2 HB.out hb⟩
/-- Is a program empty? -/
def noneP (p : Pg) : Bool := p.decls.isEmpty && p.body.isEmpty
theorem none_pg (p : Pg) (v : Value) (w : World) (hp : PgC (fun _ => True) w p v) :
    Calls Tryz.prog 14 #[v] w fun e w' => e = .returned (.bool (noneP p)) ∧ Below w.heap.size w w' := by
  obtain ⟨dv, bv, bc, rfl, h1, h2, h3⟩ := hp
  obtain ⟨A1, c1, rfl⟩ := h1.slice
  obtain ⟨A2, c2, rfl⟩ := h2.slice
  obtain ⟨ds, bs⟩ := p
  clear h1 h2 h3
  simp only
  cases ds with
  | nil =>
    cases bs with
    | nil =>
      simp only [List.length_nil]
      go_enter Tryz.func14, Tryz.ntmps14
      go_wp2_with fail
      go_ret
      exact ⟨rfl, by go_grown⟩
    | cons s r =>
      have t1 : (((s :: r).length : Int) == 0) = false := by simp; omega
      simp only [List.length_nil]
      generalize (s :: r).length = n at *
      go_enter Tryz.func14, Tryz.ntmps14
      go_wp2_with fail
      go_ret
      exact ⟨rfl, by go_grown⟩
  | cons s r =>
    have t1 : (((s :: r).length : Int) == 0) = false := by simp; omega
    generalize (s :: r).length = n at *
    go_enter Tryz.func14, Tryz.ntmps14
    go_wp2_with fail
    go_ret
    exact ⟨rfl, by go_grown⟩
def liveT : List UInt8 := [100, 111, 117, 98, 108, 101, 32, 120, 59, 32, 114, 101, 97, 100, 32, 120, 32, 105, 110, 32, 91, 48, 46, 48, 44, 32, 49, 46, 48, 93, 59, 32, 120, 32, 61, 32, 120, 32, 42, 32, 120, 32, 45, 32, 49, 46, 48, 59]
def liveO : List UInt8 := [100, 111, 117, 98, 108, 101, 32, 120, 59, 10, 114, 101, 97, 100, 32, 120, 32, 105, 110, 32, 91, 48, 46, 48, 44, 32, 49, 46, 48, 93, 59, 10, 120, 32, 61, 32, 120, 32, 42, 32, 120, 32, 45, 32, 49, 46, 48, 59, 10]
def livePg : Pg := ⟨[⟨[120], 3, 0⟩], [.mk 2 [120] [] .no (.mk 1 [48, 46, 48] 0 []) (.mk 1 [49, 46, 48] 0 []) [] [], .mk 1 [120] [] (.mk 9 [] 0 [.mk 10 [] 0 [.mk 2 [120] 0 [], .mk 2 [120] 0 []], .mk 1 [49, 46, 48] 0 []]) .no .no [] []]⟩
theorem live_parse : pParse liveT = (livePg, 0, 0) := by kernel_rfl
theorem live_right : rightB livePg = true := by kernel_rfl
theorem live_points : pPoints livePg = 2 := by kernel_rfl
theorem live_print : pPrint livePg = (liveO, 0) := by kernel_rfl
theorem live_tx : livePg.tx := ⟨by intro d hd; simp [livePg] at hd; subst hd; simp [maxLen], by simp [livePg, stsTx, St.tx, exsTx, Ex.tx, Ex.no, maxLen]⟩
set_option maxRecDepth 20000 in
set_option maxHeartbeats 2000000 in
theorem live_calls (w : World) (hg : Glob w w.heap.size) :
    Calls Tryz.prog 13 #[] w fun e w' => e = .returned (.bool true) ∧ Below w.heap.size w w' := by
  have Gl := Lib.hid hg
  clear hg
  have hpc := parse_calls ⟨#[100, 111, 117, 98, 108, 101, 32, 120, 59, 32, 114, 101, 97, 100, 32, 120, 32, 105, 110, 32, 91, 48, 46, 48, 44, 32, 49, 46, 48, 93, 59, 32, 120, 32, 61, 32, 120, 32, 42, 32, 120, 32, 45, 32, 49, 46, 48, 59]⟩ w (by simp [ByteArray.size, maxLen]) Gl.out
  have e1 : (⟨#[100, 111, 117, 98, 108, 101, 32, 120, 59, 32, 114, 101, 97, 100, 32, 120, 32, 105, 110, 32, 91, 48, 46, 48, 44, 32, 49, 46, 48, 93, 59, 32, 120, 32, 61, 32, 120, 32, 42, 32, 120, 32, 45, 32, 49, 46, 48, 59]⟩ : ByteArray).data.toList = liveT := rfl
  rw [e1, live_parse] at hpc
  have PC := Lib.hid hpc
  clear hpc e1
  have hpr := fun (v : Value) (W : World) (hp : PgC (fun _ => True) W livePg v) (hg : Glob W W.heap.size) => print_calls livePg v W hp live_tx hg (fun _ => by
    have h : (pgT livePg).length = 49 := by kernel_rfl
    omega)
  rw [live_print] at hpr
  have PR := Lib.hid hpr
  have hpt := fun (v : Value) (W : World) (hp : PgC (fun _ => True) W livePg v) => points_all livePg v W hp live_tx
  rw [live_points] at hpt
  have PT := Lib.hid hpt
  clear hpr hpt
  go_enter Tryz.func13, Tryz.ntmps13
  go_wp2_with fail
  refine PC.out.mono ?_
  rintro e w1 ⟨v, rfl, hpg, hb⟩
  have Pg1' := Lib.hid hpg
  obtain ⟨dv, bv, bc, rfl, h1, h2, h3⟩ := hpg
  obtain ⟨A1, c1, rfl⟩ := h1.slice
  obtain ⟨A2, c2, rfl⟩ := h2.slice
  have HB := Lib.hid hb
  have hl1 : livePg.decls.length = 1 := rfl
  have hl2 : livePg.body.length = 2 := rfl
  simp only [hl1, hl2] at *
  clear h1 h2 h3 hb hl1 hl2
  have Bx := Lib.hid (Has.new w1 #[.slice A1 1 c1, .slice A2 2 c2] 25 rfl)
  go_wp2_with fail
  refine (PR.out _ _ (Pg1'.out.go (Gr.of_below _ (bel_alloc _ _)) (fun _ _ _ => trivial)) (glob_up Gl.out (below2 HB.out (bel_alloc _ _)))).mono ?_
  rintro e w2 ⟨rfl, hb⟩
  have B2 := Lib.hid hb
  obtain ⟨x0, x1, y0, y1, hz⟩ := (Bx.out.below hb).c2
  clear hb
  go_wp2_with fail
  refine (PT.out _ _ ((Pg1'.out.go (Gr.of_below _ (bel_alloc _ _)) (fun _ _ _ => trivial)).go (Gr.of_below _ B2.out) (fun _ _ h => h))).mono ?_
  rintro e w3 ⟨rfl, hb⟩
  have B3 := Lib.hid (below2 (below2 (below2 HB.out (bel_alloc _ _)) B2.out) hb)
  have hO : ((⟨liveO.toArray⟩ : ByteArray) == ⟨#[100, 111, 117, 98, 108, 101, 32, 120, 59, 10, 114, 101, 97, 100, 32, 120, 32, 105, 110, 32, 91, 48, 46, 48, 44, 32, 49, 46, 48, 93, 59, 10, 120, 32, 61, 32, 120, 32, 42, 32, 120, 32, 45, 32, 49, 46, 48, 59, 10]⟩) = true := by decide +kernel
  clear hb
  go_wp2_with fail
  go_ret
  exact ⟨rfl, B3.out⟩
end
end Go.Proofs.YtokdcfehnhifhaaGreatDoor
