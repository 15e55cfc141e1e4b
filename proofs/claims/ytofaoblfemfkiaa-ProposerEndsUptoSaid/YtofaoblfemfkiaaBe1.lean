/- Parts of the proof: FwB FwA FwC FwD FwE FwF FwG FwM FwN FwR FwS Facts Defs A. -/
import Derived.WalkKit
import Derived.KernelRfl
import Derived.OrdersHeld
import Derived.Deep.RegionHeld3
import Derived.Deep.Draws
import Derived.Maps.AppendAt
import Derived.Laws.MakeOwn
import Derived.RangeFuncRecord
import Derived.Laws.Slices
import Derived.Laws.CopyRow
import Derived.Laws.BytesArg
import Derived.Test.YtofaoblfemfkiaaProg
set_option linter.unusedVariables false
set_option linter.unusedSimpArgs false
namespace Go.Fw
theorem zn1 (b : Bool) : ((!b) = true) = (b = false) := Bool.not_eq_true' b
theorem zn2 (b : Bool) : ((!b) = false) = (b = true) := Bool.not_eq_false' b
theorem zn3 (p : Prop) [Decidable p] : (decide p = true) = p := decide_eq_true_eq
theorem zn4 {p : Prop} [Decidable p] : decide p = false ↔ ¬ p := decide_eq_false_iff_not
theorem zn5 {a b : Int} : ¬ a < b ↔ b ≤ a := Int.not_lt
theorem zn6 {a b : Int} : ¬ a ≤ b ↔ b < a := Int.not_le
theorem zm1 {α : Type _} {a : α} {xs : List α} {i : Nat} : (a :: xs)[i + 1]? = xs[i]? := List.getElem?_cons_succ
theorem zm2 {α : Type _} {a : α} {xs : List α} : (a :: xs)[0]? = some a := List.getElem?_cons_zero
theorem zm3 {α : Type _} (a : α) (xs : List α) (i : Nat) : (a :: xs).eraseIdx (i + 1) = a :: xs.eraseIdx i := List.eraseIdx_cons_succ ..
theorem zm4 {α : Type _} (xs : List α) : xs.eraseIdx 0 = xs.tail := List.eraseIdx_zero ..
theorem zm5 {α : Type _} (a : α) (xs : List α) : (a :: xs).tail = xs := rfl
end Go.Fw
/- A region of operations whose order is open, walked once in one chosen order: soundness of the judgement 'Rg'. No program in sight. -/
namespace Go.Fw
open Go

/-- A value that was read, taken ahead of its time: operation i, how it is reckoned, what it gave. -/
structure Pend where
  i : Nat
  s : Sem Value
  v : Value

def liftV (s : Sem Value) : Sem Next := do pure (.value (← s))

theorem liftV_run {P : Program} {s : Sem Value} {w w' : World} {v : Value} (h : s.run P w = .ok v w') : (liftV s).run P w = .ok (.value v) w' := by
  simp [liftV, h, Result.andThen]

section
variable (P : Program) (ops : Array Oper) (tab : List Nat) (soft : Nat)

def anc (j i : Nat) : Bool := (tab.getD j 0).testBit i
def isSoft (i : Nat) : Bool := soft.testBit i

/-- The ancestors' table is no wider than the edges make it. -/
def tabOk : Bool := (List.range ops.size).all fun j => (List.range ops.size).all fun i => !anc tab j i ||
  match ops[j]? with
  | some o => o.after.any (fun e => Region.binds .any e && decide (e.on < ops.size) && (e.on == i || anc tab e.on i))
  | none => false

def Closed (listed : Array Bool) : Prop := ∀ k, k < ops.size → listed.getD k false = true → ∀ i, i < ops.size → anc tab k i = true → listed.getD i false = true

/-- What was taken ahead still reads so, unless something loud that hangs on it has been done. -/
def Obl (listed : Array Bool) (pend : List Pend) (w : World) : Prop :=
  ∀ p ∈ pend, (∀ k, k < ops.size → listed.getD k false = true → isSoft soft k = false → anc tab k p.i = false) → p.s.run P w = .ok p.v w

def anyP (Q : Exit → Act → World → Prop) : Nat → Array Bool → List Pend → Act → World → Prop
  | 0, listed, _, a, w => Region.ready .any ops listed = [] ∧ Q .normal a w
  | fuel + 1, listed, pend, a, w =>
    (Region.ready .any ops listed = [] → Q .normal a w) ∧
    ∀ i ∈ Region.ready .any ops listed, wpOp P ops Q i (fun a' w' => Obl P ops tab soft (listed.setIfInBounds i true) pend w' ∧ anyP Q fuel (listed.setIfInBounds i true) pend a' w') a w

variable {P ops tab soft} {Q : Exit → Act → World → Prop}

theorem anyP_any : ∀ (fuel : Nat) (listed : Array Bool) (pend : List Pend) (a : Act) (w : World), anyP P ops tab soft Q fuel listed pend a w → wpAny P .any ops Q fuel listed a w
  | 0, _, _, _, _, h => h
  | fuel + 1, _, _, _, _, h => ⟨h.1, fun i hi => wpOp_mono (fun a' w' h' => anyP_any fuel _ _ a' w' h'.2) (h.2 i hi)⟩

theorem Obl.tail {listed : Array Bool} {p : Pend} {pend : List Pend} {w : World} (h : Obl P ops tab soft listed (p :: pend) w) : Obl P ops tab soft listed pend w :=
  fun q hq => h q (List.mem_cons_of_mem _ hq)

theorem anyP_tail : ∀ (fuel : Nat) (listed : Array Bool) (p : Pend) (pend : List Pend) (a : Act) (w : World), anyP P ops tab soft Q fuel listed (p :: pend) a w → anyP P ops tab soft Q fuel listed pend a w
  | 0, _, _, _, _, _, h => h
  | fuel + 1, _, _, _, _, _, h => ⟨h.1, fun i hi => wpOp_mono (fun a' w' h' => ⟨h'.1.tail, anyP_tail fuel _ _ _ a' w' h'.2⟩) (h.2 i hi)⟩

theorem getD_set {listed : Array Bool} {i k : Nat} : (listed.setIfInBounds i true).getD k false = (if i = k ∧ k < listed.size then true else listed.getD k false) := by
  by_cases h : i = k
  · subst h
    by_cases hl : i < listed.size
    · simp [hl]
    · simp [hl]
  · simp [h, Array.getElem?_setIfInBounds_ne h]

theorem closed_ready (ht : tabOk ops tab = true) {listed : Array Bool} (hc : Closed ops tab listed) {j : Nat} (hj : j ∈ Region.ready .any ops listed) :
    ∀ i, i < ops.size → anc tab j i = true → listed.getD i false = true := by
  intro i hi ha
  obtain ⟨_, o, ho, hall⟩ := mem_ready.1 hj
  have hjl : j < ops.size := (Array.getElem?_eq_some_iff.1 ho).1
  simp only [tabOk, List.all_eq_true, List.mem_range] at ht
  have h1 := ht j hjl i hi
  simp only [ha, Bool.not_true, Bool.false_or, ho] at h1
  obtain ⟨e, he, hb⟩ := Array.any_eq_true'.1 h1
  simp only [Bool.and_eq_true, Bool.or_eq_true, beq_iff_eq, decide_eq_true_eq] at hb
  have hon := hall e he hb.1.1
  rcases hb.2 with h | h
  · rw [← h]; exact hon
  · exact hc e.on hb.1.2 hon i hi h

theorem closed_set (ht : tabOk ops tab = true) {listed : Array Bool} (hc : Closed ops tab listed) {j : Nat} (hj : j ∈ Region.ready .any ops listed) :
    Closed ops tab (listed.setIfInBounds j true) := by
  intro k hk hl i hi ha
  by_cases hjk : j = k
  · subst hjk
    exact getD_set_true (closed_ready ht hc hj i hi ha)
  · rw [getD_set_ne false hjk] at hl
    exact getD_set_true (hc k hk hl i hi ha)

/-- What 'oi' gives now: its value, and how; or it is passed over. -/
def Now (ops : Array Oper) (oi : Oper) (s : Sem Value) (v : Value) (a : Act) : Prop :=
  (Region.wanted oi (yielded ops a.tmps) = true ∧ execOp a.eval oi = liftV s) ∨ (Region.wanted oi (yielded ops a.tmps) = false ∧ v = undef)

theorem Now.of_same {o : Oper} {s : Sem Value} {v : Value} {a a' : Act} (hy : Now ops o s v a) (he : execOp a'.eval o = execOp a.eval o)
    (hw : Region.wanted o (yielded ops a'.tmps) = Region.wanted o (yielded ops a.tmps)) : Now ops o s v a' := by
  unfold Now at *
  rw [he, hw]
  exact hy

theorem Now.wpOp {i : Nat} {o : Oper} {s : Sem Value} {v : Value} {a : Act} (hi : ops[i]? = some o) (hy : Now ops o s v a)
    {K : Act → World → Prop} {w : World} (hs : s.run P w = .ok v w) (h : K (a.put o.dst v) w) : wpOp P ops Q i K a w := by
  unfold Go.wpOp
  simp only [hi]
  rcases hy with ⟨hw, hv⟩ | ⟨hw, rfl⟩
  · simp only [hw, if_true, Oper.wp, hv, liftV_run hs, Oper.upon]; exact .inl h
  · simp only [hw, Bool.false_eq_true, if_false]; exact h

theorem wpOp_putN {j : Nat} {oi oj : Oper} {s : Sem Value} {v : Value} (hj : ops[j]? = some oj) (hap : oi.apart ops oj = true)
    (hsi : ∀ cs b, oi.op ≠ .select cs b) (hsj : ∀ cs b, oj.op ≠ .select cs b)
    (hQ : ∀ c a w, Q (.panic c) (a.put oi.dst v) w → Q (.panic c) a w) {K : Act → World → Prop} {a : Act} {w : World}
    (hy : Now ops oi s v a) (h : wpOp P ops Q j K (a.put oi.dst v) w) :
    wpOp P ops Q j (fun a' w' => Now ops oi s v a' ∧ K (a'.put oi.dst v) w') a w := by
  obtain ⟨h1, h2, h3⟩ := Oper.apart_spec hap
  have keep : ∀ (a : Act), Now ops oi s v a → ∀ u, Now ops oi s v (a.put oj.dst u) := fun a hy u =>
    hy.of_same (execOp_put oi hsi a oj.dst u h3) (wanted_put oi a oj.dst u h3)
  have keepD : ∀ d, Now ops oi s v { a with defers := d :: a.defers } := fun d => hy.of_same rfl rfl
  unfold wpOp at *
  simp only [hj] at *
  rw [wanted_put oj a oi.dst v h1] at h
  split
  · rename_i hw
    simp only [hw, if_true] at h
    rcases h with h | ⟨hasks, hlets⟩
    case inr => exact .inr ⟨by unfold Oper.asks at *; rw [execOp_put oj hsj a oi.dst v h1] at hasks; exact hasks, hlets⟩
    refine .inl ?_
    unfold Oper.wp at *
    rw [execOp_put oj hsj a oi.dst v h1] at h
    generalize (execOp a.eval oj).run P w = r at *
    cases r with
    | ok n w' =>
      cases n <;> simp only [Oper.upon] at h ⊢
      case value u => exact ⟨keep a hy u, by rw [← Act.put_comm a v u h2]; exact h⟩
      case skip => exact ⟨keep a hy _, by rw [← Act.put_comm a v undef h2]; exact h⟩
      case defer d =>
        refine ⟨keep _ (keepD d) _, ?_⟩
        rw [← Act.put_comm _ v undef h2, ← Act.put_defers]
        exact h
      case enter f args =>
        refine Calls.mono h fun e w'' he => ?_
        cases e with
        | returned u => exact ⟨keep a hy u, by rw [← Act.put_comm a v u h2]; exact he⟩
        | panicked c => exact hQ _ _ _ he
        | outgrown => exact he
      case row row args => exact Rows.mono h fun u w'' he => ⟨keep a hy u, by rw [← Act.put_comm a v u h2]; exact he⟩
    | halt x w' =>
      cases x <;> simp only [Oper.upon] at h ⊢
      case panic u => exact hQ _ _ _ h
  · rename_i hw
    simp only [hw] at h
    exact ⟨keep a hy _, by rw [← Act.put_comm a v undef h2]; exact h⟩

/-- A soft operation that may come up now may be taken first. -/
theorem anyP_first (ht : tabOk ops tab = true) {i : Nat} {oi : Oper} {s : Sem Value} {v : Value} (hi : ops[i]? = some oi) (hsoft : isSoft soft i = true)
    (hsel : ∀ (j : Nat) (o : Oper) cs b, ops[j]? = some o → o.op ≠ .select cs b)
    (hQ : ∀ c a w, Q (.panic c) (a.put oi.dst v) w → Q (.panic c) a w) :
    ∀ (fuel : Nat) (listed : Array Bool) (pend : List Pend) (a : Act) (w : World), listed.size = ops.size → Closed ops tab listed → Obl P ops tab soft listed pend w →
      (∀ j oj, ops[j]? = some oj → j ≠ i → listed.getD j true = false → (∀ e ∈ oj.after, Region.binds .any e = true → e.on ≠ i) → oi.apart ops oj = true) →
      i ∈ Region.ready .any ops listed → Now ops oi s v a → s.run P w = .ok v w →
      anyP P ops tab soft Q fuel (listed.setIfInBounds i true) (⟨i, s, v⟩ :: pend) (a.put oi.dst v) w → anyP P ops tab soft Q (fuel + 1) listed pend a w := by
  have hil : i < ops.size := (Array.getElem?_eq_some_iff.1 hi).1
  have oblSet : ∀ (listed : Array Bool) (pend : List Pend) (w : World), Obl P ops tab soft listed pend w → Obl P ops tab soft (listed.setIfInBounds i true) pend w := by
    intro listed pend w ho p hp hk
    refine ho p hp fun k hkl hl hs => ?_
    exact hk k hkl (getD_set_true hl) hs
  intro fuel
  induction fuel with
  | zero =>
    intro listed pend a w hsz hc ho _ hr hy hrun H
    refine ⟨fun h => (by rw [h] at hr; cases hr), fun j hj => ?_⟩
    by_cases hji : j = i
    · subst hji; exact hy.wpOp hi hrun ⟨oblSet _ _ _ ho, anyP_tail _ _ _ _ _ _ H⟩
    · have := ready_mono hj hji
      rw [H.1] at this
      cases this
  | succ fuel ih =>
    intro listed pend a w hsz hc ho hfree hr hy hrun H
    refine ⟨fun h => (by rw [h] at hr; cases hr), fun j hj => ?_⟩
    by_cases hji : j = i
    · subst hji; exact hy.wpOp hi hrun ⟨oblSet _ _ _ ho, anyP_tail _ _ _ _ _ _ H⟩
    · have h1 := H.2 j (ready_mono hj hji)
      obtain ⟨hjun, oj, hoj, hall⟩ := mem_ready.1 hj
      have hiun : listed.getD i false = false := by
        have h0 := (mem_ready.1 hr).1
        rcases Nat.lt_or_ge i listed.size with h' | h'
        · simp [h'] at h0 ⊢; exact h0
        · simp [Array.getElem?_eq_none h']
      have hnot : ∀ e ∈ oj.after, Region.binds .any e = true → e.on ≠ i := fun e he hb heq => by
        have h1 := hall e he hb
        rw [heq, hiun] at h1
        cases h1
      have h2 := wpOp_putN hoj (hfree j oj hoj hji hjun hnot) (fun cs b => hsel i oi cs b hi) (fun cs b => hsel j oj cs b hoj) hQ hy h1
      have hfree' : ∀ k ok, ops[k]? = some ok → k ≠ i → (listed.setIfInBounds j true).getD k true = false →
          (∀ e ∈ ok.after, Region.binds .any e = true → e.on ≠ i) → oi.apart ops ok = true := fun k ok hk hki hun hno => by
        refine hfree k ok hk hki ?_ hno
        by_cases hjk : j = k
        · subst hjk; exact hjun
        · rw [getD_set_ne true hjk] at hun; exact hun
      have hc' := closed_set ht hc hj
      refine wpOp_mono (fun a' w' h3 => ?_) h2
      obtain ⟨hy', hob, h4⟩ := h3
      -- the value taken ahead still reads so
      have hrun' : s.run P w' = .ok v w' := by
        refine hob ⟨i, s, v⟩ (List.mem_cons_self ..) fun k hk hl hs => ?_
        cases ha : anc tab k i with
        | false => rfl
        | true =>
          exfalso
          by_cases hjk : j = k
          · subst hjk
            have := closed_ready ht hc hj i hil ha
            rw [hiun] at this; cases this
          · rw [getD_set_ne false hjk] at hl
            by_cases hik : i = k
            · subst hik; rw [hsoft] at hs; cases hs
            · rw [getD_set_ne false hik] at hl
              have := hc k hk hl i hil ha
              rw [hiun] at this; cases this
      have ho' : Obl P ops tab soft (listed.setIfInBounds j true) pend w' := by
        intro p hp hk
        refine hob p (List.mem_cons_of_mem _ hp) fun k hkl hl hs => ?_
        by_cases hik : i = k
        · subst hik; rw [hsoft] at hs; cases hs
        · rw [Array.setIfInBounds_comm _ _ (Ne.symm hji), getD_set_ne false hik] at hl
          exact hk k hkl hl hs
      refine ⟨ho', ih (listed.setIfInBounds j true) pend a' w' (by simpa using hsz) hc' ho' hfree' (ready_mono hr (Ne.symm hji)) hy' hrun' ?_⟩
      rw [Array.setIfInBounds_comm _ _ hji]
      exact h4

/-! ### The judgement -/
variable (P ops tab soft)
/-- The pending values behind operation i, in the world w': those on which i does not hang. -/
def Still (i : Nat) (w' : World) : List Pend → Prop
  | [] => True
  | p :: r => (anc tab i p.i = false → p.s.run P w' = .ok p.v w') ∧ Still i w' r

/-- The orders in which a region is walked: one operation behind another; where several that act may come up: each. -/
inductive OT where
  | nil
  | op (i : Nat) (t : OT)
  | alt (i : Nat) (t r : OT)
def OT.lin : OT → List Nat
  | .nil => []
  | .op i t => i :: t.lin
  | .alt i t _ => i :: t.lin
def OT.straight : OT → Bool
  | .nil => true
  | .op _ t => t.straight
  | .alt .. => false
def OT.len : OT → Nat
  | .nil => 0
  | .op _ t => t.len + 1
  | .alt _ t r => max (t.len + 1) r.len
def OT.heads : OT → List Nat
  | .nil => []
  | .op i _ => [i]
  | .alt i _ r => i :: r.heads

/-- 'ord' is carried out in this order (d: the order is open, so pending values are held). -/
def Rg (d : Bool) (Q : Exit → Act → World → Prop) : OT → List Pend → Act → World → Prop
  | .nil, _, a, w => Q .normal a w
  | .alt i rest r, pend, a, w => (∃ o, ops[i]? = some o ∧
    ((Region.wanted o (yielded ops a.tmps) = false ∧ Rg d Q rest pend (a.put o.dst undef) w) ∨
     (Region.wanted o (yielded ops a.tmps) = true ∧ isSoft soft i = true ∧ ∃ s v, execOp a.eval o = liftV s ∧
        (((∀ w, s.run P w = .ok v w) ∧ Rg d Q rest pend (a.put o.dst v) w) ∨ (s.run P w = .ok v w ∧ Rg d Q rest (⟨i, s, v⟩ :: pend) (a.put o.dst v) w))) ∨
     (Region.wanted o (yielded ops a.tmps) = true ∧ isSoft soft i = false ∧ o.wp P a w (fun a' w' => (d = true → Still P tab i w' pend) ∧ Rg d Q rest pend a' w') Q))) ∧ Rg d Q r pend a w
  | .op i rest, pend, a, w => ∃ o, ops[i]? = some o ∧
    ((Region.wanted o (yielded ops a.tmps) = false ∧ Rg d Q rest pend (a.put o.dst undef) w) ∨
     (Region.wanted o (yielded ops a.tmps) = true ∧ isSoft soft i = true ∧ ∃ s v, execOp a.eval o = liftV s ∧
        (((∀ w, s.run P w = .ok v w) ∧ Rg d Q rest pend (a.put o.dst v) w) ∨ (s.run P w = .ok v w ∧ Rg d Q rest (⟨i, s, v⟩ :: pend) (a.put o.dst v) w))) ∨
     (Region.wanted o (yielded ops a.tmps) = true ∧ isSoft soft i = false ∧ o.wp P a w (fun a' w' => (d = true → Still P tab i w' pend) ∧ Rg d Q rest pend a' w') Q))

/-- The static look at the order. (b: one of several.) -/
def ordOk : OT → Bool → Array Bool → Bool
  | .nil, _, listed => (Region.ready .any ops listed).isEmpty
  | .op i rest, b, listed => (if isSoft soft i then !b && ((Region.ready .any ops listed).contains i && Region.free .any ops listed i) else (Region.ready .any ops listed).contains i && (b || Region.ready .any ops listed == [i])) && ordOk rest false (listed.setIfInBounds i true)
  | .alt i rest r, b, listed => !isSoft soft i && (Region.ready .any ops listed).contains i && (b || (Region.ready .any ops listed).all (i :: r.heads).contains) && !r.heads.isEmpty && ordOk rest false (listed.setIfInBounds i true) && ordOk r true listed

variable {P ops tab soft}

theorem anyP_eff {i : Nat} {fuel : Nat} {listed : Array Bool} {pend : List Pend} {a : Act} {w : World} (hr : Region.ready .any ops listed = [i])
    (h : wpOp P ops Q i (fun a' w' => Obl P ops tab soft (listed.setIfInBounds i true) pend w' ∧ anyP P ops tab soft Q fuel (listed.setIfInBounds i true) pend a' w') a w) :
    anyP P ops tab soft Q (fuel + 1) listed pend a w := by
  refine ⟨fun h0 => (by rw [hr] at h0; cases h0), fun j hj => ?_⟩
  rw [hr] at hj
  cases hj with
  | head => exact h
  | tail _ hj => cases hj

theorem anyP_done {listed : Array Bool} {pend : List Pend} {a : Act} {w : World} (hr : Region.ready .any ops listed = []) (h : Q .normal a w) :
    ∀ fuel, anyP P ops tab soft Q fuel listed pend a w
  | 0 => ⟨hr, h⟩
  | _ + 1 => ⟨fun _ => h, by rw [hr]; simp⟩

theorem still_spec {i : Nat} {w' : World} : ∀ {pend : List Pend}, Still P tab i w' pend → ∀ p ∈ pend, anc tab i p.i = false → p.s.run P w' = .ok p.v w'
  | _ :: _, h, p, hp, ha => by
    cases hp with
    | head => exact h.1 ha
    | tail _ hp => exact still_spec h.2 p hp ha

theorem rg_moreG {d : Bool} : ∀ (ord : OT) {pend pend' : List Pend} (_ : ∀ i w, Still P tab i w pend → Still P tab i w pend') {a : Act} {w : World}, Rg P ops tab soft d Q ord pend a w → Rg P ops tab soft d Q ord pend' a w := by
  intro ord
  induction ord with
  | nil => intro _ _ _ a w h; exact h
  | op i rest ih =>
    intro pend pend' hp a w h
    obtain ⟨o, ho, h⟩ := h
    refine ⟨o, ho, ?_⟩
    rcases h with ⟨hw, h⟩ | ⟨hw, hs, s, v, he, h⟩ | ⟨hw, hs, h⟩
    · exact .inl ⟨hw, ih hp h⟩
    · refine .inr (.inl ⟨hw, hs, s, v, he, ?_⟩)
      rcases h with ⟨hall, h⟩ | ⟨hr, h⟩
      · exact .inl ⟨hall, ih hp h⟩
      · exact .inr ⟨hr, ih (pend := ⟨i, s, v⟩ :: pend) (pend' := ⟨i, s, v⟩ :: pend') (fun j w hh => And.intro hh.1 (hp j w hh.2)) h⟩
    · exact .inr (.inr ⟨hw, hs, Oper.wp_mono (fun a' w' h' => ⟨fun hd => hp i w' (h'.1 hd), ih hp h'.2⟩) h⟩)
  | alt i rest r ih ihr =>
    intro pend pend' hp a w h
    obtain ⟨⟨o, ho, h⟩, h2⟩ := h
    refine ⟨⟨o, ho, ?_⟩, ihr hp h2⟩
    rcases h with ⟨hw, h⟩ | ⟨hw, hs, s, v, he, h⟩ | ⟨hw, hs, h⟩
    · exact .inl ⟨hw, ih hp h⟩
    · refine .inr (.inl ⟨hw, hs, s, v, he, ?_⟩)
      rcases h with ⟨hall, h⟩ | ⟨hr, h⟩
      · exact .inl ⟨hall, ih hp h⟩
      · exact .inr ⟨hr, ih (pend := ⟨i, s, v⟩ :: pend) (pend' := ⟨i, s, v⟩ :: pend') (fun j w hh => And.intro hh.1 (hp j w hh.2)) h⟩
    · exact .inr (.inr ⟨hw, hs, Oper.wp_mono (fun a' w' h' => ⟨fun hd => hp i w' (h'.1 hd), ih hp h'.2⟩) h⟩)
theorem rg_moreP {pend : List Pend} {a : Act} {w : World} {i : Nat} {s : Sem Value} {v : Value} (ord : OT) (hall : ∀ w, s.run P w = .ok v w) (h : Rg P ops tab soft true Q ord pend a w) : Rg P ops tab soft true Q ord (⟨i, s, v⟩ :: pend) a w :=
  rg_moreG ord (pend := pend) (pend' := ⟨i, s, v⟩ :: pend) (fun _ _ hh => And.intro (fun _ => hall _) hh) h
theorem rg_more {pend : List Pend} {a : Act} {w : World} {i : Nat} {v : Value} (ord : OT) (h : Rg P ops tab soft true Q ord pend a w) : Rg P ops tab soft true Q ord (⟨i, Sem.pure v, v⟩ :: pend) a w :=
  rg_moreP ord (fun _ => rfl) h

/-- A step that acts. -/
theorem step_eff {i : Nat} {rest : OT} {fuel : Nat} {listed : Array Bool} {pend : List Pend} {a : Act} {w : World} (hsoft : isSoft soft i = false) (hil : i < ops.size) (hsz : listed.size = ops.size) (ho : Obl P ops tab soft listed pend w)
    (hnext : ∀ a' w', Obl P ops tab soft (listed.setIfInBounds i true) pend w' → Rg P ops tab soft true Q rest pend a' w' → anyP P ops tab soft Q fuel (listed.setIfInBounds i true) pend a' w') {o : Oper} (hoi : ops[i]? = some o)
    (h : (Region.wanted o (yielded ops a.tmps) = false ∧ Rg P ops tab soft true Q rest pend (a.put o.dst undef) w) ∨
     (Region.wanted o (yielded ops a.tmps) = true ∧ isSoft soft i = true ∧ ∃ s v, execOp a.eval o = liftV s ∧
        (((∀ w, s.run P w = .ok v w) ∧ Rg P ops tab soft true Q rest pend (a.put o.dst v) w) ∨ (s.run P w = .ok v w ∧ Rg P ops tab soft true Q rest (⟨i, s, v⟩ :: pend) (a.put o.dst v) w))) ∨
     (Region.wanted o (yielded ops a.tmps) = true ∧ isSoft soft i = false ∧ o.wp P a w (fun a' w' => (true = true → Still P tab i w' pend) ∧ Rg P ops tab soft true Q rest pend a' w') Q)) :
    wpOp P ops Q i (fun a' w' => Obl P ops tab soft (listed.setIfInBounds i true) pend w' ∧ anyP P ops tab soft Q fuel (listed.setIfInBounds i true) pend a' w') a w := by
  rcases h with ⟨hw, h⟩ | ⟨_, hs, _⟩ | ⟨hw, _, h⟩
  · unfold wpOp
    simp only [hoi, hw, Bool.false_eq_true, if_false]
    have ho' : Obl P ops tab soft (listed.setIfInBounds i true) pend w := fun p hp hk => ho p hp fun k hkl hl hs => hk k hkl (getD_set_true hl) hs
    exact ⟨ho', hnext _ _ ho' h⟩
  · rw [hs] at hsoft; cases hsoft
  · unfold wpOp
    simp only [hoi, hw, if_true]
    refine .inl (Oper.wp_mono (fun a' w' h' => ?_) h)
    have ho' : Obl P ops tab soft (listed.setIfInBounds i true) pend w' := by
      intro p hp hk
      refine still_spec (h'.1 rfl) p hp ?_
      by_cases hlt : i < listed.size
      · exact hk i hil (by rw [getD_set]; simp [hlt]) hsoft
      · omega
    exact ⟨ho', hnext _ _ ho' h'.2⟩

theorem rg_sound (ht : tabOk ops tab = true) (hsel : Region.noSelect ops = true) (hQ : ∀ c a d v w, Q (.panic c) (Act.put a d v) w → Q (.panic c) a w) :
    ∀ (ord : OT), (∀ (fuel : Nat) (listed : Array Bool) (pend : List Pend) (a : Act) (w : World), ord.len ≤ fuel → listed.size = ops.size → Closed ops tab listed → Obl P ops tab soft listed pend w →
      ordOk ops soft ord false listed = true → Rg P ops tab soft true Q ord pend a w → anyP P ops tab soft Q fuel listed pend a w) ∧
      (∀ (fuel : Nat) (listed : Array Bool) (pend : List Pend) (a : Act) (w : World), ord.len ≤ fuel + 1 → listed.size = ops.size → Closed ops tab listed → Obl P ops tab soft listed pend w →
      ordOk ops soft ord true listed = true → Rg P ops tab soft true Q ord pend a w → ∀ j ∈ ord.heads, wpOp P ops Q j (fun a' w' => Obl P ops tab soft (listed.setIfInBounds j true) pend w' ∧ anyP P ops tab soft Q fuel (listed.setIfInBounds j true) pend a' w') a w) := by
  intro ord
  induction ord with
  | nil =>
    refine ⟨?_, fun _ _ _ _ _ _ _ _ _ _ _ j hj => by cases hj⟩
    intro fuel listed pend a w _ _ _ _ hk h
    exact anyP_done (by simpa [ordOk] using hk) h fuel
  | op i rest ih =>
    constructor
    · intro fuel listed pend a w hf hsz hc ho hk h
      obtain ⟨fuel, rfl⟩ : ∃ f, fuel = f + 1 := ⟨fuel - 1, by simp [OT.len] at hf; omega⟩
      have hf' : rest.len ≤ fuel := by simpa [OT.len] using hf
      simp only [ordOk, Bool.and_eq_true] at hk
      obtain ⟨hk1, hk2⟩ := hk
      obtain ⟨o, hoi, h⟩ := h
      have hil : i < ops.size := (Array.getElem?_eq_some_iff.1 hoi).1
      cases hsoft : isSoft soft i with
      | true =>
        simp only [hsoft, if_true, Bool.and_eq_true] at hk1
        have hr : i ∈ Region.ready .any ops listed := by simpa using hk1.2.1
        have hfree := Region.free_spec (md := .any) (listed := listed) hoi hk1.2.2
        have hc' := closed_set ht hc hr
        have hset : ∀ (pend : List Pend), Obl P ops tab soft listed pend w → Obl P ops tab soft (listed.setIfInBounds i true) pend w :=
          fun pend ho p hp hk => ho p hp fun k hkl hl hs => hk k hkl (getD_set_true hl) hs
        have hcons : ∀ (s : Sem Value) (v : Value), s.run P w = .ok v w → Obl P ops tab soft (listed.setIfInBounds i true) (⟨i, s, v⟩ :: pend) w := by
          intro s v hs p hp hk
          cases hp with
          | head => exact hs
          | tail _ hp => exact hset pend ho p hp hk
        rcases h with ⟨hw, h⟩ | ⟨hw, _, s, v, he, h⟩ | ⟨_, hs, _⟩
        · have hs : (Sem.pure undef : Sem Value).run P w = .ok undef w := rfl
          refine anyP_first ht hoi hsoft (Region.noSelect_spec hsel) (fun c a w => hQ c a _ _ w) fuel listed pend a w hsz hc ho (fun j oj => hfree j oj) hr (.inr ⟨hw, rfl⟩) hs ?_
          refine ih.1 fuel _ _ _ w hf' (by simpa using hsz) hc' (hcons _ _ hs) hk2 ?_
          exact rg_more rest h
        · rcases h with ⟨hall, h⟩ | ⟨hs, h⟩
          · refine anyP_first ht hoi hsoft (Region.noSelect_spec hsel) (fun c a w => hQ c a _ _ w) fuel listed pend a w hsz hc ho (fun j oj => hfree j oj) hr (.inl ⟨hw, he⟩) (hall w) ?_
            refine ih.1 fuel _ _ _ w hf' (by simpa using hsz) hc' (hcons _ _ (hall w)) hk2 ?_
            exact rg_moreP rest hall h
          · refine anyP_first ht hoi hsoft (Region.noSelect_spec hsel) (fun c a w => hQ c a _ _ w) fuel listed pend a w hsz hc ho (fun j oj => hfree j oj) hr (.inl ⟨hw, he⟩) hs ?_
            exact ih.1 fuel _ _ _ w hf' (by simpa using hsz) hc' (hcons _ _ hs) hk2 h
        · rw [hs] at hsoft; cases hsoft
      | false =>
        simp only [hsoft, Bool.false_eq_true, if_false, Bool.and_eq_true, Bool.false_or, beq_iff_eq] at hk1
        have hr : i ∈ Region.ready .any ops listed := by rw [hk1.2]; exact List.mem_cons_self ..
        have hc' := closed_set ht hc hr
        exact anyP_eff hk1.2 (step_eff hsoft hil hsz ho (fun a' w' ho' h' => ih.1 fuel _ _ _ w' hf' (by simpa using hsz) hc' ho' hk2 h') hoi h)
    · intro fuel listed pend a w hf hsz hc ho hk h j hj
      have hj' : j = i := by simpa [OT.heads] using hj
      subst hj'
      simp only [ordOk, Bool.and_eq_true] at hk
      obtain ⟨hk1, hk2⟩ := hk
      obtain ⟨o, hoi, h⟩ := h
      have hil : j < ops.size := (Array.getElem?_eq_some_iff.1 hoi).1
      cases hsoft : isSoft soft j with
      | true => simp [hsoft] at hk1
      | false =>
        simp only [hsoft, Bool.false_eq_true, if_false, Bool.and_eq_true] at hk1
        have hc' := closed_set ht hc (by simpa using hk1.1)
        exact step_eff hsoft hil hsz ho (fun a' w' ho' h' => ih.1 fuel _ _ _ w' (by simp [OT.len] at hf; omega) (by simpa using hsz) hc' ho' hk2 h') hoi h
  | alt i rest r ih ihr =>
    have two : ∀ (b : Bool) (fuel : Nat) (listed : Array Bool) (pend : List Pend) (a : Act) (w : World), (OT.alt i rest r).len ≤ fuel + 1 → listed.size = ops.size → Closed ops tab listed → Obl P ops tab soft listed pend w →
        ordOk ops soft (.alt i rest r) b listed = true → Rg P ops tab soft true Q (.alt i rest r) pend a w → ∀ j ∈ (OT.alt i rest r).heads, wpOp P ops Q j (fun a' w' => Obl P ops tab soft (listed.setIfInBounds j true) pend w' ∧ anyP P ops tab soft Q fuel (listed.setIfInBounds j true) pend a' w') a w := by
      intro b fuel listed pend a w hf hsz hc ho hk h j hj
      simp only [ordOk, Bool.and_eq_true, Bool.not_eq_true'] at hk
      obtain ⟨⟨⟨⟨⟨hsoft, hrd⟩, _⟩, _⟩, hk2⟩, hk3⟩ := hk
      obtain ⟨⟨o, hoi, h⟩, h2⟩ := h
      simp only [OT.len] at hf
      rcases List.mem_cons.1 hj with hj | hj
      · subst hj
        have hil : j < ops.size := (Array.getElem?_eq_some_iff.1 hoi).1
        have hc' := closed_set ht hc (by simpa using hrd)
        exact step_eff hsoft hil hsz ho (fun a' w' ho' h' => ih.1 fuel _ _ _ w' (by omega) (by simpa using hsz) hc' ho' hk2 h') hoi h
      · exact ihr.2 fuel listed pend a w (by omega) hsz hc ho hk3 h2 j hj
    refine ⟨?_, fun fuel listed pend a w hf hsz hc ho hk h => two true fuel listed pend a w hf hsz hc ho hk h⟩
    intro fuel listed pend a w hf hsz hc ho hk h
    obtain ⟨fuel, rfl⟩ : ∃ f, fuel = f + 1 := ⟨fuel - 1, by simp [OT.len] at hf; omega⟩
    have hk' := hk
    simp only [ordOk, Bool.and_eq_true, Bool.false_or, List.all_eq_true] at hk'
    refine ⟨fun h0 => ?_, fun j hj => two false fuel listed pend a w hf hsz hc ho hk h j (by simpa [OT.heads] using hk'.1.1.1.2 j hj)⟩
    have : i ∈ Region.ready .any ops listed := by simpa using hk'.1.1.1.1.2
    rw [h0] at this; cases this
/-- **A region whose order is open: one walk, in the order 'ord'.** -/
theorem wp_region_open {id : Nat} {a : Act} {w : World} (hm : P.follows .mixedOrders = true) (ord : OT)
    (hk : (tabOk ops tab && Region.noSelect ops && ordOk ops soft ord false (Array.replicate ops.size false) && decide (ord.len ≤ ops.size)) = true)
    (hQ : ∀ c a d v w, Q (.panic c) (Act.put a d v) w → Q (.panic c) a w)
    (h : ∀ w', w' = { w with drawn := w.drawn + 1 } → Rg P ops tab soft true Q ord [] a w') : (Code.region id ops true).wp P Q a w := by
  simp only [Bool.and_eq_true, decide_eq_true_eq] at hk
  obtain ⟨⟨⟨h1, h2⟩, h3⟩, h4⟩ := hk
  refine wp_region_any hm (anyP_any (tab := tab) (soft := soft) _ _ [] _ _ ?_)
  refine (rg_sound h1 h2 hQ ord).1 ops.size _ [] a _ h4 (by simp) ?_ (fun p hp => by cases hp) h3 (h _ rfl)
  intro k hk hl
  simp [hk] at hl

theorem rg_wpOps : ∀ (ord : OT) (_ : ord.straight = true) (pend : List Pend) (a : Act) (w : World), Rg P ops tab soft false Q ord pend a w → wpOps P ops Q ord.lin a w
  | .nil, _, _, _, _, h => h
  | .alt .., hs, _, _, _, _ => by cases hs
  | .op i rest, hst, pend, a, w, h => by
    obtain ⟨o, ho, h⟩ := h
    unfold OT.lin wpOps
    simp only [ho]
    have hst' : rest.straight = true := hst
    rcases h with ⟨hw, h⟩ | ⟨hw, hs, s, v, he, h⟩ | ⟨hw, hs, h⟩
    · simp only [hw, Bool.false_eq_true, if_false]; exact rg_wpOps rest hst' _ _ _ h
    · simp only [hw, if_true]
      refine .inl ?_
      rcases h with ⟨hall, h⟩ | ⟨hr, h⟩
      · unfold Oper.wp; rw [he, liftV_run (hall w)]; exact rg_wpOps rest hst' _ _ _ h
      · unfold Oper.wp; rw [he, liftV_run hr]; exact rg_wpOps rest hst' _ _ _ h
    · simp only [hw, if_true]
      exact .inl (Oper.wp_mono (fun a' w' h' => rg_wpOps rest hst' _ _ _ h'.2) h)

/-- A region in the text's order. -/
theorem wp_region_text {id : Nat} {a : Act} {w : World} (ord : OT) (ho : ord.lin = List.range ops.size) (hst : ord.straight = true) (h : Rg P ops tab soft false Q ord [] a w) : (Code.region id ops false).wp P Q a w :=
  wp_region (by rw [← ho]; exact rg_wpOps ord hst [] a w h)
end
end Go.Fw

/- What the call itself has made, told as a list of blocks ('Own'); the slots as a list of values ('Rel'); steps of a walk over both. No program in sight. -/
namespace Go.Fw
open Go Go.RowKit

/-! ### Memory -/
structure Ent where
  blk : Option Nat
  ok : Option Obj → Prop

/-- Block g is just these cells. -/
def Ent.cells (g : Nat) (t : TypeId) (cs : List Value) : Ent := ⟨some g, fun o => o = some (.cells cs.toArray t (0, 0))⟩

/-- The world w: what stood in B stands; of what has been made since, L is known. -/
structure Own (B : World) (L : List Ent) (w : World) : Prop where
  os : w.os = B.os
  tape : w.tape = B.tape
  output : w.output = B.output
  size : B.heap.size ≤ w.heap.size
  old : ∀ k, k < B.heap.size → w.heap[k]? = B.heap[k]?
  ok : ∀ e ∈ L, match e.blk with | none => e.ok none | some b => b < w.heap.size ∧ B.heap.size ≤ b ∧ e.ok w.heap[b]?
  apart : (L.filterMap (·.blk)).Nodup

section
variable {B w w' : World} {L L' : List Ent}

theorem Own.refl (B : World) : Own B [] B := ⟨rfl, rfl, rfl, Nat.le_refl _, fun _ _ => rfl, fun _ h => (by cases h), by simp⟩

theorem Own.at_ (h : Own B L w) {e : Ent} (he : e ∈ L) {b : Nat} (hb : e.blk = some b) : b < w.heap.size ∧ B.heap.size ≤ b ∧ e.ok w.heap[b]? := by
  have := h.ok e he
  rw [hb] at this
  exact this

theorem Own.pure_ (h : Own B L w) {e : Ent} (he : e ∈ L) (hb : e.blk = none) : e.ok none := by
  have := h.ok e he
  rw [hb] at this
  exact this

theorem Own.heap (h : Own B L w) {g : Nat} {t : TypeId} {cs : List Value} (hm : Ent.cells g t cs ∈ L) : w.heap[g]? = some (.cells cs.toArray t (0, 0)) :=
  (h.at_ hm rfl).2.2

theorem Own.drew (h : Own B L w) : Own B L { w with drawn := w.drawn + 1 } := ⟨h.os, h.tape, h.output, h.size, h.old, h.ok, h.apart⟩
theorem Own.drew' (h : Own B L w) (hw : w' = { w with drawn := w.drawn + 1 }) : Own B L w' := hw ▸ h.drew
theorem Own.drewN (h : Own B L w) (n : Nat) : Own B L (w.drewN n) := ⟨h.os, h.tape, h.output, h.size, h.old, h.ok, h.apart⟩

/-- Fewer blocks, or in another order. -/
theorem Own.sub (h : Own B L w) (hs : L'.Sublist L) : Own B L' w :=
  ⟨h.os, h.tape, h.output, h.size, h.old, fun e he => h.ok e (hs.subset he), h.apart.sublist (hs.filterMap _)⟩
theorem Own.perm (h : Own B L w) (hp : L.Perm L') : Own B L' w :=
  ⟨h.os, h.tape, h.output, h.size, h.old, fun e he => h.ok e (hp.mem_iff.2 he), (hp.filterMap _).nodup_iff.1 h.apart⟩
theorem Own.tail {e : Ent} (h : Own B (e :: L) w) : Own B L w := h.sub (List.sublist_cons_self _ _)
theorem Own.drop (h : Own B L w) (n : Nat) : Own B (L.drop n) w := h.sub (List.drop_sublist n L)
theorem Own.append_right (h : Own B (L ++ L') w) : Own B L' w := h.sub (List.sublist_append_right _ _)
theorem Own.append_left (h : Own B (L ++ L') w) : Own B L w := h.sub (List.sublist_append_left _ _)

/-- The entry at place i, taken to the head. -/
def front (i : Nat) (L : List Ent) : List Ent :=
  match L[i]? with
  | some e => e :: L.eraseIdx i
  | none => L
theorem perm_erase {α : Type} : ∀ (L : List α) (i : Nat) (e : α), L[i]? = some e → L.Perm (e :: L.eraseIdx i)
  | [], _, _, h => by simp at h
  | x :: L, 0, e, h => by simp at h; subst h; exact List.Perm.refl _
  | x :: L, i + 1, e, h => by
    have := perm_erase L i e (by simpa using h)
    exact (List.Perm.cons x this).trans (List.Perm.swap e x _)

theorem Own.front (h : Own B L w) (i : Nat) : Own B (Fw.front i L) w := by
  unfold Fw.front
  cases hi : L[i]? with
  | none => exact h
  | some e => exact h.perm (perm_erase L i e hi)

/-- A world in which nothing that stood has turned: what is known is known, and a new block may be added. -/
theorem Own.below (h : Own B L w) (hb : Below w.heap.size w w') : Own B L w' := by
  refine ⟨hb.os.trans h.os, hb.tape.trans h.tape, hb.output.trans h.output, Nat.le_trans h.size hb.size, fun k hk => (hb.block k (Nat.lt_of_lt_of_le hk h.size)).trans (h.old k hk), fun e he => ?_, h.apart⟩
  have h1 := h.ok e he
  cases hbk : e.blk with
  | none => rw [hbk] at h1; exact h1
  | some b =>
    rw [hbk] at h1
    exact ⟨Nat.lt_of_lt_of_le h1.1 hb.size, h1.2.1, by rw [hb.block b h1.1]; exact h1.2.2⟩

theorem Own.lt_size (h : Own B L w) {b : Nat} (hb : b ∈ L.filterMap (·.blk)) : b < w.heap.size := by
  obtain ⟨e, he, hbk⟩ := List.mem_filterMap.1 hb
  exact (h.at_ he hbk).1

theorem Own.add (h : Own B L w) {e : Ent} (he : match e.blk with | none => e.ok none | some b => b < w.heap.size ∧ B.heap.size ≤ b ∧ b ∉ L.filterMap (·.blk) ∧ e.ok w.heap[b]?) : Own B (e :: L) w := by
  refine ⟨h.os, h.tape, h.output, h.size, h.old, fun e' he' => ?_, ?_⟩
  · cases he' with
    | head =>
      cases hbk : e.blk with
      | none => rw [hbk] at he; exact he
      | some b => rw [hbk] at he; exact ⟨he.1, he.2.1, he.2.2.2⟩
    | tail _ he' => exact h.ok e' he'
  · cases hbk : e.blk with
    | none => rw [List.filterMap_cons_none hbk]; exact h.apart
    | some b => rw [hbk] at he; rw [List.filterMap_cons_some hbk]; exact List.nodup_cons.2 ⟨he.2.2.1, h.apart⟩

/-- A block that the callee has made, handed back. -/
theorem Own.below_add (h : Own B L w) (hb : Below w.heap.size w w') {e : Ent} (he : match e.blk with | none => e.ok none | some b => w.heap.size ≤ b ∧ b < w'.heap.size ∧ e.ok w'.heap[b]?) : Own B (e :: L) w' := by
  refine (h.below hb).add ?_
  cases hbk : e.blk with
  | none => rw [hbk] at he; exact he
  | some b =>
    rw [hbk] at he
    exact ⟨he.2.1, Nat.le_trans h.size he.1, fun hm => by have := h.lt_size hm; omega, he.2.2⟩

theorem split_at {L : List Ent} {i : Nat} {e : Ent} (hi : L[i]? = some e) : ∃ L1 L2, L = L1 ++ e :: L2 ∧ ∀ e', L.set i e' = L1 ++ e' :: L2 := by
  induction L generalizing i with
  | nil => simp at hi
  | cons x L ih =>
    cases i with
    | zero => simp at hi; subst hi; exact ⟨[], L, rfl, fun _ => rfl⟩
    | succ i =>
      obtain ⟨L1, L2, h1, h2⟩ := ih (by simpa using hi)
      exact ⟨x :: L1, L2, by rw [h1]; rfl, fun e' => by rw [List.set_cons_succ, h2]; rfl⟩

/-- One entry of L turned. -/
theorem Own.turn (h : Own B L w) {i : Nat} {e e' : Ent} (hi : L[i]? = some e) {b : Nat} (hb : e.blk = some b) (hb' : e'.blk = some b)
    (hw : w'.os = w.os ∧ w'.tape = w.tape ∧ w'.output = w.output ∧ w'.heap.size = w.heap.size) (ho : ∀ k, k ≠ b → w'.heap[k]? = w.heap[k]?) (hn : e'.ok w'.heap[b]?) : Own B (L.set i e') w' := by
  obtain ⟨L1, L2, hL, hset⟩ := split_at hi
  have hmem : e ∈ L := List.mem_of_getElem? hi
  obtain ⟨h1, h2, h3⟩ := h.at_ hmem hb
  have hfm : L.filterMap (·.blk) = L1.filterMap (·.blk) ++ b :: L2.filterMap (·.blk) := by rw [hL]; simp [List.filterMap_append, hb]
  have hfm' : (L.set i e').filterMap (·.blk) = L1.filterMap (·.blk) ++ b :: L2.filterMap (·.blk) := by rw [hset]; simp [List.filterMap_append, hb']
  have hnd := h.apart
  rw [hfm] at hnd
  have hother : ∀ x, x ∈ L1 ∨ x ∈ L2 → x ∈ L ∧ x.blk ≠ some b := by
    intro x hx
    refine ⟨by rw [hL]; rcases hx with hx | hx <;> simp [hx], fun hbx => ?_⟩
    rw [List.nodup_append] at hnd
    obtain ⟨_, hn2, hdis⟩ := hnd
    rcases hx with hx | hx
    · exact hdis b (List.mem_filterMap.2 ⟨x, hx, hbx⟩) b (List.mem_cons_self ..) rfl
    · exact (List.nodup_cons.1 hn2).1 (List.mem_filterMap.2 ⟨x, hx, hbx⟩)
  refine ⟨hw.1.trans h.os, hw.2.1.trans h.tape, hw.2.2.1.trans h.output, by rw [hw.2.2.2]; exact h.size, fun k hk => by rw [ho k (by omega)]; exact h.old k hk, fun x hx => ?_, by rw [hfm', ← hfm]; exact h.apart⟩
  rw [hset] at hx
  have hx' : (x ∈ L1 ∨ x ∈ L2) ∨ x = e' := by
    rcases List.mem_append.1 hx with hx | hx
    · exact .inl (.inl hx)
    · cases hx with
      | head => exact .inr rfl
      | tail _ hx => exact .inl (.inr hx)
  rcases hx' with hx' | rfl
  · obtain ⟨hxL, hne⟩ := hother x hx'
    have hx0 := h.ok x hxL
    cases hbx : x.blk with
    | none => rw [hbx] at hx0; exact hx0
    | some c =>
      rw [hbx] at hx0 hne
      have hc : c ≠ b := fun e => hne (by rw [e])
      exact ⟨by rw [hw.2.2.2]; exact hx0.1, hx0.2.1, by rw [ho c hc]; exact hx0.2.2⟩
  · rw [hb']
    exact ⟨by rw [hw.2.2.2]; exact h1, h2, hn⟩

/-! ### One block of cells -/
theorem Own.cell (h : Own B L w) {g : Nat} {t : TypeId} {cs : List Value} (hm : Ent.cells g t cs ∈ L) (i : Nat) : w.cell? ⟨g, i, none⟩ = cs[i]? := by
  simp [World.cell?, h.heap hm]
theorem Own.frozen (h : Own B L w) {g : Nat} {t : TypeId} {cs : List Value} (hm : Ent.cells g t cs ∈ L) (i : Nat) : w.frozen? ⟨g, i, none⟩ = false := by
  simp [World.frozen?, h.heap hm]

theorem Own.setCell (h : Own B L w) {i g : Nat} {t : TypeId} {cs : List Value} (hi : L[i]? = some (.cells g t cs)) (j : Nat) (v : Value) :
    Own B (L.set i (.cells g t (cs.set j v))) (w.setCell ⟨g, j, none⟩ v) := by
  refine h.turn hi rfl rfl ⟨rfl, rfl, rfl, by simp [World.setCell]⟩ (fun k hk => Below.heap_setCell w _ v k hk) ?_
  have := h.heap (List.mem_of_getElem? hi)
  simp [Ent.cells, World.setCell, Array.getElem?_modify, this]

theorem Own.alloc (h : Own B L w) (t : TypeId) (cs : List Value) : Own B (.cells w.heap.size t cs :: L) { w with heap := w.heap.push (.cells cs.toArray t) } := by
  refine h.below_add (w' := { w with heap := w.heap.push (.cells cs.toArray t) }) ⟨rfl, rfl, rfl, by simp, fun k hk => Below.heap_alloc w _ k hk⟩ ?_
  exact ⟨Nat.le_refl _, by simp, by simp [Ent.cells]⟩
end
end Go.Fw

namespace Go.Fw
def arrs : List Nat → List Ent → List Ent
  | [], L => L
  | i :: r, L => arrs r (front i L)
theorem Own.arr {B w : World} : ∀ (r : List Nat) {L : List Ent}, Own B L w → Own B (arrs r L) w
  | [], _, h => h
  | i :: r, _, h => Own.arr r (h.front i)
end Go.Fw

/- The slots as a list ('Env'); a region and a piece of code walked over it. No program in sight. -/
namespace Go.Fw
open Go Go.RowKit

abbrev Env := List (Nat × Value)

def look : Env → Nat → Option Value
  | [], _ => none
  | (i, v) :: r, t => match Nat.beq i t with
    | true => some v
    | false => look r t

/-- The frame a has n slots, and what ρ lists stands in them. -/
structure Rel (n : Nat) (ds : List Deferred) (ρ : Env) (a : Act) : Prop where
  size : a.tmps.size = n
  defers : a.defers = ds
  get : ∀ t v, look ρ t = some v → a.tmps[t]? = some v

def ev (ρ : Env) : Operand → Option Value
  | .tmp t => look ρ t
  | .const v => some v
  | .global g => some (.pointer (some ⟨g, 0, none⟩))
  | .func f => some (.func (.func f) #[] #[])

def putE (ρ : Env) (dst : Option Tmp) (v : Value) : Env :=
  match dst with
  | some t => (t, v) :: ρ
  | none => ρ

def dstOk (n : Nat) : Option Tmp → Bool
  | some t => Nat.blt t n
  | none => true

theorem Rel.eval {n : Nat} {ds : List Deferred} {ρ : Env} {a : Act} (h : Rel n ds ρ a) {x : Operand} {v : Value} (hx : ev ρ x = some v) : a.eval x = v := by
  cases x with
  | tmp t => simp [Act.eval, h.get t v hx]
  | const u => simpa [ev, Act.eval] using hx
  | global g => simpa [ev, Act.eval] using hx
  | func f => simpa [ev, Act.eval] using hx

theorem Rel.put {n : Nat} {ds : List Deferred} {ρ : Env} {a : Act} (h : Rel n ds ρ a) {dst : Option Tmp} (hd : dstOk n dst = true) (v : Value) : Rel n ds (putE ρ dst v) (a.put dst v) := by
  cases dst with
  | none => exact h
  | some t =>
    have ht : t < n := by simpa [dstOk] using hd
    refine ⟨by simpa [Act.put] using h.size, h.defers, fun k u hk => ?_⟩
    simp only [putE, look] at hk
    simp only [Act.put]
    cases hb : Nat.beq t k with
    | true =>
      have : t = k := Nat.eq_of_beq_eq_true hb
      subst this
      rw [hb] at hk
      injection hk with hk
      subst hk
      simp [h.size, ht]
    | false =>
      have hne : t ≠ k := by intro e; subst e; simp at hb
      rw [hb] at hk
      simp [Array.getElem?_setIfInBounds_ne hne, h.get k u hk]

def SubEnv : Env → Env → Prop
  | [], _ => True
  | (t, v) :: r, ρ => look ρ t = some v ∧ SubEnv r ρ

theorem SubEnv.look {ρ' ρ : Env} (h : SubEnv ρ' ρ) : ∀ t v, Fw.look ρ' t = some v → Fw.look ρ t = some v := by
  induction ρ' with
  | nil => intro t v hv; cases hv
  | cons x r ih =>
    obtain ⟨k, u⟩ := x
    intro t v hv
    simp only [Fw.look] at hv
    cases hb : Nat.beq k t with
    | true =>
      have : k = t := Nat.eq_of_beq_eq_true hb
      subst this
      rw [hb] at hv
      injection hv with hv
      subst hv
      exact h.1
    | false =>
      rw [hb] at hv
      exact ih h.2 t v hv

theorem Rel.sub {n : Nat} {ds : List Deferred} {ρ ρ' : Env} {a : Act} (h : Rel n ds ρ a) (hs : SubEnv ρ' ρ) : Rel n ds ρ' a :=
  ⟨h.size, h.defers, fun t v hv => h.get t v (hs.look t v hv)⟩

/-- Is the operation wanted? (its guard) -/
def wantE (ops : Array Oper) (ρ : Env) (o : Oper) : Option Bool :=
  match o.guard with
  | none => some true
  | some (j, b) =>
    match (ops[j]?).bind (·.dst) with
    | some t => match look ρ t with
      | some (.bool c) => some (c == b)
      | some (.tuple _) => some false
      | _ => none
    | none => none

theorem wantE_spec {ops : Array Oper} {n : Nat} {ds : List Deferred} {ρ : Env} {o : Oper} {b : Bool} (h : wantE ops ρ o = some b) {a : Act} (hr : Rel n ds ρ a) : Region.wanted o (yielded ops a.tmps) = b := by
  unfold wantE at h
  unfold Region.wanted
  cases hg : o.guard with
  | none => simpa [hg] using h
  | some jb =>
    obtain ⟨j, want⟩ := jb
    simp only [hg] at h ⊢
    unfold yielded
    cases hd : (ops[j]?).bind (·.dst) with
    | none => simp [hd] at h
    | some t =>
      simp only [hd, Option.bind_some] at h ⊢
      cases hl : look ρ t with
      | none => simp [hl] at h
      | some v =>
        rw [hr.get t v hl]
        cases v <;> simp [hl] at h ⊢
        · exact h
        · exact h

theorem least_ex (p : Nat → Prop) (h : ∃ k, p k) : ∃ k, p k ∧ ∀ j, p j → k ≤ j := by
  obtain ⟨k, hk⟩ := h
  induction k using Nat.strongRecOn with
  | _ k ih =>
    by_cases hc : ∃ j, j < k ∧ p j
    · obtain ⟨j, hj, hp⟩ := hc
      exact ih j hj hp
    · refine ⟨k, hk, fun j hp => ?_⟩
      rcases Nat.lt_or_ge j k with hlt | hge
      · exact absurd ⟨j, hlt, hp⟩ hc
      · exact hge
/-- The least number of a kind. -/
noncomputable def leastOf (p : Nat → Prop) (h : ∃ k, p k) : Nat := Classical.choose (least_ex p h)
theorem leastOf_spec (p : Nat → Prop) (h : ∃ k, p k) : p (leastOf p h) := (Classical.choose_spec (least_ex p h)).1
theorem leastOf_le (p : Nat → Prop) (h : ∃ k, p k) (j : Nat) (hj : p j) : leastOf p h ≤ j := (Classical.choose_spec (least_ex p h)).2 j hj

section
variable (P : Program) (ops : Array Oper) (tab : List Nat) (soft : Nat) (d : Bool) (Q : Exit → Act → World → Prop) (n : Nat) (ds : List Deferred)

/-- The rest 'ord' of a region, from the slots ρ. -/
def RE (ord : OT) (pend : List Pend) (ρ : Env) (w : World) : Prop := ∀ a, Rel n ds ρ a → Rg P ops tab soft d Q ord pend a w
/-- A piece of code, from the slots ρ. -/
def CE (c : Code) (ρ : Env) (w : World) : Prop := ∀ a, Rel n ds ρ a → c.wp P Q a w
/-- What follows. -/
def QE (e : Exit) (ρ : Env) (w : World) : Prop := ∀ a, Rel n ds ρ a → Q e a w
end

section
variable {P : Program} {ops : Array Oper} {tab : List Nat} {soft : Nat} {d : Bool} {Q : Exit → Act → World → Prop} {n : Nat} {ds : List Deferred}
variable {rest : OT} {pend : List Pend} {ρ : Env} {w : World} {i : Nat} {o : Oper}

theorem re_nil (h : QE Q n ds .normal ρ w) : RE P ops tab soft d Q n ds .nil pend ρ w := fun a ha => h a ha

theorem re_skip (ho : ops[i]? = some o) (hw : wantE ops ρ o = some false) (hd : dstOk n o.dst = true) (k : RE P ops tab soft d Q n ds rest pend (putE ρ o.dst undef) w) :
    RE P ops tab soft d Q n ds (.op i rest) pend ρ w :=
  fun a ha => ⟨o, ho, .inl ⟨wantE_spec hw ha, k _ (ha.put hd _)⟩⟩

theorem re_soft {s : Sem Value} {v : Value} (ho : ops[i]? = some o) (hw : wantE ops ρ o = some true) (hs : isSoft soft i = true) (hd : dstOk n o.dst = true)
    (he : ∀ a, Rel n ds ρ a → execOp a.eval o = liftV s) (hv : ∀ w, s.run P w = .ok v w) (k : RE P ops tab soft d Q n ds rest pend (putE ρ o.dst v) w) :
    RE P ops tab soft d Q n ds (.op i rest) pend ρ w :=
  fun a ha => ⟨o, ho, .inr (.inl ⟨wantE_spec hw ha, hs, s, v, he a ha, .inl ⟨hv, k _ (ha.put hd _)⟩⟩)⟩

theorem re_read {s : Sem Value} {v : Value} (ho : ops[i]? = some o) (hw : wantE ops ρ o = some true) (hs : isSoft soft i = true) (hd : dstOk n o.dst = true)
    (he : ∀ a, Rel n ds ρ a → execOp a.eval o = liftV s) (hv : s.run P w = .ok v w) (k : RE P ops tab soft d Q n ds rest (⟨i, s, v⟩ :: pend) (putE ρ o.dst v) w) :
    RE P ops tab soft d Q n ds (.op i rest) pend ρ w :=
  fun a ha => ⟨o, ho, .inr (.inl ⟨wantE_spec hw ha, hs, s, v, he a ha, .inr ⟨hv, k _ (ha.put hd _)⟩⟩)⟩

/-- An operation that makes or changes memory and yields a value. -/
theorem re_effv {s : Sem Value} {v : Value} {w' : World} (ho : ops[i]? = some o) (hw : wantE ops ρ o = some true) (hs : isSoft soft i = false) (hd : dstOk n o.dst = true)
    (he : ∀ a, Rel n ds ρ a → execOp a.eval o = liftV s) (hv : s.run P w = .ok v w') (k : (d = true → Still P tab i w' pend) ∧ RE P ops tab soft d Q n ds rest pend (putE ρ o.dst v) w') :
    RE P ops tab soft d Q n ds (.op i rest) pend ρ w := fun a ha => by
  refine ⟨o, ho, .inr (.inr ⟨wantE_spec hw ha, hs, ?_⟩)⟩
  unfold Oper.wp
  rw [he a ha, liftV_run hv]
  exact ⟨k.1, k.2 _ (ha.put hd _)⟩

def liftU (s : Sem Unit) : Sem Next := do s; pure .skip

/-- An operation that changes memory and yields none. -/
theorem re_effu {s : Sem Unit} {w' : World} (ho : ops[i]? = some o) (hw : wantE ops ρ o = some true) (hs : isSoft soft i = false) (hd : dstOk n o.dst = true)
    (he : ∀ a, Rel n ds ρ a → execOp a.eval o = liftU s) (hv : s.run P w = .ok () w') (k : (d = true → Still P tab i w' pend) ∧ RE P ops tab soft d Q n ds rest pend (putE ρ o.dst undef) w') :
    RE P ops tab soft d Q n ds (.op i rest) pend ρ w := fun a ha => by
  refine ⟨o, ho, .inr (.inr ⟨wantE_spec hw ha, hs, ?_⟩)⟩
  unfold Oper.wp
  have : (liftU s).run P w = .ok .skip w' := by simp [liftU, hv, Result.andThen]
  rw [he a ha, this]
  exact ⟨k.1, k.2 _ (ha.put hd _)⟩

/-- A call of a Go function, by its contract; it returns. -/
theorem re_enter {f : FuncId} {args : Array Value} (ho : ops[i]? = some o) (hw : wantE ops ρ o = some true) (hs : isSoft soft i = false) (hd : dstOk n o.dst = true)
    (he : ∀ a, Rel n ds ρ a → (execOp a.eval o).run P w = .ok (.enter f args) w)
    (k : Calls P f args w fun e w' => ∃ v, e = .returned v ∧ (d = true → Still P tab i w' pend) ∧ RE P ops tab soft d Q n ds rest pend (putE ρ o.dst v) w') :
    RE P ops tab soft d Q n ds (.op i rest) pend ρ w := fun a ha => by
  refine ⟨o, ho, .inr (.inr ⟨wantE_spec hw ha, hs, ?_⟩)⟩
  unfold Oper.wp
  rw [he a ha, Oper.upon_enter]
  refine k.mono fun e w' h => ?_
  obtain ⟨v, rfl, h1, h2⟩ := h
  exact ⟨h1, h2 _ (ha.put hd _)⟩

/-- The same, where it may panic. -/
theorem re_enterP {f : FuncId} {args : Array Value} (ho : ops[i]? = some o) (hw : wantE ops ρ o = some true) (hs : isSoft soft i = false) (hd : dstOk n o.dst = true)
    (he : ∀ a, Rel n ds ρ a → (execOp a.eval o).run P w = .ok (.enter f args) w)
    (k : Calls P f args w fun e w' => match e with
      | .returned v => (d = true → Still P tab i w' pend) ∧ RE P ops tab soft d Q n ds rest pend (putE ρ o.dst v) w'
      | .panicked c => QE Q n ds (.panic c) ρ w'
      | .outgrown => False) :
    RE P ops tab soft d Q n ds (.op i rest) pend ρ w := fun a ha => by
  refine ⟨o, ho, .inr (.inr ⟨wantE_spec hw ha, hs, ?_⟩)⟩
  unfold Oper.wp
  rw [he a ha, Oper.upon_enter]
  refine k.mono fun e w' h => ?_
  cases e with
  | returned v => exact ⟨h.1, h.2 _ (ha.put hd _)⟩
  | panicked c => exact h a ha
  | outgrown => exact h.elim

/-- The value at the head of the slots is a bool: both cases. -/
theorem re_split {t : Nat} {c : Bool} {ord : OT} (h1 : c = true → RE P ops tab soft d Q n ds ord pend ((t, .bool true) :: ρ) w) (h0 : c = false → RE P ops tab soft d Q n ds ord pend ((t, .bool false) :: ρ) w) :
    RE P ops tab soft d Q n ds ord pend ((t, .bool c) :: ρ) w := by
  cases c
  · exact h0 rfl
  · exact h1 rfl

/-- Where several may come up: each. -/
theorem re_alt {rest r : OT} (h1 : RE P ops tab soft d Q n ds (.op i rest) pend ρ w) (h2 : RE P ops tab soft d Q n ds r pend ρ w) : RE P ops tab soft d Q n ds (.alt i rest r) pend ρ w := fun a ha => ⟨h1 a ha, h2 a ha⟩
theorem re_sub {ρ' : Env} {ord : OT} (hs : SubEnv ρ' ρ) (h : RE P ops tab soft d Q n ds ord pend ρ' w) : RE P ops tab soft d Q n ds ord pend ρ w := fun a ha => h a (ha.sub hs)

theorem ancs {tab : List Nat} {i j : Nat} {X : Prop} (h : anc tab i j = true) : anc tab i j = false → X := fun h' => by rw [h] at h'; cases h'

/-! ### Code -/
theorem ce_sub {ρ' : Env} {c : Code} (hs : SubEnv ρ' ρ) (h : CE P Q n ds c ρ' w) : CE P Q n ds c ρ w := fun a ha => h a (ha.sub hs)
theorem qe_sub {ρ' : Env} {e : Exit} (hs : SubEnv ρ' ρ) (h : QE Q n ds e ρ' w) : QE Q n ds e ρ w := fun a ha => h a (ha.sub hs)

theorem ce_text {id : Nat} (ord : OT) (ho : ord.lin = List.range ops.size) (hst : ord.straight = true) (h : RE P ops tab soft false Q n ds ord [] ρ w) : CE P Q n ds (.region id ops false) ρ w :=
  fun a ha => wp_region_text (tab := tab) (soft := soft) ord ho hst (h a ha)

theorem ce_open {B : World} {L : List Ent} {id : Nat} (hm : P.follows .mixedOrders = true) (ord : OT)
    (hk : (tabOk ops tab && Region.noSelect ops && ordOk ops soft ord false (Array.replicate ops.size false) && decide (ord.len ≤ ops.size)) = true)
    (H : Own B L w) (h : ∀ w, Own B L w → RE P ops tab soft true (NoPanic Q) n ds ord [] ρ w) : CE P Q n ds (.region id ops true) ρ w :=
  fun a ha => wp_region_noPanic (wp_region_open hm ord hk (fun _ _ _ _ _ h => h) fun w' hw => h w' (H.drew' hw) a ha)

theorem ce_seq {x y : Code} (h : CE P (Exit.then (fun a w => y.wp P Q a w) Q) n ds x ρ w) : CE P Q n ds (.seq x y) ρ w := fun a ha => wp_seq (h a ha)

/-- A seq with a meeting point: what x leaves is J. -/
theorem ce_seqJ {x y : Code} (J : Act → World → Prop) (h : CE P (Exit.then J Q) n ds x ρ w) (k : ∀ a w, J a w → y.wp P Q a w) : CE P Q n ds (.seq x y) ρ w :=
  fun a ha => wp_seq (wp_mono (h a ha) fun e a w he => by cases e <;> first | exact k _ _ he | exact he)

theorem qe_then {K : Act → World → Prop} (h : ∀ a, Rel n ds ρ a → K a w) : QE (Exit.then K Q) n ds .normal ρ w := h
theorem qe_thenC {y : Code} (h : CE P Q n ds y ρ w) : QE (Exit.then (fun a w => y.wp P Q a w) Q) n ds .normal ρ w := h
theorem qe_noPanic (h : QE Q n ds .normal ρ w) : QE (NoPanic Q) n ds .normal ρ w := h

theorem ce_cond {x y : Code} {c : Operand} {b : Bool} (hc : ev ρ c = some (.bool b)) (h1 : b = true → CE P Q n ds x ρ w) (h0 : b = false → CE P Q n ds y ρ w) : CE P Q n ds (.cond c x y) ρ w := fun a ha => by
  cases b
  · exact wp_cond (ha.eval hc) (h0 rfl a ha)
  · exact wp_cond (ha.eval hc) (h1 rfl a ha)
theorem ce_condT {x y : Code} {c : Operand} (hc : ev ρ c = some (.bool true)) (h1 : CE P Q n ds x ρ w) : CE P Q n ds (.cond c x y) ρ w := ce_cond hc (fun _ => h1) (fun h => by cases h)
theorem ce_condF {x y : Code} {c : Operand} (hc : ev ρ c = some (.bool false)) (h1 : CE P Q n ds y ρ w) : CE P Q n ds (.cond c x y) ρ w := ce_cond hc (fun h => by cases h) (fun _ => h1)

theorem ce_skip (h : QE Q n ds .normal ρ w) : CE P Q n ds .skip ρ w := fun a ha => wp_skip (h a ha)
theorem ce_ret (h : QE Q n ds .ret ρ w) : CE P Q n ds .ret ρ w := fun a ha => wp_ret (h a ha)
theorem ce_block {id : Nat} {c : Code} (h : CE P (Exit.inBlock id Q) n ds c ρ w) : CE P Q n ds (.block id c) ρ w := fun a ha => wp_block (h a ha)
theorem ce_exit {id : Nat} (h : QE Q n ds (.exit id) ρ w) : CE P Q n ds (.exit id) ρ w := fun a ha => wp_exit (h a ha)

theorem qe_then_ret {K : Act → World → Prop} (h : QE Q n ds .ret ρ w) : QE (Exit.then K Q) n ds .ret ρ w := h
theorem qe_then_exit {K : Act → World → Prop} {id : Nat} (h : QE Q n ds (.exit id) ρ w) : QE (Exit.then K Q) n ds (.exit id) ρ w := h
theorem qe_block_ret {id : Nat} (h : QE Q n ds .ret ρ w) : QE (Exit.inBlock id Q) n ds .ret ρ w := h
theorem qe_block_norm {id : Nat} (h : QE Q n ds .normal ρ w) : QE (Exit.inBlock id Q) n ds .normal ρ w := h
theorem qe_block_exit {id : Nat} (h : QE Q n ds .normal ρ w) : QE (Exit.inBlock id Q) n ds (.exit id) ρ w := fun a ha => by simp only [Exit.inBlock]; exact h a ha
theorem qe_block_exit' {id id' : Nat} (hne : Nat.beq id' id = false) (h : QE Q n ds (.exit id') ρ w) : QE (Exit.inBlock id Q) n ds (.exit id') ρ w := fun a ha => by
  have : id' ≠ id := by intro e; subst e; simp at hne
  simp only [Exit.inBlock, this, if_false]; exact h a ha

/-- A loop: at the head of each round, for some x, the slots R x and the world W x. -/
theorem ce_loop {α : Type} {c : Code} (R : α → Env) (W : α → World → Prop) (m : α → Nat) (x0 : α) (hs : SubEnv (R x0) ρ) (hw : W x0 w)
    (round : ∀ x w, W x w → CE P (Exit.then (fun a' w' => ∃ x', m x' < m x ∧ Rel n ds (R x') a' ∧ W x' w') Q) n ds c (R x) w) : CE P Q n ds (.loop c) ρ w := fun a ha => by
  classical
  refine wp_loop (fun a w => ∃ x, Rel n ds (R x) a ∧ W x w) (fun a w => if h : ∃ k, ∃ x, m x = k ∧ Rel n ds (R x) a ∧ W x w then leastOf _ h else 0) ⟨x0, ha.sub hs, hw⟩ ?_
  intro a w hI
  have h : ∃ k, ∃ x, m x = k ∧ Rel n ds (R x) a ∧ W x w := by obtain ⟨x, hx⟩ := hI; exact ⟨m x, x, rfl, hx⟩
  obtain ⟨x, hm, hr, hW⟩ := leastOf_spec _ h
  rw [dif_pos h]
  refine wp_mono (round x w hW a hr) fun e a' w' he => ?_
  cases e <;> try exact he
  obtain ⟨x', hlt, hr', hW'⟩ := he
  have h' : ∃ k, ∃ x, m x = k ∧ Rel n ds (R x) a' ∧ W x w' := ⟨m x', x', rfl, hr', hW'⟩
  refine ⟨⟨x', hr', hW'⟩, ?_⟩
  rw [dif_pos h']
  have := leastOf_le _ h' (m x') ⟨x', rfl, hr', hW'⟩
  omega
theorem qe_round {α : Type} {R : α → Env} {W : α → World → Prop} {m : α → Nat} {x : α} (x' : α) (hlt : m x' < m x) (hs : SubEnv (R x') ρ) (hw : W x' w) :
    QE (Exit.then (fun a' w' => ∃ x', m x' < m x ∧ Rel n ds (R x') a' ∧ W x' w') Q) n ds .normal ρ w := fun _ ha => ⟨x', hlt, ha.sub hs, hw⟩

/-! ### The end -/
theorem qe_end {fn : Func} {R : Ending → World → Prop} {t : Tmp} {v : Value} (hf : fn.results = #[.tmp t]) (hv : look ρ t = some v) (h : R (.returned v) w) : QE (bodyPost P fn R) n [] .ret ρ w := fun a ha => by
  refine bodyPost_ret (results_tmp hf _ _ _) ha.defers ?_
  have := ha.get t v hv
  simpa [this] using h
theorem qe_end2 {fn : Func} {R : Ending → World → Prop} {t u : Tmp} {v x : Value} (hf : fn.results = #[.tmp t, .tmp u]) (hv : look ρ t = some v) (hx : look ρ u = some x) (h : R (.returned (.tuple #[v, x])) w) : QE (bodyPost P fn R) n [] .ret ρ w := fun a ha => by
  refine bodyPost_ret (results_tmp2 hf _ _ _) ha.defers ?_
  have h1 := ha.get t v hv
  have h2 := ha.get u x hx
  simpa [h1, h2] using h
theorem qe_end0 {fn : Func} {R : Ending → World → Prop} (hf : fn.results = #[]) (h : R (.returned (.tuple #[])) w) : QE (bodyPost P fn R) n [] .normal ρ w := fun a ha =>
  bodyPost_end (results_none hf _ _ _) ha.defers h
theorem qe_end0r {fn : Func} {R : Ending → World → Prop} (hf : fn.results = #[]) (h : R (.returned (.tuple #[])) w) : QE (bodyPost P fn R) n [] .ret ρ w := fun a ha =>
  bodyPost_ret (results_none hf _ _ _) ha.defers h

def argEnv : Nat → List Value → Env
  | _, [] => []
  | i, v :: r => (i, v) :: argEnv (i + 1) r

theorem look_argEnv : ∀ (l : List Value) (i t : Nat) (v : Value), look (argEnv i l) t = some v → i ≤ t ∧ l[t - i]? = some v
  | [], _, _, _, h => by cases h
  | u :: r, i, t, v, h => by
    simp only [argEnv, look] at h
    cases hb : Nat.beq i t with
    | true =>
      have : i = t := Nat.eq_of_beq_eq_true hb
      subst this
      rw [hb] at h
      simpa using h
    | false =>
      rw [hb] at h
      have hne : i ≠ t := by intro e; subst e; simp at hb
      obtain ⟨h1, h2⟩ := look_argEnv r (i + 1) t v h
      refine ⟨by omega, ?_⟩
      rw [show t - i = (t - (i + 1)) + 1 by omega]
      simpa using h2

/-- A function's body. -/
theorem calls_ce {P : Program} {f : FuncId} {fn : Func} {c : Code} {args : List Value} {w : World} {R : Ending → World → Prop} (hf : P.funcs[f]? = some fn) (hb : fn.body = some c) (hn : Nat.ble args.length fn.ntmps = true)
    (h : CE P (bodyPost P fn R) fn.ntmps [] c (argEnv 0 args) w) : Calls P f args.toArray w R := by
  have hle : args.length ≤ fn.ntmps := by simpa using hn
  refine calls_of_wp hf hb (h _ ⟨by simp; omega, rfl, fun t v hv => ?_⟩)
  obtain ⟨_, h2⟩ := look_argEnv args 0 t v hv
  have hlt : t < args.length := by
    have := (List.getElem?_eq_some_iff.1 h2).1
    simpa using this
  simp only [Array.getElem?_append]
  rw [if_pos (by simpa using hlt)]
  simpa using h2
end
end Go.Fw

/- The steps of a walk, an operation each. No program in sight. -/
namespace Go.Fw
open Go Go.RowKit

/-! ### Facts of the program's table, as numbers -/
def isAggD : TypeDesc → Bool
  | .struct _ => true
  | .array _ _ => true
  | _ => false
/-- Is it a struct or an array; how many cells. -/
def shapeOf (P : Program) (t : TypeId) : Option (Bool × Nat) :=
  match P.underlying t, P.info? t with
  | some d, some i => some (isAggD d, i.size)
  | _, _ => none
def fOff (P : Program) (s : TypeId) (f : Nat) : Option Nat :=
  match P.underlying s with
  | some (.struct fs) => match fs[f]? with
    | some fd => match P.info? fd.type with
      | some i => if i.size = 0 then none else some fd.offset
      | none => none
    | none => none
  | _ => none
def zeroC (P : Program) (t : TypeId) : Option (List Value) := (P.info? t).bind fun i => i.zero.map fun z => z.cells.toList
def placesOf (P : Program) (t : TypeId) : Option (List (Nat × Nat)) :=
  match P.underlying t with
  | some (.struct fs) => fs.toList.mapM fun f => (P.info? f.type).map fun i => (f.offset, i.size)
  | _ => none
/-- A slice's element type, its cells, its bytes. -/
def elemInfo (P : Program) (t : TypeId) : Option (TypeId × Nat × Nat) :=
  match P.underlying t with
  | some (.slice e) => (P.info? e).map fun i => (e, i.size, i.bytes)
  | _ => none

def notIface (P : Program) (t : TypeId) : Bool :=
  match P.underlying t with
  | some (.interface _) => false
  | some _ => true
  | none => false

section
variable {P : Program} {w : World}

theorem run_shape {t : TypeId} {b : Bool} {k : Nat} (h : shapeOf P t = some (b, k)) : (isAgg t).run P w = .ok b w ∧ (sizeOf t).run P w = .ok k w := by
  unfold shapeOf at h
  cases hd : P.underlying t with
  | none => rw [hd] at h; simp at h
  | some d =>
    cases hi : P.info? t with
    | none => rw [hd, hi] at h; simp at h
    | some i =>
      rw [hd, hi] at h
      simp at h
      obtain ⟨h1, h2⟩ := h
      constructor
      · have : (isAgg t).run P w = .ok (isAggD d) w := by
          simp only [isAgg, Sem.run_bind, run_underlying hd, Result.andThen_ok]
          cases d <;> rfl
        rw [this, h1]
      · simp [sizeOf, typeInfo, hi, h2]

theorem run_loadCellsFrom {a : Addr} : ∀ (vs : List Value) (i : Nat) (acc : Array Value), (∀ j u, vs[j]? = some u → w.cell? (a.add (i + j)) = some u) →
    (loadCellsFrom a i vs.length acc).run P w = .ok (acc ++ vs.toArray) w
  | [], i, acc, _ => by simp [loadCellsFrom]
  | v :: vs, i, acc, h => by
    have h0 := h 0 v rfl
    simp only [Nat.add_zero] at h0
    have ih := run_loadCellsFrom (a := a) vs (i + 1) (acc.push v) (fun j u hu => by
      have := h (j + 1) u (by simpa using hu)
      rw [show i + 1 + j = i + (j + 1) by omega]; exact this)
    simp only [List.length_cons, loadCellsFrom, load, Sem.run_bind]
    show ((Sem.load .plain (a.add i) .pure).run P w).andThen _ = _
    simp only [Sem.run, h0, Result.andThen_ok]
    rw [ih]
    simp

theorem run_loadAt_one {t : TypeId} {k : Nat} (hs : shapeOf P t = some (false, k)) {a : Addr} {v : Value} (hc : w.cell? a = some v) : (Instr.loadAt t (.pointer (some a))).run P w = .ok v w := by
  have h1 := (run_shape (w := w) hs).1
  simp [Instr.loadAt, Instr.sureAddr, loadVar, h1, load, Sem.run, hc]
theorem run_loadAt_agg {t : TypeId} {vs : List Value} (hs : shapeOf P t = some (true, vs.length)) {a : Addr} (hc : ∀ j u, vs[j]? = some u → w.cell? (a.add j) = some u) :
    (Instr.loadAt t (.pointer (some a))).run P w = .ok (.agg vs.toArray) w := by
  obtain ⟨h1, h2⟩ := run_shape (w := w) hs
  have h3 := run_loadCellsFrom (P := P) (w := w) (a := a) vs 0 #[] (fun j u hu => by rw [Nat.zero_add]; exact hc j u hu)
  simp [Instr.loadAt, Instr.sureAddr, loadVar, h1, h2, loadCells, h3]

theorem run_fieldAt {s f off : Nat} (h : fOff P s f = some off) (a : Addr) : (Instr.fieldAt s (.pointer (some a)) f).run P w = .ok (.pointer (some (a.add off))) w := by
  unfold fOff at h
  cases hd : P.underlying s with
  | none => rw [hd] at h; simp at h
  | some d =>
    cases d <;> simp only [hd] at h <;> try (cases h; done)
    rename_i fs
    cases hf : fs[f]? with
    | none => simp [hf] at h
    | some fd =>
      cases hi : P.info? fd.type with
      | none => simp [hf, hi] at h
      | some i =>
        simp only [hf, hi] at h
        split at h
        · cases h
        · rename_i hsz
          injection h with h
          subst h
          simp [Instr.fieldAt, run_underlying hd, hf, Instr.sureAddr, fieldPlace, sizeOf, typeInfo, hi, hsz]

theorem add_lit (g o k : Nat) : (⟨g, o, none⟩ : Addr).add k = ⟨g, o + k, none⟩ := by
  unfold Addr.add
  split
  · rename_i h; subst h; rfl
  · rfl

/-- The cells of an aggregate or of one value, at a place. -/
def rdAt (agg : Bool) (k : Nat) (cs : List Value) (off : Nat) : Option Value :=
  match agg with
  | true => if off + k ≤ cs.length then some (.agg ((cs.drop off).take k).toArray) else none
  | false => cs[off]?

theorem rdAt_all {cs : List Value} {k : Nat} (h : cs.length = k) : rdAt true k cs 0 = some (.agg cs.toArray) := by
  subst h
  simp [rdAt]

theorem run_loadAt_own {B : World} {L : List Ent} (H : Own B L w) {t : TypeId} {agg : Bool} {k : Nat} (hs : shapeOf P t = some (agg, k)) {g : Nat} {e : TypeId} {cs : List Value} (hm : Ent.cells g e cs ∈ L) {off : Nat} {v : Value}
    (hv : rdAt agg k cs off = some v) : (Instr.loadAt t (.pointer (some ⟨g, off, none⟩))).run P w = .ok v w := by
  cases agg with
  | false => exact run_loadAt_one hs (by rw [H.cell hm]; exact hv)
  | true =>
    simp only [rdAt] at hv
    split at hv
    · rename_i hle
      injection hv with hv
      subst hv
      have hl : ((cs.drop off).take k).length = k := by simp; omega
      refine run_loadAt_agg (by rw [hl]; exact hs) fun j u hu => ?_
      rw [add_lit, H.cell hm]
      rw [List.getElem?_take] at hu
      split at hu
      · rw [List.getElem?_drop] at hu; exact hu
      · cases hu
    · cases hv

/-! ### A store -/
def setMany : List Value → Nat → List Value → List Value
  | cs, _, [] => cs
  | cs, off, v :: vs => setMany (cs.set off v) (off + 1) vs
theorem setMany_length : ∀ (vs : List Value) (cs : List Value) (off : Nat), (setMany cs off vs).length = cs.length
  | [], _, _ => rfl
  | v :: vs, cs, off => by simp [setMany, setMany_length vs]

theorem setMany_whole {vs zs : List Value} (h : zs.length = vs.length) : setMany zs 0 vs = vs := by
  have gen : ∀ (vs pre post : List Value), post.length = vs.length → setMany (pre ++ post) pre.length vs = pre ++ vs := by
    intro vs
    induction vs with
    | nil => intro pre post h; have : post = [] := List.eq_nil_of_length_eq_zero (by simpa using h); subst this; simp [setMany]
    | cons v vs ih =>
      intro pre post h
      cases post with
      | nil => simp at h
      | cons p post =>
        simp only [setMany]
        have h1 : (pre ++ p :: post).set pre.length v = (pre ++ [v]) ++ post := by simp
        rw [h1]
        have h2 := ih (pre ++ [v]) post (by simpa using h)
        simp only [List.length_append, List.length_cons, List.length_nil, Nat.zero_add] at h2
        rw [h2]; simp
  have := gen vs [] zs (by omega)
  simpa using this

def oneB (v : Value) : Bool := match v with | .agg _ => false | .tuple _ => false | _ => true

theorem run_storeCells_own {B : World} {g : Nat} {e : TypeId} {i : Nat} : ∀ (vs : List Value) (k : Nat) (L : List Ent) (w : World) (cs : List Value) (off : Nat), Own B L w → L[i]? = some (.cells g e cs) → off + k + vs.length ≤ cs.length → (∀ v ∈ vs, oneB v = true) →
    ∃ w', (storeCells ⟨g, off, none⟩ vs k).run P w = .ok () w' ∧ Own B (L.set i (.cells g e (setMany cs (off + k) vs))) w'
  | [], k, L, w, cs, off, H, hi, _, _ => by
    refine ⟨w, by simp [storeCells], ?_⟩
    have : L.set i (.cells g e cs) = L := by
      apply List.ext_getElem?
      intro j
      rw [List.getElem?_set]
      split
      · rename_i h; subst h; rw [hi]; simp [(List.getElem?_eq_some_iff.1 hi).1]
      · rfl
    simp only [setMany]
    rw [this]; exact H
  | v :: vs, k, L, w, cs, off, H, hi, hl, h1 => by
    simp only [List.length_cons] at hl
    have hm := List.mem_of_getElem? hi
    have hlt : i < L.length := (List.getElem?_eq_some_iff.1 hi).1
    have hcell : w.cell? ⟨g, off + k, none⟩ = some (cs[off + k]'(by omega)) := by rw [H.cell hm]; exact List.getElem?_eq_getElem (by omega)
    have hfr := H.frozen hm (off + k)
    have H' := H.setCell hi (off + k) v
    obtain ⟨w', hr, Hw⟩ := run_storeCells_own (i := i) (g := g) (e := e) vs (k + 1) _ _ (cs.set (off + k) v) off H' (by rw [List.getElem?_set]; simp [hlt]) (by simp; omega) (fun u hu => h1 u (List.mem_cons_of_mem _ hu))
    refine ⟨w', ?_, ?_⟩
    · simp only [storeCells, Sem.run_bind, add_lit]
      have hv := h1 v (List.mem_cons_self ..)
      have hst : (store ⟨g, off + k, none⟩ v).run P w = .ok () (w.setCell ⟨g, off + k, none⟩ v) := by
        unfold store
        cases v <;> first | (simp [oneB] at hv; done) | simp [Sem.run, hcell, hfr]
      rw [hst, Result.andThen_ok]
      exact hr
    · simp only [setMany]
      rw [show off + k + 1 = off + (k + 1) by omega]
      simpa [List.set_set] using Hw

theorem run_storeAt_own {B : World} {L : List Ent} (H : Own B L w) {t : TypeId} {agg : Bool} {k : Nat} (hs : shapeOf P t = some (agg, k)) {i g : Nat} {e : TypeId} {cs : List Value} (hi : L[i]? = some (.cells g e cs)) {off : Nat} {v : Value} {vs : List Value}
    (hvs : v.cells = vs.toArray) (hk : vs.length = k) (hl : off + vs.length ≤ cs.length) (h1 : vs.all oneB = true) :
    ∃ w', (Instr.storeAt t (.pointer (some ⟨g, off, none⟩)) v).run P w = .ok () w' ∧ Own B (L.set i (.cells g e (setMany cs off vs))) w' := by
  have h2 := (run_shape (w := w) hs).2
  obtain ⟨w', hr, Hw⟩ := run_storeCells_own (P := P) (i := i) vs 0 L w cs off H hi (by omega) (by simpa using h1)
  refine ⟨w', ?_, Hw⟩
  simp [Instr.storeAt, Instr.sureAddr, storeVar, h2, hvs, hk, hr]

/-! ### build -/
def fillL (places : List (Nat × Nat)) : List Value → List (Nat × Value) → Option (List Value)
  | cells, [] => some cells
  | cells, (i, v) :: rest => match places[i]? with
    | none => none
    | some (off, size) => if v.cells.toList.length = size ∧ off + size ≤ cells.length then fillL places (setMany cells off v.cells.toList) rest else none

theorem fold_setMany : ∀ (vs : List Value) (cs : List Value) (off k : Nat), (vs.zipIdx k).foldl (fun (c : Array Value) (x : Value × Nat) => c.setIfInBounds (off + x.2) x.1) cs.toArray = (setMany cs (off + k) vs).toArray
  | [], _, _, _ => rfl
  | v :: vs, cs, off, k => by
    simp only [List.zipIdx_cons, List.foldl_cons, setMany]
    rw [List.setIfInBounds_toArray]
    exact fold_setMany vs _ off (k + 1)

theorem fill_eq (place : Nat → Option (Nat × Nat)) (places : List (Nat × Nat)) (hp : ∀ i x, places[i]? = some x → place i = some x) : ∀ (parts : List (Nat × Value)) (cells out : List Value),
    fillL places cells parts = some out → Instr.fill place cells.toArray parts = some out.toArray
  | [], cells, out, h => by simp [fillL] at h; subst h; rfl
  | (i, v) :: rest, cells, out, h => by
    simp only [fillL] at h
    cases hpl : places[i]? with
    | none => rw [hpl] at h; simp at h
    | some x =>
      obtain ⟨off, size⟩ := x
      rw [hpl] at h
      simp only at h
      split at h
      · rename_i hc
        obtain ⟨hc1, hc2⟩ := hc
        have ih := fill_eq place places hp rest (setMany cells off v.cells.toList) out h
        have hc1' : v.cells.size = size := by simpa using hc1
        simp only [Instr.fill, hp i _ hpl]
        rw [if_neg (by simp [hc1']; omega)]
        have hfold := fold_setMany v.cells.toList cells off 0
        have : (v.cells.zipIdx.foldl (fun cs (x : Value × Nat) => cs.setIfInBounds (off + x.2) x.1) cells.toArray) = (setMany cells off v.cells.toList).toArray := by
          rw [← Array.foldl_toList]
          simpa [Array.toList_zipIdx] using hfold
        rw [← ih]
        congr 1
      · cases h

theorem run_build {t : TypeId} {zero : List Value} {places : List (Nat × Nat)} {cells : List Value} {parts : Array (Nat × Value)} (hz : zeroC P t = some zero) (hp : placesOf P t = some places) (hf : fillL places zero parts.toList = some cells) :
    (Instr.build t parts).run P w = .ok (.agg cells.toArray) w := by
  unfold zeroC at hz
  unfold placesOf at hp
  cases hi : P.info? t with
  | none => rw [hi] at hz; simp at hz
  | some inf =>
    rw [hi] at hz
    simp only [Option.bind_some, Option.map_eq_some_iff] at hz
    obtain ⟨z, hz1, hz2⟩ := hz
    cases hd : P.underlying t with
    | none => rw [hd] at hp; simp at hp
    | some dd =>
      cases dd <;> simp only [hd] at hp <;> try (cases hp; done)
      rename_i fs
      have hmap : ∀ (l : List Field) (pl : List (Nat × Nat)), (l.mapM fun f => (P.info? f.type).map fun i => (f.offset, i.size)) = some pl →
          (l.mapM fun f => (do pure (f.offset, ← sizeOf f.type) : Sem (Nat × Nat))).run P w = .ok pl w := by
        intro l
        induction l with
        | nil => intro pl h; simp at h; subst h; simp
        | cons f l ih =>
          intro pl h
          simp only [List.mapM_cons, Option.bind_eq_bind, Option.bind_eq_some_iff, Option.map_eq_some_iff] at h
          obtain ⟨x, ⟨inf, hinf, hx⟩, pl', hpl, hpure⟩ := h
          simp at hpure
          subst hpure
          subst hx
          have hsz : (sizeOf f.type).run P w = .ok inf.size w := by simp [sizeOf, typeInfo, hinf]
          simp only [List.mapM_cons, Sem.run_bind, hsz, Result.andThen_ok, Sem.run_pure, ih pl' hpl]
      have hm := hmap fs.toList places hp
      have hm' : (fs.mapM fun f => (do pure (f.offset, ← sizeOf f.type) : Sem (Nat × Nat))).run P w = .ok places.toArray w := by
        rw [Array.mapM_eq_mapM_toList]
        show (Sem.bind _ _).run P w = _
        rw [show ∀ (x : Sem (List (Nat × Nat))) (f : List (Nat × Nat) → Sem (Array (Nat × Nat))), (Sem.bind x f) = (x >>= f) from fun _ _ => rfl, Sem.run_bind, hm]
        rfl
      have hfill := fill_eq (places.toArray[·]?) places (fun i x h => by simpa using h) parts.toList zero cells hf
      simp only [Instr.build, Sem.run_bind, zeroValue, typeInfo, run_program, hi, Result.andThen_ok, Sem.run_pure, hz1, run_underlying hd, hm']
      have hzc : z.cells = zero.toArray := by rw [← hz2]
      rw [hzc]
      simp only [hfill]
      rfl
end
end Go.Fw

/- The steps of a walk, an operation each: on the slots. No program in sight. -/
namespace Go.Fw
open Go Go.RowKit

/-! ### Where a block stands in the list, found by instances -/
class InCells (b : Nat) (L : List Ent) (t : outParam TypeId) (cs : outParam (List Value)) : Prop where
  mem : Ent.cells b t cs ∈ L
instance InCells.here {b : Nat} {t : TypeId} {cs : List Value} {L : List Ent} : InCells b (Ent.cells b t cs :: L) t cs := ⟨List.mem_cons_self ..⟩
instance (priority := low) InCells.there {b : Nat} {t : TypeId} {cs : List Value} {x : Ent} {L : List Ent} [h : InCells b L t cs] : InCells b (x :: L) t cs := ⟨List.mem_cons_of_mem _ h.mem⟩

/-- In L the block b's entry is 'e'; with e' in its place L is L'. -/
class Swap (b : Nat) (L : List Ent) (e : outParam Ent) (e' : Ent) (L' : outParam (List Ent)) : Prop where
  out : ∃ i, L[i]? = some e ∧ L.set i e' = L'
instance Swap.here {b : Nat} {t : TypeId} {cs : List Value} {L : List Ent} {e' : Ent} : Swap b (Ent.cells b t cs :: L) (Ent.cells b t cs) e' (e' :: L) := ⟨0, rfl, rfl⟩
instance (priority := low) Swap.there {b : Nat} {e e' x : Ent} {L L' : List Ent} [h : Swap b L e e' L'] : Swap b (x :: L) e e' (x :: L') := by
  obtain ⟨i, h1, h2⟩ := h.out
  exact ⟨i + 1, by simpa using h1, by rw [List.set_cons_succ, h2]⟩

/-- In L the block b is these cells; with others in their place L is L'. -/
class SwapCells (b : Nat) (L : List Ent) (t : outParam TypeId) (cs : outParam (List Value)) (cs' : List Value) (L' : outParam (List Ent)) : Prop where
  out : ∃ i, L[i]? = some (Ent.cells b t cs) ∧ L.set i (Ent.cells b t cs') = L'
instance SwapCells.here {b : Nat} {t : TypeId} {cs cs' : List Value} {L : List Ent} : SwapCells b (Ent.cells b t cs :: L) t cs cs' (Ent.cells b t cs' :: L) := ⟨0, rfl, rfl⟩
instance (priority := low) SwapCells.there {b : Nat} {t : TypeId} {cs cs' : List Value} {x : Ent} {L L' : List Ent} [h : SwapCells b L t cs cs' L'] : SwapCells b (x :: L) t cs cs' (x :: L') := by
  obtain ⟨i, h1, h2⟩ := h.out
  exact ⟨i + 1, by simpa using h1, by rw [List.set_cons_succ, h2]⟩

section
variable {P : Program} {ops : Array Oper} {tab : List Nat} {soft : Nat} {d : Bool} {Q : Exit → Act → World → Prop} {n : Nat} {ds : List Deferred}
variable {rest : OT} {pend : List Pend} {ρ : Env} {w : World} {i : Nat} {t : Tmp} {ty : TypeId} {pos : String} {aft : Array Edge} {g : Option (Nat × Bool)}

theorem re_skip1 {op : Op} (ho : ops[i]? = some ⟨some t, op, ty, pos, aft, g⟩) (hw : wantE ops ρ ⟨some t, op, ty, pos, aft, g⟩ = some false) (hd : Nat.blt t n = true)
    (k : RE P ops tab soft d Q n ds rest pend ((t, undef) :: ρ) w) : RE P ops tab soft d Q n ds (.op i rest) pend ρ w := re_skip ho hw hd k

theorem re_move {x : Operand} {v : Value} (ho : ops[i]? = some ⟨some t, .move x, ty, pos, aft, g⟩) (hw : wantE ops ρ ⟨some t, .move x, ty, pos, aft, g⟩ = some true) (hs : isSoft soft i = true) (hd : Nat.blt t n = true)
    (hx : ev ρ x = some v) (k : RE P ops tab soft d Q n ds rest pend ((t, v) :: ρ) w) : RE P ops tab soft d Q n ds (.op i rest) pend ρ w :=
  re_soft (s := Sem.pure v) ho hw hs hd (fun a ha => by simp only [execOp, ha.eval hx]; rfl) (fun _ => rfl) k
theorem re_assign {x : Operand} {v : Value} (ho : ops[i]? = some ⟨some t, .assign x, ty, pos, aft, g⟩) (hw : wantE ops ρ ⟨some t, .assign x, ty, pos, aft, g⟩ = some true) (hs : isSoft soft i = true) (hd : Nat.blt t n = true)
    (hx : ev ρ x = some v) (k : RE P ops tab soft d Q n ds rest pend ((t, v) :: ρ) w) : RE P ops tab soft d Q n ds (.op i rest) pend ρ w :=
  re_soft (s := Sem.pure v) ho hw hs hd (fun a ha => by simp only [execOp, ha.eval hx]; rfl) (fun _ => rfl) k
theorem re_pickT {c x y : Operand} {v : Value} (ho : ops[i]? = some ⟨some t, .pick c x y, ty, pos, aft, g⟩) (hw : wantE ops ρ ⟨some t, .pick c x y, ty, pos, aft, g⟩ = some true) (hs : isSoft soft i = true) (hd : Nat.blt t n = true)
    (hc : ev ρ c = some (.bool true)) (hx : ev ρ x = some v) (k : RE P ops tab soft d Q n ds rest pend ((t, v) :: ρ) w) : RE P ops tab soft d Q n ds (.op i rest) pend ρ w :=
  re_soft (s := Sem.pure v) ho hw hs hd (fun a ha => by simp only [execOp, ha.eval hc, ha.eval hx]; rfl) (fun _ => rfl) k
theorem re_pickF {c x y : Operand} {v : Value} (ho : ops[i]? = some ⟨some t, .pick c x y, ty, pos, aft, g⟩) (hw : wantE ops ρ ⟨some t, .pick c x y, ty, pos, aft, g⟩ = some true) (hs : isSoft soft i = true) (hd : Nat.blt t n = true)
    (hc : ev ρ c = some (.bool false)) (hx : ev ρ y = some v) (k : RE P ops tab soft d Q n ds rest pend ((t, v) :: ρ) w) : RE P ops tab soft d Q n ds (.op i rest) pend ρ w :=
  re_soft (s := Sem.pure v) ho hw hs hd (fun a ha => by simp only [execOp, ha.eval hc, ha.eval hx]; rfl) (fun _ => rfl) k
theorem re_nilc {x : Operand} {p : Addr} (ho : ops[i]? = some ⟨some t, .nilCheck x, ty, pos, aft, g⟩) (hw : wantE ops ρ ⟨some t, .nilCheck x, ty, pos, aft, g⟩ = some true) (hs : isSoft soft i = true) (hd : Nat.blt t n = true)
    (hx : ev ρ x = some (.pointer (some p))) (k : RE P ops tab soft d Q n ds rest pend ((t, .pointer (some p)) :: ρ) w) : RE P ops tab soft d Q n ds (.op i rest) pend ρ w :=
  re_soft (s := Sem.pure (.pointer (some p))) ho hw hs hd (fun a ha => by simp only [execOp, ha.eval hx]; rfl) (fun _ => rfl) k

theorem re_field {s f off b o : Nat} {x : Operand} (ho : ops[i]? = some ⟨some t, .fieldAddr s x f, ty, pos, aft, g⟩) (hw : wantE ops ρ ⟨some t, .fieldAddr s x f, ty, pos, aft, g⟩ = some true) (hs : isSoft soft i = true) (hd : Nat.blt t n = true)
    (hx : ev ρ x = some (.pointer (some ⟨b, o, none⟩))) (hf : fOff P s f = some off) (k : RE P ops tab soft d Q n ds rest pend ((t, .pointer (some ⟨b, o + off, none⟩)) :: ρ) w) : RE P ops tab soft d Q n ds (.op i rest) pend ρ w :=
  re_soft (s := Instr.fieldAt s (.pointer (some ⟨b, o, none⟩)) f) ho hw hs hd (fun a ha => by simp only [execOp, ha.eval hx]; rfl) (fun w => by rw [run_fieldAt hf, add_lit]) k
theorem re_field0 {s f off b : Nat} {x : Operand} (ho : ops[i]? = some ⟨some t, .fieldAddr s x f, ty, pos, aft, g⟩) (hw : wantE ops ρ ⟨some t, .fieldAddr s x f, ty, pos, aft, g⟩ = some true) (hs : isSoft soft i = true) (hd : Nat.blt t n = true)
    (hx : ev ρ x = some (.pointer (some ⟨b, 0, none⟩))) (hf : fOff P s f = some off) (k : RE P ops tab soft d Q n ds rest pend ((t, .pointer (some ⟨b, off, none⟩)) :: ρ) w) : RE P ops tab soft d Q n ds (.op i rest) pend ρ w :=
  re_field ho hw hs hd hx hf (by rw [Nat.zero_add]; exact k)
/-- A field behind an address that is a letter. -/
theorem re_fieldA {s f off m : Nat} {ad : Addr} {x : Operand} (ho : ops[i]? = some ⟨some t, .fieldAddr s x f, ty, pos, aft, g⟩) (hw : wantE ops ρ ⟨some t, .fieldAddr s x f, ty, pos, aft, g⟩ = some true) (hs : isSoft soft i = true) (hd : Nat.blt t n = true)
    (hx : ev ρ x = some (.pointer (some (ad.add m)))) (hf : fOff P s f = some off) (k : RE P ops tab soft d Q n ds rest pend ((t, .pointer (some (ad.add (m + off)))) :: ρ) w) : RE P ops tab soft d Q n ds (.op i rest) pend ρ w :=
  re_soft (s := Instr.fieldAt s (.pointer (some (ad.add m))) f) ho hw hs hd (fun a ha => by simp only [execOp, ha.eval hx]; rfl) (fun w => by rw [run_fieldAt hf, add_add']) k
where
  add_add' {ad : Addr} {m off : Nat} : (ad.add m).add off = ad.add (m + off) := by
    unfold Addr.add
    by_cases h1 : m = 0 <;> by_cases h2 : off = 0 <;> simp [h1, h2, Nat.add_assoc]

/-- A load out of a block that is known. -/
theorem re_load {B : World} {L : List Ent} (H : Own B L w) {τ : TypeId} {x : Operand} {agg : Bool} {kk b off : Nat} {e : TypeId} {cs : List Value} {v : Value}
    (ho : ops[i]? = some ⟨some t, .load τ x, ty, pos, aft, g⟩) (hw : wantE ops ρ ⟨some t, .load τ x, ty, pos, aft, g⟩ = some true) (hs : isSoft soft i = true) (hd : Nat.blt t n = true)
    (hx : ev ρ x = some (.pointer (some ⟨b, off, none⟩))) (hk : shapeOf P τ = some (agg, kk)) [hm : InCells b L e cs] (hv : rdAt agg kk cs off = some v)
    (k : RE P ops tab soft d Q n ds rest (⟨i, Instr.loadAt τ (.pointer (some ⟨b, off, none⟩)), v⟩ :: pend) ((t, v) :: ρ) w) : RE P ops tab soft d Q n ds (.op i rest) pend ρ w :=
  re_read (s := Instr.loadAt τ (.pointer (some ⟨b, off, none⟩))) ho hw hs hd (fun a ha => by simp only [execOp, ha.eval hx]; rfl) (run_loadAt_own H hk hm.mem hv) k
theorem still_load {B : World} {L : List Ent} {w : World} (H : Own B L w) {τ : TypeId} {agg : Bool} {kk b off : Nat} {e : TypeId} {cs : List Value} {v : Value} (hk : shapeOf P τ = some (agg, kk)) [hm : InCells b L e cs] (hv : rdAt agg kk cs off = some v) :
    (Instr.loadAt τ (.pointer (some ⟨b, off, none⟩))).run P w = .ok v w := run_loadAt_own H hk hm.mem hv
/-- A load of which the run is known. -/
theorem re_loadW {τ : TypeId} {x : Operand} {p v : Value}
    (ho : ops[i]? = some ⟨some t, .load τ x, ty, pos, aft, g⟩) (hw : wantE ops ρ ⟨some t, .load τ x, ty, pos, aft, g⟩ = some true) (hs : isSoft soft i = true) (hd : Nat.blt t n = true)
    (hx : ev ρ x = some p) (hv : (Instr.loadAt τ p).run P w = .ok v w)
    (k : RE P ops tab soft d Q n ds rest (⟨i, Instr.loadAt τ p, v⟩ :: pend) ((t, v) :: ρ) w) : RE P ops tab soft d Q n ds (.op i rest) pend ρ w :=
  re_read (s := Instr.loadAt τ p) ho hw hs hd (fun a ha => by simp only [execOp, ha.eval hx]; rfl) hv k

theorem re_store {B : World} {L : List Ent} {L' : List Value → List Ent} (H : Own B L w) {τ : TypeId} {x y : Operand} {agg : Bool} {kk b off : Nat} {e : TypeId} {cs : List Value} {v : Value} {vs : List Value}
    (ho : ops[i]? = some ⟨none, .store τ x y, ty, pos, aft, g⟩) (hw : wantE ops ρ ⟨none, .store τ x y, ty, pos, aft, g⟩ = some true) (hs : isSoft soft i = false)
    (hx : ev ρ x = some (.pointer (some ⟨b, off, none⟩))) (hy : ev ρ y = some v) (hvs : v.cells = vs.toArray) (hk : shapeOf P τ = some (agg, kk)) [hi : ∀ cs', SwapCells b L e cs cs' (L' cs')] (hl : vs.length = kk) (hle : Nat.ble (off + vs.length) cs.length = true) (h1 : vs.all oneB = true)
    (k : ∀ cs' w', setMany cs off vs = cs' → Own B (L' cs') w' → (d = true → Still P tab i w' pend) ∧ RE P ops tab soft d Q n ds rest pend ρ w') : RE P ops tab soft d Q n ds (.op i rest) pend ρ w := by
  obtain ⟨li, hi1, hi2⟩ := (hi (setMany cs off vs)).out
  obtain ⟨w', hr, Hw⟩ := run_storeAt_own H hk hi1 hvs hl (Nat.le_of_ble_eq_true hle) h1
  rw [hi2] at Hw
  exact re_effu (s := Instr.storeAt τ (.pointer (some ⟨b, off, none⟩)) v) ho hw hs rfl (fun a ha => by simp only [execOp, ha.eval hx, ha.eval hy]; rfl) hr (k _ w' rfl Hw)

theorem re_alloc {B : World} {L : List Ent} (H : Own B L w) {τ : TypeId} {zs : List Value}
    (ho : ops[i]? = some ⟨some t, .alloc τ, ty, pos, aft, g⟩) (hw : wantE ops ρ ⟨some t, .alloc τ, ty, pos, aft, g⟩ = some true) (hs : isSoft soft i = false) (hd : Nat.blt t n = true) (hz : zeroC P τ = some zs)
    (k : ∀ b w', Own B (.cells b τ zs :: L) w' → (d = true → Still P tab i w' pend) ∧ RE P ops tab soft d Q n ds rest pend ((t, .pointer (some ⟨b, 0, none⟩)) :: ρ) w') : RE P ops tab soft d Q n ds (.op i rest) pend ρ w := by
  unfold zeroC at hz
  cases hi : P.info? τ with
  | none => rw [hi] at hz; simp at hz
  | some inf =>
    rw [hi] at hz
    simp only [Option.bind_some, Option.map_eq_some_iff] at hz
    obtain ⟨z, hz1, hz2⟩ := hz
    have hzc : z.cells = zs.toArray := by rw [← hz2]
    refine re_effv (s := Instr.alloc τ true (.tuple #[])) (w' := { w with heap := w.heap.push (.cells zs.toArray τ) }) ho hw hs hd (fun a _ => rfl) ?_ (k w.heap.size _ (H.alloc τ zs))
    simp [Instr.alloc, zeroValue, typeInfo, hi, hz1, newVar, newRow, newObj, Sem.run, hzc]

theorem re_box {B : World} {L : List Ent} (H : Own B L w) {τ : TypeId} {x : Operand} {v : Value} {vs : List Value}
    (ho : ops[i]? = some ⟨some t, .box τ x, ty, pos, aft, g⟩) (hw : wantE ops ρ ⟨some t, .box τ x, ty, pos, aft, g⟩ = some true) (hs : isSoft soft i = false) (hd : Nat.blt t n = true) (hx : ev ρ x = some v) (hvs : v.cells = vs.toArray)
    (k : ∀ b w', Own B (.cells b τ vs :: L) w' → (d = true → Still P tab i w' pend) ∧ RE P ops tab soft d Q n ds rest pend ((t, .pointer (some ⟨b, 0, none⟩)) :: ρ) w') : RE P ops tab soft d Q n ds (.op i rest) pend ρ w := by
  refine re_effv (s := Instr.box τ v) (w' := { w with heap := w.heap.push (.cells vs.toArray τ) }) ho hw hs hd (fun a ha => by simp only [execOp, ha.eval hx]; rfl) ?_ (k w.heap.size _ (H.alloc τ vs))
  simp [Instr.box, newVar, newRow, newObj, Sem.run, hvs]

def evParts (ρ : Env) : List (Nat × Operand) → Option (List (Nat × Value))
  | [] => some []
  | (j, x) :: r => match ev ρ x with
    | some v => match evParts ρ r with
      | some vs => some ((j, v) :: vs)
      | none => none
    | none => none
theorem evParts_spec {ρ : Env} {a : Act} (ha : Rel n ds ρ a) : ∀ (l : List (Nat × Operand)) (vs : List (Nat × Value)), evParts ρ l = some vs → (l.map fun (x : Nat × Operand) => (x.1, a.eval x.2)) = vs
  | [], vs, h => by simp [evParts] at h; subst h; rfl
  | (j, x) :: r, vs, h => by
    simp only [evParts] at h
    cases hx : ev ρ x with
    | none => rw [hx] at h; simp at h
    | some v =>
      cases hr : evParts ρ r with
      | none => rw [hx, hr] at h; simp at h
      | some us =>
        rw [hx, hr] at h
        simp at h
        subst h
        simp [ha.eval hx, evParts_spec ha r us hr]

theorem re_build {τ : TypeId} {parts : List (Nat × Operand)} {pv : List (Nat × Value)} {zero cells : List Value} {places : List (Nat × Nat)}
    (ho : ops[i]? = some ⟨some t, .build τ parts.toArray, ty, pos, aft, g⟩) (hw : wantE ops ρ ⟨some t, .build τ parts.toArray, ty, pos, aft, g⟩ = some true) (hs : isSoft soft i = true) (hd : Nat.blt t n = true)
    (hp : evParts ρ parts = some pv) (hz : zeroC P τ = some zero) (hpl : placesOf P τ = some places) (hf : fillL places zero pv = some cells)
    (k : RE P ops tab soft d Q n ds rest pend ((t, .agg cells.toArray) :: ρ) w) : RE P ops tab soft d Q n ds (.op i rest) pend ρ w :=
  re_soft (s := Instr.build τ pv.toArray) ho hw hs hd (fun a ha => by
    have := evParts_spec ha parts pv hp
    simp only [execOp]
    have h2 : (parts.toArray.map fun (x : Nat × Operand) => (x.1, a.eval x.2)) = pv.toArray := by simp [this]
    rw [h2]; rfl) (fun w => run_build hz hpl (by simpa using hf)) k

/-! ### Numbers -/
theorem run_bin_int {op : BinOp} {xt : TypeId} {k : IntKind} {a b : Int} {x y : Operand} {v : Value} {w : World} (h : (binOp op xt (.int k a) (.int k b)).run P w = .ok v w) :
    (do eqGuard op xt x y (.int k a) (.int k b); binOp op xt (.int k a) (.int k b) : Sem Value).run P w = .ok v w := by
  have : (eqGuard op xt x y (.int k a) (.int k b)).run P w = .ok () w := by
    unfold eqGuard
    cases op <;> simp
  simp [this, h]

def intOp (op : BinOp) (k : IntKind) (a b : Int) : Option Value :=
  match op with
  | .add => some (.int k (k.wrap (a + b)))
  | .sub => some (.int k (k.wrap (a - b)))
  | .mul => some (.int k (k.wrap (a * b)))
  | .eql => some (.bool (decide (a = b)))
  | .neq => some (.bool (!decide (a = b)))
  | .lss => some (.bool (decide (a < b)))
  | .leq => some (.bool (decide (a ≤ b)))
  | .gtr => some (.bool (decide (b < a)))
  | .geq => some (.bool (decide (b ≤ a)))
  | _ => none

theorem intOp_spec {op : BinOp} {k : IntKind} {a b : Int} {v : Value} (h : intOp op k a b = some v) (xt : TypeId) (w : World) : (binOp op xt (.int k a) (.int k b)).run P w = .ok v w := by
  cases op <;> simp only [intOp] at h <;> first | (cases h; done) | (injection h with h; subst h) <;> simp [binOp, Op.intArith, Op.intCmp, bne] <;> rfl

theorem re_bin {op : BinOp} {xt yt : TypeId} {x y : Operand} {kd : IntKind} {a b : Int} {v : Value}
    (ho : ops[i]? = some ⟨some t, .binOp op xt x y yt, ty, pos, aft, g⟩) (hw : wantE ops ρ ⟨some t, .binOp op xt x y yt, ty, pos, aft, g⟩ = some true) (hs : isSoft soft i = true) (hd : Nat.blt t n = true)
    (hx : ev ρ x = some (.int kd a)) (hy : ev ρ y = some (.int kd b)) (hv : intOp op kd a b = some v) (k : RE P ops tab soft d Q n ds rest pend ((t, v) :: ρ) w) : RE P ops tab soft d Q n ds (.op i rest) pend ρ w :=
  re_soft (s := do eqGuard op xt x y (.int kd a) (.int kd b); binOp op xt (.int kd a) (.int kd b)) ho hw hs hd (fun a' ha => by simp only [execOp, ha.eval hx, ha.eval hy]; rfl) (fun w => run_bin_int (intOp_spec hv xt w)) k
/-- A sum that does not wrap. -/
theorem re_add {xt yt : TypeId} {x y : Operand} {a b : Int}
    (ho : ops[i]? = some ⟨some t, .binOp .add xt x y yt, ty, pos, aft, g⟩) (hw : wantE ops ρ ⟨some t, .binOp .add xt x y yt, ty, pos, aft, g⟩ = some true) (hs : isSoft soft i = true) (hd : Nat.blt t n = true)
    (hx : ev ρ x = some (.int .i64 a)) (hy : ev ρ y = some (.int .i64 b)) (hb : -9223372036854775808 ≤ a + b ∧ a + b ≤ 9223372036854775807) (k : RE P ops tab soft d Q n ds rest pend ((t, .int .i64 (a + b)) :: ρ) w) : RE P ops tab soft d Q n ds (.op i rest) pend ρ w :=
  re_bin (v := .int .i64 (a + b)) ho hw hs hd hx hy (by simp only [intOp]; rw [IntWalk.i64_in _ (by omega)]) k
theorem re_subI {xt yt : TypeId} {x y : Operand} {a b : Int}
    (ho : ops[i]? = some ⟨some t, .binOp .sub xt x y yt, ty, pos, aft, g⟩) (hw : wantE ops ρ ⟨some t, .binOp .sub xt x y yt, ty, pos, aft, g⟩ = some true) (hs : isSoft soft i = true) (hd : Nat.blt t n = true)
    (hx : ev ρ x = some (.int .i64 a)) (hy : ev ρ y = some (.int .i64 b)) (hb : -9223372036854775808 ≤ a - b ∧ a - b ≤ 9223372036854775807) (k : RE P ops tab soft d Q n ds rest pend ((t, .int .i64 (a - b)) :: ρ) w) : RE P ops tab soft d Q n ds (.op i rest) pend ρ w :=
  re_bin (v := .int .i64 (a - b)) ho hw hs hd hx hy (by simp only [intOp]; rw [IntWalk.i64_in _ (by omega)]) k
theorem re_mul {xt yt : TypeId} {x y : Operand} {a b : Int}
    (ho : ops[i]? = some ⟨some t, .binOp .mul xt x y yt, ty, pos, aft, g⟩) (hw : wantE ops ρ ⟨some t, .binOp .mul xt x y yt, ty, pos, aft, g⟩ = some true) (hs : isSoft soft i = true) (hd : Nat.blt t n = true)
    (hx : ev ρ x = some (.int .i64 a)) (hy : ev ρ y = some (.int .i64 b)) (hb : -9223372036854775808 ≤ a * b ∧ a * b ≤ 9223372036854775807) (k : RE P ops tab soft d Q n ds rest pend ((t, .int .i64 (a * b)) :: ρ) w) : RE P ops tab soft d Q n ds (.op i rest) pend ρ w :=
  re_bin (v := .int .i64 (a * b)) ho hw hs hd hx hy (by simp only [intOp]; rw [IntWalk.i64_in _ (by omega)]) k

theorem re_not {x : Operand} {xt : TypeId} {b : Bool} (ho : ops[i]? = some ⟨some t, .unOp .not xt x, ty, pos, aft, g⟩) (hw : wantE ops ρ ⟨some t, .unOp .not xt x, ty, pos, aft, g⟩ = some true) (hs : isSoft soft i = true) (hd : Nat.blt t n = true)
    (hx : ev ρ x = some (.bool b)) (k : RE P ops tab soft d Q n ds rest pend ((t, .bool (!b)) :: ρ) w) : RE P ops tab soft d Q n ds (.op i rest) pend ρ w :=
  re_soft (s := Sem.pure (.bool (!b))) ho hw hs hd (fun a ha => by simp only [execOp, ha.eval hx]; rfl) (fun _ => rfl) k

/-! ### Calls -/
def evArgs (ρ : Env) : List Operand → Option (List Value)
  | [] => some []
  | x :: r => match ev ρ x with
    | some v => match evArgs ρ r with
      | some vs => some (v :: vs)
      | none => none
    | none => none
theorem evArgs_spec {ρ : Env} {a : Act} (ha : Rel n ds ρ a) : ∀ (l : List Operand) (vs : List Value), evArgs ρ l = some vs → l.map a.eval = vs
  | [], vs, h => by simp [evArgs] at h; subst h; rfl
  | x :: r, vs, h => by
    simp only [evArgs] at h
    cases hx : ev ρ x with
    | none => rw [hx] at h; simp at h
    | some v =>
      cases hr : evArgs ρ r with
      | none => rw [hx, hr] at h; simp at h
      | some us =>
        rw [hx, hr] at h
        simp at h
        subst h
        simp [ha.eval hx, evArgs_spec ha r us hr]

/-- Function f of the program has a body of its own. -/
def Enterable (P : Program) (f : FuncId) : Prop := ∃ fn, P.funcs[f]? = some fn ∧ fn.body.isNone = false ∧ (fn.name == "runtime.NumGoroutine") = false
theorem run_callFunc {f : FuncId} (h : Enterable P f) (args : Array Value) (w : World) : (callFunc f args).run P w = .ok (.enter f args) w := by
  obtain ⟨fn, h1, h2, h3⟩ := h
  have h3' : ¬ fn.name = "runtime.NumGoroutine" := by simpa using h3
  have h2' : ¬ fn.body = none := by intro e; rw [e] at h2; cases h2
  simp [callFunc, h1, h2', h3']

theorem re_call {f : FuncId} {xs : List Operand} {ats : Array TypeId} {args : List Value} (hf : Enterable P f)
    (ho : ops[i]? = some ⟨some t, .call { callee := .value (.func f), args := xs.toArray, argTypes := ats }, ty, pos, aft, g⟩) (hw : wantE ops ρ ⟨some t, .call { callee := .value (.func f), args := xs.toArray, argTypes := ats }, ty, pos, aft, g⟩ = some true) (hs : isSoft soft i = false) (hd : Nat.blt t n = true)
    (hx : evArgs ρ xs = some args)
    (k : Calls P f args.toArray w fun e w' => ∃ v, e = .returned v ∧ (d = true → Still P tab i w' pend) ∧ RE P ops tab soft d Q n ds rest pend ((t, v) :: ρ) w') : RE P ops tab soft d Q n ds (.op i rest) pend ρ w :=
  re_enter ho hw hs hd (fun a ha => by
    have h1 := evArgs_spec ha xs args hx
    rw [execOp_call_go]
    have h2 : (#[] ++ xs.toArray.map a.eval ++ #[]) = args.toArray := by simp [h1]
    rw [h2]; exact run_callFunc hf _ w) k
/-- A call whose result is dropped. -/
theorem re_call0 {f : FuncId} {xs : List Operand} {ats : Array TypeId} {args : List Value} (hf : Enterable P f)
    (ho : ops[i]? = some ⟨none, .call { callee := .value (.func f), args := xs.toArray, argTypes := ats }, ty, pos, aft, g⟩) (hw : wantE ops ρ ⟨none, .call { callee := .value (.func f), args := xs.toArray, argTypes := ats }, ty, pos, aft, g⟩ = some true) (hs : isSoft soft i = false)
    (hx : evArgs ρ xs = some args)
    (k : Calls P f args.toArray w fun e w' => ∃ v, e = .returned v ∧ (d = true → Still P tab i w' pend) ∧ RE P ops tab soft d Q n ds rest pend ρ w') : RE P ops tab soft d Q n ds (.op i rest) pend ρ w :=
  re_enter ho hw hs rfl (fun a ha => by
    have h1 := evArgs_spec ha xs args hx
    rw [execOp_call_go]
    have h2 : (#[] ++ xs.toArray.map a.eval ++ #[]) = args.toArray := by simp [h1]
    rw [h2]; exact run_callFunc hf _ w) k

theorem re_extract {x : Operand} {j : Nat} {vs : List Value} {v : Value} (ho : ops[i]? = some ⟨some t, .extract x j, ty, pos, aft, g⟩) (hw : wantE ops ρ ⟨some t, .extract x j, ty, pos, aft, g⟩ = some true) (hs : isSoft soft i = true) (hd : Nat.blt t n = true)
    (hx : ev ρ x = some (.tuple vs.toArray)) (hj : vs[j]? = some v) (k : RE P ops tab soft d Q n ds rest pend ((t, v) :: ρ) w) : RE P ops tab soft d Q n ds (.op i rest) pend ρ w :=
  re_soft (s := Instr.extract (.tuple vs.toArray) j) ho hw hs hd (fun a ha => by simp only [execOp, ha.eval hx]; rfl) (fun w => by simp [Instr.extract, hj]) k

theorem re_iface {x : Operand} {xt : TypeId} {v : Value} (ho : ops[i]? = some ⟨some t, .makeInterface xt x, ty, pos, aft, g⟩) (hw : wantE ops ρ ⟨some t, .makeInterface xt x, ty, pos, aft, g⟩ = some true) (hs : isSoft soft i = true) (hd : Nat.blt t n = true)
    (hx : ev ρ x = some v) (hn : notIface P xt = true) (k : RE P ops tab soft d Q n ds rest pend ((t, .iface xt v) :: ρ) w) : RE P ops tab soft d Q n ds (.op i rest) pend ρ w :=
  re_soft (s := Instr.makeInterface xt v) ho hw hs hd (fun a ha => by simp only [execOp, ha.eval hx]; rfl) (fun w => by
    unfold notIface at hn
    cases hu : P.underlying xt with
    | none => rw [hu] at hn; cases hn
    | some dd =>
      rw [hu] at hn
      simp only [Instr.makeInterface, Sem.run_bind, run_underlying hu, Result.andThen_ok]
      cases dd <;> first | (cases hn; done) | rfl) k

theorem re_max {x y : Operand} {a b : Int} {ats : Array TypeId} (ho : ops[i]? = some ⟨some t, .call { callee := .builtin .max, args := #[x, y], argTypes := ats }, ty, pos, aft, g⟩) (hw : wantE ops ρ ⟨some t, .call { callee := .builtin .max, args := #[x, y], argTypes := ats }, ty, pos, aft, g⟩ = some true) (hs : isSoft soft i = true) (hd : Nat.blt t n = true)
    (hx : ev ρ x = some (.int .i64 a)) (hy : ev ρ y = some (.int .i64 b)) (k : RE P ops tab soft d Q n ds rest pend ((t, .int .i64 (max a b)) :: ρ) w) : RE P ops tab soft d Q n ds (.op i rest) pend ρ w :=
  re_soft (s := Builtin.max_ ats ty #[.int .i64 a, .int .i64 b]) ho hw hs hd (fun a' ha => by
    simp only [execOp, resolve, invoke, builtin, List.map_toArray, List.map_cons, List.map_nil, ha.eval hx, ha.eval hy]; rfl) (fun w => by
    simp only [Builtin.max_, List.foldlM_cons, List.foldlM_nil, Builtin.max2, Sem.run_bind, Sem.run_pure, Result.andThen_ok]
    congr 2; omega) k
theorem re_min {x y : Operand} {a b : Int} {ats : Array TypeId} (ho : ops[i]? = some ⟨some t, .call { callee := .builtin .min, args := #[x, y], argTypes := ats }, ty, pos, aft, g⟩) (hw : wantE ops ρ ⟨some t, .call { callee := .builtin .min, args := #[x, y], argTypes := ats }, ty, pos, aft, g⟩ = some true) (hs : isSoft soft i = true) (hd : Nat.blt t n = true)
    (hx : ev ρ x = some (.int .i64 a)) (hy : ev ρ y = some (.int .i64 b)) (k : RE P ops tab soft d Q n ds rest pend ((t, .int .i64 (min a b)) :: ρ) w) : RE P ops tab soft d Q n ds (.op i rest) pend ρ w :=
  re_soft (s := Builtin.min_ ats ty #[.int .i64 a, .int .i64 b]) ho hw hs hd (fun a' ha => by
    simp only [execOp, resolve, invoke, builtin, List.map_toArray, List.map_cons, List.map_nil, ha.eval hx, ha.eval hy]; rfl) (fun w => by
    simp only [Builtin.min_, List.foldlM_cons, List.foldlM_nil, Builtin.min2, Sem.run_bind, Sem.run_pure, Result.andThen_ok]
    congr 2; omega) k

/-! ### Lengths, indexes of slices and strings -/
theorem re_len {x : Operand} {a : Option Addr} {m c : Nat} {st e : TypeId} (ho : ops[i]? = some ⟨some t, .call { callee := .builtin .len, args := #[x], argTypes := #[st] }, ty, pos, aft, g⟩) (hw : wantE ops ρ ⟨some t, .call { callee := .builtin .len, args := #[x], argTypes := #[st] }, ty, pos, aft, g⟩ = some true) (hs : isSoft soft i = true) (hd : Nat.blt t n = true)
    (hx : ev ρ x = some (.slice a m c)) (hu : P.underlying st = some (.slice e)) (k : RE P ops tab soft d Q n ds rest pend ((t, .int .i64 (m : Int)) :: ρ) w) : RE P ops tab soft d Q n ds (.op i rest) pend ρ w :=
  re_soft (s := Builtin.len_ #[st] ty #[.slice a m c]) ho hw hs hd (fun a' ha => by
    simp only [execOp, resolve, invoke, builtin, List.map_toArray, List.map_cons, List.map_nil, ha.eval hx]; rfl) (fun w => by simp [Builtin.len_, run_underlying hu, goInt]) k
theorem re_lenS {x : Operand} {s : ByteArray} {st : TypeId} (ho : ops[i]? = some ⟨some t, .call { callee := .builtin .len, args := #[x], argTypes := #[st] }, ty, pos, aft, g⟩) (hw : wantE ops ρ ⟨some t, .call { callee := .builtin .len, args := #[x], argTypes := #[st] }, ty, pos, aft, g⟩ = some true) (hs : isSoft soft i = true) (hd : Nat.blt t n = true)
    (hx : ev ρ x = some (.string s)) (hu : P.underlying st = some .string) (k : RE P ops tab soft d Q n ds rest pend ((t, .int .i64 (s.size : Int)) :: ρ) w) : RE P ops tab soft d Q n ds (.op i rest) pend ρ w :=
  re_soft (s := Builtin.len_ #[st] ty #[.string s]) ho hw hs hd (fun a' ha => by
    simp only [execOp, resolve, invoke, builtin, List.map_toArray, List.map_cons, List.map_nil, ha.eval hx]; rfl) (fun w => by simp [Builtin.len_, run_underlying hu, goInt]) k

theorem run_indexAt {st e : TypeId} {size : Nat} {bytes : Nat} (hu : P.underlying st = some (.slice e)) (he : elemInfo P st = some (e, size, bytes)) {ad : Addr} {m c : Nat} {kd : IntKind} {j : Int} (h0 : 0 ≤ j) (h1 : j < m) (w : World) :
    (Instr.indexAt st (.slice (some ad) m c) (.int kd j)).run P w = .ok (.pointer (some (ad.add (j.toNat * size)))) w := by
  have hs : (sizeOf e).run P w = .ok size w := by
    simp only [elemInfo, hu, Option.map_eq_some_iff, Prod.mk.injEq] at he
    obtain ⟨i, hi, _, h2, _⟩ := he
    simp [sizeOf, typeInfo, hi, h2]
  simp [Instr.indexAt, asIntOf, run_underlying hu, h0, h1, hs]
theorem re_index {st e : TypeId} {size bytes : Nat} {x y : Operand} {ad : Addr} {m c : Nat} {kd : IntKind} {j : Int} (ho : ops[i]? = some ⟨some t, .indexAddr st x y, ty, pos, aft, g⟩) (hw : wantE ops ρ ⟨some t, .indexAddr st x y, ty, pos, aft, g⟩ = some true) (hs : isSoft soft i = true) (hd : Nat.blt t n = true)
    (hx : ev ρ x = some (.slice (some ad) m c)) (hy : ev ρ y = some (.int kd j)) (hu : P.underlying st = some (.slice e)) (he : elemInfo P st = some (e, size, bytes)) (h0 : 0 ≤ j) (h1 : j < m)
    (k : RE P ops tab soft d Q n ds rest pend ((t, .pointer (some (ad.add (j.toNat * size)))) :: ρ) w) : RE P ops tab soft d Q n ds (.op i rest) pend ρ w :=
  re_soft (s := Instr.indexAt st (.slice (some ad) m c) (.int kd j)) ho hw hs hd (fun a ha => by simp only [execOp, ha.eval hx, ha.eval hy]; rfl) (fun w => run_indexAt hu he h0 h1 w) k

/-- A result that lies in memory. -/
theorem qe_endCell {B : World} {L : List Ent} {w : World} (H : Own B L w) {fn : Func} {R : Ending → World → Prop} {ρ : Env} {t : Tmp} {τ : TypeId} {agg : Bool} {kk b off : Nat} {e : TypeId} {cs : List Value} {v : Value} (hf : fn.results = #[.cell t τ]) (hx : look ρ t = some (.pointer (some ⟨b, off, none⟩)))
    (hk : shapeOf P τ = some (agg, kk)) [hm : InCells b L e cs] (hv : rdAt agg kk cs off = some v) (h : R (.returned v) w) : QE (bodyPost P fn R) n [] .ret ρ w := fun a ha => by
  refine bodyPost_ret (v := v) ?_ ha.defers h
  have h1 := ha.get t _ hx
  have h2 := run_loadAt_own (P := P) H hk hm.mem hv
  simp only [Instr.loadAt, Instr.sureAddr, Sem.run_bind, Sem.run_pure, Result.andThen_ok] at h2
  simp [results, hf, h1, asAddr, h2]
end
end Go.Fw

/- Slices: rows that grow, rows that are read; append, make. No program in sight. -/
namespace Go.Fw
open Go Go.RowKit

/-- A slice's value: nil, or from the head of block g on. -/
abbrev slv (a : Option Nat) (n c : Nat) : Value := .slice (a.map fun g => ⟨g, 0, none⟩) n c

/-- The slice 'slv a n c' has the cells xs; it may be appended to. -/
def Ent.row (a : Option Nat) (c : Nat) (e : TypeId) (size n : Nat) (xs : List Value) : Ent :=
  ⟨a, fun o => xs.length = n * size ∧ match a with
    | none => n = 0 ∧ c = 0
    | some _ => ∃ cur : Array Value, o = some (.cells cur e (0, 0)) ∧ n ≤ c ∧ c ≤ maxLen ∧ cur.size = c * size ∧ cur.toList.take (n * size) = xs⟩

section
variable {B w w' : World} {L L' F : List Ent}

theorem Own.row_len (h : Own B L w) {a : Option Nat} {c : Nat} {e : TypeId} {size n : Nat} {xs : List Value} (hm : Ent.row a c e size n xs ∈ L) : xs.length = n * size := by
  cases a with
  | none => exact (h.pure_ hm rfl).1
  | some g => exact (h.at_ hm rfl).2.2.1

theorem Own.row_own (h : Own B L w) {a : Option Nat} {c : Nat} {e : TypeId} {size n : Nat} {xs : List Value} (hm : Ent.row a c e size n xs ∈ L) : w.ownsRow B.heap.size e size (slv a n c) n xs := by
  cases a with
  | none =>
    obtain ⟨h1, h2, h3⟩ := h.pure_ hm rfl
    exact ⟨h1, .inl ⟨by rw [h2, h3]; rfl, h2⟩⟩
  | some g =>
    obtain ⟨_, h2, h3, cur, h4, h5, h6, h7, h8⟩ := h.at_ hm rfl
    exact ⟨h3, .inr ⟨g, c, cur, rfl, h2, h4, h5, h6, h7, h8⟩⟩

/-- A row as a plain block: when all of its room is known. -/
theorem row_of_cells {g : Nat} {e : TypeId} {size n c : Nat} {cs xs : List Value} (h1 : cs.length = c * size) (h2 : n ≤ c) (h3 : c ≤ maxLen) (h4 : cs.take (n * size) = xs) {o : Option Obj} (ho : (Ent.cells g e cs).ok o) : (Ent.row (some g) c e size n xs).ok o := by
  refine ⟨?_, cs.toArray, ho, h2, h3, by simpa using h1, by simpa using h4⟩
  rw [← h4, List.length_take, h1]
  exact Nat.min_eq_left (Nat.mul_le_mul_right _ h2)

theorem Own.as_row {g : Nat} {e : TypeId} {cs xs : List Value} {size n c : Nat} (h : Own B (.cells g e cs :: L) w) (h1 : cs.length = c * size) (h2 : n ≤ c) (h3 : c ≤ maxLen) (h4 : cs.take (n * size) = xs) : Own B (.row (some g) c e size n xs :: L) w := by
  have hh := h.at_ (List.mem_cons_self ..) rfl
  have := h.turn (i := 0) (e := .cells g e cs) (e' := .row (some g) c e size n xs) rfl (b := g) rfl rfl ⟨rfl, rfl, rfl, rfl⟩ (fun _ _ => rfl) (row_of_cells h1 h2 h3 h4 hh.2.2)
  exact this

/-- The nil slice is a row. -/
theorem Own.nil_row (h : Own B L w) (e : TypeId) (size : Nat) : Own B (.row none 0 e size 0 [] :: L) w :=
  h.add (e := .row none 0 e size 0 []) ⟨by simp, rfl, rfl⟩

/-- What a row's first cells are. -/
theorem Own.row_cell (h : Own B L w) {g c : Nat} {e : TypeId} {size n : Nat} {xs : List Value} (hm : Ent.row (some g) c e size n xs ∈ L) {j : Nat} {v : Value} (hv : xs[j]? = some v) : w.cell? ⟨g, j, none⟩ = some v := by
  have := (h.row_own hm).cells (g := g) rfl j v hv
  rwa [add_lit, Nat.zero_add] at this

theorem Own.row_some (h : Own B L w) {a : Option Nat} {c : Nat} {e : TypeId} {size n : Nat} {xs : List Value} (hm : Ent.row a c e size n xs ∈ L) (hn : 0 < n) : ∃ g, a = some g := by
  cases a with
  | none => have := (h.pure_ hm rfl).2.1; omega
  | some g => exact ⟨g, rfl⟩

/-! ### Reading -/
/-- What is known of F is known in L's world. -/
class Sub (F L : List Ent) : Prop where
  out : F.Sublist L
instance Sub.refl {F : List Ent} : Sub F F := ⟨List.Sublist.refl _⟩
instance (priority := low) Sub.cons {F L : List Ent} {x : Ent} [h : Sub F L] : Sub F (x :: L) := ⟨List.Sublist.cons x h.out⟩
instance Sub.cons2 {F L : List Ent} {x : Ent} [h : Sub F L] : Sub (x :: F) (x :: L) := ⟨List.Sublist.cons_cons x h.out⟩
theorem Own.to (h : Own B L w) [hs : Sub F L] : Own B F w := h.sub hs.out

/-- The cells xs lie at 'ad', in whatever world in which B and L stand. -/
def SeesA (B : World) (L : List Ent) (ad : Addr) (xs : List Value) : Prop := ∀ w, Own B L w → ∀ j u, xs[j]? = some u → w.cell? (ad.add j) = some u
/-- The slice (a, n, ..) has the cells xs. -/
def Sees (B : World) (L : List Ent) (a : Option Addr) (n size : Nat) (xs : List Value) : Prop := xs.length = n * size ∧ ∀ w, Own B L w → 0 < n → ∃ ad, a = some ad ∧ ∀ j u, xs[j]? = some u → w.cell? (ad.add j) = some u

theorem Sees.open_ {a : Option Addr} {n size : Nat} {xs : List Value} (h : Sees B F a n size xs) (H : Own B F w) (hn : 0 < n) : ∃ ad, a = some ad ∧ SeesA B F ad xs := by
  obtain ⟨ad, rfl, _⟩ := h.2 w H hn
  refine ⟨ad, rfl, fun w' H' => ?_⟩
  obtain ⟨ad', h1, h2⟩ := h.2 w' H' hn
  injection h1 with h1
  subst h1
  exact h2
theorem Sees.mono {a : Option Addr} {n size : Nat} {xs : List Value} (h : Sees B F a n size xs) (hs : F.Sublist L) : Sees B L a n size xs := ⟨h.1, fun w H => h.2 w (H.sub hs)⟩
theorem Sees.to {a : Option Addr} {n size : Nat} {xs : List Value} (h : Sees B F a n size xs) [hs : Sub F L] : Sees B L a n size xs := h.mono hs.out
theorem SeesA.mono {ad : Addr} {xs : List Value} (h : SeesA B F ad xs) (hs : F.Sublist L) : SeesA B L ad xs := fun w H => h w (H.sub hs)
theorem Sees.nil (B : World) (L : List Ent) (size : Nat) (a : Option Addr) : Sees B L a 0 size [] := ⟨by simp, fun _ _ h => absurd h (by omega)⟩
theorem Sees.of_row {a : Option Nat} {c : Nat} {e : TypeId} {size n : Nat} {xs : List Value} (hm : Ent.row a c e size n xs ∈ L) (H : Own B L w) : Sees B L (a.map fun g => ⟨g, 0, none⟩) n size xs := by
  refine ⟨H.row_len hm, fun w' H' hn => ?_⟩
  obtain ⟨g, rfl⟩ := H'.row_some hm hn
  exact ⟨⟨g, 0, none⟩, rfl, fun j u hu => by rw [add_lit, Nat.zero_add]; exact H'.row_cell hm hu⟩
theorem Sees.of_cells {g off : Nat} {e : TypeId} {size n : Nat} {cs xs : List Value} (hm : Ent.cells g e cs ∈ L) (hl : xs.length = n * size) (hx : (cs.drop off).take xs.length = xs) : Sees B L (some ⟨g, off, none⟩) n size xs := by
  refine ⟨hl, fun w' H' _ => ⟨_, rfl, fun j u hu => ?_⟩⟩
  rw [add_lit, H'.cell hm]
  rw [← hx, List.getElem?_take] at hu
  split at hu
  · rw [List.getElem?_drop] at hu; exact hu
  · cases hu
/-- What stood in B. -/
theorem Sees.of_old {a : Option Addr} {n size : Nat} {xs : List Value} (hl : xs.length = n * size) (h : 0 < n → ∃ ad, a = some ad ∧ ad.block < B.heap.size ∧ ∀ j u, xs[j]? = some u → B.cell? (ad.add j) = some u) : Sees B L a n size xs := by
  refine ⟨hl, fun w' H' hn => ?_⟩
  obtain ⟨ad, h1, h2, h3⟩ := h hn
  refine ⟨ad, h1, fun j u hu => ?_⟩
  rw [World.cell?_of_block (w := B) (H'.old _ (by rw [block_add]; exact h2))]
  exact h3 j u hu
where
  block_add {ad : Addr} {j : Nat} : (ad.add j).block = ad.block := by unfold Addr.add; split <;> rfl

theorem SeesA.int {ad : Addr} {kd : IntKind} {xs : List Int} (h : SeesA B F ad (xs.map (Value.int kd))) (H : Own B L w) [Sub F L] {j : Nat} (hj : j < xs.length) : w.cell? (ad.add (((j : Nat) : Int).toNat * 1)) = some (.int kd xs[j]) := by
  rw [Int.toNat_natCast, Nat.mul_one]
  exact h w H.to j _ (by simp [hj])

/-! ### append -/
theorem oneB_cell {v : Value} (h : oneB v = true) : v.oneCell' = true := by cases v <;> first | rfl | cases h

theorem slv_form {base : Nat} {e : TypeId} {size n : Nat} {v : Value} {xs : List Value} (h : w.ownsRow base e size v n xs) : ∃ a c, v = slv a n c ∧ v.ownBlock = a ∧ (match a with | none => n = 0 ∧ c = 0 | some g => base ≤ g ∧ g < w.heap.size ∧ ∃ cur : Array Value, w.heap[g]? = some (.cells cur e (0, 0)) ∧ n ≤ c ∧ c ≤ maxLen ∧ cur.size = c * size ∧ cur.toList.take (n * size) = xs) := by
  rcases h.2 with ⟨rfl, rfl⟩ | ⟨g, cap, cur, rfl, hb, hg, h1, h2, h3, h4⟩
  · exact ⟨none, 0, rfl, rfl, rfl, rfl⟩
  · exact ⟨some g, cap, rfl, rfl, hb, (Array.getElem?_eq_some_iff.1 hg).1, cur, hg, h1, h2, h3, h4⟩

/-- 'append' onto a row of our own: the row grows. -/
theorem Own.append {P : Program} (H : Own B L w) {i : Nat} {a : Option Nat} {c : Nat} {e : TypeId} {size bytes n : Nat} {xs : List Value} (hi : L[i]? = some (.row a c e size n xs)) {t ty : TypeId} (hu : P.underlying t = some (.slice e)) (he : elemInfo P t = some (e, size, bytes)) {zs : List Value} (hz : zeroC P e = some zs) (hzl : zs.length = size) (hsz : 0 < size)
    {src : Option Addr} {m cs : Nat} {news : List Value} (hs : news.length = m * size ∧ (0 < m → ∃ ad, src = some ad ∧ ∀ j u, news[j]? = some u → w.cell? (ad.add j) = some u)) (h1 : news.all oneB = true) (hb : (n + m) * bytes ≤ 140737488355328) (h63 : n + m ≤ maxLen) :
    ∃ a' c' w', (Builtin.append_ #[t, t] ty #[slv a n c, .slice src m cs]).run P w = .ok (slv a' (n + m) c') w' ∧ Own B (L.set i (.row a' c' e size (n + m) (xs ++ news))) w' ∧ (m = 0 → a' = a ∧ c' = c) := by
  have hm := List.mem_of_getElem? hi
  have hown := H.row_own hm
  obtain ⟨inf, hinf, hsize, hbytes⟩ : ∃ inf, P.info? e = some inf ∧ inf.size = size ∧ inf.bytes = bytes := by
    simp only [elemInfo, hu, Option.map_eq_some_iff, Prod.mk.injEq] at he
    obtain ⟨i, h1, _, h2, h3⟩ := he
    exact ⟨i, h1, h2, h3⟩
  obtain ⟨z, hz1, hz2⟩ : ∃ z, inf.zero = some z ∧ z.cells.size = size := by
    simp only [zeroC, hinf, Option.bind_some, Option.map_eq_some_iff] at hz
    obtain ⟨z, h1, h2⟩ := hz
    exact ⟨z, h1, by rw [← hzl, ← h2]; simp⟩
  by_cases hm0 : m = 0
  · subst hm0
    have hn : news = [] := List.eq_nil_of_length_eq_zero (by simpa using hs.1)
    subst hn
    have hset : L.set i (.row a c e size n xs) = L := by
      apply List.ext_getElem?
      intro j
      rw [List.getElem?_set]
      split
      · rename_i h; subst h; rw [hi]; simp [(List.getElem?_eq_some_iff.1 hi).1]
      · rfl
    refine ⟨a, c, w, ?_, by simpa [hset] using H, fun _ => ⟨rfl, rfl⟩⟩
    have hle : n ≤ c := by
      cases a with
      | none => have := (H.pure_ hm rfl).2; omega
      | some g => obtain ⟨_, _, _, _, _, h5, _⟩ := H.at_ hm rfl; exact h5
    cases src with
    | none => cases a <;> simp [Builtin.append_, run_underlying hu, sizeOf, typeInfo, hinf, Builtin.lenOf, Builtin.firstCells, hle, storeCells, slv]
    | some ad => cases a <;> simp [Builtin.append_, run_underlying hu, sizeOf, typeInfo, hinf, Builtin.lenOf, Builtin.firstCells, loadCells, loadCellsFrom, hle, storeCells, slv]
  · obtain ⟨ad, rfl, hcell⟩ := hs.2 (by omega)
    obtain ⟨v', w', hr, hown', hg, _, hwhere⟩ := run_append_own_at (P := P) w B.heap.size t ty e inf z size bytes hu hinf hz1 hsize hbytes hz2 hsz (slv a n c) n xs hown ad m cs news hs.1 hcell (fun u hu => oneB_cell (List.all_eq_true.1 h1 u hu)) h63 hb H.size
    obtain ⟨a', c', rfl, hob, hform⟩ := slv_form hown'
    refine ⟨a', c', w', hr, ?_, fun h => absurd h hm0⟩
    have hob' : (slv a' (n + m) c').ownBlock = a' := hob
    have hoa : (slv a n c).ownBlock = a := by cases a <;> rfl
    have hne : a' ≠ none := by
      intro h; subst h; have := hform.1; omega
    obtain ⟨g', rfl⟩ : ∃ g', a' = some g' := by cases a' with | none => exact absurd rfl hne | some g' => exact ⟨g', rfl⟩
    obtain ⟨hb1, hb2, cur, hcur, hc1, hc2, hc3, hc4⟩ := hform
    have hok : (Ent.row (some g') c' e size (n + m) (xs ++ news)).ok w'.heap[g']? := ⟨hown'.1, cur, hcur, hc1, hc2, hc3, hc4⟩
    rw [hob', hoa] at hwhere
    rw [hoa] at hg
    -- the other entries are as they were
    obtain ⟨L1, L2, hL, hset⟩ := split_at hi
    rw [hset]
    have hrest : Own B (L1 ++ L2) w' := by
      have hnd : ∀ x ∈ L1 ++ L2, ∀ b, x.blk = some b → a ≠ some b := by
        intro x hx b hbx hab
        have hnd := H.apart
        rw [hL] at hnd
        have hfm : (L1 ++ Ent.row a c e size n xs :: L2).filterMap (·.blk) = L1.filterMap (·.blk) ++ b :: L2.filterMap (·.blk) := by
          simp only [List.filterMap_append]
          rw [List.filterMap_cons_some (b := b) (by exact hab)]
        rw [hfm, List.nodup_append] at hnd
        obtain ⟨_, hn2, hdis⟩ := hnd
        rcases List.mem_append.1 hx with hx | hx
        · exact hdis b (List.mem_filterMap.2 ⟨x, hx, hbx⟩) b (List.mem_cons_self ..) rfl
        · exact (List.nodup_cons.1 hn2).1 (List.mem_filterMap.2 ⟨x, hx, hbx⟩)
      have hsub : (L1 ++ L2).Sublist L := by rw [hL]; exact List.Sublist.append_left (List.sublist_cons_self _ _) _
      have H0 := H.sub hsub
      refine ⟨hg.os.trans H.os, hg.tape.trans H.tape, hg.output.trans H.output, Nat.le_trans H.size hg.size, fun k hk => ?_, fun x hx => ?_, H0.apart⟩
      · rw [hg.block k (Nat.lt_of_lt_of_le hk H.size) (fun he => ?_)]
        · exact H.old k hk
        · have := (H.at_ hm (b := k) (by exact he.symm)).2.1
          omega
      · have hx0 := H0.ok x hx
        cases hbx : x.blk with
        | none => rw [hbx] at hx0; exact hx0
        | some b =>
          rw [hbx] at hx0
          refine ⟨Nat.lt_of_lt_of_le hx0.1 hg.size, hx0.2.1, ?_⟩
          rw [hg.block b hx0.1 (fun he => hnd x hx b hbx he.symm)]
          exact hx0.2.2
    have hadd : Own B (.row (some g') c' e size (n + m) (xs ++ news) :: (L1 ++ L2)) w' := by
      refine hrest.add (e := .row (some g') c' e size (n + m) (xs ++ news)) ⟨hb2, hb1, fun hmem => ?_, hok⟩
      obtain ⟨x, hx, hbx⟩ := List.mem_filterMap.1 hmem
      rcases hwhere with h | h
      · have hnd := H.apart
        rw [hL] at hnd
        have hfm : (L1 ++ Ent.row a c e size n xs :: L2).filterMap (·.blk) = L1.filterMap (·.blk) ++ g' :: L2.filterMap (·.blk) := by
          simp only [List.filterMap_append]
          rw [List.filterMap_cons_some (b := g') (by exact h.symm)]
        rw [hfm, List.nodup_append] at hnd
        obtain ⟨_, hn2, hdis⟩ := hnd
        rcases List.mem_append.1 hx with hx | hx
        · exact hdis g' (List.mem_filterMap.2 ⟨x, hx, hbx⟩) g' (List.mem_cons_self ..) rfl
        · exact (List.nodup_cons.1 hn2).1 (List.mem_filterMap.2 ⟨x, hx, hbx⟩)
      · injection h with h
        have hxL : x ∈ L := by rw [hL]; rcases List.mem_append.1 hx with hx | hx <;> simp [hx]
        have := (H.at_ hxL hbx).1
        omega
    exact hadd.perm (List.perm_middle.symm)
end

/-! ### The steps -/
class SwapRow (a : Option Nat) (L : List Ent) (c : outParam Nat) (e : outParam TypeId) (size n : outParam Nat) (xs : outParam (List Value)) (i : outParam Nat) : Prop where
  out : L[i]? = some (Ent.row a c e size n xs)
instance SwapRow.here {a : Option Nat} {c : Nat} {e : TypeId} {size n : Nat} {xs : List Value} {L : List Ent} : SwapRow a (Ent.row a c e size n xs :: L) c e size n xs 0 := ⟨rfl⟩
instance (priority := low) SwapRow.there {a : Option Nat} {c : Nat} {e : TypeId} {size n i : Nat} {xs : List Value} {x : Ent} {L : List Ent} [h : SwapRow a L c e size n xs i] : SwapRow a (x :: L) c e size n xs (i + 1) := ⟨by simpa using h.out⟩

section
variable {P : Program} {ops : Array Oper} {tab : List Nat} {soft : Nat} {d : Bool} {Q : Exit → Act → World → Prop} {n : Nat} {ds : List Deferred}
variable {rest : OT} {pend : List Pend} {ρ : Env} {w : World} {i : Nat} {t : Tmp} {ty : TypeId} {pos : String} {aft : Array Edge} {g : Option (Nat × Bool)}

/-- '[]T{v}', one element. -/
theorem re_slice1 {B : World} {L : List Ent} (H : Own B L w) {st e : TypeId} {size bytes : Nat} {x : Operand} {v : Value} {vs zs : List Value}
    (ho : ops[i]? = some ⟨some t, .buildSlice st 1 #[(0, x)], ty, pos, aft, g⟩) (hw : wantE ops ρ ⟨some t, .buildSlice st 1 #[(0, x)], ty, pos, aft, g⟩ = some true) (hs : isSoft soft i = false) (hd : Nat.blt t n = true) (hx : ev ρ x = some v) (hvs : v.cells = vs.toArray)
    (hu : P.underlying st = some (.slice e)) (he : elemInfo P st = some (e, size, bytes)) (hz : zeroC P e = some zs) (hzl : zs.length = size) (hl : vs.length = size) (hsz : Nat.ble size 16777216 = true) (hpos : 0 < size)
    (k : ∀ b w', Own B (.cells b e vs :: L) w' → (d = true → Still P tab i w' pend) ∧ RE P ops tab soft d Q n ds rest pend ((t, .slice (some ⟨b, 0, none⟩) 1 1) :: ρ) w') : RE P ops tab soft d Q n ds (.op i rest) pend ρ w := by
  obtain ⟨inf, hinf, hsize⟩ : ∃ inf, P.info? e = some inf ∧ inf.size = size := by
    simp only [elemInfo, hu, Option.map_eq_some_iff, Prod.mk.injEq] at he
    obtain ⟨i, h1, _, h2, _⟩ := he
    exact ⟨i, h1, h2⟩
  obtain ⟨z, hz1, hz2⟩ : ∃ z, inf.zero = some z ∧ z.cells = zs.toArray := by
    simp only [zeroC, hinf, Option.bind_some, Option.map_eq_some_iff] at hz
    obtain ⟨z, h1, h2⟩ := hz
    exact ⟨z, h1, by rw [← h2]⟩
  refine re_effv (s := Instr.buildSlice st 1 #[(0, v)]) (w' := { w with heap := w.heap.push (.cells vs.toArray e) }) ho hw hs hd (fun a ha => by simp only [execOp, List.map_toArray, List.map_cons, List.map_nil, ha.eval hx]; rfl) ?_ (k w.heap.size _ (H.alloc e vs))
  have hle := Nat.le_of_ble_eq_true hsz
  have hzero : ((Array.range size).map (zs.toArray[· % zs.toArray.size]!)) = zs.toArray := by
    apply Array.ext
    · simp [hzl]
    · intro j h1 h2
      have hj : j < zs.length := by simpa using h2
      have hmod : j % zs.length = j := Nat.mod_eq_of_lt hj
      simp [hmod, hj]
  have hfold := fold_setMany vs zs 0 0
  have hset : setMany zs 0 vs = vs := setMany_all vs zs (by omega)
  simp only [Nat.zero_add] at hfold
  rw [hset] at hfold
  have hfill : Instr.fill (fun i => some (i * size, size)) zs.toArray [(0, v)] = some vs.toArray := by
    simp only [Instr.fill, hvs, Nat.zero_mul, Nat.zero_add]
    rw [if_neg (by simp [hl, hzl])]
    congr 1
    rw [← Array.foldl_toList]
    simpa [Array.toList_zipIdx] using hfold
  have hne : ¬ (1 * size = 0) := by omega
  simp only [Instr.buildSlice, Sem.run_bind, run_underlying hu, Result.andThen_ok, sizeOf, typeInfo, run_program, hinf, Sem.run_pure, hsize, Nat.one_mul]
  rw [if_neg (by omega), if_neg (by omega)]
  simp only [Sem.run_bind, Sem.run_pure, Result.andThen_ok, zeroValue, typeInfo, run_program, hinf, hz1, hz2, hzero, hfill, newRow, newObj, Sem.run]
where
  setMany_all : ∀ (vs zs : List Value), zs.length = vs.length → setMany zs 0 vs = vs := by
    intro vs zs h
    have gen : ∀ (vs pre post : List Value), post.length = vs.length → setMany (pre ++ post) pre.length vs = pre ++ vs := by
      intro vs
      induction vs with
      | nil => intro pre post h; have : post = [] := List.eq_nil_of_length_eq_zero (by simpa using h); subst this; simp [setMany]
      | cons v vs ih =>
        intro pre post h
        cases post with
        | nil => simp at h
        | cons p post =>
          simp only [setMany]
          have h1 : (pre ++ p :: post).set pre.length v = (pre ++ [v]) ++ post := by simp
          rw [h1]
          have h2 := ih (pre ++ [v]) post (by simpa using h)
          simp only [List.length_append, List.length_cons, List.length_nil, Nat.zero_add] at h2
          rw [h2]; simp
    have := gen vs [] zs (by omega)
    simpa using this

/-- 'append(x, ys...)', x a row of our own. -/
theorem re_append {B : World} {L : List Ent} (H : Own B L w) {x y : Operand} {st e : TypeId} {a : Option Nat} {c : Nat} {size bytes li k1 m cs : Nat} {src : Option Addr} {xs news zs : List Value}
    (ho : ops[i]? = some ⟨some t, .call { callee := .builtin .append, args := #[x, y], argTypes := #[st, st] }, ty, pos, aft, g⟩) (hw : wantE ops ρ ⟨some t, .call { callee := .builtin .append, args := #[x, y], argTypes := #[st, st] }, ty, pos, aft, g⟩ = some true) (hs : isSoft soft i = false) (hd : Nat.blt t n = true)
    (hx : ev ρ x = some (slv a k1 c)) (hy : ev ρ y = some (.slice src m cs)) (hu : P.underlying st = some (.slice e)) (he : elemInfo P st = some (e, size, bytes)) (hz : zeroC P e = some zs) (hzl : zs.length = size) (hsz : 0 < size)
    [hi : SwapRow a L c e size k1 xs li] (hsrc : news.length = m * size ∧ (0 < m → ∃ ad, src = some ad ∧ ∀ j u, news[j]? = some u → w.cell? (ad.add j) = some u)) (h1 : news.all oneB = true) (hb : (k1 + m) * bytes ≤ 140737488355328) (h63 : k1 + m ≤ maxLen)
    (k : ∀ a' c' w', Own B (L.set li (.row a' c' e size (k1 + m) (xs ++ news))) w' → (m = 0 → a' = a ∧ c' = c) → (d = true → Still P tab i w' pend) ∧ RE P ops tab soft d Q n ds rest pend ((t, slv a' (k1 + m) c') :: ρ) w') : RE P ops tab soft d Q n ds (.op i rest) pend ρ w := by
  obtain ⟨a', c', w', hr, H', h0⟩ := H.append (P := P) (t := st) (ty := ty) hi.out hu he hz hzl hsz hsrc h1 hb h63 (cs := cs)
  exact re_effv (s := Builtin.append_ #[st, st] ty #[slv a k1 c, .slice src m cs]) ho hw hs hd (fun a' ha => by
    simp only [execOp, resolve, invoke, builtin, List.map_toArray, List.map_cons, List.map_nil, ha.eval hx, ha.eval hy]; rfl) hr (k a' c' w' H' h0)

theorem src_cells {B : World} {L : List Ent} {w : World} (H : Own B L w) {b : Nat} {e : TypeId} {vs : List Value} [hm : InCells b L e vs] {size : Nat} (hl : vs.length = size) :
    vs.length = 1 * size ∧ (0 < 1 → ∃ ad : Addr, some (⟨b, 0, none⟩ : Addr) = some ad ∧ ∀ j u, vs[j]? = some u → w.cell? (ad.add j) = some u) :=
  ⟨by omega, fun _ => ⟨_, rfl, fun j u hu => by rw [add_lit, H.cell hm.mem, Nat.zero_add]; exact hu⟩⟩
theorem src_sees {B : World} {L F : List Ent} {w : World} (H : Own B L w) [hs : Sub F L] {a : Option Addr} {m size : Nat} {xs : List Value} (h : Sees B F a m size xs) :
    xs.length = m * size ∧ (0 < m → ∃ ad, a = some ad ∧ ∀ j u, xs[j]? = some u → w.cell? (ad.add j) = some u) := ⟨h.1, fun hm => h.2 w H.to hm⟩
end
end Go.Fw

/- Comparing values; maps with int keys. No program in sight. -/
namespace Go.Fw
open Go Go.RowKit

/-! ### == on structs of plain parts -/
inductive LK where
  | b | i | s
def eqK : LK → Value → Value → Option Bool
  | .b, .bool x, .bool y => some (decide (x = y))
  | .i, .int k x, .int k' y => if k = k' then some (decide (x = y)) else none
  | .s, .string x, .string y => some (decide (x = y))
  | _, _, _ => none
/-- All parts alike. -/
def eqKs : List LK → List Value → List Value → Option Bool
  | [], [], [] => some true
  | k :: ks, x :: xs, y :: ys => match eqK k x y with
    | some b => match eqKs ks xs ys with
      | some c => some (b && c)
      | none => none
    | none => none
  | _, _, _ => none

theorem eqKs_app : ∀ (k1 k2 : List LK) (xs ys : List Value) (b : Bool), eqKs (k1 ++ k2) xs ys = some b →
    ∃ b1 b2, eqKs k1 (xs.take k1.length) (ys.take k1.length) = some b1 ∧ eqKs k2 (xs.drop k1.length) (ys.drop k1.length) = some b2 ∧ b = (b1 && b2)
  | [], k2, xs, ys, b, h => ⟨true, b, by simp [eqKs], by simpa using h, by simp⟩
  | k :: k1, k2, xs, ys, b, h => by
    cases xs with
    | nil => simp [eqKs] at h
    | cons x xs =>
      cases ys with
      | nil => simp [eqKs] at h
      | cons y ys =>
        simp only [List.cons_append, eqKs] at h
        cases hk : eqK k x y with
        | none => rw [hk] at h; simp at h
        | some c =>
          rw [hk] at h
          cases hr : eqKs (k1 ++ k2) xs ys with
          | none => rw [hr] at h; simp at h
          | some d =>
            rw [hr] at h
            simp at h
            obtain ⟨b1, b2, h1, h2, h3⟩ := eqKs_app k1 k2 xs ys d hr
            refine ⟨c && b1, b2, ?_, by simpa using h2, by rw [← h, h3, Bool.and_assoc]⟩
            simp [eqKs, hk, h1]

/-- The plain parts of a type, in their order; none: it has others. -/
def flatF (fl : TypeId → Option (List LK)) (P : Program) : Nat → List Field → Option (List LK)
  | _, [] => some []
  | off, f :: fs => if f.name ≠ "_" ∧ f.offset = off then
      match fl f.type, shapeOf P f.type with
      | some ks, some (agg, k) => if k = ks.length ∧ (agg = true ∨ k = 1) then (flatF fl P (off + ks.length) fs).map fun r => ks ++ r else none
      | _, _ => none
    else none
def flatK (P : Program) : Nat → TypeId → Option (List LK)
  | 0, _ => none
  | f + 1, t => match P.underlying t with
    | some .bool => some [.b]
    | some (.int _) => some [.i]
    | some .string => some [.s]
    | some (.struct fs) => if P.stoodInHeld t then none else flatF (flatK P f) P 0 fs.toList
    | _ => none

theorem beq_i (a b : Int) : (a == b) = decide (a = b) := by by_cases h : a = b <;> simp [h]
theorem beq_b (a b : Bool) : (a == b) = decide (a = b) := by cases a <;> cases b <;> rfl
theorem beq_s (a b : ByteArray) : (a == b) = decide (a = b) := by
  by_cases h : a = b
  · subst h; rw [beq_toListBytes]; simp
  · rw [beq_toListBytes]
    have : a.toList ≠ b.toList := by
      intro he
      rw [ByteArray.toList_eq, ByteArray.toList_eq] at he
      apply h
      obtain ⟨⟨x⟩⟩ := a
      obtain ⟨⟨y⟩⟩ := b
      simp at he
      rw [he]
    simp [h, this]
theorem beq_sl (a b : ByteArray) : (a.toList == b.toList) = decide (a = b) := by rw [← beq_toListBytes]; exact beq_s a b

/-- A part's value, out of the cells. -/
def valAt (agg : Bool) (k off : Nat) (cs : List Value) : Value :=
  match agg with
  | true => .agg ((cs.drop off).take k).toArray
  | false => cs.getD off undef
def wholeV (agg : Bool) (cs : List Value) : Value :=
  match agg with
  | true => .agg cs.toArray
  | false => cs.getD 0 undef

section
variable {P : Program} {w : World}

theorem run_part {t : TypeId} {agg : Bool} {k : Nat} (hs : shapeOf P t = some (agg, k)) {cs : List Value} {off : Nat} (hl : off + k ≤ cs.length) (hk : agg = true ∨ k = 1) :
    (part t cs.toArray off).run P w = .ok (valAt agg k off cs) w := by
  obtain ⟨h1, h2⟩ := run_shape (w := w) hs
  cases agg with
  | true =>
    simp only [part, Sem.run_bind, h1, Result.andThen_ok, if_true, h2, Sem.run_pure]
    simp [valAt, List.extract_eq_take_drop]
  | false =>
    have hk1 : k = 1 := by rcases hk with h | h; cases h; exact h
    have hlt : off < cs.length := by omega
    simp [part, h1, hlt, valAt]

theorem run_eqFields (d : Nat) (fl : TypeId → Option (List LK))
    (ih : ∀ t ks agg k, fl t = some ks → shapeOf P t = some (agg, k) → k = ks.length → (agg = true ∨ k = 1) → ∀ (xs ys : List Value) (b : Bool), eqKs ks xs ys = some b →
      (Op.equalIn d t (wholeV agg xs) (wholeV agg ys)).run P w = .ok b w) :
    ∀ (fs : List Field) (off : Nat) (ks : List LK) (xs ys : List Value) (b : Bool), flatF fl P off fs = some ks → eqKs ks (xs.drop off) (ys.drop off) = some b →
      (Op.eqFields d xs.toArray ys.toArray fs).run P w = .ok b w
  | [], off, ks, xs, ys, b, hf, he => by
    simp [flatF] at hf
    subst hf
    have : b = true := by
      cases h1 : xs.drop off <;> cases h2 : ys.drop off <;> simp [h1, h2, eqKs] at he
      exact he
    simp [Op.eqFields, this]
  | f :: fs, off, ks, xs, ys, b, hf, he => by
    simp only [flatF] at hf
    split at hf
    · rename_i hc
      obtain ⟨hn, ho⟩ := hc
      cases hfl : fl f.type with
      | none => rw [hfl] at hf; simp at hf
      | some k1 =>
        cases hsh : shapeOf P f.type with
        | none => rw [hfl, hsh] at hf; simp at hf
        | some p =>
          obtain ⟨agg, k⟩ := p
          rw [hfl, hsh] at hf
          simp only at hf
          split at hf
          · rename_i hk
            obtain ⟨hkl, hak⟩ := hk
            simp only [Option.map_eq_some_iff] at hf
            obtain ⟨k2, hf2, rfl⟩ := hf
            obtain ⟨b1, b2, h1, h2, h3⟩ := eqKs_app k1 k2 _ _ b he
            have hlen : ∀ (ks : List LK) (xs ys : List Value) (b : Bool), eqKs ks xs ys = some b → xs.length = ks.length ∧ ys.length = ks.length := by
              intro ks
              induction ks with
              | nil => intro xs ys b h; cases xs <;> cases ys <;> simp [eqKs] at h ⊢
              | cons k ks ih =>
                intro xs ys b h
                cases xs with
                | nil => simp [eqKs] at h
                | cons x xs =>
                  cases ys with
                  | nil => simp [eqKs] at h
                  | cons y ys =>
                    simp only [eqKs] at h
                    cases hk : eqK k x y with
                    | none => rw [hk] at h; simp at h
                    | some c =>
                      rw [hk] at h
                      cases hr : eqKs ks xs ys with
                      | none => rw [hr] at h; simp at h
                      | some d => have := ih xs ys d hr; simp [this.1, this.2]
            obtain ⟨l1, l2⟩ := hlen _ _ _ _ h1
            obtain ⟨l3, l4⟩ := hlen _ _ _ _ he
            simp only [List.length_drop, List.length_append] at l3 l4
            by_cases hk0 : k = 0
            · -- an empty part
              have : k1 = [] := List.eq_nil_of_length_eq_zero (by omega)
              subst this
              rcases hak with ha | ha
              · subst ha
                have hpx : off + k ≤ xs.length ∨ xs.length < off := by omega
                have e1 := ih f.type [] true k hfl hsh hkl (.inl rfl) [] [] true rfl
                have px : (part f.type xs.toArray f.offset).run P w = .ok (.agg #[]) w := by
                  obtain ⟨q1, q2⟩ := run_shape (w := w) hsh
                  simp [part, q1, q2, hk0, List.extract_eq_take_drop]
                have py : (part f.type ys.toArray f.offset).run P w = .ok (.agg #[]) w := by
                  obtain ⟨q1, q2⟩ := run_shape (w := w) hsh
                  simp [part, q1, q2, hk0, List.extract_eq_take_drop]
                have hb1 : b1 = true := by simp [eqKs] at h1; exact h1
                rw [Op.eqFields, if_pos hn]
                simp only [Sem.run_bind, px, py, Result.andThen_ok]
                have e1' : (Op.equalIn d f.type (.agg #[]) (.agg #[])).run P w = .ok true w := by simpa [wholeV] using e1
                rw [e1']
                simp only [Result.andThen_ok, Bool.not_true, Bool.false_eq_true, if_false]
                rw [h3, hb1, Bool.true_and]
                refine run_eqFields d fl ih fs (off + 0) k2 xs ys b2 hf2 ?_
                simpa using h2
              · omega
            · have hx : off + k ≤ xs.length := by omega
              have hy : off + k ≤ ys.length := by omega
              have px := run_part (w := w) hsh (cs := xs) (off := f.offset) (by omega) hak
              have py := run_part (w := w) hsh (cs := ys) (off := f.offset) (by omega) hak
              have e1 := ih f.type k1 agg k hfl hsh hkl hak _ _ b1 h1
              have hgx : ((xs.drop off).take k1.length).getD 0 undef = xs.getD off undef := by
                have : 0 < k1.length := by omega
                simp [List.getD, this]
              have hgy : ((ys.drop off).take k1.length).getD 0 undef = ys.getD off undef := by
                have : 0 < k1.length := by omega
                simp [List.getD, this]
              rw [Op.eqFields, if_pos hn]
              rw [ho] at px py
              simp only [Sem.run_bind, ho, px, py, Result.andThen_ok]
              have v1 : wholeV agg ((xs.drop off).take k1.length) = valAt agg k off xs := by cases agg <;> simp [wholeV, valAt, hkl] <;> simpa using hgx
              have v2 : wholeV agg ((ys.drop off).take k1.length) = valAt agg k off ys := by cases agg <;> simp [wholeV, valAt, hkl] <;> simpa using hgy
              rw [v1, v2] at e1
              rw [e1]
              simp only [Result.andThen_ok]
              cases b1 with
              | false => simp [h3]
              | true =>
                simp only [Bool.not_true, Bool.false_eq_true, if_false]
                rw [h3, Bool.true_and]
                refine run_eqFields d fl ih fs (off + k1.length) k2 xs ys b2 hf2 ?_
                rw [List.drop_drop, List.drop_drop] at h2
                exact h2
          · cases hf
    · cases hf

theorem eqKs_one {k : LK} {xs ys : List Value} {b : Bool} (h : eqKs [k] xs ys = some b) : ∃ x y, xs = [x] ∧ ys = [y] ∧ eqK k x y = some b := by
  match xs, ys, h with
  | [], [], h => simp [eqKs] at h
  | [], _ :: _, h => simp [eqKs] at h
  | _ :: _, [], h => simp [eqKs] at h
  | x :: xs, y :: ys, h =>
    simp only [eqKs] at h
    cases hk : eqK k x y with
    | none => rw [hk] at h; simp at h
    | some c =>
      rw [hk] at h
      cases xs <;> cases ys <;> simp [eqKs] at h
      exact ⟨x, y, rfl, rfl, by rw [← h]; exact hk⟩

theorem run_equalIn_flat : ∀ (f d : Nat), f ≤ d → ∀ (t : TypeId) (ks : List LK) (agg : Bool) (k : Nat), flatK P f t = some ks → shapeOf P t = some (agg, k) → k = ks.length → (agg = true ∨ k = 1) →
    ∀ (xs ys : List Value) (b : Bool), eqKs ks xs ys = some b →
      (Op.equalIn d t (wholeV agg xs) (wholeV agg ys)).run P w = .ok b w
  | 0, _, _, _, _, _, _, h, _, _, _, _, _, _, _ => by simp [flatK] at h
  | f + 1, 0, hd, _, _, _, _, _, _, _, _, _, _, _, _ => by omega
  | f + 1, d + 1, hd, t, ks, agg, k, h, hsh, hkl, hak, xs, ys, b, he => by
    simp only [flatK] at h
    have hagg : ∀ dd, P.underlying t = some dd → agg = isAggD dd := by
      intro dd hdd
      unfold shapeOf at hsh
      rw [hdd] at hsh
      cases hi : P.info? t with
      | none => rw [hi] at hsh; simp at hsh
      | some i => rw [hi] at hsh; simp at hsh; exact hsh.1.symm
    cases hu : P.underlying t with
    | none => rw [hu] at h; simp at h
    | some dd =>
      rw [hu] at h
      have ha := hagg dd hu
      cases dd <;> simp only at h <;> try (cases h; done)
      case bool =>
        injection h with h; subst h
        obtain ⟨x, y, rfl, rfl, hk⟩ := eqKs_one he
        cases x <;> cases y <;> simp [eqK] at hk
        subst ha
        simp [isAggD, wholeV, Op.equalIn, run_underlying hu, ← hk, beq_b]
      case int ik =>
        injection h with h; subst h
        obtain ⟨x, y, rfl, rfl, hk⟩ := eqKs_one he
        cases x <;> cases y <;> simp [eqK] at hk
        subst ha
        obtain ⟨rfl, hk⟩ := hk
        simp [isAggD, wholeV, Op.equalIn, run_underlying hu, ← hk, beq_i]
      case string =>
        injection h with h; subst h
        obtain ⟨x, y, rfl, rfl, hk⟩ := eqKs_one he
        cases x <;> cases y <;> simp [eqK] at hk
        subst ha
        simp [isAggD, wholeV, Op.equalIn, run_underlying hu, ← hk, beq_s]
      case struct fs =>
        split at h
        · cases h
        · rename_i hst
          subst ha
          simp only [isAggD, wholeV]
          have hfo : P.fieldsOf t = fs := by simp [Program.fieldsOf, hu]
          rw [run_equalIn_struct w d t xs.toArray ys.toArray (by rw [hfo]; exact hu) (by simpa using hst), hfo]
          exact run_eqFields d (flatK P f) (fun t ks agg k h1 h2 h3 h4 xs ys b h5 => run_equalIn_flat f d (by omega) t ks agg k h1 h2 h3 h4 xs ys b h5) fs.toList 0 ks xs ys b h (by simpa using he)

/-- '==' of two structs of plain parts. -/
theorem run_equal_agg {t : TypeId} {ks : List LK} (hf : flatK P 9 t = some ks) (hs : shapeOf P t = some (true, ks.length)) {xs ys : List Value} {b : Bool} (he : eqKs ks xs ys = some b) :
    (Op.equal t (.agg xs.toArray) (.agg ys.toArray)).run P w = .ok b w := by
  have := run_equalIn_flat (P := P) (w := w) 9 Op.maxDepth (by simp [Op.maxDepth]) t ks true ks.length hf hs rfl (.inl rfl) xs ys b he
  exact this

def notGuarded (P : Program) (t : TypeId) : Bool := !P.eqGuardType P.depth t
end

section
variable {P : Program} {ops : Array Oper} {tab : List Nat} {soft : Nat} {d : Bool} {Q : Exit → Act → World → Prop} {n : Nat} {ds : List Deferred}
variable {rest : OT} {pend : List Pend} {ρ : Env} {w : World} {i : Nat} {t : Tmp} {ty : TypeId} {pos : String} {aft : Array Edge} {g : Option (Nat × Bool)}

/-- '==' on structs of plain parts. -/
theorem re_eqAgg {xt yt : TypeId} {x y : Operand} {ks : List LK} {xs ys : List Value} {b : Bool}
    (ho : ops[i]? = some ⟨some t, .binOp .eql xt x y yt, ty, pos, aft, g⟩) (hw : wantE ops ρ ⟨some t, .binOp .eql xt x y yt, ty, pos, aft, g⟩ = some true) (hs : isSoft soft i = true) (hd : Nat.blt t n = true)
    (hx : ev ρ x = some (.agg xs.toArray)) (hy : ev ρ y = some (.agg ys.toArray)) (hk : flatK P 9 xt = some ks) (hsh : shapeOf P xt = some (true, ks.length)) (hg : notGuarded P xt = true) (hb : eqKs ks xs ys = some b) (k : RE P ops tab soft d Q n ds rest pend ((t, .bool b) :: ρ) w) : RE P ops tab soft d Q n ds (.op i rest) pend ρ w :=
  re_soft (s := do eqGuard .eql xt x y (.agg xs.toArray) (.agg ys.toArray); binOp .eql xt (.agg xs.toArray) (.agg ys.toArray)) ho hw hs hd (fun a' ha => by simp only [execOp, ha.eval hx, ha.eval hy]; rfl) (fun w => by
    have h1 : (eqGuard .eql xt x y (.agg xs.toArray) (.agg ys.toArray)).run P w = .ok () w := run_eqGuard_agg w _ _ _ _ _ _ (by simpa [notGuarded] using hg)
    simp [h1, binOp, run_equal_agg hk hsh hb]) k
theorem re_neAgg {xt yt : TypeId} {x y : Operand} {ks : List LK} {xs ys : List Value} {b : Bool}
    (ho : ops[i]? = some ⟨some t, .binOp .neq xt x y yt, ty, pos, aft, g⟩) (hw : wantE ops ρ ⟨some t, .binOp .neq xt x y yt, ty, pos, aft, g⟩ = some true) (hs : isSoft soft i = true) (hd : Nat.blt t n = true)
    (hx : ev ρ x = some (.agg xs.toArray)) (hy : ev ρ y = some (.agg ys.toArray)) (hk : flatK P 9 xt = some ks) (hsh : shapeOf P xt = some (true, ks.length)) (hg : notGuarded P xt = true) (hb : eqKs ks xs ys = some b) (k : RE P ops tab soft d Q n ds rest pend ((t, .bool (!b)) :: ρ) w) : RE P ops tab soft d Q n ds (.op i rest) pend ρ w :=
  re_soft (s := do eqGuard .neq xt x y (.agg xs.toArray) (.agg ys.toArray); binOp .neq xt (.agg xs.toArray) (.agg ys.toArray)) ho hw hs hd (fun a' ha => by simp only [execOp, ha.eval hx, ha.eval hy]; rfl) (fun w => by
    have h1 : (eqGuard .neq xt x y (.agg xs.toArray) (.agg ys.toArray)).run P w = .ok () w := run_eqGuard_agg w _ _ _ _ _ _ (by simpa [notGuarded] using hg)
    simp [h1, binOp, run_equal_agg hk hsh hb]) k

/-- A comparison (or any binary operation) of which the run is known. -/
theorem re_binW {op : BinOp} {xt yt : TypeId} {x y : Operand} {vx vy v : Value}
    (ho : ops[i]? = some ⟨some t, .binOp op xt x y yt, ty, pos, aft, g⟩) (hw : wantE ops ρ ⟨some t, .binOp op xt x y yt, ty, pos, aft, g⟩ = some true) (hs : isSoft soft i = true) (hd : Nat.blt t n = true)
    (hx : ev ρ x = some vx) (hy : ev ρ y = some vy) (hv : ∀ w, (do eqGuard op xt x y vx vy; binOp op xt vx vy : Sem Value).run P w = .ok v w) (k : RE P ops tab soft d Q n ds rest pend ((t, v) :: ρ) w) : RE P ops tab soft d Q n ds (.op i rest) pend ρ w :=
  re_soft (s := do eqGuard op xt x y vx vy; binOp op xt vx vy) ho hw hs hd (fun a' ha => by simp only [execOp, ha.eval hx, ha.eval hy]; rfl) hv k

theorem run_equal_of {xt : TypeId} {a b : Value} {r : Bool} {w : World} (h : ∀ d, (Op.equalIn (d + 1) xt a b).run P w = .ok r w) : (Op.equal xt a b).run P w = .ok r w := h 9999
theorem run_eqop {op : BinOp} {xt : TypeId} {x y : Operand} {a b v : Value} {r : Bool} {w : World} (hg : ∀ op, (eqGuard op xt x y a b).run P w = .ok () w) (he : ∀ op, op = .eql ∨ op = .neq → binOp op xt a b = (if op = .eql then do pure (.bool (← Op.equal xt a b)) else do pure (.bool (!(← Op.equal xt a b))))) (hr : (Op.equal xt a b).run P w = .ok r w)
    (hop : (op = .eql ∧ v = .bool r) ∨ (op = .neq ∧ v = .bool (!r))) : (do eqGuard op xt x y a b; binOp op xt a b : Sem Value).run P w = .ok v w := by
  rcases hop with ⟨rfl, rfl⟩ | ⟨rfl, rfl⟩
  · rw [he _ (.inl rfl)]; simp [hg, hr]
  · rw [he _ (.inr rfl)]; simp [hg, hr]
theorem guard_quiet {xt : TypeId} {x y : Operand} {a b : Value} {w : World} (h1 : ∀ op, eqGuard op xt x y a b = (if !(op matches .eql | .neq) then pure () else pure ())) : ∀ op, (eqGuard op xt x y a b).run P w = .ok () w := fun op => by rw [h1]; split <;> rfl

/-- A pointer against nil. -/
theorem run_ptrNil {op : BinOp} {xt e : TypeId} {x y : Operand} {p : Option Addr} {v : Value} (hu : P.underlying xt = some (.pointer e)) (hop : (op = .eql ∧ v = .bool p.isNone) ∨ (op = .neq ∧ v = .bool (!p.isNone))) (w : World) :
    (do eqGuard op xt x y (.pointer p) (.pointer none); binOp op xt (.pointer p) (.pointer none) : Sem Value).run P w = .ok v w := by
  refine run_eqop (fun op => by unfold eqGuard; split <;> rfl) (fun op h => by rcases h with rfl | rfl <;> cases p <;> rfl) (run_equal_of fun d => ?_) hop
  cases p <;> simp [Op.equalIn, run_underlying hu]

/-- Bools. -/
theorem run_bools {op : BinOp} {xt : TypeId} {x y : Operand} {a b : Bool} {v : Value} (hu : P.underlying xt = some .bool) (hop : (op = .eql ∧ v = .bool (decide (a = b))) ∨ (op = .neq ∧ v = .bool (!decide (a = b)))) (w : World) :
    (do eqGuard op xt x y (.bool a) (.bool b); binOp op xt (.bool a) (.bool b) : Sem Value).run P w = .ok v w := by
  refine run_eqop (fun op => by unfold eqGuard; split <;> rfl) (fun op h => by rcases h with rfl | rfl <;> rfl) (run_equal_of fun d => ?_) hop
  simp [Op.equalIn, run_underlying hu, beq_b]

/-- Strings. -/
theorem run_str {op : BinOp} {xt : TypeId} {x y : Operand} {a b : ByteArray} {v : Value} (hop : (op = .eql ∧ v = .bool (decide (a = b))) ∨ (op = .neq ∧ v = .bool (!decide (a = b)))) (w : World) :
    (do eqGuard op xt x y (.string a) (.string b); binOp op xt (.string a) (.string b) : Sem Value).run P w = .ok v w := by
  have h1 : (eqGuard op xt x y (.string a) (.string b)).run P w = .ok () w := by unfold eqGuard; split <;> rfl
  rcases hop with ⟨rfl, rfl⟩ | ⟨rfl, rfl⟩ <;> simp [h1, binOp, Op.stringOp, beq_sl]

/-- Two interface values of unlike types. -/
theorem run_ifaceNe {op : BinOp} {xt tx ty : TypeId} {x y : Operand} {vx vy v : Value} {ms : Array (String × TypeId)} (hu : P.underlying xt = some (.interface ms)) (hne : tx ≠ ty) (hop : (op = .eql ∧ v = .bool false) ∨ (op = .neq ∧ v = .bool (!false))) (w : World) :
    (do eqGuard op xt x y (.iface tx vx) (.iface ty vy); binOp op xt (.iface tx vx) (.iface ty vy) : Sem Value).run P w = .ok v w := by
  refine run_eqop (fun op => by unfold eqGuard; split <;> rfl) (fun op h => by rcases h with rfl | rfl <;> rfl) (run_equal_of fun d => ?_) hop
  simp [Op.equalIn, run_underlying hu, hne]
/-- Two interface values of one struct type without parts. -/
theorem run_ifaceEq0 {op : BinOp} {xt tx : TypeId} {x y : Operand} {v : Value} {ms : Array (String × TypeId)} (hu : P.underlying xt = some (.interface ms)) (hc : (P.info? tx).map (·.comparable) = some true) (hf : flatK P 9 tx = some []) (hsh : shapeOf P tx = some (true, 0)) (hop : (op = .eql ∧ v = .bool true) ∨ (op = .neq ∧ v = .bool (!true))) (w : World) :
    (do eqGuard op xt x y (.iface tx (.agg #[])) (.iface tx (.agg #[])); binOp op xt (.iface tx (.agg #[])) (.iface tx (.agg #[])) : Sem Value).run P w = .ok v w := by
  refine run_eqop (fun op => by unfold eqGuard; split <;> rfl) (fun op h => by rcases h with rfl | rfl <;> rfl) ?_ hop
  simp only [Option.map_eq_some_iff] at hc
  obtain ⟨inf, hi, hcmp⟩ := hc
  have h9 := run_equalIn_flat (P := P) (w := w) 9 9999 (by omega) tx [] true 0 hf hsh rfl (.inl rfl) [] [] true rfl
  simp only [wholeV] at h9
  show (Op.equalIn (9999 + 1) xt _ _).run P w = _
  generalize 9999 = d at h9 ⊢
  simp [Op.equalIn, run_underlying hu, typeInfo, hi, hcmp]
  exact h9
end

end Go.Fw

/- Maps with int keys. No program in sight. -/
namespace Go.Fw
open Go Go.RowKit

/-- Block m is a map from ints: these entries, in the order in which they were laid. -/
def Ent.imap (m : Nat) (kvs : List (Int × Value)) : Ent :=
  ⟨some m, fun o => ∃ (es : Array MapEntry) (c : Nat), o = some (.map es c) ∧ es.toList.map (fun e => (e.key, e.val)) = kvs.map fun x => (Value.int .i64 x.1, x.2)⟩
def kvGet : List (Int × Value) → Int → Option Value
  | [], _ => none
  | (j, v) :: r, k => if k = j then some v else kvGet r k
def kvPut : List (Int × Value) → Int → Value → List (Int × Value)
  | [], k, v => [(k, v)]
  | (j, u) :: r, k, v => if k = j then (k, v) :: r else (j, u) :: kvPut r k v

section
variable {P : Program} {w : World} {B : World} {L : List Ent}

theorem findNow_spec (ik : IntKind) (k : Int) : ∀ (es : List MapEntry) (kvs : List (Int × Value)) (j : Nat), es.map (fun e => (e.key, e.val)) = kvs.map (fun x => (Value.int .i64 x.1, x.2)) →
    (Instr.findNow (.int ik) (.int .i64 k) es j = some none ∧ kvGet kvs k = none ∧ ∀ v, kvPut kvs k v = kvs ++ [(k, v)]) ∨
    (∃ i v, Instr.findNow (.int ik) (.int .i64 k) es j = some (some (j + i, v)) ∧ kvGet kvs k = some v ∧ (∃ e, es[i]? = some e ∧ e.key = .int .i64 k) ∧
      ∀ v', (es.modify i fun e => { e with key := .int .i64 k, val := v' }).map (fun e => (e.key, e.val)) = (kvPut kvs k v').map fun x => (Value.int .i64 x.1, x.2))
  | [], kvs, j, h => by
    cases kvs with
    | nil => exact .inl ⟨rfl, rfl, fun _ => rfl⟩
    | cons x r => simp at h
  | e :: es, kvs, j, h => by
    cases kvs with
    | nil => simp at h
    | cons x r =>
      obtain ⟨xk, xv⟩ := x
      simp only [List.map_cons, List.cons.injEq, Prod.mk.injEq] at h
      obtain ⟨⟨h1, h2⟩, h3⟩ := h
      simp only [Instr.findNow, h1, Instr.sameNow, if_true, kvGet, kvPut]
      by_cases hk : k = xk
      · subst hk
        refine .inr ⟨0, xv, ?_, by simp, ⟨e, by simp, h1⟩, fun v' => ?_⟩
        · simp [h2]
        · simp [h3]
      · have hb : (k == xk) = false := by simpa using hk
        simp only [hb, hk, if_false]
        rcases findNow_spec ik k es r (j + 1) h3 with ⟨q1, q2, q3⟩ | ⟨i, v, q1, q2, ⟨e', q3, q4⟩, q5⟩
        · exact .inl ⟨q1, q2, fun v => by rw [q3]; rfl⟩
        · refine .inr ⟨i + 1, v, by rw [q1]; congr 3; omega, q2, ⟨e', by simpa using q3, q4⟩, fun v' => ?_⟩
          simp [h1, h2, q5 v']

theorem Own.imap (h : Own B L w) {m : Nat} {kvs : List (Int × Value)} (hm : Ent.imap m kvs ∈ L) : ∃ (es : Array MapEntry) (c : Nat), w.heap[m]? = some (.map es c) ∧ es.toList.map (fun e => (e.key, e.val)) = kvs.map fun x => (Value.int .i64 x.1, x.2) :=
  (h.at_ hm rfl).2.2

def zeroV (P : Program) (t : TypeId) : Option Value := (P.info? t).bind (·.zero)

theorem run_zeroValue {t : TypeId} {z : Value} (hz : zeroV P t = some z) : (zeroValue t).run P w = .ok z w := by
  unfold zeroV at hz
  cases hi : P.info? t with
  | none => rw [hi] at hz; simp at hz
  | some i => rw [hi] at hz; simp at hz; simp [zeroValue, typeInfo, hi, hz]

theorem run_lookup_imap (H : Own B L w) {m : Nat} {kvs : List (Int × Value)} (hm : Ent.imap m kvs ∈ L) {mt kt et : TypeId} {ik : IntKind} (hu : P.underlying mt = some (.map kt et)) (hk : P.underlying kt = some (.int ik)) {z : Value} (hz : zeroV P et = some z) (k : Int) (ok : Bool) :
    (Instr.lookup mt (.map (some m)) (.int .i64 k) ok).run P w = .ok (if ok then .tuple #[(kvGet kvs k).getD z, .bool (kvGet kvs k).isSome] else (kvGet kvs k).getD z) w := by
  obtain ⟨es, c, he, hrel⟩ := H.imap hm
  have hz' := run_zeroValue (P := P) (w := w) hz
  have hck : (Instr.checkKey es.isEmpty 10000 kt (.int .i64 k)).run P w = .ok () w := by
    show (Instr.checkKey es.isEmpty (9999 + 1) kt (.int .i64 k)).run P w = _
    generalize 9999 = d
    simp [Instr.checkKey, run_underlying hk]
  have hg : (getObj m).run P w = .ok (.map es c) w := by simp [getObj, Sem.run, he]
  rcases findNow_spec ik k es.toList kvs 0 hrel with ⟨q1, q2, _⟩ | ⟨i, v, q1, q2, _, _⟩
  · have hf : (Instr.findKey kt (.int .i64 k) es.toList).run P w = .ok none w := by simp [Instr.findKey, run_underlying hk, q1]
    simp only [Instr.lookup, Sem.run_bind, run_underlying hu, Result.andThen_ok, hg, hck, hf, hz', Sem.run_pure, q2]
    cases ok <;> rfl
  · have hf : (Instr.findKey kt (.int .i64 k) es.toList).run P w = .ok (some (0 + i, v)) w := by simp [Instr.findKey, run_underlying hk, q1]
    simp only [Instr.lookup, Sem.run_bind, run_underlying hu, Result.andThen_ok, hg, hck, hf, Sem.run_pure, q2]
    cases ok <;> rfl

theorem run_update_imap (H : Own B L w) {li m : Nat} {kvs : List (Int × Value)} (hi : L[li]? = some (.imap m kvs)) {mt kt et : TypeId} {ik : IntKind} (hu : P.underlying mt = some (.map kt et)) (hk : P.underlying kt = some (.int ik)) (k : Int) (v : Value) :
    ∃ w', (Instr.mapUpdate mt (.map (some m)) (.int .i64 k) v).run P w = .ok () w' ∧ Own B (L.set li (.imap m (kvPut kvs k v))) w' := by
  have hm := List.mem_of_getElem? hi
  obtain ⟨es, c, he, hrel⟩ := H.imap hm
  have hlt : m < w.heap.size := (Array.getElem?_eq_some_iff.1 he).1
  have hck : (Instr.checkKey false 10000 kt (.int .i64 k)).run P w = .ok () w := by
    show (Instr.checkKey false (9999 + 1) kt (.int .i64 k)).run P w = _
    generalize 9999 = d
    simp [Instr.checkKey, run_underlying hk]
  have hg : (getObj m).run P w = .ok (.map es c) w := by simp [getObj, Sem.run, he]
  have hset : ∀ o, (setObj m o).run P w = .ok () { w with heap := w.heap.setIfInBounds m o } := fun o => by simp [setObj, Sem.run, he]
  have fin : ∀ (es' : Array MapEntry) (c' : Nat) (kvs' : List (Int × Value)), es'.toList.map (fun e => (e.key, e.val)) = kvs'.map (fun x => (Value.int .i64 x.1, x.2)) → Own B (L.set li (.imap m kvs')) { w with heap := w.heap.setIfInBounds m (.map es' c') } := by
    intro es' c' kvs' hr
    refine H.turn hi rfl rfl ⟨rfl, rfl, rfl, by simp⟩ (fun j hj => by simp [Array.getElem?_setIfInBounds_ne (Ne.symm hj)]) ?_
    exact ⟨es', c', by simp [hlt], hr⟩
  rcases findNow_spec ik k es.toList kvs 0 hrel with ⟨q1, _, q3⟩ | ⟨i, u, q1, _, ⟨e, q4, q5⟩, q6⟩
  · have hf : (Instr.findKey kt (.int .i64 k) es.toList).run P w = .ok none w := by simp [Instr.findKey, run_underlying hk, q1]
    refine ⟨_, ?_, fin (es.push { key := .int .i64 k, val := v, born := c }) (c + 1) (kvPut kvs k v) (by rw [q3]; simp [hrel])⟩
    simp only [Instr.mapUpdate, Sem.run_bind, run_underlying hu, Result.andThen_ok, hg, hck, hf, hset]
  · have hf : (Instr.findKey kt (.int .i64 k) es.toList).run P w = .ok (some (0 + i, u)) w := by simp [Instr.findKey, run_underlying hk, q1]
    have q4' : es[i]? = some e := by simpa using q4
    have hks : (Instr.keyThatStays (.int .i64 k) (.int .i64 k)).run P w = .ok (.int .i64 k) w := by
      unfold Instr.keyThatStays
      rw [if_pos (by simp [Instr.sameBits])]
      rfl
    refine ⟨_, ?_, fin (es.modify i fun e => { e with key := .int .i64 k, val := v }) c (kvPut kvs k v) (by rw [← q6 v]; simp [Array.toList_modify])⟩
    simp only [Instr.mapUpdate, Sem.run_bind, run_underlying hu, Result.andThen_ok, hg, hck, hf, Nat.zero_add, q4', Option.map_some, Option.getD_some, q5, hks, hset]

theorem run_len_imap (H : Own B L w) {m : Nat} {kvs : List (Int × Value)} (hm : Ent.imap m kvs ∈ L) {mt kt et ty : TypeId} (hu : P.underlying mt = some (.map kt et)) :
    (Builtin.len_ #[mt] ty #[.map (some m)]).run P w = .ok (.int .i64 (kvs.length : Int)) w := by
  obtain ⟨es, c, he, hrel⟩ := H.imap hm
  have hg : (getObj m).run P w = .ok (.map es c) w := by simp [getObj, Sem.run, he]
  have hl : es.size = kvs.length := by
    have := congrArg List.length hrel
    simpa using this
  simp [Builtin.len_, run_underlying hu, hg, goInt, hl]
end

class InRow (a : Option Nat) (L : List Ent) (c : outParam Nat) (e : outParam TypeId) (size n : outParam Nat) (xs : outParam (List Value)) : Prop where
  mem : Ent.row a c e size n xs ∈ L
instance InRow.here {a : Option Nat} {c : Nat} {e : TypeId} {size n : Nat} {xs : List Value} {L : List Ent} : InRow a (Ent.row a c e size n xs :: L) c e size n xs := ⟨List.mem_cons_self ..⟩
instance (priority := low) InRow.there {a : Option Nat} {c : Nat} {e : TypeId} {size n : Nat} {xs : List Value} {x : Ent} {L : List Ent} [h : InRow a L c e size n xs] : InRow a (x :: L) c e size n xs := ⟨List.mem_cons_of_mem _ h.mem⟩

section
variable {B w : World} {L : List Ent}
theorem Own.rsome (H : Own B L w) (a : Option Nat) {c : Nat} {e : TypeId} {size n : Nat} {xs : List Value} [h : InRow a L c e size n xs] (hn : 0 < n) : ∃ g, a = some g := H.row_some h.mem hn
theorem Own.rsees (H : Own B L w) (a : Option Nat) {c : Nat} {e : TypeId} {size n : Nat} {xs : List Value} [h : InRow a L c e size n xs] : Sees B L (a.map fun g => ⟨g, 0, none⟩) n size xs := Sees.of_row h.mem H
theorem Own.rint (H : Own B L w) {g c : Nat} {e : TypeId} {n : Nat} {kd : IntKind} {xs : List Int} [h : InRow (some g) L c e 1 n (xs.map (Value.int kd))] {k : Nat} (hk : k < xs.length) : w.cell? ((⟨g, 0, none⟩ : Addr).add (((k : Nat) : Int).toNat * 1)) = some (.int kd xs[k]) := by
  rw [Int.toNat_natCast, Nat.mul_one, add_lit, Nat.zero_add]
  exact H.row_cell h.mem (by simp [hk])
end

class InMap (m : Nat) (L : List Ent) (kvs : outParam (List (Int × Value))) : Prop where
  mem : Ent.imap m kvs ∈ L
instance InMap.here {m : Nat} {kvs : List (Int × Value)} {L : List Ent} : InMap m (Ent.imap m kvs :: L) kvs := ⟨List.mem_cons_self ..⟩
instance (priority := low) InMap.there {m : Nat} {kvs : List (Int × Value)} {x : Ent} {L : List Ent} [h : InMap m L kvs] : InMap m (x :: L) kvs := ⟨List.mem_cons_of_mem _ h.mem⟩
class SwapMap (m : Nat) (L : List Ent) (kvs : outParam (List (Int × Value))) (kvs' : List (Int × Value)) (L' : outParam (List Ent)) : Prop where
  out : ∃ i, L[i]? = some (Ent.imap m kvs) ∧ L.set i (Ent.imap m kvs') = L'
instance SwapMap.here {m : Nat} {kvs kvs' : List (Int × Value)} {L : List Ent} : SwapMap m (Ent.imap m kvs :: L) kvs kvs' (Ent.imap m kvs' :: L) := ⟨0, rfl, rfl⟩
instance (priority := low) SwapMap.there {m : Nat} {kvs kvs' : List (Int × Value)} {x : Ent} {L L' : List Ent} [h : SwapMap m L kvs kvs' L'] : SwapMap m (x :: L) kvs kvs' (x :: L') := by
  obtain ⟨i, h1, h2⟩ := h.out
  exact ⟨i + 1, by simpa using h1, by rw [List.set_cons_succ, h2]⟩

section
variable {P : Program} {ops : Array Oper} {tab : List Nat} {soft : Nat} {d : Bool} {Q : Exit → Act → World → Prop} {n : Nat} {ds : List Deferred}
variable {rest : OT} {pend : List Pend} {ρ : Env} {w : World} {i : Nat} {t : Tmp} {ty : TypeId} {pos : String} {aft : Array Edge} {g : Option (Nat × Bool)}
variable {B : World} {L : List Ent}

theorem re_lookup (H : Own B L w) {mt kt et : TypeId} {x y : Operand} {m : Nat} {kvs : List (Int × Value)} {ik : IntKind} {z : Value} {k : Int}
    (ho : ops[i]? = some ⟨some t, .lookup mt x y true, ty, pos, aft, g⟩) (hw : wantE ops ρ ⟨some t, .lookup mt x y true, ty, pos, aft, g⟩ = some true) (hs : isSoft soft i = true) (hd : Nat.blt t n = true)
    (hx : ev ρ x = some (.map (some m))) (hy : ev ρ y = some (.int .i64 k)) (hu : P.underlying mt = some (.map kt et)) (hk : P.underlying kt = some (.int ik)) (hz : zeroV P et = some z) [hm : InMap m L kvs]
    (kk : RE P ops tab soft d Q n ds rest (⟨i, Instr.lookup mt (.map (some m)) (.int .i64 k) true, .tuple #[(kvGet kvs k).getD z, .bool (kvGet kvs k).isSome]⟩ :: pend) ((t, .tuple #[(kvGet kvs k).getD z, .bool (kvGet kvs k).isSome]) :: ρ) w) : RE P ops tab soft d Q n ds (.op i rest) pend ρ w :=
  re_read (s := Instr.lookup mt (.map (some m)) (.int .i64 k) true) ho hw hs hd (fun a ha => by simp only [execOp, ha.eval hx, ha.eval hy]; rfl) (run_lookup_imap H hm.mem hu hk hz k true) kk
theorem still_lookup (H : Own B L w) {mt kt et : TypeId} {m : Nat} {kvs : List (Int × Value)} {ik : IntKind} {z : Value} {k : Int} (hu : P.underlying mt = some (.map kt et)) (hk : P.underlying kt = some (.int ik)) (hz : zeroV P et = some z) [hm : InMap m L kvs] :
    (Instr.lookup mt (.map (some m)) (.int .i64 k) true).run P w = .ok (.tuple #[(kvGet kvs k).getD z, .bool (kvGet kvs k).isSome]) w := run_lookup_imap H hm.mem hu hk hz k true

theorem re_lenM (H : Own B L w) {mt kt et : TypeId} {x : Operand} {m : Nat} {kvs : List (Int × Value)}
    (ho : ops[i]? = some ⟨some t, .call { callee := .builtin .len, args := #[x], argTypes := #[mt] }, ty, pos, aft, g⟩) (hw : wantE ops ρ ⟨some t, .call { callee := .builtin .len, args := #[x], argTypes := #[mt] }, ty, pos, aft, g⟩ = some true) (hs : isSoft soft i = true) (hd : Nat.blt t n = true)
    (hx : ev ρ x = some (.map (some m))) (hu : P.underlying mt = some (.map kt et)) [hm : InMap m L kvs]
    (k : RE P ops tab soft d Q n ds rest (⟨i, Builtin.len_ #[mt] ty #[.map (some m)], .int .i64 (kvs.length : Int)⟩ :: pend) ((t, .int .i64 (kvs.length : Int)) :: ρ) w) : RE P ops tab soft d Q n ds (.op i rest) pend ρ w :=
  re_read (s := Builtin.len_ #[mt] ty #[.map (some m)]) ho hw hs hd (fun a' ha => by
    simp only [execOp, resolve, invoke, builtin, List.map_toArray, List.map_cons, List.map_nil, ha.eval hx]; rfl) (run_len_imap H hm.mem hu) k
theorem still_lenM (H : Own B L w) {mt kt et : TypeId} {m : Nat} {kvs : List (Int × Value)} (hu : P.underlying mt = some (.map kt et)) [hm : InMap m L kvs] :
    (Builtin.len_ #[mt] ty #[.map (some m)]).run P w = .ok (.int .i64 (kvs.length : Int)) w := run_len_imap H hm.mem hu

theorem re_mapPut (H : Own B L w) {mt kt et : TypeId} {x y v : Operand} {m : Nat} {kvs : List (Int × Value)} {ik : IntKind} {k : Int} {u : Value} {L' : List (Int × Value) → List Ent}
    (ho : ops[i]? = some ⟨none, .mapUpdate mt x y v, ty, pos, aft, g⟩) (hw : wantE ops ρ ⟨none, .mapUpdate mt x y v, ty, pos, aft, g⟩ = some true) (hs : isSoft soft i = false)
    (hx : ev ρ x = some (.map (some m))) (hy : ev ρ y = some (.int .i64 k)) (hv : ev ρ v = some u) (hu : P.underlying mt = some (.map kt et)) (hk : P.underlying kt = some (.int ik)) [hi : ∀ kvs', SwapMap m L kvs kvs' (L' kvs')]
    (kk : ∀ w', Own B (L' (kvPut kvs k u)) w' → (d = true → Still P tab i w' pend) ∧ RE P ops tab soft d Q n ds rest pend ρ w') : RE P ops tab soft d Q n ds (.op i rest) pend ρ w := by
  obtain ⟨li, hi1, hi2⟩ := (hi (kvPut kvs k u)).out
  obtain ⟨w', hr, Hw⟩ := run_update_imap (P := P) H hi1 hu hk k u
  rw [hi2] at Hw
  exact re_effu (s := Instr.mapUpdate mt (.map (some m)) (.int .i64 k) u) ho hw hs rfl (fun a ha => by simp only [execOp, ha.eval hx, ha.eval hy, ha.eval hv]; rfl) hr (kk w' Hw)

theorem re_makeMap (H : Own B L w) {mt : TypeId}
    (ho : ops[i]? = some ⟨some t, .makeMap mt none, ty, pos, aft, g⟩) (hw : wantE ops ρ ⟨some t, .makeMap mt none, ty, pos, aft, g⟩ = some true) (hs : isSoft soft i = false) (hd : Nat.blt t n = true)
    (k : ∀ m w', Own B (.imap m [] :: L) w' → (d = true → Still P tab i w' pend) ∧ RE P ops tab soft d Q n ds rest pend ((t, .map (some m)) :: ρ) w') : RE P ops tab soft d Q n ds (.op i rest) pend ρ w := by
  have H' : Own B (.imap w.heap.size [] :: L) { w with heap := w.heap.push (.map #[] 0) } :=
    H.below_add (w' := { w with heap := w.heap.push (.map #[] 0) }) (e := .imap w.heap.size []) ⟨rfl, rfl, rfl, by simp, fun k hk => Below.heap_alloc w _ k hk⟩ ⟨Nat.le_refl _, by simp, #[], 0, by simp, rfl⟩
  refine re_effv (s := Instr.makeMap mt none) (w' := { w with heap := w.heap.push (.map #[] 0) }) ho hw hs hd (fun a ha => by simp only [execOp, Option.map_none]; rfl) ?_ (k w.heap.size _ H')
  simp [Instr.makeMap, newObj, Sem.run]
end
end Go.Fw

/- More steps: division, type assertions, calls through an interface and through a function value, results in memory. No program in sight. -/
namespace Go.Fw
open Go Go.RowKit

section
variable {P : Program} {ops : Array Oper} {tab : List Nat} {soft : Nat} {d : Bool} {Q : Exit → Act → World → Prop} {n : Nat} {ds : List Deferred}
variable {rest : OT} {pend : List Pend} {ρ : Env} {w : World} {i : Nat} {t : Tmp} {ty : TypeId} {pos : String} {aft : Array Edge} {g : Option (Nat × Bool)}

theorem re_quo {xt yt : TypeId} {x y : Operand} {a b : Int}
    (ho : ops[i]? = some ⟨some t, .binOp .quo xt x y yt, ty, pos, aft, g⟩) (hw : wantE ops ρ ⟨some t, .binOp .quo xt x y yt, ty, pos, aft, g⟩ = some true) (hs : isSoft soft i = true) (hd : Nat.blt t n = true)
    (hx : ev ρ x = some (.int .i64 a)) (hy : ev ρ y = some (.int .i64 b)) (h0 : 0 ≤ a) (h1 : a ≤ 9223372036854775807) (hb : 0 < b) (k : RE P ops tab soft d Q n ds rest pend ((t, .int .i64 (a / b)) :: ρ) w) : RE P ops tab soft d Q n ds (.op i rest) pend ρ w :=
  re_binW ho hw hs hd hx hy (fun w => run_bin_int (by
    have hne : b ≠ 0 := by omega
    have hq : a.tdiv b = a / b := Int.tdiv_eq_ediv_of_nonneg h0
    have hle : a / b ≤ a := Int.ediv_le_self b h0
    have hge : 0 ≤ a / b := Int.ediv_nonneg h0 (by omega)
    simp only [binOp, Op.intDiv, hne, if_false, ne_eq, not_true, Sem.run_pure, hq]
    rw [IntWalk.i64_in _ (by omega)])) k
theorem re_rem {xt yt : TypeId} {x y : Operand} {a b : Int}
    (ho : ops[i]? = some ⟨some t, .binOp .rem xt x y yt, ty, pos, aft, g⟩) (hw : wantE ops ρ ⟨some t, .binOp .rem xt x y yt, ty, pos, aft, g⟩ = some true) (hs : isSoft soft i = true) (hd : Nat.blt t n = true)
    (hx : ev ρ x = some (.int .i64 a)) (hy : ev ρ y = some (.int .i64 b)) (hb : b ≠ 0) (k : RE P ops tab soft d Q n ds rest pend ((t, .int .i64 (a.tmod b)) :: ρ) w) : RE P ops tab soft d Q n ds (.op i rest) pend ρ w :=
  re_binW ho hw hs hd hx hy (fun w => run_bin_int (by simp only [binOp, Op.intDiv, hb, if_false, ne_eq, not_true, Sem.run_pure])) k

/-- 'x.(T)' with ok, T a concrete type: the value is of it. -/
theorem re_isT {xt at_ : TypeId} {x : Operand} {v : Value} (ho : ops[i]? = some ⟨some t, .typeAssert x xt at_ true, ty, pos, aft, g⟩) (hw : wantE ops ρ ⟨some t, .typeAssert x xt at_ true, ty, pos, aft, g⟩ = some true) (hs : isSoft soft i = true) (hd : Nat.blt t n = true)
    (hx : ev ρ x = some (.iface at_ v)) (hn : notIface P at_ = true) (k : RE P ops tab soft d Q n ds rest pend ((t, .tuple #[v, .bool true]) :: ρ) w) : RE P ops tab soft d Q n ds (.op i rest) pend ρ w :=
  re_soft (s := Instr.typeAssert (.iface at_ v) xt at_ true) ho hw hs hd (fun a ha => by simp only [execOp, ha.eval hx]; rfl) (fun w => by
    unfold notIface at hn
    cases hu : P.underlying at_ with
    | none => rw [hu] at hn; cases hn
    | some dd =>
      rw [hu] at hn
      simp only [Instr.typeAssert, Sem.run_bind, run_underlying hu, Result.andThen_ok]
      cases dd <;> first | (cases hn; done) | simp) k
/-- It is of another one. -/
theorem re_isNotT {xt at_ tv : TypeId} {x : Operand} {v z : Value} (ho : ops[i]? = some ⟨some t, .typeAssert x xt at_ true, ty, pos, aft, g⟩) (hw : wantE ops ρ ⟨some t, .typeAssert x xt at_ true, ty, pos, aft, g⟩ = some true) (hs : isSoft soft i = true) (hd : Nat.blt t n = true)
    (hx : ev ρ x = some (.iface tv v)) (hn : notIface P at_ = true) (hne : Nat.beq tv at_ = false) (hz : zeroV P at_ = some z) (k : RE P ops tab soft d Q n ds rest pend ((t, .tuple #[z, .bool false]) :: ρ) w) : RE P ops tab soft d Q n ds (.op i rest) pend ρ w :=
  re_soft (s := Instr.typeAssert (.iface tv v) xt at_ true) ho hw hs hd (fun a ha => by simp only [execOp, ha.eval hx]; rfl) (fun w => by
    have hne' : tv ≠ at_ := by intro e; subst e; simp at hne
    have hz' := run_zeroValue (P := P) (w := w) hz
    unfold notIface at hn
    cases hu : P.underlying at_ with
    | none => rw [hu] at hn; cases hn
    | some dd =>
      rw [hu] at hn
      simp only [Instr.typeAssert, Sem.run_bind, run_underlying hu, Result.andThen_ok]
      cases dd <;> first | (cases hn; done) | simp [hne', hz']) k

/-- The function behind method 'name' of the concrete type T, its receiver a value. -/
def methodOf (P : Program) (T : TypeId) (name : String) : Option FuncId :=
  match P.info? T with
  | some inf => match inf.methods.find? (·.name == name) with
    | some m => match m.path.toList, m.func with
      | [], some (f, false) => match P.underlying T with
        | some (.pointer _) => none
        | some _ => some f
        | none => none
      | _, _ => none
    | none => none
  | none => none
theorem run_method {T : TypeId} {name : String} {f : FuncId} (h : methodOf P T name = some f) (k : Nat) (v : Value) (w : World) : (method (k + 1) T v name).run P w = .ok (f, v) w := by
  unfold methodOf at h
  cases hi : P.info? T with
  | none => rw [hi] at h; simp at h
  | some inf =>
    rw [hi] at h
    simp only at h
    cases hm : inf.methods.find? (·.name == name) with
    | none => rw [hm] at h; simp at h
    | some m =>
      rw [hm] at h
      simp only at h
      split at h
      · rename_i f' hp hf
        cases hu : P.underlying T with
        | none => rw [hu] at h; simp at h
        | some dd =>
          rw [hu] at h
          have hdd : ∀ e, dd ≠ .pointer e := by intro e he; subst he; simp at h
          have hff : f' = f := by cases dd <;> simp at h <;> first | exact h | exact absurd rfl (hdd _)
          subst hff
          have hrec : ∀ nm, (receiverAt T (.val v) false nm).run P w = .ok v w := by
            intro nm
            simp only [receiverAt, Sem.run_bind, run_underlying hu, Result.andThen_ok]
            cases dd <;> first | rfl | exact absurd rfl (hdd _)
          simp [method, typeInfo, hi, hm, hp, hf, follow, hrec]
      · cases h

theorem run_invoke {T : TypeId} {v : Value} {name : String} {f : FuncId} (hm : methodOf P T name = some f) (hf : Enterable P f) (args : List Value) (w : World) : (invoke (.fn (.method name) #[]) (Value.iface T v :: args).toArray).run P w = .ok (.enter f (v :: args).toArray) w := by
  have hfuel : ∃ j, P.types.size + Made.depth = j + 1 := ⟨P.types.size + 99, by unfold Made.depth; omega⟩
  obtain ⟨j, hj⟩ := hfuel
  have h0 : (Value.iface T v :: args).toArray[0]? = some (.iface T v) := by simp
  have h3 : (#[v] ++ (Value.iface T v :: args).toArray.extract 1 (Value.iface T v :: args).toArray.size) = (v :: args).toArray := by
    apply Array.toList_inj.1
    simp [Array.toList_extract, List.extract]
  simp only [invoke, h0, callMethod, Sem.run_bind, run_program, Result.andThen_ok, hj, run_method hm, h3, run_callFunc hf]

/-- A method called on an interface value whose type is known. -/
theorem re_invoke {T : TypeId} {v : Value} {name : String} {r : Operand} {f : FuncId} {xs : List Operand} {ats : Array TypeId} {args : List Value} (hm : methodOf P T name = some f) (hf : Enterable P f)
    (ho : ops[i]? = some ⟨some t, .call { callee := .invoke r name, args := xs.toArray, argTypes := ats }, ty, pos, aft, g⟩) (hw : wantE ops ρ ⟨some t, .call { callee := .invoke r name, args := xs.toArray, argTypes := ats }, ty, pos, aft, g⟩ = some true) (hs : isSoft soft i = false) (hd : Nat.blt t n = true)
    (hr : ev ρ r = some (.iface T v)) (hx : evArgs ρ xs = some args)
    (k : Calls P f (v :: args).toArray w fun e w' => ∃ v, e = .returned v ∧ (d = true → Still P tab i w' pend) ∧ RE P ops tab soft d Q n ds rest pend ((t, v) :: ρ) w') : RE P ops tab soft d Q n ds (.op i rest) pend ρ w :=
  re_enter ho hw hs hd (fun a ha => by
    have h1 := evArgs_spec ha xs args hx
    have h2 : #[Value.iface T v] ++ xs.toArray.map a.eval = (Value.iface T v :: args).toArray := by simp [h1]
    simp only [execOp, resolve, ha.eval hr, Sem.run_bind, Sem.run_pure, Result.andThen_ok, h2]
    exact run_invoke hm hf args w) k

/-- A call of a function value that is a function of the program, with what it has captured. -/
theorem re_callV {r : Operand} {f : FuncId} {xs : List Operand} {ats : Array TypeId} {args cap : List Value} (hf : Enterable P f)
    (ho : ops[i]? = some ⟨some t, .call { callee := .value r, args := xs.toArray, argTypes := ats }, ty, pos, aft, g⟩) (hw : wantE ops ρ ⟨some t, .call { callee := .value r, args := xs.toArray, argTypes := ats }, ty, pos, aft, g⟩ = some true) (hs : isSoft soft i = false) (hd : Nat.blt t n = true)
    (hr : ev ρ r = some (.func (.func f) #[] cap.toArray)) (hx : evArgs ρ xs = some args)
    (k : Calls P f (args ++ cap).toArray w fun e w' => ∃ v, e = .returned v ∧ (d = true → Still P tab i w' pend) ∧ RE P ops tab soft d Q n ds rest pend ((t, v) :: ρ) w') : RE P ops tab soft d Q n ds (.op i rest) pend ρ w :=
  re_enter ho hw hs hd (fun a ha => by
    have h1 := evArgs_spec ha xs args hx
    have h2 : (#[] ++ xs.toArray.map a.eval ++ cap.toArray) = (args ++ cap).toArray := by simp [h1]
    simp only [execOp, resolve, ha.eval hr, Deferred.ofValue, Sem.run_bind, Sem.run_pure, Result.andThen_ok, invoke, h2]
    exact run_callFunc hf _ w) k
theorem re_makeFunc {fn : Fn} {xs ys : List Operand} {a1 a2 : List Value} (ho : ops[i]? = some ⟨some t, .makeFunc fn xs.toArray ys.toArray, ty, pos, aft, g⟩) (hw : wantE ops ρ ⟨some t, .makeFunc fn xs.toArray ys.toArray, ty, pos, aft, g⟩ = some true) (hs : isSoft soft i = true) (hd : Nat.blt t n = true)
    (hx : evArgs ρ xs = some a1) (hy : evArgs ρ ys = some a2) (k : RE P ops tab soft d Q n ds rest pend ((t, .func fn a1.toArray a2.toArray) :: ρ) w) : RE P ops tab soft d Q n ds (.op i rest) pend ρ w :=
  re_soft (s := pure (.func fn a1.toArray a2.toArray)) ho hw hs hd (fun a ha => by
    have h1 := evArgs_spec ha xs a1 hx
    have h2 := evArgs_spec ha ys a2 hy
    have h3 : xs.toArray.map a.eval = a1.toArray := by simp [h1]
    have h4 : ys.toArray.map a.eval = a2.toArray := by simp [h2]
    simp only [execOp, h3, h4]; rfl) (fun w => rfl) k
end

section
variable {P : Program}
theorem repeat_cells (zs : List Value) (c : Nat) (hz : zs ≠ []) : ((Array.range (c * zs.length)).map (zs.toArray[· % zs.toArray.size]!)).toList = (List.replicate c zs).flatten := by
  apply List.ext_getElem?
  intro j
  have hpos : 0 < zs.length := List.length_pos_iff.2 hz
  have hfl : ∀ c j, (List.replicate c zs).flatten[j]? = if j < c * zs.length then zs[j % zs.length]? else none := by
    intro c
    induction c with
    | zero => intro j; simp
    | succ c ih =>
      intro j
      simp only [List.replicate_succ, List.flatten_cons]
      rcases Nat.lt_or_ge j zs.length with h | h
      · rw [List.getElem?_append_left h, if_pos (by rw [Nat.succ_mul]; omega), Nat.mod_eq_of_lt h]
      · rw [List.getElem?_append_right h, ih]
        have h1 : (j - zs.length) % zs.length = j % zs.length := by
          conv => rhs; rw [show j = j - zs.length + zs.length by omega, Nat.add_mod_right]
        rw [h1]
        have h2 : (j - zs.length < c * zs.length) ↔ (j < (c + 1) * zs.length) := by rw [Nat.succ_mul]; omega
        simp only [h2]
  rw [hfl]
  have hm : j % zs.length < zs.length := Nat.mod_lt _ hpos
  by_cases h : j < c * zs.length
  · simp [h, hm]
  · simp [h]
theorem run_makeSlice {st e : TypeId} {size bytes c : Nat} {zs : List Value} {w : World} (hu : P.underlying st = some (.slice e)) (he : elemInfo P st = some (e, size, bytes)) (hz : zeroC P e = some zs) (hzl : zs.length = size) (hpos : 0 < size) {k1 k2 : IntKind} (hb : c * bytes ≤ 140737488355328) (hc : c ≤ 9223372036854775807) :
    (Instr.makeSlice st (.int k1 c) (.int k2 c)).run P w = .ok (.slice (some ⟨w.heap.size, 0, none⟩) c c) { w with heap := w.heap.push (.cells (List.replicate c zs).flatten.toArray e) } := by
  obtain ⟨inf, hinf, hsize, hby⟩ : ∃ inf, P.info? e = some inf ∧ inf.size = size ∧ inf.bytes = bytes := by
    simp only [elemInfo, hu, Option.map_eq_some_iff, Prod.mk.injEq] at he
    obtain ⟨i, h1, _, h2, h3⟩ := he
    exact ⟨i, h1, h2, h3⟩
  obtain ⟨z, hz1, hz2⟩ : ∃ z, inf.zero = some z ∧ z.cells = zs.toArray := by
    simp only [zeroC, hinf, Option.bind_some, Option.map_eq_some_iff] at hz
    obtain ⟨z, h1, h2⟩ := hz
    exact ⟨z, h1, by rw [← h2]⟩
  have hbi : (inf.bytes : Int) * (c : Int) ≤ 281474976710656 := by
    rw [hby, Int.mul_comm, ← Int.natCast_mul]
    omega
  have hne : zs ≠ [] := by intro e; rw [e] at hzl; simp at hzl; omega
  have hr := run_make (P := P) w st e inf z hu hinf hz1 k1 k2 (c : Int) (c : Int) (by omega) (Int.le_refl _) hbi (by omega)
  simp only [Int.toNat_natCast, hsize, hz2] at hr
  have hcells := repeat_cells zs c hne
  rw [hzl] at hcells
  have hmade : madeCells zs.toArray (c * size) = (List.replicate c zs).flatten.toArray := by
    apply Array.toList_inj.1
    rw [← hcells]
    rfl
  rw [hmade] at hr
  exact hr
end
section
variable {P : Program} {ops : Array Oper} {tab : List Nat} {soft : Nat} {d : Bool} {Q : Exit → Act → World → Prop} {n : Nat} {ds : List Deferred}
variable {rest : OT} {pend : List Pend} {ρ : Env} {w : World} {i : Nat} {t : Tmp} {ty : TypeId} {pos : String} {aft : Array Edge} {g : Option (Nat × Bool)}
/-- 'make([]T, n)' -/
theorem re_makeSlice {B : World} {L : List Ent} (H : Own B L w) {st e : TypeId} {size bytes c : Nat} {x y : Operand} {zs : List Value} {k1 k2 : IntKind}
    (ho : ops[i]? = some ⟨some t, .makeSlice st x y, ty, pos, aft, g⟩) (hw : wantE ops ρ ⟨some t, .makeSlice st x y, ty, pos, aft, g⟩ = some true) (hs : isSoft soft i = false) (hd : Nat.blt t n = true) (hx : ev ρ x = some (.int k1 c)) (hy : ev ρ y = some (.int k2 c))
    (hu : P.underlying st = some (.slice e)) (he : elemInfo P st = some (e, size, bytes)) (hz : zeroC P e = some zs) (hzl : zs.length = size) (hpos : 0 < size) (hb : c * bytes ≤ 140737488355328) (hc : c ≤ maxLen)
    (k : ∀ b w', Own B (.row (some b) c e size c (List.replicate c zs).flatten :: L) w' → (d = true → Still P tab i w' pend) ∧ RE P ops tab soft d Q n ds rest pend ((t, slv (some b) c c) :: ρ) w') : RE P ops tab soft d Q n ds (.op i rest) pend ρ w := by
  have hlen : (List.replicate c zs).flatten.length = c * size := by
    rw [← hzl]
    induction c with
    | zero => simp
    | succ c ih => simp [List.replicate_succ, List.length_flatten, Nat.succ_mul, Nat.add_comm]
  exact re_effv (s := Instr.makeSlice st (.int k1 c) (.int k2 c)) (w' := { w with heap := w.heap.push (.cells (List.replicate c zs).flatten.toArray e) }) ho hw hs hd (fun a ha => by simp only [execOp, ha.eval hx, ha.eval hy]; rfl)
    (run_makeSlice hu he hz hzl hpos hb (by unfold maxLen at hc; omega)) (k w.heap.size _ ((H.alloc e _).as_row hlen (Nat.le_refl _) hc (List.take_of_length_le (by omega))))
/-- The address of an element, told as block and place. -/
theorem re_indexL {st e : TypeId} {size bytes : Nat} {x y : Operand} {b o m c : Nat} {kd : IntKind} {j : Int} (ho : ops[i]? = some ⟨some t, .indexAddr st x y, ty, pos, aft, g⟩) (hw : wantE ops ρ ⟨some t, .indexAddr st x y, ty, pos, aft, g⟩ = some true) (hs : isSoft soft i = true) (hd : Nat.blt t n = true)
    (hx : ev ρ x = some (.slice (some ⟨b, o, none⟩) m c)) (hy : ev ρ y = some (.int kd j)) (hu : P.underlying st = some (.slice e)) (he : elemInfo P st = some (e, size, bytes)) (h0 : 0 ≤ j) (h1 : j < m)
    (k : RE P ops tab soft d Q n ds rest pend ((t, .pointer (some ⟨b, o + j.toNat * size, none⟩)) :: ρ) w) : RE P ops tab soft d Q n ds (.op i rest) pend ρ w :=
  re_index ho hw hs hd hx hy hu he h0 h1 (by rw [add_lit]; exact k)
/-- 'make([]T, n)', as cells. -/
theorem re_makeSliceC {B : World} {L : List Ent} (H : Own B L w) {st e : TypeId} {size bytes c : Nat} {x y : Operand} {zs : List Value} {k1 k2 : IntKind}
    (ho : ops[i]? = some ⟨some t, .makeSlice st x y, ty, pos, aft, g⟩) (hw : wantE ops ρ ⟨some t, .makeSlice st x y, ty, pos, aft, g⟩ = some true) (hs : isSoft soft i = false) (hd : Nat.blt t n = true) (hx : ev ρ x = some (.int k1 c)) (hy : ev ρ y = some (.int k2 c))
    (hu : P.underlying st = some (.slice e)) (he : elemInfo P st = some (e, size, bytes)) (hz : zeroC P e = some zs) (hzl : zs.length = size) (hpos : 0 < size) (hb : c * bytes ≤ 140737488355328) (hc : c ≤ maxLen)
    (k : ∀ b w', Own B (.cells b e (List.replicate c zs).flatten :: L) w' → (d = true → Still P tab i w' pend) ∧ RE P ops tab soft d Q n ds rest pend ((t, slv (some b) c c) :: ρ) w') : RE P ops tab soft d Q n ds (.op i rest) pend ρ w :=
  re_effv (s := Instr.makeSlice st (.int k1 c) (.int k2 c)) (w' := { w with heap := w.heap.push (.cells (List.replicate c zs).flatten.toArray e) }) ho hw hs hd (fun a ha => by simp only [execOp, ha.eval hx, ha.eval hy]; rfl)
    (run_makeSlice hu he hz hzl hpos hb (by unfold maxLen at hc; omega)) (k w.heap.size _ (H.alloc e _))
theorem flatMap_drop {α : Type} (f : α → List Value) (s : Nat) (hf : ∀ x, (f x).length = s) : ∀ (l : List α) (k : Nat) (h : k < l.length), ((l.flatMap f).drop (k * s)).take s = f l[k]
  | [], _, h => by simp at h
  | x :: r, 0, _ => by simp [← hf x]
  | x :: r, k + 1, h => by
    have := flatMap_drop f s hf r k (by simpa using h)
    simp only [List.flatMap_cons, List.getElem_cons_succ] at this ⊢
    rw [List.drop_append, List.drop_eq_nil_of_le (by rw [hf, Nat.succ_mul]; omega), List.nil_append, hf, show (k + 1) * s - s = k * s by rw [Nat.succ_mul]; omega]
    exact this
theorem flatMap_len {α : Type} (f : α → List Value) (s : Nat) (hf : ∀ x, (f x).length = s) (l : List α) : (l.flatMap f).length = l.length * s := by
  induction l with
  | nil => simp
  | cons x r ih => simp only [List.flatMap_cons, List.length_append, ih, hf, List.length_cons, Nat.succ_mul]; omega
theorem rd_one {α : Type} (f : α → Value) {l : List α} {k : Nat} (h : k < l.length) : rdAt false 1 (l.map f) (0 + ((k : Nat) : Int).toNat * 1) = some (f l[k]) := by
  simp [rdAt, h]
theorem rd_flat {α : Type} (f : α → List Value) (s : Nat) (hf : ∀ x, (f x).length = s) {l : List α} {k : Nat} (h : k < l.length) : rdAt true s (l.flatMap f) (0 + ((k : Nat) : Int).toNat * s) = some (.agg (f l[k]).toArray) := by
  have hl := flatMap_len f s hf l
  have hd := flatMap_drop f s hf l k h
  have hle : k * s + s ≤ l.length * s := by rw [← Nat.succ_mul]; exact Nat.mul_le_mul_right s h
  simp only [rdAt, Nat.zero_add, Int.toNat_natCast]
  simp [hl, hle, hd]
theorem set_one {α : Type} (f : α → Value) {l : List α} {k : Nat} (y : α) : setMany (l.map f) (0 + ((k : Nat) : Int).toNat * 1) [f y] = (l.set k y).map f := by
  simp [setMany, List.map_set]
theorem setMany_append (xs ys vs : List Value) (j : Nat) : setMany (xs ++ ys) (xs.length + j) vs = xs ++ setMany ys j vs := by
  induction vs generalizing ys j with
  | nil => rfl
  | cons v r ih => simp only [setMany]; rw [List.set_append_right _ _ (by omega), show xs.length + j - xs.length = j by omega, show xs.length + j + 1 = xs.length + (j + 1) by omega, ih]
theorem setMany_front : ∀ (vs xs ys : List Value), xs.length = vs.length → setMany (xs ++ ys) 0 vs = vs ++ ys := by
  intro vs
  have gen : ∀ (vs pre xs ys : List Value), xs.length = vs.length → setMany (pre ++ (xs ++ ys)) pre.length vs = pre ++ (vs ++ ys) := by
    intro vs
    induction vs with
    | nil => intro pre xs ys h; have : xs = [] := List.length_eq_zero_iff.1 h; subst this; rfl
    | cons v r ih =>
      intro pre xs ys h
      cases xs with
      | nil => cases h
      | cons x xs =>
        simp only [setMany]
        have := ih (pre ++ [v]) xs ys (by simpa using h)
        simp only [List.append_assoc, List.length_append, List.length_cons, List.length_nil, List.cons_append, List.nil_append] at this ⊢
        rw [List.set_append_right _ _ (by omega), show pre.length - pre.length = 0 by omega]
        simpa using this
  intro xs ys h
  simpa using gen vs [] xs ys h
theorem set_flat {α : Type} (f : α → List Value) (s : Nat) (hf : ∀ x, (f x).length = s) (y : α) : ∀ (l : List α) (k : Nat), k < l.length → setMany (l.flatMap f) (0 + ((k : Nat) : Int).toNat * s) (f y) = (l.set k y).flatMap f := by
  intro l k
  rw [Nat.zero_add, Int.toNat_natCast]
  induction l generalizing k with
  | nil => intro h; simp at h
  | cons x r ih =>
    intro h
    cases k with
    | zero => rw [Nat.zero_mul]; simp only [List.flatMap_cons, List.set_cons_zero]; exact setMany_front _ _ _ (by rw [hf, hf])
    | succ k =>
      have := ih k (by simpa using h)
      simp only [List.flatMap_cons, List.set_cons_succ]
      rw [← this, show (k + 1) * s = (f x).length + k * s by rw [hf, Nat.succ_mul]; omega]
      exact setMany_append _ _ _ _
/-- Is it an interface type? -/
def ifaceT (P : Program) (t : TypeId) : Bool := match P.underlying t with | some (.interface _) => true | _ => false
theorem ifaceT_spec {xt : TypeId} (h : ifaceT P xt = true) : ∃ ms, P.underlying xt = some (.interface ms) := by
  unfold ifaceT at h
  split at h
  · exact ⟨_, by assumption⟩
  · cases h
theorem run_ifNe {op : BinOp} {xt tx ty : TypeId} {x y : Operand} {vx vy v : Value} (hu : ifaceT P xt = true) (hne : Nat.beq tx ty = false) (hop : (op = .eql ∧ v = .bool false) ∨ (op = .neq ∧ v = .bool (!false))) (w : World) :
    (do eqGuard op xt x y (.iface tx vx) (.iface ty vy); binOp op xt (.iface tx vx) (.iface ty vy) : Sem Value).run P w = .ok v w := by
  obtain ⟨ms, hm⟩ := ifaceT_spec hu
  exact run_ifaceNe hm (by intro e; subst e; simp at hne) hop w
theorem run_ifEq0 {op : BinOp} {xt tx : TypeId} {x y : Operand} {v : Value} (hu : ifaceT P xt = true) (hc : (P.info? tx).map (·.comparable) = some true) (hf : flatK P 9 tx = some []) (hsh : shapeOf P tx = some (true, 0)) (hop : (op = .eql ∧ v = .bool true) ∨ (op = .neq ∧ v = .bool (!true))) (w : World) :
    (do eqGuard op xt x y (.iface tx (.agg #[])) (.iface tx (.agg #[])); binOp op xt (.iface tx (.agg #[])) (.iface tx (.agg #[])) : Sem Value).run P w = .ok v w := by
  obtain ⟨ms, hm⟩ := ifaceT_spec hu
  exact run_ifaceEq0 hm hc hf hsh hop w
/-- Two results, the first in memory. -/
theorem qe_endCell2 {B : World} {L : List Ent} {w : World} (H : Own B L w) {fn : Func} {R : Ending → World → Prop} {ρ : Env} {t u : Tmp} {τ : TypeId} {agg : Bool} {kk b off : Nat} {e : TypeId} {cs : List Value} {v x : Value} (hf : fn.results = #[.cell t τ, .tmp u]) (hx : look ρ t = some (.pointer (some ⟨b, off, none⟩))) (hu : look ρ u = some x)
    (hk : shapeOf P τ = some (agg, kk)) [hm : InCells b L e cs] (hv : rdAt agg kk cs off = some v) (h : R (.returned (.tuple #[v, x])) w) : QE (bodyPost P fn R) n [] .ret ρ w := fun a ha => by
  refine bodyPost_ret (v := .tuple #[v, x]) ?_ ha.defers h
  have h1 := ha.get t _ hx
  have h3 := ha.get u _ hu
  have h2 := run_loadAt_own (P := P) H hk hm.mem hv
  simp only [Instr.loadAt, Instr.sureAddr, Sem.run_bind, Sem.run_pure, Result.andThen_ok] at h2
  simp [results, hf, h1, h3, asAddr, h2]
end
end Go.Fw

/- A range over a function: the statement, the iterator's call of yield, the round; the end of a function that holds one. No program in sight. -/
namespace Go.Fw
open Go Go.RowKit

def Ent.loop (l : Nat) (r : Loop) : Ent := ⟨some l, fun o => o = some (.loop r)⟩
def Ent.deferred (b : Nat) (ds : Option (List Deferred)) : Ent := ⟨some b, fun o => o = some (.deferred ds)⟩

section
variable {P : Program} {ops : Array Oper} {Q : Exit → Act → World → Prop}

def noDefer (ops : Array Oper) : Bool := ops.all fun o => match o.op with | .defer _ => false | _ => true

theorem callsIn_round {l m : Nat} {f : FuncId} {args : Array Value} {w : World} {R : Ending → World → Prop} (h : Calls P f args w R) : CallsIn (Fence.wide.inRound l) m P f args w R :=
  (callsIn_wide (n := m)).2 h
theorem upon_in {F : Fence} (hF : ∀ f, F.fn f) (hd : F.depth = none) (hC : ∀ m f args w R, Calls P f args w R → CallsIn F m P f args w R) (hRw : ∀ m row args w R, Rows P row args w R → RowsIn F m P row args w R) {n : Nat} {o : Oper} {a : Act} {next next' : Act → World → Prop} (hn : ∀ a w, next a w → next' a w) {r : Result Next} (h : o.upon P a next Q r) : o.uponIn F n P a next' Q r := by
  have h0 : (F.depth.isSome = true → 1 ≤ n) := by rw [hd]; intro h; cases h
  cases r with
  | ok nx w =>
    cases nx with
    | value v => exact hn _ _ h
    | skip => exact hn _ _ h
    | defer d => exact hn _ _ h
    | enter f args =>
      refine ⟨h0, hC _ _ _ _ _ (Calls.mono h fun e w' he => ?_)⟩
      cases e <;> first | exact hn _ _ he | exact he
    | row row args => exact ⟨h0, hRw _ _ _ _ _ (Rows.mono h fun v w' he => hn _ _ he)⟩
    | _ => exact h.elim
  | halt hh w =>
    cases hh <;> first | exact h | exact h.elim
theorem rowsIn_round {l m : Nat} {row : String} {args : Array Value} {w : World} {R : Value → World → Prop} (h : Rows P row args w R) : RowsIn (Fence.wide.inRound l) m P row args w R :=
  fun c cs _ => let ⟨v, w', r, s⟩ := h c cs; ⟨v, w', r, (StepsIn.of_steps s).mono fun m _ => fenced_wide P m⟩
theorem rowsIn_wide {m : Nat} {row : String} {args : Array Value} {w : World} {R : Value → World → Prop} (h : Rows P row args w R) : RowsIn Fence.wide m P row args w R :=
  fun c cs _ => let ⟨v, w', r, s⟩ := h c cs; ⟨v, w', r, (StepsIn.of_steps s).mono fun m _ => fenced_wide P m⟩

/-- Operations in the text's order, walked in a fence that shuts out nothing; behind them K. -/
theorem ops_in {F : Fence} (hF : ∀ f, F.fn f) (hd : F.depth = none) (hC : ∀ m f args w R, Calls P f args w R → CallsIn F m P f args w R) (hRw : ∀ m row args w R, Rows P row args w R → RowsIn F m P row args w R) (hdef : noDefer ops = true) {tab : List Nat} {soft : Nat} {m : Nat} {post : List Nat} :
    ∀ (ord : OT) (_ : ord.straight = true) (pend : List Pend) (a : Act) (w : World), Rg P ops tab soft false (Exit.then (wpOpsIn F m P ops Q post) Q) ord pend a w → wpOpsIn F m P ops Q (ord.lin ++ post) a w
  | .nil, _, _, _, _, h => h
  | .alt .., hs, _, _, _, _ => by cases hs
  | .op i rest, hst, pend, a, w, h => by
    have hst' : rest.straight = true := hst
    obtain ⟨o, ho, h⟩ := h
    have hnd : ∀ c, o.op ≠ .defer c := by
      intro c hc
      have hm : o ∈ ops.toList := by
        have := List.mem_of_getElem? (l := ops.toList) (i := i) (a := o) (by simpa using ho)
        exact this
      unfold noDefer at hdef
      rw [← Array.all_toList] at hdef
      have := List.all_eq_true.1 hdef o hm
      simp [hc] at this
    have hsem : o.semAt F.round a.eval = execOp a.eval o := Oper.semAt_eq _ _ _ hnd
    simp only [OT.lin, List.cons_append, wpOpsIn, ho]
    rcases h with ⟨hw, h⟩ | ⟨hw, hs, s, v, he, h⟩ | ⟨hw, hs, h⟩
    · simp only [hw, Bool.false_eq_true, if_false]; exact ⟨fun f _ => hF f, ops_in hF hd hC hRw hdef rest hst' _ _ _ h⟩
    · simp only [hw, if_true]
      refine ⟨fun f _ => hF f, ?_⟩
      rw [hsem, he]
      rcases h with ⟨hall, h⟩ | ⟨hr, h⟩
      · rw [liftV_run (hall w)]; exact ops_in hF hd hC hRw hdef rest hst' _ _ _ h
      · rw [liftV_run hr]; exact ops_in hF hd hC hRw hdef rest hst' _ _ _ h
    · simp only [hw, if_true]
      refine ⟨fun f _ => hF f, ?_⟩
      rw [hsem]
      have hlet : LetsOut (Exit.then (wpOpsIn F m P ops Q post) Q) = LetsOut Q := by
        unfold LetsOut; rfl
      unfold Oper.wp at h
      have conv : ∀ r, o.upon P a (fun a' w' => (false = true → Still P tab i w' pend) ∧ Rg P ops tab soft false (Exit.then (wpOpsIn F m P ops Q post) Q) rest pend a' w') (Exit.then (wpOpsIn F m P ops Q post) Q) r → o.upon P a (fun a' w' => (false = true → Still P tab i w' pend) ∧ Rg P ops tab soft false (Exit.then (wpOpsIn F m P ops Q post) Q) rest pend a' w') Q r := by
        intro r hr
        cases r with
        | ok nx w =>
          cases nx with
          | enter f args =>
            refine Calls.mono hr fun e w' he => ?_
            cases e <;> exact he
          | _ => exact hr
        | halt hh w => cases hh <;> exact hr
      exact upon_in hF hd hC hRw (next := fun a' w' => (false = true → Still P tab i w' pend) ∧ Rg P ops tab soft false (Exit.then (wpOpsIn F m P ops Q post) Q) rest pend a' w') (fun a' w' h' => ops_in hF hd hC hRw hdef rest hst' _ _ _ h'.2) (conv _ h)

/-! ### The iterator's side -/
/-- What a call of yield with these arguments does. -/
def Round (P : Program) (l : Nat) (args : Array Value) (w : World) (R : Ending → World → Prop) : Prop :=
  ∃ r, w.heap[l]? = some (.loop r) ∧ args.size = r.params.size ∧ RoundIn Fence.wide 0 P l r.fn ((r.params.zip args).foldl (fun tmps (t, a) => tmps.setIfInBounds t a) r.tmps) r.assign r.body w R

variable {n : Nat} {ds : List Deferred} {ρ : Env} {w : World}
/-- A region in the text's order in which yield is called, once. -/
theorem ce_text_yield {id : Nat} (pre : OT) (hst : pre.straight = true) (i : Nat) (post : List Nat) (ho : pre.lin ++ i :: post = List.range ops.size) (hdef : noDefer ops = true) {soft : Nat}
    (h : RE P ops [] soft false (Exit.then (wpOpsIn Fence.wide 0 P ops Q (i :: post)) Q) n ds pre [] ρ w) : CE P Q n ds (.region id ops false) ρ w := fun a ha =>
  (wpIn_wide (n := 0)).1 (wpIn_region (by rw [← ho]; exact ops_in (fun _ => trivial) rfl (fun m f args w R h => (callsIn_wide (n := m)).2 h) (fun m row args w R h => rowsIn_wide h) hdef pre hst [] a w (h a ha)))
theorem qe_yield {i l : Nat} {post : List Nat} {pt : OT} (hpt : pt.lin = post) (hst : pt.straight = true) {soft : Nat} {t : Tmp} {ty : TypeId} {pos : String} {aft : Array Edge} {g : Option (Nat × Bool)} {r : Operand} {xs : List Operand} {ats : Array TypeId} {args : List Value}
    (ho : ops[i]? = some ⟨some t, .call { callee := .value r, args := xs.toArray, argTypes := ats }, ty, pos, aft, g⟩) (hw : wantE ops ρ ⟨some t, .call { callee := .value r, args := xs.toArray, argTypes := ats }, ty, pos, aft, g⟩ = some true) (hdef : noDefer ops = true) (hd : Nat.blt t n = true)
    (hr : ev ρ r = some (.func (.yield l) #[] #[])) (hx : evArgs ρ xs = some args)
    (k : Round P l args.toArray w fun e w' => ∃ v, e = .returned v ∧ RE P ops [] soft false Q n ds pt [] ((t, v) :: ρ) w') :
    QE (Exit.then (wpOpsIn Fence.wide 0 P ops Q (i :: post)) Q) n ds .normal ρ w := fun a ha => by
  show wpOpsIn Fence.wide 0 P ops Q (i :: post) a w
  simp only [wpOpsIn, ho, wantE_spec hw ha, if_true]
  refine ⟨fun _ _ => trivial, ?_⟩
  obtain ⟨rr, h1, h2, h3⟩ := k
  have e1 := evArgs_spec ha xs args hx
  have e2 : (#[] ++ xs.toArray.map a.eval) = args.toArray := by simp [e1]
  have hrun : (Oper.semAt (Fence.wide).round a.eval ⟨some t, .call { callee := .value r, args := xs.toArray, argTypes := ats }, ty, pos, aft, g⟩).run P w = .ok (.round l rr.fn ((rr.params.zip args.toArray).foldl (fun tmps (t, a) => tmps.setIfInBounds t a) rr.tmps) rr.assign rr.body) w := by
    rw [Oper.semAt_eq _ _ _ (by intro c hc; cases hc)]
    simp only [execOp, resolve, ha.eval hr, Deferred.ofValue, Sem.run_bind, Sem.run_pure, Result.andThen_ok, invoke, e2]
    exact run_yield h1 h2
  rw [hrun]
  refine ⟨fun h => (by cases h), RoundIn.mono h3 fun e w' he => ?_⟩
  obtain ⟨v, rfl, hk⟩ := he
  have hk' := hk _ (ha.put (dst := some t) hd v)
  have hwp := ops_in (F := Fence.wide) (m := 0) (post := []) (fun _ => trivial) rfl (fun m f args w R h => (callsIn_wide (n := m)).2 h) (fun m row args w R h => rowsIn_wide h) hdef pt hst [] _ _ (rg_nil_post hk')
  rw [hpt] at hwp
  simpa using hwp
where
  rg_nil_post {tab : List Nat} {soft : Nat} {ord : OT} {pend : List Pend} {a : Act} {w : World} (h : Rg P ops tab soft false Q ord pend a w) : Rg P ops tab soft false (Exit.then (wpOpsIn Fence.wide 0 P ops Q []) Q) ord pend a w := by
    have : (Exit.then (wpOpsIn Fence.wide 0 P ops Q []) Q) = Q := by
      funext e a w
      cases e <;> rfl
    rw [this]; exact h
theorem Round.mono {l : Nat} {args : Array Value} {R R' : Ending → World → Prop} (h : Round P l args w R) (hr : ∀ e w', R e w' → R' e w') : Round P l args w R' :=
  let ⟨r, h1, h2, h3⟩ := h; ⟨r, h1, h2, h3.mono hr⟩

/-! ### The loop's side -/
variable {B : World} {L : List Ent}
theorem Own.putLoop (H : Own B L w) {i l : Nat} {r r' : Loop} (hi : L[i]? = some (.loop l r)) : Own B (L.set i (.loop l r')) (w.putObj l (.loop r')) := by
  have hm := H.at_ (List.mem_of_getElem? hi) (b := l) rfl
  exact H.turn hi rfl rfl ⟨rfl, rfl, rfl, by simp⟩ (fun k hk => World.putObj_heap_other hk) (World.putObj_heap_same hm.1)
theorem Own.loopAt (H : Own B L w) {l : Nat} {r : Loop} (hm : Ent.loop l r ∈ L) : w.heap[l]? = some (.loop r) := (H.at_ hm rfl).2.2
theorem Own.putDef (H : Own B L w) {i l : Nat} {r r' : Option (List Deferred)} (hi : L[i]? = some (.deferred l r)) : Own B (L.set i (.deferred l r')) (w.putObj l (.deferred r')) := by
  have hm := H.at_ (List.mem_of_getElem? hi) (b := l) rfl
  exact H.turn hi rfl rfl ⟨rfl, rfl, rfl, by simp⟩ (fun k hk => World.putObj_heap_other hk) (World.putObj_heap_same hm.1)
theorem Own.push (H : Own B L w) {e : Ent} {o : Obj} (hb : e.blk = some w.heap.size) (ho : e.ok (some o)) : Own B (e :: L) (w.alloc o) := by
  have hbw : Below w.heap.size w (w.alloc o) := ⟨rfl, rfl, rfl, by show w.heap.size ≤ (w.heap.push o).size; simp, fun k hk => by
    show (w.heap.push o)[k]? = _
    rw [Array.getElem?_push]; simp [Nat.ne_of_lt hk]⟩
  refine H.below_add hbw ?_
  rw [hb]
  refine ⟨Nat.le_refl _, by show w.heap.size < (w.heap.push o).size; simp, ?_⟩
  rw [World.alloc_heap_new]; exact ho

/-- Code walked in a round's frame. -/
def CI (P : Program) (Q : Exit → Act → World → Prop) (n l : Nat) (c : Code) (ρ : Env) (w : World) : Prop := ∀ a, Rel n [] ρ a → c.wpIn (Fence.wide.inRound l) 0 P Q a w
variable {l : Nat}
theorem ci_seq {x y : Code} (h : CI P (Exit.then (fun a w => y.wpIn (Fence.wide.inRound l) 0 P Q a w) Q) n l x ρ w) : CI P Q n l (.seq x y) ρ w := fun a ha => wpIn_seq (h a ha)
theorem qe_thenI {y : Code} (h : CI P Q n l y ρ w) : QE (Exit.then (fun a w => y.wpIn (Fence.wide.inRound l) 0 P Q a w) Q) n [] .normal ρ w := h
theorem ci_cond {x y : Code} {c : Operand} {b : Bool} (hc : ev ρ c = some (.bool b)) (h1 : b = true → CI P Q n l x ρ w) (h0 : b = false → CI P Q n l y ρ w) : CI P Q n l (.cond c x y) ρ w := fun a ha => by
  cases b
  · exact wpIn_cond (ha.eval hc) (h0 rfl a ha)
  · exact wpIn_cond (ha.eval hc) (h1 rfl a ha)
theorem ci_condT {x y : Code} {c : Operand} (hc : ev ρ c = some (.bool true)) (h1 : CI P Q n l x ρ w) : CI P Q n l (.cond c x y) ρ w := ci_cond hc (fun _ => h1) (fun h => by cases h)
theorem ci_condF {x y : Code} {c : Operand} (hc : ev ρ c = some (.bool false)) (h1 : CI P Q n l y ρ w) : CI P Q n l (.cond c x y) ρ w := ci_cond hc (fun h => by cases h) (fun _ => h1)
theorem ci_skip (h : QE Q n [] .normal ρ w) : CI P Q n l .skip ρ w := fun a ha => wpIn_skip (h a ha)
theorem ci_block {id : Nat} {c : Code} (h : CI P (Exit.inBlock id Q) n l c ρ w) : CI P Q n l (.block id c) ρ w := fun a ha => wpIn_block (h a ha)
theorem ci_exit {id : Nat} (h : QE Q n [] (.exit id) ρ w) : CI P Q n l (.exit id) ρ w := fun a ha => wpIn_exit (h a ha)
theorem ci_text {id : Nat} {tab : List Nat} {soft : Nat} (ord : OT) (ho : ord.lin = List.range ops.size) (hst : ord.straight = true) (hdef : noDefer ops = true) (h : RE P ops tab soft false Q n [] ord [] ρ w) : CI P Q n l (.region id ops false) ρ w := fun a ha => by
  refine wpIn_region ?_
  rw [← ho]
  have := ops_in (F := Fence.wide.inRound l) (m := 0) (post := []) (fun _ => trivial) rfl (fun m f args w R h => callsIn_round h) (fun m row args w R h => rowsIn_round h) hdef ord hst [] a w (nilp (h a ha))
  simpa using this
where
  nilp {tab : List Nat} {soft : Nat} {ord : OT} {pend : List Pend} {a : Act} {w : World} {F : Fence} (h : Rg P ops tab soft false Q ord pend a w) : Rg P ops tab soft false (Exit.then (wpOpsIn F 0 P ops Q []) Q) ord pend a w := by
    have : (Exit.then (wpOpsIn F 0 P ops Q []) Q) = Q := by
      funext e a w
      cases e <;> rfl
    rw [this]; exact h

/-- What follows the assignments of a round: the record turns busy; the body. -/
def Began (P : Program) (l : Nat) (body : Code) (R : Ending → World → Prop) : Exit → Act → World → Prop :=
  Exit.then (fun a₁ w₁ => ∃ w₂, (Instr.beginRound l).run P w₁ = .ok () w₂ ∧ body.wpIn (Fence.wide.inRound l) 0 P (roundPost P l R) a₁ w₂) (fun _ _ _ => False)
theorem qe_begin {body : Code} {R : Ending → World → Prop} {r : Loop} {i : Nat} (H : Own B L w) (hi : L[i]? = some (.loop l r)) (hr : r.state = .ready)
    (k : ∀ w', Own B (L.set i (.loop l { r with state := .busy })) w' → CI P (roundPost P l R) n l body ρ w') : QE (Began P l body R) n [] .normal ρ w := fun a ha =>
  ⟨_, run_beginRound (H.loopAt (List.mem_of_getElem? hi)) hr, k _ (H.putLoop hi) a ha⟩
/-- The record as it was laid: ready for a round. -/
structure FreshLoop (r : Loop) (a : Act) (ps : Array Tmp) (assign body : Code) : Prop where
  state : r.state = .ready
  pending : r.pending = none
  tmps : r.tmps = a.tmps
  params : r.params = ps
  assign : r.assign = assign
  body : r.body = body
theorem qe_endRound {R : Ending → World → Prop} {r : Loop} {i : Nat} {a0 : Act} {ps : Array Tmp} {assign body : Code} (hr : FreshLoop r a0 ps assign body) (H : Own B L w) (hi : L[i]? = some (.loop l { r with state := .busy }))
    (k : ∀ w', Own B (L.set i (.loop l r)) w' → R (.returned (.bool true)) w') : QE (roundPost P l R) n [] .normal ρ w := fun a ha => by
  have e : ({ { r with state := LoopState.busy } with state := if (none : Option Code).isNone = true then .ready else .done, pending := none } : Loop) = r := by
    obtain ⟨h1, h2, _, _, _, _⟩ := hr
    cases r
    simp only at h1 h2
    subst h1
    subst h2
    rfl
  have h1 := run_endRound (P := P) none (H.loopAt (List.mem_of_getElem? hi))
  rw [e] at h1
  exact ⟨_, _, h1, k _ (H.putLoop hi)⟩
/-- A round, two loop variables. -/
theorem round_of2 {R : Ending → World → Prop} {r : Loop} {t u : Tmp} {v x : Value} {ds : List Deferred} {a0 : Act} {assign body : Code} (hr : FreshLoop r a0 #[t, u] assign body) (H : Own B L w) {i : Nat} (hi : L[i]? = some (.loop l r)) (ha : Rel n ds ρ a0) (h1 : Nat.blt t n = true) (h2 : Nat.blt u n = true)
    (k : CI P (Began P l body R) n l assign ((u, x) :: (t, v) :: ρ) w) : Round P l #[v, x] w R := by
  have hm := List.mem_of_getElem? hi
  obtain ⟨_, _, ht, hp, ha1, hb1⟩ := hr
  rw [← ha1, ← hb1] at k
  refine ⟨r, H.loopAt hm, by simp [hp], roundIn_of_wpIn trivial (k _ ?_)⟩
  have ha' : Rel n [] ρ { tmps := r.tmps, defers := [] } := ⟨by rw [ht]; exact ha.size, rfl, fun t v h => by rw [ht]; exact ha.get t v h⟩
  have := (ha'.put (dst := some t) h1 v).put (dst := some u) h2 x
  rw [hp]
  simpa [putE, Act.put] using this

/-- The statement. -/
theorem ce_rangeFunc {g : Operand} {ps : Array Tmp} {assign body : Code} {f : FuncId} {cap : List Value} (H : Own B L w) (hf : Enterable P f) (hg : ev ρ g = some (.func (.func f) #[] cap.toArray))
    (k : ∀ (a : Act) (l b : Nat) (r : Loop) (w2 : World), Rel n ds ρ a → FreshLoop r a ps assign body → Own B (.loop l r :: .deferred b (some []) :: L) w2 →
      Calls P f (.func (.yield l) #[] #[] :: cap).toArray w2 fun e w3 => ∃ v i L3, e = .returned v ∧ Own B L3 w3 ∧ L3[i]? = some (.loop l r) ∧
        ∀ w4, Own B (L3.set i (.loop l { r with state := .exhausted })) w4 → QE Q n ({ target := .collected b, args := #[] } :: ds) .normal ρ w4) :
    CE P Q n ds (.rangeFunc g ps assign body) ρ w := fun a ha => (wpIn_wide (n := 0)).1 (wpIn_rangeFunc fun fn _ => by
  have h1 : Own B (.loop (w.heap.size + 1) { state := .ready, pending := none, fn := fn, tmps := a.tmps, params := ps, assign := assign, body := body, defers := w.heap.size } :: .deferred w.heap.size (some []) :: L)
      ((w.alloc (.deferred (some []))).alloc (.loop { state := .ready, pending := none, fn := fn, tmps := a.tmps, params := ps, assign := assign, body := body, defers := w.heap.size })) :=
    Own.push (Own.push H (e := .deferred w.heap.size (some [])) rfl rfl) (by simp [Ent.loop, World.size_alloc]) rfl
  have hent := run_enterLoop_outer (P := P) (w := w) fn a.tmps ps assign body
  generalize hW : ((w.alloc (.deferred (some []))).alloc (.loop { state := .ready, pending := none, fn := fn, tmps := a.tmps, params := ps, assign := assign, body := body, defers := w.heap.size })) = W at h1 hent
  have hk := k a _ _ _ _ ha ⟨rfl, rfl, rfl, rfl, rfl, rfl⟩ h1
  refine ⟨w.heap.size + 1, [{ target := .collected w.heap.size, args := #[] }], W, { target := .fn (.func f) cap.toArray, args := #[.func (.yield (w.heap.size + 1)) #[] #[]] }, W, f, (.func (.yield (w.heap.size + 1)) #[] #[] :: cap).toArray, W, hent, ?_, fun _ _ => trivial, ?_, fun h => (by cases h), ?_⟩
  · have hargs : (#[Operand.const (.func (.yield (w.heap.size + 1)) #[] #[])]).map a.eval = #[.func (.yield (w.heap.size + 1)) #[] #[]] := by simp [Act.eval]
    simp only [resolve, rangeCall, ha.eval hg, Deferred.ofValue, Sem.run_pure, hargs]
    simp
  · have e1 : (#[Value.func (.yield (w.heap.size + 1)) #[] #[]] ++ cap.toArray) = (.func (.yield (w.heap.size + 1)) #[] #[] :: cap).toArray := by simp
    simp only [invoke, e1]
    exact run_callFunc hf _ _
  · refine (callsIn_wide (n := 0 - 1)).2 (Calls.mono hk fun e w3 he => ?_)
    obtain ⟨v, i, L3, rfl, H3, hi, hq⟩ := he
    have hel := run_endLoop (P := P) (H3.loopAt (List.mem_of_getElem? hi)) (by simp)
    have hq' := hq _ (H3.putLoop hi) { tmps := a.tmps, defers := [{ target := .collected w.heap.size, args := #[] }] ++ a.defers } ⟨ha.size, by simp [ha.defers], fun t v h => ha.get t v h⟩
    exact ⟨none, _, hel, hq'⟩)

/-- A function that holds such a statement. -/
theorem calls_ceM {f : FuncId} {fn : Func} {c : Code} {args : List Value} {R : Ending → World → Prop} (hf : P.funcs[f]? = some fn) (hb : fn.body = some c) (hn : Nat.ble args.length fn.ntmps = true)
    (h : CE P (bodyPostM Fence.wide 0 P fn R) fn.ntmps [] c (argEnv 0 args) w) : Calls P f args.toArray w R := by
  have hle : args.length ≤ fn.ntmps := by simpa using hn
  refine (callsIn_wide (n := 0)).1 (callsIn_of_wp_marks hf hb trivial ((wpIn_wide (n := 0)).2 (h _ ⟨by simp; omega, rfl, fun t v hv => ?_⟩)))
  obtain ⟨_, h2⟩ := look_argEnv args 0 t v hv
  have hlt : t < args.length := by
    have := (List.getElem?_eq_some_iff.1 h2).1
    simpa using this
  simp only [Array.getElem?_append]
  rw [if_pos (by simpa using hlt)]
  simpa using h2
theorem qe_endM {fn : Func} {R : Ending → World → Prop} {t : Tmp} {v : Value} {b i : Nat} (hf : fn.results = #[.tmp t]) (hv : look ρ t = some v) (H : Own B L w) (hi : L[i]? = some (.deferred b (some [])))
    (h : ∀ w', Own B (L.set i (.deferred b none)) w' → R (.returned v) w') : QE (bodyPostM Fence.wide 0 P fn R) n [{ target := .collected b, args := #[] }] .ret ρ w := fun a ha => by
  show LeavesInM _ _ _ _ _ _ _ _ _
  rw [ha.defers]
  refine ⟨by simp, .inl ⟨b, _, rfl, run_takeDeferred (H.at_ (List.mem_of_getElem? hi) rfl).2.2, v, ?_, h _ (H.putDef hi)⟩⟩
  have h1 := ha.get t v hv
  rw [results_tmp hf]
  simp [h1]
end
end Go.Fw

/- More steps: slice expressions, copies of nothing, bytes of length 0 as a string. No program in sight. -/
namespace Go.Fw
open Go Go.RowKit

section
variable {P : Program} {ops : Array Oper} {tab : List Nat} {soft : Nat} {d : Bool} {Q : Exit → Act → World → Prop} {n : Nat} {ds : List Deferred}
variable {rest : OT} {pend : List Pend} {ρ : Env} {w : World} {i : Nat} {t : Tmp} {ty : TypeId} {pos : String} {aft : Array Edge} {g : Option (Nat × Bool)}

theorem elem_of {st e : TypeId} (hu : P.underlying st = some (.slice e)) : P.underlying st = some (.slice (P.elem st)) := by
  have : P.elem st = e := by simp [Program.elem, hu]
  rw [this]; exact hu

/-- 'x[:h]' -/
theorem re_sliceH {st e : TypeId} {size bytes : Nat} {x y : Operand} {a : Option Addr} {m c : Nat} {kd : IntKind} {h : Int} (ho : ops[i]? = some ⟨some t, .slice st x none (some y) none, ty, pos, aft, g⟩) (hw : wantE ops ρ ⟨some t, .slice st x none (some y) none, ty, pos, aft, g⟩ = some true) (hs : isSoft soft i = true) (hd : Nat.blt t n = true)
    (hx : ev ρ x = some (.slice a m c)) (hy : ev ρ y = some (.int kd h)) (hu : P.underlying st = some (.slice e)) (he : elemInfo P st = some (e, size, bytes)) (h0 : 0 ≤ h) (h1 : h ≤ c)
    (k : RE P ops tab soft d Q n ds rest pend ((t, .slice a h.toNat c) :: ρ) w) : RE P ops tab soft d Q n ds (.op i rest) pend ρ w :=
  re_soft (s := Instr.sliceAt st (.slice a m c) none (some (.int kd h)) none) ho hw hs hd (fun b ha => by simp only [execOp, ha.eval hx, Option.map_none, Option.map_some, ha.eval hy]; rfl) (fun w => by
    have hue := elem_of hu
    obtain ⟨inf, hinf, hsize⟩ : ∃ inf, P.info? (P.elem st) = some inf ∧ inf.size = size := by
      have h2 : P.elem st = e := by simp [Program.elem, hu]
      simp only [elemInfo, hu, Option.map_eq_some_iff, Prod.mk.injEq] at he
      obtain ⟨i, h1, _, h3, _⟩ := he
      exact ⟨i, by rw [h2]; exact h1, h3⟩
    have hsz : (sizeOf (P.elem st)).run P w = .ok size w := by simp [sizeOf, typeInfo, hinf, hsize]
    rw [run_sliceAt_slice w st _ _ _ _ hue, run_slice_h w st a m c hue kd h h0 h1, hsz]
    have hadd : ∀ b : Addr, b.add 0 = b := fun b => by simp [Addr.add]
    simp only [Result.andThen_ok, sliced, Nat.zero_mul, Nat.sub_zero]
    cases a with
    | none => simp
    | some b => simp [hadd]) k

/-- copy, where the source is nil. -/
theorem re_copyNil {dT sT e : TypeId} {size bytes : Nat} {x y : Operand} {ad : Addr} {m c : Nat} (ho : ops[i]? = some ⟨some t, .call { callee := .builtin .copy, args := #[x, y], argTypes := #[dT, sT] }, ty, pos, aft, g⟩) (hw : wantE ops ρ ⟨some t, .call { callee := .builtin .copy, args := #[x, y], argTypes := #[dT, sT] }, ty, pos, aft, g⟩ = some true) (hs : isSoft soft i = false) (hd : Nat.blt t n = true)
    (hx : ev ρ x = some (.slice (some ad) m c)) (hy : ev ρ y = some (.slice none 0 0)) (hu : P.underlying dT = some (.slice e)) (he : elemInfo P dT = some (e, size, bytes))
    (k : (d = true → Still P tab i w pend) ∧ RE P ops tab soft d Q n ds rest pend ((t, .int .i64 0) :: ρ) w) : RE P ops tab soft d Q n ds (.op i rest) pend ρ w :=
  re_effv (s := Builtin.copy_ #[dT, sT] ty #[.slice (some ad) m c, .slice none 0 0]) (w' := w) (v := .int .i64 0) ho hw hs hd (fun a' ha => by
    simp only [execOp, resolve, invoke, builtin, List.map_toArray, List.map_cons, List.map_nil, ha.eval hx, ha.eval hy]; rfl) (by
    have hsz : ((P.info? e).map (·.size)).isSome = true := by
      simp only [elemInfo, hu, Option.map_eq_some_iff, Prod.mk.injEq] at he
      obtain ⟨i, h1, _⟩ := he
      simp [h1]
    exact run_copy_nil P w dT sT ty e ad m c hu hsz) k

/-- 'string(b)', b of length 0. -/
theorem re_conv0 {src dst e : TypeId} {x : Operand} {a : Option Addr} {c : Nat} (ho : ops[i]? = some ⟨some t, .convert src dst x, ty, pos, aft, g⟩) (hw : wantE ops ρ ⟨some t, .convert src dst x, ty, pos, aft, g⟩ = some true) (hs : isSoft soft i = true) (hd : Nat.blt t n = true)
    (hx : ev ρ x = some (.slice a 0 c)) (h1 : P.underlying src = some (.slice e)) (h2 : P.underlying e = some (.int .u8)) (h3 : P.underlying dst = some .string)
    (k : RE P ops tab soft d Q n ds rest pend ((t, .string ByteArray.empty) :: ρ) w) : RE P ops tab soft d Q n ds (.op i rest) pend ρ w :=
  re_soft (s := convert src dst (.slice a 0 c)) ho hw hs hd (fun b ha => by simp only [execOp, ha.eval hx]; rfl) (fun w => by
    rw [run_convert_bytes_string w src dst e a 0 c h1 h2 h3]
    cases a with
    | none => simp [Conv.bytesToString]
    | some ad => exact run_bytesToString w ad 0 c [] (by simp [loadCells, loadCellsFrom])) k
end
end Go.Fw

namespace Go.Proofs.Ytofaoblfemfkiaa
open Go Go.RowKit Go.Fw
set_option linter.unusedSimpArgs false
set_option linter.unusedVariables false
set_option maxRecDepth 4000
set_option maxHeartbeats 2000000
theorem mixed : Try.prog.follows .mixedOrders = true := by kernel_rfl
theorem sh_3 : shapeOf Try.prog 3 = some (false, 1) := by kernel_rfl
theorem sh_4 : shapeOf Try.prog 4 = some (false, 1) := by kernel_rfl
end Go.Proofs.Ytofaoblfemfkiaa

namespace Go.Proofs.Ytofaoblfemfkiaa
open Go Go.RowKit Go.Fw
set_option linter.unusedSimpArgs false
set_option linter.unusedVariables false
set_option maxRecDepth 4000
set_option maxHeartbeats 2000000
abbrev ints (xs : List Int) : List Value := xs.map (Value.int .i64)
structure Cmd where
  (kind client op : Int)
  name : ByteArray
  (f0 f1 n0 n1 size : Int)
def Cmd.cells (c : Cmd) : List Value := [.int .i64 c.kind, .int .i64 c.client, .int .i64 c.op, .string c.name, .int .i64 c.f0, .int .i64 c.f1, .int .i64 c.n0, .int .i64 c.n1, .int .i64 c.size]
structure Sl where
  a : Option Addr
  (n c : Nat)
abbrev Sl.v (s : Sl) : Value := .slice s.a s.n s.c
structure GM where
  kind : Int
  fc : Bool
  fi : Int
  tc : Bool
  (ti op rnd k0 k1 k2 k3 s0 s1 h0 h1 : Int)
  blk : Sl
  cmd : Cmd
  upto : Int
  (ents lasts cmds : Sl)
  more : Bool
def GM.cells (m : GM) : List Value := [.int .i64 m.kind, .bool m.fc, .int .i64 m.fi, .bool m.tc, .int .i64 m.ti, .int .i64 m.op, .int .i64 m.rnd, .int .i64 m.k0, .int .i64 m.k1, .int .i64 m.k2, .int .i64 m.k3, .int .i64 m.s0, .int .i64 m.s1, .int .i64 m.h0, .int .i64 m.h1, m.blk.v] ++ m.cmd.cells ++ [.int .i64 m.upto, m.ents.v, m.lasts.v, m.cmds.v, .bool m.more]
/-- The proposer's struct. -/
structure PS where
  (cl op kk ka kb kc : Int)
  ga : Option Nat
  gc : Nat
  gs : List Int
  mine : Cmd
  (bal rnd nt : Int)
  rf : Bool
  (hd ph dc tm : Value)
  wn : Bool
def PS.cells (p : PS) : List Value := [.int .i64 p.cl, .int .i64 p.op, .int .i64 p.kk, .int .i64 p.ka, .int .i64 p.kb, .int .i64 p.kc, slv p.ga p.gs.length p.gc] ++ p.mine.cells ++ [.int .i64 p.bal, .int .i64 p.rnd, .int .i64 p.nt, .bool p.rf, p.hd, p.ph, p.dc, p.tm, .bool p.wn]
/-- A message as the proposer sends it to a server. -/
def GM.sent (m : GM) (p : PS) (to : Int) : GM := { m with fc := true, fi := p.cl, tc := false, ti := to, op := p.op, rnd := p.rnd, k0 := p.kk, k1 := p.ka, k2 := p.kb, k3 := p.kc }

/-- Where v stands; -1: nowhere. -/
def idxGo (v : Int) : List Int → Nat → Int
  | [], _ => -1
  | x :: r, i => if v = x then (i : Int) else idxGo v r (i + 1)
def idxOf (v : Int) (xs : List Int) : Int := idxGo v xs 0
theorem idxGo_found : ∀ (xs : List Int) (i k : Nat) (v : Int) (h : k < xs.length), xs[k] = v → (∀ j, j < k → xs[j]? ≠ some v) → idxGo v xs i = ((i + k : Nat) : Int)
  | [], _, _, _, h, _, _ => by simp at h
  | x :: r, i, 0, v, _, h, _ => by simp at h; simp [idxGo, h]
  | x :: r, i, k + 1, v, hl, h, hn => by
    have h0 : v ≠ x := fun e => hn 0 (by omega) (by simp [e])
    simp only [idxGo, h0, if_false]
    rw [idxGo_found r (i + 1) k v (by simpa using hl) (by simpa using h) (fun j hj => by have := hn (j + 1) (by omega); simpa using this)]
    congr 1; omega
theorem idxGo_none : ∀ (xs : List Int) (i : Nat) (v : Int), (∀ j, j < xs.length → xs[j]? ≠ some v) → idxGo v xs i = -1
  | [], _, _, _ => rfl
  | x :: r, i, v, hn => by
    have h0 : v ≠ x := fun e => hn 0 (by simp) (by simp [e])
    simp only [idxGo, h0, if_false]
    exact idxGo_none r (i + 1) v (fun j hj => by have := hn (j + 1) (by simpa using hj); simpa using this)
theorem idxOf_found {xs : List Int} {k : Nat} {v : Int} (h : k < xs.length) (hv : xs[k] = v) (hn : ∀ j, j < k → xs[j]? ≠ some v) : idxOf v xs = (k : Int) := by
  have := idxGo_found xs 0 k v h hv hn
  simpa [idxOf] using this
theorem idxOf_none {xs : List Int} {v : Int} (hn : ∀ j, j < xs.length → xs[j]? ≠ some v) : idxOf v xs = -1 := idxGo_none xs 0 v hn
theorem idxGo_mem : ∀ (xs : List Int) (i : Nat) (v : Int), decide (0 ≤ idxGo v xs i) = decide (v ∈ xs)
  | [], _, _ => rfl
  | x :: r, i, v => by
    by_cases h : v = x
    · simp [idxGo, h]
    · simp only [idxGo, h, if_false]
      rw [idxGo_mem r (i + 1) v]
      simp [h]
theorem idxOf_mem {xs : List Int} {v : Int} : decide (0 ≤ idxOf v xs) = decide (v ∈ xs) := idxGo_mem xs 0 v

/-- The unlike ones of a list, in their order. -/
def ulStep (acc : List Int) (x : Int) : List Int := if x ∈ acc then acc else acc ++ [x]
def unlike (xs : List Int) : List Int := xs.foldl ulStep []
theorem unlike_snoc (xs : List Int) (x : Int) : unlike (xs ++ [x]) = if x ∈ unlike xs then unlike xs else unlike xs ++ [x] := by
  unfold unlike
  rw [List.foldl_append]
  rfl
theorem unlike_new {xs : List Int} {k : Nat} (h : k < xs.length) (hn : xs[k] ∉ unlike (xs.take k)) : unlike (xs.take (k + 1)) = unlike (xs.take k) ++ [xs[k]] := by
  rw [List.take_succ_eq_append_getElem h, unlike_snoc, if_neg hn]
theorem unlike_old {xs : List Int} {k : Nat} (h : k < xs.length) (hn : xs[k] ∈ unlike (xs.take k)) : unlike (xs.take (k + 1)) = unlike (xs.take k) := by
  rw [List.take_succ_eq_append_getElem h, unlike_snoc, if_pos hn]
theorem unlike_length (xs : List Int) : (unlike xs).length ≤ xs.length := by
  have gen : ∀ (xs acc : List Int), (xs.foldl ulStep acc).length ≤ acc.length + xs.length := by
    intro xs
    induction xs with
    | nil => intro acc; simp
    | cons x xs ih =>
      intro acc
      simp only [List.foldl_cons, List.length_cons]
      refine Nat.le_trans (ih _) ?_
      unfold ulStep
      split
      · omega
      · simp; omega
  have := gen xs []
  simpa [unlike] using this

/-- Those of the group who have not answered. -/
def missing (gs : List Int) (kvs : List (Int × Value)) : List Int := gs.filter fun x => (kvGet kvs x).isNone
theorem missing_length (gs : List Int) (kvs : List (Int × Value)) : (missing gs kvs).length ≤ gs.length := List.length_filter_le _ _
theorem missing_new {gs : List Int} {kvs : List (Int × Value)} {k : Nat} (h : k < gs.length) (hn : (kvGet kvs gs[k]).isSome = false) : missing (gs.take (k + 1)) kvs = missing (gs.take k) kvs ++ [gs[k]] := by
  unfold missing
  rw [List.take_succ_eq_append_getElem h, List.filter_append]
  simp at hn
  simp [hn]
theorem missing_old {gs : List Int} {kvs : List (Int × Value)} {k : Nat} (h : k < gs.length) (hn : (kvGet kvs gs[k]).isSome = true) : missing (gs.take (k + 1)) kvs = missing (gs.take k) kvs := by
  unfold missing
  rw [List.take_succ_eq_append_getElem h, List.filter_append]
  have : (kvGet kvs gs[k]).isNone = false := by cases h : kvGet kvs gs[k] <;> simp [h] at hn ⊢
  simp [this]
/-- Does the answer count; the answers behind it. -/
def counts (gs : List Int) (need : Int) (kvs : List (Int × Value)) (v : Int) : Bool := (kvGet kvs v).isNone && decide ((kvs.length : Int) < need) && decide (v ∈ gs)
def takeK (gs : List Int) (need : Int) (kvs : List (Int × Value)) (v : Int) (x : Value) : List (Int × Value) := if counts gs need kvs v then kvs ++ [(v, x)] else kvs
def takes (gs : List Int) (need : Int) (kvs : List (Int × Value)) (v : Int) (x : Value) : Bool := counts gs need kvs v && decide (need ≤ ((takeK gs need kvs v x).length : Int))

theorem kvPut_new : ∀ (kvs : List (Int × Value)) (k : Int) (v : Value), (kvGet kvs k).isSome = false → kvPut kvs k v = kvs ++ [(k, v)]
  | [], _, _, _ => rfl
  | (j, u) :: r, k, v, h => by
    simp only [kvGet] at h
    simp only [kvPut]
    by_cases hk : k = j
    · simp [hk] at h
    · simp only [hk, if_false] at h ⊢
      rw [kvPut_new r k v h]
      rfl

section
variable {gs : List Int} {need : Int} {kvs : List (Int × Value)} {v : Int} {x : Value}
theorem counts_no1 (h : (kvGet kvs v).isSome = true) : counts gs need kvs v = false := by
  have : (kvGet kvs v).isNone = false := by cases hk : kvGet kvs v <;> simp [hk] at h ⊢
  simp [counts, this]
theorem counts_no2 (h : decide (need ≤ (kvs.length : Int)) = true) : counts gs need kvs v = false := by
  have h1 : need ≤ (kvs.length : Int) := of_decide_eq_true h
  have : decide ((kvs.length : Int) < need) = false := by simp; omega
  simp [counts, this]
theorem counts_no3 (h : v ∉ gs) : counts gs need kvs v = false := by simp [counts, h]
theorem counts_yes (h1 : (kvGet kvs v).isSome = false) (h2 : decide (need ≤ (kvs.length : Int)) = false) (h3 : v ∈ gs) : counts gs need kvs v = true := by
  have q1 : (kvGet kvs v).isNone = true := by cases hk : kvGet kvs v <;> simp [hk] at h1 ⊢
  have q2 : ¬ need ≤ (kvs.length : Int) := of_decide_eq_false h2
  have q3 : decide ((kvs.length : Int) < need) = true := by simp; omega
  simp [counts, q1, q3, h3]
theorem takeK_no (h : counts gs need kvs v = false) : takeK gs need kvs v x = kvs := by simp [takeK, h]
theorem takes_no (h : counts gs need kvs v = false) : takes gs need kvs v x = false := by simp [takes, h]
theorem takeK_yes (h : counts gs need kvs v = true) : takeK gs need kvs v x = kvPut kvs v x := by
  have h1 : (kvGet kvs v).isSome = false := by
    cases hk : kvGet kvs v with
    | none => rfl
    | some _ => simp [counts, hk] at h
  simp [takeK, h, kvPut_new kvs v x h1]
theorem takes_yes (h : counts gs need kvs v = true) : takes gs need kvs v x = decide (need ≤ ((kvPut kvs v x).length : Int)) := by
  rw [takes, takeK_yes h, h, Bool.true_and]
end

/-- Messages by server, as they lie in a map. -/
def kvM (ms : List (Int × GM)) : List (Int × Value) := ms.map fun x => (x.1, .agg x.2.cells.toArray)
def Cmd.zero : Cmd := ⟨0, 0, 0, ByteArray.empty, 0, 0, 0, 0, 0⟩
def GM.zero : GM := ⟨0, false, 0, false, 0, 0, 0, 0, 0, 0, 0, 0, 0, 0, 0, ⟨none, 0, 0⟩, Cmd.zero, 0, ⟨none, 0, 0⟩, ⟨none, 0, 0⟩, ⟨none, 0, 0⟩, false⟩
theorem kvM_get (ms : List (Int × GM)) (v : Int) : ∃ mm : GM, (kvGet (kvM ms) v).getD (.agg #[.int .i64 0, .bool false, .int .i64 0, .bool false, .int .i64 0, .int .i64 0, .int .i64 0, .int .i64 0, .int .i64 0, .int .i64 0, .int .i64 0, .int .i64 0, .int .i64 0, .int .i64 0, .int .i64 0, .slice none 0 0, .int .i64 0, .int .i64 0, .int .i64 0, .string ByteArray.empty, .int .i64 0, .int .i64 0, .int .i64 0, .int .i64 0, .int .i64 0, .int .i64 0, .slice none 0 0, .slice none 0 0, .slice none 0 0, .bool false]) = .agg mm.cells.toArray := by
  induction ms with
  | nil => exact ⟨GM.zero, rfl⟩
  | cons x r ih =>
    obtain ⟨s, m⟩ := x
    simp only [kvM, List.map_cons, kvGet]
    by_cases h : v = s
    · exact ⟨m, by simp [h]⟩
    · simp only [h, if_false]; exact ih

/-- Is the message for the proposer? -/
def PS.wants (p : PS) (m : GM) : Bool := !m.fc && decide (m.fi ∈ p.gs) && (decide (m.tc = true) && (decide (m.ti = p.cl) && true)) && decide (m.op = p.op) && decide (m.rnd = p.rnd) && (decide (m.k0 = p.kk) && (decide (m.k1 = p.ka) && (decide (m.k2 = p.kb) && (decide (m.k3 = p.kc) && true))))
def msgs (l : List GM) : List Value := l.flatMap GM.cells
def GM.prepare (bal cl : Int) : GM := { GM.zero with kind := 3, s0 := bal, s1 := cl }
def GM.accept (bal cl : Int) (c : Cmd) : GM := { GM.zero with kind := 4, s0 := bal, s1 := cl, cmd := c }
/-- Who has been heard in this round. -/
def heardK (hs : List Int) : List (Int × Value) := hs.map fun x => (x, .bool true)
def PS.fresh (p : PS) (hs : List Int) (v : Int) : Bool := decide (v ∈ missing p.gs (heardK hs))
theorem takeK_heard {gs : List Int} {hs : List Int} {v : Int} (hm : v ∈ missing gs (heardK hs)) (hl : (hs.length : Int) < gs.length + 1) : takeK gs (gs.length + 1) (heardK hs) v (.bool true) = heardK (hs ++ [v]) := by
  simp only [missing, List.mem_filter] at hm
  have : counts gs (gs.length + 1) (heardK hs) v = true := by
    have h2 : decide (((heardK hs).length : Int) < (gs.length : Int) + 1) = true := by simpa [heardK] using hl
    simp only [counts, hm.2, h2, Bool.true_and, decide_eq_true_eq]
    exact hm.1
  rw [takeK, if_pos this]; simp [heardK]
def PS.over (p : PS) : PS := { p with ph := .iface 97 (.agg #[]) }
def PS.enter (p : PS) (v : Value) (t : Nat) : PS := { p with ph := v, rf := false, hd := .pointer (some ⟨t, 0, none⟩) }
def phP (q : Nat) : Value := .iface 131 (.agg #[.pointer (some ⟨q, 0, none⟩)])
def phA (q : Nat) (c : Cmd) : Value := .iface 137 (.agg (.pointer (some ⟨q, 0, none⟩) :: c.cells).toArray)
def PS.outP (p : PS) (xs : List Int) : List GM := xs.map ((GM.prepare p.bal p.cl).sent p)
def PS.outA (p : PS) (c : Cmd) (xs : List Int) : List GM := xs.map ((GM.accept p.bal p.cl c).sent p)
def stampLess (a0 a1 b0 b1 : Int) : Bool := decide (a0 < b0) || (decide (a0 = b0) && decide (a1 < b1))
def PS.raise (p : PS) : PS := { p with bal := max p.bal p.nt + 1, rnd := p.rnd + 1 }
/-- The state behind New. -/
def PS.new (cl op kk ka kb kc : Int) (mine : Cmd) (bal rnd : Int) (a : Option Nat) (c : Nat) (gs : List Int) : PS := ⟨cl, op, kk, ka, kb, kc, a, c, gs, mine, bal, rnd, bal, false, .pointer none, .iface 73 (.agg #[]), .pointer none, .pointer none, false⟩
theorem missing_nil (gs : List Int) : missing gs [] = gs := by simp [missing, kvGet]
def msGet : List (Int × GM) → Int → Option GM
  | [], _ => none
  | (j, v) :: r, k => if k = j then some v else msGet r k
theorem kvGet_kvM : ∀ (ms : List (Int × GM)) (v : Int), kvGet (kvM ms) v = (msGet ms v).map fun m => .agg m.cells.toArray
  | [], _ => rfl
  | (j, m) :: r, v => by
    simp only [kvM, List.map_cons, kvGet, msGet]
    by_cases h : v = j
    · simp [h]
    · simp only [h, if_false]; exact kvGet_kvM r v
theorem kvM_look (ms : List (Int × GM)) (v : Int) : (kvGet (kvM ms) v).getD (.agg #[.int .i64 0, .bool false, .int .i64 0, .bool false, .int .i64 0, .int .i64 0, .int .i64 0, .int .i64 0, .int .i64 0, .int .i64 0, .int .i64 0, .int .i64 0, .int .i64 0, .int .i64 0, .int .i64 0, .slice none 0 0, .int .i64 0, .int .i64 0, .int .i64 0, .string ByteArray.empty, .int .i64 0, .int .i64 0, .int .i64 0, .int .i64 0, .int .i64 0, .int .i64 0, .slice none 0 0, .slice none 0 0, .slice none 0 0, .bool false]) = .agg ((msGet ms v).getD GM.zero).cells.toArray := by
  rw [kvGet_kvM]
  cases msGet ms v <;> rfl
/-- Those of the group who have answered, in the group's order, with their answers. -/
def gotL (gs : List Int) (ms : List (Int × GM)) : List (Int × GM) := gs.filterMap fun s => (msGet ms s).map fun m => (s, m)
theorem gotL_new {gs : List Int} {ms : List (Int × GM)} {k : Nat} (h : k < gs.length) (hn : (msGet ms gs[k]).isSome = true) : gotL (gs.take (k + 1)) ms = gotL (gs.take k) ms ++ [(gs[k], (msGet ms gs[k]).getD GM.zero)] := by
  unfold gotL
  rw [List.take_succ_eq_append_getElem h, List.filterMap_append]
  cases hm : msGet ms gs[k] with
  | none => rw [hm] at hn; cases hn
  | some m => simp [hm]
theorem gotL_old {gs : List Int} {ms : List (Int × GM)} {k : Nat} (h : k < gs.length) (hn : (msGet ms gs[k]).isSome = false) : gotL (gs.take (k + 1)) ms = gotL (gs.take k) ms := by
  unfold gotL
  rw [List.take_succ_eq_append_getElem h, List.filterMap_append]
  cases hm : msGet ms gs[k] with
  | none => simp [hm]
  | some m => rw [hm] at hn; cases hn
abbrev gotS (gs : List Int) (ms : List (Int × GM)) : List Int := (gotL gs ms).map (·.1)
abbrev gotM (gs : List Int) (ms : List (Int × GM)) : List GM := (gotL gs ms).map (·.2)
theorem gotL_length (gs : List Int) (ms : List (Int × GM)) : (gotL gs ms).length ≤ gs.length := List.length_filterMap_le _ _
/-- The best of some messages, by what they hold; the first of alike ones. -/
def bestOf : Option GM → List GM → Option GM
  | b, [] => b
  | none, m :: r => bestOf (some m) r
  | some b, m :: r => bestOf (some (if stampLess b.h0 b.h1 m.h0 m.h1 then m else b)) r
theorem msgs_length (l : List GM) : (msgs l).length = l.length * 30 := by
  induction l with
  | nil => rfl
  | cons m r ih =>
    have : m.cells.length = 30 := rfl
    simp only [msgs, List.flatMap_cons, List.length_append, List.length_cons] at ih ⊢
    omega
theorem msgs_snoc (l : List GM) (m : GM) : msgs (l ++ [m]) = msgs l ++ m.cells := by simp [msgs]
theorem msgs_drop : ∀ (l : List GM) (k : Nat) (h : k < l.length), ((msgs l).drop (k * 30)).take 30 = (l[k]).cells
  | [], _, h => by simp at h
  | m :: r, 0, _ => by
    have : m.cells.length = 30 := rfl
    simp [msgs, this]
  | m :: r, k + 1, h => by
    have hm : m.cells.length = 30 := rfl
    have := msgs_drop r k (by simpa using h)
    simp only [msgs, List.flatMap_cons, List.getElem_cons_succ] at this ⊢
    rw [List.drop_append, List.drop_eq_nil_of_le (by omega), List.nil_append, hm, show (k + 1) * 30 - 30 = k * 30 by omega]
    exact this
theorem Own.rmsg {B w : World} {L : List Ent} (H : Own B L w) {g c : Nat} {e : TypeId} {n : Nat} {ms : List GM} [h : InRow (some g) L c e 30 n (msgs ms)] {k : Nat} (hk : k < ms.length) :
    ∀ j u, (ms[k]).cells[j]? = some u → w.cell? ((((⟨g, 0, none⟩ : Addr)).add (((k : Nat) : Int).toNat * 30)).add j) = some u := by
  intro j u hu
  rw [Int.toNat_natCast, add_lit, add_lit, Nat.zero_add]
  refine H.row_cell h.mem ?_
  have hj : j < 30 := by
    have := (List.getElem?_eq_some_iff.1 hu).1
    exact this
  have hd := msgs_drop ms k hk
  rw [← hd, List.getElem?_take_of_lt hj, List.getElem?_drop] at hu
  exact hu
theorem bestOf_snoc : ∀ (l : List GM) (b : Option GM) (m : GM), bestOf b (l ++ [m]) = some (match bestOf b l with | none => m | some b => if stampLess b.h0 b.h1 m.h0 m.h1 then m else b)
  | [], none, _ => rfl
  | [], some _, _ => rfl
  | x :: r, none, m => bestOf_snoc r (some x) m
  | x :: r, some b, m => bestOf_snoc r _ m
theorem bestOf_some : ∀ (l : List GM) (b : GM), (bestOf (some b) l).isSome = true
  | [], _ => rfl
  | _ :: r, _ => bestOf_some r _
theorem bestOf_isSome {l : List GM} : (bestOf none l).isSome = decide (0 < l.length) := by
  cases l with
  | nil => rfl
  | cons m r =>
    show (bestOf (some m) r).isSome = _
    rw [bestOf_some]
    simp
def bestV (l : List GM) : GM := (bestOf none l).getD GM.zero
theorem bestV_new {l : List GM} {k : Nat} (h : k < l.length) (hb : k = 0 ∨ stampLess (bestV (l.take k)).h0 (bestV (l.take k)).h1 (l[k]).h0 (l[k]).h1 = true) : bestV (l.take (k + 1)) = l[k] := by
  unfold bestV
  rw [List.take_succ_eq_append_getElem h, bestOf_snoc]
  rcases hb with rfl | hb
  · rfl
  · cases hq : bestOf none (l.take k) with
    | none => rfl
    | some b => simp [bestV, hq] at hb; simp [hb]
theorem bestV_old {l : List GM} {k : Nat} (h : k < l.length) (h0 : k ≠ 0) (hb : stampLess (bestV (l.take k)).h0 (bestV (l.take k)).h1 (l[k]).h0 (l[k]).h1 = false) : bestV (l.take (k + 1)) = bestV (l.take k) := by
  have hs : (bestOf none (l.take k)).isSome = true := by rw [bestOf_isSome]; simp; omega
  unfold bestV at *
  rw [List.take_succ_eq_append_getElem h, bestOf_snoc]
  cases hq : bestOf none (l.take k) with
  | none => rw [hq] at hs; cases hs
  | some b => simp [hq] at hb; simp [hb]

end Go.Proofs.Ytofaoblfemfkiaa

namespace Go.Proofs.Ytofaoblfemfkiaa
open Go Go.RowKit Go.Fw
set_option linter.unusedSimpArgs false
set_option linter.unusedVariables false
set_option maxRecDepth 4000
set_option maxHeartbeats 2000000
theorem ei_31 : elemInfo Try.prog 31 = some (3, 1, 8) := by kernel_rfl
theorem en_75 : Enterable Try.prog 75 := ⟨Try.f75, Try.func75, rfl, by decide⟩
theorem ul_31 : Try.prog.underlying 31 = some (.slice 3) := by kernel_rfl

theorem index_s {B w : World} {F : List Ent} {sa : Option Addr} {sc : Nat} {xs : List Int} {v : Int} (hS : Sees B F sa xs.length 1 (ints xs)) (H : Own B F w) (hn : xs.length ≤ 1000000) :
    Calls Try.prog 75 #[.slice sa xs.length sc, .int .i64 v] w fun e w' => e = .returned (.int .i64 (idxOf v xs)) ∧ Own B F w' := by
  refine calls_ce (args := [.slice sa xs.length sc, .int .i64 v]) Try.func75 rfl rfl ?_
  change CE _ _ 19 _ _ [(0, .slice sa xs.length sc), (1, .int .i64 v)] _
  refine ce_seq ?_
  refine ce_text (tab := []) (soft := 1) (.op 0 .nil) rfl rfl ?_
  refine re_assign rfl rfl rfl rfl rfl ?_
  refine re_nil ?_
  refine qe_thenC ?_
  refine ce_seq ?_
  refine ce_seq ?_
  refine ce_text (tab := []) (soft := 7) (.op 0 (.op 1 (.op 2 .nil))) rfl rfl ?_
  refine re_move rfl rfl rfl rfl rfl ?_
  refine re_len rfl rfl rfl rfl rfl ul_31 ?_
  refine re_move rfl rfl rfl rfl rfl ?_
  refine re_nil ?_
  refine qe_thenC ?_
  refine ce_block ?_
  refine ce_loop (α := Nat) (fun k => [(0, .slice sa xs.length sc), (1, .int .i64 v), (7, .int .i64 (xs.length : Int)), (8, .int .i64 (k : Int))]) (fun k w => Own B F w ∧ k ≤ xs.length ∧ ∀ j, j < k → xs[j]? ≠ some v) (fun k => xs.length - k) 0 (And.intro rfl (And.intro rfl (And.intro rfl (And.intro rfl trivial)))) ⟨H, Nat.zero_le _, fun j hj => by omega⟩ ?_
  rintro k w HW
  obtain ⟨H, hk, hno⟩ := HW
  change CE _ _ _ _ _ [(0, .slice sa xs.length sc), (1, .int .i64 v), (7, .int .i64 (xs.length : Int)), (8, .int .i64 (k : Int))] _
  refine ce_seq ?_
  refine ce_text (tab := []) (soft := 1) (.op 0 .nil) rfl rfl ?_
  refine re_bin rfl rfl rfl rfl rfl rfl rfl ?_
  refine re_nil ?_
  refine qe_thenC ?_
  refine ce_seq ?_
  refine ce_cond rfl (fun h0 => ?_) (fun h0 => ?_)
  · try simp only [zn1, zn2, zn3, zn4, zn5, zn6] at h0
    refine ce_skip ?_
    refine qe_thenC ?_
    refine ce_seq ?_
    refine ce_block ?_
    refine ce_seq ?_
    refine ce_text (tab := []) (soft := 3) (.op 0 (.op 1 .nil)) rfl rfl ?_
    refine re_move rfl rfl rfl rfl rfl ?_
    refine re_assign rfl rfl rfl rfl rfl ?_
    refine re_nil ?_
    refine qe_thenC ?_
    refine ce_seq ?_
    refine ce_text (tab := []) (soft := 63) (.op 0 (.op 1 (.op 2 (.op 3 (.op 4 (.op 5 .nil)))))) rfl rfl ?_
    refine re_move rfl rfl rfl rfl rfl ?_
    refine re_move rfl rfl rfl rfl rfl ?_
    refine re_move rfl rfl rfl rfl rfl ?_
    have hlt : k < xs.length := by omega
    obtain ⟨ad, rfl, hA⟩ := hS.open_ H.to (by omega)
    refine re_index rfl rfl rfl rfl rfl rfl ul_31 ei_31 (by omega) (by omega) ?_
    refine re_loadW rfl rfl rfl rfl rfl (run_loadAt_one sh_3 (hA.int H hlt)) ?_
    refine re_bin rfl rfl rfl rfl rfl rfl rfl ?_
    refine re_nil ?_
    refine qe_thenC ?_
    refine ce_cond rfl (fun h1 => ?_) (fun h1 => ?_)
    · try simp only [zn1, zn2, zn3, zn4, zn5, zn6] at h1
      refine ce_seq ?_
      refine ce_text (tab := []) (soft := 3) (.op 0 (.op 1 .nil)) rfl rfl ?_
      refine re_move rfl rfl rfl rfl rfl ?_
      refine re_assign rfl rfl rfl rfl rfl ?_
      refine re_nil ?_
      refine qe_thenC ?_
      refine ce_ret ?_
      refine qe_block_ret ?_
      refine qe_then_ret ?_
      refine qe_then_ret ?_
      refine qe_block_ret ?_
      refine qe_then_ret ?_
      refine qe_end rfl rfl ?_
      exact ⟨by rw [idxOf_found hlt h1.symm hno], H⟩
    · try simp only [zn1, zn2, zn3, zn4, zn5, zn6] at h1
      refine ce_skip ?_
      refine qe_block_norm ?_
      refine qe_thenC ?_
      refine ce_text (tab := []) (soft := 3) (.op 0 (.op 1 .nil)) rfl rfl ?_
      first | refine re_add rfl rfl rfl rfl rfl rfl (by omega) ?_ | refine re_bin rfl rfl rfl rfl rfl rfl rfl ?_
      refine re_move rfl rfl rfl rfl rfl ?_
      refine re_nil ?_
      refine qe_round (x := k) (k + 1) ?_ ?_ ?_
      · first | (dsimp only; omega) | omega
      · exact (And.intro rfl (And.intro rfl (And.intro rfl (And.intro rfl trivial))))
      · exact ⟨H, by omega, fun j hj => by
          rcases Nat.lt_succ_iff_lt_or_eq.1 hj with h | rfl
          · exact hno j h
          · simpa [List.getElem?_eq_getElem hlt] using fun e => h1 e.symm⟩
  · try simp only [zn1, zn2, zn3, zn4, zn5, zn6] at h0
    refine ce_exit ?_
    refine qe_then_exit ?_
    refine qe_then_exit ?_
    refine qe_block_exit ?_
    refine qe_thenC ?_
    refine ce_seq ?_
    refine ce_text (tab := []) (soft := 1) (.op 0 .nil) rfl rfl ?_
    refine re_assign rfl rfl rfl rfl rfl ?_
    refine re_nil ?_
    refine qe_thenC ?_
    refine ce_ret ?_
    refine qe_end rfl rfl ?_
    obtain rfl : k = xs.length := by omega
    exact ⟨by rw [idxOf_none hno], H⟩

theorem contains_s {B w : World} {F : List Ent} {sa : Option Addr} {sc : Nat} {xs : List Int} {v : Int} (hS : Sees B F sa xs.length 1 (ints xs)) (H : Own B F w) (hn : xs.length ≤ 1000000) :
    Calls Try.prog 50 #[.slice sa xs.length sc, .int .i64 v] w fun e w' => e = .returned (.bool (decide (v ∈ xs))) ∧ Own B F w' := by
  refine calls_ce (args := [.slice sa xs.length sc, .int .i64 v]) Try.func50 rfl rfl ?_
  change CE _ _ 9 _ _ [(0, .slice sa xs.length sc), (1, .int .i64 v)] _
  refine ce_seq ?_
  refine ce_text (tab := []) (soft := 1) (.op 0 .nil) rfl rfl ?_
  refine re_assign rfl rfl rfl rfl rfl ?_
  refine re_nil ?_
  refine qe_thenC ?_
  refine ce_seq ?_
  refine ce_text (tab := []) (soft := 27) (.op 0 (.op 1 (.op 2 (.op 3 (.op 4 .nil))))) rfl rfl ?_
  refine re_move rfl rfl rfl rfl rfl ?_
  refine re_move rfl rfl rfl rfl rfl ?_
  refine re_call en_75 rfl rfl rfl rfl rfl ?_
  refine Calls.mono (index_s hS H hn) ?_
  rintro e w ⟨rfl, H⟩
  refine ⟨_, rfl, (fun h => (nomatch h)), ?_⟩
  refine re_bin rfl rfl rfl rfl rfl rfl rfl ?_
  refine re_assign rfl rfl rfl rfl rfl ?_
  refine re_nil ?_
  refine qe_thenC ?_
  refine ce_ret ?_
  refine qe_end rfl rfl ?_
  exact ⟨by rw [idxOf_mem], H⟩
end Go.Proofs.Ytofaoblfemfkiaa
