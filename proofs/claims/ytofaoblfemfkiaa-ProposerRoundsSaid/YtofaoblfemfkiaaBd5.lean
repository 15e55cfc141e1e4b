/- Parts of the proof: V W X Y. -/
import Derived.Test.YtofaoblfemfkiaaBd4
set_option linter.unusedVariables false
set_option linter.unusedSimpArgs false
namespace Go.Proofs.Ytofaoblfemfkiaa
open Go Go.RowKit Go.Fw
set_option linter.unusedSimpArgs false
set_option linter.unusedVariables false
set_option maxRecDepth 4000
set_option maxHeartbeats 2000000
theorem en_58 : Enterable Try.prog 58 := ⟨Try.f58, Try.func58, rfl, by decide⟩
theorem en_59 : Enterable Try.prog 59 := ⟨Try.f59, Try.func59, rfl, by decide⟩
theorem en_60 : Enterable Try.prog 60 := ⟨Try.f60, Try.func60, rfl, by decide⟩
theorem en_61 : Enterable Try.prog 61 := ⟨Try.f61, Try.func61, rfl, by decide⟩
theorem fo_54_15 : fOff Try.prog 54 15 = some 34 := by kernel_rfl
theorem fo_54_18 : fOff Try.prog 54 18 = some 37 := by kernel_rfl

def RS.at (r : RS) (m : GM) : Int := if r.foreign m then -1 else idxOf m.fi r.gs
def RS.decide (r : RS) (c : Cmd) : RS := { r with dc := true, dec := c, ph := 3 }
def RS.hear (r : RS) (k : Nat) : RS := { r with ans := r.ans.set k true }
def RS.nack (r : RS) (k : Nat) (n : Int) : RS := { r with ans := r.ans.set k true, nk := true, nt := max r.nt n }
def RS.promise (r : RS) (k : Nat) (m : GM) : RS := { r with ans := r.ans.set k true, cnt := r.cnt.set k true, held := r.held.set k (m.h0, m.h1), cms := r.cms.set k m.cmd }
def RS.accepted (r : RS) (k : Nat) : RS := { r with ans := r.ans.set k true, cnt := r.cnt.set k true }
def RS.chose (r : RS) : RS := (r.ch (r.best r.gs.length).2).phase 2
def RS.learnedMsg (r : RS) (x : Int) : GM := { r.base x with kind := 5, s0 := 0, s1 := 0, cmd := r.chosen }
def RS.outL (r : RS) : List GM := r.gs.map r.learnedMsg

theorem take_noR {B w : World} {F : List Ent} {h a1 a2 a3 a4 : Nat} {r : RS} {m : GM} (H : Own B (.cells h 54 (r.cellsV (slv (some a1) r.gs.length r.gs.length) (slv (some a2) r.gs.length r.gs.length) (slv (some a3) r.gs.length r.gs.length) (slv (some a4) r.gs.length r.gs.length)) :: .row r.ga r.gc 3 1 r.gs.length (ints r.gs) :: .cells a1 4 (bools r.ans) :: .cells a2 4 (bools r.cnt) :: .cells a3 38 (stamps r.held) :: .cells a4 28 (cmdsC r.cms) :: F) w) (hn : r.gs.length ≤ 1000000) (hv : r.at m < 0) :
    Calls Try.prog 29 #[.pointer (some ⟨h, 0, none⟩), .agg m.cells.toArray] w fun e w' => e = .returned (slv none 0 0) ∧ Own B (.cells h 54 (r.cellsV (slv (some a1) r.gs.length r.gs.length) (slv (some a2) r.gs.length r.gs.length) (slv (some a3) r.gs.length r.gs.length) (slv (some a4) r.gs.length r.gs.length)) :: .row r.ga r.gc 3 1 r.gs.length (ints r.gs) :: .cells a1 4 (bools r.ans) :: .cells a2 4 (bools r.cnt) :: .cells a3 38 (stamps r.held) :: .cells a4 28 (cmdsC r.cms) :: F) w' := by
  refine calls_ce (args := [.pointer (some ⟨h, 0, none⟩), .agg m.cells.toArray]) Try.func29 rfl rfl ?_
  change CE _ _ 232 _ _ [(0, .pointer (some ⟨h, 0, none⟩)), (1, .agg m.cells.toArray)] _
  refine ce_seq ?_
  refine ce_text (tab := []) (soft := 2) (.op 0 (.op 1 .nil)) rfl rfl ?_
  refine re_box H rfl rfl rfl rfl rfl rfl ?_
  intro g3 w H
  refine ⟨(fun h => (nomatch h)), ?_⟩
  refine re_assign rfl rfl rfl rfl rfl ?_
  refine re_nil ?_
  refine qe_thenC ?_
  refine ce_seq ?_
  refine ce_text (tab := []) (soft := 11) (.op 0 (.op 1 (.op 2 (.op 3 .nil)))) rfl rfl ?_
  refine re_move rfl rfl rfl rfl rfl ?_
  refine re_load H rfl rfl rfl rfl rfl sh_46 (by first | exact rdAt_all rfl | (simp only [rdAt, PS.cells, PS.over, GM.cells, Cmd.cells, List.cons_append, List.nil_append, RS.cellsV, RS.ch, stC, List.drop_succ_cons, List.drop_zero, List.take_succ_cons, List.take_zero, List.length_cons, List.length_nil, Nat.zero_add, Nat.reduceAdd, Nat.reduceLeDiff, Nat.le_refl, ↓reduceIte] <;> rfl)) ?_
  refine re_call en_58 rfl rfl rfl rfl rfl ?_
  have H := Own.arr [0, 6, 6, 6, 6, 6, 6] H
  simp only [arrs, Fw.front, zm1, zm2, zm3, zm4, zm5] at H
  refine Calls.mono (place_r H hn) ?_
  rintro e w ⟨rfl, H⟩
  rw [show (if r.foreign m then (-1 : Int) else idxOf m.fi r.gs) = r.at m from rfl]
  refine ⟨_, rfl, (fun h => (nomatch h)), ?_⟩
  refine re_assign rfl rfl rfl rfl rfl ?_
  refine re_nil ?_
  refine qe_thenC ?_
  refine ce_seq ?_
  refine ce_seq ?_
  refine ce_text (tab := []) (soft := 3) (.op 0 (.op 1 .nil)) rfl rfl ?_
  refine re_move rfl rfl rfl rfl rfl ?_
  refine re_bin rfl rfl rfl rfl rfl rfl rfl ?_
  refine re_nil ?_
  refine qe_thenC ?_
  refine ce_cond rfl (fun h0 => ?_) (fun h0 => ?_)
  · try simp only [zn1, zn2, zn3, zn4, zn5, zn6] at h0
    refine ce_seq ?_
    refine ce_text (tab := []) (soft := 1) (.op 0 .nil) rfl rfl ?_
    refine re_assign rfl rfl rfl rfl rfl ?_
    refine re_nil ?_
    refine qe_thenC ?_
    refine ce_ret ?_
    refine qe_then_ret ?_
    refine qe_end rfl rfl ?_
    exact ⟨rfl, H.sub (.cons_cons _ (.cons_cons _ (.cons_cons _ (.cons_cons _ (.cons_cons _ (.cons_cons _ (.cons _ (List.Sublist.refl _))))))))⟩
  · try simp only [zn1, zn2, zn3, zn4, zn5, zn6] at h0
    omega

theorem take_knownR {B w : World} {F : List Ent} {h a1 a2 a3 a4 : Nat} {r : RS} {m : GM} {k : Nat} (H : Own B (.cells h 54 (r.cellsV (slv (some a1) r.gs.length r.gs.length) (slv (some a2) r.gs.length r.gs.length) (slv (some a3) r.gs.length r.gs.length) (slv (some a4) r.gs.length r.gs.length)) :: .row r.ga r.gc 3 1 r.gs.length (ints r.gs) :: .cells a1 4 (bools r.ans) :: .cells a2 4 (bools r.cnt) :: .cells a3 38 (stamps r.held) :: .cells a4 28 (cmdsC r.cms) :: F) w) (hn : r.gs.length ≤ 1000000) (hv : r.at m = (k : Int)) (hk : k < r.gs.length) (ha : r.ans.length = r.gs.length) (hc : r.cnt.length = r.gs.length) (hh : r.held.length = r.gs.length) (hm : r.cms.length = r.gs.length) (hkd : m.kind = 16) :
    Calls Try.prog 29 #[.pointer (some ⟨h, 0, none⟩), .agg m.cells.toArray] w fun e w' => e = .returned (slv none 0 0) ∧ Own B (.cells h 54 ((r.decide m.cmd).cellsV (slv (some a1) (r.decide m.cmd).gs.length (r.decide m.cmd).gs.length) (slv (some a2) (r.decide m.cmd).gs.length (r.decide m.cmd).gs.length) (slv (some a3) (r.decide m.cmd).gs.length (r.decide m.cmd).gs.length) (slv (some a4) (r.decide m.cmd).gs.length (r.decide m.cmd).gs.length)) :: .row r.ga r.gc 3 1 r.gs.length (ints r.gs) :: .cells a1 4 (bools (r.decide m.cmd).ans) :: .cells a2 4 (bools (r.decide m.cmd).cnt) :: .cells a3 38 (stamps (r.decide m.cmd).held) :: .cells a4 28 (cmdsC (r.decide m.cmd).cms) :: F) w' := by
  refine calls_ce (args := [.pointer (some ⟨h, 0, none⟩), .agg m.cells.toArray]) Try.func29 rfl rfl ?_
  change CE _ _ 232 _ _ [(0, .pointer (some ⟨h, 0, none⟩)), (1, .agg m.cells.toArray)] _
  refine ce_seq ?_
  refine ce_text (tab := []) (soft := 2) (.op 0 (.op 1 .nil)) rfl rfl ?_
  refine re_box H rfl rfl rfl rfl rfl rfl ?_
  intro g3 w H
  refine ⟨(fun h => (nomatch h)), ?_⟩
  refine re_assign rfl rfl rfl rfl rfl ?_
  refine re_nil ?_
  refine qe_thenC ?_
  refine ce_seq ?_
  refine ce_text (tab := []) (soft := 11) (.op 0 (.op 1 (.op 2 (.op 3 .nil)))) rfl rfl ?_
  refine re_move rfl rfl rfl rfl rfl ?_
  refine re_load H rfl rfl rfl rfl rfl sh_46 (by first | exact rdAt_all rfl | (simp only [rdAt, PS.cells, PS.over, GM.cells, Cmd.cells, List.cons_append, List.nil_append, RS.cellsV, RS.ch, stC, List.drop_succ_cons, List.drop_zero, List.take_succ_cons, List.take_zero, List.length_cons, List.length_nil, Nat.zero_add, Nat.reduceAdd, Nat.reduceLeDiff, Nat.le_refl, ↓reduceIte] <;> rfl)) ?_
  refine re_call en_58 rfl rfl rfl rfl rfl ?_
  have H := Own.arr [0, 6, 6, 6, 6, 6, 6] H
  simp only [arrs, Fw.front, zm1, zm2, zm3, zm4, zm5] at H
  refine Calls.mono (place_r H hn) ?_
  rintro e w ⟨rfl, H⟩
  rw [show (if r.foreign m then (-1 : Int) else idxOf m.fi r.gs) = r.at m from rfl, hv]
  refine ⟨_, rfl, (fun h => (nomatch h)), ?_⟩
  refine re_assign rfl rfl rfl rfl rfl ?_
  refine re_nil ?_
  refine qe_thenC ?_
  refine ce_seq ?_
  refine ce_seq ?_
  refine ce_text (tab := []) (soft := 3) (.op 0 (.op 1 .nil)) rfl rfl ?_
  refine re_move rfl rfl rfl rfl rfl ?_
  refine re_bin rfl rfl rfl rfl rfl rfl rfl ?_
  refine re_nil ?_
  refine qe_thenC ?_
  refine ce_cond rfl (fun h0 => ?_) (fun h0 => ?_)
  · try simp only [zn1, zn2, zn3, zn4, zn5, zn6] at h0
    omega
  · try simp only [zn1, zn2, zn3, zn4, zn5, zn6] at h0
    refine ce_skip ?_
    refine qe_thenC ?_
    refine ce_seq ?_
    refine ce_seq ?_
    refine ce_text (tab := []) (soft := 7) (.op 0 (.op 1 (.op 2 .nil))) rfl rfl ?_
    first | refine re_field0 rfl rfl rfl rfl rfl fo_46_0 ?_ | refine re_field rfl rfl rfl rfl rfl fo_46_0 ?_ | refine re_fieldA rfl rfl rfl rfl rfl fo_46_0 ?_
    refine re_load H rfl rfl rfl rfl rfl sh_3 rfl ?_
    refine re_bin rfl rfl rfl rfl rfl rfl rfl ?_
    refine re_nil ?_
    refine qe_thenC ?_
    refine ce_cond rfl (fun h1 => ?_) (fun h1 => ?_)
    · try simp only [zn1, zn2, zn3, zn4, zn5, zn6] at h1
      refine ce_seq ?_
      refine ce_text (tab := []) (soft := 7) (.op 0 (.op 1 (.op 2 (.op 3 .nil)))) rfl rfl ?_
      refine re_move rfl rfl rfl rfl rfl ?_
      refine re_nilc rfl rfl rfl rfl rfl ?_
      first | refine re_field0 rfl rfl rfl rfl rfl fo_54_15 ?_ | refine re_field rfl rfl rfl rfl rfl fo_54_15 ?_ | refine re_fieldA rfl rfl rfl rfl rfl fo_54_15 ?_
      refine re_store H rfl rfl rfl rfl rfl rfl sh_4 rfl rfl rfl ?_
      intro cs w hcs H
      first | rw [setMany_whole rfl] at hcs | simp only [setMany, List.set_cons_zero, List.set_cons_succ, Nat.reduceAdd, Nat.zero_add, PS.cells, PS.over, GM.cells, Cmd.cells, List.cons_append, List.nil_append, RS.cellsV, RS.ch, stC] at hcs
      subst hcs
      refine ⟨(fun h => (nomatch h)), ?_⟩
      refine re_nil ?_
      refine qe_thenC ?_
      refine ce_seq ?_
      refine ce_text (tab := []) (soft := 31) (.op 0 (.op 1 (.op 2 (.op 3 (.op 4 (.op 5 .nil)))))) rfl rfl ?_
      refine re_move rfl rfl rfl rfl rfl ?_
      first | refine re_field0 rfl rfl rfl rfl rfl fo_46_9 ?_ | refine re_field rfl rfl rfl rfl rfl fo_46_9 ?_ | refine re_fieldA rfl rfl rfl rfl rfl fo_46_9 ?_
      refine re_load H rfl rfl rfl rfl rfl sh_28 (by first | exact rdAt_all rfl | (simp only [rdAt, PS.cells, PS.over, GM.cells, Cmd.cells, List.cons_append, List.nil_append, RS.cellsV, RS.ch, stC, List.drop_succ_cons, List.drop_zero, List.take_succ_cons, List.take_zero, List.length_cons, List.length_nil, Nat.zero_add, Nat.reduceAdd, Nat.reduceLeDiff, Nat.le_refl, ↓reduceIte] <;> rfl)) ?_
      refine re_nilc rfl rfl rfl rfl rfl ?_
      first | refine re_field0 rfl rfl rfl rfl rfl fo_54_18 ?_ | refine re_field rfl rfl rfl rfl rfl fo_54_18 ?_ | refine re_fieldA rfl rfl rfl rfl rfl fo_54_18 ?_
      refine re_store H rfl rfl rfl rfl rfl rfl sh_28 rfl rfl rfl ?_
      intro cs w hcs H
      first | rw [setMany_whole rfl] at hcs | simp only [setMany, List.set_cons_zero, List.set_cons_succ, Nat.reduceAdd, Nat.zero_add, PS.cells, PS.over, GM.cells, Cmd.cells, List.cons_append, List.nil_append, RS.cellsV, RS.ch, stC] at hcs
      subst hcs
      refine ⟨(fun h => (nomatch h)), ?_⟩
      refine re_nil ?_
      refine qe_thenC ?_
      refine ce_seq ?_
      refine ce_text (tab := []) (soft := 7) (.op 0 (.op 1 (.op 2 (.op 3 .nil)))) rfl rfl ?_
      refine re_move rfl rfl rfl rfl rfl ?_
      refine re_nilc rfl rfl rfl rfl rfl ?_
      first | refine re_field0 rfl rfl rfl rfl rfl fo_54_9 ?_ | refine re_field rfl rfl rfl rfl rfl fo_54_9 ?_ | refine re_fieldA rfl rfl rfl rfl rfl fo_54_9 ?_
      refine re_store H rfl rfl rfl rfl rfl rfl sh_3 rfl rfl rfl ?_
      intro cs w hcs H
      first | rw [setMany_whole rfl] at hcs | simp only [setMany, List.set_cons_zero, List.set_cons_succ, Nat.reduceAdd, Nat.zero_add, PS.cells, PS.over, GM.cells, Cmd.cells, List.cons_append, List.nil_append, RS.cellsV, RS.ch, stC] at hcs
      subst hcs
      refine ⟨(fun h => (nomatch h)), ?_⟩
      refine re_nil ?_
      refine qe_thenC ?_
      refine ce_seq ?_
      refine ce_text (tab := []) (soft := 1) (.op 0 .nil) rfl rfl ?_
      refine re_assign rfl rfl rfl rfl rfl ?_
      refine re_nil ?_
      refine qe_thenC ?_
      refine ce_ret ?_
      refine qe_then_ret ?_
      refine qe_end rfl rfl ?_
      exact ⟨rfl, H.sub (.cons_cons _ (.cons_cons _ (.cons_cons _ (.cons_cons _ (.cons_cons _ (.cons_cons _ (.cons _ (List.Sublist.refl _))))))))⟩
    · try simp only [zn1, zn2, zn3, zn4, zn5, zn6] at h1
      omega

theorem take_staleR {B w : World} {F : List Ent} {h a1 a2 a3 a4 : Nat} {r : RS} {m : GM} {k : Nat} (H : Own B (.cells h 54 (r.cellsV (slv (some a1) r.gs.length r.gs.length) (slv (some a2) r.gs.length r.gs.length) (slv (some a3) r.gs.length r.gs.length) (slv (some a4) r.gs.length r.gs.length)) :: .row r.ga r.gc 3 1 r.gs.length (ints r.gs) :: .cells a1 4 (bools r.ans) :: .cells a2 4 (bools r.cnt) :: .cells a3 38 (stamps r.held) :: .cells a4 28 (cmdsC r.cms) :: F) w) (hn : r.gs.length ≤ 1000000) (hv : r.at m = (k : Int)) (hk : k < r.gs.length) (ha : r.ans.length = r.gs.length) (hc : r.cnt.length = r.gs.length) (hh : r.held.length = r.gs.length) (hm : r.cms.length = r.gs.length) (hkd : m.kind ≠ 16 ∧ m.kind ≠ 17) (hs : r.ans[k]'(by omega) = true) :
    Calls Try.prog 29 #[.pointer (some ⟨h, 0, none⟩), .agg m.cells.toArray] w fun e w' => e = .returned (slv none 0 0) ∧ Own B (.cells h 54 (r.cellsV (slv (some a1) r.gs.length r.gs.length) (slv (some a2) r.gs.length r.gs.length) (slv (some a3) r.gs.length r.gs.length) (slv (some a4) r.gs.length r.gs.length)) :: .row r.ga r.gc 3 1 r.gs.length (ints r.gs) :: .cells a1 4 (bools r.ans) :: .cells a2 4 (bools r.cnt) :: .cells a3 38 (stamps r.held) :: .cells a4 28 (cmdsC r.cms) :: F) w' := by
  refine calls_ce (args := [.pointer (some ⟨h, 0, none⟩), .agg m.cells.toArray]) Try.func29 rfl rfl ?_
  change CE _ _ 232 _ _ [(0, .pointer (some ⟨h, 0, none⟩)), (1, .agg m.cells.toArray)] _
  refine ce_seq ?_
  refine ce_text (tab := []) (soft := 2) (.op 0 (.op 1 .nil)) rfl rfl ?_
  refine re_box H rfl rfl rfl rfl rfl rfl ?_
  intro g3 w H
  refine ⟨(fun h => (nomatch h)), ?_⟩
  refine re_assign rfl rfl rfl rfl rfl ?_
  refine re_nil ?_
  refine qe_thenC ?_
  refine ce_seq ?_
  refine ce_text (tab := []) (soft := 11) (.op 0 (.op 1 (.op 2 (.op 3 .nil)))) rfl rfl ?_
  refine re_move rfl rfl rfl rfl rfl ?_
  refine re_load H rfl rfl rfl rfl rfl sh_46 (by first | exact rdAt_all rfl | (simp only [rdAt, PS.cells, PS.over, GM.cells, Cmd.cells, List.cons_append, List.nil_append, RS.cellsV, RS.ch, stC, List.drop_succ_cons, List.drop_zero, List.take_succ_cons, List.take_zero, List.length_cons, List.length_nil, Nat.zero_add, Nat.reduceAdd, Nat.reduceLeDiff, Nat.le_refl, ↓reduceIte] <;> rfl)) ?_
  refine re_call en_58 rfl rfl rfl rfl rfl ?_
  have H := Own.arr [0, 6, 6, 6, 6, 6, 6] H
  simp only [arrs, Fw.front, zm1, zm2, zm3, zm4, zm5] at H
  refine Calls.mono (place_r H hn) ?_
  rintro e w ⟨rfl, H⟩
  rw [show (if r.foreign m then (-1 : Int) else idxOf m.fi r.gs) = r.at m from rfl, hv]
  refine ⟨_, rfl, (fun h => (nomatch h)), ?_⟩
  refine re_assign rfl rfl rfl rfl rfl ?_
  refine re_nil ?_
  refine qe_thenC ?_
  refine ce_seq ?_
  refine ce_seq ?_
  refine ce_text (tab := []) (soft := 3) (.op 0 (.op 1 .nil)) rfl rfl ?_
  refine re_move rfl rfl rfl rfl rfl ?_
  refine re_bin rfl rfl rfl rfl rfl rfl rfl ?_
  refine re_nil ?_
  refine qe_thenC ?_
  refine ce_cond rfl (fun h0 => ?_) (fun h0 => ?_)
  · try simp only [zn1, zn2, zn3, zn4, zn5, zn6] at h0
    omega
  · try simp only [zn1, zn2, zn3, zn4, zn5, zn6] at h0
    refine ce_skip ?_
    refine qe_thenC ?_
    refine ce_seq ?_
    refine ce_seq ?_
    refine ce_text (tab := []) (soft := 7) (.op 0 (.op 1 (.op 2 .nil))) rfl rfl ?_
    first | refine re_field0 rfl rfl rfl rfl rfl fo_46_0 ?_ | refine re_field rfl rfl rfl rfl rfl fo_46_0 ?_ | refine re_fieldA rfl rfl rfl rfl rfl fo_46_0 ?_
    refine re_load H rfl rfl rfl rfl rfl sh_3 rfl ?_
    refine re_bin rfl rfl rfl rfl rfl rfl rfl ?_
    refine re_nil ?_
    refine qe_thenC ?_
    refine ce_cond rfl (fun h1 => ?_) (fun h1 => ?_)
    · try simp only [zn1, zn2, zn3, zn4, zn5, zn6] at h1
      omega
    · try simp only [zn1, zn2, zn3, zn4, zn5, zn6] at h1
      refine ce_skip ?_
      refine qe_thenC ?_
      refine ce_seq ?_
      refine ce_seq ?_
      refine ce_text (tab := []) (soft := 7) (.op 0 (.op 1 (.op 2 .nil))) rfl rfl ?_
      first | refine re_field0 rfl rfl rfl rfl rfl fo_46_0 ?_ | refine re_field rfl rfl rfl rfl rfl fo_46_0 ?_ | refine re_fieldA rfl rfl rfl rfl rfl fo_46_0 ?_
      refine re_load H rfl rfl rfl rfl rfl sh_3 rfl ?_
      refine re_bin rfl rfl rfl rfl rfl rfl rfl ?_
      refine re_nil ?_
      refine qe_thenC ?_
      refine ce_cond rfl (fun h2 => ?_) (fun h2 => ?_)
      · try simp only [zn1, zn2, zn3, zn4, zn5, zn6] at h2
        omega
      · try simp only [zn1, zn2, zn3, zn4, zn5, zn6] at h2
        refine ce_skip ?_
        refine qe_thenC ?_
        refine ce_seq ?_
        refine ce_seq ?_
        refine ce_text (tab := []) (soft := 127) (.op 0 (.op 1 (.op 2 (.op 3 (.op 4 (.op 5 (.op 6 .nil))))))) rfl rfl ?_
        refine re_move rfl rfl rfl rfl rfl ?_
        refine re_nilc rfl rfl rfl rfl rfl ?_
        first | refine re_field0 rfl rfl rfl rfl rfl fo_54_10 ?_ | refine re_field rfl rfl rfl rfl rfl fo_54_10 ?_ | refine re_fieldA rfl rfl rfl rfl rfl fo_54_10 ?_
        refine re_load H rfl rfl rfl rfl rfl sh_51 rfl ?_
        refine re_move rfl rfl rfl rfl rfl ?_
        refine re_indexL rfl rfl rfl rfl rfl rfl ul_51 ei_51 (by omega) (by omega) ?_
        refine re_load H rfl rfl rfl rfl rfl sh_4 (rd_one Value.bool (by omega)) ?_
        refine re_nil ?_
        refine qe_thenC ?_
        refine ce_cond rfl (fun h3 => ?_) (fun h3 => ?_)
        · try simp only [zn1, zn2, zn3, zn4, zn5, zn6] at h3
          refine ce_seq ?_
          refine ce_text (tab := []) (soft := 1) (.op 0 .nil) rfl rfl ?_
          refine re_assign rfl rfl rfl rfl rfl ?_
          refine re_nil ?_
          refine qe_thenC ?_
          refine ce_ret ?_
          refine qe_then_ret ?_
          refine qe_end rfl rfl ?_
          exact ⟨rfl, H.sub (.cons_cons _ (.cons_cons _ (.cons_cons _ (.cons_cons _ (.cons_cons _ (.cons_cons _ (.cons _ (List.Sublist.refl _))))))))⟩
        · try simp only [zn1, zn2, zn3, zn4, zn5, zn6] at h3
          simp_all

theorem take_nackR {B w : World} {F : List Ent} {h a1 a2 a3 a4 : Nat} {r : RS} {m : GM} {k : Nat} (H : Own B (.cells h 54 (r.cellsV (slv (some a1) r.gs.length r.gs.length) (slv (some a2) r.gs.length r.gs.length) (slv (some a3) r.gs.length r.gs.length) (slv (some a4) r.gs.length r.gs.length)) :: .row r.ga r.gc 3 1 r.gs.length (ints r.gs) :: .cells a1 4 (bools r.ans) :: .cells a2 4 (bools r.cnt) :: .cells a3 38 (stamps r.held) :: .cells a4 28 (cmdsC r.cms) :: F) w) (hn : r.gs.length ≤ 1000000) (hv : r.at m = (k : Int)) (hk : k < r.gs.length) (ha : r.ans.length = r.gs.length) (hc : r.cnt.length = r.gs.length) (hh : r.held.length = r.gs.length) (hm : r.cms.length = r.gs.length) (hkd : m.kind = 14) (hs : r.ans[k]'(by omega) = false) :
    Calls Try.prog 29 #[.pointer (some ⟨h, 0, none⟩), .agg m.cells.toArray] w fun e w' => e = .returned (slv none 0 0) ∧ Own B (.cells h 54 ((r.nack k m.s0).cellsV (slv (some a1) (r.nack k m.s0).gs.length (r.nack k m.s0).gs.length) (slv (some a2) (r.nack k m.s0).gs.length (r.nack k m.s0).gs.length) (slv (some a3) (r.nack k m.s0).gs.length (r.nack k m.s0).gs.length) (slv (some a4) (r.nack k m.s0).gs.length (r.nack k m.s0).gs.length)) :: .row r.ga r.gc 3 1 r.gs.length (ints r.gs) :: .cells a1 4 (bools (r.nack k m.s0).ans) :: .cells a2 4 (bools (r.nack k m.s0).cnt) :: .cells a3 38 (stamps (r.nack k m.s0).held) :: .cells a4 28 (cmdsC (r.nack k m.s0).cms) :: F) w' := by
  refine calls_ce (args := [.pointer (some ⟨h, 0, none⟩), .agg m.cells.toArray]) Try.func29 rfl rfl ?_
  change CE _ _ 232 _ _ [(0, .pointer (some ⟨h, 0, none⟩)), (1, .agg m.cells.toArray)] _
  refine ce_seq ?_
  refine ce_text (tab := []) (soft := 2) (.op 0 (.op 1 .nil)) rfl rfl ?_
  refine re_box H rfl rfl rfl rfl rfl rfl ?_
  intro g3 w H
  refine ⟨(fun h => (nomatch h)), ?_⟩
  refine re_assign rfl rfl rfl rfl rfl ?_
  refine re_nil ?_
  refine qe_thenC ?_
  refine ce_seq ?_
  refine ce_text (tab := []) (soft := 11) (.op 0 (.op 1 (.op 2 (.op 3 .nil)))) rfl rfl ?_
  refine re_move rfl rfl rfl rfl rfl ?_
  refine re_load H rfl rfl rfl rfl rfl sh_46 (by first | exact rdAt_all rfl | (simp only [rdAt, PS.cells, PS.over, GM.cells, Cmd.cells, List.cons_append, List.nil_append, RS.cellsV, RS.ch, stC, List.drop_succ_cons, List.drop_zero, List.take_succ_cons, List.take_zero, List.length_cons, List.length_nil, Nat.zero_add, Nat.reduceAdd, Nat.reduceLeDiff, Nat.le_refl, ↓reduceIte] <;> rfl)) ?_
  refine re_call en_58 rfl rfl rfl rfl rfl ?_
  have H := Own.arr [0, 6, 6, 6, 6, 6, 6] H
  simp only [arrs, Fw.front, zm1, zm2, zm3, zm4, zm5] at H
  refine Calls.mono (place_r H hn) ?_
  rintro e w ⟨rfl, H⟩
  rw [show (if r.foreign m then (-1 : Int) else idxOf m.fi r.gs) = r.at m from rfl, hv]
  refine ⟨_, rfl, (fun h => (nomatch h)), ?_⟩
  refine re_assign rfl rfl rfl rfl rfl ?_
  refine re_nil ?_
  refine qe_thenC ?_
  refine ce_seq ?_
  refine ce_seq ?_
  refine ce_text (tab := []) (soft := 3) (.op 0 (.op 1 .nil)) rfl rfl ?_
  refine re_move rfl rfl rfl rfl rfl ?_
  refine re_bin rfl rfl rfl rfl rfl rfl rfl ?_
  refine re_nil ?_
  refine qe_thenC ?_
  refine ce_cond rfl (fun h0 => ?_) (fun h0 => ?_)
  · try simp only [zn1, zn2, zn3, zn4, zn5, zn6] at h0
    omega
  · try simp only [zn1, zn2, zn3, zn4, zn5, zn6] at h0
    refine ce_skip ?_
    refine qe_thenC ?_
    refine ce_seq ?_
    refine ce_seq ?_
    refine ce_text (tab := []) (soft := 7) (.op 0 (.op 1 (.op 2 .nil))) rfl rfl ?_
    first | refine re_field0 rfl rfl rfl rfl rfl fo_46_0 ?_ | refine re_field rfl rfl rfl rfl rfl fo_46_0 ?_ | refine re_fieldA rfl rfl rfl rfl rfl fo_46_0 ?_
    refine re_load H rfl rfl rfl rfl rfl sh_3 rfl ?_
    refine re_bin rfl rfl rfl rfl rfl rfl rfl ?_
    refine re_nil ?_
    refine qe_thenC ?_
    refine ce_cond rfl (fun h1 => ?_) (fun h1 => ?_)
    · try simp only [zn1, zn2, zn3, zn4, zn5, zn6] at h1
      omega
    · try simp only [zn1, zn2, zn3, zn4, zn5, zn6] at h1
      refine ce_skip ?_
      refine qe_thenC ?_
      refine ce_seq ?_
      refine ce_seq ?_
      refine ce_text (tab := []) (soft := 7) (.op 0 (.op 1 (.op 2 .nil))) rfl rfl ?_
      first | refine re_field0 rfl rfl rfl rfl rfl fo_46_0 ?_ | refine re_field rfl rfl rfl rfl rfl fo_46_0 ?_ | refine re_fieldA rfl rfl rfl rfl rfl fo_46_0 ?_
      refine re_load H rfl rfl rfl rfl rfl sh_3 rfl ?_
      refine re_bin rfl rfl rfl rfl rfl rfl rfl ?_
      refine re_nil ?_
      refine qe_thenC ?_
      refine ce_cond rfl (fun h2 => ?_) (fun h2 => ?_)
      · try simp only [zn1, zn2, zn3, zn4, zn5, zn6] at h2
        omega
      · try simp only [zn1, zn2, zn3, zn4, zn5, zn6] at h2
        refine ce_skip ?_
        refine qe_thenC ?_
        refine ce_seq ?_
        refine ce_seq ?_
        refine ce_text (tab := []) (soft := 127) (.op 0 (.op 1 (.op 2 (.op 3 (.op 4 (.op 5 (.op 6 .nil))))))) rfl rfl ?_
        refine re_move rfl rfl rfl rfl rfl ?_
        refine re_nilc rfl rfl rfl rfl rfl ?_
        first | refine re_field0 rfl rfl rfl rfl rfl fo_54_10 ?_ | refine re_field rfl rfl rfl rfl rfl fo_54_10 ?_ | refine re_fieldA rfl rfl rfl rfl rfl fo_54_10 ?_
        refine re_load H rfl rfl rfl rfl rfl sh_51 rfl ?_
        refine re_move rfl rfl rfl rfl rfl ?_
        refine re_indexL rfl rfl rfl rfl rfl rfl ul_51 ei_51 (by omega) (by omega) ?_
        refine re_load H rfl rfl rfl rfl rfl sh_4 (rd_one Value.bool (by omega)) ?_
        refine re_nil ?_
        refine qe_thenC ?_
        refine ce_cond rfl (fun h3 => ?_) (fun h3 => ?_)
        · try simp only [zn1, zn2, zn3, zn4, zn5, zn6] at h3
          simp_all
        · try simp only [zn1, zn2, zn3, zn4, zn5, zn6] at h3
          refine ce_skip ?_
          refine qe_thenC ?_
          refine ce_seq ?_
          refine ce_open (tab := [0, 1, 3, 0, 8, 24, 56, 127, 255, 511, 1023, 2047, 511, 4607, 12799, 29183, 65535, 131071, 262143]) (soft := 524287) mixed (.op 0 (.op 1 (.op 2 (.op 3 (.op 4 (.op 5 (.op 6 (.op 7 (.op 8 (.op 9 (.op 10 (.op 11 (.op 12 (.op 13 (.op 14 (.op 15 (.op 16 (.op 17 (.op 18 .nil))))))))))))))))))) (by kernel_rfl) H ?_
          intro w H
          first | refine re_field0 rfl rfl rfl rfl rfl fo_46_6 ?_ | refine re_field rfl rfl rfl rfl rfl fo_46_6 ?_ | refine re_fieldA rfl rfl rfl rfl rfl fo_46_6 ?_
          first | refine re_field0 rfl rfl rfl rfl rfl fo_38_0 ?_ | refine re_field rfl rfl rfl rfl rfl fo_38_0 ?_ | refine re_fieldA rfl rfl rfl rfl rfl fo_38_0 ?_
          refine re_load H rfl rfl rfl rfl rfl sh_3 rfl ?_
          refine re_move rfl rfl rfl rfl rfl ?_
          refine re_nilc rfl rfl rfl rfl rfl ?_
          first | refine re_field0 rfl rfl rfl rfl rfl fo_54_6 ?_ | refine re_field rfl rfl rfl rfl rfl fo_54_6 ?_ | refine re_fieldA rfl rfl rfl rfl rfl fo_54_6 ?_
          refine re_load H rfl rfl rfl rfl rfl sh_3 rfl ?_
          refine re_bin rfl rfl rfl rfl rfl rfl rfl ?_
          refine re_move rfl rfl rfl rfl rfl ?_
          refine re_split (fun hg16_8 => ?_) (fun hg16_8 => ?_)
          ·
            first | refine re_field0 rfl rfl rfl rfl rfl fo_46_6 ?_ | refine re_field rfl rfl rfl rfl rfl fo_46_6 ?_ | refine re_fieldA rfl rfl rfl rfl rfl fo_46_6 ?_
            first | refine re_field0 rfl rfl rfl rfl rfl fo_38_1 ?_ | refine re_field rfl rfl rfl rfl rfl fo_38_1 ?_ | refine re_fieldA rfl rfl rfl rfl rfl fo_38_1 ?_
            refine re_load H rfl rfl rfl rfl rfl sh_3 rfl ?_
            refine re_move rfl rfl rfl rfl rfl ?_
            refine re_nilc rfl rfl rfl rfl rfl ?_
            first | refine re_field0 rfl rfl rfl rfl rfl fo_54_0 ?_ | refine re_field rfl rfl rfl rfl rfl fo_54_0 ?_ | refine re_fieldA rfl rfl rfl rfl rfl fo_54_0 ?_
            refine re_load H rfl rfl rfl rfl rfl sh_3 rfl ?_
            refine re_bin rfl rfl rfl rfl rfl rfl rfl ?_
            refine re_pickT rfl rfl rfl rfl rfl rfl ?_
            refine re_assign rfl rfl rfl rfl rfl ?_
            refine re_nil ?_
            refine qe_noPanic ?_
            refine qe_thenC ?_
            refine ce_seq ?_
            refine ce_seq ?_
            refine ce_text (tab := []) (soft := 7) (.op 0 (.op 1 (.op 2 .nil))) rfl rfl ?_
            first | refine re_field0 rfl rfl rfl rfl rfl fo_46_0 ?_ | refine re_field rfl rfl rfl rfl rfl fo_46_0 ?_ | refine re_fieldA rfl rfl rfl rfl rfl fo_46_0 ?_
            refine re_load H rfl rfl rfl rfl rfl sh_3 rfl ?_
            refine re_bin rfl rfl rfl rfl rfl rfl rfl ?_
            refine re_nil ?_
            refine qe_thenC ?_
            refine ce_cond rfl (fun h4 => ?_) (fun h4 => ?_)
            · try simp only [zn1, zn2, zn3, zn4, zn5, zn6] at h4
              refine ce_seq ?_
              refine ce_text (tab := []) (soft := 63) (.op 0 (.op 1 (.op 2 (.op 3 (.op 4 (.op 5 (.op 6 .nil))))))) rfl rfl ?_
              refine re_move rfl rfl rfl rfl rfl ?_
              refine re_nilc rfl rfl rfl rfl rfl ?_
              first | refine re_field0 rfl rfl rfl rfl rfl fo_54_10 ?_ | refine re_field rfl rfl rfl rfl rfl fo_54_10 ?_ | refine re_fieldA rfl rfl rfl rfl rfl fo_54_10 ?_
              refine re_load H rfl rfl rfl rfl rfl sh_51 rfl ?_
              refine re_move rfl rfl rfl rfl rfl ?_
              refine re_indexL rfl rfl rfl rfl rfl rfl ul_51 ei_51 (by omega) (by omega) ?_
              refine re_store H rfl rfl rfl rfl rfl rfl sh_4 rfl (Nat.ble_eq_true_of_le (by simp; omega)) rfl ?_
              intro cs w hcs H
              replace hcs := (set_one (l := r.ans) (k := k) Value.bool true).symm.trans hcs
              subst hcs
              refine ⟨(fun h => (nomatch h)), ?_⟩
              refine re_nil ?_
              refine qe_thenC ?_
              refine ce_seq ?_
              refine ce_text (tab := []) (soft := 7) (.op 0 (.op 1 (.op 2 (.op 3 .nil)))) rfl rfl ?_
              refine re_move rfl rfl rfl rfl rfl ?_
              refine re_nilc rfl rfl rfl rfl rfl ?_
              first | refine re_field0 rfl rfl rfl rfl rfl fo_54_14 ?_ | refine re_field rfl rfl rfl rfl rfl fo_54_14 ?_ | refine re_fieldA rfl rfl rfl rfl rfl fo_54_14 ?_
              refine re_store H rfl rfl rfl rfl rfl rfl sh_4 rfl rfl rfl ?_
              intro cs w hcs H
              first | rw [setMany_whole rfl] at hcs | simp only [setMany, List.set_cons_zero, List.set_cons_succ, Nat.reduceAdd, Nat.zero_add, PS.cells, PS.over, GM.cells, Cmd.cells, List.cons_append, List.nil_append, RS.cellsV, RS.ch, stC] at hcs
              subst hcs
              refine ⟨(fun h => (nomatch h)), ?_⟩
              refine re_nil ?_
              refine qe_thenC ?_
              refine ce_seq ?_
              refine ce_seq ?_
              refine ce_open (tab := [0, 1, 3, 0, 8, 24, 56, 127]) (soft := 255) mixed (.op 0 (.op 1 (.op 2 (.op 3 (.op 4 (.op 5 (.op 6 (.op 7 .nil)))))))) (by kernel_rfl) H ?_
              intro w H
              first | refine re_field0 rfl rfl rfl rfl rfl fo_46_6 ?_ | refine re_field rfl rfl rfl rfl rfl fo_46_6 ?_ | refine re_fieldA rfl rfl rfl rfl rfl fo_46_6 ?_
              first | refine re_field0 rfl rfl rfl rfl rfl fo_38_0 ?_ | refine re_field rfl rfl rfl rfl rfl fo_38_0 ?_ | refine re_fieldA rfl rfl rfl rfl rfl fo_38_0 ?_
              refine re_load H rfl rfl rfl rfl rfl sh_3 rfl ?_
              refine re_move rfl rfl rfl rfl rfl ?_
              refine re_nilc rfl rfl rfl rfl rfl ?_
              first | refine re_field0 rfl rfl rfl rfl rfl fo_54_8 ?_ | refine re_field rfl rfl rfl rfl rfl fo_54_8 ?_ | refine re_fieldA rfl rfl rfl rfl rfl fo_54_8 ?_
              refine re_load H rfl rfl rfl rfl rfl sh_3 rfl ?_
              refine re_bin rfl rfl rfl rfl rfl rfl rfl ?_
              refine re_nil ?_
              refine qe_noPanic ?_
              refine qe_thenC ?_
              refine ce_cond rfl (fun h5 => ?_) (fun h5 => ?_)
              · try simp only [zn1, zn2, zn3, zn4, zn5, zn6] at h5
                have hmx : max r.nt m.s0 = m.s0 := by omega
                refine ce_text (tab := []) (soft := 63) (.op 0 (.op 1 (.op 2 (.op 3 (.op 4 (.op 5 (.op 6 .nil))))))) rfl rfl ?_
                refine re_move rfl rfl rfl rfl rfl ?_
                first | refine re_field0 rfl rfl rfl rfl rfl fo_46_6 ?_ | refine re_field rfl rfl rfl rfl rfl fo_46_6 ?_ | refine re_fieldA rfl rfl rfl rfl rfl fo_46_6 ?_
                first | refine re_field0 rfl rfl rfl rfl rfl fo_38_0 ?_ | refine re_field rfl rfl rfl rfl rfl fo_38_0 ?_ | refine re_fieldA rfl rfl rfl rfl rfl fo_38_0 ?_
                refine re_load H rfl rfl rfl rfl rfl sh_3 rfl ?_
                refine re_nilc rfl rfl rfl rfl rfl ?_
                first | refine re_field0 rfl rfl rfl rfl rfl fo_54_8 ?_ | refine re_field rfl rfl rfl rfl rfl fo_54_8 ?_ | refine re_fieldA rfl rfl rfl rfl rfl fo_54_8 ?_
                refine re_store H rfl rfl rfl rfl rfl rfl sh_3 rfl rfl rfl ?_
                intro cs w hcs H
                first | rw [setMany_whole rfl] at hcs | simp only [setMany, List.set_cons_zero, List.set_cons_succ, Nat.reduceAdd, Nat.zero_add, PS.cells, PS.over, GM.cells, Cmd.cells, List.cons_append, List.nil_append, RS.cellsV, RS.ch, stC] at hcs
                subst hcs
                refine ⟨(fun h => (nomatch h)), ?_⟩
                refine re_nil ?_
                refine qe_thenC ?_
                refine ce_seq ?_
                refine ce_text (tab := []) (soft := 1) (.op 0 .nil) rfl rfl ?_
                refine re_assign rfl rfl rfl rfl rfl ?_
                refine re_nil ?_
                refine qe_thenC ?_
                refine ce_ret ?_
                refine qe_then_ret ?_
                refine qe_end rfl rfl ?_
                simp only [RS.nack, hmx]
                exact ⟨rfl, H.sub (.cons_cons _ (.cons_cons _ (.cons_cons _ (.cons_cons _ (.cons_cons _ (.cons_cons _ (.cons _ (List.Sublist.refl _))))))))⟩
              · try simp only [zn1, zn2, zn3, zn4, zn5, zn6] at h5
                have hmx : max r.nt m.s0 = r.nt := by omega
                refine ce_skip ?_
                refine qe_thenC ?_
                refine ce_seq ?_
                refine ce_text (tab := []) (soft := 1) (.op 0 .nil) rfl rfl ?_
                refine re_assign rfl rfl rfl rfl rfl ?_
                refine re_nil ?_
                refine qe_thenC ?_
                refine ce_ret ?_
                refine qe_then_ret ?_
                refine qe_end rfl rfl ?_
                simp only [RS.nack, hmx]
                exact ⟨rfl, H.sub (.cons_cons _ (.cons_cons _ (.cons_cons _ (.cons_cons _ (.cons_cons _ (.cons_cons _ (.cons _ (List.Sublist.refl _))))))))⟩
            · try simp only [zn1, zn2, zn3, zn4, zn5, zn6] at h4
              omega
          ·
            refine re_skip1 rfl rfl rfl ?_
            refine re_skip1 rfl rfl rfl ?_
            refine re_skip1 rfl rfl rfl ?_
            refine re_skip1 rfl rfl rfl ?_
            refine re_skip1 rfl rfl rfl ?_
            refine re_skip1 rfl rfl rfl ?_
            refine re_skip1 rfl rfl rfl ?_
            refine re_skip1 rfl rfl rfl ?_
            refine re_pickF rfl rfl rfl rfl rfl rfl ?_
            refine re_assign rfl rfl rfl rfl rfl ?_
            refine re_nil ?_
            refine qe_noPanic ?_
            refine qe_thenC ?_
            refine ce_seq ?_
            refine ce_seq ?_
            refine ce_text (tab := []) (soft := 7) (.op 0 (.op 1 (.op 2 .nil))) rfl rfl ?_
            first | refine re_field0 rfl rfl rfl rfl rfl fo_46_0 ?_ | refine re_field rfl rfl rfl rfl rfl fo_46_0 ?_ | refine re_fieldA rfl rfl rfl rfl rfl fo_46_0 ?_
            refine re_load H rfl rfl rfl rfl rfl sh_3 rfl ?_
            refine re_bin rfl rfl rfl rfl rfl rfl rfl ?_
            refine re_nil ?_
            refine qe_thenC ?_
            refine ce_cond rfl (fun h4 => ?_) (fun h4 => ?_)
            · try simp only [zn1, zn2, zn3, zn4, zn5, zn6] at h4
              refine ce_seq ?_
              refine ce_text (tab := []) (soft := 63) (.op 0 (.op 1 (.op 2 (.op 3 (.op 4 (.op 5 (.op 6 .nil))))))) rfl rfl ?_
              refine re_move rfl rfl rfl rfl rfl ?_
              refine re_nilc rfl rfl rfl rfl rfl ?_
              first | refine re_field0 rfl rfl rfl rfl rfl fo_54_10 ?_ | refine re_field rfl rfl rfl rfl rfl fo_54_10 ?_ | refine re_fieldA rfl rfl rfl rfl rfl fo_54_10 ?_
              refine re_load H rfl rfl rfl rfl rfl sh_51 rfl ?_
              refine re_move rfl rfl rfl rfl rfl ?_
              refine re_indexL rfl rfl rfl rfl rfl rfl ul_51 ei_51 (by omega) (by omega) ?_
              refine re_store H rfl rfl rfl rfl rfl rfl sh_4 rfl (Nat.ble_eq_true_of_le (by simp; omega)) rfl ?_
              intro cs w hcs H
              replace hcs := (set_one (l := r.ans) (k := k) Value.bool true).symm.trans hcs
              subst hcs
              refine ⟨(fun h => (nomatch h)), ?_⟩
              refine re_nil ?_
              refine qe_thenC ?_
              refine ce_seq ?_
              refine ce_text (tab := []) (soft := 7) (.op 0 (.op 1 (.op 2 (.op 3 .nil)))) rfl rfl ?_
              refine re_move rfl rfl rfl rfl rfl ?_
              refine re_nilc rfl rfl rfl rfl rfl ?_
              first | refine re_field0 rfl rfl rfl rfl rfl fo_54_14 ?_ | refine re_field rfl rfl rfl rfl rfl fo_54_14 ?_ | refine re_fieldA rfl rfl rfl rfl rfl fo_54_14 ?_
              refine re_store H rfl rfl rfl rfl rfl rfl sh_4 rfl rfl rfl ?_
              intro cs w hcs H
              first | rw [setMany_whole rfl] at hcs | simp only [setMany, List.set_cons_zero, List.set_cons_succ, Nat.reduceAdd, Nat.zero_add, PS.cells, PS.over, GM.cells, Cmd.cells, List.cons_append, List.nil_append, RS.cellsV, RS.ch, stC] at hcs
              subst hcs
              refine ⟨(fun h => (nomatch h)), ?_⟩
              refine re_nil ?_
              refine qe_thenC ?_
              refine ce_seq ?_
              refine ce_seq ?_
              refine ce_open (tab := [0, 1, 3, 0, 8, 24, 56, 127]) (soft := 255) mixed (.op 0 (.op 1 (.op 2 (.op 3 (.op 4 (.op 5 (.op 6 (.op 7 .nil)))))))) (by kernel_rfl) H ?_
              intro w H
              first | refine re_field0 rfl rfl rfl rfl rfl fo_46_6 ?_ | refine re_field rfl rfl rfl rfl rfl fo_46_6 ?_ | refine re_fieldA rfl rfl rfl rfl rfl fo_46_6 ?_
              first | refine re_field0 rfl rfl rfl rfl rfl fo_38_0 ?_ | refine re_field rfl rfl rfl rfl rfl fo_38_0 ?_ | refine re_fieldA rfl rfl rfl rfl rfl fo_38_0 ?_
              refine re_load H rfl rfl rfl rfl rfl sh_3 rfl ?_
              refine re_move rfl rfl rfl rfl rfl ?_
              refine re_nilc rfl rfl rfl rfl rfl ?_
              first | refine re_field0 rfl rfl rfl rfl rfl fo_54_8 ?_ | refine re_field rfl rfl rfl rfl rfl fo_54_8 ?_ | refine re_fieldA rfl rfl rfl rfl rfl fo_54_8 ?_
              refine re_load H rfl rfl rfl rfl rfl sh_3 rfl ?_
              refine re_bin rfl rfl rfl rfl rfl rfl rfl ?_
              refine re_nil ?_
              refine qe_noPanic ?_
              refine qe_thenC ?_
              refine ce_cond rfl (fun h5 => ?_) (fun h5 => ?_)
              · try simp only [zn1, zn2, zn3, zn4, zn5, zn6] at h5
                have hmx : max r.nt m.s0 = m.s0 := by omega
                refine ce_text (tab := []) (soft := 63) (.op 0 (.op 1 (.op 2 (.op 3 (.op 4 (.op 5 (.op 6 .nil))))))) rfl rfl ?_
                refine re_move rfl rfl rfl rfl rfl ?_
                first | refine re_field0 rfl rfl rfl rfl rfl fo_46_6 ?_ | refine re_field rfl rfl rfl rfl rfl fo_46_6 ?_ | refine re_fieldA rfl rfl rfl rfl rfl fo_46_6 ?_
                first | refine re_field0 rfl rfl rfl rfl rfl fo_38_0 ?_ | refine re_field rfl rfl rfl rfl rfl fo_38_0 ?_ | refine re_fieldA rfl rfl rfl rfl rfl fo_38_0 ?_
                refine re_load H rfl rfl rfl rfl rfl sh_3 rfl ?_
                refine re_nilc rfl rfl rfl rfl rfl ?_
                first | refine re_field0 rfl rfl rfl rfl rfl fo_54_8 ?_ | refine re_field rfl rfl rfl rfl rfl fo_54_8 ?_ | refine re_fieldA rfl rfl rfl rfl rfl fo_54_8 ?_
                refine re_store H rfl rfl rfl rfl rfl rfl sh_3 rfl rfl rfl ?_
                intro cs w hcs H
                first | rw [setMany_whole rfl] at hcs | simp only [setMany, List.set_cons_zero, List.set_cons_succ, Nat.reduceAdd, Nat.zero_add, PS.cells, PS.over, GM.cells, Cmd.cells, List.cons_append, List.nil_append, RS.cellsV, RS.ch, stC] at hcs
                subst hcs
                refine ⟨(fun h => (nomatch h)), ?_⟩
                refine re_nil ?_
                refine qe_thenC ?_
                refine ce_seq ?_
                refine ce_text (tab := []) (soft := 1) (.op 0 .nil) rfl rfl ?_
                refine re_assign rfl rfl rfl rfl rfl ?_
                refine re_nil ?_
                refine qe_thenC ?_
                refine ce_ret ?_
                refine qe_then_ret ?_
                refine qe_end rfl rfl ?_
                simp only [RS.nack, hmx]
                exact ⟨rfl, H.sub (.cons_cons _ (.cons_cons _ (.cons_cons _ (.cons_cons _ (.cons_cons _ (.cons_cons _ (.cons _ (List.Sublist.refl _))))))))⟩
              · try simp only [zn1, zn2, zn3, zn4, zn5, zn6] at h5
                have hmx : max r.nt m.s0 = r.nt := by omega
                refine ce_skip ?_
                refine qe_thenC ?_
                refine ce_seq ?_
                refine ce_text (tab := []) (soft := 1) (.op 0 .nil) rfl rfl ?_
                refine re_assign rfl rfl rfl rfl rfl ?_
                refine re_nil ?_
                refine qe_thenC ?_
                refine ce_ret ?_
                refine qe_then_ret ?_
                refine qe_end rfl rfl ?_
                simp only [RS.nack, hmx]
                exact ⟨rfl, H.sub (.cons_cons _ (.cons_cons _ (.cons_cons _ (.cons_cons _ (.cons_cons _ (.cons_cons _ (.cons _ (List.Sublist.refl _))))))))⟩
            · try simp only [zn1, zn2, zn3, zn4, zn5, zn6] at h4
              omega

theorem promise_few {B w : World} {F : List Ent} {h a1 a2 a3 a4 : Nat} {r : RS} {m : GM} {k : Nat} (H : Own B (.cells h 54 (r.cellsV (slv (some a1) r.gs.length r.gs.length) (slv (some a2) r.gs.length r.gs.length) (slv (some a3) r.gs.length r.gs.length) (slv (some a4) r.gs.length r.gs.length)) :: .row r.ga r.gc 3 1 r.gs.length (ints r.gs) :: .cells a1 4 (bools r.ans) :: .cells a2 4 (bools r.cnt) :: .cells a3 38 (stamps r.held) :: .cells a4 28 (cmdsC r.cms) :: F) w) (hn : r.gs.length ≤ 1000000) (hv : r.at m = (k : Int)) (hk : k < r.gs.length) (ha : r.ans.length = r.gs.length) (hc : r.cnt.length = r.gs.length) (hh : r.held.length = r.gs.length) (hm : r.cms.length = r.gs.length) (hkd : m.kind = 13) (hp : r.ph = 1) (ho0 : m.s0 = r.n) (ho1 : m.s1 = r.cl) (hs : r.ans[k]'(by omega) = false) (hq : (cntN (r.promise k m).cnt : Int) < (r.gs.length : Int) / 2 + 1) :
    Calls Try.prog 29 #[.pointer (some ⟨h, 0, none⟩), .agg m.cells.toArray] w fun e w' => e = .returned (slv none 0 0) ∧ Own B (.cells h 54 ((r.promise k m).cellsV (slv (some a1) (r.promise k m).gs.length (r.promise k m).gs.length) (slv (some a2) (r.promise k m).gs.length (r.promise k m).gs.length) (slv (some a3) (r.promise k m).gs.length (r.promise k m).gs.length) (slv (some a4) (r.promise k m).gs.length (r.promise k m).gs.length)) :: .row r.ga r.gc 3 1 r.gs.length (ints r.gs) :: .cells a1 4 (bools (r.promise k m).ans) :: .cells a2 4 (bools (r.promise k m).cnt) :: .cells a3 38 (stamps (r.promise k m).held) :: .cells a4 28 (cmdsC (r.promise k m).cms) :: F) w' := by
  refine calls_ce (args := [.pointer (some ⟨h, 0, none⟩), .agg m.cells.toArray]) Try.func29 rfl rfl ?_
  change CE _ _ 232 _ _ [(0, .pointer (some ⟨h, 0, none⟩)), (1, .agg m.cells.toArray)] _
  refine ce_seq ?_
  refine ce_text (tab := []) (soft := 2) (.op 0 (.op 1 .nil)) rfl rfl ?_
  refine re_box H rfl rfl rfl rfl rfl rfl ?_
  intro g3 w H
  refine ⟨(fun h => (nomatch h)), ?_⟩
  refine re_assign rfl rfl rfl rfl rfl ?_
  refine re_nil ?_
  refine qe_thenC ?_
  refine ce_seq ?_
  refine ce_text (tab := []) (soft := 11) (.op 0 (.op 1 (.op 2 (.op 3 .nil)))) rfl rfl ?_
  refine re_move rfl rfl rfl rfl rfl ?_
  refine re_load H rfl rfl rfl rfl rfl sh_46 (by first | exact rdAt_all rfl | (simp only [rdAt, PS.cells, PS.over, GM.cells, Cmd.cells, List.cons_append, List.nil_append, RS.cellsV, RS.ch, stC, List.drop_succ_cons, List.drop_zero, List.take_succ_cons, List.take_zero, List.length_cons, List.length_nil, Nat.zero_add, Nat.reduceAdd, Nat.reduceLeDiff, Nat.le_refl, ↓reduceIte] <;> rfl)) ?_
  refine re_call en_58 rfl rfl rfl rfl rfl ?_
  have H := Own.arr [0, 6, 6, 6, 6, 6, 6] H
  simp only [arrs, Fw.front, zm1, zm2, zm3, zm4, zm5] at H
  refine Calls.mono (place_r H hn) ?_
  rintro e w ⟨rfl, H⟩
  rw [show (if r.foreign m then (-1 : Int) else idxOf m.fi r.gs) = r.at m from rfl, hv]
  refine ⟨_, rfl, (fun h => (nomatch h)), ?_⟩
  refine re_assign rfl rfl rfl rfl rfl ?_
  refine re_nil ?_
  refine qe_thenC ?_
  refine ce_seq ?_
  refine ce_seq ?_
  refine ce_text (tab := []) (soft := 3) (.op 0 (.op 1 .nil)) rfl rfl ?_
  refine re_move rfl rfl rfl rfl rfl ?_
  refine re_bin rfl rfl rfl rfl rfl rfl rfl ?_
  refine re_nil ?_
  refine qe_thenC ?_
  refine ce_cond rfl (fun h0 => ?_) (fun h0 => ?_)
  · try simp only [zn1, zn2, zn3, zn4, zn5, zn6] at h0
    omega
  · try simp only [zn1, zn2, zn3, zn4, zn5, zn6] at h0
    refine ce_skip ?_
    refine qe_thenC ?_
    refine ce_seq ?_
    refine ce_seq ?_
    refine ce_text (tab := []) (soft := 7) (.op 0 (.op 1 (.op 2 .nil))) rfl rfl ?_
    first | refine re_field0 rfl rfl rfl rfl rfl fo_46_0 ?_ | refine re_field rfl rfl rfl rfl rfl fo_46_0 ?_ | refine re_fieldA rfl rfl rfl rfl rfl fo_46_0 ?_
    refine re_load H rfl rfl rfl rfl rfl sh_3 rfl ?_
    refine re_bin rfl rfl rfl rfl rfl rfl rfl ?_
    refine re_nil ?_
    refine qe_thenC ?_
    refine ce_cond rfl (fun h1 => ?_) (fun h1 => ?_)
    · try simp only [zn1, zn2, zn3, zn4, zn5, zn6] at h1
      omega
    · try simp only [zn1, zn2, zn3, zn4, zn5, zn6] at h1
      refine ce_skip ?_
      refine qe_thenC ?_
      refine ce_seq ?_
      refine ce_seq ?_
      refine ce_text (tab := []) (soft := 7) (.op 0 (.op 1 (.op 2 .nil))) rfl rfl ?_
      first | refine re_field0 rfl rfl rfl rfl rfl fo_46_0 ?_ | refine re_field rfl rfl rfl rfl rfl fo_46_0 ?_ | refine re_fieldA rfl rfl rfl rfl rfl fo_46_0 ?_
      refine re_load H rfl rfl rfl rfl rfl sh_3 rfl ?_
      refine re_bin rfl rfl rfl rfl rfl rfl rfl ?_
      refine re_nil ?_
      refine qe_thenC ?_
      refine ce_cond rfl (fun h2 => ?_) (fun h2 => ?_)
      · try simp only [zn1, zn2, zn3, zn4, zn5, zn6] at h2
        omega
      · try simp only [zn1, zn2, zn3, zn4, zn5, zn6] at h2
        refine ce_skip ?_
        refine qe_thenC ?_
        refine ce_seq ?_
        refine ce_seq ?_
        refine ce_text (tab := []) (soft := 127) (.op 0 (.op 1 (.op 2 (.op 3 (.op 4 (.op 5 (.op 6 .nil))))))) rfl rfl ?_
        refine re_move rfl rfl rfl rfl rfl ?_
        refine re_nilc rfl rfl rfl rfl rfl ?_
        first | refine re_field0 rfl rfl rfl rfl rfl fo_54_10 ?_ | refine re_field rfl rfl rfl rfl rfl fo_54_10 ?_ | refine re_fieldA rfl rfl rfl rfl rfl fo_54_10 ?_
        refine re_load H rfl rfl rfl rfl rfl sh_51 rfl ?_
        refine re_move rfl rfl rfl rfl rfl ?_
        refine re_indexL rfl rfl rfl rfl rfl rfl ul_51 ei_51 (by omega) (by omega) ?_
        refine re_load H rfl rfl rfl rfl rfl sh_4 (rd_one Value.bool (by omega)) ?_
        refine re_nil ?_
        refine qe_thenC ?_
        refine ce_cond rfl (fun h3 => ?_) (fun h3 => ?_)
        · try simp only [zn1, zn2, zn3, zn4, zn5, zn6] at h3
          simp_all
        · try simp only [zn1, zn2, zn3, zn4, zn5, zn6] at h3
          refine ce_skip ?_
          refine qe_thenC ?_
          refine ce_seq ?_
          refine ce_open (tab := [0, 1, 3, 0, 8, 24, 56, 127, 255, 511, 1023, 2047, 511, 4607, 12799, 29183, 65535, 131071, 262143]) (soft := 524287) mixed (.op 0 (.op 1 (.op 2 (.op 3 (.op 4 (.op 5 (.op 6 (.op 7 (.op 8 (.op 9 (.op 10 (.op 11 (.op 12 (.op 13 (.op 14 (.op 15 (.op 16 (.op 17 (.op 18 .nil))))))))))))))))))) (by kernel_rfl) H ?_
          intro w H
          first | refine re_field0 rfl rfl rfl rfl rfl fo_46_6 ?_ | refine re_field rfl rfl rfl rfl rfl fo_46_6 ?_ | refine re_fieldA rfl rfl rfl rfl rfl fo_46_6 ?_
          first | refine re_field0 rfl rfl rfl rfl rfl fo_38_0 ?_ | refine re_field rfl rfl rfl rfl rfl fo_38_0 ?_ | refine re_fieldA rfl rfl rfl rfl rfl fo_38_0 ?_
          refine re_load H rfl rfl rfl rfl rfl sh_3 rfl ?_
          refine re_move rfl rfl rfl rfl rfl ?_
          refine re_nilc rfl rfl rfl rfl rfl ?_
          first | refine re_field0 rfl rfl rfl rfl rfl fo_54_6 ?_ | refine re_field rfl rfl rfl rfl rfl fo_54_6 ?_ | refine re_fieldA rfl rfl rfl rfl rfl fo_54_6 ?_
          refine re_load H rfl rfl rfl rfl rfl sh_3 rfl ?_
          refine re_bin rfl rfl rfl rfl rfl rfl rfl ?_
          have ho2 : decide (m.s0 = r.n) = true := by simp [ho0]
          simp only [ho2]
          refine re_move rfl rfl rfl rfl rfl ?_
          first | refine re_field0 rfl rfl rfl rfl rfl fo_46_6 ?_ | refine re_field rfl rfl rfl rfl rfl fo_46_6 ?_ | refine re_fieldA rfl rfl rfl rfl rfl fo_46_6 ?_
          first | refine re_field0 rfl rfl rfl rfl rfl fo_38_1 ?_ | refine re_field rfl rfl rfl rfl rfl fo_38_1 ?_ | refine re_fieldA rfl rfl rfl rfl rfl fo_38_1 ?_
          refine re_load H rfl rfl rfl rfl rfl sh_3 rfl ?_
          refine re_move rfl rfl rfl rfl rfl ?_
          refine re_nilc rfl rfl rfl rfl rfl ?_
          first | refine re_field0 rfl rfl rfl rfl rfl fo_54_0 ?_ | refine re_field rfl rfl rfl rfl rfl fo_54_0 ?_ | refine re_fieldA rfl rfl rfl rfl rfl fo_54_0 ?_
          refine re_load H rfl rfl rfl rfl rfl sh_3 rfl ?_
          refine re_bin rfl rfl rfl rfl rfl rfl rfl ?_
          have ho3 : decide (m.s1 = r.cl) = true := by simp [ho1]
          simp only [ho3]
          refine re_pickT rfl rfl rfl rfl rfl rfl ?_
          refine re_assign rfl rfl rfl rfl rfl ?_
          refine re_nil ?_
          refine qe_noPanic ?_
          refine qe_thenC ?_
          refine ce_seq ?_
          refine ce_seq ?_
          refine ce_text (tab := []) (soft := 7) (.op 0 (.op 1 (.op 2 .nil))) rfl rfl ?_
          first | refine re_field0 rfl rfl rfl rfl rfl fo_46_0 ?_ | refine re_field rfl rfl rfl rfl rfl fo_46_0 ?_ | refine re_fieldA rfl rfl rfl rfl rfl fo_46_0 ?_
          refine re_load H rfl rfl rfl rfl rfl sh_3 rfl ?_
          refine re_bin rfl rfl rfl rfl rfl rfl rfl ?_
          refine re_nil ?_
          refine qe_thenC ?_
          refine ce_cond rfl (fun h4 => ?_) (fun h4 => ?_)
          · try simp only [zn1, zn2, zn3, zn4, zn5, zn6] at h4
            omega
          · try simp only [zn1, zn2, zn3, zn4, zn5, zn6] at h4
            refine ce_skip ?_
            refine qe_thenC ?_
            refine ce_seq ?_
            refine ce_seq ?_
            refine ce_text (tab := []) (soft := 8191) (.op 0 (.op 1 (.op 2 (.op 3 (.op 4 (.op 5 (.op 6 (.op 7 (.op 8 (.op 9 (.op 10 (.op 11 (.op 12 .nil))))))))))))) rfl rfl ?_
            first | refine re_field0 rfl rfl rfl rfl rfl fo_46_0 ?_ | refine re_field rfl rfl rfl rfl rfl fo_46_0 ?_ | refine re_fieldA rfl rfl rfl rfl rfl fo_46_0 ?_
            refine re_load H rfl rfl rfl rfl rfl sh_3 rfl ?_
            refine re_bin rfl rfl rfl rfl rfl rfl rfl ?_
            have hk13 : decide (m.kind = 13) = true := by simp [hkd]
            simp only [hk13]
            refine re_move rfl rfl rfl rfl rfl ?_
            refine re_move rfl rfl rfl rfl rfl ?_
            refine re_pickT rfl rfl rfl rfl rfl rfl ?_
            refine re_move rfl rfl rfl rfl rfl ?_
            refine re_move rfl rfl rfl rfl rfl ?_
            refine re_nilc rfl rfl rfl rfl rfl ?_
            first | refine re_field0 rfl rfl rfl rfl rfl fo_54_9 ?_ | refine re_field rfl rfl rfl rfl rfl fo_54_9 ?_ | refine re_fieldA rfl rfl rfl rfl rfl fo_54_9 ?_
            refine re_load H rfl rfl rfl rfl rfl sh_3 rfl ?_
            refine re_bin rfl rfl rfl rfl rfl rfl rfl ?_
            have hph : decide (r.ph = 1) = true := by simp [hp]
            simp only [hph]
            refine re_pickT rfl rfl rfl rfl rfl rfl ?_
            refine re_nil ?_
            refine qe_thenC ?_
            refine ce_condT rfl ?_
            refine ce_seq ?_
            refine ce_text (tab := []) (soft := 63) (.op 0 (.op 1 (.op 2 (.op 3 (.op 4 (.op 5 (.op 6 .nil))))))) rfl rfl ?_
            refine re_move rfl rfl rfl rfl rfl ?_
            refine re_nilc rfl rfl rfl rfl rfl ?_
            first | refine re_field0 rfl rfl rfl rfl rfl fo_54_10 ?_ | refine re_field rfl rfl rfl rfl rfl fo_54_10 ?_ | refine re_fieldA rfl rfl rfl rfl rfl fo_54_10 ?_
            refine re_load H rfl rfl rfl rfl rfl sh_51 rfl ?_
            refine re_move rfl rfl rfl rfl rfl ?_
            refine re_indexL rfl rfl rfl rfl rfl rfl ul_51 ei_51 (by omega) (by omega) ?_
            refine re_store H rfl rfl rfl rfl rfl rfl sh_4 rfl (Nat.ble_eq_true_of_le (by simp; omega)) rfl ?_
            intro cs w hcs H
            replace hcs := (set_one (l := r.ans) (k := k) Value.bool true).symm.trans hcs
            subst hcs
            refine ⟨(fun h => (nomatch h)), ?_⟩
            refine re_nil ?_
            refine qe_thenC ?_
            refine ce_seq ?_
            refine ce_text (tab := []) (soft := 63) (.op 0 (.op 1 (.op 2 (.op 3 (.op 4 (.op 5 (.op 6 .nil))))))) rfl rfl ?_
            refine re_move rfl rfl rfl rfl rfl ?_
            refine re_nilc rfl rfl rfl rfl rfl ?_
            first | refine re_field0 rfl rfl rfl rfl rfl fo_54_11 ?_ | refine re_field rfl rfl rfl rfl rfl fo_54_11 ?_ | refine re_fieldA rfl rfl rfl rfl rfl fo_54_11 ?_
            refine re_load H rfl rfl rfl rfl rfl sh_51 rfl ?_
            refine re_move rfl rfl rfl rfl rfl ?_
            refine re_indexL rfl rfl rfl rfl rfl rfl ul_51 ei_51 (by omega) (by omega) ?_
            refine re_store H rfl rfl rfl rfl rfl rfl sh_4 rfl (Nat.ble_eq_true_of_le (by simp; omega)) rfl ?_
            intro cs w hcs H
            replace hcs := (set_one (l := r.cnt) (k := k) Value.bool true).symm.trans hcs
            subst hcs
            refine ⟨(fun h => (nomatch h)), ?_⟩
            refine re_nil ?_
            refine qe_thenC ?_
            refine ce_seq ?_
            refine ce_open (tab := [0, 1, 3, 7, 0, 0, 32, 127, 255]) (soft := 255) mixed (.op 0 (.op 1 (.op 2 (.op 3 (.op 4 (.op 5 (.op 6 (.op 7 (.op 8 .nil))))))))) (by kernel_rfl) H ?_
            intro w H
            refine re_move rfl rfl rfl rfl rfl ?_
            refine re_nilc rfl rfl rfl rfl rfl ?_
            first | refine re_field0 rfl rfl rfl rfl rfl fo_54_12 ?_ | refine re_field rfl rfl rfl rfl rfl fo_54_12 ?_ | refine re_fieldA rfl rfl rfl rfl rfl fo_54_12 ?_
            refine re_load H rfl rfl rfl rfl rfl sh_52 rfl ?_
            refine re_move rfl rfl rfl rfl rfl ?_
            first | refine re_field0 rfl rfl rfl rfl rfl fo_46_7 ?_ | refine re_field rfl rfl rfl rfl rfl fo_46_7 ?_ | refine re_fieldA rfl rfl rfl rfl rfl fo_46_7 ?_
            refine re_load H rfl rfl rfl rfl rfl sh_38 (by first | exact rdAt_all rfl | (simp only [rdAt, PS.cells, PS.over, GM.cells, Cmd.cells, List.cons_append, List.nil_append, RS.cellsV, RS.ch, stC, List.drop_succ_cons, List.drop_zero, List.take_succ_cons, List.take_zero, List.length_cons, List.length_nil, Nat.zero_add, Nat.reduceAdd, Nat.reduceLeDiff, Nat.le_refl, ↓reduceIte] <;> rfl)) ?_
            refine re_indexL rfl rfl rfl rfl rfl rfl ul_52 ei_52 (by omega) (by omega) ?_
            refine re_store H rfl rfl rfl rfl rfl rfl sh_38 rfl (Nat.ble_eq_true_of_le (by rw [flatMap_len stC 2 (fun _ => rfl)]; simp; omega)) rfl ?_
            intro cs w hcs H
            replace hcs := (set_flat stC 2 (fun _ => rfl) (m.h0, m.h1) r.held k (by omega)).symm.trans hcs
            subst hcs
            refine ⟨(fun _ => ⟨ancs (i := 8) (j := 6) rfl, ancs (i := 8) (j := 3) rfl, trivial⟩), ?_⟩
            refine re_nil ?_
            refine qe_noPanic ?_
            refine qe_thenC ?_
            refine ce_seq ?_
            refine ce_open (tab := [0, 1, 3, 7, 0, 0, 32, 127, 255]) (soft := 255) mixed (.op 0 (.op 1 (.op 2 (.op 3 (.op 4 (.op 5 (.op 6 (.op 7 (.op 8 .nil))))))))) (by kernel_rfl) H ?_
            intro w H
            refine re_move rfl rfl rfl rfl rfl ?_
            refine re_nilc rfl rfl rfl rfl rfl ?_
            first | refine re_field0 rfl rfl rfl rfl rfl fo_54_13 ?_ | refine re_field rfl rfl rfl rfl rfl fo_54_13 ?_ | refine re_fieldA rfl rfl rfl rfl rfl fo_54_13 ?_
            refine re_load H rfl rfl rfl rfl rfl sh_44 rfl ?_
            refine re_move rfl rfl rfl rfl rfl ?_
            first | refine re_field0 rfl rfl rfl rfl rfl fo_46_9 ?_ | refine re_field rfl rfl rfl rfl rfl fo_46_9 ?_ | refine re_fieldA rfl rfl rfl rfl rfl fo_46_9 ?_
            refine re_load H rfl rfl rfl rfl rfl sh_28 (by first | exact rdAt_all rfl | (simp only [rdAt, PS.cells, PS.over, GM.cells, Cmd.cells, List.cons_append, List.nil_append, RS.cellsV, RS.ch, stC, List.drop_succ_cons, List.drop_zero, List.take_succ_cons, List.take_zero, List.length_cons, List.length_nil, Nat.zero_add, Nat.reduceAdd, Nat.reduceLeDiff, Nat.le_refl, ↓reduceIte] <;> rfl)) ?_
            refine re_indexL rfl rfl rfl rfl rfl rfl ul_44 ei_44 (by omega) (by omega) ?_
            refine re_store H rfl rfl rfl rfl rfl rfl sh_28 rfl (Nat.ble_eq_true_of_le (by rw [flatMap_len Cmd.cells 9 (fun _ => rfl)]; simp; omega)) rfl ?_
            intro cs w hcs H
            replace hcs := (set_flat Cmd.cells 9 (fun _ => rfl) m.cmd r.cms k (by omega)).symm.trans hcs
            subst hcs
            refine ⟨(fun _ => ⟨ancs (i := 8) (j := 6) rfl, ancs (i := 8) (j := 3) rfl, trivial⟩), ?_⟩
            refine re_nil ?_
            refine qe_noPanic ?_
            refine qe_thenC ?_
            refine ce_seq ?_
            refine ce_seq ?_
            refine ce_text (tab := []) (soft := 21) (.op 0 (.op 1 (.op 2 (.op 3 (.op 4 .nil))))) rfl rfl ?_
            refine re_move rfl rfl rfl rfl rfl ?_
            refine re_call en_59 rfl rfl rfl rfl rfl ?_
            refine Calls.mono (count_r (r := r.promise k m) H hn (by simp [RS.promise, hc])) ?_
            rintro e w ⟨rfl, H⟩
            refine ⟨_, rfl, (fun h => (nomatch h)), ?_⟩
            refine re_move rfl rfl rfl rfl rfl ?_
            refine re_call en_60 rfl rfl rfl rfl rfl ?_
            refine Calls.mono (need_r (r := r.promise k m) H hn) ?_
            rintro e w ⟨rfl, H⟩
            refine ⟨_, rfl, (fun h => (nomatch h)), ?_⟩
            refine re_bin rfl rfl rfl rfl rfl rfl rfl ?_
            refine re_nil ?_
            refine qe_thenC ?_
            refine ce_cond rfl (fun h7 => ?_) (fun h7 => ?_)
            · try simp only [zn1, zn2, zn3, zn4, zn5, zn6] at h7
              refine ce_seq ?_
              refine ce_text (tab := []) (soft := 1) (.op 0 .nil) rfl rfl ?_
              refine re_assign rfl rfl rfl rfl rfl ?_
              refine re_nil ?_
              refine qe_thenC ?_
              refine ce_ret ?_
              refine qe_then_ret ?_
              refine qe_then_ret ?_
              refine qe_end rfl rfl ?_
              exact ⟨rfl, H.sub (.cons_cons _ (.cons_cons _ (.cons_cons _ (.cons_cons _ (.cons_cons _ (.cons_cons _ (.cons _ (List.Sublist.refl _))))))))⟩
            · try simp only [zn1, zn2, zn3, zn4, zn5, zn6] at h7
              exact absurd hq (by show ¬ (cntN (r.promise k m).cnt : Int) < ((r.promise k m).gs.length : Int) / 2 + 1; omega)

theorem promise_worn {B w : World} {F : List Ent} {h a1 a2 a3 a4 : Nat} {r : RS} {m : GM} {k : Nat} (H : Own B (.cells h 54 (r.cellsV (slv (some a1) r.gs.length r.gs.length) (slv (some a2) r.gs.length r.gs.length) (slv (some a3) r.gs.length r.gs.length) (slv (some a4) r.gs.length r.gs.length)) :: .row r.ga r.gc 3 1 r.gs.length (ints r.gs) :: .cells a1 4 (bools r.ans) :: .cells a2 4 (bools r.cnt) :: .cells a3 38 (stamps r.held) :: .cells a4 28 (cmdsC r.cms) :: F) w) (hn : r.gs.length ≤ 1000000) (hv : r.at m = (k : Int)) (hk : k < r.gs.length) (ha : r.ans.length = r.gs.length) (hc : r.cnt.length = r.gs.length) (hh : r.held.length = r.gs.length) (hm : r.cms.length = r.gs.length) (hkd : m.kind = 13) (hp : r.ph = 1) (ho0 : m.s0 = r.n) (ho1 : m.s1 = r.cl) (hs : r.ans[k]'(by omega) = false) (hq : (r.gs.length : Int) / 2 + 1 ≤ (cntN (r.promise k m).cnt : Int)) (hw : 1099511627776 ≤ r.rnd) :
    Calls Try.prog 29 #[.pointer (some ⟨h, 0, none⟩), .agg m.cells.toArray] w fun e w' => e = .returned (slv none 0 0) ∧ Own B (.cells h 54 ((r.promise k m).chose.worn.cellsV (slv (some a1) (r.promise k m).chose.worn.gs.length (r.promise k m).chose.worn.gs.length) (slv (some a2) (r.promise k m).chose.worn.gs.length (r.promise k m).chose.worn.gs.length) (slv (some a3) (r.promise k m).chose.worn.gs.length (r.promise k m).chose.worn.gs.length) (slv (some a4) (r.promise k m).chose.worn.gs.length (r.promise k m).chose.worn.gs.length)) :: .row r.ga r.gc 3 1 r.gs.length (ints r.gs) :: .cells a1 4 (bools (r.promise k m).ans) :: .cells a2 4 (bools (r.promise k m).cnt) :: .cells a3 38 (stamps (r.promise k m).held) :: .cells a4 28 (cmdsC (r.promise k m).cms) :: F) w' := by
  refine calls_ce (args := [.pointer (some ⟨h, 0, none⟩), .agg m.cells.toArray]) Try.func29 rfl rfl ?_
  change CE _ _ 232 _ _ [(0, .pointer (some ⟨h, 0, none⟩)), (1, .agg m.cells.toArray)] _
  refine ce_seq ?_
  refine ce_text (tab := []) (soft := 2) (.op 0 (.op 1 .nil)) rfl rfl ?_
  refine re_box H rfl rfl rfl rfl rfl rfl ?_
  intro g3 w H
  refine ⟨(fun h => (nomatch h)), ?_⟩
  refine re_assign rfl rfl rfl rfl rfl ?_
  refine re_nil ?_
  refine qe_thenC ?_
  refine ce_seq ?_
  refine ce_text (tab := []) (soft := 11) (.op 0 (.op 1 (.op 2 (.op 3 .nil)))) rfl rfl ?_
  refine re_move rfl rfl rfl rfl rfl ?_
  refine re_load H rfl rfl rfl rfl rfl sh_46 (by first | exact rdAt_all rfl | (simp only [rdAt, PS.cells, PS.over, GM.cells, Cmd.cells, List.cons_append, List.nil_append, RS.cellsV, RS.ch, stC, List.drop_succ_cons, List.drop_zero, List.take_succ_cons, List.take_zero, List.length_cons, List.length_nil, Nat.zero_add, Nat.reduceAdd, Nat.reduceLeDiff, Nat.le_refl, ↓reduceIte] <;> rfl)) ?_
  refine re_call en_58 rfl rfl rfl rfl rfl ?_
  have H := Own.arr [0, 6, 6, 6, 6, 6, 6] H
  simp only [arrs, Fw.front, zm1, zm2, zm3, zm4, zm5] at H
  refine Calls.mono (place_r H hn) ?_
  rintro e w ⟨rfl, H⟩
  rw [show (if r.foreign m then (-1 : Int) else idxOf m.fi r.gs) = r.at m from rfl, hv]
  refine ⟨_, rfl, (fun h => (nomatch h)), ?_⟩
  refine re_assign rfl rfl rfl rfl rfl ?_
  refine re_nil ?_
  refine qe_thenC ?_
  refine ce_seq ?_
  refine ce_seq ?_
  refine ce_text (tab := []) (soft := 3) (.op 0 (.op 1 .nil)) rfl rfl ?_
  refine re_move rfl rfl rfl rfl rfl ?_
  refine re_bin rfl rfl rfl rfl rfl rfl rfl ?_
  refine re_nil ?_
  refine qe_thenC ?_
  refine ce_cond rfl (fun h0 => ?_) (fun h0 => ?_)
  · try simp only [zn1, zn2, zn3, zn4, zn5, zn6] at h0
    omega
  · try simp only [zn1, zn2, zn3, zn4, zn5, zn6] at h0
    refine ce_skip ?_
    refine qe_thenC ?_
    refine ce_seq ?_
    refine ce_seq ?_
    refine ce_text (tab := []) (soft := 7) (.op 0 (.op 1 (.op 2 .nil))) rfl rfl ?_
    first | refine re_field0 rfl rfl rfl rfl rfl fo_46_0 ?_ | refine re_field rfl rfl rfl rfl rfl fo_46_0 ?_ | refine re_fieldA rfl rfl rfl rfl rfl fo_46_0 ?_
    refine re_load H rfl rfl rfl rfl rfl sh_3 rfl ?_
    refine re_bin rfl rfl rfl rfl rfl rfl rfl ?_
    refine re_nil ?_
    refine qe_thenC ?_
    refine ce_cond rfl (fun h1 => ?_) (fun h1 => ?_)
    · try simp only [zn1, zn2, zn3, zn4, zn5, zn6] at h1
      omega
    · try simp only [zn1, zn2, zn3, zn4, zn5, zn6] at h1
      refine ce_skip ?_
      refine qe_thenC ?_
      refine ce_seq ?_
      refine ce_seq ?_
      refine ce_text (tab := []) (soft := 7) (.op 0 (.op 1 (.op 2 .nil))) rfl rfl ?_
      first | refine re_field0 rfl rfl rfl rfl rfl fo_46_0 ?_ | refine re_field rfl rfl rfl rfl rfl fo_46_0 ?_ | refine re_fieldA rfl rfl rfl rfl rfl fo_46_0 ?_
      refine re_load H rfl rfl rfl rfl rfl sh_3 rfl ?_
      refine re_bin rfl rfl rfl rfl rfl rfl rfl ?_
      refine re_nil ?_
      refine qe_thenC ?_
      refine ce_cond rfl (fun h2 => ?_) (fun h2 => ?_)
      · try simp only [zn1, zn2, zn3, zn4, zn5, zn6] at h2
        omega
      · try simp only [zn1, zn2, zn3, zn4, zn5, zn6] at h2
        refine ce_skip ?_
        refine qe_thenC ?_
        refine ce_seq ?_
        refine ce_seq ?_
        refine ce_text (tab := []) (soft := 127) (.op 0 (.op 1 (.op 2 (.op 3 (.op 4 (.op 5 (.op 6 .nil))))))) rfl rfl ?_
        refine re_move rfl rfl rfl rfl rfl ?_
        refine re_nilc rfl rfl rfl rfl rfl ?_
        first | refine re_field0 rfl rfl rfl rfl rfl fo_54_10 ?_ | refine re_field rfl rfl rfl rfl rfl fo_54_10 ?_ | refine re_fieldA rfl rfl rfl rfl rfl fo_54_10 ?_
        refine re_load H rfl rfl rfl rfl rfl sh_51 rfl ?_
        refine re_move rfl rfl rfl rfl rfl ?_
        refine re_indexL rfl rfl rfl rfl rfl rfl ul_51 ei_51 (by omega) (by omega) ?_
        refine re_load H rfl rfl rfl rfl rfl sh_4 (rd_one Value.bool (by omega)) ?_
        refine re_nil ?_
        refine qe_thenC ?_
        refine ce_cond rfl (fun h3 => ?_) (fun h3 => ?_)
        · try simp only [zn1, zn2, zn3, zn4, zn5, zn6] at h3
          simp_all
        · try simp only [zn1, zn2, zn3, zn4, zn5, zn6] at h3
          refine ce_skip ?_
          refine qe_thenC ?_
          refine ce_seq ?_
          refine ce_open (tab := [0, 1, 3, 0, 8, 24, 56, 127, 255, 511, 1023, 2047, 511, 4607, 12799, 29183, 65535, 131071, 262143]) (soft := 524287) mixed (.op 0 (.op 1 (.op 2 (.op 3 (.op 4 (.op 5 (.op 6 (.op 7 (.op 8 (.op 9 (.op 10 (.op 11 (.op 12 (.op 13 (.op 14 (.op 15 (.op 16 (.op 17 (.op 18 .nil))))))))))))))))))) (by kernel_rfl) H ?_
          intro w H
          first | refine re_field0 rfl rfl rfl rfl rfl fo_46_6 ?_ | refine re_field rfl rfl rfl rfl rfl fo_46_6 ?_ | refine re_fieldA rfl rfl rfl rfl rfl fo_46_6 ?_
          first | refine re_field0 rfl rfl rfl rfl rfl fo_38_0 ?_ | refine re_field rfl rfl rfl rfl rfl fo_38_0 ?_ | refine re_fieldA rfl rfl rfl rfl rfl fo_38_0 ?_
          refine re_load H rfl rfl rfl rfl rfl sh_3 rfl ?_
          refine re_move rfl rfl rfl rfl rfl ?_
          refine re_nilc rfl rfl rfl rfl rfl ?_
          first | refine re_field0 rfl rfl rfl rfl rfl fo_54_6 ?_ | refine re_field rfl rfl rfl rfl rfl fo_54_6 ?_ | refine re_fieldA rfl rfl rfl rfl rfl fo_54_6 ?_
          refine re_load H rfl rfl rfl rfl rfl sh_3 rfl ?_
          refine re_bin rfl rfl rfl rfl rfl rfl rfl ?_
          have ho2 : decide (m.s0 = r.n) = true := by simp [ho0]
          simp only [ho2]
          refine re_move rfl rfl rfl rfl rfl ?_
          first | refine re_field0 rfl rfl rfl rfl rfl fo_46_6 ?_ | refine re_field rfl rfl rfl rfl rfl fo_46_6 ?_ | refine re_fieldA rfl rfl rfl rfl rfl fo_46_6 ?_
          first | refine re_field0 rfl rfl rfl rfl rfl fo_38_1 ?_ | refine re_field rfl rfl rfl rfl rfl fo_38_1 ?_ | refine re_fieldA rfl rfl rfl rfl rfl fo_38_1 ?_
          refine re_load H rfl rfl rfl rfl rfl sh_3 rfl ?_
          refine re_move rfl rfl rfl rfl rfl ?_
          refine re_nilc rfl rfl rfl rfl rfl ?_
          first | refine re_field0 rfl rfl rfl rfl rfl fo_54_0 ?_ | refine re_field rfl rfl rfl rfl rfl fo_54_0 ?_ | refine re_fieldA rfl rfl rfl rfl rfl fo_54_0 ?_
          refine re_load H rfl rfl rfl rfl rfl sh_3 rfl ?_
          refine re_bin rfl rfl rfl rfl rfl rfl rfl ?_
          have ho3 : decide (m.s1 = r.cl) = true := by simp [ho1]
          simp only [ho3]
          refine re_pickT rfl rfl rfl rfl rfl rfl ?_
          refine re_assign rfl rfl rfl rfl rfl ?_
          refine re_nil ?_
          refine qe_noPanic ?_
          refine qe_thenC ?_
          refine ce_seq ?_
          refine ce_seq ?_
          refine ce_text (tab := []) (soft := 7) (.op 0 (.op 1 (.op 2 .nil))) rfl rfl ?_
          first | refine re_field0 rfl rfl rfl rfl rfl fo_46_0 ?_ | refine re_field rfl rfl rfl rfl rfl fo_46_0 ?_ | refine re_fieldA rfl rfl rfl rfl rfl fo_46_0 ?_
          refine re_load H rfl rfl rfl rfl rfl sh_3 rfl ?_
          refine re_bin rfl rfl rfl rfl rfl rfl rfl ?_
          refine re_nil ?_
          refine qe_thenC ?_
          refine ce_cond rfl (fun h4 => ?_) (fun h4 => ?_)
          · try simp only [zn1, zn2, zn3, zn4, zn5, zn6] at h4
            omega
          · try simp only [zn1, zn2, zn3, zn4, zn5, zn6] at h4
            refine ce_skip ?_
            refine qe_thenC ?_
            refine ce_seq ?_
            refine ce_seq ?_
            refine ce_text (tab := []) (soft := 8191) (.op 0 (.op 1 (.op 2 (.op 3 (.op 4 (.op 5 (.op 6 (.op 7 (.op 8 (.op 9 (.op 10 (.op 11 (.op 12 .nil))))))))))))) rfl rfl ?_
            first | refine re_field0 rfl rfl rfl rfl rfl fo_46_0 ?_ | refine re_field rfl rfl rfl rfl rfl fo_46_0 ?_ | refine re_fieldA rfl rfl rfl rfl rfl fo_46_0 ?_
            refine re_load H rfl rfl rfl rfl rfl sh_3 rfl ?_
            refine re_bin rfl rfl rfl rfl rfl rfl rfl ?_
            have hk13 : decide (m.kind = 13) = true := by simp [hkd]
            simp only [hk13]
            refine re_move rfl rfl rfl rfl rfl ?_
            refine re_move rfl rfl rfl rfl rfl ?_
            refine re_pickT rfl rfl rfl rfl rfl rfl ?_
            refine re_move rfl rfl rfl rfl rfl ?_
            refine re_move rfl rfl rfl rfl rfl ?_
            refine re_nilc rfl rfl rfl rfl rfl ?_
            first | refine re_field0 rfl rfl rfl rfl rfl fo_54_9 ?_ | refine re_field rfl rfl rfl rfl rfl fo_54_9 ?_ | refine re_fieldA rfl rfl rfl rfl rfl fo_54_9 ?_
            refine re_load H rfl rfl rfl rfl rfl sh_3 rfl ?_
            refine re_bin rfl rfl rfl rfl rfl rfl rfl ?_
            have hph : decide (r.ph = 1) = true := by simp [hp]
            simp only [hph]
            refine re_pickT rfl rfl rfl rfl rfl rfl ?_
            refine re_nil ?_
            refine qe_thenC ?_
            refine ce_condT rfl ?_
            refine ce_seq ?_
            refine ce_text (tab := []) (soft := 63) (.op 0 (.op 1 (.op 2 (.op 3 (.op 4 (.op 5 (.op 6 .nil))))))) rfl rfl ?_
            refine re_move rfl rfl rfl rfl rfl ?_
            refine re_nilc rfl rfl rfl rfl rfl ?_
            first | refine re_field0 rfl rfl rfl rfl rfl fo_54_10 ?_ | refine re_field rfl rfl rfl rfl rfl fo_54_10 ?_ | refine re_fieldA rfl rfl rfl rfl rfl fo_54_10 ?_
            refine re_load H rfl rfl rfl rfl rfl sh_51 rfl ?_
            refine re_move rfl rfl rfl rfl rfl ?_
            refine re_indexL rfl rfl rfl rfl rfl rfl ul_51 ei_51 (by omega) (by omega) ?_
            refine re_store H rfl rfl rfl rfl rfl rfl sh_4 rfl (Nat.ble_eq_true_of_le (by simp; omega)) rfl ?_
            intro cs w hcs H
            replace hcs := (set_one (l := r.ans) (k := k) Value.bool true).symm.trans hcs
            subst hcs
            refine ⟨(fun h => (nomatch h)), ?_⟩
            refine re_nil ?_
            refine qe_thenC ?_
            refine ce_seq ?_
            refine ce_text (tab := []) (soft := 63) (.op 0 (.op 1 (.op 2 (.op 3 (.op 4 (.op 5 (.op 6 .nil))))))) rfl rfl ?_
            refine re_move rfl rfl rfl rfl rfl ?_
            refine re_nilc rfl rfl rfl rfl rfl ?_
            first | refine re_field0 rfl rfl rfl rfl rfl fo_54_11 ?_ | refine re_field rfl rfl rfl rfl rfl fo_54_11 ?_ | refine re_fieldA rfl rfl rfl rfl rfl fo_54_11 ?_
            refine re_load H rfl rfl rfl rfl rfl sh_51 rfl ?_
            refine re_move rfl rfl rfl rfl rfl ?_
            refine re_indexL rfl rfl rfl rfl rfl rfl ul_51 ei_51 (by omega) (by omega) ?_
            refine re_store H rfl rfl rfl rfl rfl rfl sh_4 rfl (Nat.ble_eq_true_of_le (by simp; omega)) rfl ?_
            intro cs w hcs H
            replace hcs := (set_one (l := r.cnt) (k := k) Value.bool true).symm.trans hcs
            subst hcs
            refine ⟨(fun h => (nomatch h)), ?_⟩
            refine re_nil ?_
            refine qe_thenC ?_
            refine ce_seq ?_
            refine ce_open (tab := [0, 1, 3, 7, 0, 0, 32, 127, 255]) (soft := 255) mixed (.op 0 (.op 1 (.op 2 (.op 3 (.op 4 (.op 5 (.op 6 (.op 7 (.op 8 .nil))))))))) (by kernel_rfl) H ?_
            intro w H
            refine re_move rfl rfl rfl rfl rfl ?_
            refine re_nilc rfl rfl rfl rfl rfl ?_
            first | refine re_field0 rfl rfl rfl rfl rfl fo_54_12 ?_ | refine re_field rfl rfl rfl rfl rfl fo_54_12 ?_ | refine re_fieldA rfl rfl rfl rfl rfl fo_54_12 ?_
            refine re_load H rfl rfl rfl rfl rfl sh_52 rfl ?_
            refine re_move rfl rfl rfl rfl rfl ?_
            first | refine re_field0 rfl rfl rfl rfl rfl fo_46_7 ?_ | refine re_field rfl rfl rfl rfl rfl fo_46_7 ?_ | refine re_fieldA rfl rfl rfl rfl rfl fo_46_7 ?_
            refine re_load H rfl rfl rfl rfl rfl sh_38 (by first | exact rdAt_all rfl | (simp only [rdAt, PS.cells, PS.over, GM.cells, Cmd.cells, List.cons_append, List.nil_append, RS.cellsV, RS.ch, stC, List.drop_succ_cons, List.drop_zero, List.take_succ_cons, List.take_zero, List.length_cons, List.length_nil, Nat.zero_add, Nat.reduceAdd, Nat.reduceLeDiff, Nat.le_refl, ↓reduceIte] <;> rfl)) ?_
            refine re_indexL rfl rfl rfl rfl rfl rfl ul_52 ei_52 (by omega) (by omega) ?_
            refine re_store H rfl rfl rfl rfl rfl rfl sh_38 rfl (Nat.ble_eq_true_of_le (by rw [flatMap_len stC 2 (fun _ => rfl)]; simp; omega)) rfl ?_
            intro cs w hcs H
            replace hcs := (set_flat stC 2 (fun _ => rfl) (m.h0, m.h1) r.held k (by omega)).symm.trans hcs
            subst hcs
            refine ⟨(fun _ => ⟨ancs (i := 8) (j := 6) rfl, ancs (i := 8) (j := 3) rfl, trivial⟩), ?_⟩
            refine re_nil ?_
            refine qe_noPanic ?_
            refine qe_thenC ?_
            refine ce_seq ?_
            refine ce_open (tab := [0, 1, 3, 7, 0, 0, 32, 127, 255]) (soft := 255) mixed (.op 0 (.op 1 (.op 2 (.op 3 (.op 4 (.op 5 (.op 6 (.op 7 (.op 8 .nil))))))))) (by kernel_rfl) H ?_
            intro w H
            refine re_move rfl rfl rfl rfl rfl ?_
            refine re_nilc rfl rfl rfl rfl rfl ?_
            first | refine re_field0 rfl rfl rfl rfl rfl fo_54_13 ?_ | refine re_field rfl rfl rfl rfl rfl fo_54_13 ?_ | refine re_fieldA rfl rfl rfl rfl rfl fo_54_13 ?_
            refine re_load H rfl rfl rfl rfl rfl sh_44 rfl ?_
            refine re_move rfl rfl rfl rfl rfl ?_
            first | refine re_field0 rfl rfl rfl rfl rfl fo_46_9 ?_ | refine re_field rfl rfl rfl rfl rfl fo_46_9 ?_ | refine re_fieldA rfl rfl rfl rfl rfl fo_46_9 ?_
            refine re_load H rfl rfl rfl rfl rfl sh_28 (by first | exact rdAt_all rfl | (simp only [rdAt, PS.cells, PS.over, GM.cells, Cmd.cells, List.cons_append, List.nil_append, RS.cellsV, RS.ch, stC, List.drop_succ_cons, List.drop_zero, List.take_succ_cons, List.take_zero, List.length_cons, List.length_nil, Nat.zero_add, Nat.reduceAdd, Nat.reduceLeDiff, Nat.le_refl, ↓reduceIte] <;> rfl)) ?_
            refine re_indexL rfl rfl rfl rfl rfl rfl ul_44 ei_44 (by omega) (by omega) ?_
            refine re_store H rfl rfl rfl rfl rfl rfl sh_28 rfl (Nat.ble_eq_true_of_le (by rw [flatMap_len Cmd.cells 9 (fun _ => rfl)]; simp; omega)) rfl ?_
            intro cs w hcs H
            replace hcs := (set_flat Cmd.cells 9 (fun _ => rfl) m.cmd r.cms k (by omega)).symm.trans hcs
            subst hcs
            refine ⟨(fun _ => ⟨ancs (i := 8) (j := 6) rfl, ancs (i := 8) (j := 3) rfl, trivial⟩), ?_⟩
            refine re_nil ?_
            refine qe_noPanic ?_
            refine qe_thenC ?_
            refine ce_seq ?_
            refine ce_seq ?_
            refine ce_text (tab := []) (soft := 21) (.op 0 (.op 1 (.op 2 (.op 3 (.op 4 .nil))))) rfl rfl ?_
            refine re_move rfl rfl rfl rfl rfl ?_
            refine re_call en_59 rfl rfl rfl rfl rfl ?_
            refine Calls.mono (count_r (r := r.promise k m) H hn (by simp [RS.promise, hc])) ?_
            rintro e w ⟨rfl, H⟩
            refine ⟨_, rfl, (fun h => (nomatch h)), ?_⟩
            refine re_move rfl rfl rfl rfl rfl ?_
            refine re_call en_60 rfl rfl rfl rfl rfl ?_
            refine Calls.mono (need_r (r := r.promise k m) H hn) ?_
            rintro e w ⟨rfl, H⟩
            refine ⟨_, rfl, (fun h => (nomatch h)), ?_⟩
            refine re_bin rfl rfl rfl rfl rfl rfl rfl ?_
            refine re_nil ?_
            refine qe_thenC ?_
            refine ce_cond rfl (fun h7 => ?_) (fun h7 => ?_)
            · try simp only [zn1, zn2, zn3, zn4, zn5, zn6] at h7
              exact absurd hq (by show ¬ ((r.promise k m).gs.length : Int) / 2 + 1 ≤ (cntN (r.promise k m).cnt : Int); omega)
            · try simp only [zn1, zn2, zn3, zn4, zn5, zn6] at h7
              refine ce_skip ?_
              refine qe_thenC ?_
              refine ce_seq ?_
              refine ce_text (tab := []) (soft := 1) (.op 0 (.op 1 .nil)) rfl rfl ?_
              refine re_move rfl rfl rfl rfl rfl ?_
              refine re_call en_61 rfl rfl rfl rfl rfl ?_
              refine Calls.mono (choose_r (r := r.promise k m) H hn (by simp [RS.promise, hc]) (by simp [RS.promise, hh]) (by simp [RS.promise, hm])) ?_
              rintro e w ⟨rfl, H⟩
              refine ⟨_, rfl, (fun h => (nomatch h)), ?_⟩
              refine re_nil ?_
              refine qe_thenC ?_
              refine ce_seq ?_
              refine ce_text (tab := []) (soft := 7) (.op 0 (.op 1 (.op 2 (.op 3 .nil)))) rfl rfl ?_
              refine re_move rfl rfl rfl rfl rfl ?_
              refine re_nilc rfl rfl rfl rfl rfl ?_
              first | refine re_field0 rfl rfl rfl rfl rfl fo_54_9 ?_ | refine re_field rfl rfl rfl rfl rfl fo_54_9 ?_ | refine re_fieldA rfl rfl rfl rfl rfl fo_54_9 ?_
              refine re_store H rfl rfl rfl rfl rfl rfl sh_3 rfl rfl rfl ?_
              intro cs w hcs H
              first | rw [setMany_whole rfl] at hcs | simp only [setMany, List.set_cons_zero, List.set_cons_succ, Nat.reduceAdd, Nat.zero_add, PS.cells, PS.over, GM.cells, Cmd.cells, List.cons_append, List.nil_append, RS.cellsV, RS.ch, stC] at hcs
              subst hcs
              refine ⟨(fun h => (nomatch h)), ?_⟩
              refine re_nil ?_
              refine qe_thenC ?_
              refine ce_seq ?_
              refine ce_text (tab := []) (soft := 5) (.op 0 (.op 1 (.op 2 .nil))) rfl rfl ?_
              refine re_move rfl rfl rfl rfl rfl ?_
              refine re_call en_55 rfl rfl rfl rfl rfl ?_
              refine Calls.mono (next_worn (r := (r.promise k m).chose) H hw) ?_
              rintro e w ⟨rfl, H⟩
              refine ⟨_, rfl, (fun h => (nomatch h)), ?_⟩
              refine re_assign rfl rfl rfl rfl rfl ?_
              refine re_nil ?_
              refine qe_thenC ?_
              refine ce_ret ?_
              refine qe_then_ret ?_
              refine qe_end rfl rfl ?_
              exact ⟨rfl, H.sub (.cons_cons _ (.cons_cons _ (.cons_cons _ (.cons_cons _ (.cons_cons _ (.cons_cons _ (.cons _ (List.Sublist.refl _))))))))⟩

theorem promise_next {B w : World} {F : List Ent} {h a1 a2 a3 a4 : Nat} {r : RS} {m : GM} {k : Nat} (H : Own B (.cells h 54 (r.cellsV (slv (some a1) r.gs.length r.gs.length) (slv (some a2) r.gs.length r.gs.length) (slv (some a3) r.gs.length r.gs.length) (slv (some a4) r.gs.length r.gs.length)) :: .row r.ga r.gc 3 1 r.gs.length (ints r.gs) :: .cells a1 4 (bools r.ans) :: .cells a2 4 (bools r.cnt) :: .cells a3 38 (stamps r.held) :: .cells a4 28 (cmdsC r.cms) :: F) w) (hn : r.gs.length ≤ 1000000) (hv : r.at m = (k : Int)) (hk : k < r.gs.length) (ha : r.ans.length = r.gs.length) (hc : r.cnt.length = r.gs.length) (hh : r.held.length = r.gs.length) (hm : r.cms.length = r.gs.length) (hkd : m.kind = 13) (hp : r.ph = 1) (ho0 : m.s0 = r.n) (ho1 : m.s1 = r.cl) (hs : r.ans[k]'(by omega) = false) (hq : (r.gs.length : Int) / 2 + 1 ≤ (cntN (r.promise k m).cnt : Int)) (hw : r.rnd < 1099511627776) (hlo : -1 ≤ r.rnd) :
    Calls Try.prog 29 #[.pointer (some ⟨h, 0, none⟩), .agg m.cells.toArray] w fun e w' => ∃ a1 a2 a3 a4 a c, e = .returned (slv a ((r.promise k m).chose.bump.clear).out.length c) ∧ Own B (.row a c 46 30 ((r.promise k m).chose.bump.clear).out.length (msgs ((r.promise k m).chose.bump.clear).out) :: .cells h 54 (((r.promise k m).chose.bump.clear).cellsV (slv (some a1) ((r.promise k m).chose.bump.clear).gs.length ((r.promise k m).chose.bump.clear).gs.length) (slv (some a2) ((r.promise k m).chose.bump.clear).gs.length ((r.promise k m).chose.bump.clear).gs.length) (slv (some a3) ((r.promise k m).chose.bump.clear).gs.length ((r.promise k m).chose.bump.clear).gs.length) (slv (some a4) ((r.promise k m).chose.bump.clear).gs.length ((r.promise k m).chose.bump.clear).gs.length)) :: .row r.ga r.gc 3 1 r.gs.length (ints r.gs) :: .cells a1 4 (bools ((r.promise k m).chose.bump.clear).ans) :: .cells a2 4 (bools ((r.promise k m).chose.bump.clear).cnt) :: .cells a3 38 (stamps ((r.promise k m).chose.bump.clear).held) :: .cells a4 28 (cmdsC ((r.promise k m).chose.bump.clear).cms) :: F) w' := by
  refine calls_ce (args := [.pointer (some ⟨h, 0, none⟩), .agg m.cells.toArray]) Try.func29 rfl rfl ?_
  change CE _ _ 232 _ _ [(0, .pointer (some ⟨h, 0, none⟩)), (1, .agg m.cells.toArray)] _
  refine ce_seq ?_
  refine ce_text (tab := []) (soft := 2) (.op 0 (.op 1 .nil)) rfl rfl ?_
  refine re_box H rfl rfl rfl rfl rfl rfl ?_
  intro g3 w H
  refine ⟨(fun h => (nomatch h)), ?_⟩
  refine re_assign rfl rfl rfl rfl rfl ?_
  refine re_nil ?_
  refine qe_thenC ?_
  refine ce_seq ?_
  refine ce_text (tab := []) (soft := 11) (.op 0 (.op 1 (.op 2 (.op 3 .nil)))) rfl rfl ?_
  refine re_move rfl rfl rfl rfl rfl ?_
  refine re_load H rfl rfl rfl rfl rfl sh_46 (by first | exact rdAt_all rfl | (simp only [rdAt, PS.cells, PS.over, GM.cells, Cmd.cells, List.cons_append, List.nil_append, RS.cellsV, RS.ch, stC, List.drop_succ_cons, List.drop_zero, List.take_succ_cons, List.take_zero, List.length_cons, List.length_nil, Nat.zero_add, Nat.reduceAdd, Nat.reduceLeDiff, Nat.le_refl, ↓reduceIte] <;> rfl)) ?_
  refine re_call en_58 rfl rfl rfl rfl rfl ?_
  have H := Own.arr [0, 6, 6, 6, 6, 6, 6] H
  simp only [arrs, Fw.front, zm1, zm2, zm3, zm4, zm5] at H
  refine Calls.mono (place_r H hn) ?_
  rintro e w ⟨rfl, H⟩
  rw [show (if r.foreign m then (-1 : Int) else idxOf m.fi r.gs) = r.at m from rfl, hv]
  refine ⟨_, rfl, (fun h => (nomatch h)), ?_⟩
  refine re_assign rfl rfl rfl rfl rfl ?_
  refine re_nil ?_
  refine qe_thenC ?_
  refine ce_seq ?_
  refine ce_seq ?_
  refine ce_text (tab := []) (soft := 3) (.op 0 (.op 1 .nil)) rfl rfl ?_
  refine re_move rfl rfl rfl rfl rfl ?_
  refine re_bin rfl rfl rfl rfl rfl rfl rfl ?_
  refine re_nil ?_
  refine qe_thenC ?_
  refine ce_cond rfl (fun h0 => ?_) (fun h0 => ?_)
  · try simp only [zn1, zn2, zn3, zn4, zn5, zn6] at h0
    omega
  · try simp only [zn1, zn2, zn3, zn4, zn5, zn6] at h0
    refine ce_skip ?_
    refine qe_thenC ?_
    refine ce_seq ?_
    refine ce_seq ?_
    refine ce_text (tab := []) (soft := 7) (.op 0 (.op 1 (.op 2 .nil))) rfl rfl ?_
    first | refine re_field0 rfl rfl rfl rfl rfl fo_46_0 ?_ | refine re_field rfl rfl rfl rfl rfl fo_46_0 ?_ | refine re_fieldA rfl rfl rfl rfl rfl fo_46_0 ?_
    refine re_load H rfl rfl rfl rfl rfl sh_3 rfl ?_
    refine re_bin rfl rfl rfl rfl rfl rfl rfl ?_
    refine re_nil ?_
    refine qe_thenC ?_
    refine ce_cond rfl (fun h1 => ?_) (fun h1 => ?_)
    · try simp only [zn1, zn2, zn3, zn4, zn5, zn6] at h1
      omega
    · try simp only [zn1, zn2, zn3, zn4, zn5, zn6] at h1
      refine ce_skip ?_
      refine qe_thenC ?_
      refine ce_seq ?_
      refine ce_seq ?_
      refine ce_text (tab := []) (soft := 7) (.op 0 (.op 1 (.op 2 .nil))) rfl rfl ?_
      first | refine re_field0 rfl rfl rfl rfl rfl fo_46_0 ?_ | refine re_field rfl rfl rfl rfl rfl fo_46_0 ?_ | refine re_fieldA rfl rfl rfl rfl rfl fo_46_0 ?_
      refine re_load H rfl rfl rfl rfl rfl sh_3 rfl ?_
      refine re_bin rfl rfl rfl rfl rfl rfl rfl ?_
      refine re_nil ?_
      refine qe_thenC ?_
      refine ce_cond rfl (fun h2 => ?_) (fun h2 => ?_)
      · try simp only [zn1, zn2, zn3, zn4, zn5, zn6] at h2
        omega
      · try simp only [zn1, zn2, zn3, zn4, zn5, zn6] at h2
        refine ce_skip ?_
        refine qe_thenC ?_
        refine ce_seq ?_
        refine ce_seq ?_
        refine ce_text (tab := []) (soft := 127) (.op 0 (.op 1 (.op 2 (.op 3 (.op 4 (.op 5 (.op 6 .nil))))))) rfl rfl ?_
        refine re_move rfl rfl rfl rfl rfl ?_
        refine re_nilc rfl rfl rfl rfl rfl ?_
        first | refine re_field0 rfl rfl rfl rfl rfl fo_54_10 ?_ | refine re_field rfl rfl rfl rfl rfl fo_54_10 ?_ | refine re_fieldA rfl rfl rfl rfl rfl fo_54_10 ?_
        refine re_load H rfl rfl rfl rfl rfl sh_51 rfl ?_
        refine re_move rfl rfl rfl rfl rfl ?_
        refine re_indexL rfl rfl rfl rfl rfl rfl ul_51 ei_51 (by omega) (by omega) ?_
        refine re_load H rfl rfl rfl rfl rfl sh_4 (rd_one Value.bool (by omega)) ?_
        refine re_nil ?_
        refine qe_thenC ?_
        refine ce_cond rfl (fun h3 => ?_) (fun h3 => ?_)
        · try simp only [zn1, zn2, zn3, zn4, zn5, zn6] at h3
          simp_all
        · try simp only [zn1, zn2, zn3, zn4, zn5, zn6] at h3
          refine ce_skip ?_
          refine qe_thenC ?_
          refine ce_seq ?_
          refine ce_open (tab := [0, 1, 3, 0, 8, 24, 56, 127, 255, 511, 1023, 2047, 511, 4607, 12799, 29183, 65535, 131071, 262143]) (soft := 524287) mixed (.op 0 (.op 1 (.op 2 (.op 3 (.op 4 (.op 5 (.op 6 (.op 7 (.op 8 (.op 9 (.op 10 (.op 11 (.op 12 (.op 13 (.op 14 (.op 15 (.op 16 (.op 17 (.op 18 .nil))))))))))))))))))) (by kernel_rfl) H ?_
          intro w H
          first | refine re_field0 rfl rfl rfl rfl rfl fo_46_6 ?_ | refine re_field rfl rfl rfl rfl rfl fo_46_6 ?_ | refine re_fieldA rfl rfl rfl rfl rfl fo_46_6 ?_
          first | refine re_field0 rfl rfl rfl rfl rfl fo_38_0 ?_ | refine re_field rfl rfl rfl rfl rfl fo_38_0 ?_ | refine re_fieldA rfl rfl rfl rfl rfl fo_38_0 ?_
          refine re_load H rfl rfl rfl rfl rfl sh_3 rfl ?_
          refine re_move rfl rfl rfl rfl rfl ?_
          refine re_nilc rfl rfl rfl rfl rfl ?_
          first | refine re_field0 rfl rfl rfl rfl rfl fo_54_6 ?_ | refine re_field rfl rfl rfl rfl rfl fo_54_6 ?_ | refine re_fieldA rfl rfl rfl rfl rfl fo_54_6 ?_
          refine re_load H rfl rfl rfl rfl rfl sh_3 rfl ?_
          refine re_bin rfl rfl rfl rfl rfl rfl rfl ?_
          have ho2 : decide (m.s0 = r.n) = true := by simp [ho0]
          simp only [ho2]
          refine re_move rfl rfl rfl rfl rfl ?_
          first | refine re_field0 rfl rfl rfl rfl rfl fo_46_6 ?_ | refine re_field rfl rfl rfl rfl rfl fo_46_6 ?_ | refine re_fieldA rfl rfl rfl rfl rfl fo_46_6 ?_
          first | refine re_field0 rfl rfl rfl rfl rfl fo_38_1 ?_ | refine re_field rfl rfl rfl rfl rfl fo_38_1 ?_ | refine re_fieldA rfl rfl rfl rfl rfl fo_38_1 ?_
          refine re_load H rfl rfl rfl rfl rfl sh_3 rfl ?_
          refine re_move rfl rfl rfl rfl rfl ?_
          refine re_nilc rfl rfl rfl rfl rfl ?_
          first | refine re_field0 rfl rfl rfl rfl rfl fo_54_0 ?_ | refine re_field rfl rfl rfl rfl rfl fo_54_0 ?_ | refine re_fieldA rfl rfl rfl rfl rfl fo_54_0 ?_
          refine re_load H rfl rfl rfl rfl rfl sh_3 rfl ?_
          refine re_bin rfl rfl rfl rfl rfl rfl rfl ?_
          have ho3 : decide (m.s1 = r.cl) = true := by simp [ho1]
          simp only [ho3]
          refine re_pickT rfl rfl rfl rfl rfl rfl ?_
          refine re_assign rfl rfl rfl rfl rfl ?_
          refine re_nil ?_
          refine qe_noPanic ?_
          refine qe_thenC ?_
          refine ce_seq ?_
          refine ce_seq ?_
          refine ce_text (tab := []) (soft := 7) (.op 0 (.op 1 (.op 2 .nil))) rfl rfl ?_
          first | refine re_field0 rfl rfl rfl rfl rfl fo_46_0 ?_ | refine re_field rfl rfl rfl rfl rfl fo_46_0 ?_ | refine re_fieldA rfl rfl rfl rfl rfl fo_46_0 ?_
          refine re_load H rfl rfl rfl rfl rfl sh_3 rfl ?_
          refine re_bin rfl rfl rfl rfl rfl rfl rfl ?_
          refine re_nil ?_
          refine qe_thenC ?_
          refine ce_cond rfl (fun h4 => ?_) (fun h4 => ?_)
          · try simp only [zn1, zn2, zn3, zn4, zn5, zn6] at h4
            omega
          · try simp only [zn1, zn2, zn3, zn4, zn5, zn6] at h4
            refine ce_skip ?_
            refine qe_thenC ?_
            refine ce_seq ?_
            refine ce_seq ?_
            refine ce_text (tab := []) (soft := 8191) (.op 0 (.op 1 (.op 2 (.op 3 (.op 4 (.op 5 (.op 6 (.op 7 (.op 8 (.op 9 (.op 10 (.op 11 (.op 12 .nil))))))))))))) rfl rfl ?_
            first | refine re_field0 rfl rfl rfl rfl rfl fo_46_0 ?_ | refine re_field rfl rfl rfl rfl rfl fo_46_0 ?_ | refine re_fieldA rfl rfl rfl rfl rfl fo_46_0 ?_
            refine re_load H rfl rfl rfl rfl rfl sh_3 rfl ?_
            refine re_bin rfl rfl rfl rfl rfl rfl rfl ?_
            have hk13 : decide (m.kind = 13) = true := by simp [hkd]
            simp only [hk13]
            refine re_move rfl rfl rfl rfl rfl ?_
            refine re_move rfl rfl rfl rfl rfl ?_
            refine re_pickT rfl rfl rfl rfl rfl rfl ?_
            refine re_move rfl rfl rfl rfl rfl ?_
            refine re_move rfl rfl rfl rfl rfl ?_
            refine re_nilc rfl rfl rfl rfl rfl ?_
            first | refine re_field0 rfl rfl rfl rfl rfl fo_54_9 ?_ | refine re_field rfl rfl rfl rfl rfl fo_54_9 ?_ | refine re_fieldA rfl rfl rfl rfl rfl fo_54_9 ?_
            refine re_load H rfl rfl rfl rfl rfl sh_3 rfl ?_
            refine re_bin rfl rfl rfl rfl rfl rfl rfl ?_
            have hph : decide (r.ph = 1) = true := by simp [hp]
            simp only [hph]
            refine re_pickT rfl rfl rfl rfl rfl rfl ?_
            refine re_nil ?_
            refine qe_thenC ?_
            refine ce_condT rfl ?_
            refine ce_seq ?_
            refine ce_text (tab := []) (soft := 63) (.op 0 (.op 1 (.op 2 (.op 3 (.op 4 (.op 5 (.op 6 .nil))))))) rfl rfl ?_
            refine re_move rfl rfl rfl rfl rfl ?_
            refine re_nilc rfl rfl rfl rfl rfl ?_
            first | refine re_field0 rfl rfl rfl rfl rfl fo_54_10 ?_ | refine re_field rfl rfl rfl rfl rfl fo_54_10 ?_ | refine re_fieldA rfl rfl rfl rfl rfl fo_54_10 ?_
            refine re_load H rfl rfl rfl rfl rfl sh_51 rfl ?_
            refine re_move rfl rfl rfl rfl rfl ?_
            refine re_indexL rfl rfl rfl rfl rfl rfl ul_51 ei_51 (by omega) (by omega) ?_
            refine re_store H rfl rfl rfl rfl rfl rfl sh_4 rfl (Nat.ble_eq_true_of_le (by simp; omega)) rfl ?_
            intro cs w hcs H
            replace hcs := (set_one (l := r.ans) (k := k) Value.bool true).symm.trans hcs
            subst hcs
            refine ⟨(fun h => (nomatch h)), ?_⟩
            refine re_nil ?_
            refine qe_thenC ?_
            refine ce_seq ?_
            refine ce_text (tab := []) (soft := 63) (.op 0 (.op 1 (.op 2 (.op 3 (.op 4 (.op 5 (.op 6 .nil))))))) rfl rfl ?_
            refine re_move rfl rfl rfl rfl rfl ?_
            refine re_nilc rfl rfl rfl rfl rfl ?_
            first | refine re_field0 rfl rfl rfl rfl rfl fo_54_11 ?_ | refine re_field rfl rfl rfl rfl rfl fo_54_11 ?_ | refine re_fieldA rfl rfl rfl rfl rfl fo_54_11 ?_
            refine re_load H rfl rfl rfl rfl rfl sh_51 rfl ?_
            refine re_move rfl rfl rfl rfl rfl ?_
            refine re_indexL rfl rfl rfl rfl rfl rfl ul_51 ei_51 (by omega) (by omega) ?_
            refine re_store H rfl rfl rfl rfl rfl rfl sh_4 rfl (Nat.ble_eq_true_of_le (by simp; omega)) rfl ?_
            intro cs w hcs H
            replace hcs := (set_one (l := r.cnt) (k := k) Value.bool true).symm.trans hcs
            subst hcs
            refine ⟨(fun h => (nomatch h)), ?_⟩
            refine re_nil ?_
            refine qe_thenC ?_
            refine ce_seq ?_
            refine ce_open (tab := [0, 1, 3, 7, 0, 0, 32, 127, 255]) (soft := 255) mixed (.op 0 (.op 1 (.op 2 (.op 3 (.op 4 (.op 5 (.op 6 (.op 7 (.op 8 .nil))))))))) (by kernel_rfl) H ?_
            intro w H
            refine re_move rfl rfl rfl rfl rfl ?_
            refine re_nilc rfl rfl rfl rfl rfl ?_
            first | refine re_field0 rfl rfl rfl rfl rfl fo_54_12 ?_ | refine re_field rfl rfl rfl rfl rfl fo_54_12 ?_ | refine re_fieldA rfl rfl rfl rfl rfl fo_54_12 ?_
            refine re_load H rfl rfl rfl rfl rfl sh_52 rfl ?_
            refine re_move rfl rfl rfl rfl rfl ?_
            first | refine re_field0 rfl rfl rfl rfl rfl fo_46_7 ?_ | refine re_field rfl rfl rfl rfl rfl fo_46_7 ?_ | refine re_fieldA rfl rfl rfl rfl rfl fo_46_7 ?_
            refine re_load H rfl rfl rfl rfl rfl sh_38 (by first | exact rdAt_all rfl | (simp only [rdAt, PS.cells, PS.over, GM.cells, Cmd.cells, List.cons_append, List.nil_append, RS.cellsV, RS.ch, stC, List.drop_succ_cons, List.drop_zero, List.take_succ_cons, List.take_zero, List.length_cons, List.length_nil, Nat.zero_add, Nat.reduceAdd, Nat.reduceLeDiff, Nat.le_refl, ↓reduceIte] <;> rfl)) ?_
            refine re_indexL rfl rfl rfl rfl rfl rfl ul_52 ei_52 (by omega) (by omega) ?_
            refine re_store H rfl rfl rfl rfl rfl rfl sh_38 rfl (Nat.ble_eq_true_of_le (by rw [flatMap_len stC 2 (fun _ => rfl)]; simp; omega)) rfl ?_
            intro cs w hcs H
            replace hcs := (set_flat stC 2 (fun _ => rfl) (m.h0, m.h1) r.held k (by omega)).symm.trans hcs
            subst hcs
            refine ⟨(fun _ => ⟨ancs (i := 8) (j := 6) rfl, ancs (i := 8) (j := 3) rfl, trivial⟩), ?_⟩
            refine re_nil ?_
            refine qe_noPanic ?_
            refine qe_thenC ?_
            refine ce_seq ?_
            refine ce_open (tab := [0, 1, 3, 7, 0, 0, 32, 127, 255]) (soft := 255) mixed (.op 0 (.op 1 (.op 2 (.op 3 (.op 4 (.op 5 (.op 6 (.op 7 (.op 8 .nil))))))))) (by kernel_rfl) H ?_
            intro w H
            refine re_move rfl rfl rfl rfl rfl ?_
            refine re_nilc rfl rfl rfl rfl rfl ?_
            first | refine re_field0 rfl rfl rfl rfl rfl fo_54_13 ?_ | refine re_field rfl rfl rfl rfl rfl fo_54_13 ?_ | refine re_fieldA rfl rfl rfl rfl rfl fo_54_13 ?_
            refine re_load H rfl rfl rfl rfl rfl sh_44 rfl ?_
            refine re_move rfl rfl rfl rfl rfl ?_
            first | refine re_field0 rfl rfl rfl rfl rfl fo_46_9 ?_ | refine re_field rfl rfl rfl rfl rfl fo_46_9 ?_ | refine re_fieldA rfl rfl rfl rfl rfl fo_46_9 ?_
            refine re_load H rfl rfl rfl rfl rfl sh_28 (by first | exact rdAt_all rfl | (simp only [rdAt, PS.cells, PS.over, GM.cells, Cmd.cells, List.cons_append, List.nil_append, RS.cellsV, RS.ch, stC, List.drop_succ_cons, List.drop_zero, List.take_succ_cons, List.take_zero, List.length_cons, List.length_nil, Nat.zero_add, Nat.reduceAdd, Nat.reduceLeDiff, Nat.le_refl, ↓reduceIte] <;> rfl)) ?_
            refine re_indexL rfl rfl rfl rfl rfl rfl ul_44 ei_44 (by omega) (by omega) ?_
            refine re_store H rfl rfl rfl rfl rfl rfl sh_28 rfl (Nat.ble_eq_true_of_le (by rw [flatMap_len Cmd.cells 9 (fun _ => rfl)]; simp; omega)) rfl ?_
            intro cs w hcs H
            replace hcs := (set_flat Cmd.cells 9 (fun _ => rfl) m.cmd r.cms k (by omega)).symm.trans hcs
            subst hcs
            refine ⟨(fun _ => ⟨ancs (i := 8) (j := 6) rfl, ancs (i := 8) (j := 3) rfl, trivial⟩), ?_⟩
            refine re_nil ?_
            refine qe_noPanic ?_
            refine qe_thenC ?_
            refine ce_seq ?_
            refine ce_seq ?_
            refine ce_text (tab := []) (soft := 21) (.op 0 (.op 1 (.op 2 (.op 3 (.op 4 .nil))))) rfl rfl ?_
            refine re_move rfl rfl rfl rfl rfl ?_
            refine re_call en_59 rfl rfl rfl rfl rfl ?_
            refine Calls.mono (count_r (r := r.promise k m) H hn (by simp [RS.promise, hc])) ?_
            rintro e w ⟨rfl, H⟩
            refine ⟨_, rfl, (fun h => (nomatch h)), ?_⟩
            refine re_move rfl rfl rfl rfl rfl ?_
            refine re_call en_60 rfl rfl rfl rfl rfl ?_
            refine Calls.mono (need_r (r := r.promise k m) H hn) ?_
            rintro e w ⟨rfl, H⟩
            refine ⟨_, rfl, (fun h => (nomatch h)), ?_⟩
            refine re_bin rfl rfl rfl rfl rfl rfl rfl ?_
            refine re_nil ?_
            refine qe_thenC ?_
            refine ce_cond rfl (fun h7 => ?_) (fun h7 => ?_)
            · try simp only [zn1, zn2, zn3, zn4, zn5, zn6] at h7
              exact absurd hq (by show ¬ ((r.promise k m).gs.length : Int) / 2 + 1 ≤ (cntN (r.promise k m).cnt : Int); omega)
            · try simp only [zn1, zn2, zn3, zn4, zn5, zn6] at h7
              refine ce_skip ?_
              refine qe_thenC ?_
              refine ce_seq ?_
              refine ce_text (tab := []) (soft := 1) (.op 0 (.op 1 .nil)) rfl rfl ?_
              refine re_move rfl rfl rfl rfl rfl ?_
              refine re_call en_61 rfl rfl rfl rfl rfl ?_
              refine Calls.mono (choose_r (r := r.promise k m) H hn (by simp [RS.promise, hc]) (by simp [RS.promise, hh]) (by simp [RS.promise, hm])) ?_
              rintro e w ⟨rfl, H⟩
              refine ⟨_, rfl, (fun h => (nomatch h)), ?_⟩
              refine re_nil ?_
              refine qe_thenC ?_
              refine ce_seq ?_
              refine ce_text (tab := []) (soft := 7) (.op 0 (.op 1 (.op 2 (.op 3 .nil)))) rfl rfl ?_
              refine re_move rfl rfl rfl rfl rfl ?_
              refine re_nilc rfl rfl rfl rfl rfl ?_
              first | refine re_field0 rfl rfl rfl rfl rfl fo_54_9 ?_ | refine re_field rfl rfl rfl rfl rfl fo_54_9 ?_ | refine re_fieldA rfl rfl rfl rfl rfl fo_54_9 ?_
              refine re_store H rfl rfl rfl rfl rfl rfl sh_3 rfl rfl rfl ?_
              intro cs w hcs H
              first | rw [setMany_whole rfl] at hcs | simp only [setMany, List.set_cons_zero, List.set_cons_succ, Nat.reduceAdd, Nat.zero_add, PS.cells, PS.over, GM.cells, Cmd.cells, List.cons_append, List.nil_append, RS.cellsV, RS.ch, stC] at hcs
              subst hcs
              refine ⟨(fun h => (nomatch h)), ?_⟩
              refine re_nil ?_
              refine qe_thenC ?_
              refine ce_seq ?_
              refine ce_text (tab := []) (soft := 5) (.op 0 (.op 1 (.op 2 .nil))) rfl rfl ?_
              refine re_move rfl rfl rfl rfl rfl ?_
              refine re_call en_55 rfl rfl rfl rfl rfl ?_
              refine Calls.mono (next_r (r := (r.promise k m).chose) H hn hw hlo) ?_
              rintro e w ⟨b1, b2, b3, b4, a, c, rfl, H⟩
              refine ⟨_, rfl, (fun h => (nomatch h)), ?_⟩
              refine re_assign rfl rfl rfl rfl rfl ?_
              refine re_nil ?_
              refine qe_thenC ?_
              refine ce_ret ?_
              refine qe_then_ret ?_
              refine qe_end rfl rfl ?_
              refine ⟨b1, b2, b3, b4, a, c, rfl, ?_⟩
              exact H.sub (.cons_cons _ (.cons_cons _ (.cons_cons _ (.cons_cons _ (.cons_cons _ (.cons_cons _ (.cons_cons _ (.cons _ (.cons _ (.cons _ (.cons _ (.cons _ (List.Sublist.refl _)))))))))))))
end Go.Proofs.Ytofaoblfemfkiaa

namespace Go.Proofs.Ytofaoblfemfkiaa
open Go Go.RowKit Go.Fw
set_option linter.unusedSimpArgs false
set_option linter.unusedVariables false
set_option maxRecDepth 4000
set_option maxHeartbeats 2000000


def RS.acc (r : RS) (k : Nat) : RS := (r.accepted k).decide r.chosen
theorem accepted_few {B w : World} {F : List Ent} {h a1 a2 a3 a4 : Nat} {r : RS} {m : GM} {k : Nat} (H : Own B (.cells h 54 (r.cellsV (slv (some a1) r.gs.length r.gs.length) (slv (some a2) r.gs.length r.gs.length) (slv (some a3) r.gs.length r.gs.length) (slv (some a4) r.gs.length r.gs.length)) :: .row r.ga r.gc 3 1 r.gs.length (ints r.gs) :: .cells a1 4 (bools r.ans) :: .cells a2 4 (bools r.cnt) :: .cells a3 38 (stamps r.held) :: .cells a4 28 (cmdsC r.cms) :: F) w) (hn : r.gs.length ≤ 1000000) (hv : r.at m = (k : Int)) (hk : k < r.gs.length) (ha : r.ans.length = r.gs.length) (hc : r.cnt.length = r.gs.length) (hh : r.held.length = r.gs.length) (hm : r.cms.length = r.gs.length) (hkd : m.kind = 15) (hp : r.ph = 2) (ho0 : m.s0 = r.n) (ho1 : m.s1 = r.cl) (hs : r.ans[k]'(by omega) = false) (hq : (cntN (r.accepted k).cnt : Int) < (r.gs.length : Int) / 2 + 1) :
    Calls Try.prog 29 #[.pointer (some ⟨h, 0, none⟩), .agg m.cells.toArray] w fun e w' => e = .returned (slv none 0 0) ∧ Own B (.cells h 54 ((r.accepted k).cellsV (slv (some a1) (r.accepted k).gs.length (r.accepted k).gs.length) (slv (some a2) (r.accepted k).gs.length (r.accepted k).gs.length) (slv (some a3) (r.accepted k).gs.length (r.accepted k).gs.length) (slv (some a4) (r.accepted k).gs.length (r.accepted k).gs.length)) :: .row r.ga r.gc 3 1 r.gs.length (ints r.gs) :: .cells a1 4 (bools (r.accepted k).ans) :: .cells a2 4 (bools (r.accepted k).cnt) :: .cells a3 38 (stamps (r.accepted k).held) :: .cells a4 28 (cmdsC (r.accepted k).cms) :: F) w' := by
  refine calls_ce (args := [.pointer (some ⟨h, 0, none⟩), .agg m.cells.toArray]) Try.func29 rfl rfl ?_
  change CE _ _ 232 _ _ [(0, .pointer (some ⟨h, 0, none⟩)), (1, .agg m.cells.toArray)] _
  refine ce_seq ?_
  refine ce_text (tab := []) (soft := 2) (.op 0 (.op 1 .nil)) rfl rfl ?_
  refine re_box H rfl rfl rfl rfl rfl rfl ?_
  intro g3 w H
  refine ⟨(fun h => (nomatch h)), ?_⟩
  refine re_assign rfl rfl rfl rfl rfl ?_
  refine re_nil ?_
  refine qe_thenC ?_
  refine ce_seq ?_
  refine ce_text (tab := []) (soft := 11) (.op 0 (.op 1 (.op 2 (.op 3 .nil)))) rfl rfl ?_
  refine re_move rfl rfl rfl rfl rfl ?_
  refine re_load H rfl rfl rfl rfl rfl sh_46 (by first | exact rdAt_all rfl | (simp only [rdAt, PS.cells, PS.over, GM.cells, Cmd.cells, List.cons_append, List.nil_append, RS.cellsV, RS.ch, stC, RS.decide, RS.accepted, RS.phase, List.drop_succ_cons, List.drop_zero, List.take_succ_cons, List.take_zero, List.length_cons, List.length_nil, Nat.zero_add, Nat.reduceAdd, Nat.reduceLeDiff, Nat.le_refl, ↓reduceIte] <;> rfl)) ?_
  refine re_call en_58 rfl rfl rfl rfl rfl ?_
  have H := Own.arr [0, 6, 6, 6, 6, 6, 6] H
  simp only [arrs, Fw.front, zm1, zm2, zm3, zm4, zm5] at H
  refine Calls.mono (place_r H hn) ?_
  rintro e w ⟨rfl, H⟩
  rw [show (if r.foreign m then (-1 : Int) else idxOf m.fi r.gs) = r.at m from rfl, hv]
  refine ⟨_, rfl, (fun h => (nomatch h)), ?_⟩
  refine re_assign rfl rfl rfl rfl rfl ?_
  refine re_nil ?_
  refine qe_thenC ?_
  refine ce_seq ?_
  refine ce_seq ?_
  refine ce_text (tab := []) (soft := 3) (.op 0 (.op 1 .nil)) rfl rfl ?_
  refine re_move rfl rfl rfl rfl rfl ?_
  refine re_bin rfl rfl rfl rfl rfl rfl rfl ?_
  refine re_nil ?_
  refine qe_thenC ?_
  refine ce_cond rfl (fun h0 => ?_) (fun h0 => ?_)
  · try simp only [zn1, zn2, zn3, zn4, zn5, zn6] at h0
    omega
  · try simp only [zn1, zn2, zn3, zn4, zn5, zn6] at h0
    refine ce_skip ?_
    refine qe_thenC ?_
    refine ce_seq ?_
    refine ce_seq ?_
    refine ce_text (tab := []) (soft := 7) (.op 0 (.op 1 (.op 2 .nil))) rfl rfl ?_
    first | refine re_field0 rfl rfl rfl rfl rfl fo_46_0 ?_ | refine re_field rfl rfl rfl rfl rfl fo_46_0 ?_ | refine re_fieldA rfl rfl rfl rfl rfl fo_46_0 ?_
    refine re_load H rfl rfl rfl rfl rfl sh_3 rfl ?_
    refine re_bin rfl rfl rfl rfl rfl rfl rfl ?_
    refine re_nil ?_
    refine qe_thenC ?_
    refine ce_cond rfl (fun h1 => ?_) (fun h1 => ?_)
    · try simp only [zn1, zn2, zn3, zn4, zn5, zn6] at h1
      omega
    · try simp only [zn1, zn2, zn3, zn4, zn5, zn6] at h1
      refine ce_skip ?_
      refine qe_thenC ?_
      refine ce_seq ?_
      refine ce_seq ?_
      refine ce_text (tab := []) (soft := 7) (.op 0 (.op 1 (.op 2 .nil))) rfl rfl ?_
      first | refine re_field0 rfl rfl rfl rfl rfl fo_46_0 ?_ | refine re_field rfl rfl rfl rfl rfl fo_46_0 ?_ | refine re_fieldA rfl rfl rfl rfl rfl fo_46_0 ?_
      refine re_load H rfl rfl rfl rfl rfl sh_3 rfl ?_
      refine re_bin rfl rfl rfl rfl rfl rfl rfl ?_
      refine re_nil ?_
      refine qe_thenC ?_
      refine ce_cond rfl (fun h2 => ?_) (fun h2 => ?_)
      · try simp only [zn1, zn2, zn3, zn4, zn5, zn6] at h2
        omega
      · try simp only [zn1, zn2, zn3, zn4, zn5, zn6] at h2
        refine ce_skip ?_
        refine qe_thenC ?_
        refine ce_seq ?_
        refine ce_seq ?_
        refine ce_text (tab := []) (soft := 127) (.op 0 (.op 1 (.op 2 (.op 3 (.op 4 (.op 5 (.op 6 .nil))))))) rfl rfl ?_
        refine re_move rfl rfl rfl rfl rfl ?_
        refine re_nilc rfl rfl rfl rfl rfl ?_
        first | refine re_field0 rfl rfl rfl rfl rfl fo_54_10 ?_ | refine re_field rfl rfl rfl rfl rfl fo_54_10 ?_ | refine re_fieldA rfl rfl rfl rfl rfl fo_54_10 ?_
        refine re_load H rfl rfl rfl rfl rfl sh_51 rfl ?_
        refine re_move rfl rfl rfl rfl rfl ?_
        refine re_indexL rfl rfl rfl rfl rfl rfl ul_51 ei_51 (by omega) (by omega) ?_
        refine re_load H rfl rfl rfl rfl rfl sh_4 (rd_one Value.bool (by omega)) ?_
        refine re_nil ?_
        refine qe_thenC ?_
        refine ce_cond rfl (fun h3 => ?_) (fun h3 => ?_)
        · try simp only [zn1, zn2, zn3, zn4, zn5, zn6] at h3
          simp_all
        · try simp only [zn1, zn2, zn3, zn4, zn5, zn6] at h3
          refine ce_skip ?_
          refine qe_thenC ?_
          refine ce_seq ?_
          refine ce_open (tab := [0, 1, 3, 0, 8, 24, 56, 127, 255, 511, 1023, 2047, 511, 4607, 12799, 29183, 65535, 131071, 262143]) (soft := 524287) mixed (.op 0 (.op 1 (.op 2 (.op 3 (.op 4 (.op 5 (.op 6 (.op 7 (.op 8 (.op 9 (.op 10 (.op 11 (.op 12 (.op 13 (.op 14 (.op 15 (.op 16 (.op 17 (.op 18 .nil))))))))))))))))))) (by kernel_rfl) H ?_
          intro w H
          first | refine re_field0 rfl rfl rfl rfl rfl fo_46_6 ?_ | refine re_field rfl rfl rfl rfl rfl fo_46_6 ?_ | refine re_fieldA rfl rfl rfl rfl rfl fo_46_6 ?_
          first | refine re_field0 rfl rfl rfl rfl rfl fo_38_0 ?_ | refine re_field rfl rfl rfl rfl rfl fo_38_0 ?_ | refine re_fieldA rfl rfl rfl rfl rfl fo_38_0 ?_
          refine re_load H rfl rfl rfl rfl rfl sh_3 rfl ?_
          refine re_move rfl rfl rfl rfl rfl ?_
          refine re_nilc rfl rfl rfl rfl rfl ?_
          first | refine re_field0 rfl rfl rfl rfl rfl fo_54_6 ?_ | refine re_field rfl rfl rfl rfl rfl fo_54_6 ?_ | refine re_fieldA rfl rfl rfl rfl rfl fo_54_6 ?_
          refine re_load H rfl rfl rfl rfl rfl sh_3 rfl ?_
          refine re_bin rfl rfl rfl rfl rfl rfl rfl ?_
          have ho2 : decide (m.s0 = r.n) = true := by simp [ho0]
          simp only [ho2]
          refine re_move rfl rfl rfl rfl rfl ?_
          first | refine re_field0 rfl rfl rfl rfl rfl fo_46_6 ?_ | refine re_field rfl rfl rfl rfl rfl fo_46_6 ?_ | refine re_fieldA rfl rfl rfl rfl rfl fo_46_6 ?_
          first | refine re_field0 rfl rfl rfl rfl rfl fo_38_1 ?_ | refine re_field rfl rfl rfl rfl rfl fo_38_1 ?_ | refine re_fieldA rfl rfl rfl rfl rfl fo_38_1 ?_
          refine re_load H rfl rfl rfl rfl rfl sh_3 rfl ?_
          refine re_move rfl rfl rfl rfl rfl ?_
          refine re_nilc rfl rfl rfl rfl rfl ?_
          first | refine re_field0 rfl rfl rfl rfl rfl fo_54_0 ?_ | refine re_field rfl rfl rfl rfl rfl fo_54_0 ?_ | refine re_fieldA rfl rfl rfl rfl rfl fo_54_0 ?_
          refine re_load H rfl rfl rfl rfl rfl sh_3 rfl ?_
          refine re_bin rfl rfl rfl rfl rfl rfl rfl ?_
          have ho3 : decide (m.s1 = r.cl) = true := by simp [ho1]
          simp only [ho3]
          refine re_pickT rfl rfl rfl rfl rfl rfl ?_
          refine re_assign rfl rfl rfl rfl rfl ?_
          refine re_nil ?_
          refine qe_noPanic ?_
          refine qe_thenC ?_
          refine ce_seq ?_
          refine ce_seq ?_
          refine ce_text (tab := []) (soft := 7) (.op 0 (.op 1 (.op 2 .nil))) rfl rfl ?_
          first | refine re_field0 rfl rfl rfl rfl rfl fo_46_0 ?_ | refine re_field rfl rfl rfl rfl rfl fo_46_0 ?_ | refine re_fieldA rfl rfl rfl rfl rfl fo_46_0 ?_
          refine re_load H rfl rfl rfl rfl rfl sh_3 rfl ?_
          refine re_bin rfl rfl rfl rfl rfl rfl rfl ?_
          refine re_nil ?_
          refine qe_thenC ?_
          refine ce_cond rfl (fun h4 => ?_) (fun h4 => ?_)
          · try simp only [zn1, zn2, zn3, zn4, zn5, zn6] at h4
            omega
          · try simp only [zn1, zn2, zn3, zn4, zn5, zn6] at h4
            refine ce_skip ?_
            refine qe_thenC ?_
            refine ce_seq ?_
            refine ce_seq ?_
            refine ce_text (tab := []) (soft := 8191) (.op 0 (.op 1 (.op 2 (.op 3 (.op 4 (.op 5 (.op 6 (.op 7 (.op 8 (.op 9 (.op 10 (.op 11 (.op 12 .nil))))))))))))) rfl rfl ?_
            first | refine re_field0 rfl rfl rfl rfl rfl fo_46_0 ?_ | refine re_field rfl rfl rfl rfl rfl fo_46_0 ?_ | refine re_fieldA rfl rfl rfl rfl rfl fo_46_0 ?_
            refine re_load H rfl rfl rfl rfl rfl sh_3 rfl ?_
            refine re_bin rfl rfl rfl rfl rfl rfl rfl ?_
            have hk13 : decide (m.kind = 13) = false := by simp [hkd]
            simp only [hk13]
            refine re_move rfl rfl rfl rfl rfl ?_
            refine re_skip1 rfl rfl rfl ?_
            refine re_pickF rfl rfl rfl rfl rfl rfl ?_
            refine re_move rfl rfl rfl rfl rfl ?_
            refine re_skip1 rfl rfl rfl ?_
            refine re_skip1 rfl rfl rfl ?_
            refine re_skip1 rfl rfl rfl ?_
            refine re_skip1 rfl rfl rfl ?_
            refine re_skip1 rfl rfl rfl ?_
            refine re_pickF rfl rfl rfl rfl rfl rfl ?_
            refine re_nil ?_
            refine qe_thenC ?_
            refine ce_condF rfl ?_
            refine ce_skip ?_
            refine qe_thenC ?_
            refine ce_seq ?_
            refine ce_seq ?_
            refine ce_text (tab := []) (soft := 8191) (.op 0 (.op 1 (.op 2 (.op 3 (.op 4 (.op 5 (.op 6 (.op 7 (.op 8 (.op 9 (.op 10 (.op 11 (.op 12 .nil))))))))))))) rfl rfl ?_
            first | refine re_field0 rfl rfl rfl rfl rfl fo_46_0 ?_ | refine re_field rfl rfl rfl rfl rfl fo_46_0 ?_ | refine re_fieldA rfl rfl rfl rfl rfl fo_46_0 ?_
            refine re_load H rfl rfl rfl rfl rfl sh_3 rfl ?_
            refine re_bin rfl rfl rfl rfl rfl rfl rfl ?_
            have hk15 : decide (m.kind = 15) = true := by simp [hkd]
            simp only [hk15]
            refine re_move rfl rfl rfl rfl rfl ?_
            refine re_move rfl rfl rfl rfl rfl ?_
            refine re_pickT rfl rfl rfl rfl rfl rfl ?_
            refine re_move rfl rfl rfl rfl rfl ?_
            refine re_move rfl rfl rfl rfl rfl ?_
            refine re_nilc rfl rfl rfl rfl rfl ?_
            first | refine re_field0 rfl rfl rfl rfl rfl fo_54_9 ?_ | refine re_field rfl rfl rfl rfl rfl fo_54_9 ?_ | refine re_fieldA rfl rfl rfl rfl rfl fo_54_9 ?_
            refine re_load H rfl rfl rfl rfl rfl sh_3 rfl ?_
            refine re_bin rfl rfl rfl rfl rfl rfl rfl ?_
            have hph : decide (r.ph = 2) = true := by simp [hp]
            simp only [hph]
            refine re_pickT rfl rfl rfl rfl rfl rfl ?_
            refine re_nil ?_
            refine qe_thenC ?_
            refine ce_condT rfl ?_
            refine ce_seq ?_
            refine ce_text (tab := []) (soft := 63) (.op 0 (.op 1 (.op 2 (.op 3 (.op 4 (.op 5 (.op 6 .nil))))))) rfl rfl ?_
            refine re_move rfl rfl rfl rfl rfl ?_
            refine re_nilc rfl rfl rfl rfl rfl ?_
            first | refine re_field0 rfl rfl rfl rfl rfl fo_54_10 ?_ | refine re_field rfl rfl rfl rfl rfl fo_54_10 ?_ | refine re_fieldA rfl rfl rfl rfl rfl fo_54_10 ?_
            refine re_load H rfl rfl rfl rfl rfl sh_51 rfl ?_
            refine re_move rfl rfl rfl rfl rfl ?_
            refine re_indexL rfl rfl rfl rfl rfl rfl ul_51 ei_51 (by omega) (by omega) ?_
            refine re_store H rfl rfl rfl rfl rfl rfl sh_4 rfl (Nat.ble_eq_true_of_le (by simp; omega)) rfl ?_
            intro cs w hcs H
            replace hcs := (set_one (l := r.ans) (k := k) Value.bool true).symm.trans hcs
            subst hcs
            refine ⟨(fun h => (nomatch h)), ?_⟩
            refine re_nil ?_
            refine qe_thenC ?_
            refine ce_seq ?_
            refine ce_text (tab := []) (soft := 63) (.op 0 (.op 1 (.op 2 (.op 3 (.op 4 (.op 5 (.op 6 .nil))))))) rfl rfl ?_
            refine re_move rfl rfl rfl rfl rfl ?_
            refine re_nilc rfl rfl rfl rfl rfl ?_
            first | refine re_field0 rfl rfl rfl rfl rfl fo_54_11 ?_ | refine re_field rfl rfl rfl rfl rfl fo_54_11 ?_ | refine re_fieldA rfl rfl rfl rfl rfl fo_54_11 ?_
            refine re_load H rfl rfl rfl rfl rfl sh_51 rfl ?_
            refine re_move rfl rfl rfl rfl rfl ?_
            refine re_indexL rfl rfl rfl rfl rfl rfl ul_51 ei_51 (by omega) (by omega) ?_
            refine re_store H rfl rfl rfl rfl rfl rfl sh_4 rfl (Nat.ble_eq_true_of_le (by simp; omega)) rfl ?_
            intro cs w hcs H
            replace hcs := (set_one (l := r.cnt) (k := k) Value.bool true).symm.trans hcs
            subst hcs
            refine ⟨(fun h => (nomatch h)), ?_⟩
            refine re_nil ?_
            refine qe_thenC ?_
            refine ce_seq ?_
            refine ce_seq ?_
            refine ce_text (tab := []) (soft := 21) (.op 0 (.op 1 (.op 2 (.op 3 (.op 4 .nil))))) rfl rfl ?_
            refine re_move rfl rfl rfl rfl rfl ?_
            refine re_call en_59 rfl rfl rfl rfl rfl ?_
            refine Calls.mono (count_r (r := r.accepted k) H hn (by simp [RS.accepted, hc])) ?_
            rintro e w ⟨rfl, H⟩
            refine ⟨_, rfl, (fun h => (nomatch h)), ?_⟩
            refine re_move rfl rfl rfl rfl rfl ?_
            refine re_call en_60 rfl rfl rfl rfl rfl ?_
            refine Calls.mono (need_r (r := r.accepted k) H hn) ?_
            rintro e w ⟨rfl, H⟩
            refine ⟨_, rfl, (fun h => (nomatch h)), ?_⟩
            refine re_bin rfl rfl rfl rfl rfl rfl rfl ?_
            refine re_nil ?_
            refine qe_thenC ?_
            refine ce_cond rfl (fun h9 => ?_) (fun h9 => ?_)
            · try simp only [zn1, zn2, zn3, zn4, zn5, zn6] at h9
              refine ce_seq ?_
              refine ce_text (tab := []) (soft := 1) (.op 0 .nil) rfl rfl ?_
              refine re_assign rfl rfl rfl rfl rfl ?_
              refine re_nil ?_
              refine qe_thenC ?_
              refine ce_ret ?_
              refine qe_then_ret ?_
              refine qe_then_ret ?_
              refine qe_end rfl rfl ?_
              exact ⟨rfl, H.sub (.cons_cons _ (.cons_cons _ (.cons_cons _ (.cons_cons _ (.cons_cons _ (.cons_cons _ (.cons _ (List.Sublist.refl _))))))))⟩
            · try simp only [zn1, zn2, zn3, zn4, zn5, zn6] at h9
              exact absurd hq (by show ¬ (cntN (r.accepted k).cnt : Int) < ((r.accepted k).gs.length : Int) / 2 + 1; omega)

theorem accepted_all {B w : World} {F : List Ent} {h a1 a2 a3 a4 : Nat} {r : RS} {m : GM} {k : Nat} (H : Own B (.cells h 54 (r.cellsV (slv (some a1) r.gs.length r.gs.length) (slv (some a2) r.gs.length r.gs.length) (slv (some a3) r.gs.length r.gs.length) (slv (some a4) r.gs.length r.gs.length)) :: .row r.ga r.gc 3 1 r.gs.length (ints r.gs) :: .cells a1 4 (bools r.ans) :: .cells a2 4 (bools r.cnt) :: .cells a3 38 (stamps r.held) :: .cells a4 28 (cmdsC r.cms) :: F) w) (hn : r.gs.length ≤ 1000000) (hv : r.at m = (k : Int)) (hk : k < r.gs.length) (ha : r.ans.length = r.gs.length) (hc : r.cnt.length = r.gs.length) (hh : r.held.length = r.gs.length) (hm : r.cms.length = r.gs.length) (hkd : m.kind = 15) (hp : r.ph = 2) (ho0 : m.s0 = r.n) (ho1 : m.s1 = r.cl) (hs : r.ans[k]'(by omega) = false) (hq : (r.gs.length : Int) / 2 + 1 ≤ (cntN (r.accepted k).cnt : Int)) :
    Calls Try.prog 29 #[.pointer (some ⟨h, 0, none⟩), .agg m.cells.toArray] w fun e w' => ∃ a c, e = .returned (slv a r.outL.length c) ∧ Own B (.row a c 46 30 r.outL.length (msgs r.outL) :: .cells h 54 ((r.acc k).cellsV (slv (some a1) (r.acc k).gs.length (r.acc k).gs.length) (slv (some a2) (r.acc k).gs.length (r.acc k).gs.length) (slv (some a3) (r.acc k).gs.length (r.acc k).gs.length) (slv (some a4) (r.acc k).gs.length (r.acc k).gs.length)) :: .row r.ga r.gc 3 1 r.gs.length (ints r.gs) :: .cells a1 4 (bools (r.acc k).ans) :: .cells a2 4 (bools (r.acc k).cnt) :: .cells a3 38 (stamps (r.acc k).held) :: .cells a4 28 (cmdsC (r.acc k).cms) :: F) w' := by
  refine calls_ce (args := [.pointer (some ⟨h, 0, none⟩), .agg m.cells.toArray]) Try.func29 rfl rfl ?_
  change CE _ _ 232 _ _ [(0, .pointer (some ⟨h, 0, none⟩)), (1, .agg m.cells.toArray)] _
  refine ce_seq ?_
  refine ce_text (tab := []) (soft := 2) (.op 0 (.op 1 .nil)) rfl rfl ?_
  refine re_box H rfl rfl rfl rfl rfl rfl ?_
  intro g3 w H
  refine ⟨(fun h => (nomatch h)), ?_⟩
  refine re_assign rfl rfl rfl rfl rfl ?_
  refine re_nil ?_
  refine qe_thenC ?_
  refine ce_seq ?_
  refine ce_text (tab := []) (soft := 11) (.op 0 (.op 1 (.op 2 (.op 3 .nil)))) rfl rfl ?_
  refine re_move rfl rfl rfl rfl rfl ?_
  refine re_load H rfl rfl rfl rfl rfl sh_46 (by first | exact rdAt_all rfl | (simp only [rdAt, PS.cells, PS.over, GM.cells, Cmd.cells, List.cons_append, List.nil_append, RS.cellsV, RS.ch, stC, RS.decide, RS.accepted, RS.phase, List.drop_succ_cons, List.drop_zero, List.take_succ_cons, List.take_zero, List.length_cons, List.length_nil, Nat.zero_add, Nat.reduceAdd, Nat.reduceLeDiff, Nat.le_refl, ↓reduceIte] <;> rfl)) ?_
  refine re_call en_58 rfl rfl rfl rfl rfl ?_
  have H := Own.arr [0, 6, 6, 6, 6, 6, 6] H
  simp only [arrs, Fw.front, zm1, zm2, zm3, zm4, zm5] at H
  refine Calls.mono (place_r H hn) ?_
  rintro e w ⟨rfl, H⟩
  rw [show (if r.foreign m then (-1 : Int) else idxOf m.fi r.gs) = r.at m from rfl, hv]
  refine ⟨_, rfl, (fun h => (nomatch h)), ?_⟩
  refine re_assign rfl rfl rfl rfl rfl ?_
  refine re_nil ?_
  refine qe_thenC ?_
  refine ce_seq ?_
  refine ce_seq ?_
  refine ce_text (tab := []) (soft := 3) (.op 0 (.op 1 .nil)) rfl rfl ?_
  refine re_move rfl rfl rfl rfl rfl ?_
  refine re_bin rfl rfl rfl rfl rfl rfl rfl ?_
  refine re_nil ?_
  refine qe_thenC ?_
  refine ce_cond rfl (fun h0 => ?_) (fun h0 => ?_)
  · try simp only [zn1, zn2, zn3, zn4, zn5, zn6] at h0
    omega
  · try simp only [zn1, zn2, zn3, zn4, zn5, zn6] at h0
    refine ce_skip ?_
    refine qe_thenC ?_
    refine ce_seq ?_
    refine ce_seq ?_
    refine ce_text (tab := []) (soft := 7) (.op 0 (.op 1 (.op 2 .nil))) rfl rfl ?_
    first | refine re_field0 rfl rfl rfl rfl rfl fo_46_0 ?_ | refine re_field rfl rfl rfl rfl rfl fo_46_0 ?_ | refine re_fieldA rfl rfl rfl rfl rfl fo_46_0 ?_
    refine re_load H rfl rfl rfl rfl rfl sh_3 rfl ?_
    refine re_bin rfl rfl rfl rfl rfl rfl rfl ?_
    refine re_nil ?_
    refine qe_thenC ?_
    refine ce_cond rfl (fun h1 => ?_) (fun h1 => ?_)
    · try simp only [zn1, zn2, zn3, zn4, zn5, zn6] at h1
      omega
    · try simp only [zn1, zn2, zn3, zn4, zn5, zn6] at h1
      refine ce_skip ?_
      refine qe_thenC ?_
      refine ce_seq ?_
      refine ce_seq ?_
      refine ce_text (tab := []) (soft := 7) (.op 0 (.op 1 (.op 2 .nil))) rfl rfl ?_
      first | refine re_field0 rfl rfl rfl rfl rfl fo_46_0 ?_ | refine re_field rfl rfl rfl rfl rfl fo_46_0 ?_ | refine re_fieldA rfl rfl rfl rfl rfl fo_46_0 ?_
      refine re_load H rfl rfl rfl rfl rfl sh_3 rfl ?_
      refine re_bin rfl rfl rfl rfl rfl rfl rfl ?_
      refine re_nil ?_
      refine qe_thenC ?_
      refine ce_cond rfl (fun h2 => ?_) (fun h2 => ?_)
      · try simp only [zn1, zn2, zn3, zn4, zn5, zn6] at h2
        omega
      · try simp only [zn1, zn2, zn3, zn4, zn5, zn6] at h2
        refine ce_skip ?_
        refine qe_thenC ?_
        refine ce_seq ?_
        refine ce_seq ?_
        refine ce_text (tab := []) (soft := 127) (.op 0 (.op 1 (.op 2 (.op 3 (.op 4 (.op 5 (.op 6 .nil))))))) rfl rfl ?_
        refine re_move rfl rfl rfl rfl rfl ?_
        refine re_nilc rfl rfl rfl rfl rfl ?_
        first | refine re_field0 rfl rfl rfl rfl rfl fo_54_10 ?_ | refine re_field rfl rfl rfl rfl rfl fo_54_10 ?_ | refine re_fieldA rfl rfl rfl rfl rfl fo_54_10 ?_
        refine re_load H rfl rfl rfl rfl rfl sh_51 rfl ?_
        refine re_move rfl rfl rfl rfl rfl ?_
        refine re_indexL rfl rfl rfl rfl rfl rfl ul_51 ei_51 (by omega) (by omega) ?_
        refine re_load H rfl rfl rfl rfl rfl sh_4 (rd_one Value.bool (by omega)) ?_
        refine re_nil ?_
        refine qe_thenC ?_
        refine ce_cond rfl (fun h3 => ?_) (fun h3 => ?_)
        · try simp only [zn1, zn2, zn3, zn4, zn5, zn6] at h3
          simp_all
        · try simp only [zn1, zn2, zn3, zn4, zn5, zn6] at h3
          refine ce_skip ?_
          refine qe_thenC ?_
          refine ce_seq ?_
          refine ce_open (tab := [0, 1, 3, 0, 8, 24, 56, 127, 255, 511, 1023, 2047, 511, 4607, 12799, 29183, 65535, 131071, 262143]) (soft := 524287) mixed (.op 0 (.op 1 (.op 2 (.op 3 (.op 4 (.op 5 (.op 6 (.op 7 (.op 8 (.op 9 (.op 10 (.op 11 (.op 12 (.op 13 (.op 14 (.op 15 (.op 16 (.op 17 (.op 18 .nil))))))))))))))))))) (by kernel_rfl) H ?_
          intro w H
          first | refine re_field0 rfl rfl rfl rfl rfl fo_46_6 ?_ | refine re_field rfl rfl rfl rfl rfl fo_46_6 ?_ | refine re_fieldA rfl rfl rfl rfl rfl fo_46_6 ?_
          first | refine re_field0 rfl rfl rfl rfl rfl fo_38_0 ?_ | refine re_field rfl rfl rfl rfl rfl fo_38_0 ?_ | refine re_fieldA rfl rfl rfl rfl rfl fo_38_0 ?_
          refine re_load H rfl rfl rfl rfl rfl sh_3 rfl ?_
          refine re_move rfl rfl rfl rfl rfl ?_
          refine re_nilc rfl rfl rfl rfl rfl ?_
          first | refine re_field0 rfl rfl rfl rfl rfl fo_54_6 ?_ | refine re_field rfl rfl rfl rfl rfl fo_54_6 ?_ | refine re_fieldA rfl rfl rfl rfl rfl fo_54_6 ?_
          refine re_load H rfl rfl rfl rfl rfl sh_3 rfl ?_
          refine re_bin rfl rfl rfl rfl rfl rfl rfl ?_
          have ho2 : decide (m.s0 = r.n) = true := by simp [ho0]
          simp only [ho2]
          refine re_move rfl rfl rfl rfl rfl ?_
          first | refine re_field0 rfl rfl rfl rfl rfl fo_46_6 ?_ | refine re_field rfl rfl rfl rfl rfl fo_46_6 ?_ | refine re_fieldA rfl rfl rfl rfl rfl fo_46_6 ?_
          first | refine re_field0 rfl rfl rfl rfl rfl fo_38_1 ?_ | refine re_field rfl rfl rfl rfl rfl fo_38_1 ?_ | refine re_fieldA rfl rfl rfl rfl rfl fo_38_1 ?_
          refine re_load H rfl rfl rfl rfl rfl sh_3 rfl ?_
          refine re_move rfl rfl rfl rfl rfl ?_
          refine re_nilc rfl rfl rfl rfl rfl ?_
          first | refine re_field0 rfl rfl rfl rfl rfl fo_54_0 ?_ | refine re_field rfl rfl rfl rfl rfl fo_54_0 ?_ | refine re_fieldA rfl rfl rfl rfl rfl fo_54_0 ?_
          refine re_load H rfl rfl rfl rfl rfl sh_3 rfl ?_
          refine re_bin rfl rfl rfl rfl rfl rfl rfl ?_
          have ho3 : decide (m.s1 = r.cl) = true := by simp [ho1]
          simp only [ho3]
          refine re_pickT rfl rfl rfl rfl rfl rfl ?_
          refine re_assign rfl rfl rfl rfl rfl ?_
          refine re_nil ?_
          refine qe_noPanic ?_
          refine qe_thenC ?_
          refine ce_seq ?_
          refine ce_seq ?_
          refine ce_text (tab := []) (soft := 7) (.op 0 (.op 1 (.op 2 .nil))) rfl rfl ?_
          first | refine re_field0 rfl rfl rfl rfl rfl fo_46_0 ?_ | refine re_field rfl rfl rfl rfl rfl fo_46_0 ?_ | refine re_fieldA rfl rfl rfl rfl rfl fo_46_0 ?_
          refine re_load H rfl rfl rfl rfl rfl sh_3 rfl ?_
          refine re_bin rfl rfl rfl rfl rfl rfl rfl ?_
          refine re_nil ?_
          refine qe_thenC ?_
          refine ce_cond rfl (fun h4 => ?_) (fun h4 => ?_)
          · try simp only [zn1, zn2, zn3, zn4, zn5, zn6] at h4
            omega
          · try simp only [zn1, zn2, zn3, zn4, zn5, zn6] at h4
            refine ce_skip ?_
            refine qe_thenC ?_
            refine ce_seq ?_
            refine ce_seq ?_
            refine ce_text (tab := []) (soft := 8191) (.op 0 (.op 1 (.op 2 (.op 3 (.op 4 (.op 5 (.op 6 (.op 7 (.op 8 (.op 9 (.op 10 (.op 11 (.op 12 .nil))))))))))))) rfl rfl ?_
            first | refine re_field0 rfl rfl rfl rfl rfl fo_46_0 ?_ | refine re_field rfl rfl rfl rfl rfl fo_46_0 ?_ | refine re_fieldA rfl rfl rfl rfl rfl fo_46_0 ?_
            refine re_load H rfl rfl rfl rfl rfl sh_3 rfl ?_
            refine re_bin rfl rfl rfl rfl rfl rfl rfl ?_
            have hk13 : decide (m.kind = 13) = false := by simp [hkd]
            simp only [hk13]
            refine re_move rfl rfl rfl rfl rfl ?_
            refine re_skip1 rfl rfl rfl ?_
            refine re_pickF rfl rfl rfl rfl rfl rfl ?_
            refine re_move rfl rfl rfl rfl rfl ?_
            refine re_skip1 rfl rfl rfl ?_
            refine re_skip1 rfl rfl rfl ?_
            refine re_skip1 rfl rfl rfl ?_
            refine re_skip1 rfl rfl rfl ?_
            refine re_skip1 rfl rfl rfl ?_
            refine re_pickF rfl rfl rfl rfl rfl rfl ?_
            refine re_nil ?_
            refine qe_thenC ?_
            refine ce_condF rfl ?_
            refine ce_skip ?_
            refine qe_thenC ?_
            refine ce_seq ?_
            refine ce_seq ?_
            refine ce_text (tab := []) (soft := 8191) (.op 0 (.op 1 (.op 2 (.op 3 (.op 4 (.op 5 (.op 6 (.op 7 (.op 8 (.op 9 (.op 10 (.op 11 (.op 12 .nil))))))))))))) rfl rfl ?_
            first | refine re_field0 rfl rfl rfl rfl rfl fo_46_0 ?_ | refine re_field rfl rfl rfl rfl rfl fo_46_0 ?_ | refine re_fieldA rfl rfl rfl rfl rfl fo_46_0 ?_
            refine re_load H rfl rfl rfl rfl rfl sh_3 rfl ?_
            refine re_bin rfl rfl rfl rfl rfl rfl rfl ?_
            have hk15 : decide (m.kind = 15) = true := by simp [hkd]
            simp only [hk15]
            refine re_move rfl rfl rfl rfl rfl ?_
            refine re_move rfl rfl rfl rfl rfl ?_
            refine re_pickT rfl rfl rfl rfl rfl rfl ?_
            refine re_move rfl rfl rfl rfl rfl ?_
            refine re_move rfl rfl rfl rfl rfl ?_
            refine re_nilc rfl rfl rfl rfl rfl ?_
            first | refine re_field0 rfl rfl rfl rfl rfl fo_54_9 ?_ | refine re_field rfl rfl rfl rfl rfl fo_54_9 ?_ | refine re_fieldA rfl rfl rfl rfl rfl fo_54_9 ?_
            refine re_load H rfl rfl rfl rfl rfl sh_3 rfl ?_
            refine re_bin rfl rfl rfl rfl rfl rfl rfl ?_
            have hph : decide (r.ph = 2) = true := by simp [hp]
            simp only [hph]
            refine re_pickT rfl rfl rfl rfl rfl rfl ?_
            refine re_nil ?_
            refine qe_thenC ?_
            refine ce_condT rfl ?_
            refine ce_seq ?_
            refine ce_text (tab := []) (soft := 63) (.op 0 (.op 1 (.op 2 (.op 3 (.op 4 (.op 5 (.op 6 .nil))))))) rfl rfl ?_
            refine re_move rfl rfl rfl rfl rfl ?_
            refine re_nilc rfl rfl rfl rfl rfl ?_
            first | refine re_field0 rfl rfl rfl rfl rfl fo_54_10 ?_ | refine re_field rfl rfl rfl rfl rfl fo_54_10 ?_ | refine re_fieldA rfl rfl rfl rfl rfl fo_54_10 ?_
            refine re_load H rfl rfl rfl rfl rfl sh_51 rfl ?_
            refine re_move rfl rfl rfl rfl rfl ?_
            refine re_indexL rfl rfl rfl rfl rfl rfl ul_51 ei_51 (by omega) (by omega) ?_
            refine re_store H rfl rfl rfl rfl rfl rfl sh_4 rfl (Nat.ble_eq_true_of_le (by simp; omega)) rfl ?_
            intro cs w hcs H
            replace hcs := (set_one (l := r.ans) (k := k) Value.bool true).symm.trans hcs
            subst hcs
            refine ⟨(fun h => (nomatch h)), ?_⟩
            refine re_nil ?_
            refine qe_thenC ?_
            refine ce_seq ?_
            refine ce_text (tab := []) (soft := 63) (.op 0 (.op 1 (.op 2 (.op 3 (.op 4 (.op 5 (.op 6 .nil))))))) rfl rfl ?_
            refine re_move rfl rfl rfl rfl rfl ?_
            refine re_nilc rfl rfl rfl rfl rfl ?_
            first | refine re_field0 rfl rfl rfl rfl rfl fo_54_11 ?_ | refine re_field rfl rfl rfl rfl rfl fo_54_11 ?_ | refine re_fieldA rfl rfl rfl rfl rfl fo_54_11 ?_
            refine re_load H rfl rfl rfl rfl rfl sh_51 rfl ?_
            refine re_move rfl rfl rfl rfl rfl ?_
            refine re_indexL rfl rfl rfl rfl rfl rfl ul_51 ei_51 (by omega) (by omega) ?_
            refine re_store H rfl rfl rfl rfl rfl rfl sh_4 rfl (Nat.ble_eq_true_of_le (by simp; omega)) rfl ?_
            intro cs w hcs H
            replace hcs := (set_one (l := r.cnt) (k := k) Value.bool true).symm.trans hcs
            subst hcs
            refine ⟨(fun h => (nomatch h)), ?_⟩
            refine re_nil ?_
            refine qe_thenC ?_
            refine ce_seq ?_
            refine ce_seq ?_
            refine ce_text (tab := []) (soft := 21) (.op 0 (.op 1 (.op 2 (.op 3 (.op 4 .nil))))) rfl rfl ?_
            refine re_move rfl rfl rfl rfl rfl ?_
            refine re_call en_59 rfl rfl rfl rfl rfl ?_
            refine Calls.mono (count_r (r := r.accepted k) H hn (by simp [RS.accepted, hc])) ?_
            rintro e w ⟨rfl, H⟩
            refine ⟨_, rfl, (fun h => (nomatch h)), ?_⟩
            refine re_move rfl rfl rfl rfl rfl ?_
            refine re_call en_60 rfl rfl rfl rfl rfl ?_
            refine Calls.mono (need_r (r := r.accepted k) H hn) ?_
            rintro e w ⟨rfl, H⟩
            refine ⟨_, rfl, (fun h => (nomatch h)), ?_⟩
            refine re_bin rfl rfl rfl rfl rfl rfl rfl ?_
            refine re_nil ?_
            refine qe_thenC ?_
            refine ce_cond rfl (fun h9 => ?_) (fun h9 => ?_)
            · try simp only [zn1, zn2, zn3, zn4, zn5, zn6] at h9
              exact absurd hq (by show ¬ ((r.accepted k).gs.length : Int) / 2 + 1 ≤ (cntN (r.accepted k).cnt : Int); omega)
            · try simp only [zn1, zn2, zn3, zn4, zn5, zn6] at h9
              refine ce_skip ?_
              refine qe_thenC ?_
              refine ce_seq ?_
              refine ce_text (tab := []) (soft := 7) (.op 0 (.op 1 (.op 2 (.op 3 .nil)))) rfl rfl ?_
              refine re_move rfl rfl rfl rfl rfl ?_
              refine re_nilc rfl rfl rfl rfl rfl ?_
              first | refine re_field0 rfl rfl rfl rfl rfl fo_54_15 ?_ | refine re_field rfl rfl rfl rfl rfl fo_54_15 ?_ | refine re_fieldA rfl rfl rfl rfl rfl fo_54_15 ?_
              refine re_store H rfl rfl rfl rfl rfl rfl sh_4 rfl rfl rfl ?_
              intro cs w hcs H
              first | rw [setMany_whole rfl] at hcs | simp only [setMany, List.set_cons_zero, List.set_cons_succ, Nat.reduceAdd, Nat.zero_add, PS.cells, PS.over, GM.cells, Cmd.cells, List.cons_append, List.nil_append, RS.cellsV, RS.ch, stC, RS.decide, RS.accepted, RS.phase] at hcs
              subst hcs
              refine ⟨(fun h => (nomatch h)), ?_⟩
              refine re_nil ?_
              refine qe_thenC ?_
              refine ce_seq ?_
              refine ce_text (tab := []) (soft := 127) (.op 0 (.op 1 (.op 2 (.op 3 (.op 4 (.op 5 (.op 6 (.op 7 .nil)))))))) rfl rfl ?_
              refine re_move rfl rfl rfl rfl rfl ?_
              refine re_move rfl rfl rfl rfl rfl ?_
              refine re_nilc rfl rfl rfl rfl rfl ?_
              first | refine re_field0 rfl rfl rfl rfl rfl fo_54_5 ?_ | refine re_field rfl rfl rfl rfl rfl fo_54_5 ?_ | refine re_fieldA rfl rfl rfl rfl rfl fo_54_5 ?_
              refine re_load H rfl rfl rfl rfl rfl sh_28 (by first | exact rdAt_all rfl | (simp only [rdAt, PS.cells, PS.over, GM.cells, Cmd.cells, List.cons_append, List.nil_append, RS.cellsV, RS.ch, stC, RS.decide, RS.accepted, RS.phase, List.drop_succ_cons, List.drop_zero, List.take_succ_cons, List.take_zero, List.length_cons, List.length_nil, Nat.zero_add, Nat.reduceAdd, Nat.reduceLeDiff, Nat.le_refl, ↓reduceIte] <;> rfl)) ?_
              refine re_nilc rfl rfl rfl rfl rfl ?_
              first | refine re_field0 rfl rfl rfl rfl rfl fo_54_18 ?_ | refine re_field rfl rfl rfl rfl rfl fo_54_18 ?_ | refine re_fieldA rfl rfl rfl rfl rfl fo_54_18 ?_
              refine re_store H rfl rfl rfl rfl rfl rfl sh_28 rfl rfl rfl ?_
              intro cs w hcs H
              first | rw [setMany_whole rfl] at hcs | simp only [setMany, List.set_cons_zero, List.set_cons_succ, Nat.reduceAdd, Nat.zero_add, PS.cells, PS.over, GM.cells, Cmd.cells, List.cons_append, List.nil_append, RS.cellsV, RS.ch, stC, RS.decide, RS.accepted, RS.phase] at hcs
              subst hcs
              refine ⟨(fun h => (nomatch h)), ?_⟩
              refine re_nil ?_
              refine qe_thenC ?_
              refine ce_seq ?_
              refine ce_text (tab := []) (soft := 7) (.op 0 (.op 1 (.op 2 (.op 3 .nil)))) rfl rfl ?_
              refine re_move rfl rfl rfl rfl rfl ?_
              refine re_nilc rfl rfl rfl rfl rfl ?_
              first | refine re_field0 rfl rfl rfl rfl rfl fo_54_9 ?_ | refine re_field rfl rfl rfl rfl rfl fo_54_9 ?_ | refine re_fieldA rfl rfl rfl rfl rfl fo_54_9 ?_
              refine re_store H rfl rfl rfl rfl rfl rfl sh_3 rfl rfl rfl ?_
              intro cs w hcs H
              first | rw [setMany_whole rfl] at hcs | simp only [setMany, List.set_cons_zero, List.set_cons_succ, Nat.reduceAdd, Nat.zero_add, PS.cells, PS.over, GM.cells, Cmd.cells, List.cons_append, List.nil_append, RS.cellsV, RS.ch, stC, RS.decide, RS.accepted, RS.phase] at hcs
              subst hcs
              refine ⟨(fun h => (nomatch h)), ?_⟩
              refine re_nil ?_
              refine qe_thenC ?_
              refine ce_seq ?_
              refine ce_text (tab := []) (soft := 1) (.op 0 .nil) rfl rfl ?_
              refine re_assign rfl rfl rfl rfl rfl ?_
              refine re_nil ?_
              refine qe_thenC ?_
              refine ce_seq ?_
              refine ce_seq ?_
              refine ce_text (tab := []) (soft := 1) (.op 0 .nil) rfl rfl ?_
              refine re_assign rfl rfl rfl rfl rfl ?_
              refine re_nil ?_
              refine qe_thenC ?_
              refine ce_block ?_
              replace H := H.sub (.cons_cons _ (.cons_cons _ (.cons_cons _ (.cons_cons _ (.cons_cons _ (.cons_cons _ (.cons _ (List.Sublist.refl _))))))))
              refine ce_loop (α := Nat × (Option Nat) × Nat) (fun ⟨j, a, c⟩ => [(0, .pointer (some ⟨h, 0, none⟩)), (7, slv a j c), (8, .int .i64 (j : Int))]) (fun ⟨j, a, c⟩ w => Own B (.row a c 46 30 j (msgs ((r.gs.take j).map r.learnedMsg)) :: .cells h 54 ((r.acc k).cellsV (slv (some a1) (r.acc k).gs.length (r.acc k).gs.length) (slv (some a2) (r.acc k).gs.length (r.acc k).gs.length) (slv (some a3) (r.acc k).gs.length (r.acc k).gs.length) (slv (some a4) (r.acc k).gs.length (r.acc k).gs.length)) :: .row r.ga r.gc 3 1 r.gs.length (ints r.gs) :: .cells a1 4 (bools (r.acc k).ans) :: .cells a2 4 (bools (r.acc k).cnt) :: .cells a3 38 (stamps (r.acc k).held) :: .cells a4 28 (cmdsC (r.acc k).cms) :: F) w ∧ j ≤ r.gs.length) (fun ⟨j, a, c⟩ => r.gs.length - j) (0, none, 0) (And.intro rfl (And.intro rfl (And.intro rfl trivial))) ⟨H.nil_row 46 30, Nat.zero_le _⟩ ?_
              rintro ⟨j, a, c⟩ w HW
              obtain ⟨H, hj⟩ := HW
              change CE _ _ _ _ _ [(0, .pointer (some ⟨h, 0, none⟩)), (7, slv a j c), (8, .int .i64 (j : Int))] _
              simp only [RS.acc, RS.decide, RS.accepted, RS.cellsV] at H
              refine ce_seq ?_
              refine ce_seq ?_
              refine ce_text (tab := []) (soft := 127) (.op 0 (.op 1 (.op 2 (.op 3 (.op 4 (.op 5 (.op 6 .nil))))))) rfl rfl ?_
              refine re_move rfl rfl rfl rfl rfl ?_
              refine re_move rfl rfl rfl rfl rfl ?_
              refine re_nilc rfl rfl rfl rfl rfl ?_
              first | refine re_field0 rfl rfl rfl rfl rfl fo_54_3 ?_ | refine re_field rfl rfl rfl rfl rfl fo_54_3 ?_ | refine re_fieldA rfl rfl rfl rfl rfl fo_54_3 ?_
              refine re_load H rfl rfl rfl rfl rfl sh_31 rfl ?_
              refine re_len rfl rfl rfl rfl rfl ul_31 ?_
              refine re_bin rfl rfl rfl rfl rfl rfl rfl ?_
              refine re_nil ?_
              refine qe_thenC ?_
              refine ce_cond rfl (fun h10 => ?_) (fun h10 => ?_)
              · try simp only [zn1, zn2, zn3, zn4, zn5, zn6] at h10
                refine ce_skip ?_
                refine qe_thenC ?_
                refine ce_seq ?_
                refine ce_block ?_
                refine ce_open (tab := [0, 0, 2, 6, 14, 30, 0, 64, 192, 448, 0, 1984, 4032, 8128, 0, 16384, 49152, 114688, 0, 262144, 786432, 1835008, 0, 4194304, 12582912, 29360128, 0, 67108864, 201326592, 469762048, 1073741822, 2147483646, 4294967295, 8589934591]) (soft := 10737418239) mixed (.op 0 (.op 1 (.op 2 (.op 3 (.op 4 (.op 5 (.op 6 (.op 7 (.op 8 (.op 9 (.op 10 (.op 11 (.op 12 (.op 13 (.op 14 (.op 15 (.op 16 (.op 17 (.op 18 (.op 19 (.op 20 (.op 21 (.op 22 (.op 23 (.op 24 (.op 25 (.op 26 (.op 27 (.op 28 (.op 29 (.op 30 (.op 31 (.op 32 (.op 33 .nil)))))))))))))))))))))))))))))))))) (by kernel_rfl) H ?_
                intro w H
                refine re_move rfl rfl rfl rfl rfl ?_
                refine re_move rfl rfl rfl rfl rfl ?_
                refine re_nilc rfl rfl rfl rfl rfl ?_
                first | refine re_field0 rfl rfl rfl rfl rfl fo_54_0 ?_ | refine re_field rfl rfl rfl rfl rfl fo_54_0 ?_ | refine re_fieldA rfl rfl rfl rfl rfl fo_54_0 ?_
                refine re_load H rfl rfl rfl rfl rfl sh_3 rfl ?_
                refine re_build rfl rfl rfl rfl rfl ze_36 pl_36 (by simp only [fillL, setMany, Value.cells, List.getElem?_cons_zero, List.getElem?_cons_succ, List.length_cons, List.length_nil, List.set_cons_zero, List.set_cons_succ, Nat.reduceAdd, Nat.reduceLeDiff, Nat.zero_add, and_self, ↓reduceIte]; rfl) ?_
                refine re_move rfl rfl rfl rfl rfl ?_
                refine re_nilc rfl rfl rfl rfl rfl ?_
                first | refine re_field0 rfl rfl rfl rfl rfl fo_54_3 ?_ | refine re_field rfl rfl rfl rfl rfl fo_54_3 ?_ | refine re_fieldA rfl rfl rfl rfl rfl fo_54_3 ?_
                refine re_load H rfl rfl rfl rfl rfl sh_31 rfl ?_
                refine re_move rfl rfl rfl rfl rfl ?_
                have hlt : j < r.gs.length := by omega
                obtain ⟨ad, had, hA⟩ := (H.rsees r.ga).open_ H (by omega)
                have hsl : slv r.ga r.gs.length r.gc = .slice (some ad) r.gs.length r.gc := by rw [slv, had]
                simp only [hsl]
                refine re_index rfl rfl rfl rfl rfl rfl ul_31 ei_31 (by omega) (by omega) ?_
                refine re_loadW rfl rfl rfl rfl rfl (run_loadAt_one sh_3 (hA.int H hlt)) ?_
                refine re_build rfl rfl rfl rfl rfl ze_36 pl_36 (by simp only [fillL, setMany, Value.cells, List.getElem?_cons_zero, List.getElem?_cons_succ, List.length_cons, List.length_nil, List.set_cons_zero, List.set_cons_succ, Nat.reduceAdd, Nat.reduceLeDiff, Nat.zero_add, and_self, ↓reduceIte]; rfl) ?_
                refine re_move rfl rfl rfl rfl rfl ?_
                refine re_nilc rfl rfl rfl rfl rfl ?_
                first | refine re_field0 rfl rfl rfl rfl rfl fo_54_1 ?_ | refine re_field rfl rfl rfl rfl rfl fo_54_1 ?_ | refine re_fieldA rfl rfl rfl rfl rfl fo_54_1 ?_
                refine re_load H rfl rfl rfl rfl rfl sh_3 rfl ?_
                refine re_move rfl rfl rfl rfl rfl ?_
                refine re_nilc rfl rfl rfl rfl rfl ?_
                first | refine re_field0 rfl rfl rfl rfl rfl fo_54_7 ?_ | refine re_field rfl rfl rfl rfl rfl fo_54_7 ?_ | refine re_fieldA rfl rfl rfl rfl rfl fo_54_7 ?_
                refine re_load H rfl rfl rfl rfl rfl sh_3 rfl ?_
                refine re_move rfl rfl rfl rfl rfl ?_
                refine re_nilc rfl rfl rfl rfl rfl ?_
                first | refine re_field0 rfl rfl rfl rfl rfl fo_54_2 ?_ | refine re_field rfl rfl rfl rfl rfl fo_54_2 ?_ | refine re_fieldA rfl rfl rfl rfl rfl fo_54_2 ?_
                refine re_load H rfl rfl rfl rfl rfl sh_24 (by first | exact rdAt_all rfl | (simp only [rdAt, PS.cells, PS.over, GM.cells, Cmd.cells, List.cons_append, List.nil_append, RS.cellsV, RS.ch, stC, RS.decide, RS.accepted, RS.phase, List.drop_succ_cons, List.drop_zero, List.take_succ_cons, List.take_zero, List.length_cons, List.length_nil, Nat.zero_add, Nat.reduceAdd, Nat.reduceLeDiff, Nat.le_refl, ↓reduceIte] <;> rfl)) ?_
                refine re_move rfl rfl rfl rfl rfl ?_
                refine re_nilc rfl rfl rfl rfl rfl ?_
                first | refine re_field0 rfl rfl rfl rfl rfl fo_54_5 ?_ | refine re_field rfl rfl rfl rfl rfl fo_54_5 ?_ | refine re_fieldA rfl rfl rfl rfl rfl fo_54_5 ?_
                refine re_load H rfl rfl rfl rfl rfl sh_28 (by first | exact rdAt_all rfl | (simp only [rdAt, PS.cells, PS.over, GM.cells, Cmd.cells, List.cons_append, List.nil_append, RS.cellsV, RS.ch, stC, RS.decide, RS.accepted, RS.phase, List.drop_succ_cons, List.drop_zero, List.take_succ_cons, List.take_zero, List.length_cons, List.length_nil, Nat.zero_add, Nat.reduceAdd, Nat.reduceLeDiff, Nat.le_refl, ↓reduceIte] <;> rfl)) ?_
                refine re_build rfl rfl rfl rfl rfl ze_46 pl_46 (by simp only [fillL, setMany, Value.cells, List.getElem?_cons_zero, List.getElem?_cons_succ, List.length_cons, List.length_nil, List.set_cons_zero, List.set_cons_succ, Nat.reduceAdd, Nat.reduceLeDiff, Nat.zero_add, and_self, ↓reduceIte]; rfl) ?_
                refine re_slice1 H rfl rfl rfl rfl rfl rfl ul_62 ei_62 ze_46 rfl rfl rfl (by decide) ?_
                intro g229 w H
                refine ⟨(fun _ => ⟨ancs (i := 31) (j := 29) rfl, ancs (i := 31) (j := 25) rfl, ancs (i := 31) (j := 21) rfl, ancs (i := 31) (j := 17) rfl, ancs (i := 31) (j := 12) rfl, ancs (i := 31) (j := 9) rfl, ancs (i := 31) (j := 4) rfl, trivial⟩), ?_⟩
                refine re_append H rfl rfl rfl rfl rfl rfl ul_62 ei_62 ze_46 rfl (by decide) (src_cells H rfl) rfl (by omega) (by simp only [maxLen]; omega) ?_
                intro a' c' w H _
                simp only [List.set_cons_zero, List.set_cons_succ] at H
                refine ⟨(fun _ => ⟨ancs (i := 32) (j := 29) rfl, ancs (i := 32) (j := 25) rfl, ancs (i := 32) (j := 21) rfl, ancs (i := 32) (j := 17) rfl, ancs (i := 32) (j := 12) rfl, ancs (i := 32) (j := 9) rfl, ancs (i := 32) (j := 4) rfl, trivial⟩), ?_⟩
                refine re_assign rfl rfl rfl rfl rfl ?_
                refine re_nil ?_
                refine qe_noPanic ?_
                refine qe_block_norm ?_
                refine qe_thenC ?_
                refine ce_text (tab := []) (soft := 7) (.op 0 (.op 1 (.op 2 .nil))) rfl rfl ?_
                refine re_move rfl rfl rfl rfl rfl ?_
                first | refine re_add rfl rfl rfl rfl rfl rfl (by omega) ?_ | refine re_bin rfl rfl rfl rfl rfl rfl rfl ?_
                refine re_assign rfl rfl rfl rfl rfl ?_
                refine re_nil ?_
                refine qe_round (x := (j, a, c)) (j + 1, a', c') ?_ ?_ ?_
                · first | (dsimp only; omega) | omega
                · exact (And.intro rfl (And.intro rfl (And.intro rfl trivial)))
                ·
                  refine ⟨?_, by omega⟩
                  rw [List.take_succ_eq_append_getElem hlt, List.map_append, List.map_singleton, msgs_snoc]
                  exact H.tail
              · try simp only [zn1, zn2, zn3, zn4, zn5, zn6] at h10
                refine ce_exit ?_
                refine qe_then_exit ?_
                refine qe_then_exit ?_
                refine qe_block_exit ?_
                refine qe_thenC ?_
                refine ce_seq ?_
                refine ce_text (tab := []) (soft := 3) (.op 0 (.op 1 .nil)) rfl rfl ?_
                refine re_move rfl rfl rfl rfl rfl ?_
                refine re_assign rfl rfl rfl rfl rfl ?_
                refine re_nil ?_
                refine qe_thenC ?_
                refine ce_ret ?_
                refine qe_then_ret ?_
                refine qe_end rfl rfl ?_
                obtain rfl : j = r.gs.length := by omega
                rw [List.take_length] at H
                rw [RS.outL, List.length_map]
                exact ⟨a, c, rfl, H⟩

theorem take_elseR {B w : World} {F : List Ent} {h a1 a2 a3 a4 : Nat} {r : RS} {m : GM} {k : Nat} (H : Own B (.cells h 54 (r.cellsV (slv (some a1) r.gs.length r.gs.length) (slv (some a2) r.gs.length r.gs.length) (slv (some a3) r.gs.length r.gs.length) (slv (some a4) r.gs.length r.gs.length)) :: .row r.ga r.gc 3 1 r.gs.length (ints r.gs) :: .cells a1 4 (bools r.ans) :: .cells a2 4 (bools r.cnt) :: .cells a3 38 (stamps r.held) :: .cells a4 28 (cmdsC r.cms) :: F) w) (hn : r.gs.length ≤ 1000000) (hv : r.at m = (k : Int)) (hk : k < r.gs.length) (ha : r.ans.length = r.gs.length) (hc : r.cnt.length = r.gs.length) (hh : r.held.length = r.gs.length) (hm : r.cms.length = r.gs.length) (hkd : m.kind ≠ 13 ∧ m.kind ≠ 14 ∧ m.kind ≠ 15 ∧ m.kind ≠ 16 ∧ m.kind ≠ 17) (hs : r.ans[k]'(by omega) = false) :
    Calls Try.prog 29 #[.pointer (some ⟨h, 0, none⟩), .agg m.cells.toArray] w fun e w' => e = .returned (slv none 0 0) ∧ Own B (.cells h 54 (r.cellsV (slv (some a1) r.gs.length r.gs.length) (slv (some a2) r.gs.length r.gs.length) (slv (some a3) r.gs.length r.gs.length) (slv (some a4) r.gs.length r.gs.length)) :: .row r.ga r.gc 3 1 r.gs.length (ints r.gs) :: .cells a1 4 (bools r.ans) :: .cells a2 4 (bools r.cnt) :: .cells a3 38 (stamps r.held) :: .cells a4 28 (cmdsC r.cms) :: F) w' := by
  refine calls_ce (args := [.pointer (some ⟨h, 0, none⟩), .agg m.cells.toArray]) Try.func29 rfl rfl ?_
  change CE _ _ 232 _ _ [(0, .pointer (some ⟨h, 0, none⟩)), (1, .agg m.cells.toArray)] _
  refine ce_seq ?_
  refine ce_text (tab := []) (soft := 2) (.op 0 (.op 1 .nil)) rfl rfl ?_
  refine re_box H rfl rfl rfl rfl rfl rfl ?_
  intro g3 w H
  refine ⟨(fun h => (nomatch h)), ?_⟩
  refine re_assign rfl rfl rfl rfl rfl ?_
  refine re_nil ?_
  refine qe_thenC ?_
  refine ce_seq ?_
  refine ce_text (tab := []) (soft := 11) (.op 0 (.op 1 (.op 2 (.op 3 .nil)))) rfl rfl ?_
  refine re_move rfl rfl rfl rfl rfl ?_
  refine re_load H rfl rfl rfl rfl rfl sh_46 (by first | exact rdAt_all rfl | (simp only [rdAt, PS.cells, PS.over, GM.cells, Cmd.cells, List.cons_append, List.nil_append, RS.cellsV, RS.ch, stC, RS.decide, RS.accepted, RS.phase, List.drop_succ_cons, List.drop_zero, List.take_succ_cons, List.take_zero, List.length_cons, List.length_nil, Nat.zero_add, Nat.reduceAdd, Nat.reduceLeDiff, Nat.le_refl, ↓reduceIte] <;> rfl)) ?_
  refine re_call en_58 rfl rfl rfl rfl rfl ?_
  have H := Own.arr [0, 6, 6, 6, 6, 6, 6] H
  simp only [arrs, Fw.front, zm1, zm2, zm3, zm4, zm5] at H
  refine Calls.mono (place_r H hn) ?_
  rintro e w ⟨rfl, H⟩
  rw [show (if r.foreign m then (-1 : Int) else idxOf m.fi r.gs) = r.at m from rfl, hv]
  refine ⟨_, rfl, (fun h => (nomatch h)), ?_⟩
  refine re_assign rfl rfl rfl rfl rfl ?_
  refine re_nil ?_
  refine qe_thenC ?_
  refine ce_seq ?_
  refine ce_seq ?_
  refine ce_text (tab := []) (soft := 3) (.op 0 (.op 1 .nil)) rfl rfl ?_
  refine re_move rfl rfl rfl rfl rfl ?_
  refine re_bin rfl rfl rfl rfl rfl rfl rfl ?_
  refine re_nil ?_
  refine qe_thenC ?_
  refine ce_cond rfl (fun h0 => ?_) (fun h0 => ?_)
  · try simp only [zn1, zn2, zn3, zn4, zn5, zn6] at h0
    omega
  · try simp only [zn1, zn2, zn3, zn4, zn5, zn6] at h0
    refine ce_skip ?_
    refine qe_thenC ?_
    refine ce_seq ?_
    refine ce_seq ?_
    refine ce_text (tab := []) (soft := 7) (.op 0 (.op 1 (.op 2 .nil))) rfl rfl ?_
    first | refine re_field0 rfl rfl rfl rfl rfl fo_46_0 ?_ | refine re_field rfl rfl rfl rfl rfl fo_46_0 ?_ | refine re_fieldA rfl rfl rfl rfl rfl fo_46_0 ?_
    refine re_load H rfl rfl rfl rfl rfl sh_3 rfl ?_
    refine re_bin rfl rfl rfl rfl rfl rfl rfl ?_
    refine re_nil ?_
    refine qe_thenC ?_
    refine ce_cond rfl (fun h1 => ?_) (fun h1 => ?_)
    · try simp only [zn1, zn2, zn3, zn4, zn5, zn6] at h1
      omega
    · try simp only [zn1, zn2, zn3, zn4, zn5, zn6] at h1
      refine ce_skip ?_
      refine qe_thenC ?_
      refine ce_seq ?_
      refine ce_seq ?_
      refine ce_text (tab := []) (soft := 7) (.op 0 (.op 1 (.op 2 .nil))) rfl rfl ?_
      first | refine re_field0 rfl rfl rfl rfl rfl fo_46_0 ?_ | refine re_field rfl rfl rfl rfl rfl fo_46_0 ?_ | refine re_fieldA rfl rfl rfl rfl rfl fo_46_0 ?_
      refine re_load H rfl rfl rfl rfl rfl sh_3 rfl ?_
      refine re_bin rfl rfl rfl rfl rfl rfl rfl ?_
      refine re_nil ?_
      refine qe_thenC ?_
      refine ce_cond rfl (fun h2 => ?_) (fun h2 => ?_)
      · try simp only [zn1, zn2, zn3, zn4, zn5, zn6] at h2
        omega
      · try simp only [zn1, zn2, zn3, zn4, zn5, zn6] at h2
        refine ce_skip ?_
        refine qe_thenC ?_
        refine ce_seq ?_
        refine ce_seq ?_
        refine ce_text (tab := []) (soft := 127) (.op 0 (.op 1 (.op 2 (.op 3 (.op 4 (.op 5 (.op 6 .nil))))))) rfl rfl ?_
        refine re_move rfl rfl rfl rfl rfl ?_
        refine re_nilc rfl rfl rfl rfl rfl ?_
        first | refine re_field0 rfl rfl rfl rfl rfl fo_54_10 ?_ | refine re_field rfl rfl rfl rfl rfl fo_54_10 ?_ | refine re_fieldA rfl rfl rfl rfl rfl fo_54_10 ?_
        refine re_load H rfl rfl rfl rfl rfl sh_51 rfl ?_
        refine re_move rfl rfl rfl rfl rfl ?_
        refine re_indexL rfl rfl rfl rfl rfl rfl ul_51 ei_51 (by omega) (by omega) ?_
        refine re_load H rfl rfl rfl rfl rfl sh_4 (rd_one Value.bool (by omega)) ?_
        refine re_nil ?_
        refine qe_thenC ?_
        refine ce_cond rfl (fun h3 => ?_) (fun h3 => ?_)
        · try simp only [zn1, zn2, zn3, zn4, zn5, zn6] at h3
          simp_all
        · try simp only [zn1, zn2, zn3, zn4, zn5, zn6] at h3
          refine ce_skip ?_
          refine qe_thenC ?_
          refine ce_seq ?_
          refine ce_open (tab := [0, 1, 3, 0, 8, 24, 56, 127, 255, 511, 1023, 2047, 511, 4607, 12799, 29183, 65535, 131071, 262143]) (soft := 524287) mixed (.op 0 (.op 1 (.op 2 (.op 3 (.op 4 (.op 5 (.op 6 (.op 7 (.op 8 (.op 9 (.op 10 (.op 11 (.op 12 (.op 13 (.op 14 (.op 15 (.op 16 (.op 17 (.op 18 .nil))))))))))))))))))) (by kernel_rfl) H ?_
          intro w H
          first | refine re_field0 rfl rfl rfl rfl rfl fo_46_6 ?_ | refine re_field rfl rfl rfl rfl rfl fo_46_6 ?_ | refine re_fieldA rfl rfl rfl rfl rfl fo_46_6 ?_
          first | refine re_field0 rfl rfl rfl rfl rfl fo_38_0 ?_ | refine re_field rfl rfl rfl rfl rfl fo_38_0 ?_ | refine re_fieldA rfl rfl rfl rfl rfl fo_38_0 ?_
          refine re_load H rfl rfl rfl rfl rfl sh_3 rfl ?_
          refine re_move rfl rfl rfl rfl rfl ?_
          refine re_nilc rfl rfl rfl rfl rfl ?_
          first | refine re_field0 rfl rfl rfl rfl rfl fo_54_6 ?_ | refine re_field rfl rfl rfl rfl rfl fo_54_6 ?_ | refine re_fieldA rfl rfl rfl rfl rfl fo_54_6 ?_
          refine re_load H rfl rfl rfl rfl rfl sh_3 rfl ?_
          refine re_bin rfl rfl rfl rfl rfl rfl rfl ?_
          refine re_move rfl rfl rfl rfl rfl ?_
          refine re_split (fun hg16_8 => ?_) (fun hg16_8 => ?_)
          ·
            first | refine re_field0 rfl rfl rfl rfl rfl fo_46_6 ?_ | refine re_field rfl rfl rfl rfl rfl fo_46_6 ?_ | refine re_fieldA rfl rfl rfl rfl rfl fo_46_6 ?_
            first | refine re_field0 rfl rfl rfl rfl rfl fo_38_1 ?_ | refine re_field rfl rfl rfl rfl rfl fo_38_1 ?_ | refine re_fieldA rfl rfl rfl rfl rfl fo_38_1 ?_
            refine re_load H rfl rfl rfl rfl rfl sh_3 rfl ?_
            refine re_move rfl rfl rfl rfl rfl ?_
            refine re_nilc rfl rfl rfl rfl rfl ?_
            first | refine re_field0 rfl rfl rfl rfl rfl fo_54_0 ?_ | refine re_field rfl rfl rfl rfl rfl fo_54_0 ?_ | refine re_fieldA rfl rfl rfl rfl rfl fo_54_0 ?_
            refine re_load H rfl rfl rfl rfl rfl sh_3 rfl ?_
            refine re_bin rfl rfl rfl rfl rfl rfl rfl ?_
            refine re_pickT rfl rfl rfl rfl rfl rfl ?_
            refine re_assign rfl rfl rfl rfl rfl ?_
            refine re_nil ?_
            refine qe_noPanic ?_
            refine qe_thenC ?_
            refine ce_seq ?_
            refine ce_seq ?_
            refine ce_text (tab := []) (soft := 7) (.op 0 (.op 1 (.op 2 .nil))) rfl rfl ?_
            first | refine re_field0 rfl rfl rfl rfl rfl fo_46_0 ?_ | refine re_field rfl rfl rfl rfl rfl fo_46_0 ?_ | refine re_fieldA rfl rfl rfl rfl rfl fo_46_0 ?_
            refine re_load H rfl rfl rfl rfl rfl sh_3 rfl ?_
            refine re_bin rfl rfl rfl rfl rfl rfl rfl ?_
            refine re_nil ?_
            refine qe_thenC ?_
            refine ce_cond rfl (fun h4 => ?_) (fun h4 => ?_)
            · try simp only [zn1, zn2, zn3, zn4, zn5, zn6] at h4
              omega
            · try simp only [zn1, zn2, zn3, zn4, zn5, zn6] at h4
              refine ce_skip ?_
              refine qe_thenC ?_
              refine ce_seq ?_
              refine ce_seq ?_
              refine ce_text (tab := []) (soft := 8191) (.op 0 (.op 1 (.op 2 (.op 3 (.op 4 (.op 5 (.op 6 (.op 7 (.op 8 (.op 9 (.op 10 (.op 11 (.op 12 .nil))))))))))))) rfl rfl ?_
              first | refine re_field0 rfl rfl rfl rfl rfl fo_46_0 ?_ | refine re_field rfl rfl rfl rfl rfl fo_46_0 ?_ | refine re_fieldA rfl rfl rfl rfl rfl fo_46_0 ?_
              refine re_load H rfl rfl rfl rfl rfl sh_3 rfl ?_
              refine re_bin rfl rfl rfl rfl rfl rfl rfl ?_
              have hk13 : decide (m.kind = 13) = false := by simp [hkd]
              simp only [hk13]
              refine re_move rfl rfl rfl rfl rfl ?_
              refine re_skip1 rfl rfl rfl ?_
              refine re_pickF rfl rfl rfl rfl rfl rfl ?_
              refine re_move rfl rfl rfl rfl rfl ?_
              refine re_skip1 rfl rfl rfl ?_
              refine re_skip1 rfl rfl rfl ?_
              refine re_skip1 rfl rfl rfl ?_
              refine re_skip1 rfl rfl rfl ?_
              refine re_skip1 rfl rfl rfl ?_
              refine re_pickF rfl rfl rfl rfl rfl rfl ?_
              refine re_nil ?_
              refine qe_thenC ?_
              refine ce_condF rfl ?_
              refine ce_skip ?_
              refine qe_thenC ?_
              refine ce_seq ?_
              refine ce_seq ?_
              refine ce_text (tab := []) (soft := 8191) (.op 0 (.op 1 (.op 2 (.op 3 (.op 4 (.op 5 (.op 6 (.op 7 (.op 8 (.op 9 (.op 10 (.op 11 (.op 12 .nil))))))))))))) rfl rfl ?_
              first | refine re_field0 rfl rfl rfl rfl rfl fo_46_0 ?_ | refine re_field rfl rfl rfl rfl rfl fo_46_0 ?_ | refine re_fieldA rfl rfl rfl rfl rfl fo_46_0 ?_
              refine re_load H rfl rfl rfl rfl rfl sh_3 rfl ?_
              refine re_bin rfl rfl rfl rfl rfl rfl rfl ?_
              have hk15 : decide (m.kind = 15) = false := by simp [hkd]
              simp only [hk15]
              refine re_move rfl rfl rfl rfl rfl ?_
              refine re_skip1 rfl rfl rfl ?_
              refine re_pickF rfl rfl rfl rfl rfl rfl ?_
              refine re_move rfl rfl rfl rfl rfl ?_
              refine re_skip1 rfl rfl rfl ?_
              refine re_skip1 rfl rfl rfl ?_
              refine re_skip1 rfl rfl rfl ?_
              refine re_skip1 rfl rfl rfl ?_
              refine re_skip1 rfl rfl rfl ?_
              refine re_pickF rfl rfl rfl rfl rfl rfl ?_
              refine re_nil ?_
              refine qe_thenC ?_
              refine ce_condF rfl ?_
              refine ce_skip ?_
              refine qe_thenC ?_
              refine ce_seq ?_
              refine ce_text (tab := []) (soft := 1) (.op 0 .nil) rfl rfl ?_
              refine re_assign rfl rfl rfl rfl rfl ?_
              refine re_nil ?_
              refine qe_thenC ?_
              refine ce_ret ?_
              refine qe_end rfl rfl ?_
              exact ⟨rfl, H.sub (.cons_cons _ (.cons_cons _ (.cons_cons _ (.cons_cons _ (.cons_cons _ (.cons_cons _ (.cons _ (List.Sublist.refl _))))))))⟩
          ·
            refine re_skip1 rfl rfl rfl ?_
            refine re_skip1 rfl rfl rfl ?_
            refine re_skip1 rfl rfl rfl ?_
            refine re_skip1 rfl rfl rfl ?_
            refine re_skip1 rfl rfl rfl ?_
            refine re_skip1 rfl rfl rfl ?_
            refine re_skip1 rfl rfl rfl ?_
            refine re_skip1 rfl rfl rfl ?_
            refine re_pickF rfl rfl rfl rfl rfl rfl ?_
            refine re_assign rfl rfl rfl rfl rfl ?_
            refine re_nil ?_
            refine qe_noPanic ?_
            refine qe_thenC ?_
            refine ce_seq ?_
            refine ce_seq ?_
            refine ce_text (tab := []) (soft := 7) (.op 0 (.op 1 (.op 2 .nil))) rfl rfl ?_
            first | refine re_field0 rfl rfl rfl rfl rfl fo_46_0 ?_ | refine re_field rfl rfl rfl rfl rfl fo_46_0 ?_ | refine re_fieldA rfl rfl rfl rfl rfl fo_46_0 ?_
            refine re_load H rfl rfl rfl rfl rfl sh_3 rfl ?_
            refine re_bin rfl rfl rfl rfl rfl rfl rfl ?_
            refine re_nil ?_
            refine qe_thenC ?_
            refine ce_cond rfl (fun h4 => ?_) (fun h4 => ?_)
            · try simp only [zn1, zn2, zn3, zn4, zn5, zn6] at h4
              omega
            · try simp only [zn1, zn2, zn3, zn4, zn5, zn6] at h4
              refine ce_skip ?_
              refine qe_thenC ?_
              refine ce_seq ?_
              refine ce_seq ?_
              refine ce_text (tab := []) (soft := 8191) (.op 0 (.op 1 (.op 2 (.op 3 (.op 4 (.op 5 (.op 6 (.op 7 (.op 8 (.op 9 (.op 10 (.op 11 (.op 12 .nil))))))))))))) rfl rfl ?_
              first | refine re_field0 rfl rfl rfl rfl rfl fo_46_0 ?_ | refine re_field rfl rfl rfl rfl rfl fo_46_0 ?_ | refine re_fieldA rfl rfl rfl rfl rfl fo_46_0 ?_
              refine re_load H rfl rfl rfl rfl rfl sh_3 rfl ?_
              refine re_bin rfl rfl rfl rfl rfl rfl rfl ?_
              have hk13 : decide (m.kind = 13) = false := by simp [hkd]
              simp only [hk13]
              refine re_move rfl rfl rfl rfl rfl ?_
              refine re_skip1 rfl rfl rfl ?_
              refine re_pickF rfl rfl rfl rfl rfl rfl ?_
              refine re_move rfl rfl rfl rfl rfl ?_
              refine re_skip1 rfl rfl rfl ?_
              refine re_skip1 rfl rfl rfl ?_
              refine re_skip1 rfl rfl rfl ?_
              refine re_skip1 rfl rfl rfl ?_
              refine re_skip1 rfl rfl rfl ?_
              refine re_pickF rfl rfl rfl rfl rfl rfl ?_
              refine re_nil ?_
              refine qe_thenC ?_
              refine ce_condF rfl ?_
              refine ce_skip ?_
              refine qe_thenC ?_
              refine ce_seq ?_
              refine ce_seq ?_
              refine ce_text (tab := []) (soft := 8191) (.op 0 (.op 1 (.op 2 (.op 3 (.op 4 (.op 5 (.op 6 (.op 7 (.op 8 (.op 9 (.op 10 (.op 11 (.op 12 .nil))))))))))))) rfl rfl ?_
              first | refine re_field0 rfl rfl rfl rfl rfl fo_46_0 ?_ | refine re_field rfl rfl rfl rfl rfl fo_46_0 ?_ | refine re_fieldA rfl rfl rfl rfl rfl fo_46_0 ?_
              refine re_load H rfl rfl rfl rfl rfl sh_3 rfl ?_
              refine re_bin rfl rfl rfl rfl rfl rfl rfl ?_
              have hk15 : decide (m.kind = 15) = false := by simp [hkd]
              simp only [hk15]
              refine re_move rfl rfl rfl rfl rfl ?_
              refine re_skip1 rfl rfl rfl ?_
              refine re_pickF rfl rfl rfl rfl rfl rfl ?_
              refine re_move rfl rfl rfl rfl rfl ?_
              refine re_skip1 rfl rfl rfl ?_
              refine re_skip1 rfl rfl rfl ?_
              refine re_skip1 rfl rfl rfl ?_
              refine re_skip1 rfl rfl rfl ?_
              refine re_skip1 rfl rfl rfl ?_
              refine re_pickF rfl rfl rfl rfl rfl rfl ?_
              refine re_nil ?_
              refine qe_thenC ?_
              refine ce_condF rfl ?_
              refine ce_skip ?_
              refine qe_thenC ?_
              refine ce_seq ?_
              refine ce_text (tab := []) (soft := 1) (.op 0 .nil) rfl rfl ?_
              refine re_assign rfl rfl rfl rfl rfl ?_
              refine re_nil ?_
              refine qe_thenC ?_
              refine ce_ret ?_
              refine qe_end rfl rfl ?_
              exact ⟨rfl, H.sub (.cons_cons _ (.cons_cons _ (.cons_cons _ (.cons_cons _ (.cons_cons _ (.cons_cons _ (.cons _ (List.Sublist.refl _))))))))⟩

theorem take_13R {B w : World} {F : List Ent} {h a1 a2 a3 a4 : Nat} {r : RS} {m : GM} {k : Nat} (H : Own B (.cells h 54 (r.cellsV (slv (some a1) r.gs.length r.gs.length) (slv (some a2) r.gs.length r.gs.length) (slv (some a3) r.gs.length r.gs.length) (slv (some a4) r.gs.length r.gs.length)) :: .row r.ga r.gc 3 1 r.gs.length (ints r.gs) :: .cells a1 4 (bools r.ans) :: .cells a2 4 (bools r.cnt) :: .cells a3 38 (stamps r.held) :: .cells a4 28 (cmdsC r.cms) :: F) w) (hn : r.gs.length ≤ 1000000) (hv : r.at m = (k : Int)) (hk : k < r.gs.length) (ha : r.ans.length = r.gs.length) (hc : r.cnt.length = r.gs.length) (hh : r.held.length = r.gs.length) (hm : r.cms.length = r.gs.length) (hkd : m.kind = 13) (hp : r.ph ≠ 1) (ho0 : m.s0 = r.n) (ho1 : m.s1 = r.cl) (hs : r.ans[k]'(by omega) = false) :
    Calls Try.prog 29 #[.pointer (some ⟨h, 0, none⟩), .agg m.cells.toArray] w fun e w' => e = .returned (slv none 0 0) ∧ Own B (.cells h 54 (r.cellsV (slv (some a1) r.gs.length r.gs.length) (slv (some a2) r.gs.length r.gs.length) (slv (some a3) r.gs.length r.gs.length) (slv (some a4) r.gs.length r.gs.length)) :: .row r.ga r.gc 3 1 r.gs.length (ints r.gs) :: .cells a1 4 (bools r.ans) :: .cells a2 4 (bools r.cnt) :: .cells a3 38 (stamps r.held) :: .cells a4 28 (cmdsC r.cms) :: F) w' := by
  refine calls_ce (args := [.pointer (some ⟨h, 0, none⟩), .agg m.cells.toArray]) Try.func29 rfl rfl ?_
  change CE _ _ 232 _ _ [(0, .pointer (some ⟨h, 0, none⟩)), (1, .agg m.cells.toArray)] _
  refine ce_seq ?_
  refine ce_text (tab := []) (soft := 2) (.op 0 (.op 1 .nil)) rfl rfl ?_
  refine re_box H rfl rfl rfl rfl rfl rfl ?_
  intro g3 w H
  refine ⟨(fun h => (nomatch h)), ?_⟩
  refine re_assign rfl rfl rfl rfl rfl ?_
  refine re_nil ?_
  refine qe_thenC ?_
  refine ce_seq ?_
  refine ce_text (tab := []) (soft := 11) (.op 0 (.op 1 (.op 2 (.op 3 .nil)))) rfl rfl ?_
  refine re_move rfl rfl rfl rfl rfl ?_
  refine re_load H rfl rfl rfl rfl rfl sh_46 (by first | exact rdAt_all rfl | (simp only [rdAt, PS.cells, PS.over, GM.cells, Cmd.cells, List.cons_append, List.nil_append, RS.cellsV, RS.ch, stC, RS.decide, RS.accepted, RS.phase, List.drop_succ_cons, List.drop_zero, List.take_succ_cons, List.take_zero, List.length_cons, List.length_nil, Nat.zero_add, Nat.reduceAdd, Nat.reduceLeDiff, Nat.le_refl, ↓reduceIte] <;> rfl)) ?_
  refine re_call en_58 rfl rfl rfl rfl rfl ?_
  have H := Own.arr [0, 6, 6, 6, 6, 6, 6] H
  simp only [arrs, Fw.front, zm1, zm2, zm3, zm4, zm5] at H
  refine Calls.mono (place_r H hn) ?_
  rintro e w ⟨rfl, H⟩
  rw [show (if r.foreign m then (-1 : Int) else idxOf m.fi r.gs) = r.at m from rfl, hv]
  refine ⟨_, rfl, (fun h => (nomatch h)), ?_⟩
  refine re_assign rfl rfl rfl rfl rfl ?_
  refine re_nil ?_
  refine qe_thenC ?_
  refine ce_seq ?_
  refine ce_seq ?_
  refine ce_text (tab := []) (soft := 3) (.op 0 (.op 1 .nil)) rfl rfl ?_
  refine re_move rfl rfl rfl rfl rfl ?_
  refine re_bin rfl rfl rfl rfl rfl rfl rfl ?_
  refine re_nil ?_
  refine qe_thenC ?_
  refine ce_cond rfl (fun h0 => ?_) (fun h0 => ?_)
  · try simp only [zn1, zn2, zn3, zn4, zn5, zn6] at h0
    omega
  · try simp only [zn1, zn2, zn3, zn4, zn5, zn6] at h0
    refine ce_skip ?_
    refine qe_thenC ?_
    refine ce_seq ?_
    refine ce_seq ?_
    refine ce_text (tab := []) (soft := 7) (.op 0 (.op 1 (.op 2 .nil))) rfl rfl ?_
    first | refine re_field0 rfl rfl rfl rfl rfl fo_46_0 ?_ | refine re_field rfl rfl rfl rfl rfl fo_46_0 ?_ | refine re_fieldA rfl rfl rfl rfl rfl fo_46_0 ?_
    refine re_load H rfl rfl rfl rfl rfl sh_3 rfl ?_
    refine re_bin rfl rfl rfl rfl rfl rfl rfl ?_
    refine re_nil ?_
    refine qe_thenC ?_
    refine ce_cond rfl (fun h1 => ?_) (fun h1 => ?_)
    · try simp only [zn1, zn2, zn3, zn4, zn5, zn6] at h1
      omega
    · try simp only [zn1, zn2, zn3, zn4, zn5, zn6] at h1
      refine ce_skip ?_
      refine qe_thenC ?_
      refine ce_seq ?_
      refine ce_seq ?_
      refine ce_text (tab := []) (soft := 7) (.op 0 (.op 1 (.op 2 .nil))) rfl rfl ?_
      first | refine re_field0 rfl rfl rfl rfl rfl fo_46_0 ?_ | refine re_field rfl rfl rfl rfl rfl fo_46_0 ?_ | refine re_fieldA rfl rfl rfl rfl rfl fo_46_0 ?_
      refine re_load H rfl rfl rfl rfl rfl sh_3 rfl ?_
      refine re_bin rfl rfl rfl rfl rfl rfl rfl ?_
      refine re_nil ?_
      refine qe_thenC ?_
      refine ce_cond rfl (fun h2 => ?_) (fun h2 => ?_)
      · try simp only [zn1, zn2, zn3, zn4, zn5, zn6] at h2
        omega
      · try simp only [zn1, zn2, zn3, zn4, zn5, zn6] at h2
        refine ce_skip ?_
        refine qe_thenC ?_
        refine ce_seq ?_
        refine ce_seq ?_
        refine ce_text (tab := []) (soft := 127) (.op 0 (.op 1 (.op 2 (.op 3 (.op 4 (.op 5 (.op 6 .nil))))))) rfl rfl ?_
        refine re_move rfl rfl rfl rfl rfl ?_
        refine re_nilc rfl rfl rfl rfl rfl ?_
        first | refine re_field0 rfl rfl rfl rfl rfl fo_54_10 ?_ | refine re_field rfl rfl rfl rfl rfl fo_54_10 ?_ | refine re_fieldA rfl rfl rfl rfl rfl fo_54_10 ?_
        refine re_load H rfl rfl rfl rfl rfl sh_51 rfl ?_
        refine re_move rfl rfl rfl rfl rfl ?_
        refine re_indexL rfl rfl rfl rfl rfl rfl ul_51 ei_51 (by omega) (by omega) ?_
        refine re_load H rfl rfl rfl rfl rfl sh_4 (rd_one Value.bool (by omega)) ?_
        refine re_nil ?_
        refine qe_thenC ?_
        refine ce_cond rfl (fun h3 => ?_) (fun h3 => ?_)
        · try simp only [zn1, zn2, zn3, zn4, zn5, zn6] at h3
          simp_all
        · try simp only [zn1, zn2, zn3, zn4, zn5, zn6] at h3
          refine ce_skip ?_
          refine qe_thenC ?_
          refine ce_seq ?_
          refine ce_open (tab := [0, 1, 3, 0, 8, 24, 56, 127, 255, 511, 1023, 2047, 511, 4607, 12799, 29183, 65535, 131071, 262143]) (soft := 524287) mixed (.op 0 (.op 1 (.op 2 (.op 3 (.op 4 (.op 5 (.op 6 (.op 7 (.op 8 (.op 9 (.op 10 (.op 11 (.op 12 (.op 13 (.op 14 (.op 15 (.op 16 (.op 17 (.op 18 .nil))))))))))))))))))) (by kernel_rfl) H ?_
          intro w H
          first | refine re_field0 rfl rfl rfl rfl rfl fo_46_6 ?_ | refine re_field rfl rfl rfl rfl rfl fo_46_6 ?_ | refine re_fieldA rfl rfl rfl rfl rfl fo_46_6 ?_
          first | refine re_field0 rfl rfl rfl rfl rfl fo_38_0 ?_ | refine re_field rfl rfl rfl rfl rfl fo_38_0 ?_ | refine re_fieldA rfl rfl rfl rfl rfl fo_38_0 ?_
          refine re_load H rfl rfl rfl rfl rfl sh_3 rfl ?_
          refine re_move rfl rfl rfl rfl rfl ?_
          refine re_nilc rfl rfl rfl rfl rfl ?_
          first | refine re_field0 rfl rfl rfl rfl rfl fo_54_6 ?_ | refine re_field rfl rfl rfl rfl rfl fo_54_6 ?_ | refine re_fieldA rfl rfl rfl rfl rfl fo_54_6 ?_
          refine re_load H rfl rfl rfl rfl rfl sh_3 rfl ?_
          refine re_bin rfl rfl rfl rfl rfl rfl rfl ?_
          have ho2 : decide (m.s0 = r.n) = true := by simp [ho0]
          simp only [ho2]
          refine re_move rfl rfl rfl rfl rfl ?_
          first | refine re_field0 rfl rfl rfl rfl rfl fo_46_6 ?_ | refine re_field rfl rfl rfl rfl rfl fo_46_6 ?_ | refine re_fieldA rfl rfl rfl rfl rfl fo_46_6 ?_
          first | refine re_field0 rfl rfl rfl rfl rfl fo_38_1 ?_ | refine re_field rfl rfl rfl rfl rfl fo_38_1 ?_ | refine re_fieldA rfl rfl rfl rfl rfl fo_38_1 ?_
          refine re_load H rfl rfl rfl rfl rfl sh_3 rfl ?_
          refine re_move rfl rfl rfl rfl rfl ?_
          refine re_nilc rfl rfl rfl rfl rfl ?_
          first | refine re_field0 rfl rfl rfl rfl rfl fo_54_0 ?_ | refine re_field rfl rfl rfl rfl rfl fo_54_0 ?_ | refine re_fieldA rfl rfl rfl rfl rfl fo_54_0 ?_
          refine re_load H rfl rfl rfl rfl rfl sh_3 rfl ?_
          refine re_bin rfl rfl rfl rfl rfl rfl rfl ?_
          have ho3 : decide (m.s1 = r.cl) = true := by simp [ho1]
          simp only [ho3]
          refine re_pickT rfl rfl rfl rfl rfl rfl ?_
          refine re_assign rfl rfl rfl rfl rfl ?_
          refine re_nil ?_
          refine qe_noPanic ?_
          refine qe_thenC ?_
          refine ce_seq ?_
          refine ce_seq ?_
          refine ce_text (tab := []) (soft := 7) (.op 0 (.op 1 (.op 2 .nil))) rfl rfl ?_
          first | refine re_field0 rfl rfl rfl rfl rfl fo_46_0 ?_ | refine re_field rfl rfl rfl rfl rfl fo_46_0 ?_ | refine re_fieldA rfl rfl rfl rfl rfl fo_46_0 ?_
          refine re_load H rfl rfl rfl rfl rfl sh_3 rfl ?_
          refine re_bin rfl rfl rfl rfl rfl rfl rfl ?_
          refine re_nil ?_
          refine qe_thenC ?_
          refine ce_cond rfl (fun h4 => ?_) (fun h4 => ?_)
          · try simp only [zn1, zn2, zn3, zn4, zn5, zn6] at h4
            omega
          · try simp only [zn1, zn2, zn3, zn4, zn5, zn6] at h4
            refine ce_skip ?_
            refine qe_thenC ?_
            refine ce_seq ?_
            refine ce_seq ?_
            refine ce_text (tab := []) (soft := 8191) (.op 0 (.op 1 (.op 2 (.op 3 (.op 4 (.op 5 (.op 6 (.op 7 (.op 8 (.op 9 (.op 10 (.op 11 (.op 12 .nil))))))))))))) rfl rfl ?_
            first | refine re_field0 rfl rfl rfl rfl rfl fo_46_0 ?_ | refine re_field rfl rfl rfl rfl rfl fo_46_0 ?_ | refine re_fieldA rfl rfl rfl rfl rfl fo_46_0 ?_
            refine re_load H rfl rfl rfl rfl rfl sh_3 rfl ?_
            refine re_bin rfl rfl rfl rfl rfl rfl rfl ?_
            have hk13 : decide (m.kind = 13) = true := by simp [hkd]
            simp only [hk13]
            refine re_move rfl rfl rfl rfl rfl ?_
            refine re_move rfl rfl rfl rfl rfl ?_
            refine re_pickT rfl rfl rfl rfl rfl rfl ?_
            refine re_move rfl rfl rfl rfl rfl ?_
            refine re_move rfl rfl rfl rfl rfl ?_
            refine re_nilc rfl rfl rfl rfl rfl ?_
            first | refine re_field0 rfl rfl rfl rfl rfl fo_54_9 ?_ | refine re_field rfl rfl rfl rfl rfl fo_54_9 ?_ | refine re_fieldA rfl rfl rfl rfl rfl fo_54_9 ?_
            refine re_load H rfl rfl rfl rfl rfl sh_3 rfl ?_
            refine re_bin rfl rfl rfl rfl rfl rfl rfl ?_
            have hph : decide (r.ph = 1) = false := by simp [hp]
            simp only [hph]
            refine re_pickT rfl rfl rfl rfl rfl rfl ?_
            refine re_nil ?_
            refine qe_thenC ?_
            refine ce_condF rfl ?_
            refine ce_skip ?_
            refine qe_thenC ?_
            refine ce_seq ?_
            refine ce_seq ?_
            refine ce_text (tab := []) (soft := 8191) (.op 0 (.op 1 (.op 2 (.op 3 (.op 4 (.op 5 (.op 6 (.op 7 (.op 8 (.op 9 (.op 10 (.op 11 (.op 12 .nil))))))))))))) rfl rfl ?_
            first | refine re_field0 rfl rfl rfl rfl rfl fo_46_0 ?_ | refine re_field rfl rfl rfl rfl rfl fo_46_0 ?_ | refine re_fieldA rfl rfl rfl rfl rfl fo_46_0 ?_
            refine re_load H rfl rfl rfl rfl rfl sh_3 rfl ?_
            refine re_bin rfl rfl rfl rfl rfl rfl rfl ?_
            have hk15 : decide (m.kind = 15) = false := by simp [hkd]
            simp only [hk15]
            refine re_move rfl rfl rfl rfl rfl ?_
            refine re_skip1 rfl rfl rfl ?_
            refine re_pickF rfl rfl rfl rfl rfl rfl ?_
            refine re_move rfl rfl rfl rfl rfl ?_
            refine re_skip1 rfl rfl rfl ?_
            refine re_skip1 rfl rfl rfl ?_
            refine re_skip1 rfl rfl rfl ?_
            refine re_skip1 rfl rfl rfl ?_
            refine re_skip1 rfl rfl rfl ?_
            refine re_pickF rfl rfl rfl rfl rfl rfl ?_
            refine re_nil ?_
            refine qe_thenC ?_
            refine ce_condF rfl ?_
            refine ce_skip ?_
            refine qe_thenC ?_
            refine ce_seq ?_
            refine ce_text (tab := []) (soft := 1) (.op 0 .nil) rfl rfl ?_
            refine re_assign rfl rfl rfl rfl rfl ?_
            refine re_nil ?_
            refine qe_thenC ?_
            refine ce_ret ?_
            refine qe_end rfl rfl ?_
            exact ⟨rfl, H.sub (.cons_cons _ (.cons_cons _ (.cons_cons _ (.cons_cons _ (.cons_cons _ (.cons_cons _ (.cons _ (List.Sublist.refl _))))))))⟩

theorem take_15R {B w : World} {F : List Ent} {h a1 a2 a3 a4 : Nat} {r : RS} {m : GM} {k : Nat} (H : Own B (.cells h 54 (r.cellsV (slv (some a1) r.gs.length r.gs.length) (slv (some a2) r.gs.length r.gs.length) (slv (some a3) r.gs.length r.gs.length) (slv (some a4) r.gs.length r.gs.length)) :: .row r.ga r.gc 3 1 r.gs.length (ints r.gs) :: .cells a1 4 (bools r.ans) :: .cells a2 4 (bools r.cnt) :: .cells a3 38 (stamps r.held) :: .cells a4 28 (cmdsC r.cms) :: F) w) (hn : r.gs.length ≤ 1000000) (hv : r.at m = (k : Int)) (hk : k < r.gs.length) (ha : r.ans.length = r.gs.length) (hc : r.cnt.length = r.gs.length) (hh : r.held.length = r.gs.length) (hm : r.cms.length = r.gs.length) (hkd : m.kind = 15) (hp : r.ph ≠ 2) (ho0 : m.s0 = r.n) (ho1 : m.s1 = r.cl) (hs : r.ans[k]'(by omega) = false) :
    Calls Try.prog 29 #[.pointer (some ⟨h, 0, none⟩), .agg m.cells.toArray] w fun e w' => e = .returned (slv none 0 0) ∧ Own B (.cells h 54 (r.cellsV (slv (some a1) r.gs.length r.gs.length) (slv (some a2) r.gs.length r.gs.length) (slv (some a3) r.gs.length r.gs.length) (slv (some a4) r.gs.length r.gs.length)) :: .row r.ga r.gc 3 1 r.gs.length (ints r.gs) :: .cells a1 4 (bools r.ans) :: .cells a2 4 (bools r.cnt) :: .cells a3 38 (stamps r.held) :: .cells a4 28 (cmdsC r.cms) :: F) w' := by
  refine calls_ce (args := [.pointer (some ⟨h, 0, none⟩), .agg m.cells.toArray]) Try.func29 rfl rfl ?_
  change CE _ _ 232 _ _ [(0, .pointer (some ⟨h, 0, none⟩)), (1, .agg m.cells.toArray)] _
  refine ce_seq ?_
  refine ce_text (tab := []) (soft := 2) (.op 0 (.op 1 .nil)) rfl rfl ?_
  refine re_box H rfl rfl rfl rfl rfl rfl ?_
  intro g3 w H
  refine ⟨(fun h => (nomatch h)), ?_⟩
  refine re_assign rfl rfl rfl rfl rfl ?_
  refine re_nil ?_
  refine qe_thenC ?_
  refine ce_seq ?_
  refine ce_text (tab := []) (soft := 11) (.op 0 (.op 1 (.op 2 (.op 3 .nil)))) rfl rfl ?_
  refine re_move rfl rfl rfl rfl rfl ?_
  refine re_load H rfl rfl rfl rfl rfl sh_46 (by first | exact rdAt_all rfl | (simp only [rdAt, PS.cells, PS.over, GM.cells, Cmd.cells, List.cons_append, List.nil_append, RS.cellsV, RS.ch, stC, RS.decide, RS.accepted, RS.phase, List.drop_succ_cons, List.drop_zero, List.take_succ_cons, List.take_zero, List.length_cons, List.length_nil, Nat.zero_add, Nat.reduceAdd, Nat.reduceLeDiff, Nat.le_refl, ↓reduceIte] <;> rfl)) ?_
  refine re_call en_58 rfl rfl rfl rfl rfl ?_
  have H := Own.arr [0, 6, 6, 6, 6, 6, 6] H
  simp only [arrs, Fw.front, zm1, zm2, zm3, zm4, zm5] at H
  refine Calls.mono (place_r H hn) ?_
  rintro e w ⟨rfl, H⟩
  rw [show (if r.foreign m then (-1 : Int) else idxOf m.fi r.gs) = r.at m from rfl, hv]
  refine ⟨_, rfl, (fun h => (nomatch h)), ?_⟩
  refine re_assign rfl rfl rfl rfl rfl ?_
  refine re_nil ?_
  refine qe_thenC ?_
  refine ce_seq ?_
  refine ce_seq ?_
  refine ce_text (tab := []) (soft := 3) (.op 0 (.op 1 .nil)) rfl rfl ?_
  refine re_move rfl rfl rfl rfl rfl ?_
  refine re_bin rfl rfl rfl rfl rfl rfl rfl ?_
  refine re_nil ?_
  refine qe_thenC ?_
  refine ce_cond rfl (fun h0 => ?_) (fun h0 => ?_)
  · try simp only [zn1, zn2, zn3, zn4, zn5, zn6] at h0
    omega
  · try simp only [zn1, zn2, zn3, zn4, zn5, zn6] at h0
    refine ce_skip ?_
    refine qe_thenC ?_
    refine ce_seq ?_
    refine ce_seq ?_
    refine ce_text (tab := []) (soft := 7) (.op 0 (.op 1 (.op 2 .nil))) rfl rfl ?_
    first | refine re_field0 rfl rfl rfl rfl rfl fo_46_0 ?_ | refine re_field rfl rfl rfl rfl rfl fo_46_0 ?_ | refine re_fieldA rfl rfl rfl rfl rfl fo_46_0 ?_
    refine re_load H rfl rfl rfl rfl rfl sh_3 rfl ?_
    refine re_bin rfl rfl rfl rfl rfl rfl rfl ?_
    refine re_nil ?_
    refine qe_thenC ?_
    refine ce_cond rfl (fun h1 => ?_) (fun h1 => ?_)
    · try simp only [zn1, zn2, zn3, zn4, zn5, zn6] at h1
      omega
    · try simp only [zn1, zn2, zn3, zn4, zn5, zn6] at h1
      refine ce_skip ?_
      refine qe_thenC ?_
      refine ce_seq ?_
      refine ce_seq ?_
      refine ce_text (tab := []) (soft := 7) (.op 0 (.op 1 (.op 2 .nil))) rfl rfl ?_
      first | refine re_field0 rfl rfl rfl rfl rfl fo_46_0 ?_ | refine re_field rfl rfl rfl rfl rfl fo_46_0 ?_ | refine re_fieldA rfl rfl rfl rfl rfl fo_46_0 ?_
      refine re_load H rfl rfl rfl rfl rfl sh_3 rfl ?_
      refine re_bin rfl rfl rfl rfl rfl rfl rfl ?_
      refine re_nil ?_
      refine qe_thenC ?_
      refine ce_cond rfl (fun h2 => ?_) (fun h2 => ?_)
      · try simp only [zn1, zn2, zn3, zn4, zn5, zn6] at h2
        omega
      · try simp only [zn1, zn2, zn3, zn4, zn5, zn6] at h2
        refine ce_skip ?_
        refine qe_thenC ?_
        refine ce_seq ?_
        refine ce_seq ?_
        refine ce_text (tab := []) (soft := 127) (.op 0 (.op 1 (.op 2 (.op 3 (.op 4 (.op 5 (.op 6 .nil))))))) rfl rfl ?_
        refine re_move rfl rfl rfl rfl rfl ?_
        refine re_nilc rfl rfl rfl rfl rfl ?_
        first | refine re_field0 rfl rfl rfl rfl rfl fo_54_10 ?_ | refine re_field rfl rfl rfl rfl rfl fo_54_10 ?_ | refine re_fieldA rfl rfl rfl rfl rfl fo_54_10 ?_
        refine re_load H rfl rfl rfl rfl rfl sh_51 rfl ?_
        refine re_move rfl rfl rfl rfl rfl ?_
        refine re_indexL rfl rfl rfl rfl rfl rfl ul_51 ei_51 (by omega) (by omega) ?_
        refine re_load H rfl rfl rfl rfl rfl sh_4 (rd_one Value.bool (by omega)) ?_
        refine re_nil ?_
        refine qe_thenC ?_
        refine ce_cond rfl (fun h3 => ?_) (fun h3 => ?_)
        · try simp only [zn1, zn2, zn3, zn4, zn5, zn6] at h3
          simp_all
        · try simp only [zn1, zn2, zn3, zn4, zn5, zn6] at h3
          refine ce_skip ?_
          refine qe_thenC ?_
          refine ce_seq ?_
          refine ce_open (tab := [0, 1, 3, 0, 8, 24, 56, 127, 255, 511, 1023, 2047, 511, 4607, 12799, 29183, 65535, 131071, 262143]) (soft := 524287) mixed (.op 0 (.op 1 (.op 2 (.op 3 (.op 4 (.op 5 (.op 6 (.op 7 (.op 8 (.op 9 (.op 10 (.op 11 (.op 12 (.op 13 (.op 14 (.op 15 (.op 16 (.op 17 (.op 18 .nil))))))))))))))))))) (by kernel_rfl) H ?_
          intro w H
          first | refine re_field0 rfl rfl rfl rfl rfl fo_46_6 ?_ | refine re_field rfl rfl rfl rfl rfl fo_46_6 ?_ | refine re_fieldA rfl rfl rfl rfl rfl fo_46_6 ?_
          first | refine re_field0 rfl rfl rfl rfl rfl fo_38_0 ?_ | refine re_field rfl rfl rfl rfl rfl fo_38_0 ?_ | refine re_fieldA rfl rfl rfl rfl rfl fo_38_0 ?_
          refine re_load H rfl rfl rfl rfl rfl sh_3 rfl ?_
          refine re_move rfl rfl rfl rfl rfl ?_
          refine re_nilc rfl rfl rfl rfl rfl ?_
          first | refine re_field0 rfl rfl rfl rfl rfl fo_54_6 ?_ | refine re_field rfl rfl rfl rfl rfl fo_54_6 ?_ | refine re_fieldA rfl rfl rfl rfl rfl fo_54_6 ?_
          refine re_load H rfl rfl rfl rfl rfl sh_3 rfl ?_
          refine re_bin rfl rfl rfl rfl rfl rfl rfl ?_
          have ho2 : decide (m.s0 = r.n) = true := by simp [ho0]
          simp only [ho2]
          refine re_move rfl rfl rfl rfl rfl ?_
          first | refine re_field0 rfl rfl rfl rfl rfl fo_46_6 ?_ | refine re_field rfl rfl rfl rfl rfl fo_46_6 ?_ | refine re_fieldA rfl rfl rfl rfl rfl fo_46_6 ?_
          first | refine re_field0 rfl rfl rfl rfl rfl fo_38_1 ?_ | refine re_field rfl rfl rfl rfl rfl fo_38_1 ?_ | refine re_fieldA rfl rfl rfl rfl rfl fo_38_1 ?_
          refine re_load H rfl rfl rfl rfl rfl sh_3 rfl ?_
          refine re_move rfl rfl rfl rfl rfl ?_
          refine re_nilc rfl rfl rfl rfl rfl ?_
          first | refine re_field0 rfl rfl rfl rfl rfl fo_54_0 ?_ | refine re_field rfl rfl rfl rfl rfl fo_54_0 ?_ | refine re_fieldA rfl rfl rfl rfl rfl fo_54_0 ?_
          refine re_load H rfl rfl rfl rfl rfl sh_3 rfl ?_
          refine re_bin rfl rfl rfl rfl rfl rfl rfl ?_
          have ho3 : decide (m.s1 = r.cl) = true := by simp [ho1]
          simp only [ho3]
          refine re_pickT rfl rfl rfl rfl rfl rfl ?_
          refine re_assign rfl rfl rfl rfl rfl ?_
          refine re_nil ?_
          refine qe_noPanic ?_
          refine qe_thenC ?_
          refine ce_seq ?_
          refine ce_seq ?_
          refine ce_text (tab := []) (soft := 7) (.op 0 (.op 1 (.op 2 .nil))) rfl rfl ?_
          first | refine re_field0 rfl rfl rfl rfl rfl fo_46_0 ?_ | refine re_field rfl rfl rfl rfl rfl fo_46_0 ?_ | refine re_fieldA rfl rfl rfl rfl rfl fo_46_0 ?_
          refine re_load H rfl rfl rfl rfl rfl sh_3 rfl ?_
          refine re_bin rfl rfl rfl rfl rfl rfl rfl ?_
          refine re_nil ?_
          refine qe_thenC ?_
          refine ce_cond rfl (fun h4 => ?_) (fun h4 => ?_)
          · try simp only [zn1, zn2, zn3, zn4, zn5, zn6] at h4
            omega
          · try simp only [zn1, zn2, zn3, zn4, zn5, zn6] at h4
            refine ce_skip ?_
            refine qe_thenC ?_
            refine ce_seq ?_
            refine ce_seq ?_
            refine ce_text (tab := []) (soft := 8191) (.op 0 (.op 1 (.op 2 (.op 3 (.op 4 (.op 5 (.op 6 (.op 7 (.op 8 (.op 9 (.op 10 (.op 11 (.op 12 .nil))))))))))))) rfl rfl ?_
            first | refine re_field0 rfl rfl rfl rfl rfl fo_46_0 ?_ | refine re_field rfl rfl rfl rfl rfl fo_46_0 ?_ | refine re_fieldA rfl rfl rfl rfl rfl fo_46_0 ?_
            refine re_load H rfl rfl rfl rfl rfl sh_3 rfl ?_
            refine re_bin rfl rfl rfl rfl rfl rfl rfl ?_
            have hk13 : decide (m.kind = 13) = false := by simp [hkd]
            simp only [hk13]
            refine re_move rfl rfl rfl rfl rfl ?_
            refine re_skip1 rfl rfl rfl ?_
            refine re_pickF rfl rfl rfl rfl rfl rfl ?_
            refine re_move rfl rfl rfl rfl rfl ?_
            refine re_skip1 rfl rfl rfl ?_
            refine re_skip1 rfl rfl rfl ?_
            refine re_skip1 rfl rfl rfl ?_
            refine re_skip1 rfl rfl rfl ?_
            refine re_skip1 rfl rfl rfl ?_
            refine re_pickF rfl rfl rfl rfl rfl rfl ?_
            refine re_nil ?_
            refine qe_thenC ?_
            refine ce_condF rfl ?_
            refine ce_skip ?_
            refine qe_thenC ?_
            refine ce_seq ?_
            refine ce_seq ?_
            refine ce_text (tab := []) (soft := 8191) (.op 0 (.op 1 (.op 2 (.op 3 (.op 4 (.op 5 (.op 6 (.op 7 (.op 8 (.op 9 (.op 10 (.op 11 (.op 12 .nil))))))))))))) rfl rfl ?_
            first | refine re_field0 rfl rfl rfl rfl rfl fo_46_0 ?_ | refine re_field rfl rfl rfl rfl rfl fo_46_0 ?_ | refine re_fieldA rfl rfl rfl rfl rfl fo_46_0 ?_
            refine re_load H rfl rfl rfl rfl rfl sh_3 rfl ?_
            refine re_bin rfl rfl rfl rfl rfl rfl rfl ?_
            have hk15 : decide (m.kind = 15) = true := by simp [hkd]
            simp only [hk15]
            refine re_move rfl rfl rfl rfl rfl ?_
            refine re_move rfl rfl rfl rfl rfl ?_
            refine re_pickT rfl rfl rfl rfl rfl rfl ?_
            refine re_move rfl rfl rfl rfl rfl ?_
            refine re_move rfl rfl rfl rfl rfl ?_
            refine re_nilc rfl rfl rfl rfl rfl ?_
            first | refine re_field0 rfl rfl rfl rfl rfl fo_54_9 ?_ | refine re_field rfl rfl rfl rfl rfl fo_54_9 ?_ | refine re_fieldA rfl rfl rfl rfl rfl fo_54_9 ?_
            refine re_load H rfl rfl rfl rfl rfl sh_3 rfl ?_
            refine re_bin rfl rfl rfl rfl rfl rfl rfl ?_
            have hph : decide (r.ph = 2) = false := by simp [hp]
            simp only [hph]
            refine re_pickT rfl rfl rfl rfl rfl rfl ?_
            refine re_nil ?_
            refine qe_thenC ?_
            refine ce_condF rfl ?_
            refine ce_skip ?_
            refine qe_thenC ?_
            refine ce_seq ?_
            refine ce_text (tab := []) (soft := 1) (.op 0 .nil) rfl rfl ?_
            refine re_assign rfl rfl rfl rfl rfl ?_
            refine re_nil ?_
            refine qe_thenC ?_
            refine ce_ret ?_
            refine qe_end rfl rfl ?_
            exact ⟨rfl, H.sub (.cons_cons _ (.cons_cons _ (.cons_cons _ (.cons_cons _ (.cons_cons _ (.cons_cons _ (.cons _ (List.Sublist.refl _))))))))⟩
end Go.Proofs.Ytofaoblfemfkiaa

namespace Go.Proofs.Ytofaoblfemfkiaa
open Go Go.RowKit Go.Fw
set_option linter.unusedSimpArgs false
set_option linter.unusedVariables false
set_option maxRecDepth 4000
set_option maxHeartbeats 2000000
theorem ei_39 : elemInfo Try.prog 39 = some (5, 1, 1) := by kernel_rfl
theorem ei_40 : elemInfo Try.prog 40 = some (102, 4, 40) := by kernel_rfl
theorem ei_41 : elemInfo Try.prog 41 = some (106, 7, 56) := by kernel_rfl
theorem en_77 : Enterable Try.prog 77 := ⟨Try.f77, Try.func77, rfl, by decide⟩
theorem fo_43_0 : fOff Try.prog 43 0 = some 0 := by kernel_rfl
theorem fo_43_1 : fOff Try.prog 43 1 = some 1 := by kernel_rfl
theorem fo_43_2 : fOff Try.prog 43 2 = some 2 := by kernel_rfl
theorem pl_102 : placesOf Try.prog 102 = some [(0, 1), (1, 2), (3, 1)] := by kernel_rfl
theorem pl_106 : placesOf Try.prog 106 = some [(0, 1), (1, 1), (2, 1), (3, 1), (4, 2), (6, 1)] := by kernel_rfl
theorem sh_102 : shapeOf Try.prog 102 = some (true, 4) := by kernel_rfl
theorem sh_106 : shapeOf Try.prog 106 = some (true, 7) := by kernel_rfl
theorem sh_40 : shapeOf Try.prog 40 = some (false, 1) := by kernel_rfl
theorem sh_41 : shapeOf Try.prog 41 = some (false, 1) := by kernel_rfl
theorem sh_5 : shapeOf Try.prog 5 = some (false, 1) := by kernel_rfl
theorem ul_39 : Try.prog.underlying 39 = some (.slice 5) := by kernel_rfl
theorem ul_40 : Try.prog.underlying 40 = some (.slice 102) := by kernel_rfl
theorem ul_41 : Try.prog.underlying 41 = some (.slice 106) := by kernel_rfl
theorem ul_5 : Try.prog.underlying 5 = some (.int .u8) := by kernel_rfl
theorem ul_9 : Try.prog.underlying 9 = some (.string) := by kernel_rfl
theorem ze_102 : zeroC Try.prog 102 = some [.string ByteArray.empty, .int .i64 0, .int .i64 0, .int .i64 0] := by kernel_rfl
theorem ze_106 : zeroC Try.prog 106 = some [.int .i64 0, .int .i64 0, .int .i64 0, .int .i64 0, .int .i64 0, .int .i64 0, .int .i64 0] := by kernel_rfl
theorem ze_5 : zeroC Try.prog 5 = some [.int .u8 0] := by kernel_rfl

/-- The marks: the first k of n are laid. -/
def marks (n k : Nat) : List (Option Int) := (List.range k).map (fun (j : Nat) => some (j : Int)) ++ List.replicate (n - k) none
theorem marks_len {n k : Nat} (h : k ≤ n) : (marks n k).length = n := by simp [marks]; omega
theorem marks_set {n k : Nat} (h : k < n) : (marks n k).set k (some (k : Int)) = marks n (k + 1) := by
  unfold marks
  rw [List.set_append_right _ _ (by simp), List.length_map, List.length_range, Nat.sub_self, List.range_succ, List.map_append, show n - k = (n - (k + 1)) + 1 by omega, List.replicate_succ, List.set_cons_zero]
  simp
theorem marks_get {n k : Nat} (h : k < n) : (marks n n)[k]'(by rw [marks_len (Nat.le_refl n)]; exact h) = some (k : Int) := by
  unfold marks
  rw [List.getElem_append_left (by simpa using h)]
  simp
def byteC : Option Int → Value
  | none => .int .u8 0
  | some _ => .int .u8 201
def entC : Option Int → List Value
  | none => [.string ByteArray.empty, .int .i64 0, .int .i64 0, .int .i64 0]
  | some j => [.string { data := #[109, 97, 114, 107] }, .int .i64 0, .int .i64 0, .int .i64 (0 - j)]
def lastC : Option Int → List Value
  | none => [.int .i64 0, .int .i64 0, .int .i64 0, .int .i64 0, .int .i64 0, .int .i64 0, .int .i64 0]
  | some j => [.int .i64 (0 - j), .int .i64 (-7), .int .i64 0, .int .i64 0, .int .i64 0, .int .i64 0, .int .i64 0]
def cmdM : Option Int → List Value
  | none => Cmd.zero.cells
  | some j => (Cmd.mk 0 0 (0 - j) { data := #[109, 97, 114, 107] } 0 0 0 0 0).cells
theorem entC_len (x : Option Int) : (entC x).length = 4 := by cases x <;> rfl
theorem lastC_len (x : Option Int) : (lastC x).length = 7 := by cases x <;> rfl
theorem cmdM_len (x : Option Int) : (cmdM x).length = 9 := by cases x <;> rfl
theorem rep_one {α : Type} (f : α → Value) (x : α) (c : Nat) : (List.replicate c [f x]).flatten = (List.replicate c x).map f := by
  induction c with
  | zero => rfl
  | succ c ih => simp only [List.replicate_succ, List.flatten_cons, ih]; rfl

theorem lendBytes_s {B w : World} {F : List Ent} (H : Own B F w) :
    Calls Try.prog 56 #[.slice none 0 0] w fun e w' => ∃ b, e = .returned (.slice (some ⟨b, 0, none⟩) 0 67) ∧ Own B (.cells b 5 ((marks 67 67).map byteC) :: F) w' := by
  refine calls_ce (args := [.slice none 0 0]) Try.func56 rfl rfl ?_
  change CE _ _ 27 _ _ [(0, .slice none 0 0)] _
  refine ce_seq ?_
  refine ce_text (tab := []) (soft := 1) (.op 0 .nil) rfl rfl ?_
  refine re_assign rfl rfl rfl rfl rfl ?_
  refine re_nil ?_
  refine qe_thenC ?_
  refine ce_seq ?_
  refine ce_text (tab := []) (soft := 23) (.op 0 (.op 1 (.op 2 (.op 3 (.op 4 .nil))))) rfl rfl ?_
  refine re_move rfl rfl rfl rfl rfl ?_
  refine re_len rfl rfl rfl rfl rfl ul_39 ?_
  first | refine re_add rfl rfl rfl rfl rfl rfl (by omega) ?_ | refine re_bin rfl rfl rfl rfl rfl rfl rfl ?_
  refine re_makeSliceC H rfl rfl rfl rfl rfl rfl ul_39 ei_39 ze_5 rfl (by decide) (by first | omega | decide) (by first | (simp only [maxLen]; omega) | decide) ?_
  intro g8 w H
  refine ⟨(fun h => (nomatch h)), ?_⟩
  refine re_assign rfl rfl rfl rfl rfl ?_
  refine re_nil ?_
  refine qe_thenC ?_
  refine ce_seq ?_
  refine ce_text (tab := []) (soft := 3) (.op 0 (.op 1 (.op 2 .nil))) rfl rfl ?_
  refine re_move rfl rfl rfl rfl rfl ?_
  refine re_move rfl rfl rfl rfl rfl ?_
  refine re_copyNil rfl rfl rfl rfl rfl rfl ul_39 ei_39 ?_
  refine ⟨(fun h => (nomatch h)), ?_⟩
  refine re_nil ?_
  refine qe_thenC ?_
  refine ce_seq ?_
  refine ce_seq ?_
  refine ce_text (tab := []) (soft := 7) (.op 0 (.op 1 (.op 2 .nil))) rfl rfl ?_
  refine re_move rfl rfl rfl rfl rfl ?_
  refine re_len rfl rfl rfl rfl rfl ul_39 ?_
  refine re_assign rfl rfl rfl rfl rfl ?_
  refine re_nil ?_
  refine qe_thenC ?_
  refine ce_block ?_
  rw [show (List.replicate 67 [Value.int .u8 0]).flatten = (marks 67 0).map byteC from rfl] at H
  refine ce_loop (α := Nat) (fun k => [(0, .slice none 0 0), (3, slv (some g8) 67 67), (4, .int .i64 (k : Int))]) (fun k w => Own B (.cells g8 5 ((marks 67 k).map byteC) :: F) w ∧ k ≤ 67) (fun k => 67 - k) 0 (And.intro rfl (And.intro rfl (And.intro rfl trivial))) ⟨H, Nat.zero_le _⟩ ?_
  rintro k w HW
  obtain ⟨H, hk⟩ := HW
  change CE _ _ _ _ _ [(0, .slice none 0 0), (3, slv (some g8) 67 67), (4, .int .i64 (k : Int))] _
  refine ce_seq ?_
  refine ce_seq ?_
  refine ce_text (tab := []) (soft := 15) (.op 0 (.op 1 (.op 2 (.op 3 .nil)))) rfl rfl ?_
  refine re_move rfl rfl rfl rfl rfl ?_
  refine re_move rfl rfl rfl rfl rfl ?_
  refine re_len rfl rfl rfl rfl rfl ul_39 ?_
  refine re_bin rfl rfl rfl rfl rfl rfl rfl ?_
  refine re_nil ?_
  refine qe_thenC ?_
  refine ce_cond rfl (fun h0 => ?_) (fun h0 => ?_)
  · try simp only [zn1, zn2, zn3, zn4, zn5, zn6] at h0
    refine ce_skip ?_
    refine qe_thenC ?_
    refine ce_seq ?_
    refine ce_block ?_
    refine ce_text (tab := []) (soft := 7) (.op 0 (.op 1 (.op 2 (.op 3 .nil)))) rfl rfl ?_
    have hlt : k < 67 := by omega
    have hml := marks_len (n := 67) (k := k) (by omega)
    refine re_move rfl rfl rfl rfl rfl ?_
    refine re_move rfl rfl rfl rfl rfl ?_
    refine re_indexL rfl rfl rfl rfl rfl rfl ul_39 ei_39 (by omega) (by omega) ?_
    refine re_store H rfl rfl rfl rfl rfl rfl sh_5 rfl (Nat.ble_eq_true_of_le (by simp [hml]; omega)) rfl ?_
    intro cs w hcs H
    replace hcs := ((set_one (l := marks 67 k) (k := k) byteC (some (k : Int))).trans (by rw [marks_set hlt])).symm.trans hcs
    subst hcs
    refine ⟨(fun h => (nomatch h)), ?_⟩
    refine re_nil ?_
    refine qe_block_norm ?_
    refine qe_thenC ?_
    refine ce_text (tab := []) (soft := 7) (.op 0 (.op 1 (.op 2 .nil))) rfl rfl ?_
    refine re_move rfl rfl rfl rfl rfl ?_
    first | refine re_add rfl rfl rfl rfl rfl rfl (by omega) ?_ | refine re_bin rfl rfl rfl rfl rfl rfl rfl ?_
    refine re_assign rfl rfl rfl rfl rfl ?_
    refine re_nil ?_
    refine qe_round (x := k) (k + 1) ?_ ?_ ?_
    · first | (dsimp only; omega) | omega
    · exact (And.intro rfl (And.intro rfl (And.intro rfl trivial)))
    · exact ⟨H, by omega⟩
  · try simp only [zn1, zn2, zn3, zn4, zn5, zn6] at h0
    refine ce_exit ?_
    refine qe_then_exit ?_
    refine qe_then_exit ?_
    refine qe_block_exit ?_
    refine qe_thenC ?_
    refine ce_seq ?_
    refine ce_text (tab := []) (soft := 31) (.op 0 (.op 1 (.op 2 (.op 3 (.op 4 .nil))))) rfl rfl ?_
    refine re_move rfl rfl rfl rfl rfl ?_
    refine re_move rfl rfl rfl rfl rfl ?_
    refine re_len rfl rfl rfl rfl rfl ul_39 ?_
    refine re_sliceH rfl rfl rfl rfl rfl rfl ul_39 ei_39 (by omega) (by omega) ?_
    refine re_assign rfl rfl rfl rfl rfl ?_
    refine re_nil ?_
    refine qe_thenC ?_
    refine ce_ret ?_
    refine qe_end rfl rfl ?_
    obtain rfl : k = 67 := by omega
    exact ⟨_, rfl, H⟩

theorem lendBucket_s {B w : World} {F : List Ent} {u : Int} (H : Own B F w) :
    Calls Try.prog 57 #[(.agg #[.int .i64 u, .slice none 0 0, .slice none 0 0])] w fun e w' => ∃ b1 b2, e = .returned (.agg #[.int .i64 u, .slice (some ⟨b1, 0, none⟩) 0 67, .slice (some ⟨b2, 0, none⟩) 0 67]) ∧ Own B (.cells b1 102 ((marks 67 67).flatMap entC) :: .cells b2 106 ((marks 67 67).flatMap lastC) :: F) w' := by
  refine calls_ce (args := [(.agg #[.int .i64 u, .slice none 0 0, .slice none 0 0])]) Try.func57 rfl rfl ?_
  change CE _ _ 68 _ _ [(0, (.agg #[.int .i64 u, .slice none 0 0, .slice none 0 0]))] _
  refine ce_seq ?_
  refine ce_text (tab := []) (soft := 0) (.op 0 (.op 1 .nil)) rfl rfl ?_
  refine re_box H rfl rfl rfl rfl rfl rfl ?_
  intro g1 w H
  refine ⟨(fun h => (nomatch h)), ?_⟩
  refine re_alloc H rfl rfl rfl rfl ze_43 ?_
  intro g2 w H
  refine ⟨(fun h => (nomatch h)), ?_⟩
  refine re_nil ?_
  refine qe_thenC ?_
  refine ce_seq ?_
  refine ce_text (tab := []) (soft := 47) (.op 0 (.op 1 (.op 2 (.op 3 (.op 4 (.op 5 .nil)))))) rfl rfl ?_
  first | refine re_field0 rfl rfl rfl rfl rfl fo_43_1 ?_ | refine re_field rfl rfl rfl rfl rfl fo_43_1 ?_ | refine re_fieldA rfl rfl rfl rfl rfl fo_43_1 ?_
  refine re_load H rfl rfl rfl rfl rfl sh_40 rfl ?_
  refine re_len rfl rfl rfl rfl rfl ul_40 ?_
  first | refine re_add rfl rfl rfl rfl rfl rfl (by omega) ?_ | refine re_bin rfl rfl rfl rfl rfl rfl rfl ?_
  refine re_makeSliceC H rfl rfl rfl rfl rfl rfl ul_40 ei_40 ze_102 rfl (by decide) (by first | omega | decide) (by first | (simp only [maxLen]; omega) | decide) ?_
  intro g11 w H
  refine ⟨(fun h => (nomatch h)), ?_⟩
  refine re_assign rfl rfl rfl rfl rfl ?_
  refine re_nil ?_
  refine qe_thenC ?_
  refine ce_seq ?_
  refine ce_text (tab := []) (soft := 7) (.op 0 (.op 1 (.op 2 (.op 3 .nil)))) rfl rfl ?_
  refine re_move rfl rfl rfl rfl rfl ?_
  first | refine re_field0 rfl rfl rfl rfl rfl fo_43_1 ?_ | refine re_field rfl rfl rfl rfl rfl fo_43_1 ?_ | refine re_fieldA rfl rfl rfl rfl rfl fo_43_1 ?_
  refine re_load H rfl rfl rfl rfl rfl sh_40 rfl ?_
  refine re_copyNil rfl rfl rfl rfl rfl rfl ul_40 ei_40 ?_
  refine ⟨(fun h => (nomatch h)), ?_⟩
  refine re_nil ?_
  refine qe_thenC ?_
  refine ce_seq ?_
  refine ce_seq ?_
  refine ce_text (tab := []) (soft := 15) (.op 0 (.op 1 (.op 2 (.op 3 .nil)))) rfl rfl ?_
  first | refine re_field0 rfl rfl rfl rfl rfl fo_43_1 ?_ | refine re_field rfl rfl rfl rfl rfl fo_43_1 ?_ | refine re_fieldA rfl rfl rfl rfl rfl fo_43_1 ?_
  refine re_load H rfl rfl rfl rfl rfl sh_40 rfl ?_
  refine re_len rfl rfl rfl rfl rfl ul_40 ?_
  refine re_assign rfl rfl rfl rfl rfl ?_
  refine re_nil ?_
  refine qe_thenC ?_
  refine ce_block ?_
  rw [show (List.replicate 67 [.string ByteArray.empty, .int .i64 0, .int .i64 0, .int .i64 0]).flatten = (marks 67 0).flatMap entC from rfl] at H
  have H := Own.arr [1, 2, 2] H
  simp only [arrs, Fw.front, zm1, zm2, zm3, zm4, zm5] at H
  refine ce_loop (α := Nat) (fun k => [(1, .pointer (some ⟨g1, 0, none⟩)), (2, .pointer (some ⟨g2, 0, none⟩)), (3, slv (some g11) 67 67), (4, .int .i64 (k : Int))]) (fun k w => Own B (.cells g11 102 ((marks 67 k).flatMap entC) :: .cells g1 43 [.int .i64 u, .slice none 0 0, .slice none 0 0] :: .cells g2 43 [.int .i64 0, .slice none 0 0, .slice none 0 0] :: F) w ∧ k ≤ 67) (fun k => 67 - k) 0 (And.intro rfl (And.intro rfl (And.intro rfl (And.intro rfl trivial)))) ⟨H, Nat.zero_le _⟩ ?_
  rintro k w HW
  obtain ⟨H, hk⟩ := HW
  change CE _ _ _ _ _ [(1, .pointer (some ⟨g1, 0, none⟩)), (2, .pointer (some ⟨g2, 0, none⟩)), (3, slv (some g11) 67 67), (4, .int .i64 (k : Int))] _
  refine ce_seq ?_
  refine ce_seq ?_
  refine ce_text (tab := []) (soft := 15) (.op 0 (.op 1 (.op 2 (.op 3 .nil)))) rfl rfl ?_
  refine re_move rfl rfl rfl rfl rfl ?_
  refine re_move rfl rfl rfl rfl rfl ?_
  refine re_len rfl rfl rfl rfl rfl ul_40 ?_
  refine re_bin rfl rfl rfl rfl rfl rfl rfl ?_
  refine re_nil ?_
  refine qe_thenC ?_
  refine ce_cond rfl (fun h0 => ?_) (fun h0 => ?_)
  · try simp only [zn1, zn2, zn3, zn4, zn5, zn6] at h0
    refine ce_skip ?_
    refine qe_thenC ?_
    refine ce_seq ?_
    refine ce_block ?_
    refine ce_text (tab := []) (soft := 63) (.op 0 (.op 1 (.op 2 (.op 3 (.op 4 (.op 5 (.op 6 .nil))))))) rfl rfl ?_
    have hlt : k < 67 := by omega
    have hml := marks_len (n := 67) (k := k) (by omega)
    refine re_move rfl rfl rfl rfl rfl ?_
    refine re_move rfl rfl rfl rfl rfl ?_
    refine re_move rfl rfl rfl rfl rfl ?_
    first | refine re_subI rfl rfl rfl rfl rfl rfl (by omega) ?_ | refine re_bin rfl rfl rfl rfl rfl rfl rfl ?_
    refine re_build rfl rfl rfl rfl rfl ze_102 pl_102 (by simp only [fillL, setMany, Value.cells, List.getElem?_cons_zero, List.getElem?_cons_succ, List.length_cons, List.length_nil, List.set_cons_zero, List.set_cons_succ, Nat.reduceAdd, Nat.reduceLeDiff, Nat.zero_add, and_self, ↓reduceIte]; rfl) ?_
    refine re_indexL rfl rfl rfl rfl rfl rfl ul_40 ei_40 (by omega) (by omega) ?_
    refine re_store H rfl rfl rfl rfl rfl rfl sh_102 rfl (Nat.ble_eq_true_of_le (by rw [flatMap_len entC 4 entC_len]; simp [hml]; omega)) rfl ?_
    intro cs w hcs H
    replace hcs := ((set_flat entC 4 entC_len (some (k : Int)) (marks 67 k) k (by omega)).trans (by rw [marks_set hlt])).symm.trans hcs
    subst hcs
    refine ⟨(fun h => (nomatch h)), ?_⟩
    refine re_nil ?_
    refine qe_block_norm ?_
    refine qe_thenC ?_
    refine ce_text (tab := []) (soft := 7) (.op 0 (.op 1 (.op 2 .nil))) rfl rfl ?_
    refine re_move rfl rfl rfl rfl rfl ?_
    first | refine re_add rfl rfl rfl rfl rfl rfl (by omega) ?_ | refine re_bin rfl rfl rfl rfl rfl rfl rfl ?_
    refine re_assign rfl rfl rfl rfl rfl ?_
    refine re_nil ?_
    refine qe_round (x := k) (k + 1) ?_ ?_ ?_
    · first | (dsimp only; omega) | omega
    · exact (And.intro rfl (And.intro rfl (And.intro rfl (And.intro rfl trivial))))
    · exact ⟨H, by omega⟩
  · try simp only [zn1, zn2, zn3, zn4, zn5, zn6] at h0
    refine ce_exit ?_
    refine qe_then_exit ?_
    refine qe_then_exit ?_
    refine qe_block_exit ?_
    refine qe_thenC ?_
    refine ce_seq ?_
    refine ce_text (tab := []) (soft := 47) (.op 0 (.op 1 (.op 2 (.op 3 (.op 4 (.op 5 .nil)))))) rfl rfl ?_
    obtain rfl : k = 67 := by omega
    first | refine re_field0 rfl rfl rfl rfl rfl fo_43_2 ?_ | refine re_field rfl rfl rfl rfl rfl fo_43_2 ?_ | refine re_fieldA rfl rfl rfl rfl rfl fo_43_2 ?_
    refine re_load H rfl rfl rfl rfl rfl sh_41 rfl ?_
    refine re_len rfl rfl rfl rfl rfl ul_41 ?_
    first | refine re_add rfl rfl rfl rfl rfl rfl (by omega) ?_ | refine re_bin rfl rfl rfl rfl rfl rfl rfl ?_
    refine re_makeSliceC H rfl rfl rfl rfl rfl rfl ul_41 ei_41 ze_106 rfl (by decide) (by first | omega | decide) (by first | (simp only [maxLen]; omega) | decide) ?_
    intro g35 w H
    refine ⟨(fun h => (nomatch h)), ?_⟩
    refine re_assign rfl rfl rfl rfl rfl ?_
    refine re_nil ?_
    refine qe_thenC ?_
    refine ce_seq ?_
    refine ce_text (tab := []) (soft := 7) (.op 0 (.op 1 (.op 2 (.op 3 .nil)))) rfl rfl ?_
    refine re_move rfl rfl rfl rfl rfl ?_
    first | refine re_field0 rfl rfl rfl rfl rfl fo_43_2 ?_ | refine re_field rfl rfl rfl rfl rfl fo_43_2 ?_ | refine re_fieldA rfl rfl rfl rfl rfl fo_43_2 ?_
    refine re_load H rfl rfl rfl rfl rfl sh_41 rfl ?_
    refine re_copyNil rfl rfl rfl rfl rfl rfl ul_41 ei_41 ?_
    refine ⟨(fun h => (nomatch h)), ?_⟩
    refine re_nil ?_
    refine qe_thenC ?_
    refine ce_seq ?_
    refine ce_seq ?_
    refine ce_text (tab := []) (soft := 15) (.op 0 (.op 1 (.op 2 (.op 3 .nil)))) rfl rfl ?_
    first | refine re_field0 rfl rfl rfl rfl rfl fo_43_2 ?_ | refine re_field rfl rfl rfl rfl rfl fo_43_2 ?_ | refine re_fieldA rfl rfl rfl rfl rfl fo_43_2 ?_
    refine re_load H rfl rfl rfl rfl rfl sh_41 rfl ?_
    refine re_len rfl rfl rfl rfl rfl ul_41 ?_
    refine re_assign rfl rfl rfl rfl rfl ?_
    refine re_nil ?_
    refine qe_thenC ?_
    refine ce_block ?_
    rw [show (List.replicate 67 [.int .i64 0, .int .i64 0, .int .i64 0, .int .i64 0, .int .i64 0, .int .i64 0, .int .i64 0]).flatten = (marks 67 0).flatMap lastC from rfl] at H
    refine ce_loop (α := Nat) (fun k => [(1, .pointer (some ⟨g1, 0, none⟩)), (2, .pointer (some ⟨g2, 0, none⟩)), (3, slv (some g11) 67 67), (5, slv (some g35) 67 67), (6, .int .i64 (k : Int))]) (fun k w => Own B (.cells g35 106 ((marks 67 k).flatMap lastC) :: .cells g11 102 ((marks 67 67).flatMap entC) :: .cells g1 43 [.int .i64 u, .slice none 0 0, .slice none 0 0] :: .cells g2 43 [.int .i64 0, .slice none 0 0, .slice none 0 0] :: F) w ∧ k ≤ 67) (fun k => 67 - k) 0 (And.intro rfl (And.intro rfl (And.intro rfl (And.intro rfl (And.intro rfl trivial))))) ⟨H, Nat.zero_le _⟩ ?_
    rintro k w HW
    obtain ⟨H, hk⟩ := HW
    change CE _ _ _ _ _ [(1, .pointer (some ⟨g1, 0, none⟩)), (2, .pointer (some ⟨g2, 0, none⟩)), (3, slv (some g11) 67 67), (5, slv (some g35) 67 67), (6, .int .i64 (k : Int))] _
    refine ce_seq ?_
    refine ce_seq ?_
    refine ce_text (tab := []) (soft := 15) (.op 0 (.op 1 (.op 2 (.op 3 .nil)))) rfl rfl ?_
    refine re_move rfl rfl rfl rfl rfl ?_
    refine re_move rfl rfl rfl rfl rfl ?_
    refine re_len rfl rfl rfl rfl rfl ul_41 ?_
    refine re_bin rfl rfl rfl rfl rfl rfl rfl ?_
    refine re_nil ?_
    refine qe_thenC ?_
    refine ce_cond rfl (fun h1 => ?_) (fun h1 => ?_)
    · try simp only [zn1, zn2, zn3, zn4, zn5, zn6] at h1
      refine ce_skip ?_
      refine qe_thenC ?_
      refine ce_seq ?_
      refine ce_block ?_
      refine ce_text (tab := []) (soft := 63) (.op 0 (.op 1 (.op 2 (.op 3 (.op 4 (.op 5 (.op 6 .nil))))))) rfl rfl ?_
      have hlt : k < 67 := by omega
      have hml := marks_len (n := 67) (k := k) (by omega)
      refine re_move rfl rfl rfl rfl rfl ?_
      refine re_move rfl rfl rfl rfl rfl ?_
      refine re_move rfl rfl rfl rfl rfl ?_
      first | refine re_subI rfl rfl rfl rfl rfl rfl (by omega) ?_ | refine re_bin rfl rfl rfl rfl rfl rfl rfl ?_
      refine re_build rfl rfl rfl rfl rfl ze_106 pl_106 (by simp only [fillL, setMany, Value.cells, List.getElem?_cons_zero, List.getElem?_cons_succ, List.length_cons, List.length_nil, List.set_cons_zero, List.set_cons_succ, Nat.reduceAdd, Nat.reduceLeDiff, Nat.zero_add, and_self, ↓reduceIte]; rfl) ?_
      refine re_indexL rfl rfl rfl rfl rfl rfl ul_41 ei_41 (by omega) (by omega) ?_
      refine re_store H rfl rfl rfl rfl rfl rfl sh_106 rfl (Nat.ble_eq_true_of_le (by rw [flatMap_len lastC 7 lastC_len]; simp [hml]; omega)) rfl ?_
      intro cs w hcs H
      replace hcs := ((set_flat lastC 7 lastC_len (some (k : Int)) (marks 67 k) k (by omega)).trans (by rw [marks_set hlt])).symm.trans hcs
      subst hcs
      refine ⟨(fun h => (nomatch h)), ?_⟩
      refine re_nil ?_
      refine qe_block_norm ?_
      refine qe_thenC ?_
      refine ce_text (tab := []) (soft := 7) (.op 0 (.op 1 (.op 2 .nil))) rfl rfl ?_
      refine re_move rfl rfl rfl rfl rfl ?_
      first | refine re_add rfl rfl rfl rfl rfl rfl (by omega) ?_ | refine re_bin rfl rfl rfl rfl rfl rfl rfl ?_
      refine re_assign rfl rfl rfl rfl rfl ?_
      refine re_nil ?_
      refine qe_round (x := k) (k + 1) ?_ ?_ ?_
      · first | (dsimp only; omega) | omega
      · exact (And.intro rfl (And.intro rfl (And.intro rfl (And.intro rfl (And.intro rfl trivial)))))
      · exact ⟨H, by omega⟩
    · try simp only [zn1, zn2, zn3, zn4, zn5, zn6] at h1
      refine ce_exit ?_
      refine qe_then_exit ?_
      refine qe_then_exit ?_
      refine qe_block_exit ?_
      refine qe_thenC ?_
      refine ce_seq ?_
      refine ce_open (tab := [0, 1, 0, 0, 8, 24, 60, 0, 0, 256, 768, 1920, 4095, 8191]) (soft := 8191) mixed (.op 0 (.op 1 (.op 2 (.op 3 (.op 4 (.op 5 (.op 6 (.op 7 (.op 8 (.op 9 (.op 10 (.op 11 (.op 12 (.op 13 .nil)))))))))))))) (by kernel_rfl) H ?_
      intro w H
      obtain rfl : k = 67 := by omega
      first | refine re_field0 rfl rfl rfl rfl rfl fo_43_0 ?_ | refine re_field rfl rfl rfl rfl rfl fo_43_0 ?_ | refine re_fieldA rfl rfl rfl rfl rfl fo_43_0 ?_
      refine re_load H rfl rfl rfl rfl rfl sh_3 rfl ?_
      refine re_move rfl rfl rfl rfl rfl ?_
      first | refine re_field0 rfl rfl rfl rfl rfl fo_43_1 ?_ | refine re_field rfl rfl rfl rfl rfl fo_43_1 ?_ | refine re_fieldA rfl rfl rfl rfl rfl fo_43_1 ?_
      refine re_load H rfl rfl rfl rfl rfl sh_40 rfl ?_
      refine re_len rfl rfl rfl rfl rfl ul_40 ?_
      refine re_sliceH rfl rfl rfl rfl rfl rfl ul_40 ei_40 (by omega) (by omega) ?_
      refine re_move rfl rfl rfl rfl rfl ?_
      first | refine re_field0 rfl rfl rfl rfl rfl fo_43_2 ?_ | refine re_field rfl rfl rfl rfl rfl fo_43_2 ?_ | refine re_fieldA rfl rfl rfl rfl rfl fo_43_2 ?_
      refine re_load H rfl rfl rfl rfl rfl sh_41 rfl ?_
      refine re_len rfl rfl rfl rfl rfl ul_41 ?_
      refine re_sliceH rfl rfl rfl rfl rfl rfl ul_41 ei_41 (by omega) (by omega) ?_
      refine re_build rfl rfl rfl rfl rfl ze_43 pl_43 (by simp only [fillL, setMany, Value.cells, List.getElem?_cons_zero, List.getElem?_cons_succ, List.length_cons, List.length_nil, List.set_cons_zero, List.set_cons_succ, Nat.reduceAdd, Nat.reduceLeDiff, Nat.zero_add, and_self, ↓reduceIte]; rfl) ?_
      refine re_store H rfl rfl rfl rfl rfl rfl sh_43 rfl rfl rfl ?_
      intro cs w hcs H
      first | rw [setMany_whole rfl] at hcs | simp only [setMany, List.set_cons_zero, List.set_cons_succ, Nat.reduceAdd, Nat.zero_add, PS.cells, PS.over, GM.cells, Cmd.cells, List.cons_append, List.nil_append, RS.cellsV, RS.ch, stC, RS.decide, RS.accepted, RS.phase] at hcs
      subst hcs
      refine ⟨(fun _ => ⟨ancs (i := 13) (j := 9) rfl, ancs (i := 13) (j := 4) rfl, ancs (i := 13) (j := 1) rfl, trivial⟩), ?_⟩
      refine re_nil ?_
      refine qe_noPanic ?_
      refine qe_thenC ?_
      refine ce_ret ?_
      refine qe_endCell H rfl rfl sh_43 (by first | exact rdAt_all rfl | (simp only [rdAt, PS.cells, PS.over, GM.cells, Cmd.cells, List.cons_append, List.nil_append, RS.cellsV, RS.ch, stC, RS.decide, RS.accepted, RS.phase, List.drop_succ_cons, List.drop_zero, List.take_succ_cons, List.take_zero, List.length_cons, List.length_nil, Nat.zero_add, Nat.reduceAdd, Nat.reduceLeDiff, Nat.le_refl, ↓reduceIte] <;> rfl)) ?_
      have H := H.front 0
      have H := H.front 1
      simp only [arrs, Fw.front, zm1, zm2, zm3, zm4, zm5] at H
      replace H := H.sub (.cons_cons _ (.cons_cons _ (.cons _ (.cons _ (List.Sublist.refl _)))))
      exact ⟨_, _, rfl, H⟩

theorem sameBytes0 {B w : World} {F : List Ent} {a1 a2 : Option Addr} {c1 c2 : Nat} (H : Own B F w) :
    Calls Try.prog 77 #[.slice a1 0 c1, .slice a2 0 c2] w fun e w' => e = .returned (.bool true) ∧ Own B F w' := by
  refine calls_ce (args := [.slice a1 0 c1, .slice a2 0 c2]) Try.func77 rfl rfl ?_
  change CE _ _ 10 _ _ [(0, .slice a1 0 c1), (1, .slice a2 0 c2)] _
  refine ce_seq ?_
  refine ce_text (tab := []) (soft := 1) (.op 0 .nil) rfl rfl ?_
  refine re_assign rfl rfl rfl rfl rfl ?_
  refine re_nil ?_
  refine qe_thenC ?_
  refine ce_seq ?_
  refine ce_text (tab := []) (soft := 63) (.op 0 (.op 1 (.op 2 (.op 3 (.op 4 (.op 5 .nil)))))) rfl rfl ?_
  refine re_move rfl rfl rfl rfl rfl ?_
  refine re_conv0 rfl rfl rfl rfl rfl ul_39 ul_5 ul_9 ?_
  refine re_move rfl rfl rfl rfl rfl ?_
  refine re_conv0 rfl rfl rfl rfl rfl ul_39 ul_5 ul_9 ?_
  refine re_binW rfl rfl rfl rfl rfl rfl (run_str (.inl ⟨rfl, rfl⟩)) ?_
  refine re_assign rfl rfl rfl rfl rfl ?_
  refine re_nil ?_
  refine qe_thenC ?_
  refine ce_ret ?_
  refine qe_end rfl rfl ?_
  exact ⟨by simp, H⟩

theorem backBytes_s {B w : World} {F : List Ent} {b : Nat} (H : Own B (.cells b 5 ((marks 67 67).map byteC) :: F) w) :
    Calls Try.prog 62 #[.slice (some ⟨b, 0, none⟩) 0 67, .slice none 0 0] w fun e w' => e = .returned (.bool true) ∧ Own B (.cells b 5 ((marks 67 67).map byteC) :: F) w' := by
  refine calls_ce (args := [.slice (some ⟨b, 0, none⟩) 0 67, .slice none 0 0]) Try.func62 rfl rfl ?_
  change CE _ _ 29 _ _ [(0, .slice (some ⟨b, 0, none⟩) 0 67), (1, .slice none 0 0)] _
  refine ce_seq ?_
  refine ce_text (tab := []) (soft := 1) (.op 0 .nil) rfl rfl ?_
  refine re_assign rfl rfl rfl rfl rfl ?_
  refine re_nil ?_
  refine qe_thenC ?_
  refine ce_seq ?_
  refine ce_seq ?_
  refine ce_text (tab := []) (soft := 11) (.op 0 (.op 1 (.op 2 (.op 3 .nil)))) rfl rfl ?_
  refine re_move rfl rfl rfl rfl rfl ?_
  refine re_move rfl rfl rfl rfl rfl ?_
  refine re_call en_77 rfl rfl rfl rfl rfl ?_
  refine Calls.mono (sameBytes0 H) ?_
  rintro e w ⟨rfl, H⟩
  refine ⟨_, rfl, (fun h => (nomatch h)), ?_⟩
  refine re_not rfl rfl rfl rfl rfl ?_
  refine re_nil ?_
  refine qe_thenC ?_
  refine ce_condF rfl ?_
  refine ce_skip ?_
  refine qe_thenC ?_
  refine ce_seq ?_
  refine ce_text (tab := []) (soft := 63) (.op 0 (.op 1 (.op 2 (.op 3 (.op 4 (.op 5 .nil)))))) rfl rfl ?_
  refine re_move rfl rfl rfl rfl rfl ?_
  refine re_move rfl rfl rfl rfl rfl ?_
  refine re_len rfl rfl rfl rfl rfl ul_39 ?_
  first | refine re_add rfl rfl rfl rfl rfl rfl (by omega) ?_ | refine re_bin rfl rfl rfl rfl rfl rfl rfl ?_
  refine re_sliceH rfl rfl rfl rfl rfl rfl ul_39 ei_39 (by omega) (by omega) ?_
  refine re_assign rfl rfl rfl rfl rfl ?_
  refine re_nil ?_
  refine qe_thenC ?_
  refine ce_seq ?_
  refine ce_seq ?_
  refine ce_text (tab := []) (soft := 7) (.op 0 (.op 1 (.op 2 .nil))) rfl rfl ?_
  refine re_move rfl rfl rfl rfl rfl ?_
  refine re_len rfl rfl rfl rfl rfl ul_39 ?_
  refine re_assign rfl rfl rfl rfl rfl ?_
  refine re_nil ?_
  refine qe_thenC ?_
  refine ce_block ?_
  refine ce_loop (α := Nat) (fun k => [(5, slv (some b) 67 67), (6, .int .i64 (k : Int))]) (fun k w => Own B (.cells b 5 ((marks 67 67).map byteC) :: F) w ∧ k ≤ 67) (fun k => 67 - k) 0 (And.intro rfl (And.intro rfl trivial)) ⟨H, Nat.zero_le _⟩ ?_
  rintro k w HW
  obtain ⟨H, hk⟩ := HW
  change CE _ _ _ _ _ [(5, slv (some b) 67 67), (6, .int .i64 (k : Int))] _
  refine ce_seq ?_
  refine ce_seq ?_
  refine ce_text (tab := []) (soft := 15) (.op 0 (.op 1 (.op 2 (.op 3 .nil)))) rfl rfl ?_
  refine re_move rfl rfl rfl rfl rfl ?_
  refine re_move rfl rfl rfl rfl rfl ?_
  refine re_len rfl rfl rfl rfl rfl ul_39 ?_
  refine re_bin rfl rfl rfl rfl rfl rfl rfl ?_
  refine re_nil ?_
  refine qe_thenC ?_
  refine ce_cond rfl (fun h1 => ?_) (fun h1 => ?_)
  · try simp only [zn1, zn2, zn3, zn4, zn5, zn6] at h1
    refine ce_skip ?_
    refine qe_thenC ?_
    refine ce_seq ?_
    refine ce_block ?_
    refine ce_seq ?_
    refine ce_text (tab := []) (soft := 31) (.op 0 (.op 1 (.op 2 (.op 3 (.op 4 .nil))))) rfl rfl ?_
    have hlt : k < 67 := by omega
    have hml := marks_len (n := 67) (k := 67) (by omega)
    have hmg := marks_get hlt
    refine re_move rfl rfl rfl rfl rfl ?_
    refine re_move rfl rfl rfl rfl rfl ?_
    refine re_indexL rfl rfl rfl rfl rfl rfl ul_39 ei_39 (by omega) (by omega) ?_
    refine re_load H rfl rfl rfl rfl rfl sh_5 (rd_one (l := marks 67 67) byteC (k := k) (by omega)) ?_
    rw [hmg, byteC]
    refine re_bin rfl rfl rfl rfl rfl rfl rfl ?_
    refine re_nil ?_
    refine qe_thenC ?_
    refine ce_cond rfl (fun h2 => ?_) (fun h2 => ?_)
    · try simp only [zn1, zn2, zn3, zn4, zn5, zn6] at h2
      exact absurd trivial h2
    · try simp only [zn1, zn2, zn3, zn4, zn5, zn6] at h2
      refine ce_skip ?_
      refine qe_block_norm ?_
      refine qe_thenC ?_
      refine ce_text (tab := []) (soft := 7) (.op 0 (.op 1 (.op 2 .nil))) rfl rfl ?_
      refine re_move rfl rfl rfl rfl rfl ?_
      first | refine re_add rfl rfl rfl rfl rfl rfl (by omega) ?_ | refine re_bin rfl rfl rfl rfl rfl rfl rfl ?_
      refine re_assign rfl rfl rfl rfl rfl ?_
      refine re_nil ?_
      refine qe_round (x := k) (k + 1) ?_ ?_ ?_
      · first | (dsimp only; omega) | omega
      · exact (And.intro rfl (And.intro rfl trivial))
      · exact ⟨H, by omega⟩
  · try simp only [zn1, zn2, zn3, zn4, zn5, zn6] at h1
    refine ce_exit ?_
    refine qe_then_exit ?_
    refine qe_then_exit ?_
    refine qe_block_exit ?_
    refine qe_thenC ?_
    refine ce_seq ?_
    refine ce_text (tab := []) (soft := 1) (.op 0 .nil) rfl rfl ?_
    refine re_assign rfl rfl rfl rfl rfl ?_
    refine re_nil ?_
    refine qe_thenC ?_
    refine ce_ret ?_
    refine qe_end rfl rfl ?_
    exact ⟨rfl, H⟩
end Go.Proofs.Ytofaoblfemfkiaa

namespace Go.Proofs.Ytofaoblfemfkiaa
open Go Go.RowKit Go.Fw
set_option linter.unusedSimpArgs false
set_option linter.unusedVariables false
set_option maxRecDepth 4000
set_option maxHeartbeats 2000000
theorem en_33 : Enterable Try.prog 33 := ⟨Try.f33, Try.func33, rfl, by decide⟩
theorem en_52 : Enterable Try.prog 52 := ⟨Try.f52, Try.func52, rfl, by decide⟩
theorem fk_28 : flatK Try.prog 9 28 = some [.i, .i, .i, .s, .i, .i, .i, .i, .i] := by kernel_rfl
theorem fo_46_10 : fOff Try.prog 46 10 = some 25 := by kernel_rfl
theorem fo_46_11 : fOff Try.prog 46 11 = some 28 := by kernel_rfl
theorem fo_46_12 : fOff Try.prog 46 12 = some 29 := by kernel_rfl
theorem fo_46_8 : fOff Try.prog 46 8 = some 15 := by kernel_rfl
theorem ng_28 : notGuarded Try.prog 28 = true := by kernel_rfl
theorem sh_39 : shapeOf Try.prog 39 = some (false, 1) := by kernel_rfl
theorem ul_4 : Try.prog.underlying 4 = some (.bool) := by kernel_rfl

def GM.lent (m : GM) (a1 a2 a3 a4 : Option Addr) (c1 c2 c3 c4 : Nat) : GM := { m with blk := ⟨a1, 0, c1⟩, ents := ⟨a2, 0, c2⟩, lasts := ⟨a3, 0, c3⟩, cmds := ⟨a4, 0, c4⟩ }
theorem sameBucket0 {B w : World} {F : List Ent} {u : Int} {a1 a2 b1 b2 : Option Addr} {c1 c2 d1 d2 : Nat} (H : Own B F w) :
    Calls Try.prog 33 #[.agg #[.int .i64 u, .slice a1 0 c1, .slice a2 0 c2], .agg #[.int .i64 u, .slice b1 0 d1, .slice b2 0 d2]] w fun e w' => e = .returned (.bool true) ∧ Own B F w' := by
  refine calls_ce (args := [.agg #[.int .i64 u, .slice a1 0 c1, .slice a2 0 c2], .agg #[.int .i64 u, .slice b1 0 d1, .slice b2 0 d2]]) Try.func33 rfl rfl ?_
  change CE _ _ 66 _ _ [(0, .agg #[.int .i64 u, .slice a1 0 c1, .slice a2 0 c2]), (1, .agg #[.int .i64 u, .slice b1 0 d1, .slice b2 0 d2])] _
  refine ce_seq ?_
  refine ce_text (tab := []) (soft := 4) (.op 0 (.op 1 (.op 2 .nil))) rfl rfl ?_
  refine re_box H rfl rfl rfl rfl rfl rfl ?_
  intro g2 w H
  refine ⟨(fun h => (nomatch h)), ?_⟩
  refine re_box H rfl rfl rfl rfl rfl rfl ?_
  intro g3 w H
  refine ⟨(fun h => (nomatch h)), ?_⟩
  refine re_assign rfl rfl rfl rfl rfl ?_
  refine re_nil ?_
  refine qe_thenC ?_
  refine ce_seq ?_
  refine ce_seq ?_
  refine ce_text (tab := []) (soft := 8388607) (.op 0 (.op 1 (.op 2 (.op 3 (.op 4 (.op 5 (.op 6 (.op 7 (.op 8 (.op 9 (.op 10 (.op 11 (.op 12 (.op 13 (.op 14 (.op 15 (.op 16 (.op 17 (.op 18 (.op 19 (.op 20 (.op 21 (.op 22 .nil))))))))))))))))))))))) rfl rfl ?_
  first | refine re_field0 rfl rfl rfl rfl rfl fo_43_0 ?_ | refine re_field rfl rfl rfl rfl rfl fo_43_0 ?_ | refine re_fieldA rfl rfl rfl rfl rfl fo_43_0 ?_
  refine re_load H rfl rfl rfl rfl rfl sh_3 rfl ?_
  first | refine re_field0 rfl rfl rfl rfl rfl fo_43_0 ?_ | refine re_field rfl rfl rfl rfl rfl fo_43_0 ?_ | refine re_fieldA rfl rfl rfl rfl rfl fo_43_0 ?_
  refine re_load H rfl rfl rfl rfl rfl sh_3 rfl ?_
  refine re_bin rfl rfl rfl rfl rfl rfl rfl ?_
  simp only [eq_self, decide_true, Bool.not_true, Bool.and_self, Bool.and_true]
  refine re_move rfl rfl rfl rfl rfl ?_
  first | refine re_field0 rfl rfl rfl rfl rfl fo_43_1 ?_ | refine re_field rfl rfl rfl rfl rfl fo_43_1 ?_ | refine re_fieldA rfl rfl rfl rfl rfl fo_43_1 ?_
  refine re_load H rfl rfl rfl rfl rfl sh_40 rfl ?_
  refine re_len rfl rfl rfl rfl rfl ul_40 ?_
  first | refine re_field0 rfl rfl rfl rfl rfl fo_43_1 ?_ | refine re_field rfl rfl rfl rfl rfl fo_43_1 ?_ | refine re_fieldA rfl rfl rfl rfl rfl fo_43_1 ?_
  refine re_load H rfl rfl rfl rfl rfl sh_40 rfl ?_
  refine re_len rfl rfl rfl rfl rfl ul_40 ?_
  refine re_bin rfl rfl rfl rfl rfl rfl rfl ?_
  simp only [eq_self, decide_true, Bool.not_true, Bool.and_self, Bool.and_true]
  refine re_pickF rfl rfl rfl rfl rfl rfl ?_
  refine re_move rfl rfl rfl rfl rfl ?_
  first | refine re_field0 rfl rfl rfl rfl rfl fo_43_2 ?_ | refine re_field rfl rfl rfl rfl rfl fo_43_2 ?_ | refine re_fieldA rfl rfl rfl rfl rfl fo_43_2 ?_
  refine re_load H rfl rfl rfl rfl rfl sh_41 rfl ?_
  refine re_len rfl rfl rfl rfl rfl ul_41 ?_
  first | refine re_field0 rfl rfl rfl rfl rfl fo_43_2 ?_ | refine re_field rfl rfl rfl rfl rfl fo_43_2 ?_ | refine re_fieldA rfl rfl rfl rfl rfl fo_43_2 ?_
  refine re_load H rfl rfl rfl rfl rfl sh_41 rfl ?_
  refine re_len rfl rfl rfl rfl rfl ul_41 ?_
  refine re_bin rfl rfl rfl rfl rfl rfl rfl ?_
  simp only [eq_self, decide_true, Bool.not_true, Bool.and_self, Bool.and_true]
  refine re_pickF rfl rfl rfl rfl rfl rfl ?_
  refine re_nil ?_
  refine qe_thenC ?_
  refine ce_condF rfl ?_
  refine ce_skip ?_
  refine qe_thenC ?_
  refine ce_seq ?_
  refine ce_seq ?_
  refine ce_text (tab := []) (soft := 1) (.op 0 .nil) rfl rfl ?_
  refine re_assign rfl rfl rfl rfl rfl ?_
  refine re_nil ?_
  refine qe_thenC ?_
  refine ce_block ?_
  refine ce_loop (α := Nat) (fun k => [(2, .pointer (some ⟨g2, 0, none⟩)), (3, .pointer (some ⟨g3, 0, none⟩)), (5, .int .i64 0)]) (fun k w => Own B (.cells g3 43 [.int .i64 u, .slice b1 0 d1, .slice b2 0 d2] :: .cells g2 43 [.int .i64 u, .slice a1 0 c1, .slice a2 0 c2] :: F) w ∧ True) (fun k => 0) 0 (And.intro rfl (And.intro rfl (And.intro rfl trivial))) ⟨H, trivial⟩ ?_
  rintro k w HW
  obtain ⟨H, _⟩ := HW
  change CE _ _ _ _ _ [(2, .pointer (some ⟨g2, 0, none⟩)), (3, .pointer (some ⟨g3, 0, none⟩)), (5, .int .i64 0)] _
  refine ce_seq ?_
  refine ce_seq ?_
  refine ce_text (tab := []) (soft := 31) (.op 0 (.op 1 (.op 2 (.op 3 (.op 4 .nil))))) rfl rfl ?_
  refine re_move rfl rfl rfl rfl rfl ?_
  first | refine re_field0 rfl rfl rfl rfl rfl fo_43_1 ?_ | refine re_field rfl rfl rfl rfl rfl fo_43_1 ?_ | refine re_fieldA rfl rfl rfl rfl rfl fo_43_1 ?_
  refine re_load H rfl rfl rfl rfl rfl sh_40 rfl ?_
  refine re_len rfl rfl rfl rfl rfl ul_40 ?_
  refine re_bin rfl rfl rfl rfl rfl rfl rfl ?_
  refine re_nil ?_
  refine qe_thenC ?_
  refine ce_cond rfl (fun h1 => ?_) (fun h1 => ?_)
  · try simp only [zn1, zn2, zn3, zn4, zn5, zn6] at h1
    exact absurd h1 (by omega)
  · try simp only [zn1, zn2, zn3, zn4, zn5, zn6] at h1
    refine ce_exit ?_
    refine qe_then_exit ?_
    refine qe_then_exit ?_
    refine qe_block_exit ?_
    refine qe_thenC ?_
    refine ce_seq ?_
    refine ce_seq ?_
    refine ce_text (tab := []) (soft := 1) (.op 0 .nil) rfl rfl ?_
    refine re_assign rfl rfl rfl rfl rfl ?_
    refine re_nil ?_
    refine qe_thenC ?_
    refine ce_block ?_
    refine ce_loop (α := Nat) (fun k => [(2, .pointer (some ⟨g2, 0, none⟩)), (3, .pointer (some ⟨g3, 0, none⟩)), (6, .int .i64 0)]) (fun k w => Own B (.cells g3 43 [.int .i64 u, .slice b1 0 d1, .slice b2 0 d2] :: .cells g2 43 [.int .i64 u, .slice a1 0 c1, .slice a2 0 c2] :: F) w ∧ True) (fun k => 0) 0 (And.intro rfl (And.intro rfl (And.intro rfl trivial))) ⟨H, trivial⟩ ?_
    rintro k w HW
    obtain ⟨H, _⟩ := HW
    change CE _ _ _ _ _ [(2, .pointer (some ⟨g2, 0, none⟩)), (3, .pointer (some ⟨g3, 0, none⟩)), (6, .int .i64 0)] _
    refine ce_seq ?_
    refine ce_seq ?_
    refine ce_text (tab := []) (soft := 31) (.op 0 (.op 1 (.op 2 (.op 3 (.op 4 .nil))))) rfl rfl ?_
    refine re_move rfl rfl rfl rfl rfl ?_
    first | refine re_field0 rfl rfl rfl rfl rfl fo_43_2 ?_ | refine re_field rfl rfl rfl rfl rfl fo_43_2 ?_ | refine re_fieldA rfl rfl rfl rfl rfl fo_43_2 ?_
    refine re_load H rfl rfl rfl rfl rfl sh_41 rfl ?_
    refine re_len rfl rfl rfl rfl rfl ul_41 ?_
    refine re_bin rfl rfl rfl rfl rfl rfl rfl ?_
    refine re_nil ?_
    refine qe_thenC ?_
    refine ce_cond rfl (fun h3 => ?_) (fun h3 => ?_)
    · try simp only [zn1, zn2, zn3, zn4, zn5, zn6] at h3
      exact absurd h3 (by omega)
    · try simp only [zn1, zn2, zn3, zn4, zn5, zn6] at h3
      refine ce_exit ?_
      refine qe_then_exit ?_
      refine qe_then_exit ?_
      refine qe_block_exit ?_
      refine qe_thenC ?_
      refine ce_seq ?_
      refine ce_text (tab := []) (soft := 1) (.op 0 .nil) rfl rfl ?_
      refine re_assign rfl rfl rfl rfl rfl ?_
      refine re_nil ?_
      refine qe_thenC ?_
      refine ce_ret ?_
      refine qe_end rfl rfl ?_
      exact ⟨rfl, H.tail.tail⟩

theorem sameMsg0 {B w : World} {F : List Ent} {m : GM} {a1 a2 a3 a4 b1 b2 b3 b4 : Option Addr} {c1 c2 c3 c4 d1 d2 d3 d4 : Nat} (H : Own B F w) :
    Calls Try.prog 52 #[.agg (m.lent a1 a2 a3 a4 c1 c2 c3 c4).cells.toArray, .agg (m.lent b1 b2 b3 b4 d1 d2 d3 d4).cells.toArray] w fun e w' => e = .returned (.bool true) ∧ Own B F w' := by
  refine calls_ce (args := [.agg (m.lent a1 a2 a3 a4 c1 c2 c3 c4).cells.toArray, .agg (m.lent b1 b2 b3 b4 d1 d2 d3 d4).cells.toArray]) Try.func52 rfl rfl ?_
  change CE _ _ 115 _ _ [(0, .agg (m.lent a1 a2 a3 a4 c1 c2 c3 c4).cells.toArray), (1, .agg (m.lent b1 b2 b3 b4 d1 d2 d3 d4).cells.toArray)] _
  refine ce_seq ?_
  refine ce_text (tab := []) (soft := 4) (.op 0 (.op 1 (.op 2 .nil))) rfl rfl ?_
  refine re_box H rfl rfl rfl rfl rfl rfl ?_
  intro g2 w H
  refine ⟨(fun h => (nomatch h)), ?_⟩
  refine re_box H rfl rfl rfl rfl rfl rfl ?_
  intro g3 w H
  refine ⟨(fun h => (nomatch h)), ?_⟩
  refine re_assign rfl rfl rfl rfl rfl ?_
  refine re_nil ?_
  refine qe_thenC ?_
  refine ce_seq ?_
  refine ce_seq ?_
  refine ce_text (tab := []) (soft := 18014398509481983) (.op 0 (.op 1 (.op 2 (.op 3 (.op 4 (.op 5 (.op 6 (.op 7 (.op 8 (.op 9 (.op 10 (.op 11 (.op 12 (.op 13 (.op 14 (.op 15 (.op 16 (.op 17 (.op 18 (.op 19 (.op 20 (.op 21 (.op 22 (.op 23 (.op 24 (.op 25 (.op 26 (.op 27 (.op 28 (.op 29 (.op 30 (.op 31 (.op 32 (.op 33 (.op 34 (.op 35 (.op 36 (.op 37 (.op 38 (.op 39 (.op 40 (.op 41 (.op 42 (.op 43 (.op 44 (.op 45 (.op 46 (.op 47 (.op 48 (.op 49 (.op 50 (.op 51 (.op 52 (.op 53 .nil)))))))))))))))))))))))))))))))))))))))))))))))))))))) rfl rfl ?_
  simp only [GM.lent, GM.cells, Sl.v, Cmd.cells, List.cons_append, List.nil_append] at H
  first | refine re_field0 rfl rfl rfl rfl rfl fo_46_0 ?_ | refine re_field rfl rfl rfl rfl rfl fo_46_0 ?_ | refine re_fieldA rfl rfl rfl rfl rfl fo_46_0 ?_
  refine re_load H rfl rfl rfl rfl rfl sh_3 rfl ?_
  first | refine re_field0 rfl rfl rfl rfl rfl fo_46_0 ?_ | refine re_field rfl rfl rfl rfl rfl fo_46_0 ?_ | refine re_fieldA rfl rfl rfl rfl rfl fo_46_0 ?_
  refine re_load H rfl rfl rfl rfl rfl sh_3 rfl ?_
  refine re_bin rfl rfl rfl rfl rfl rfl rfl ?_
  simp only [eq_self, decide_true, Bool.not_true, Bool.and_self, Bool.and_true]
  refine re_move rfl rfl rfl rfl rfl ?_
  first | refine re_field0 rfl rfl rfl rfl rfl fo_46_1 ?_ | refine re_field rfl rfl rfl rfl rfl fo_46_1 ?_ | refine re_fieldA rfl rfl rfl rfl rfl fo_46_1 ?_
  refine re_load H rfl rfl rfl rfl rfl sh_36 (by first | exact rdAt_all rfl | (simp only [rdAt, PS.cells, PS.over, GM.cells, Cmd.cells, List.cons_append, List.nil_append, RS.cellsV, RS.ch, stC, RS.decide, RS.accepted, RS.phase, GM.lent, List.drop_succ_cons, List.drop_zero, List.take_succ_cons, List.take_zero, List.length_cons, List.length_nil, Nat.zero_add, Nat.reduceAdd, Nat.reduceLeDiff, Nat.le_refl, ↓reduceIte] <;> rfl)) ?_
  first | refine re_field0 rfl rfl rfl rfl rfl fo_46_1 ?_ | refine re_field rfl rfl rfl rfl rfl fo_46_1 ?_ | refine re_fieldA rfl rfl rfl rfl rfl fo_46_1 ?_
  refine re_load H rfl rfl rfl rfl rfl sh_36 (by first | exact rdAt_all rfl | (simp only [rdAt, PS.cells, PS.over, GM.cells, Cmd.cells, List.cons_append, List.nil_append, RS.cellsV, RS.ch, stC, RS.decide, RS.accepted, RS.phase, GM.lent, List.drop_succ_cons, List.drop_zero, List.take_succ_cons, List.take_zero, List.length_cons, List.length_nil, Nat.zero_add, Nat.reduceAdd, Nat.reduceLeDiff, Nat.le_refl, ↓reduceIte] <;> rfl)) ?_
  refine re_neAgg rfl rfl rfl rfl rfl rfl fk_36 sh_36 ng_36 (by simp only [eqKs, eqK, ↓reduceIte]; rfl) ?_
  simp only [eq_self, decide_true, Bool.not_true, Bool.and_self, Bool.and_true]
  refine re_pickF rfl rfl rfl rfl rfl rfl ?_
  refine re_move rfl rfl rfl rfl rfl ?_
  first | refine re_field0 rfl rfl rfl rfl rfl fo_46_2 ?_ | refine re_field rfl rfl rfl rfl rfl fo_46_2 ?_ | refine re_fieldA rfl rfl rfl rfl rfl fo_46_2 ?_
  refine re_load H rfl rfl rfl rfl rfl sh_36 (by first | exact rdAt_all rfl | (simp only [rdAt, PS.cells, PS.over, GM.cells, Cmd.cells, List.cons_append, List.nil_append, RS.cellsV, RS.ch, stC, RS.decide, RS.accepted, RS.phase, GM.lent, List.drop_succ_cons, List.drop_zero, List.take_succ_cons, List.take_zero, List.length_cons, List.length_nil, Nat.zero_add, Nat.reduceAdd, Nat.reduceLeDiff, Nat.le_refl, ↓reduceIte] <;> rfl)) ?_
  first | refine re_field0 rfl rfl rfl rfl rfl fo_46_2 ?_ | refine re_field rfl rfl rfl rfl rfl fo_46_2 ?_ | refine re_fieldA rfl rfl rfl rfl rfl fo_46_2 ?_
  refine re_load H rfl rfl rfl rfl rfl sh_36 (by first | exact rdAt_all rfl | (simp only [rdAt, PS.cells, PS.over, GM.cells, Cmd.cells, List.cons_append, List.nil_append, RS.cellsV, RS.ch, stC, RS.decide, RS.accepted, RS.phase, GM.lent, List.drop_succ_cons, List.drop_zero, List.take_succ_cons, List.take_zero, List.length_cons, List.length_nil, Nat.zero_add, Nat.reduceAdd, Nat.reduceLeDiff, Nat.le_refl, ↓reduceIte] <;> rfl)) ?_
  refine re_neAgg rfl rfl rfl rfl rfl rfl fk_36 sh_36 ng_36 (by simp only [eqKs, eqK, ↓reduceIte]; rfl) ?_
  simp only [eq_self, decide_true, Bool.not_true, Bool.and_self, Bool.and_true]
  refine re_pickF rfl rfl rfl rfl rfl rfl ?_
  refine re_move rfl rfl rfl rfl rfl ?_
  first | refine re_field0 rfl rfl rfl rfl rfl fo_46_3 ?_ | refine re_field rfl rfl rfl rfl rfl fo_46_3 ?_ | refine re_fieldA rfl rfl rfl rfl rfl fo_46_3 ?_
  refine re_load H rfl rfl rfl rfl rfl sh_3 rfl ?_
  first | refine re_field0 rfl rfl rfl rfl rfl fo_46_3 ?_ | refine re_field rfl rfl rfl rfl rfl fo_46_3 ?_ | refine re_fieldA rfl rfl rfl rfl rfl fo_46_3 ?_
  refine re_load H rfl rfl rfl rfl rfl sh_3 rfl ?_
  refine re_bin rfl rfl rfl rfl rfl rfl rfl ?_
  simp only [eq_self, decide_true, Bool.not_true, Bool.and_self, Bool.and_true]
  refine re_pickF rfl rfl rfl rfl rfl rfl ?_
  refine re_move rfl rfl rfl rfl rfl ?_
  first | refine re_field0 rfl rfl rfl rfl rfl fo_46_4 ?_ | refine re_field rfl rfl rfl rfl rfl fo_46_4 ?_ | refine re_fieldA rfl rfl rfl rfl rfl fo_46_4 ?_
  refine re_load H rfl rfl rfl rfl rfl sh_3 rfl ?_
  first | refine re_field0 rfl rfl rfl rfl rfl fo_46_4 ?_ | refine re_field rfl rfl rfl rfl rfl fo_46_4 ?_ | refine re_fieldA rfl rfl rfl rfl rfl fo_46_4 ?_
  refine re_load H rfl rfl rfl rfl rfl sh_3 rfl ?_
  refine re_bin rfl rfl rfl rfl rfl rfl rfl ?_
  simp only [eq_self, decide_true, Bool.not_true, Bool.and_self, Bool.and_true]
  refine re_pickF rfl rfl rfl rfl rfl rfl ?_
  refine re_move rfl rfl rfl rfl rfl ?_
  first | refine re_field0 rfl rfl rfl rfl rfl fo_46_5 ?_ | refine re_field rfl rfl rfl rfl rfl fo_46_5 ?_ | refine re_fieldA rfl rfl rfl rfl rfl fo_46_5 ?_
  refine re_load H rfl rfl rfl rfl rfl sh_24 (by first | exact rdAt_all rfl | (simp only [rdAt, PS.cells, PS.over, GM.cells, Cmd.cells, List.cons_append, List.nil_append, RS.cellsV, RS.ch, stC, RS.decide, RS.accepted, RS.phase, GM.lent, List.drop_succ_cons, List.drop_zero, List.take_succ_cons, List.take_zero, List.length_cons, List.length_nil, Nat.zero_add, Nat.reduceAdd, Nat.reduceLeDiff, Nat.le_refl, ↓reduceIte] <;> rfl)) ?_
  first | refine re_field0 rfl rfl rfl rfl rfl fo_46_5 ?_ | refine re_field rfl rfl rfl rfl rfl fo_46_5 ?_ | refine re_fieldA rfl rfl rfl rfl rfl fo_46_5 ?_
  refine re_load H rfl rfl rfl rfl rfl sh_24 (by first | exact rdAt_all rfl | (simp only [rdAt, PS.cells, PS.over, GM.cells, Cmd.cells, List.cons_append, List.nil_append, RS.cellsV, RS.ch, stC, RS.decide, RS.accepted, RS.phase, GM.lent, List.drop_succ_cons, List.drop_zero, List.take_succ_cons, List.take_zero, List.length_cons, List.length_nil, Nat.zero_add, Nat.reduceAdd, Nat.reduceLeDiff, Nat.le_refl, ↓reduceIte] <;> rfl)) ?_
  refine re_neAgg rfl rfl rfl rfl rfl rfl fk_24 sh_24 ng_24 (by simp only [eqKs, eqK, ↓reduceIte]; rfl) ?_
  simp only [eq_self, decide_true, Bool.not_true, Bool.and_self, Bool.and_true]
  refine re_pickF rfl rfl rfl rfl rfl rfl ?_
  refine re_move rfl rfl rfl rfl rfl ?_
  first | refine re_field0 rfl rfl rfl rfl rfl fo_46_6 ?_ | refine re_field rfl rfl rfl rfl rfl fo_46_6 ?_ | refine re_fieldA rfl rfl rfl rfl rfl fo_46_6 ?_
  refine re_load H rfl rfl rfl rfl rfl sh_38 (by first | exact rdAt_all rfl | (simp only [rdAt, PS.cells, PS.over, GM.cells, Cmd.cells, List.cons_append, List.nil_append, RS.cellsV, RS.ch, stC, RS.decide, RS.accepted, RS.phase, GM.lent, List.drop_succ_cons, List.drop_zero, List.take_succ_cons, List.take_zero, List.length_cons, List.length_nil, Nat.zero_add, Nat.reduceAdd, Nat.reduceLeDiff, Nat.le_refl, ↓reduceIte] <;> rfl)) ?_
  first | refine re_field0 rfl rfl rfl rfl rfl fo_46_6 ?_ | refine re_field rfl rfl rfl rfl rfl fo_46_6 ?_ | refine re_fieldA rfl rfl rfl rfl rfl fo_46_6 ?_
  refine re_load H rfl rfl rfl rfl rfl sh_38 (by first | exact rdAt_all rfl | (simp only [rdAt, PS.cells, PS.over, GM.cells, Cmd.cells, List.cons_append, List.nil_append, RS.cellsV, RS.ch, stC, RS.decide, RS.accepted, RS.phase, GM.lent, List.drop_succ_cons, List.drop_zero, List.take_succ_cons, List.take_zero, List.length_cons, List.length_nil, Nat.zero_add, Nat.reduceAdd, Nat.reduceLeDiff, Nat.le_refl, ↓reduceIte] <;> rfl)) ?_
  refine re_neAgg rfl rfl rfl rfl rfl rfl fk_38 sh_38 ng_38 (by simp only [eqKs, eqK, ↓reduceIte]; rfl) ?_
  simp only [eq_self, decide_true, Bool.not_true, Bool.and_self, Bool.and_true]
  refine re_pickF rfl rfl rfl rfl rfl rfl ?_
  refine re_move rfl rfl rfl rfl rfl ?_
  first | refine re_field0 rfl rfl rfl rfl rfl fo_46_7 ?_ | refine re_field rfl rfl rfl rfl rfl fo_46_7 ?_ | refine re_fieldA rfl rfl rfl rfl rfl fo_46_7 ?_
  refine re_load H rfl rfl rfl rfl rfl sh_38 (by first | exact rdAt_all rfl | (simp only [rdAt, PS.cells, PS.over, GM.cells, Cmd.cells, List.cons_append, List.nil_append, RS.cellsV, RS.ch, stC, RS.decide, RS.accepted, RS.phase, GM.lent, List.drop_succ_cons, List.drop_zero, List.take_succ_cons, List.take_zero, List.length_cons, List.length_nil, Nat.zero_add, Nat.reduceAdd, Nat.reduceLeDiff, Nat.le_refl, ↓reduceIte] <;> rfl)) ?_
  first | refine re_field0 rfl rfl rfl rfl rfl fo_46_7 ?_ | refine re_field rfl rfl rfl rfl rfl fo_46_7 ?_ | refine re_fieldA rfl rfl rfl rfl rfl fo_46_7 ?_
  refine re_load H rfl rfl rfl rfl rfl sh_38 (by first | exact rdAt_all rfl | (simp only [rdAt, PS.cells, PS.over, GM.cells, Cmd.cells, List.cons_append, List.nil_append, RS.cellsV, RS.ch, stC, RS.decide, RS.accepted, RS.phase, GM.lent, List.drop_succ_cons, List.drop_zero, List.take_succ_cons, List.take_zero, List.length_cons, List.length_nil, Nat.zero_add, Nat.reduceAdd, Nat.reduceLeDiff, Nat.le_refl, ↓reduceIte] <;> rfl)) ?_
  refine re_neAgg rfl rfl rfl rfl rfl rfl fk_38 sh_38 ng_38 (by simp only [eqKs, eqK, ↓reduceIte]; rfl) ?_
  simp only [eq_self, decide_true, Bool.not_true, Bool.and_self, Bool.and_true]
  refine re_pickF rfl rfl rfl rfl rfl rfl ?_
  refine re_nil ?_
  refine qe_thenC ?_
  refine ce_condF rfl ?_
  refine ce_skip ?_
  refine qe_thenC ?_
  refine ce_seq ?_
  refine ce_seq ?_
  refine ce_text (tab := []) (soft := 137405267967) (.op 0 (.op 1 (.op 2 (.op 3 (.op 4 (.op 5 (.op 6 (.op 7 (.op 8 (.op 9 (.op 10 (.op 11 (.op 12 (.op 13 (.op 14 (.op 15 (.op 16 (.op 17 (.op 18 (.op 19 (.op 20 (.op 21 (.op 22 (.op 23 (.op 24 (.op 25 (.op 26 (.op 27 (.op 28 (.op 29 (.op 30 (.op 31 (.op 32 (.op 33 (.op 34 (.op 35 (.op 36 .nil))))))))))))))))))))))))))))))))))))) rfl rfl ?_
  first | refine re_field0 rfl rfl rfl rfl rfl fo_46_9 ?_ | refine re_field rfl rfl rfl rfl rfl fo_46_9 ?_ | refine re_fieldA rfl rfl rfl rfl rfl fo_46_9 ?_
  refine re_load H rfl rfl rfl rfl rfl sh_28 (by first | exact rdAt_all rfl | (simp only [rdAt, PS.cells, PS.over, GM.cells, Cmd.cells, List.cons_append, List.nil_append, RS.cellsV, RS.ch, stC, RS.decide, RS.accepted, RS.phase, GM.lent, List.drop_succ_cons, List.drop_zero, List.take_succ_cons, List.take_zero, List.length_cons, List.length_nil, Nat.zero_add, Nat.reduceAdd, Nat.reduceLeDiff, Nat.le_refl, ↓reduceIte] <;> rfl)) ?_
  first | refine re_field0 rfl rfl rfl rfl rfl fo_46_9 ?_ | refine re_field rfl rfl rfl rfl rfl fo_46_9 ?_ | refine re_fieldA rfl rfl rfl rfl rfl fo_46_9 ?_
  refine re_load H rfl rfl rfl rfl rfl sh_28 (by first | exact rdAt_all rfl | (simp only [rdAt, PS.cells, PS.over, GM.cells, Cmd.cells, List.cons_append, List.nil_append, RS.cellsV, RS.ch, stC, RS.decide, RS.accepted, RS.phase, GM.lent, List.drop_succ_cons, List.drop_zero, List.take_succ_cons, List.take_zero, List.length_cons, List.length_nil, Nat.zero_add, Nat.reduceAdd, Nat.reduceLeDiff, Nat.le_refl, ↓reduceIte] <;> rfl)) ?_
  refine re_neAgg rfl rfl rfl rfl rfl rfl fk_28 sh_28 ng_28 (by simp only [eqKs, eqK, ↓reduceIte]; rfl) ?_
  simp only [eq_self, decide_true, Bool.not_true, Bool.and_self, Bool.and_true]
  refine re_move rfl rfl rfl rfl rfl ?_
  first | refine re_field0 rfl rfl rfl rfl rfl fo_46_12 ?_ | refine re_field rfl rfl rfl rfl rfl fo_46_12 ?_ | refine re_fieldA rfl rfl rfl rfl rfl fo_46_12 ?_
  refine re_load H rfl rfl rfl rfl rfl sh_4 rfl ?_
  first | refine re_field0 rfl rfl rfl rfl rfl fo_46_12 ?_ | refine re_field rfl rfl rfl rfl rfl fo_46_12 ?_ | refine re_fieldA rfl rfl rfl rfl rfl fo_46_12 ?_
  refine re_load H rfl rfl rfl rfl rfl sh_4 rfl ?_
  refine re_binW rfl rfl rfl rfl rfl rfl (run_bools ul_4 (.inr ⟨rfl, rfl⟩)) ?_
  simp only [eq_self, decide_true, Bool.not_true, Bool.and_self, Bool.and_true]
  refine re_pickF rfl rfl rfl rfl rfl rfl ?_
  refine re_move rfl rfl rfl rfl rfl ?_
  first | refine re_field0 rfl rfl rfl rfl rfl fo_46_8 ?_ | refine re_field rfl rfl rfl rfl rfl fo_46_8 ?_ | refine re_fieldA rfl rfl rfl rfl rfl fo_46_8 ?_
  refine re_load H rfl rfl rfl rfl rfl sh_39 rfl ?_
  first | refine re_field0 rfl rfl rfl rfl rfl fo_46_8 ?_ | refine re_field rfl rfl rfl rfl rfl fo_46_8 ?_ | refine re_fieldA rfl rfl rfl rfl rfl fo_46_8 ?_
  refine re_load H rfl rfl rfl rfl rfl sh_39 rfl ?_
  refine re_call en_77 rfl rfl rfl rfl rfl ?_
  refine Calls.mono (sameBytes0 H) ?_
  rintro e w ⟨rfl, H⟩
  refine ⟨_, rfl, (fun h => (nomatch h)), ?_⟩
  refine re_not rfl rfl rfl rfl rfl ?_
  refine re_pickF rfl rfl rfl rfl rfl rfl ?_
  refine re_move rfl rfl rfl rfl rfl ?_
  first | refine re_field0 rfl rfl rfl rfl rfl fo_46_10 ?_ | refine re_field rfl rfl rfl rfl rfl fo_46_10 ?_ | refine re_fieldA rfl rfl rfl rfl rfl fo_46_10 ?_
  refine re_load H rfl rfl rfl rfl rfl sh_43 (by first | exact rdAt_all rfl | (simp only [rdAt, PS.cells, PS.over, GM.cells, Cmd.cells, List.cons_append, List.nil_append, RS.cellsV, RS.ch, stC, RS.decide, RS.accepted, RS.phase, GM.lent, List.drop_succ_cons, List.drop_zero, List.take_succ_cons, List.take_zero, List.length_cons, List.length_nil, Nat.zero_add, Nat.reduceAdd, Nat.reduceLeDiff, Nat.le_refl, ↓reduceIte] <;> rfl)) ?_
  first | refine re_field0 rfl rfl rfl rfl rfl fo_46_10 ?_ | refine re_field rfl rfl rfl rfl rfl fo_46_10 ?_ | refine re_fieldA rfl rfl rfl rfl rfl fo_46_10 ?_
  refine re_load H rfl rfl rfl rfl rfl sh_43 (by first | exact rdAt_all rfl | (simp only [rdAt, PS.cells, PS.over, GM.cells, Cmd.cells, List.cons_append, List.nil_append, RS.cellsV, RS.ch, stC, RS.decide, RS.accepted, RS.phase, GM.lent, List.drop_succ_cons, List.drop_zero, List.take_succ_cons, List.take_zero, List.length_cons, List.length_nil, Nat.zero_add, Nat.reduceAdd, Nat.reduceLeDiff, Nat.le_refl, ↓reduceIte] <;> rfl)) ?_
  refine re_call en_33 rfl rfl rfl rfl rfl ?_
  refine Calls.mono (sameBucket0 H) ?_
  rintro e w ⟨rfl, H⟩
  refine ⟨_, rfl, (fun h => (nomatch h)), ?_⟩
  refine re_not rfl rfl rfl rfl rfl ?_
  refine re_pickF rfl rfl rfl rfl rfl rfl ?_
  refine re_move rfl rfl rfl rfl rfl ?_
  first | refine re_field0 rfl rfl rfl rfl rfl fo_46_11 ?_ | refine re_field rfl rfl rfl rfl rfl fo_46_11 ?_ | refine re_fieldA rfl rfl rfl rfl rfl fo_46_11 ?_
  refine re_load H rfl rfl rfl rfl rfl sh_44 rfl ?_
  refine re_len rfl rfl rfl rfl rfl ul_44 ?_
  first | refine re_field0 rfl rfl rfl rfl rfl fo_46_11 ?_ | refine re_field rfl rfl rfl rfl rfl fo_46_11 ?_ | refine re_fieldA rfl rfl rfl rfl rfl fo_46_11 ?_
  refine re_load H rfl rfl rfl rfl rfl sh_44 rfl ?_
  refine re_len rfl rfl rfl rfl rfl ul_44 ?_
  refine re_bin rfl rfl rfl rfl rfl rfl rfl ?_
  simp only [eq_self, decide_true, Bool.not_true, Bool.and_self, Bool.and_true]
  refine re_pickF rfl rfl rfl rfl rfl rfl ?_
  refine re_nil ?_
  refine qe_thenC ?_
  refine ce_condF rfl ?_
  refine ce_skip ?_
  refine qe_thenC ?_
  refine ce_seq ?_
  refine ce_seq ?_
  refine ce_text (tab := []) (soft := 1) (.op 0 .nil) rfl rfl ?_
  refine re_assign rfl rfl rfl rfl rfl ?_
  refine re_nil ?_
  refine qe_thenC ?_
  refine ce_block ?_
  refine ce_loop (α := Nat) (fun k => [(2, .pointer (some ⟨g2, 0, none⟩)), (3, .pointer (some ⟨g3, 0, none⟩)), (5, .int .i64 0)]) (fun k w => Own B (.cells g3 46 (m.lent b1 b2 b3 b4 d1 d2 d3 d4).cells :: .cells g2 46 (m.lent a1 a2 a3 a4 c1 c2 c3 c4).cells :: F) w ∧ True) (fun k => 0) 0 (And.intro rfl (And.intro rfl (And.intro rfl trivial))) ⟨H, trivial⟩ ?_
  rintro k w HW
  obtain ⟨H, _⟩ := HW
  change CE _ _ _ _ _ [(2, .pointer (some ⟨g2, 0, none⟩)), (3, .pointer (some ⟨g3, 0, none⟩)), (5, .int .i64 0)] _
  simp only [GM.lent, GM.cells, Sl.v, Cmd.cells, List.cons_append, List.nil_append] at H
  refine ce_seq ?_
  refine ce_seq ?_
  refine ce_text (tab := []) (soft := 31) (.op 0 (.op 1 (.op 2 (.op 3 (.op 4 .nil))))) rfl rfl ?_
  refine re_move rfl rfl rfl rfl rfl ?_
  first | refine re_field0 rfl rfl rfl rfl rfl fo_46_11 ?_ | refine re_field rfl rfl rfl rfl rfl fo_46_11 ?_ | refine re_fieldA rfl rfl rfl rfl rfl fo_46_11 ?_
  refine re_load H rfl rfl rfl rfl rfl sh_44 rfl ?_
  refine re_len rfl rfl rfl rfl rfl ul_44 ?_
  refine re_bin rfl rfl rfl rfl rfl rfl rfl ?_
  refine re_nil ?_
  refine qe_thenC ?_
  refine ce_cond rfl (fun h2 => ?_) (fun h2 => ?_)
  · try simp only [zn1, zn2, zn3, zn4, zn5, zn6] at h2
    exact absurd h2 (by omega)
  · try simp only [zn1, zn2, zn3, zn4, zn5, zn6] at h2
    refine ce_exit ?_
    refine qe_then_exit ?_
    refine qe_then_exit ?_
    refine qe_block_exit ?_
    refine qe_thenC ?_
    refine ce_seq ?_
    refine ce_text (tab := []) (soft := 1) (.op 0 .nil) rfl rfl ?_
    refine re_assign rfl rfl rfl rfl rfl ?_
    refine re_nil ?_
    refine qe_thenC ?_
    refine ce_ret ?_
    refine qe_end rfl rfl ?_
    exact ⟨rfl, H.tail.tail⟩

def GM.plain (m : GM) : Prop := m.lent none none none none 0 0 0 0 = m
theorem sameMsg_plain {B w : World} {F : List Ent} {m : GM} (hp : m.plain) (H : Own B F w) : Calls Try.prog 52 #[.agg m.cells.toArray, .agg m.cells.toArray] w fun e w' => e = .returned (.bool true) ∧ Own B F w' := by
  have := sameMsg0 (m := m) (a1 := none) (a2 := none) (a3 := none) (a4 := none) (b1 := none) (b2 := none) (b3 := none) (b4 := none) (c1 := 0) (c2 := 0) (c3 := 0) (c4 := 0) (d1 := 0) (d2 := 0) (d3 := 0) (d4 := 0) H
  rw [show m.lent none none none none 0 0 0 0 = m from hp] at this
  exact this

theorem sameMsgs_s {B w : World} {F : List Ent} {ra qa : Option Nat} {rc qc : Nat} {l : List GM} (H : Own B (.row ra rc 46 30 l.length (msgs l) :: .row qa qc 46 30 l.length (msgs l) :: F) w) (hp : ∀ m ∈ l, m.plain) (hn : l.length ≤ 1000000) :
    Calls Try.prog 23 #[slv ra l.length rc, slv qa l.length qc] w fun e w' => e = .returned (.bool true) ∧ Own B (.row ra rc 46 30 l.length (msgs l) :: .row qa qc 46 30 l.length (msgs l) :: F) w' := by
  refine calls_ce (args := [slv ra l.length rc, slv qa l.length qc]) Try.func23 rfl rfl ?_
  change CE _ _ 27 _ _ [(0, slv ra l.length rc), (1, slv qa l.length qc)] _
  refine ce_seq ?_
  refine ce_text (tab := []) (soft := 1) (.op 0 .nil) rfl rfl ?_
  refine re_assign rfl rfl rfl rfl rfl ?_
  refine re_nil ?_
  refine qe_thenC ?_
  refine ce_seq ?_
  refine ce_seq ?_
  refine ce_text (tab := []) (soft := 31) (.op 0 (.op 1 (.op 2 (.op 3 (.op 4 .nil))))) rfl rfl ?_
  refine re_move rfl rfl rfl rfl rfl ?_
  refine re_len rfl rfl rfl rfl rfl ul_62 ?_
  refine re_move rfl rfl rfl rfl rfl ?_
  refine re_len rfl rfl rfl rfl rfl ul_62 ?_
  refine re_bin rfl rfl rfl rfl rfl rfl rfl ?_
  refine re_nil ?_
  refine qe_thenC ?_
  refine ce_cond rfl (fun h0 => ?_) (fun h0 => ?_)
  · try simp only [zn1, zn2, zn3, zn4, zn5, zn6] at h0
    exact absurd h0 (by simp)
  · try simp only [zn1, zn2, zn3, zn4, zn5, zn6] at h0
    refine ce_skip ?_
    refine qe_thenC ?_
    refine ce_seq ?_
    refine ce_seq ?_
    refine ce_text (tab := []) (soft := 1) (.op 0 .nil) rfl rfl ?_
    refine re_assign rfl rfl rfl rfl rfl ?_
    refine re_nil ?_
    refine qe_thenC ?_
    refine ce_block ?_
    refine ce_loop (α := Nat) (fun k => [(0, slv ra l.length rc), (1, slv qa l.length qc), (5, .int .i64 (k : Int))]) (fun k w => Own B (.row ra rc 46 30 l.length (msgs l) :: .row qa qc 46 30 l.length (msgs l) :: F) w ∧ k ≤ l.length) (fun k => l.length - k) 0 (And.intro rfl (And.intro rfl (And.intro rfl trivial))) ⟨H, Nat.zero_le _⟩ ?_
    rintro k w HW
    obtain ⟨H, hk⟩ := HW
    change CE _ _ _ _ _ [(0, slv ra l.length rc), (1, slv qa l.length qc), (5, .int .i64 (k : Int))] _
    refine ce_seq ?_
    refine ce_seq ?_
    refine ce_text (tab := []) (soft := 15) (.op 0 (.op 1 (.op 2 (.op 3 .nil)))) rfl rfl ?_
    refine re_move rfl rfl rfl rfl rfl ?_
    refine re_move rfl rfl rfl rfl rfl ?_
    refine re_len rfl rfl rfl rfl rfl ul_62 ?_
    refine re_bin rfl rfl rfl rfl rfl rfl rfl ?_
    refine re_nil ?_
    refine qe_thenC ?_
    refine ce_cond rfl (fun h1 => ?_) (fun h1 => ?_)
    · try simp only [zn1, zn2, zn3, zn4, zn5, zn6] at h1
      refine ce_skip ?_
      refine qe_thenC ?_
      refine ce_seq ?_
      refine ce_block ?_
      refine ce_seq ?_
      refine ce_open (tab := [0, 0, 3, 7, 0, 0, 48, 112, 255, 511]) (soft := 767) mixed (.op 0 (.op 1 (.op 2 (.op 3 (.op 4 (.op 5 (.op 6 (.op 7 (.op 8 (.op 9 .nil)))))))))) (by kernel_rfl) H ?_
      intro w H
      have hlt : k < l.length := by omega
      obtain ⟨xa, rfl⟩ := H.rsome ra (by omega)
      obtain ⟨ya, rfl⟩ := H.rsome qa (by omega)
      refine re_move rfl rfl rfl rfl rfl ?_
      refine re_move rfl rfl rfl rfl rfl ?_
      refine re_index rfl rfl rfl rfl rfl rfl ul_62 ei_62 (by omega) (by omega) ?_
      refine re_loadW rfl rfl rfl rfl rfl (run_loadAt_agg (vs := (l[k]).cells) sh_46 (Own.rmsg (g := xa) H hlt)) ?_
      refine re_move rfl rfl rfl rfl rfl ?_
      refine re_move rfl rfl rfl rfl rfl ?_
      refine re_index rfl rfl rfl rfl rfl rfl ul_62 ei_62 (by omega) (by omega) ?_
      refine re_loadW rfl rfl rfl rfl rfl (run_loadAt_agg (vs := (l[k]).cells) sh_46 (Own.rmsg (g := ya) H hlt)) ?_
      refine re_call en_52 rfl rfl rfl rfl rfl ?_
      refine Calls.mono (sameMsg_plain (hp _ (List.getElem_mem hlt)) H) ?_
      rintro e w ⟨rfl, H⟩
      refine ⟨_, rfl, (fun _ => ⟨ancs (i := 8) (j := 7) rfl, ancs (i := 8) (j := 3) rfl, trivial⟩), ?_⟩
      refine re_not rfl rfl rfl rfl rfl ?_
      refine re_nil ?_
      refine qe_noPanic ?_
      refine qe_thenC ?_
      refine ce_condF rfl ?_
      refine ce_skip ?_
      refine qe_block_norm ?_
      refine qe_thenC ?_
      refine ce_text (tab := []) (soft := 7) (.op 0 (.op 1 (.op 2 .nil))) rfl rfl ?_
      refine re_move rfl rfl rfl rfl rfl ?_
      first | refine re_add rfl rfl rfl rfl rfl rfl (by omega) ?_ | refine re_bin rfl rfl rfl rfl rfl rfl rfl ?_
      refine re_assign rfl rfl rfl rfl rfl ?_
      refine re_nil ?_
      refine qe_round (x := k) (k + 1) ?_ ?_ ?_
      · first | (dsimp only; omega) | omega
      · exact (And.intro rfl (And.intro rfl (And.intro rfl trivial)))
      · exact ⟨H, by omega⟩
    · try simp only [zn1, zn2, zn3, zn4, zn5, zn6] at h1
      refine ce_exit ?_
      refine qe_then_exit ?_
      refine qe_then_exit ?_
      refine qe_block_exit ?_
      refine qe_thenC ?_
      refine ce_seq ?_
      refine ce_text (tab := []) (soft := 1) (.op 0 .nil) rfl rfl ?_
      refine re_assign rfl rfl rfl rfl rfl ?_
      refine re_nil ?_
      refine qe_thenC ?_
      refine ce_ret ?_
      refine qe_end rfl rfl ?_
      exact ⟨rfl, H⟩
end Go.Proofs.Ytofaoblfemfkiaa
