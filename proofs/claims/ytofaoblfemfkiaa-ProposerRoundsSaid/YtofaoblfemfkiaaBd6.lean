/- Parts of the proof: Z ZA ZB ZC ZD ZE ZF ZG ZH ZI ZJ ZK ZL ZM ZN ZO ZP ZQ ZR ZS ZT ZU ZV ZW ZX. -/
import Derived.Test.YtofaoblfemfkiaaBd5
set_option linter.unusedVariables false
set_option linter.unusedSimpArgs false
set_option linter.unnecessarySimpa false
namespace Go.Proofs.Ytofaoblfemfkiaa
open Go Go.RowKit Go.Fw
set_option linter.unusedSimpArgs false
set_option linter.unusedVariables false
set_option maxRecDepth 4000
set_option maxHeartbeats 2000000
theorem en_56 : Enterable Try.prog 56 := ⟨Try.f56, Try.func56, rfl, by decide⟩
theorem en_57 : Enterable Try.prog 57 := ⟨Try.f57, Try.func57, rfl, by decide⟩
theorem en_64 : Enterable Try.prog 64 := ⟨Try.f64, Try.func64, rfl, by decide⟩
theorem fk_102 : flatK Try.prog 9 102 = some [.s, .i, .i, .i] := by kernel_rfl
theorem fk_106 : flatK Try.prog 9 106 = some [.i, .i, .i, .i, .i, .i, .i] := by kernel_rfl
theorem ng_102 : notGuarded Try.prog 102 = true := by kernel_rfl
theorem ng_106 : notGuarded Try.prog 106 = true := by kernel_rfl

theorem lendMsg_s {B w : World} {F : List Ent} {m : GM} (H : Own B F w) :
    Calls Try.prog 28 #[.agg (m.lent none none none none 0 0 0 0).cells.toArray] w fun e w' => ∃ b1 b2 b3 b4, e = .returned (.agg (m.lent (some ⟨b1, 0, none⟩) (some ⟨b2, 0, none⟩) (some ⟨b3, 0, none⟩) (some ⟨b4, 0, none⟩) 67 67 67 67).cells.toArray) ∧ Own B (.cells b1 5 ((marks 67 67).map byteC) :: .cells b2 102 ((marks 67 67).flatMap entC) :: .cells b3 106 ((marks 67 67).flatMap lastC) :: .cells b4 28 ((marks 67 67).flatMap cmdM) :: F) w' := by
  refine calls_ce (args := [.agg (m.lent none none none none 0 0 0 0).cells.toArray]) Try.func28 rfl rfl ?_
  change CE _ _ 46 _ _ [(0, .agg (m.lent none none none none 0 0 0 0).cells.toArray)] _
  refine ce_seq ?_
  refine ce_text (tab := []) (soft := 0) (.op 0 (.op 1 .nil)) rfl rfl ?_
  refine re_box H rfl rfl rfl rfl rfl rfl ?_
  intro g1 w H
  refine ⟨(fun h => (nomatch h)), ?_⟩
  refine re_alloc H rfl rfl rfl rfl ze_46 ?_
  intro g2 w H
  refine ⟨(fun h => (nomatch h)), ?_⟩
  refine re_nil ?_
  refine qe_thenC ?_
  refine ce_seq ?_
  refine ce_text (tab := []) (soft := 1) (.op 0 (.op 1 (.op 2 .nil))) rfl rfl ?_
  simp only [GM.lent, GM.cells, Sl.v, Cmd.cells, List.cons_append, List.nil_append] at H
  refine re_load H rfl rfl rfl rfl rfl sh_46 (by first | exact rdAt_all rfl | (simp only [rdAt, PS.cells, PS.over, GM.cells, Cmd.cells, List.cons_append, List.nil_append, RS.cellsV, RS.ch, stC, RS.decide, RS.accepted, RS.phase, GM.lent, List.drop_succ_cons, List.drop_zero, List.take_succ_cons, List.take_zero, List.length_cons, List.length_nil, Nat.zero_add, Nat.reduceAdd, Nat.reduceLeDiff, Nat.le_refl, ↓reduceIte] <;> rfl)) ?_
  refine re_alloc H rfl rfl rfl rfl ze_46 ?_
  intro g3 w H
  refine ⟨(fun h => (nomatch h)), ?_⟩
  refine re_store H rfl rfl rfl rfl rfl rfl sh_46 rfl rfl rfl ?_
  intro cs w hcs H
  first | rw [setMany_whole rfl] at hcs | simp only [setMany, List.set_cons_zero, List.set_cons_succ, Nat.reduceAdd, Nat.zero_add, PS.cells, PS.over, GM.cells, Cmd.cells, List.cons_append, List.nil_append, RS.cellsV, RS.ch, stC, RS.decide, RS.accepted, RS.phase, GM.lent] at hcs
  subst hcs
  refine ⟨(fun h => (nomatch h)), ?_⟩
  refine re_nil ?_
  refine qe_thenC ?_
  refine ce_seq ?_
  refine ce_text (tab := []) (soft := 11) (.op 0 (.op 1 (.op 2 (.op 3 (.op 4 .nil))))) rfl rfl ?_
  first | refine re_field0 rfl rfl rfl rfl rfl fo_46_8 ?_ | refine re_field rfl rfl rfl rfl rfl fo_46_8 ?_ | refine re_fieldA rfl rfl rfl rfl rfl fo_46_8 ?_
  refine re_load H rfl rfl rfl rfl rfl sh_39 rfl ?_
  refine re_call en_56 rfl rfl rfl rfl rfl ?_
  refine Calls.mono (lendBytes_s H) ?_
  rintro e w ⟨b1, rfl, H⟩
  refine ⟨_, rfl, (fun h => (nomatch h)), ?_⟩
  first | refine re_field0 rfl rfl rfl rfl rfl fo_46_8 ?_ | refine re_field rfl rfl rfl rfl rfl fo_46_8 ?_ | refine re_fieldA rfl rfl rfl rfl rfl fo_46_8 ?_
  refine re_store H rfl rfl rfl rfl rfl rfl sh_39 rfl rfl rfl ?_
  intro cs w hcs H
  first | rw [setMany_whole rfl] at hcs | simp only [setMany, List.set_cons_zero, List.set_cons_succ, Nat.reduceAdd, Nat.zero_add, PS.cells, PS.over, GM.cells, Cmd.cells, List.cons_append, List.nil_append, RS.cellsV, RS.ch, stC, RS.decide, RS.accepted, RS.phase, GM.lent] at hcs
  subst hcs
  refine ⟨(fun h => (nomatch h)), ?_⟩
  refine re_nil ?_
  refine qe_thenC ?_
  refine ce_seq ?_
  refine ce_text (tab := []) (soft := 11) (.op 0 (.op 1 (.op 2 (.op 3 (.op 4 .nil))))) rfl rfl ?_
  first | refine re_field0 rfl rfl rfl rfl rfl fo_46_10 ?_ | refine re_field rfl rfl rfl rfl rfl fo_46_10 ?_ | refine re_fieldA rfl rfl rfl rfl rfl fo_46_10 ?_
  refine re_load H rfl rfl rfl rfl rfl sh_43 (by first | exact rdAt_all rfl | (simp only [rdAt, PS.cells, PS.over, GM.cells, Cmd.cells, List.cons_append, List.nil_append, RS.cellsV, RS.ch, stC, RS.decide, RS.accepted, RS.phase, GM.lent, List.drop_succ_cons, List.drop_zero, List.take_succ_cons, List.take_zero, List.length_cons, List.length_nil, Nat.zero_add, Nat.reduceAdd, Nat.reduceLeDiff, Nat.le_refl, ↓reduceIte] <;> rfl)) ?_
  refine re_call en_57 rfl rfl rfl rfl rfl ?_
  refine Calls.mono (lendBucket_s H) ?_
  rintro e w ⟨b2, b3, rfl, H⟩
  refine ⟨_, rfl, (fun h => (nomatch h)), ?_⟩
  first | refine re_field0 rfl rfl rfl rfl rfl fo_46_10 ?_ | refine re_field rfl rfl rfl rfl rfl fo_46_10 ?_ | refine re_fieldA rfl rfl rfl rfl rfl fo_46_10 ?_
  refine re_store H rfl rfl rfl rfl rfl rfl sh_43 rfl rfl rfl ?_
  intro cs w hcs H
  first | rw [setMany_whole rfl] at hcs | simp only [setMany, List.set_cons_zero, List.set_cons_succ, Nat.reduceAdd, Nat.zero_add, PS.cells, PS.over, GM.cells, Cmd.cells, List.cons_append, List.nil_append, RS.cellsV, RS.ch, stC, RS.decide, RS.accepted, RS.phase, GM.lent] at hcs
  subst hcs
  refine ⟨(fun h => (nomatch h)), ?_⟩
  refine re_nil ?_
  refine qe_thenC ?_
  refine ce_seq ?_
  refine ce_text (tab := []) (soft := 47) (.op 0 (.op 1 (.op 2 (.op 3 (.op 4 (.op 5 .nil)))))) rfl rfl ?_
  first | refine re_field0 rfl rfl rfl rfl rfl fo_46_11 ?_ | refine re_field rfl rfl rfl rfl rfl fo_46_11 ?_ | refine re_fieldA rfl rfl rfl rfl rfl fo_46_11 ?_
  refine re_load H rfl rfl rfl rfl rfl sh_44 rfl ?_
  refine re_len rfl rfl rfl rfl rfl ul_44 ?_
  first | refine re_add rfl rfl rfl rfl rfl rfl (by omega) ?_ | refine re_bin rfl rfl rfl rfl rfl rfl rfl ?_
  refine re_makeSliceC H rfl rfl rfl rfl rfl rfl ul_44 ei_44 ze_28 rfl (by decide) (by first | omega | decide) (by first | (simp only [maxLen]; omega) | decide) ?_
  intro g19 w H
  refine ⟨(fun h => (nomatch h)), ?_⟩
  refine re_assign rfl rfl rfl rfl rfl ?_
  refine re_nil ?_
  refine qe_thenC ?_
  refine ce_seq ?_
  refine ce_text (tab := []) (soft := 7) (.op 0 (.op 1 (.op 2 (.op 3 .nil)))) rfl rfl ?_
  refine re_move rfl rfl rfl rfl rfl ?_
  first | refine re_field0 rfl rfl rfl rfl rfl fo_46_11 ?_ | refine re_field rfl rfl rfl rfl rfl fo_46_11 ?_ | refine re_fieldA rfl rfl rfl rfl rfl fo_46_11 ?_
  refine re_load H rfl rfl rfl rfl rfl sh_44 rfl ?_
  refine re_copyNil rfl rfl rfl rfl rfl rfl ul_44 ei_44 ?_
  refine ⟨(fun h => (nomatch h)), ?_⟩
  refine re_nil ?_
  refine qe_thenC ?_
  refine ce_seq ?_
  refine ce_seq ?_
  refine ce_text (tab := []) (soft := 15) (.op 0 (.op 1 (.op 2 (.op 3 .nil)))) rfl rfl ?_
  first | refine re_field0 rfl rfl rfl rfl rfl fo_46_11 ?_ | refine re_field rfl rfl rfl rfl rfl fo_46_11 ?_ | refine re_fieldA rfl rfl rfl rfl rfl fo_46_11 ?_
  refine re_load H rfl rfl rfl rfl rfl sh_44 rfl ?_
  refine re_len rfl rfl rfl rfl rfl ul_44 ?_
  refine re_assign rfl rfl rfl rfl rfl ?_
  refine re_nil ?_
  refine qe_thenC ?_
  refine ce_block ?_
  rw [show (List.replicate 67 [.int .i64 0, .int .i64 0, .int .i64 0, .string ByteArray.empty, .int .i64 0, .int .i64 0, .int .i64 0, .int .i64 0, .int .i64 0]).flatten = (marks 67 0).flatMap cmdM from rfl] at H
  refine ce_loop (α := Nat) (fun k => [(1, .pointer (some ⟨g1, 0, none⟩)), (2, .pointer (some ⟨g2, 0, none⟩)), (3, .pointer (some ⟨g3, 0, none⟩)), (4, slv (some g19) 67 67), (5, .int .i64 (k : Int))]) (fun k w => Own B (.cells g19 28 ((marks 67 k).flatMap cmdM) :: .cells b2 102 ((marks 67 67).flatMap entC) :: .cells b3 106 ((marks 67 67).flatMap lastC) :: .cells b1 5 ((marks 67 67).map byteC) :: .cells g3 46 (m.lent (some ⟨b1, 0, none⟩) (some ⟨b2, 0, none⟩) (some ⟨b3, 0, none⟩) none 67 67 67 0).cells :: .cells g2 46 GM.zero.cells :: .cells g1 46 (m.lent none none none none 0 0 0 0).cells :: F) w ∧ k ≤ 67) (fun k => 67 - k) 0 (And.intro rfl (And.intro rfl (And.intro rfl (And.intro rfl (And.intro rfl trivial))))) ⟨H, Nat.zero_le _⟩ ?_
  rintro k w HW
  obtain ⟨H, hk⟩ := HW
  change CE _ _ _ _ _ [(1, .pointer (some ⟨g1, 0, none⟩)), (2, .pointer (some ⟨g2, 0, none⟩)), (3, .pointer (some ⟨g3, 0, none⟩)), (4, slv (some g19) 67 67), (5, .int .i64 (k : Int))] _
  refine ce_seq ?_
  refine ce_seq ?_
  refine ce_text (tab := []) (soft := 15) (.op 0 (.op 1 (.op 2 (.op 3 .nil)))) rfl rfl ?_
  refine re_move rfl rfl rfl rfl rfl ?_
  refine re_move rfl rfl rfl rfl rfl ?_
  refine re_len rfl rfl rfl rfl rfl ul_44 ?_
  refine re_bin rfl rfl rfl rfl rfl rfl rfl ?_
  refine re_nil ?_
  refine qe_thenC ?_
  refine ce_cond rfl (fun h0 => ?_) (fun h0 => ?_)
  · try simp only [zn1, zn2, zn3, zn4, zn5, zn6] at h0
    refine ce_skip ?_
    refine qe_thenC ?_
    refine ce_seq ?_
    refine ce_block ?_
    refine ce_text (tab := []) (soft := 63) (.op 0 (.op 1 (.op 2 (.op 3 (.op 4 (.op 5 (.op 6 .nil))))))) rfl rfl ?_
    have hlt : k < 67 := by omega
    have hml := marks_len (n := 67) (k := k) (by omega)
    refine re_move rfl rfl rfl rfl rfl ?_
    refine re_move rfl rfl rfl rfl rfl ?_
    refine re_move rfl rfl rfl rfl rfl ?_
    first | refine re_subI rfl rfl rfl rfl rfl rfl (by omega) ?_ | refine re_bin rfl rfl rfl rfl rfl rfl rfl ?_
    refine re_build rfl rfl rfl rfl rfl ze_28 pl_28 (by simp only [fillL, setMany, Value.cells, List.getElem?_cons_zero, List.getElem?_cons_succ, List.length_cons, List.length_nil, List.set_cons_zero, List.set_cons_succ, Nat.reduceAdd, Nat.reduceLeDiff, Nat.zero_add, and_self, ↓reduceIte]; rfl) ?_
    refine re_indexL rfl rfl rfl rfl rfl rfl ul_44 ei_44 (by omega) (by omega) ?_
    refine re_store H rfl rfl rfl rfl rfl rfl sh_28 rfl (Nat.ble_eq_true_of_le (by rw [flatMap_len cmdM 9 cmdM_len]; simp [hml]; omega)) rfl ?_
    intro cs w hcs H
    replace hcs := ((set_flat cmdM 9 cmdM_len (some (k : Int)) (marks 67 k) k (by omega)).trans (by rw [marks_set hlt])).symm.trans hcs
    subst hcs
    refine ⟨(fun h => (nomatch h)), ?_⟩
    refine re_nil ?_
    refine qe_block_norm ?_
    refine qe_thenC ?_
    refine ce_text (tab := []) (soft := 7) (.op 0 (.op 1 (.op 2 .nil))) rfl rfl ?_
    refine re_move rfl rfl rfl rfl rfl ?_
    first | refine re_add rfl rfl rfl rfl rfl rfl (by omega) ?_ | refine re_bin rfl rfl rfl rfl rfl rfl rfl ?_
    refine re_assign rfl rfl rfl rfl rfl ?_
    refine re_nil ?_
    refine qe_round (x := k) (k + 1) ?_ ?_ ?_
    · first | (dsimp only; omega) | omega
    · exact (And.intro rfl (And.intro rfl (And.intro rfl (And.intro rfl (And.intro rfl trivial)))))
    · exact ⟨H, by omega⟩
  · try simp only [zn1, zn2, zn3, zn4, zn5, zn6] at h0
    refine ce_exit ?_
    refine qe_then_exit ?_
    refine qe_then_exit ?_
    refine qe_block_exit ?_
    refine qe_thenC ?_
    refine ce_seq ?_
    refine ce_text (tab := []) (soft := 63) (.op 0 (.op 1 (.op 2 (.op 3 (.op 4 (.op 5 (.op 6 .nil))))))) rfl rfl ?_
    obtain rfl : k = 67 := by omega
    simp only [GM.lent, GM.cells, Sl.v, Cmd.cells, List.cons_append, List.nil_append] at H
    refine re_move rfl rfl rfl rfl rfl ?_
    first | refine re_field0 rfl rfl rfl rfl rfl fo_46_11 ?_ | refine re_field rfl rfl rfl rfl rfl fo_46_11 ?_ | refine re_fieldA rfl rfl rfl rfl rfl fo_46_11 ?_
    refine re_load H rfl rfl rfl rfl rfl sh_44 rfl ?_
    refine re_len rfl rfl rfl rfl rfl ul_44 ?_
    refine re_sliceH rfl rfl rfl rfl rfl rfl ul_44 ei_44 (by omega) (by omega) ?_
    first | refine re_field0 rfl rfl rfl rfl rfl fo_46_11 ?_ | refine re_field rfl rfl rfl rfl rfl fo_46_11 ?_ | refine re_fieldA rfl rfl rfl rfl rfl fo_46_11 ?_
    refine re_store H rfl rfl rfl rfl rfl rfl sh_44 rfl rfl rfl ?_
    intro cs w hcs H
    first | rw [setMany_whole rfl] at hcs | simp only [setMany, List.set_cons_zero, List.set_cons_succ, Nat.reduceAdd, Nat.zero_add, PS.cells, PS.over, GM.cells, Cmd.cells, List.cons_append, List.nil_append, RS.cellsV, RS.ch, stC, RS.decide, RS.accepted, RS.phase, GM.lent] at hcs
    subst hcs
    refine ⟨(fun h => (nomatch h)), ?_⟩
    refine re_nil ?_
    refine qe_thenC ?_
    refine ce_seq ?_
    refine ce_text (tab := []) (soft := 1) (.op 0 (.op 1 .nil)) rfl rfl ?_
    refine re_load H rfl rfl rfl rfl rfl sh_46 (by first | exact rdAt_all rfl | (simp only [rdAt, PS.cells, PS.over, GM.cells, Cmd.cells, List.cons_append, List.nil_append, RS.cellsV, RS.ch, stC, RS.decide, RS.accepted, RS.phase, GM.lent, List.drop_succ_cons, List.drop_zero, List.take_succ_cons, List.take_zero, List.length_cons, List.length_nil, Nat.zero_add, Nat.reduceAdd, Nat.reduceLeDiff, Nat.le_refl, ↓reduceIte] <;> rfl)) ?_
    refine re_store H rfl rfl rfl rfl rfl rfl sh_46 rfl rfl rfl ?_
    intro cs w hcs H
    first | rw [setMany_whole rfl] at hcs | simp only [setMany, List.set_cons_zero, List.set_cons_succ, Nat.reduceAdd, Nat.zero_add, PS.cells, PS.over, GM.cells, Cmd.cells, List.cons_append, List.nil_append, RS.cellsV, RS.ch, stC, RS.decide, RS.accepted, RS.phase, GM.lent] at hcs
    subst hcs
    refine ⟨(fun h => (nomatch h)), ?_⟩
    refine re_nil ?_
    refine qe_thenC ?_
    refine ce_ret ?_
    refine qe_endCell H rfl rfl sh_46 (by first | exact rdAt_all rfl | (simp only [rdAt, PS.cells, PS.over, GM.cells, Cmd.cells, List.cons_append, List.nil_append, RS.cellsV, RS.ch, stC, RS.decide, RS.accepted, RS.phase, GM.lent, List.drop_succ_cons, List.drop_zero, List.take_succ_cons, List.take_zero, List.length_cons, List.length_nil, Nat.zero_add, Nat.reduceAdd, Nat.reduceLeDiff, Nat.le_refl, ↓reduceIte] <;> rfl)) ?_
    have H := Own.arr [0, 2, 2, 3] H
    simp only [arrs, Fw.front, zm1, zm2, zm3, zm4, zm5] at H
    replace H := H.sub (.cons_cons _ (.cons_cons _ (.cons_cons _ (.cons_cons _ (.cons _ (.cons _ (.cons _ (List.Sublist.refl _))))))))
    exact ⟨b1, b2, b3, g19, rfl, H⟩

theorem spoilBucket0 {B w : World} {F : List Ent} {u : Int} {a1 a2 : Option Addr} {c1 c2 : Nat} (H : Own B F w) :
    Calls Try.prog 64 #[.agg #[.int .i64 u, .slice a1 0 c1, .slice a2 0 c2]] w fun e w' => e = .returned (.tuple #[]) ∧ Own B F w' := by
  refine calls_ce (args := [.agg #[.int .i64 u, .slice a1 0 c1, .slice a2 0 c2]]) Try.func64 rfl rfl ?_
  change CE _ _ 28 _ _ [(0, .agg #[.int .i64 u, .slice a1 0 c1, .slice a2 0 c2])] _
  refine ce_seq ?_
  refine ce_text (tab := []) (soft := 0) (.op 0 .nil) rfl rfl ?_
  refine re_box H rfl rfl rfl rfl rfl rfl ?_
  intro g1 w H
  refine ⟨(fun h => (nomatch h)), ?_⟩
  refine re_nil ?_
  refine qe_thenC ?_
  refine ce_seq ?_
  refine ce_seq ?_
  refine ce_text (tab := []) (soft := 1) (.op 0 .nil) rfl rfl ?_
  refine re_assign rfl rfl rfl rfl rfl ?_
  refine re_nil ?_
  refine qe_thenC ?_
  refine ce_block ?_
  refine ce_loop (α := Nat) (fun k => [(1, .pointer (some ⟨g1, 0, none⟩)), (2, .int .i64 0)]) (fun k w => Own B (.cells g1 43 [.int .i64 u, .slice a1 0 c1, .slice a2 0 c2] :: F) w ∧ True) (fun k => 0) 0 (And.intro rfl (And.intro rfl trivial)) ⟨H, trivial⟩ ?_
  rintro k w HW
  obtain ⟨H, _⟩ := HW
  change CE _ _ _ _ _ [(1, .pointer (some ⟨g1, 0, none⟩)), (2, .int .i64 0)] _
  refine ce_seq ?_
  refine ce_seq ?_
  refine ce_text (tab := []) (soft := 31) (.op 0 (.op 1 (.op 2 (.op 3 (.op 4 .nil))))) rfl rfl ?_
  refine re_move rfl rfl rfl rfl rfl ?_
  first | refine re_field0 rfl rfl rfl rfl rfl fo_43_1 ?_ | refine re_field rfl rfl rfl rfl rfl fo_43_1 ?_ | refine re_fieldA rfl rfl rfl rfl rfl fo_43_1 ?_
  refine re_load H rfl rfl rfl rfl rfl sh_40 rfl ?_
  refine re_len rfl rfl rfl rfl rfl ul_40 ?_
  refine re_bin rfl rfl rfl rfl rfl rfl rfl ?_
  refine re_nil ?_
  refine qe_thenC ?_
  refine ce_cond rfl (fun h0 => ?_) (fun h0 => ?_)
  · try simp only [zn1, zn2, zn3, zn4, zn5, zn6] at h0
    exact absurd h0 (by omega)
  · try simp only [zn1, zn2, zn3, zn4, zn5, zn6] at h0
    refine ce_exit ?_
    refine qe_then_exit ?_
    refine qe_then_exit ?_
    refine qe_block_exit ?_
    refine qe_thenC ?_
    refine ce_seq ?_
    refine ce_text (tab := []) (soft := 1) (.op 0 .nil) rfl rfl ?_
    refine re_assign rfl rfl rfl rfl rfl ?_
    refine re_nil ?_
    refine qe_thenC ?_
    refine ce_block ?_
    refine ce_loop (α := Nat) (fun k => [(1, .pointer (some ⟨g1, 0, none⟩)), (3, .int .i64 0)]) (fun k w => Own B (.cells g1 43 [.int .i64 u, .slice a1 0 c1, .slice a2 0 c2] :: F) w ∧ True) (fun k => 0) 0 (And.intro rfl (And.intro rfl trivial)) ⟨H, trivial⟩ ?_
    rintro k w HW
    obtain ⟨H, _⟩ := HW
    change CE _ _ _ _ _ [(1, .pointer (some ⟨g1, 0, none⟩)), (3, .int .i64 0)] _
    refine ce_seq ?_
    refine ce_seq ?_
    refine ce_text (tab := []) (soft := 31) (.op 0 (.op 1 (.op 2 (.op 3 (.op 4 .nil))))) rfl rfl ?_
    refine re_move rfl rfl rfl rfl rfl ?_
    first | refine re_field0 rfl rfl rfl rfl rfl fo_43_2 ?_ | refine re_field rfl rfl rfl rfl rfl fo_43_2 ?_ | refine re_fieldA rfl rfl rfl rfl rfl fo_43_2 ?_
    refine re_load H rfl rfl rfl rfl rfl sh_41 rfl ?_
    refine re_len rfl rfl rfl rfl rfl ul_41 ?_
    refine re_bin rfl rfl rfl rfl rfl rfl rfl ?_
    refine re_nil ?_
    refine qe_thenC ?_
    refine ce_cond rfl (fun h1 => ?_) (fun h1 => ?_)
    · try simp only [zn1, zn2, zn3, zn4, zn5, zn6] at h1
      exact absurd h1 (by omega)
    · try simp only [zn1, zn2, zn3, zn4, zn5, zn6] at h1
      refine ce_exit ?_
      refine qe_then_exit ?_
      refine qe_then_exit ?_
      refine qe_block_exit ?_
      refine qe_end0 rfl ?_
      exact ⟨rfl, H.tail⟩

theorem spoil0 {B w : World} {F : List Ent} {m : GM} {a1 a2 a3 a4 : Option Addr} {c1 c2 c3 c4 : Nat} (H : Own B F w) :
    Calls Try.prog 31 #[.agg (m.lent a1 a2 a3 a4 c1 c2 c3 c4).cells.toArray] w fun e w' => e = .returned (.tuple #[]) ∧ Own B F w' := by
  refine calls_ce (args := [.agg (m.lent a1 a2 a3 a4 c1 c2 c3 c4).cells.toArray]) Try.func31 rfl rfl ?_
  change CE _ _ 36 _ _ [(0, .agg (m.lent a1 a2 a3 a4 c1 c2 c3 c4).cells.toArray)] _
  refine ce_seq ?_
  refine ce_text (tab := []) (soft := 0) (.op 0 .nil) rfl rfl ?_
  refine re_box H rfl rfl rfl rfl rfl rfl ?_
  intro g1 w H
  refine ⟨(fun h => (nomatch h)), ?_⟩
  refine re_nil ?_
  refine qe_thenC ?_
  refine ce_seq ?_
  refine ce_seq ?_
  refine ce_text (tab := []) (soft := 1) (.op 0 .nil) rfl rfl ?_
  refine re_assign rfl rfl rfl rfl rfl ?_
  refine re_nil ?_
  refine qe_thenC ?_
  refine ce_block ?_
  refine ce_loop (α := Nat) (fun k => [(1, .pointer (some ⟨g1, 0, none⟩)), (2, .int .i64 0)]) (fun k w => Own B (.cells g1 46 (m.lent a1 a2 a3 a4 c1 c2 c3 c4).cells :: F) w ∧ True) (fun k => 0) 0 (And.intro rfl (And.intro rfl trivial)) ⟨H, trivial⟩ ?_
  rintro k w HW
  obtain ⟨H, _⟩ := HW
  change CE _ _ _ _ _ [(1, .pointer (some ⟨g1, 0, none⟩)), (2, .int .i64 0)] _
  simp only [GM.lent, GM.cells, Sl.v, Cmd.cells, List.cons_append, List.nil_append] at H
  refine ce_seq ?_
  refine ce_seq ?_
  refine ce_text (tab := []) (soft := 31) (.op 0 (.op 1 (.op 2 (.op 3 (.op 4 .nil))))) rfl rfl ?_
  refine re_move rfl rfl rfl rfl rfl ?_
  first | refine re_field0 rfl rfl rfl rfl rfl fo_46_8 ?_ | refine re_field rfl rfl rfl rfl rfl fo_46_8 ?_ | refine re_fieldA rfl rfl rfl rfl rfl fo_46_8 ?_
  refine re_load H rfl rfl rfl rfl rfl sh_39 rfl ?_
  refine re_len rfl rfl rfl rfl rfl ul_39 ?_
  refine re_bin rfl rfl rfl rfl rfl rfl rfl ?_
  refine re_nil ?_
  refine qe_thenC ?_
  refine ce_cond rfl (fun h0 => ?_) (fun h0 => ?_)
  · try simp only [zn1, zn2, zn3, zn4, zn5, zn6] at h0
    exact absurd h0 (by omega)
  · try simp only [zn1, zn2, zn3, zn4, zn5, zn6] at h0
    refine ce_exit ?_
    refine qe_then_exit ?_
    refine qe_then_exit ?_
    refine qe_block_exit ?_
    refine qe_thenC ?_
    refine ce_seq ?_
    refine ce_seq ?_
    refine ce_text (tab := []) (soft := 1) (.op 0 .nil) rfl rfl ?_
    refine re_assign rfl rfl rfl rfl rfl ?_
    refine re_nil ?_
    refine qe_thenC ?_
    refine ce_block ?_
    refine ce_loop (α := Nat) (fun k => [(1, .pointer (some ⟨g1, 0, none⟩)), (3, .int .i64 0)]) (fun k w => Own B (.cells g1 46 (m.lent a1 a2 a3 a4 c1 c2 c3 c4).cells :: F) w ∧ True) (fun k => 0) 0 (And.intro rfl (And.intro rfl trivial)) ⟨H, trivial⟩ ?_
    rintro k w HW
    obtain ⟨H, _⟩ := HW
    change CE _ _ _ _ _ [(1, .pointer (some ⟨g1, 0, none⟩)), (3, .int .i64 0)] _
    simp only [GM.lent, GM.cells, Sl.v, Cmd.cells, List.cons_append, List.nil_append] at H
    refine ce_seq ?_
    refine ce_seq ?_
    refine ce_text (tab := []) (soft := 31) (.op 0 (.op 1 (.op 2 (.op 3 (.op 4 .nil))))) rfl rfl ?_
    refine re_move rfl rfl rfl rfl rfl ?_
    first | refine re_field0 rfl rfl rfl rfl rfl fo_46_11 ?_ | refine re_field rfl rfl rfl rfl rfl fo_46_11 ?_ | refine re_fieldA rfl rfl rfl rfl rfl fo_46_11 ?_
    refine re_load H rfl rfl rfl rfl rfl sh_44 rfl ?_
    refine re_len rfl rfl rfl rfl rfl ul_44 ?_
    refine re_bin rfl rfl rfl rfl rfl rfl rfl ?_
    refine re_nil ?_
    refine qe_thenC ?_
    refine ce_cond rfl (fun h1 => ?_) (fun h1 => ?_)
    · try simp only [zn1, zn2, zn3, zn4, zn5, zn6] at h1
      exact absurd h1 (by omega)
    · try simp only [zn1, zn2, zn3, zn4, zn5, zn6] at h1
      refine ce_exit ?_
      refine qe_then_exit ?_
      refine qe_then_exit ?_
      refine qe_block_exit ?_
      refine qe_thenC ?_
      refine ce_text (tab := []) (soft := 3) (.op 0 (.op 1 (.op 2 .nil))) rfl rfl ?_
      first | refine re_field0 rfl rfl rfl rfl rfl fo_46_10 ?_ | refine re_field rfl rfl rfl rfl rfl fo_46_10 ?_ | refine re_fieldA rfl rfl rfl rfl rfl fo_46_10 ?_
      refine re_load H rfl rfl rfl rfl rfl sh_43 (by first | exact rdAt_all rfl | (simp only [rdAt, PS.cells, PS.over, GM.cells, Cmd.cells, List.cons_append, List.nil_append, RS.cellsV, RS.ch, stC, RS.decide, RS.accepted, RS.phase, GM.lent, List.drop_succ_cons, List.drop_zero, List.take_succ_cons, List.take_zero, List.length_cons, List.length_nil, Nat.zero_add, Nat.reduceAdd, Nat.reduceLeDiff, Nat.le_refl, ↓reduceIte] <;> rfl)) ?_
      refine re_call en_64 rfl rfl rfl rfl rfl ?_
      refine Calls.mono (spoilBucket0 H) ?_
      rintro e w ⟨rfl, H⟩
      refine ⟨_, rfl, (fun h => (nomatch h)), ?_⟩
      refine re_nil ?_
      refine qe_end0 rfl ?_
      exact ⟨rfl, H.tail⟩

theorem backBucket_s {B w : World} {F : List Ent} {u : Int} {b1 b2 : Nat} (H : Own B (.cells b1 102 ((marks 67 67).flatMap entC) :: .cells b2 106 ((marks 67 67).flatMap lastC) :: F) w) :
    Calls Try.prog 63 #[(.agg #[.int .i64 u, .slice (some ⟨b1, 0, none⟩) 0 67, .slice (some ⟨b2, 0, none⟩) 0 67]), (.agg #[.int .i64 u, .slice none 0 0, .slice none 0 0])] w fun e w' => e = .returned (.bool true) ∧ Own B (.cells b1 102 ((marks 67 67).flatMap entC) :: .cells b2 106 ((marks 67 67).flatMap lastC) :: F) w' := by
  refine calls_ce (args := [(.agg #[.int .i64 u, .slice (some ⟨b1, 0, none⟩) 0 67, .slice (some ⟨b2, 0, none⟩) 0 67]), (.agg #[.int .i64 u, .slice none 0 0, .slice none 0 0])]) Try.func63 rfl rfl ?_
  change CE _ _ 61 _ _ [(0, (.agg #[.int .i64 u, .slice (some ⟨b1, 0, none⟩) 0 67, .slice (some ⟨b2, 0, none⟩) 0 67])), (1, (.agg #[.int .i64 u, .slice none 0 0, .slice none 0 0]))] _
  refine ce_seq ?_
  refine ce_text (tab := []) (soft := 4) (.op 0 (.op 1 (.op 2 .nil))) rfl rfl ?_
  refine re_box H rfl rfl rfl rfl rfl rfl ?_
  intro g2 w H
  refine ⟨(fun h => (nomatch h)), ?_⟩
  refine re_box H rfl rfl rfl rfl rfl rfl ?_
  intro g3 w H
  refine ⟨(fun h => (nomatch h)), ?_⟩
  refine re_assign rfl rfl rfl rfl rfl ?_
  refine re_nil ?_
  refine qe_thenC ?_
  refine ce_seq ?_
  refine ce_seq ?_
  refine ce_text (tab := []) (soft := 11) (.op 0 (.op 1 (.op 2 (.op 3 .nil)))) rfl rfl ?_
  refine re_load H rfl rfl rfl rfl rfl sh_43 (by first | exact rdAt_all rfl | (simp only [rdAt, PS.cells, PS.over, GM.cells, Cmd.cells, List.cons_append, List.nil_append, RS.cellsV, RS.ch, stC, RS.decide, RS.accepted, RS.phase, GM.lent, List.drop_succ_cons, List.drop_zero, List.take_succ_cons, List.take_zero, List.length_cons, List.length_nil, Nat.zero_add, Nat.reduceAdd, Nat.reduceLeDiff, Nat.le_refl, ↓reduceIte] <;> rfl)) ?_
  refine re_load H rfl rfl rfl rfl rfl sh_43 (by first | exact rdAt_all rfl | (simp only [rdAt, PS.cells, PS.over, GM.cells, Cmd.cells, List.cons_append, List.nil_append, RS.cellsV, RS.ch, stC, RS.decide, RS.accepted, RS.phase, GM.lent, List.drop_succ_cons, List.drop_zero, List.take_succ_cons, List.take_zero, List.length_cons, List.length_nil, Nat.zero_add, Nat.reduceAdd, Nat.reduceLeDiff, Nat.le_refl, ↓reduceIte] <;> rfl)) ?_
  refine re_call en_33 rfl rfl rfl rfl rfl ?_
  refine Calls.mono (sameBucket0 H) ?_
  rintro e w ⟨rfl, H⟩
  refine ⟨_, rfl, (fun h => (nomatch h)), ?_⟩
  refine re_not rfl rfl rfl rfl rfl ?_
  refine re_nil ?_
  refine qe_thenC ?_
  refine ce_condF rfl ?_
  refine ce_skip ?_
  refine qe_thenC ?_
  refine ce_seq ?_
  refine ce_text (tab := []) (soft := 255) (.op 0 (.op 1 (.op 2 (.op 3 (.op 4 (.op 5 (.op 6 (.op 7 .nil)))))))) rfl rfl ?_
  first | refine re_field0 rfl rfl rfl rfl rfl fo_43_1 ?_ | refine re_field rfl rfl rfl rfl rfl fo_43_1 ?_ | refine re_fieldA rfl rfl rfl rfl rfl fo_43_1 ?_
  refine re_load H rfl rfl rfl rfl rfl sh_40 rfl ?_
  first | refine re_field0 rfl rfl rfl rfl rfl fo_43_1 ?_ | refine re_field rfl rfl rfl rfl rfl fo_43_1 ?_ | refine re_fieldA rfl rfl rfl rfl rfl fo_43_1 ?_
  refine re_load H rfl rfl rfl rfl rfl sh_40 rfl ?_
  refine re_len rfl rfl rfl rfl rfl ul_40 ?_
  first | refine re_add rfl rfl rfl rfl rfl rfl (by omega) ?_ | refine re_bin rfl rfl rfl rfl rfl rfl rfl ?_
  refine re_sliceH rfl rfl rfl rfl rfl rfl ul_40 ei_40 (by omega) (by omega) ?_
  refine re_assign rfl rfl rfl rfl rfl ?_
  refine re_nil ?_
  refine qe_thenC ?_
  refine ce_seq ?_
  refine ce_seq ?_
  refine ce_text (tab := []) (soft := 15) (.op 0 (.op 1 (.op 2 (.op 3 .nil)))) rfl rfl ?_
  first | refine re_field0 rfl rfl rfl rfl rfl fo_43_1 ?_ | refine re_field rfl rfl rfl rfl rfl fo_43_1 ?_ | refine re_fieldA rfl rfl rfl rfl rfl fo_43_1 ?_
  refine re_load H rfl rfl rfl rfl rfl sh_40 rfl ?_
  refine re_len rfl rfl rfl rfl rfl ul_40 ?_
  refine re_assign rfl rfl rfl rfl rfl ?_
  refine re_nil ?_
  refine qe_thenC ?_
  refine ce_block ?_
  refine ce_loop (α := Nat) (fun k => [(2, .pointer (some ⟨g2, 0, none⟩)), (3, .pointer (some ⟨g3, 0, none⟩)), (5, slv (some b1) 67 67), (6, .int .i64 (k : Int))]) (fun k w => Own B (.cells g3 43 [.int .i64 u, .slice none 0 0, .slice none 0 0] :: .cells g2 43 [.int .i64 u, .slice (some ⟨b1, 0, none⟩) 0 67, .slice (some ⟨b2, 0, none⟩) 0 67] :: .cells b1 102 ((marks 67 67).flatMap entC) :: .cells b2 106 ((marks 67 67).flatMap lastC) :: F) w ∧ k ≤ 67) (fun k => 67 - k) 0 (And.intro rfl (And.intro rfl (And.intro rfl (And.intro rfl trivial)))) ⟨H, Nat.zero_le _⟩ ?_
  rintro k w HW
  obtain ⟨H, hk⟩ := HW
  change CE _ _ _ _ _ [(2, .pointer (some ⟨g2, 0, none⟩)), (3, .pointer (some ⟨g3, 0, none⟩)), (5, slv (some b1) 67 67), (6, .int .i64 (k : Int))] _
  refine ce_seq ?_
  refine ce_seq ?_
  refine ce_text (tab := []) (soft := 15) (.op 0 (.op 1 (.op 2 (.op 3 .nil)))) rfl rfl ?_
  refine re_move rfl rfl rfl rfl rfl ?_
  refine re_move rfl rfl rfl rfl rfl ?_
  refine re_len rfl rfl rfl rfl rfl ul_40 ?_
  refine re_bin rfl rfl rfl rfl rfl rfl rfl ?_
  refine re_nil ?_
  refine qe_thenC ?_
  refine ce_cond rfl (fun h1 => ?_) (fun h1 => ?_)
  · try simp only [zn1, zn2, zn3, zn4, zn5, zn6] at h1
    refine ce_skip ?_
    refine qe_thenC ?_
    refine ce_seq ?_
    refine ce_block ?_
    refine ce_seq ?_
    refine ce_text (tab := []) (soft := 255) (.op 0 (.op 1 (.op 2 (.op 3 (.op 4 (.op 5 (.op 6 (.op 7 .nil)))))))) rfl rfl ?_
    have hlt : k < 67 := by omega
    have hml := marks_len (n := 67) (k := 67) (by omega)
    have hmg := marks_get hlt
    refine re_move rfl rfl rfl rfl rfl ?_
    refine re_move rfl rfl rfl rfl rfl ?_
    refine re_indexL rfl rfl rfl rfl rfl rfl ul_40 ei_40 (by omega) (by omega) ?_
    refine re_load H rfl rfl rfl rfl rfl sh_102 (rd_flat entC 4 entC_len (l := marks 67 67) (k := k) (by omega)) ?_
    refine re_move rfl rfl rfl rfl rfl ?_
    first | refine re_subI rfl rfl rfl rfl rfl rfl (by omega) ?_ | refine re_bin rfl rfl rfl rfl rfl rfl rfl ?_
    refine re_build rfl rfl rfl rfl rfl ze_102 pl_102 (by simp only [fillL, setMany, Value.cells, List.getElem?_cons_zero, List.getElem?_cons_succ, List.length_cons, List.length_nil, List.set_cons_zero, List.set_cons_succ, Nat.reduceAdd, Nat.reduceLeDiff, Nat.zero_add, and_self, ↓reduceIte]; rfl) ?_
    simp only [hmg, entC]
    refine re_neAgg rfl rfl rfl rfl rfl rfl fk_102 sh_102 ng_102 (by simp only [eqKs, eqK, ↓reduceIte]; rfl) ?_
    refine re_nil ?_
    refine qe_thenC ?_
    refine ce_cond rfl (fun h2 => ?_) (fun h2 => ?_)
    · try simp only [zn1, zn2, zn3, zn4, zn5, zn6] at h2
      simp at h2
    · try simp only [zn1, zn2, zn3, zn4, zn5, zn6] at h2
      refine ce_skip ?_
      refine qe_block_norm ?_
      refine qe_thenC ?_
      refine ce_text (tab := []) (soft := 7) (.op 0 (.op 1 (.op 2 .nil))) rfl rfl ?_
      refine re_move rfl rfl rfl rfl rfl ?_
      first | refine re_add rfl rfl rfl rfl rfl rfl (by omega) ?_ | refine re_bin rfl rfl rfl rfl rfl rfl rfl ?_
      refine re_assign rfl rfl rfl rfl rfl ?_
      refine re_nil ?_
      refine qe_round (x := k) (k + 1) ?_ ?_ ?_
      · first | (dsimp only; omega) | omega
      · exact (And.intro rfl (And.intro rfl (And.intro rfl (And.intro rfl trivial))))
      · exact ⟨H, by omega⟩
  · try simp only [zn1, zn2, zn3, zn4, zn5, zn6] at h1
    refine ce_exit ?_
    refine qe_then_exit ?_
    refine qe_then_exit ?_
    refine qe_block_exit ?_
    refine qe_thenC ?_
    refine ce_seq ?_
    refine ce_text (tab := []) (soft := 255) (.op 0 (.op 1 (.op 2 (.op 3 (.op 4 (.op 5 (.op 6 (.op 7 .nil)))))))) rfl rfl ?_
    first | refine re_field0 rfl rfl rfl rfl rfl fo_43_2 ?_ | refine re_field rfl rfl rfl rfl rfl fo_43_2 ?_ | refine re_fieldA rfl rfl rfl rfl rfl fo_43_2 ?_
    refine re_load H rfl rfl rfl rfl rfl sh_41 rfl ?_
    first | refine re_field0 rfl rfl rfl rfl rfl fo_43_2 ?_ | refine re_field rfl rfl rfl rfl rfl fo_43_2 ?_ | refine re_fieldA rfl rfl rfl rfl rfl fo_43_2 ?_
    refine re_load H rfl rfl rfl rfl rfl sh_41 rfl ?_
    refine re_len rfl rfl rfl rfl rfl ul_41 ?_
    first | refine re_add rfl rfl rfl rfl rfl rfl (by omega) ?_ | refine re_bin rfl rfl rfl rfl rfl rfl rfl ?_
    refine re_sliceH rfl rfl rfl rfl rfl rfl ul_41 ei_41 (by omega) (by omega) ?_
    refine re_assign rfl rfl rfl rfl rfl ?_
    refine re_nil ?_
    refine qe_thenC ?_
    refine ce_seq ?_
    refine ce_seq ?_
    refine ce_text (tab := []) (soft := 15) (.op 0 (.op 1 (.op 2 (.op 3 .nil)))) rfl rfl ?_
    first | refine re_field0 rfl rfl rfl rfl rfl fo_43_2 ?_ | refine re_field rfl rfl rfl rfl rfl fo_43_2 ?_ | refine re_fieldA rfl rfl rfl rfl rfl fo_43_2 ?_
    refine re_load H rfl rfl rfl rfl rfl sh_41 rfl ?_
    refine re_len rfl rfl rfl rfl rfl ul_41 ?_
    refine re_assign rfl rfl rfl rfl rfl ?_
    refine re_nil ?_
    refine qe_thenC ?_
    refine ce_block ?_
    refine ce_loop (α := Nat) (fun k => [(2, .pointer (some ⟨g2, 0, none⟩)), (3, .pointer (some ⟨g3, 0, none⟩)), (7, slv (some b2) 67 67), (8, .int .i64 (k : Int))]) (fun k w => Own B (.cells g3 43 [.int .i64 u, .slice none 0 0, .slice none 0 0] :: .cells g2 43 [.int .i64 u, .slice (some ⟨b1, 0, none⟩) 0 67, .slice (some ⟨b2, 0, none⟩) 0 67] :: .cells b1 102 ((marks 67 67).flatMap entC) :: .cells b2 106 ((marks 67 67).flatMap lastC) :: F) w ∧ k ≤ 67) (fun k => 67 - k) 0 (And.intro rfl (And.intro rfl (And.intro rfl (And.intro rfl trivial)))) ⟨H, Nat.zero_le _⟩ ?_
    rintro k w HW
    obtain ⟨H, hk⟩ := HW
    change CE _ _ _ _ _ [(2, .pointer (some ⟨g2, 0, none⟩)), (3, .pointer (some ⟨g3, 0, none⟩)), (7, slv (some b2) 67 67), (8, .int .i64 (k : Int))] _
    refine ce_seq ?_
    refine ce_seq ?_
    refine ce_text (tab := []) (soft := 15) (.op 0 (.op 1 (.op 2 (.op 3 .nil)))) rfl rfl ?_
    refine re_move rfl rfl rfl rfl rfl ?_
    refine re_move rfl rfl rfl rfl rfl ?_
    refine re_len rfl rfl rfl rfl rfl ul_41 ?_
    refine re_bin rfl rfl rfl rfl rfl rfl rfl ?_
    refine re_nil ?_
    refine qe_thenC ?_
    refine ce_cond rfl (fun h3 => ?_) (fun h3 => ?_)
    · try simp only [zn1, zn2, zn3, zn4, zn5, zn6] at h3
      refine ce_skip ?_
      refine qe_thenC ?_
      refine ce_seq ?_
      refine ce_block ?_
      refine ce_seq ?_
      refine ce_text (tab := []) (soft := 255) (.op 0 (.op 1 (.op 2 (.op 3 (.op 4 (.op 5 (.op 6 (.op 7 .nil)))))))) rfl rfl ?_
      have hlt : k < 67 := by omega
      have hml := marks_len (n := 67) (k := 67) (by omega)
      have hmg := marks_get hlt
      refine re_move rfl rfl rfl rfl rfl ?_
      refine re_move rfl rfl rfl rfl rfl ?_
      refine re_indexL rfl rfl rfl rfl rfl rfl ul_41 ei_41 (by omega) (by omega) ?_
      refine re_load H rfl rfl rfl rfl rfl sh_106 (rd_flat lastC 7 lastC_len (l := marks 67 67) (k := k) (by omega)) ?_
      refine re_move rfl rfl rfl rfl rfl ?_
      first | refine re_subI rfl rfl rfl rfl rfl rfl (by omega) ?_ | refine re_bin rfl rfl rfl rfl rfl rfl rfl ?_
      refine re_build rfl rfl rfl rfl rfl ze_106 pl_106 (by simp only [fillL, setMany, Value.cells, List.getElem?_cons_zero, List.getElem?_cons_succ, List.length_cons, List.length_nil, List.set_cons_zero, List.set_cons_succ, Nat.reduceAdd, Nat.reduceLeDiff, Nat.zero_add, and_self, ↓reduceIte]; rfl) ?_
      simp only [hmg, lastC]
      refine re_neAgg rfl rfl rfl rfl rfl rfl fk_106 sh_106 ng_106 (by simp only [eqKs, eqK, ↓reduceIte]; rfl) ?_
      refine re_nil ?_
      refine qe_thenC ?_
      refine ce_cond rfl (fun h4 => ?_) (fun h4 => ?_)
      · try simp only [zn1, zn2, zn3, zn4, zn5, zn6] at h4
        simp at h4
      · try simp only [zn1, zn2, zn3, zn4, zn5, zn6] at h4
        refine ce_skip ?_
        refine qe_block_norm ?_
        refine qe_thenC ?_
        refine ce_text (tab := []) (soft := 7) (.op 0 (.op 1 (.op 2 .nil))) rfl rfl ?_
        refine re_move rfl rfl rfl rfl rfl ?_
        first | refine re_add rfl rfl rfl rfl rfl rfl (by omega) ?_ | refine re_bin rfl rfl rfl rfl rfl rfl rfl ?_
        refine re_assign rfl rfl rfl rfl rfl ?_
        refine re_nil ?_
        refine qe_round (x := k) (k + 1) ?_ ?_ ?_
        · first | (dsimp only; omega) | omega
        · exact (And.intro rfl (And.intro rfl (And.intro rfl (And.intro rfl trivial))))
        · exact ⟨H, by omega⟩
    · try simp only [zn1, zn2, zn3, zn4, zn5, zn6] at h3
      refine ce_exit ?_
      refine qe_then_exit ?_
      refine qe_then_exit ?_
      refine qe_block_exit ?_
      refine qe_thenC ?_
      refine ce_seq ?_
      refine ce_text (tab := []) (soft := 1) (.op 0 .nil) rfl rfl ?_
      refine re_assign rfl rfl rfl rfl rfl ?_
      refine re_nil ?_
      refine qe_thenC ?_
      refine ce_ret ?_
      refine qe_end rfl rfl ?_
      exact ⟨rfl, H.tail.tail⟩
end Go.Proofs.Ytofaoblfemfkiaa

namespace Go.Proofs.Ytofaoblfemfkiaa
open Go Go.RowKit Go.Fw
set_option linter.unusedSimpArgs false
set_option linter.unusedVariables false
set_option maxRecDepth 4000
set_option maxHeartbeats 2000000
theorem en_62 : Enterable Try.prog 62 := ⟨Try.f62, Try.func62, rfl, by decide⟩
theorem en_63 : Enterable Try.prog 63 := ⟨Try.f63, Try.func63, rfl, by decide⟩

theorem backMsg_s {B w : World} {F : List Ent} {m : GM} {b1 b2 b3 b4 : Nat} (H : Own B (.cells b1 5 ((marks 67 67).map byteC) :: .cells b2 102 ((marks 67 67).flatMap entC) :: .cells b3 106 ((marks 67 67).flatMap lastC) :: .cells b4 28 ((marks 67 67).flatMap cmdM) :: F) w) :
    Calls Try.prog 30 #[.agg (m.lent (some ⟨b1, 0, none⟩) (some ⟨b2, 0, none⟩) (some ⟨b3, 0, none⟩) (some ⟨b4, 0, none⟩) 67 67 67 67).cells.toArray, .agg (m.lent none none none none 0 0 0 0).cells.toArray] w fun e w' => e = .returned (.bool true) ∧ Own B (.cells b1 5 ((marks 67 67).map byteC) :: .cells b2 102 ((marks 67 67).flatMap entC) :: .cells b3 106 ((marks 67 67).flatMap lastC) :: .cells b4 28 ((marks 67 67).flatMap cmdM) :: F) w' := by
  refine calls_ce (args := [.agg (m.lent (some ⟨b1, 0, none⟩) (some ⟨b2, 0, none⟩) (some ⟨b3, 0, none⟩) (some ⟨b4, 0, none⟩) 67 67 67 67).cells.toArray, .agg (m.lent none none none none 0 0 0 0).cells.toArray]) Try.func30 rfl rfl ?_
  change CE _ _ 51 _ _ [(0, .agg (m.lent (some ⟨b1, 0, none⟩) (some ⟨b2, 0, none⟩) (some ⟨b3, 0, none⟩) (some ⟨b4, 0, none⟩) 67 67 67 67).cells.toArray), (1, .agg (m.lent none none none none 0 0 0 0).cells.toArray)] _
  refine ce_seq ?_
  refine ce_text (tab := []) (soft := 4) (.op 0 (.op 1 (.op 2 .nil))) rfl rfl ?_
  refine re_box H rfl rfl rfl rfl rfl rfl ?_
  intro g2 w H
  refine ⟨(fun h => (nomatch h)), ?_⟩
  refine re_box H rfl rfl rfl rfl rfl rfl ?_
  intro g3 w H
  refine ⟨(fun h => (nomatch h)), ?_⟩
  refine re_assign rfl rfl rfl rfl rfl ?_
  refine re_nil ?_
  refine qe_thenC ?_
  refine ce_seq ?_
  refine ce_seq ?_
  refine ce_text (tab := []) (soft := 916987) (.op 0 (.op 1 (.op 2 (.op 3 (.op 4 (.op 5 (.op 6 (.op 7 (.op 8 (.op 9 (.op 10 (.op 11 (.op 12 (.op 13 (.op 14 (.op 15 (.op 16 (.op 17 (.op 18 (.op 19 .nil)))))))))))))))))))) rfl rfl ?_
  refine re_load H rfl rfl rfl rfl rfl sh_46 (by first | exact rdAt_all rfl | (simp only [rdAt, PS.cells, PS.over, GM.cells, Cmd.cells, List.cons_append, List.nil_append, RS.cellsV, RS.ch, stC, RS.decide, RS.accepted, RS.phase, GM.lent, List.drop_succ_cons, List.drop_zero, List.take_succ_cons, List.take_zero, List.length_cons, List.length_nil, Nat.zero_add, Nat.reduceAdd, Nat.reduceLeDiff, Nat.le_refl, ↓reduceIte] <;> rfl)) ?_
  refine re_load H rfl rfl rfl rfl rfl sh_46 (by first | exact rdAt_all rfl | (simp only [rdAt, PS.cells, PS.over, GM.cells, Cmd.cells, List.cons_append, List.nil_append, RS.cellsV, RS.ch, stC, RS.decide, RS.accepted, RS.phase, GM.lent, List.drop_succ_cons, List.drop_zero, List.take_succ_cons, List.take_zero, List.length_cons, List.length_nil, Nat.zero_add, Nat.reduceAdd, Nat.reduceLeDiff, Nat.le_refl, ↓reduceIte] <;> rfl)) ?_
  refine re_call en_52 rfl rfl rfl rfl rfl ?_
  refine Calls.mono (sameMsg0 H) ?_
  rintro e w ⟨rfl, H⟩
  simp only [GM.lent, GM.cells, Sl.v, Cmd.cells, List.cons_append, List.nil_append] at H
  refine ⟨_, rfl, (fun h => (nomatch h)), ?_⟩
  refine re_not rfl rfl rfl rfl rfl ?_
  refine re_move rfl rfl rfl rfl rfl ?_
  first | refine re_field0 rfl rfl rfl rfl rfl fo_46_8 ?_ | refine re_field rfl rfl rfl rfl rfl fo_46_8 ?_ | refine re_fieldA rfl rfl rfl rfl rfl fo_46_8 ?_
  refine re_load H rfl rfl rfl rfl rfl sh_39 rfl ?_
  first | refine re_field0 rfl rfl rfl rfl rfl fo_46_8 ?_ | refine re_field rfl rfl rfl rfl rfl fo_46_8 ?_ | refine re_fieldA rfl rfl rfl rfl rfl fo_46_8 ?_
  refine re_load H rfl rfl rfl rfl rfl sh_39 rfl ?_
  refine re_call en_62 rfl rfl rfl rfl rfl ?_
  have H := H.front 2
  simp only [arrs, Fw.front, zm1, zm2, zm3, zm4, zm5] at H
  refine Calls.mono (backBytes_s H) ?_
  rintro e w ⟨rfl, H⟩
  refine ⟨_, rfl, (fun h => (nomatch h)), ?_⟩
  refine re_not rfl rfl rfl rfl rfl ?_
  refine re_pickF rfl rfl rfl rfl rfl rfl ?_
  refine re_move rfl rfl rfl rfl rfl ?_
  first | refine re_field0 rfl rfl rfl rfl rfl fo_46_10 ?_ | refine re_field rfl rfl rfl rfl rfl fo_46_10 ?_ | refine re_fieldA rfl rfl rfl rfl rfl fo_46_10 ?_
  refine re_load H rfl rfl rfl rfl rfl sh_43 (by first | exact rdAt_all rfl | (simp only [rdAt, PS.cells, PS.over, GM.cells, Cmd.cells, List.cons_append, List.nil_append, RS.cellsV, RS.ch, stC, RS.decide, RS.accepted, RS.phase, GM.lent, List.drop_succ_cons, List.drop_zero, List.take_succ_cons, List.take_zero, List.length_cons, List.length_nil, Nat.zero_add, Nat.reduceAdd, Nat.reduceLeDiff, Nat.le_refl, ↓reduceIte] <;> rfl)) ?_
  first | refine re_field0 rfl rfl rfl rfl rfl fo_46_10 ?_ | refine re_field rfl rfl rfl rfl rfl fo_46_10 ?_ | refine re_fieldA rfl rfl rfl rfl rfl fo_46_10 ?_
  refine re_load H rfl rfl rfl rfl rfl sh_43 (by first | exact rdAt_all rfl | (simp only [rdAt, PS.cells, PS.over, GM.cells, Cmd.cells, List.cons_append, List.nil_append, RS.cellsV, RS.ch, stC, RS.decide, RS.accepted, RS.phase, GM.lent, List.drop_succ_cons, List.drop_zero, List.take_succ_cons, List.take_zero, List.length_cons, List.length_nil, Nat.zero_add, Nat.reduceAdd, Nat.reduceLeDiff, Nat.le_refl, ↓reduceIte] <;> rfl)) ?_
  refine re_call en_63 rfl rfl rfl rfl rfl ?_
  have H := H.front 4
  have H := H.front 4
  simp only [arrs, Fw.front, zm1, zm2, zm3, zm4, zm5] at H
  refine Calls.mono (backBucket_s H) ?_
  rintro e w ⟨rfl, H⟩
  refine ⟨_, rfl, (fun h => (nomatch h)), ?_⟩
  refine re_not rfl rfl rfl rfl rfl ?_
  refine re_pickF rfl rfl rfl rfl rfl rfl ?_
  refine re_nil ?_
  refine qe_thenC ?_
  refine ce_condF rfl ?_
  refine ce_skip ?_
  refine qe_thenC ?_
  refine ce_seq ?_
  refine ce_text (tab := []) (soft := 255) (.op 0 (.op 1 (.op 2 (.op 3 (.op 4 (.op 5 (.op 6 (.op 7 .nil)))))))) rfl rfl ?_
  first | refine re_field0 rfl rfl rfl rfl rfl fo_46_11 ?_ | refine re_field rfl rfl rfl rfl rfl fo_46_11 ?_ | refine re_fieldA rfl rfl rfl rfl rfl fo_46_11 ?_
  refine re_load H rfl rfl rfl rfl rfl sh_44 rfl ?_
  first | refine re_field0 rfl rfl rfl rfl rfl fo_46_11 ?_ | refine re_field rfl rfl rfl rfl rfl fo_46_11 ?_ | refine re_fieldA rfl rfl rfl rfl rfl fo_46_11 ?_
  refine re_load H rfl rfl rfl rfl rfl sh_44 rfl ?_
  refine re_len rfl rfl rfl rfl rfl ul_44 ?_
  first | refine re_add rfl rfl rfl rfl rfl rfl (by omega) ?_ | refine re_bin rfl rfl rfl rfl rfl rfl rfl ?_
  refine re_sliceH rfl rfl rfl rfl rfl rfl ul_44 ei_44 (by omega) (by omega) ?_
  refine re_assign rfl rfl rfl rfl rfl ?_
  refine re_nil ?_
  refine qe_thenC ?_
  refine ce_seq ?_
  refine ce_seq ?_
  refine ce_text (tab := []) (soft := 15) (.op 0 (.op 1 (.op 2 (.op 3 .nil)))) rfl rfl ?_
  first | refine re_field0 rfl rfl rfl rfl rfl fo_46_11 ?_ | refine re_field rfl rfl rfl rfl rfl fo_46_11 ?_ | refine re_fieldA rfl rfl rfl rfl rfl fo_46_11 ?_
  refine re_load H rfl rfl rfl rfl rfl sh_44 rfl ?_
  refine re_len rfl rfl rfl rfl rfl ul_44 ?_
  refine re_assign rfl rfl rfl rfl rfl ?_
  refine re_nil ?_
  refine qe_thenC ?_
  refine ce_block ?_
  refine ce_loop (α := Nat) (fun k => [(2, .pointer (some ⟨g2, 0, none⟩)), (3, .pointer (some ⟨g3, 0, none⟩)), (5, slv (some b4) 67 67), (6, .int .i64 (k : Int))]) (fun k w => Own B (.cells b2 102 ((marks 67 67).flatMap entC) :: .cells b3 106 ((marks 67 67).flatMap lastC) :: .cells b1 5 ((marks 67 67).map byteC) :: .cells g3 46 (m.lent none none none none 0 0 0 0).cells :: .cells g2 46 (m.lent (some ⟨b1, 0, none⟩) (some ⟨b2, 0, none⟩) (some ⟨b3, 0, none⟩) (some ⟨b4, 0, none⟩) 67 67 67 67).cells :: .cells b4 28 ((marks 67 67).flatMap cmdM) :: F) w ∧ k ≤ 67) (fun k => 67 - k) 0 (And.intro rfl (And.intro rfl (And.intro rfl (And.intro rfl trivial)))) ⟨H, Nat.zero_le _⟩ ?_
  rintro k w HW
  obtain ⟨H, hk⟩ := HW
  change CE _ _ _ _ _ [(2, .pointer (some ⟨g2, 0, none⟩)), (3, .pointer (some ⟨g3, 0, none⟩)), (5, slv (some b4) 67 67), (6, .int .i64 (k : Int))] _
  refine ce_seq ?_
  refine ce_seq ?_
  refine ce_text (tab := []) (soft := 15) (.op 0 (.op 1 (.op 2 (.op 3 .nil)))) rfl rfl ?_
  refine re_move rfl rfl rfl rfl rfl ?_
  refine re_move rfl rfl rfl rfl rfl ?_
  refine re_len rfl rfl rfl rfl rfl ul_44 ?_
  refine re_bin rfl rfl rfl rfl rfl rfl rfl ?_
  refine re_nil ?_
  refine qe_thenC ?_
  refine ce_cond rfl (fun h1 => ?_) (fun h1 => ?_)
  · try simp only [zn1, zn2, zn3, zn4, zn5, zn6] at h1
    refine ce_skip ?_
    refine qe_thenC ?_
    refine ce_seq ?_
    refine ce_block ?_
    refine ce_seq ?_
    refine ce_text (tab := []) (soft := 255) (.op 0 (.op 1 (.op 2 (.op 3 (.op 4 (.op 5 (.op 6 (.op 7 .nil)))))))) rfl rfl ?_
    have hlt : k < 67 := by omega
    have hml := marks_len (n := 67) (k := 67) (by omega)
    have hmg := marks_get hlt
    refine re_move rfl rfl rfl rfl rfl ?_
    refine re_move rfl rfl rfl rfl rfl ?_
    refine re_indexL rfl rfl rfl rfl rfl rfl ul_44 ei_44 (by omega) (by omega) ?_
    refine re_load H rfl rfl rfl rfl rfl sh_28 (rd_flat cmdM 9 cmdM_len (l := marks 67 67) (k := k) (by omega)) ?_
    refine re_move rfl rfl rfl rfl rfl ?_
    first | refine re_subI rfl rfl rfl rfl rfl rfl (by omega) ?_ | refine re_bin rfl rfl rfl rfl rfl rfl rfl ?_
    refine re_build rfl rfl rfl rfl rfl ze_28 pl_28 (by simp only [fillL, setMany, Value.cells, List.getElem?_cons_zero, List.getElem?_cons_succ, List.length_cons, List.length_nil, List.set_cons_zero, List.set_cons_succ, Nat.reduceAdd, Nat.reduceLeDiff, Nat.zero_add, and_self, ↓reduceIte]; rfl) ?_
    simp only [hmg, cmdM, Cmd.cells]
    refine re_neAgg rfl rfl rfl rfl rfl rfl fk_28 sh_28 ng_28 (by simp only [eqKs, eqK, ↓reduceIte]; rfl) ?_
    refine re_nil ?_
    refine qe_thenC ?_
    refine ce_cond rfl (fun h2 => ?_) (fun h2 => ?_)
    · try simp only [zn1, zn2, zn3, zn4, zn5, zn6] at h2
      simp at h2
    · try simp only [zn1, zn2, zn3, zn4, zn5, zn6] at h2
      refine ce_skip ?_
      refine qe_block_norm ?_
      refine qe_thenC ?_
      refine ce_text (tab := []) (soft := 7) (.op 0 (.op 1 (.op 2 .nil))) rfl rfl ?_
      refine re_move rfl rfl rfl rfl rfl ?_
      first | refine re_add rfl rfl rfl rfl rfl rfl (by omega) ?_ | refine re_bin rfl rfl rfl rfl rfl rfl rfl ?_
      refine re_assign rfl rfl rfl rfl rfl ?_
      refine re_nil ?_
      refine qe_round (x := k) (k + 1) ?_ ?_ ?_
      · first | (dsimp only; omega) | omega
      · exact (And.intro rfl (And.intro rfl (And.intro rfl (And.intro rfl trivial))))
      · exact ⟨H, by omega⟩
  · try simp only [zn1, zn2, zn3, zn4, zn5, zn6] at h1
    refine ce_exit ?_
    refine qe_then_exit ?_
    refine qe_then_exit ?_
    refine qe_block_exit ?_
    refine qe_thenC ?_
    refine ce_seq ?_
    refine ce_text (tab := []) (soft := 1) (.op 0 .nil) rfl rfl ?_
    refine re_assign rfl rfl rfl rfl rfl ?_
    refine re_nil ?_
    refine qe_thenC ?_
    refine ce_ret ?_
    refine qe_end rfl rfl ?_
    have H := Own.arr [5, 2, 2, 3] H
    simp only [arrs, Fw.front, zm1, zm2, zm3, zm4, zm5] at H
    replace H := H.sub (.cons_cons _ (.cons_cons _ (.cons_cons _ (.cons_cons _ (.cons _ (.cons _ (List.Sublist.refl _)))))))
    exact ⟨rfl, H⟩

theorem emod_of_tmod {v n : Int} (hn : 0 < n) : v % n = if v.tmod n < 0 then v.tmod n + n else v.tmod n := by
  have h1 := Int.emod_nonneg v (show n ≠ 0 by omega)
  have h2 := Int.emod_lt_of_pos v hn
  rw [Int.tmod_eq_emod]
  split <;> split <;> omega

theorem round_l {B w : World} {F : List Ent} {v n : Int} (H : Own B F w) (hn : 0 < n ∧ n ≤ 1000000) :
    Calls Try.prog 10 #[.int .i64 v, .int .i64 n] w fun e w' => e = .returned (.int .i64 (v % n)) ∧ Own B F w' := by
  refine calls_ce (args := [.int .i64 v, .int .i64 n]) Try.func10 rfl rfl ?_
  change CE _ _ 16 _ _ [(0, .int .i64 v), (1, .int .i64 n)] _
  refine ce_seq ?_
  refine ce_text (tab := []) (soft := 1) (.op 0 .nil) rfl rfl ?_
  refine re_assign rfl rfl rfl rfl rfl ?_
  refine re_nil ?_
  refine qe_thenC ?_
  refine ce_seq ?_
  refine ce_seq ?_
  refine ce_text (tab := []) (soft := 3) (.op 0 (.op 1 .nil)) rfl rfl ?_
  refine re_move rfl rfl rfl rfl rfl ?_
  refine re_bin rfl rfl rfl rfl rfl rfl rfl ?_
  refine re_nil ?_
  refine qe_thenC ?_
  refine ce_cond rfl (fun h0 => ?_) (fun h0 => ?_)
  · try simp only [zn1, zn2, zn3, zn4, zn5, zn6] at h0
    omega
  · try simp only [zn1, zn2, zn3, zn4, zn5, zn6] at h0
    refine ce_skip ?_
    refine qe_thenC ?_
    refine ce_seq ?_
    refine ce_text (tab := []) (soft := 15) (.op 0 (.op 1 (.op 2 (.op 3 .nil)))) rfl rfl ?_
    refine re_move rfl rfl rfl rfl rfl ?_
    refine re_move rfl rfl rfl rfl rfl ?_
    refine re_rem rfl rfl rfl rfl rfl rfl (by omega) ?_
    refine re_assign rfl rfl rfl rfl rfl ?_
    refine re_nil ?_
    refine qe_thenC ?_
    refine ce_seq ?_
    refine ce_seq ?_
    refine ce_text (tab := []) (soft := 3) (.op 0 (.op 1 .nil)) rfl rfl ?_
    refine re_move rfl rfl rfl rfl rfl ?_
    refine re_bin rfl rfl rfl rfl rfl rfl rfl ?_
    refine re_nil ?_
    refine qe_thenC ?_
    refine ce_cond rfl (fun h1 => ?_) (fun h1 => ?_)
    · try simp only [zn1, zn2, zn3, zn4, zn5, zn6] at h1
      refine ce_seq ?_
      refine ce_text (tab := []) (soft := 15) (.op 0 (.op 1 (.op 2 (.op 3 .nil)))) rfl rfl ?_
      refine re_move rfl rfl rfl rfl rfl ?_
      refine re_move rfl rfl rfl rfl rfl ?_
      have ht := Int.tmod_lt_of_pos v hn.1
      have ht2 : -n ≤ v.tmod n := by have := Int.emod_nonneg v (show n ≠ 0 by omega); rw [emod_of_tmod hn.1] at this; split at this <;> omega
      first | refine re_add rfl rfl rfl rfl rfl rfl (by omega) ?_ | refine re_bin rfl rfl rfl rfl rfl rfl rfl ?_
      refine re_assign rfl rfl rfl rfl rfl ?_
      refine re_nil ?_
      refine qe_thenC ?_
      refine ce_ret ?_
      refine qe_then_ret ?_
      refine qe_end rfl rfl ?_
      exact ⟨by rw [emod_of_tmod hn.1, if_pos h1], H⟩
    · try simp only [zn1, zn2, zn3, zn4, zn5, zn6] at h1
      refine ce_skip ?_
      refine qe_thenC ?_
      refine ce_seq ?_
      refine ce_text (tab := []) (soft := 3) (.op 0 (.op 1 .nil)) rfl rfl ?_
      refine re_move rfl rfl rfl rfl rfl ?_
      refine re_assign rfl rfl rfl rfl rfl ?_
      refine re_nil ?_
      refine qe_thenC ?_
      refine ce_ret ?_
      refine qe_end rfl rfl ?_
      exact ⟨by rw [emod_of_tmod hn.1, if_neg (by omega)], H⟩
end Go.Proofs.Ytofaoblfemfkiaa

namespace Go.Proofs.Ytofaoblfemfkiaa
open Go Go.RowKit Go.Fw
set_option linter.unusedSimpArgs false
set_option linter.unusedVariables false
set_option maxRecDepth 4000
set_option maxHeartbeats 2000000
theorem en_10 : Enterable Try.prog 10 := ⟨Try.f10, Try.func10, rfl, by decide⟩

/-- The message that the law makes of m. -/
def RS.fit (r : RS) (m : GM) (x : Int) : GM :=
  let m1 : GM := { m with fc := false, fi := x, tc := true, ti := r.cl, op := r.op, rnd := r.rnd, k0 := r.kk, k1 := r.ka, k2 := r.kb, k3 := r.kc }
  { (if m.more && !Decidable.decide (m.kind = 14) then { m1 with s0 := r.n, s1 := r.cl } else m1) with more := false }
theorem SeesA.intZ {B w : World} {F L : List Ent} {ad : Addr} {kd : IntKind} {xs : List Int} (h : SeesA B F ad (xs.map (Value.int kd))) (H : Own B L w) [Sub F L] {z : Int} (h0 : 0 ≤ z) (h1 : z < xs.length) : w.cell? (ad.add (z.toNat * 1)) = some (.int kd (xs.getD z.toNat 0)) := by
  have hlt : z.toNat < xs.length := by omega
  have := h w H.to z.toNat (.int kd xs[z.toNat]) (by simp [hlt])
  rw [Nat.mul_one, this]
  simp [List.getD, hlt]
theorem rem_lt {v : Int} {n : Nat} (hn : 0 < n) : 0 ≤ v % (n : Int) ∧ v % (n : Int) < n := ⟨Int.emod_nonneg v (by omega), Int.emod_lt_of_pos v (by omega)⟩

theorem fit_l {B w : World} {F : List Ent} {h a1 a2 a3 a4 : Nat} {r : RS} {m : GM} (H : Own B (.cells h 54 (r.cellsV (slv (some a1) r.gs.length r.gs.length) (slv (some a2) r.gs.length r.gs.length) (slv (some a3) r.gs.length r.gs.length) (slv (some a4) r.gs.length r.gs.length)) :: .row r.ga r.gc 3 1 r.gs.length (ints r.gs) :: F) w) (hn : r.gs.length ≤ 1000000) (hlen : 0 < r.gs.length) :
    Calls Try.prog 27 #[.agg m.cells.toArray, .pointer (some ⟨h, 0, none⟩)] w fun e w' => e = .returned (.agg (r.fit m (r.gs.getD (m.fi % (r.gs.length : Int)).toNat 0)).cells.toArray) ∧ Own B (.cells h 54 (r.cellsV (slv (some a1) r.gs.length r.gs.length) (slv (some a2) r.gs.length r.gs.length) (slv (some a3) r.gs.length r.gs.length) (slv (some a4) r.gs.length r.gs.length)) :: .row r.ga r.gc 3 1 r.gs.length (ints r.gs) :: F) w' := by
  refine calls_ce (args := [.agg m.cells.toArray, .pointer (some ⟨h, 0, none⟩)]) Try.func27 rfl rfl ?_
  change CE _ _ 73 _ _ [(0, .agg m.cells.toArray), (1, .pointer (some ⟨h, 0, none⟩))] _
  refine ce_seq ?_
  refine ce_text (tab := []) (soft := 0) (.op 0 (.op 1 .nil)) rfl rfl ?_
  refine re_box H rfl rfl rfl rfl rfl rfl ?_
  intro g2 w H
  refine ⟨(fun h => (nomatch h)), ?_⟩
  refine re_alloc H rfl rfl rfl rfl ze_46 ?_
  intro g4 w H
  refine ⟨(fun h => (nomatch h)), ?_⟩
  refine re_nil ?_
  refine qe_thenC ?_
  refine ce_seq ?_
  refine ce_text (tab := []) (soft := 31) (.op 0 (.op 1 (.op 2 (.op 3 (.op 4 (.op 5 .nil)))))) rfl rfl ?_
  first | refine re_field0 rfl rfl rfl rfl rfl fo_46_1 ?_ | refine re_field rfl rfl rfl rfl rfl fo_46_1 ?_ | refine re_fieldA rfl rfl rfl rfl rfl fo_46_1 ?_
  first | refine re_field0 rfl rfl rfl rfl rfl fo_36_1 ?_ | refine re_field rfl rfl rfl rfl rfl fo_36_1 ?_ | refine re_fieldA rfl rfl rfl rfl rfl fo_36_1 ?_
  refine re_load H rfl rfl rfl rfl rfl sh_3 rfl ?_
  refine re_build rfl rfl rfl rfl rfl ze_36 pl_36 (by simp only [fillL, setMany, Value.cells, List.getElem?_cons_zero, List.getElem?_cons_succ, List.length_cons, List.length_nil, List.set_cons_zero, List.set_cons_succ, Nat.reduceAdd, Nat.reduceLeDiff, Nat.zero_add, and_self, ↓reduceIte]; rfl) ?_
  first | refine re_field0 rfl rfl rfl rfl rfl fo_46_1 ?_ | refine re_field rfl rfl rfl rfl rfl fo_46_1 ?_ | refine re_fieldA rfl rfl rfl rfl rfl fo_46_1 ?_
  refine re_store H rfl rfl rfl rfl rfl rfl sh_36 rfl rfl rfl ?_
  intro cs w hcs H
  first | rw [setMany_whole rfl] at hcs | simp only [setMany, List.set_cons_zero, List.set_cons_succ, Nat.reduceAdd, Nat.zero_add, PS.cells, PS.over, GM.cells, Cmd.cells, List.cons_append, List.nil_append, RS.cellsV, RS.ch, stC, RS.decide, RS.accepted, RS.phase, GM.lent] at hcs
  subst hcs
  refine ⟨(fun h => (nomatch h)), ?_⟩
  refine re_nil ?_
  refine qe_thenC ?_
  refine ce_seq ?_
  refine ce_seq ?_
  refine ce_text (tab := []) (soft := 63) (.op 0 (.op 1 (.op 2 (.op 3 (.op 4 (.op 5 .nil)))))) rfl rfl ?_
  refine re_move rfl rfl rfl rfl rfl ?_
  refine re_nilc rfl rfl rfl rfl rfl ?_
  first | refine re_field0 rfl rfl rfl rfl rfl fo_54_3 ?_ | refine re_field rfl rfl rfl rfl rfl fo_54_3 ?_ | refine re_fieldA rfl rfl rfl rfl rfl fo_54_3 ?_
  refine re_load H rfl rfl rfl rfl rfl sh_31 rfl ?_
  refine re_len rfl rfl rfl rfl rfl ul_31 ?_
  refine re_bin rfl rfl rfl rfl rfl rfl rfl ?_
  refine re_nil ?_
  refine qe_thenC ?_
  refine ce_cond rfl (fun h0 => ?_) (fun h0 => ?_)
  · try simp only [zn1, zn2, zn3, zn4, zn5, zn6] at h0
    refine ce_open (tab := [0, 1, 3, 7, 0, 16, 48, 0, 128, 384, 896, 1920, 4080, 8191, 16383, 32767, 65535, 131071]) (soft := 126975) mixed (.op 0 (.op 1 (.op 2 (.op 3 (.op 4 (.op 5 (.op 6 (.op 7 (.op 8 (.op 9 (.op 10 (.op 11 (.op 12 (.op 13 (.op 14 (.op 15 (.op 16 (.op 17 .nil)))))))))))))))))) (by kernel_rfl) H ?_
    intro w H
    refine re_move rfl rfl rfl rfl rfl ?_
    refine re_nilc rfl rfl rfl rfl rfl ?_
    first | refine re_field0 rfl rfl rfl rfl rfl fo_54_3 ?_ | refine re_field rfl rfl rfl rfl rfl fo_54_3 ?_ | refine re_fieldA rfl rfl rfl rfl rfl fo_54_3 ?_
    refine re_load H rfl rfl rfl rfl rfl sh_31 rfl ?_
    first | refine re_field0 rfl rfl rfl rfl rfl fo_46_1 ?_ | refine re_field rfl rfl rfl rfl rfl fo_46_1 ?_ | refine re_fieldA rfl rfl rfl rfl rfl fo_46_1 ?_
    first | refine re_field0 rfl rfl rfl rfl rfl fo_36_1 ?_ | refine re_field rfl rfl rfl rfl rfl fo_36_1 ?_ | refine re_fieldA rfl rfl rfl rfl rfl fo_36_1 ?_
    refine re_load H rfl rfl rfl rfl rfl sh_3 rfl ?_
    refine re_move rfl rfl rfl rfl rfl ?_
    refine re_nilc rfl rfl rfl rfl rfl ?_
    first | refine re_field0 rfl rfl rfl rfl rfl fo_54_3 ?_ | refine re_field rfl rfl rfl rfl rfl fo_54_3 ?_ | refine re_fieldA rfl rfl rfl rfl rfl fo_54_3 ?_
    refine re_load H rfl rfl rfl rfl rfl sh_31 rfl ?_
    refine re_len rfl rfl rfl rfl rfl ul_31 ?_
    refine re_call en_10 rfl rfl rfl rfl rfl ?_
    refine Calls.mono (round_l H (by omega)) ?_
    rintro e w ⟨rfl, H⟩
    have hrl := @rem_lt m.fi r.gs.length hlen
    obtain ⟨ad, had, hA⟩ := (H.rsees r.ga).open_ H (by omega)
    have hsl : slv r.ga r.gs.length r.gc = .slice (some ad) r.gs.length r.gc := by rw [slv, had]
    refine ⟨_, rfl, (fun _ => ⟨ancs (i := 12) (j := 10) rfl, ancs (i := 12) (j := 6) rfl, fun _ => still_load H sh_31 rfl, trivial⟩), ?_⟩
    refine re_index rfl rfl rfl rfl (congrArg some hsl) rfl ul_31 ei_31 hrl.1 hrl.2 ?_
    refine re_loadW rfl rfl rfl rfl rfl (run_loadAt_one sh_3 (SeesA.intZ hA H hrl.1 hrl.2)) ?_
    first | refine re_field0 rfl rfl rfl rfl rfl fo_46_1 ?_ | refine re_field rfl rfl rfl rfl rfl fo_46_1 ?_ | refine re_fieldA rfl rfl rfl rfl rfl fo_46_1 ?_
    first | refine re_field0 rfl rfl rfl rfl rfl fo_36_1 ?_ | refine re_field rfl rfl rfl rfl rfl fo_36_1 ?_ | refine re_fieldA rfl rfl rfl rfl rfl fo_36_1 ?_
    refine re_store H rfl rfl rfl rfl rfl rfl sh_3 rfl rfl rfl ?_
    intro cs w hcs H
    first | rw [setMany_whole rfl] at hcs | simp only [setMany, List.set_cons_zero, List.set_cons_succ, Nat.reduceAdd, Nat.zero_add, PS.cells, PS.over, GM.cells, Cmd.cells, List.cons_append, List.nil_append, RS.cellsV, RS.ch, stC, RS.decide, RS.accepted, RS.phase, GM.lent] at hcs
    subst hcs
    refine ⟨(fun _ => ⟨ancs (i := 17) (j := 14) rfl, ancs (i := 17) (j := 10) rfl, ancs (i := 17) (j := 6) rfl, ancs (i := 17) (j := 3) rfl, trivial⟩), ?_⟩
    refine re_nil ?_
    refine qe_noPanic ?_
    refine qe_thenC ?_
    refine ce_seq ?_
    refine ce_text (tab := []) (soft := 63) (.op 0 (.op 1 (.op 2 (.op 3 (.op 4 (.op 5 (.op 6 .nil))))))) rfl rfl ?_
    refine re_move rfl rfl rfl rfl rfl ?_
    refine re_nilc rfl rfl rfl rfl rfl ?_
    first | refine re_field0 rfl rfl rfl rfl rfl fo_54_0 ?_ | refine re_field rfl rfl rfl rfl rfl fo_54_0 ?_ | refine re_fieldA rfl rfl rfl rfl rfl fo_54_0 ?_
    refine re_load H rfl rfl rfl rfl rfl sh_3 rfl ?_
    refine re_build rfl rfl rfl rfl rfl ze_36 pl_36 (by simp only [fillL, setMany, Value.cells, List.getElem?_cons_zero, List.getElem?_cons_succ, List.length_cons, List.length_nil, List.set_cons_zero, List.set_cons_succ, Nat.reduceAdd, Nat.reduceLeDiff, Nat.zero_add, and_self, ↓reduceIte]; rfl) ?_
    first | refine re_field0 rfl rfl rfl rfl rfl fo_46_2 ?_ | refine re_field rfl rfl rfl rfl rfl fo_46_2 ?_ | refine re_fieldA rfl rfl rfl rfl rfl fo_46_2 ?_
    refine re_store H rfl rfl rfl rfl rfl rfl sh_36 rfl rfl rfl ?_
    intro cs w hcs H
    first | rw [setMany_whole rfl] at hcs | simp only [setMany, List.set_cons_zero, List.set_cons_succ, Nat.reduceAdd, Nat.zero_add, PS.cells, PS.over, GM.cells, Cmd.cells, List.cons_append, List.nil_append, RS.cellsV, RS.ch, stC, RS.decide, RS.accepted, RS.phase, GM.lent] at hcs
    subst hcs
    refine ⟨(fun h => (nomatch h)), ?_⟩
    refine re_nil ?_
    refine qe_thenC ?_
    refine ce_seq ?_
    refine ce_text (tab := []) (soft := 31) (.op 0 (.op 1 (.op 2 (.op 3 (.op 4 (.op 5 .nil)))))) rfl rfl ?_
    refine re_move rfl rfl rfl rfl rfl ?_
    refine re_nilc rfl rfl rfl rfl rfl ?_
    first | refine re_field0 rfl rfl rfl rfl rfl fo_54_1 ?_ | refine re_field rfl rfl rfl rfl rfl fo_54_1 ?_ | refine re_fieldA rfl rfl rfl rfl rfl fo_54_1 ?_
    refine re_load H rfl rfl rfl rfl rfl sh_3 rfl ?_
    first | refine re_field0 rfl rfl rfl rfl rfl fo_46_3 ?_ | refine re_field rfl rfl rfl rfl rfl fo_46_3 ?_ | refine re_fieldA rfl rfl rfl rfl rfl fo_46_3 ?_
    refine re_store H rfl rfl rfl rfl rfl rfl sh_3 rfl rfl rfl ?_
    intro cs w hcs H
    first | rw [setMany_whole rfl] at hcs | simp only [setMany, List.set_cons_zero, List.set_cons_succ, Nat.reduceAdd, Nat.zero_add, PS.cells, PS.over, GM.cells, Cmd.cells, List.cons_append, List.nil_append, RS.cellsV, RS.ch, stC, RS.decide, RS.accepted, RS.phase, GM.lent] at hcs
    subst hcs
    refine ⟨(fun h => (nomatch h)), ?_⟩
    refine re_nil ?_
    refine qe_thenC ?_
    refine ce_seq ?_
    refine ce_text (tab := []) (soft := 31) (.op 0 (.op 1 (.op 2 (.op 3 (.op 4 (.op 5 .nil)))))) rfl rfl ?_
    refine re_move rfl rfl rfl rfl rfl ?_
    refine re_nilc rfl rfl rfl rfl rfl ?_
    first | refine re_field0 rfl rfl rfl rfl rfl fo_54_7 ?_ | refine re_field rfl rfl rfl rfl rfl fo_54_7 ?_ | refine re_fieldA rfl rfl rfl rfl rfl fo_54_7 ?_
    refine re_load H rfl rfl rfl rfl rfl sh_3 rfl ?_
    first | refine re_field0 rfl rfl rfl rfl rfl fo_46_4 ?_ | refine re_field rfl rfl rfl rfl rfl fo_46_4 ?_ | refine re_fieldA rfl rfl rfl rfl rfl fo_46_4 ?_
    refine re_store H rfl rfl rfl rfl rfl rfl sh_3 rfl rfl rfl ?_
    intro cs w hcs H
    first | rw [setMany_whole rfl] at hcs | simp only [setMany, List.set_cons_zero, List.set_cons_succ, Nat.reduceAdd, Nat.zero_add, PS.cells, PS.over, GM.cells, Cmd.cells, List.cons_append, List.nil_append, RS.cellsV, RS.ch, stC, RS.decide, RS.accepted, RS.phase, GM.lent] at hcs
    subst hcs
    refine ⟨(fun h => (nomatch h)), ?_⟩
    refine re_nil ?_
    refine qe_thenC ?_
    refine ce_seq ?_
    refine ce_text (tab := []) (soft := 31) (.op 0 (.op 1 (.op 2 (.op 3 (.op 4 (.op 5 .nil)))))) rfl rfl ?_
    refine re_move rfl rfl rfl rfl rfl ?_
    refine re_nilc rfl rfl rfl rfl rfl ?_
    first | refine re_field0 rfl rfl rfl rfl rfl fo_54_2 ?_ | refine re_field rfl rfl rfl rfl rfl fo_54_2 ?_ | refine re_fieldA rfl rfl rfl rfl rfl fo_54_2 ?_
    refine re_load H rfl rfl rfl rfl rfl sh_24 (by first | exact rdAt_all rfl | (simp only [rdAt, PS.cells, PS.over, GM.cells, Cmd.cells, List.cons_append, List.nil_append, RS.cellsV, RS.ch, stC, RS.decide, RS.accepted, RS.phase, GM.lent, List.drop_succ_cons, List.drop_zero, List.take_succ_cons, List.take_zero, List.length_cons, List.length_nil, Nat.zero_add, Nat.reduceAdd, Nat.reduceLeDiff, Nat.le_refl, ↓reduceIte] <;> rfl)) ?_
    first | refine re_field0 rfl rfl rfl rfl rfl fo_46_5 ?_ | refine re_field rfl rfl rfl rfl rfl fo_46_5 ?_ | refine re_fieldA rfl rfl rfl rfl rfl fo_46_5 ?_
    refine re_store H rfl rfl rfl rfl rfl rfl sh_24 rfl rfl rfl ?_
    intro cs w hcs H
    first | rw [setMany_whole rfl] at hcs | simp only [setMany, List.set_cons_zero, List.set_cons_succ, Nat.reduceAdd, Nat.zero_add, PS.cells, PS.over, GM.cells, Cmd.cells, List.cons_append, List.nil_append, RS.cellsV, RS.ch, stC, RS.decide, RS.accepted, RS.phase, GM.lent] at hcs
    subst hcs
    refine ⟨(fun h => (nomatch h)), ?_⟩
    refine re_nil ?_
    refine qe_thenC ?_
    refine ce_seq ?_
    refine ce_seq ?_
    refine ce_text (tab := []) (soft := 127) (.op 0 (.op 1 (.op 2 (.op 3 (.op 4 (.op 5 (.op 6 .nil))))))) rfl rfl ?_
    first | refine re_field0 rfl rfl rfl rfl rfl fo_46_12 ?_ | refine re_field rfl rfl rfl rfl rfl fo_46_12 ?_ | refine re_fieldA rfl rfl rfl rfl rfl fo_46_12 ?_
    refine re_load H rfl rfl rfl rfl rfl sh_4 rfl ?_
    refine re_move rfl rfl rfl rfl rfl ?_
    refine re_split (fun hg8_2 => ?_) (fun hg8_2 => ?_)
    ·
      first | refine re_field0 rfl rfl rfl rfl rfl fo_46_0 ?_ | refine re_field rfl rfl rfl rfl rfl fo_46_0 ?_ | refine re_fieldA rfl rfl rfl rfl rfl fo_46_0 ?_
      refine re_load H rfl rfl rfl rfl rfl sh_3 rfl ?_
      refine re_bin rfl rfl rfl rfl rfl rfl rfl ?_
      refine re_pickT rfl rfl rfl rfl rfl rfl ?_
      refine re_nil ?_
      refine qe_thenC ?_
      refine ce_cond rfl (fun h1 => ?_) (fun h1 => ?_)
      · try simp only [zn1, zn2, zn3, zn4, zn5, zn6] at h1
        refine ce_open (tab := [0, 1, 3, 7, 0, 16, 48, 112, 255, 511, 1023]) (soft := 1023) mixed (.op 0 (.op 1 (.op 2 (.op 3 (.op 4 (.op 5 (.op 6 (.op 7 (.op 8 (.op 9 (.op 10 .nil))))))))))) (by kernel_rfl) H ?_
        intro w H
        refine re_move rfl rfl rfl rfl rfl ?_
        refine re_nilc rfl rfl rfl rfl rfl ?_
        first | refine re_field0 rfl rfl rfl rfl rfl fo_54_6 ?_ | refine re_field rfl rfl rfl rfl rfl fo_54_6 ?_ | refine re_fieldA rfl rfl rfl rfl rfl fo_54_6 ?_
        refine re_load H rfl rfl rfl rfl rfl sh_3 rfl ?_
        refine re_move rfl rfl rfl rfl rfl ?_
        refine re_nilc rfl rfl rfl rfl rfl ?_
        first | refine re_field0 rfl rfl rfl rfl rfl fo_54_0 ?_ | refine re_field rfl rfl rfl rfl rfl fo_54_0 ?_ | refine re_fieldA rfl rfl rfl rfl rfl fo_54_0 ?_
        refine re_load H rfl rfl rfl rfl rfl sh_3 rfl ?_
        refine re_build rfl rfl rfl rfl rfl ze_38 pl_38 (by simp only [fillL, setMany, Value.cells, List.getElem?_cons_zero, List.getElem?_cons_succ, List.length_cons, List.length_nil, List.set_cons_zero, List.set_cons_succ, Nat.reduceAdd, Nat.reduceLeDiff, Nat.zero_add, and_self, ↓reduceIte]; rfl) ?_
        first | refine re_field0 rfl rfl rfl rfl rfl fo_46_6 ?_ | refine re_field rfl rfl rfl rfl rfl fo_46_6 ?_ | refine re_fieldA rfl rfl rfl rfl rfl fo_46_6 ?_
        refine re_store H rfl rfl rfl rfl rfl rfl sh_38 rfl rfl rfl ?_
        intro cs w hcs H
        first | rw [setMany_whole rfl] at hcs | simp only [setMany, List.set_cons_zero, List.set_cons_succ, Nat.reduceAdd, Nat.zero_add, PS.cells, PS.over, GM.cells, Cmd.cells, List.cons_append, List.nil_append, RS.cellsV, RS.ch, stC, RS.decide, RS.accepted, RS.phase, GM.lent] at hcs
        subst hcs
        refine ⟨(fun _ => ⟨ancs (i := 10) (j := 7) rfl, ancs (i := 10) (j := 3) rfl, trivial⟩), ?_⟩
        refine re_nil ?_
        refine qe_noPanic ?_
        refine qe_thenC ?_
        refine ce_seq ?_
        refine ce_text (tab := []) (soft := 1) (.op 0 (.op 1 .nil)) rfl rfl ?_
        first | refine re_field0 rfl rfl rfl rfl rfl fo_46_12 ?_ | refine re_field rfl rfl rfl rfl rfl fo_46_12 ?_ | refine re_fieldA rfl rfl rfl rfl rfl fo_46_12 ?_
        refine re_store H rfl rfl rfl rfl rfl rfl sh_4 rfl rfl rfl ?_
        intro cs w hcs H
        first | rw [setMany_whole rfl] at hcs | simp only [setMany, List.set_cons_zero, List.set_cons_succ, Nat.reduceAdd, Nat.zero_add, PS.cells, PS.over, GM.cells, Cmd.cells, List.cons_append, List.nil_append, RS.cellsV, RS.ch, stC, RS.decide, RS.accepted, RS.phase, GM.lent] at hcs
        subst hcs
        refine ⟨(fun h => (nomatch h)), ?_⟩
        refine re_nil ?_
        refine qe_thenC ?_
        refine ce_seq ?_
        refine ce_text (tab := []) (soft := 1) (.op 0 (.op 1 .nil)) rfl rfl ?_
        refine re_load H rfl rfl rfl rfl rfl sh_46 (by first | exact rdAt_all rfl | (simp only [rdAt, PS.cells, PS.over, GM.cells, Cmd.cells, List.cons_append, List.nil_append, RS.cellsV, RS.ch, stC, RS.decide, RS.accepted, RS.phase, GM.lent, List.drop_succ_cons, List.drop_zero, List.take_succ_cons, List.take_zero, List.length_cons, List.length_nil, Nat.zero_add, Nat.reduceAdd, Nat.reduceLeDiff, Nat.le_refl, ↓reduceIte] <;> rfl)) ?_
        refine re_store H rfl rfl rfl rfl rfl rfl sh_46 rfl rfl rfl ?_
        intro cs w hcs H
        first | rw [setMany_whole rfl] at hcs | simp only [setMany, List.set_cons_zero, List.set_cons_succ, Nat.reduceAdd, Nat.zero_add, PS.cells, PS.over, GM.cells, Cmd.cells, List.cons_append, List.nil_append, RS.cellsV, RS.ch, stC, RS.decide, RS.accepted, RS.phase, GM.lent] at hcs
        subst hcs
        refine ⟨(fun h => (nomatch h)), ?_⟩
        refine re_nil ?_
        refine qe_thenC ?_
        refine ce_ret ?_
        refine qe_endCell H rfl rfl sh_46 (by first | exact rdAt_all rfl | (simp only [rdAt, PS.cells, PS.over, GM.cells, Cmd.cells, List.cons_append, List.nil_append, RS.cellsV, RS.ch, stC, RS.decide, RS.accepted, RS.phase, GM.lent, List.drop_succ_cons, List.drop_zero, List.take_succ_cons, List.take_zero, List.length_cons, List.length_nil, Nat.zero_add, Nat.reduceAdd, Nat.reduceLeDiff, Nat.le_refl, ↓reduceIte] <;> rfl)) ?_
        have hcc : (m.more && !Decidable.decide (m.kind = 14)) = true := by simp [hg8_2, h1]
        exact ⟨by simp only [RS.fit, hcc, if_true]; rfl, H.tail.tail⟩
      · try simp only [zn1, zn2, zn3, zn4, zn5, zn6] at h1
        refine ce_skip ?_
        refine qe_thenC ?_
        refine ce_seq ?_
        refine ce_text (tab := []) (soft := 1) (.op 0 (.op 1 .nil)) rfl rfl ?_
        first | refine re_field0 rfl rfl rfl rfl rfl fo_46_12 ?_ | refine re_field rfl rfl rfl rfl rfl fo_46_12 ?_ | refine re_fieldA rfl rfl rfl rfl rfl fo_46_12 ?_
        refine re_store H rfl rfl rfl rfl rfl rfl sh_4 rfl rfl rfl ?_
        intro cs w hcs H
        first | rw [setMany_whole rfl] at hcs | simp only [setMany, List.set_cons_zero, List.set_cons_succ, Nat.reduceAdd, Nat.zero_add, PS.cells, PS.over, GM.cells, Cmd.cells, List.cons_append, List.nil_append, RS.cellsV, RS.ch, stC, RS.decide, RS.accepted, RS.phase, GM.lent] at hcs
        subst hcs
        refine ⟨(fun h => (nomatch h)), ?_⟩
        refine re_nil ?_
        refine qe_thenC ?_
        refine ce_seq ?_
        refine ce_text (tab := []) (soft := 1) (.op 0 (.op 1 .nil)) rfl rfl ?_
        refine re_load H rfl rfl rfl rfl rfl sh_46 (by first | exact rdAt_all rfl | (simp only [rdAt, PS.cells, PS.over, GM.cells, Cmd.cells, List.cons_append, List.nil_append, RS.cellsV, RS.ch, stC, RS.decide, RS.accepted, RS.phase, GM.lent, List.drop_succ_cons, List.drop_zero, List.take_succ_cons, List.take_zero, List.length_cons, List.length_nil, Nat.zero_add, Nat.reduceAdd, Nat.reduceLeDiff, Nat.le_refl, ↓reduceIte] <;> rfl)) ?_
        refine re_store H rfl rfl rfl rfl rfl rfl sh_46 rfl rfl rfl ?_
        intro cs w hcs H
        first | rw [setMany_whole rfl] at hcs | simp only [setMany, List.set_cons_zero, List.set_cons_succ, Nat.reduceAdd, Nat.zero_add, PS.cells, PS.over, GM.cells, Cmd.cells, List.cons_append, List.nil_append, RS.cellsV, RS.ch, stC, RS.decide, RS.accepted, RS.phase, GM.lent] at hcs
        subst hcs
        refine ⟨(fun h => (nomatch h)), ?_⟩
        refine re_nil ?_
        refine qe_thenC ?_
        refine ce_ret ?_
        refine qe_endCell H rfl rfl sh_46 (by first | exact rdAt_all rfl | (simp only [rdAt, PS.cells, PS.over, GM.cells, Cmd.cells, List.cons_append, List.nil_append, RS.cellsV, RS.ch, stC, RS.decide, RS.accepted, RS.phase, GM.lent, List.drop_succ_cons, List.drop_zero, List.take_succ_cons, List.take_zero, List.length_cons, List.length_nil, Nat.zero_add, Nat.reduceAdd, Nat.reduceLeDiff, Nat.le_refl, ↓reduceIte] <;> rfl)) ?_
        have hcc : (m.more && !Decidable.decide (m.kind = 14)) = false := by simp [hg8_2, h1]
        exact ⟨by simp only [RS.fit, hcc, Bool.false_eq_true, if_false]; rfl, H.tail.tail⟩
    ·
      refine re_skip1 rfl rfl rfl ?_
      refine re_skip1 rfl rfl rfl ?_
      refine re_skip1 rfl rfl rfl ?_
      refine re_pickF rfl rfl rfl rfl rfl rfl ?_
      refine re_nil ?_
      refine qe_thenC ?_
      refine ce_condF rfl ?_
      refine ce_skip ?_
      refine qe_thenC ?_
      refine ce_seq ?_
      refine ce_text (tab := []) (soft := 1) (.op 0 (.op 1 .nil)) rfl rfl ?_
      first | refine re_field0 rfl rfl rfl rfl rfl fo_46_12 ?_ | refine re_field rfl rfl rfl rfl rfl fo_46_12 ?_ | refine re_fieldA rfl rfl rfl rfl rfl fo_46_12 ?_
      refine re_store H rfl rfl rfl rfl rfl rfl sh_4 rfl rfl rfl ?_
      intro cs w hcs H
      first | rw [setMany_whole rfl] at hcs | simp only [setMany, List.set_cons_zero, List.set_cons_succ, Nat.reduceAdd, Nat.zero_add, PS.cells, PS.over, GM.cells, Cmd.cells, List.cons_append, List.nil_append, RS.cellsV, RS.ch, stC, RS.decide, RS.accepted, RS.phase, GM.lent] at hcs
      subst hcs
      refine ⟨(fun h => (nomatch h)), ?_⟩
      refine re_nil ?_
      refine qe_thenC ?_
      refine ce_seq ?_
      refine ce_text (tab := []) (soft := 1) (.op 0 (.op 1 .nil)) rfl rfl ?_
      refine re_load H rfl rfl rfl rfl rfl sh_46 (by first | exact rdAt_all rfl | (simp only [rdAt, PS.cells, PS.over, GM.cells, Cmd.cells, List.cons_append, List.nil_append, RS.cellsV, RS.ch, stC, RS.decide, RS.accepted, RS.phase, GM.lent, List.drop_succ_cons, List.drop_zero, List.take_succ_cons, List.take_zero, List.length_cons, List.length_nil, Nat.zero_add, Nat.reduceAdd, Nat.reduceLeDiff, Nat.le_refl, ↓reduceIte] <;> rfl)) ?_
      refine re_store H rfl rfl rfl rfl rfl rfl sh_46 rfl rfl rfl ?_
      intro cs w hcs H
      first | rw [setMany_whole rfl] at hcs | simp only [setMany, List.set_cons_zero, List.set_cons_succ, Nat.reduceAdd, Nat.zero_add, PS.cells, PS.over, GM.cells, Cmd.cells, List.cons_append, List.nil_append, RS.cellsV, RS.ch, stC, RS.decide, RS.accepted, RS.phase, GM.lent] at hcs
      subst hcs
      refine ⟨(fun h => (nomatch h)), ?_⟩
      refine re_nil ?_
      refine qe_thenC ?_
      refine ce_ret ?_
      refine qe_endCell H rfl rfl sh_46 (by first | exact rdAt_all rfl | (simp only [rdAt, PS.cells, PS.over, GM.cells, Cmd.cells, List.cons_append, List.nil_append, RS.cellsV, RS.ch, stC, RS.decide, RS.accepted, RS.phase, GM.lent, List.drop_succ_cons, List.drop_zero, List.take_succ_cons, List.take_zero, List.length_cons, List.length_nil, Nat.zero_add, Nat.reduceAdd, Nat.reduceLeDiff, Nat.le_refl, ↓reduceIte] <;> rfl)) ?_
      have hcc : (m.more && !Decidable.decide (m.kind = 14)) = false := by simp [hg8_2]
      exact ⟨by simp only [RS.fit, hcc, Bool.false_eq_true, if_false]; rfl, H.tail.tail⟩
  · try simp only [zn1, zn2, zn3, zn4, zn5, zn6] at h0
    omega
end Go.Proofs.Ytofaoblfemfkiaa

namespace Go.Proofs.Ytofaoblfemfkiaa
open Go Go.RowKit Go.Fw
set_option linter.unusedSimpArgs false
set_option linter.unusedVariables false
set_option maxRecDepth 4000
set_option maxHeartbeats 2000000
theorem en_11 : Enterable Try.prog 11 := ⟨Try.f11, Try.func11, rfl, by decide⟩
theorem en_15 : Enterable Try.prog 15 := ⟨Try.f15, Try.func15, rfl, by decide⟩
theorem en_16 : Enterable Try.prog 16 := ⟨Try.f16, Try.func16, rfl, by decide⟩
theorem en_32 : Enterable Try.prog 32 := ⟨Try.f32, Try.func32, rfl, by decide⟩
theorem en_35 : Enterable Try.prog 35 := ⟨Try.f35, Try.func35, rfl, by decide⟩
theorem en_36 : Enterable Try.prog 36 := ⟨Try.f36, Try.func36, rfl, by decide⟩
theorem fo_54_16 : fOff Try.prog 54 16 = some 35 := by kernel_rfl
theorem fo_54_19 : fOff Try.prog 54 19 = some 46 := by kernel_rfl

theorem shows0 {B w : World} {F : List Ent} {g : Nat} {p : PS} {h a1 a2 a3 a4 : Nat} {r : RS} (H : Own B (.cells g 80 p.cells :: .cells h 54 (r.cellsV (slv (some a1) r.gs.length r.gs.length) (slv (some a2) r.gs.length r.gs.length) (slv (some a3) r.gs.length r.gs.length) (slv (some a4) r.gs.length r.gs.length)) :: F) w) (hd : p.dc = .pointer none) (hrd : r.dc = false) (hrc : r.dec = Cmd.zero) (hwn : p.wn = r.wn) (hbal : max p.bal p.nt = r.nt) (hrnd : p.rnd = r.rnd) (htm : p.tm = .pointer none) (htr : r.tr = false) (hbu : r.bu = 0) (hbe : r.be = ⟨none, 0, 0⟩) (hbl : r.bl = ⟨none, 0, 0⟩) :
    Calls Try.prog 9 #[.pointer (some ⟨g, 0, none⟩), .pointer (some ⟨h, 0, none⟩)] w fun e w' => e = .returned (.bool true) ∧ Own B (.cells g 80 p.cells :: .cells h 54 (r.cellsV (slv (some a1) r.gs.length r.gs.length) (slv (some a2) r.gs.length r.gs.length) (slv (some a3) r.gs.length r.gs.length) (slv (some a4) r.gs.length r.gs.length)) :: F) w' := by
  refine calls_ce (args := [.pointer (some ⟨g, 0, none⟩), .pointer (some ⟨h, 0, none⟩)]) Try.func9 rfl rfl ?_
  change CE _ _ 72 _ _ [(0, .pointer (some ⟨g, 0, none⟩)), (1, .pointer (some ⟨h, 0, none⟩))] _
  refine ce_seq ?_
  refine ce_text (tab := []) (soft := 1) (.op 0 .nil) rfl rfl ?_
  refine re_assign rfl rfl rfl rfl rfl ?_
  refine re_nil ?_
  refine qe_thenC ?_
  refine ce_seq ?_
  refine ce_text (tab := []) (soft := 157) (.op 0 (.op 1 (.op 2 (.op 3 (.op 4 (.op 5 (.op 6 (.op 7 .nil)))))))) rfl rfl ?_
  refine re_move rfl rfl rfl rfl rfl ?_
  refine re_call en_16 rfl rfl rfl rfl rfl ?_
  refine Calls.mono (decided0 H hd) ?_
  rintro e w ⟨rfl, H⟩
  refine ⟨_, rfl, (fun h => (nomatch h)), ?_⟩
  refine re_move rfl rfl rfl rfl rfl ?_
  refine re_extract rfl rfl rfl rfl rfl rfl ?_
  refine re_extract rfl rfl rfl rfl rfl rfl ?_
  refine re_alloc H rfl rfl rfl rfl ze_28 ?_
  intro g5 w H
  refine ⟨(fun h => (nomatch h)), ?_⟩
  refine re_store H rfl rfl rfl rfl rfl rfl sh_28 rfl rfl rfl ?_
  intro cs w hcs H
  first | rw [setMany_whole rfl] at hcs | simp only [setMany, List.set_cons_zero, List.set_cons_succ, Nat.reduceAdd, Nat.zero_add, PS.cells, PS.over, GM.cells, Cmd.cells, List.cons_append, List.nil_append, RS.cellsV, RS.ch, stC, RS.decide, RS.accepted, RS.phase, GM.lent] at hcs
  subst hcs
  refine ⟨(fun h => (nomatch h)), ?_⟩
  refine re_assign rfl rfl rfl rfl rfl ?_
  refine re_nil ?_
  refine qe_thenC ?_
  refine ce_seq ?_
  refine ce_text (tab := []) (soft := 157) (.op 0 (.op 1 (.op 2 (.op 3 (.op 4 (.op 5 (.op 6 (.op 7 .nil)))))))) rfl rfl ?_
  refine re_move rfl rfl rfl rfl rfl ?_
  refine re_call en_32 rfl rfl rfl rfl rfl ?_
  have H := H.front 1
  simp only [arrs, Fw.front, zm1, zm2, zm3, zm4, zm5] at H
  refine Calls.mono (trimmed0 H htm) ?_
  rintro e w ⟨rfl, H⟩
  refine ⟨_, rfl, (fun h => (nomatch h)), ?_⟩
  refine re_move rfl rfl rfl rfl rfl ?_
  refine re_extract rfl rfl rfl rfl rfl rfl ?_
  refine re_extract rfl rfl rfl rfl rfl rfl ?_
  refine re_alloc H rfl rfl rfl rfl ze_43 ?_
  intro g7 w H
  refine ⟨(fun h => (nomatch h)), ?_⟩
  refine re_store H rfl rfl rfl rfl rfl rfl sh_43 rfl rfl rfl ?_
  intro cs w hcs H
  first | rw [setMany_whole rfl] at hcs | simp only [setMany, List.set_cons_zero, List.set_cons_succ, Nat.reduceAdd, Nat.zero_add, PS.cells, PS.over, GM.cells, Cmd.cells, List.cons_append, List.nil_append, RS.cellsV, RS.ch, stC, RS.decide, RS.accepted, RS.phase, GM.lent] at hcs
  subst hcs
  refine ⟨(fun h => (nomatch h)), ?_⟩
  refine re_assign rfl rfl rfl rfl rfl ?_
  refine re_nil ?_
  refine qe_thenC ?_
  refine ce_seq ?_
  refine ce_open (tab := [0, 0, 2, 6, 14, 31, 63, 127, 127, 383, 895, 1919, 4095, 8191, 16383, 32767, 32767, 98303, 229375, 491519, 1048575, 2097151, 4194303, 8388607, 8388607, 25165823, 58720255, 125829119, 268435455, 536870911, 1073741823, 2147483647, 4294967295, 2147483647, 10737418239, 27917287423, 62277025791, 137438953471, 274877906943, 549755813887, 1099511627775, 2199023255551, 1099511627775, 8796093022207, 17592186044415, 35184372088831, 70368744177663, 140737488355327, 281474976710655, 140737488355327, 1125899906842623, 2251799813685247, 4503599627370495, 9007199254740991]) (soft := 16596023946248191) mixed (.op 0 (.op 1 (.op 2 (.op 3 (.op 4 (.op 5 (.op 6 (.op 7 (.op 8 (.op 9 (.op 10 (.op 11 (.op 12 (.op 13 (.op 14 (.op 15 (.op 16 (.op 17 (.op 18 (.op 19 (.op 20 (.op 21 (.op 22 (.op 23 (.op 24 (.op 25 (.op 26 (.op 27 (.op 28 (.op 29 (.op 30 (.op 31 (.op 33 (.op 34 (.op 35 (.op 36 (.op 32 (.op 37 (.op 38 (.op 39 (.op 40 (.op 42 (.op 41 (.op 43 (.op 44 (.op 45 (.op 46 (.op 47 (.op 49 (.op 48 (.op 50 (.op 51 (.op 52 (.op 53 .nil)))))))))))))))))))))))))))))))))))))))))))))))))))))) (by kernel_rfl) H ?_
  intro w H
  refine re_move rfl rfl rfl rfl rfl ?_
  refine re_move rfl rfl rfl rfl rfl ?_
  refine re_nilc rfl rfl rfl rfl rfl ?_
  first | refine re_field0 rfl rfl rfl rfl rfl fo_54_15 ?_ | refine re_field rfl rfl rfl rfl rfl fo_54_15 ?_ | refine re_fieldA rfl rfl rfl rfl rfl fo_54_15 ?_
  refine re_load H rfl rfl rfl rfl rfl sh_4 rfl ?_
  simp only [hrd]
  refine re_binW rfl rfl rfl rfl rfl rfl (run_bools ul_4 (.inl ⟨rfl, rfl⟩)) ?_
  simp only [eq_self, decide_true, Bool.not_true, Bool.and_self, Bool.and_true]
  refine re_move rfl rfl rfl rfl rfl ?_
  refine re_load H rfl rfl rfl rfl rfl sh_28 (by first | exact rdAt_all rfl | (simp only [rdAt, PS.cells, PS.over, GM.cells, Cmd.cells, List.cons_append, List.nil_append, RS.cellsV, RS.ch, stC, RS.decide, RS.accepted, RS.phase, GM.lent, List.drop_succ_cons, List.drop_zero, List.take_succ_cons, List.take_zero, List.length_cons, List.length_nil, Nat.zero_add, Nat.reduceAdd, Nat.reduceLeDiff, Nat.le_refl, ↓reduceIte] <;> rfl)) ?_
  refine re_move rfl rfl rfl rfl rfl ?_
  refine re_nilc rfl rfl rfl rfl rfl ?_
  first | refine re_field0 rfl rfl rfl rfl rfl fo_54_18 ?_ | refine re_field rfl rfl rfl rfl rfl fo_54_18 ?_ | refine re_fieldA rfl rfl rfl rfl rfl fo_54_18 ?_
  refine re_load H rfl rfl rfl rfl rfl sh_28 (by first | exact rdAt_all rfl | (simp only [rdAt, PS.cells, PS.over, GM.cells, Cmd.cells, List.cons_append, List.nil_append, RS.cellsV, RS.ch, stC, RS.decide, RS.accepted, RS.phase, GM.lent, List.drop_succ_cons, List.drop_zero, List.take_succ_cons, List.take_zero, List.length_cons, List.length_nil, Nat.zero_add, Nat.reduceAdd, Nat.reduceLeDiff, Nat.le_refl, ↓reduceIte] <;> rfl)) ?_
  simp only [hrc]
  refine re_eqAgg rfl rfl rfl rfl rfl rfl fk_28 sh_28 ng_28 (by simp only [eqKs, eqK, ↓reduceIte]; rfl) ?_
  simp only [eq_self, decide_true, Bool.not_true, Bool.and_self, Bool.and_true]
  refine re_pickT rfl rfl rfl rfl rfl rfl ?_
  refine re_move rfl rfl rfl rfl rfl ?_
  refine re_move rfl rfl rfl rfl rfl ?_
  refine re_move rfl rfl rfl rfl rfl ?_
  refine re_nilc rfl rfl rfl rfl rfl ?_
  first | refine re_field0 rfl rfl rfl rfl rfl fo_54_16 ?_ | refine re_field rfl rfl rfl rfl rfl fo_54_16 ?_ | refine re_fieldA rfl rfl rfl rfl rfl fo_54_16 ?_
  refine re_load H rfl rfl rfl rfl rfl sh_4 rfl ?_
  simp only [htr]
  refine re_binW rfl rfl rfl rfl rfl rfl (run_bools ul_4 (.inl ⟨rfl, rfl⟩)) ?_
  simp only [eq_self, decide_true, Bool.not_true, Bool.and_self, Bool.and_true]
  refine re_pickT rfl rfl rfl rfl rfl rfl ?_
  refine re_move rfl rfl rfl rfl rfl ?_
  refine re_load H rfl rfl rfl rfl rfl sh_43 (by first | exact rdAt_all rfl | (simp only [rdAt, PS.cells, PS.over, GM.cells, Cmd.cells, List.cons_append, List.nil_append, RS.cellsV, RS.ch, stC, RS.decide, RS.accepted, RS.phase, GM.lent, List.drop_succ_cons, List.drop_zero, List.take_succ_cons, List.take_zero, List.length_cons, List.length_nil, Nat.zero_add, Nat.reduceAdd, Nat.reduceLeDiff, Nat.le_refl, ↓reduceIte] <;> rfl)) ?_
  refine re_move rfl rfl rfl rfl rfl ?_
  refine re_nilc rfl rfl rfl rfl rfl ?_
  first | refine re_field0 rfl rfl rfl rfl rfl fo_54_19 ?_ | refine re_field rfl rfl rfl rfl rfl fo_54_19 ?_ | refine re_fieldA rfl rfl rfl rfl rfl fo_54_19 ?_
  refine re_load H rfl rfl rfl rfl rfl sh_43 (by first | exact rdAt_all rfl | (simp only [rdAt, PS.cells, PS.over, GM.cells, Cmd.cells, List.cons_append, List.nil_append, RS.cellsV, RS.ch, stC, RS.decide, RS.accepted, RS.phase, GM.lent, List.drop_succ_cons, List.drop_zero, List.take_succ_cons, List.take_zero, List.length_cons, List.length_nil, Nat.zero_add, Nat.reduceAdd, Nat.reduceLeDiff, Nat.le_refl, ↓reduceIte] <;> rfl)) ?_
  refine re_call en_33 rfl rfl rfl rfl rfl ?_
  simp only [hbu, hbe, hbl]
  refine Calls.mono (sameBucket0 H) ?_
  rintro e w ⟨rfl, H⟩
  refine ⟨_, rfl, (fun _ => ⟨ancs (i := 28) (j := 27) rfl, ancs (i := 28) (j := 23) rfl, ancs (i := 28) (j := 19) rfl, ancs (i := 28) (j := 11) rfl, ancs (i := 28) (j := 7) rfl, ancs (i := 28) (j := 4) rfl, trivial⟩), ?_⟩
  refine re_pickT rfl rfl rfl rfl rfl rfl ?_
  refine re_move rfl rfl rfl rfl rfl ?_
  refine re_move rfl rfl rfl rfl rfl ?_
  refine re_move rfl rfl rfl rfl rfl ?_
  refine re_nilc rfl rfl rfl rfl rfl ?_
  first | refine re_field0 rfl rfl rfl rfl rfl fo_54_17 ?_ | refine re_field rfl rfl rfl rfl rfl fo_54_17 ?_ | refine re_fieldA rfl rfl rfl rfl rfl fo_54_17 ?_
  refine re_load H rfl rfl rfl rfl rfl sh_4 rfl ?_
  refine re_call en_11 rfl rfl rfl rfl rfl ?_
  have H := H.front 1
  simp only [arrs, Fw.front, zm1, zm2, zm3, zm4, zm5] at H
  refine Calls.mono (worn_s H) ?_
  rintro e w ⟨rfl, H⟩
  refine ⟨_, rfl, (fun _ => ⟨fun _ => still_load H sh_4 rfl, ancs (i := 32) (j := 27) rfl, ancs (i := 32) (j := 23) rfl, ancs (i := 32) (j := 19) rfl, ancs (i := 32) (j := 11) rfl, ancs (i := 32) (j := 7) rfl, ancs (i := 32) (j := 4) rfl, trivial⟩), ?_⟩
  simp only [hwn]
  refine re_binW rfl rfl rfl rfl rfl rfl (run_bools ul_4 (.inl ⟨rfl, rfl⟩)) ?_
  simp only [eq_self, decide_true, Bool.not_true, Bool.and_self, Bool.and_true]
  refine re_pickT rfl rfl rfl rfl rfl rfl ?_
  refine re_move rfl rfl rfl rfl rfl ?_
  refine re_move rfl rfl rfl rfl rfl ?_
  refine re_move rfl rfl rfl rfl rfl ?_
  refine re_call en_34 rfl rfl rfl rfl rfl ?_
  refine Calls.mono (ballot_s H) ?_
  rintro e w ⟨rfl, H⟩
  refine ⟨_, rfl, (fun _ => ⟨ancs (i := 41) (j := 36) rfl, ancs (i := 41) (j := 27) rfl, ancs (i := 41) (j := 23) rfl, ancs (i := 41) (j := 19) rfl, ancs (i := 41) (j := 11) rfl, ancs (i := 41) (j := 7) rfl, ancs (i := 41) (j := 4) rfl, trivial⟩), ?_⟩
  refine re_call en_35 rfl rfl rfl rfl rfl ?_
  have H := H.front 3
  simp only [arrs, Fw.front, zm1, zm2, zm3, zm4, zm5] at H
  refine Calls.mono (ballot_r H) ?_
  rintro e w ⟨rfl, H⟩
  refine ⟨_, rfl, (fun _ => ⟨ancs (i := 43) (j := 36) rfl, ancs (i := 43) (j := 27) rfl, ancs (i := 43) (j := 23) rfl, ancs (i := 43) (j := 19) rfl, ancs (i := 43) (j := 11) rfl, ancs (i := 43) (j := 7) rfl, ancs (i := 43) (j := 4) rfl, trivial⟩), ?_⟩
  simp only [hbal]
  refine re_bin rfl rfl rfl rfl rfl rfl rfl ?_
  simp only [eq_self, decide_true, Bool.not_true, Bool.and_self, Bool.and_true]
  refine re_pickT rfl rfl rfl rfl rfl rfl ?_
  refine re_move rfl rfl rfl rfl rfl ?_
  refine re_move rfl rfl rfl rfl rfl ?_
  refine re_move rfl rfl rfl rfl rfl ?_
  refine re_call en_15 rfl rfl rfl rfl rfl ?_
  have H := H.front 1
  simp only [arrs, Fw.front, zm1, zm2, zm3, zm4, zm5] at H
  refine Calls.mono (round_s H) ?_
  rintro e w ⟨rfl, H⟩
  refine ⟨_, rfl, (fun _ => ⟨ancs (i := 48) (j := 36) rfl, ancs (i := 48) (j := 27) rfl, ancs (i := 48) (j := 23) rfl, ancs (i := 48) (j := 19) rfl, ancs (i := 48) (j := 11) rfl, ancs (i := 48) (j := 7) rfl, ancs (i := 48) (j := 4) rfl, trivial⟩), ?_⟩
  refine re_call en_36 rfl rfl rfl rfl rfl ?_
  have H := H.front 1
  simp only [arrs, Fw.front, zm1, zm2, zm3, zm4, zm5] at H
  refine Calls.mono (round_r H) ?_
  rintro e w ⟨rfl, H⟩
  refine ⟨_, rfl, (fun _ => ⟨ancs (i := 50) (j := 36) rfl, ancs (i := 50) (j := 27) rfl, ancs (i := 50) (j := 23) rfl, ancs (i := 50) (j := 19) rfl, ancs (i := 50) (j := 11) rfl, ancs (i := 50) (j := 7) rfl, ancs (i := 50) (j := 4) rfl, trivial⟩), ?_⟩
  simp only [hrnd]
  refine re_bin rfl rfl rfl rfl rfl rfl rfl ?_
  simp only [eq_self, decide_true, Bool.not_true, Bool.and_self, Bool.and_true]
  refine re_pickT rfl rfl rfl rfl rfl rfl ?_
  refine re_assign rfl rfl rfl rfl rfl ?_
  refine re_nil ?_
  refine qe_noPanic ?_
  refine qe_thenC ?_
  refine ce_ret ?_
  refine qe_end rfl rfl ?_
  have H := H.front 0
  have H := H.front 1
  simp only [arrs, Fw.front, zm1, zm2, zm3, zm4, zm5] at H
  replace H := H.sub (.cons_cons _ (.cons_cons _ (.cons _ (.cons _ (List.Sublist.refl _)))))
  exact ⟨rfl, H⟩

theorem shows1 {B w : World} {F : List Ent} {g : Nat} {p : PS} {h a1 a2 a3 a4 : Nat} {r : RS} {q : Nat} {c : Cmd} (H : Own B (.cells g 80 p.cells :: .cells q 28 c.cells :: .cells h 54 (r.cellsV (slv (some a1) r.gs.length r.gs.length) (slv (some a2) r.gs.length r.gs.length) (slv (some a3) r.gs.length r.gs.length) (slv (some a4) r.gs.length r.gs.length)) :: F) w) (hd : p.dc = .pointer (some ⟨q, 0, none⟩)) (hrd : r.dc = true) (hrc : r.dec = c) (hwn : p.wn = r.wn) (hbal : max p.bal p.nt = r.nt) (hrnd : p.rnd = r.rnd) (htm : p.tm = .pointer none) (htr : r.tr = false) (hbu : r.bu = 0) (hbe : r.be = ⟨none, 0, 0⟩) (hbl : r.bl = ⟨none, 0, 0⟩) :
    Calls Try.prog 9 #[.pointer (some ⟨g, 0, none⟩), .pointer (some ⟨h, 0, none⟩)] w fun e w' => e = .returned (.bool true) ∧ Own B (.cells g 80 p.cells :: .cells q 28 c.cells :: .cells h 54 (r.cellsV (slv (some a1) r.gs.length r.gs.length) (slv (some a2) r.gs.length r.gs.length) (slv (some a3) r.gs.length r.gs.length) (slv (some a4) r.gs.length r.gs.length)) :: F) w' := by
  refine calls_ce (args := [.pointer (some ⟨g, 0, none⟩), .pointer (some ⟨h, 0, none⟩)]) Try.func9 rfl rfl ?_
  change CE _ _ 72 _ _ [(0, .pointer (some ⟨g, 0, none⟩)), (1, .pointer (some ⟨h, 0, none⟩))] _
  refine ce_seq ?_
  refine ce_text (tab := []) (soft := 1) (.op 0 .nil) rfl rfl ?_
  refine re_assign rfl rfl rfl rfl rfl ?_
  refine re_nil ?_
  refine qe_thenC ?_
  refine ce_seq ?_
  refine ce_text (tab := []) (soft := 157) (.op 0 (.op 1 (.op 2 (.op 3 (.op 4 (.op 5 (.op 6 (.op 7 .nil)))))))) rfl rfl ?_
  refine re_move rfl rfl rfl rfl rfl ?_
  refine re_call en_16 rfl rfl rfl rfl rfl ?_
  refine Calls.mono (decided1 H hd) ?_
  rintro e w ⟨rfl, H⟩
  refine ⟨_, rfl, (fun h => (nomatch h)), ?_⟩
  refine re_move rfl rfl rfl rfl rfl ?_
  refine re_extract rfl rfl rfl rfl rfl rfl ?_
  refine re_extract rfl rfl rfl rfl rfl rfl ?_
  refine re_alloc H rfl rfl rfl rfl ze_28 ?_
  intro g5 w H
  refine ⟨(fun h => (nomatch h)), ?_⟩
  refine re_store H rfl rfl rfl rfl rfl rfl sh_28 rfl rfl rfl ?_
  intro cs w hcs H
  first | rw [setMany_whole rfl] at hcs | simp only [setMany, List.set_cons_zero, List.set_cons_succ, Nat.reduceAdd, Nat.zero_add, PS.cells, PS.over, GM.cells, Cmd.cells, List.cons_append, List.nil_append, RS.cellsV, RS.ch, stC, RS.decide, RS.accepted, RS.phase, GM.lent] at hcs
  subst hcs
  refine ⟨(fun h => (nomatch h)), ?_⟩
  refine re_assign rfl rfl rfl rfl rfl ?_
  refine re_nil ?_
  refine qe_thenC ?_
  refine ce_seq ?_
  refine ce_text (tab := []) (soft := 157) (.op 0 (.op 1 (.op 2 (.op 3 (.op 4 (.op 5 (.op 6 (.op 7 .nil)))))))) rfl rfl ?_
  refine re_move rfl rfl rfl rfl rfl ?_
  refine re_call en_32 rfl rfl rfl rfl rfl ?_
  have H := H.front 1
  simp only [arrs, Fw.front, zm1, zm2, zm3, zm4, zm5] at H
  refine Calls.mono (trimmed0 H htm) ?_
  rintro e w ⟨rfl, H⟩
  refine ⟨_, rfl, (fun h => (nomatch h)), ?_⟩
  refine re_move rfl rfl rfl rfl rfl ?_
  refine re_extract rfl rfl rfl rfl rfl rfl ?_
  refine re_extract rfl rfl rfl rfl rfl rfl ?_
  refine re_alloc H rfl rfl rfl rfl ze_43 ?_
  intro g7 w H
  refine ⟨(fun h => (nomatch h)), ?_⟩
  refine re_store H rfl rfl rfl rfl rfl rfl sh_43 rfl rfl rfl ?_
  intro cs w hcs H
  first | rw [setMany_whole rfl] at hcs | simp only [setMany, List.set_cons_zero, List.set_cons_succ, Nat.reduceAdd, Nat.zero_add, PS.cells, PS.over, GM.cells, Cmd.cells, List.cons_append, List.nil_append, RS.cellsV, RS.ch, stC, RS.decide, RS.accepted, RS.phase, GM.lent] at hcs
  subst hcs
  refine ⟨(fun h => (nomatch h)), ?_⟩
  refine re_assign rfl rfl rfl rfl rfl ?_
  refine re_nil ?_
  refine qe_thenC ?_
  refine ce_seq ?_
  refine ce_open (tab := [0, 0, 2, 6, 14, 31, 63, 127, 127, 383, 895, 1919, 4095, 8191, 16383, 32767, 32767, 98303, 229375, 491519, 1048575, 2097151, 4194303, 8388607, 8388607, 25165823, 58720255, 125829119, 268435455, 536870911, 1073741823, 2147483647, 4294967295, 2147483647, 10737418239, 27917287423, 62277025791, 137438953471, 274877906943, 549755813887, 1099511627775, 2199023255551, 1099511627775, 8796093022207, 17592186044415, 35184372088831, 70368744177663, 140737488355327, 281474976710655, 140737488355327, 1125899906842623, 2251799813685247, 4503599627370495, 9007199254740991]) (soft := 16596023946248191) mixed (.op 0 (.op 1 (.op 2 (.op 3 (.op 4 (.op 5 (.op 6 (.op 7 (.op 8 (.op 9 (.op 10 (.op 11 (.op 12 (.op 13 (.op 14 (.op 15 (.op 16 (.op 17 (.op 18 (.op 19 (.op 20 (.op 21 (.op 22 (.op 23 (.op 24 (.op 25 (.op 26 (.op 27 (.op 28 (.op 29 (.op 30 (.op 31 (.op 33 (.op 34 (.op 35 (.op 36 (.op 32 (.op 37 (.op 38 (.op 39 (.op 40 (.op 42 (.op 41 (.op 43 (.op 44 (.op 45 (.op 46 (.op 47 (.op 49 (.op 48 (.op 50 (.op 51 (.op 52 (.op 53 .nil)))))))))))))))))))))))))))))))))))))))))))))))))))))) (by kernel_rfl) H ?_
  intro w H
  refine re_move rfl rfl rfl rfl rfl ?_
  refine re_move rfl rfl rfl rfl rfl ?_
  refine re_nilc rfl rfl rfl rfl rfl ?_
  first | refine re_field0 rfl rfl rfl rfl rfl fo_54_15 ?_ | refine re_field rfl rfl rfl rfl rfl fo_54_15 ?_ | refine re_fieldA rfl rfl rfl rfl rfl fo_54_15 ?_
  refine re_load H rfl rfl rfl rfl rfl sh_4 rfl ?_
  simp only [hrd]
  refine re_binW rfl rfl rfl rfl rfl rfl (run_bools ul_4 (.inl ⟨rfl, rfl⟩)) ?_
  simp only [eq_self, decide_true, Bool.not_true, Bool.and_self, Bool.and_true]
  refine re_move rfl rfl rfl rfl rfl ?_
  refine re_load H rfl rfl rfl rfl rfl sh_28 (by first | exact rdAt_all rfl | (simp only [rdAt, PS.cells, PS.over, GM.cells, Cmd.cells, List.cons_append, List.nil_append, RS.cellsV, RS.ch, stC, RS.decide, RS.accepted, RS.phase, GM.lent, List.drop_succ_cons, List.drop_zero, List.take_succ_cons, List.take_zero, List.length_cons, List.length_nil, Nat.zero_add, Nat.reduceAdd, Nat.reduceLeDiff, Nat.le_refl, ↓reduceIte] <;> rfl)) ?_
  refine re_move rfl rfl rfl rfl rfl ?_
  refine re_nilc rfl rfl rfl rfl rfl ?_
  first | refine re_field0 rfl rfl rfl rfl rfl fo_54_18 ?_ | refine re_field rfl rfl rfl rfl rfl fo_54_18 ?_ | refine re_fieldA rfl rfl rfl rfl rfl fo_54_18 ?_
  refine re_load H rfl rfl rfl rfl rfl sh_28 (by first | exact rdAt_all rfl | (simp only [rdAt, PS.cells, PS.over, GM.cells, Cmd.cells, List.cons_append, List.nil_append, RS.cellsV, RS.ch, stC, RS.decide, RS.accepted, RS.phase, GM.lent, List.drop_succ_cons, List.drop_zero, List.take_succ_cons, List.take_zero, List.length_cons, List.length_nil, Nat.zero_add, Nat.reduceAdd, Nat.reduceLeDiff, Nat.le_refl, ↓reduceIte] <;> rfl)) ?_
  simp only [hrc]
  refine re_eqAgg rfl rfl rfl rfl rfl rfl fk_28 sh_28 ng_28 (by simp only [eqKs, eqK, ↓reduceIte]; rfl) ?_
  simp only [eq_self, decide_true, Bool.not_true, Bool.and_self, Bool.and_true]
  refine re_pickT rfl rfl rfl rfl rfl rfl ?_
  refine re_move rfl rfl rfl rfl rfl ?_
  refine re_move rfl rfl rfl rfl rfl ?_
  refine re_move rfl rfl rfl rfl rfl ?_
  refine re_nilc rfl rfl rfl rfl rfl ?_
  first | refine re_field0 rfl rfl rfl rfl rfl fo_54_16 ?_ | refine re_field rfl rfl rfl rfl rfl fo_54_16 ?_ | refine re_fieldA rfl rfl rfl rfl rfl fo_54_16 ?_
  refine re_load H rfl rfl rfl rfl rfl sh_4 rfl ?_
  simp only [htr]
  refine re_binW rfl rfl rfl rfl rfl rfl (run_bools ul_4 (.inl ⟨rfl, rfl⟩)) ?_
  simp only [eq_self, decide_true, Bool.not_true, Bool.and_self, Bool.and_true]
  refine re_pickT rfl rfl rfl rfl rfl rfl ?_
  refine re_move rfl rfl rfl rfl rfl ?_
  refine re_load H rfl rfl rfl rfl rfl sh_43 (by first | exact rdAt_all rfl | (simp only [rdAt, PS.cells, PS.over, GM.cells, Cmd.cells, List.cons_append, List.nil_append, RS.cellsV, RS.ch, stC, RS.decide, RS.accepted, RS.phase, GM.lent, List.drop_succ_cons, List.drop_zero, List.take_succ_cons, List.take_zero, List.length_cons, List.length_nil, Nat.zero_add, Nat.reduceAdd, Nat.reduceLeDiff, Nat.le_refl, ↓reduceIte] <;> rfl)) ?_
  refine re_move rfl rfl rfl rfl rfl ?_
  refine re_nilc rfl rfl rfl rfl rfl ?_
  first | refine re_field0 rfl rfl rfl rfl rfl fo_54_19 ?_ | refine re_field rfl rfl rfl rfl rfl fo_54_19 ?_ | refine re_fieldA rfl rfl rfl rfl rfl fo_54_19 ?_
  refine re_load H rfl rfl rfl rfl rfl sh_43 (by first | exact rdAt_all rfl | (simp only [rdAt, PS.cells, PS.over, GM.cells, Cmd.cells, List.cons_append, List.nil_append, RS.cellsV, RS.ch, stC, RS.decide, RS.accepted, RS.phase, GM.lent, List.drop_succ_cons, List.drop_zero, List.take_succ_cons, List.take_zero, List.length_cons, List.length_nil, Nat.zero_add, Nat.reduceAdd, Nat.reduceLeDiff, Nat.le_refl, ↓reduceIte] <;> rfl)) ?_
  refine re_call en_33 rfl rfl rfl rfl rfl ?_
  simp only [hbu, hbe, hbl]
  refine Calls.mono (sameBucket0 H) ?_
  rintro e w ⟨rfl, H⟩
  refine ⟨_, rfl, (fun _ => ⟨ancs (i := 28) (j := 27) rfl, ancs (i := 28) (j := 23) rfl, ancs (i := 28) (j := 19) rfl, ancs (i := 28) (j := 11) rfl, ancs (i := 28) (j := 7) rfl, ancs (i := 28) (j := 4) rfl, trivial⟩), ?_⟩
  refine re_pickT rfl rfl rfl rfl rfl rfl ?_
  refine re_move rfl rfl rfl rfl rfl ?_
  refine re_move rfl rfl rfl rfl rfl ?_
  refine re_move rfl rfl rfl rfl rfl ?_
  refine re_nilc rfl rfl rfl rfl rfl ?_
  first | refine re_field0 rfl rfl rfl rfl rfl fo_54_17 ?_ | refine re_field rfl rfl rfl rfl rfl fo_54_17 ?_ | refine re_fieldA rfl rfl rfl rfl rfl fo_54_17 ?_
  refine re_load H rfl rfl rfl rfl rfl sh_4 rfl ?_
  refine re_call en_11 rfl rfl rfl rfl rfl ?_
  have H := H.front 1
  simp only [arrs, Fw.front, zm1, zm2, zm3, zm4, zm5] at H
  refine Calls.mono (worn_s H) ?_
  rintro e w ⟨rfl, H⟩
  refine ⟨_, rfl, (fun _ => ⟨fun _ => still_load H sh_4 rfl, ancs (i := 32) (j := 27) rfl, ancs (i := 32) (j := 23) rfl, ancs (i := 32) (j := 19) rfl, ancs (i := 32) (j := 11) rfl, ancs (i := 32) (j := 7) rfl, ancs (i := 32) (j := 4) rfl, trivial⟩), ?_⟩
  simp only [hwn]
  refine re_binW rfl rfl rfl rfl rfl rfl (run_bools ul_4 (.inl ⟨rfl, rfl⟩)) ?_
  simp only [eq_self, decide_true, Bool.not_true, Bool.and_self, Bool.and_true]
  refine re_pickT rfl rfl rfl rfl rfl rfl ?_
  refine re_move rfl rfl rfl rfl rfl ?_
  refine re_move rfl rfl rfl rfl rfl ?_
  refine re_move rfl rfl rfl rfl rfl ?_
  refine re_call en_34 rfl rfl rfl rfl rfl ?_
  refine Calls.mono (ballot_s H) ?_
  rintro e w ⟨rfl, H⟩
  refine ⟨_, rfl, (fun _ => ⟨ancs (i := 41) (j := 36) rfl, ancs (i := 41) (j := 27) rfl, ancs (i := 41) (j := 23) rfl, ancs (i := 41) (j := 19) rfl, ancs (i := 41) (j := 11) rfl, ancs (i := 41) (j := 7) rfl, ancs (i := 41) (j := 4) rfl, trivial⟩), ?_⟩
  refine re_call en_35 rfl rfl rfl rfl rfl ?_
  have H := H.front 4
  simp only [arrs, Fw.front, zm1, zm2, zm3, zm4, zm5] at H
  refine Calls.mono (ballot_r H) ?_
  rintro e w ⟨rfl, H⟩
  refine ⟨_, rfl, (fun _ => ⟨ancs (i := 43) (j := 36) rfl, ancs (i := 43) (j := 27) rfl, ancs (i := 43) (j := 23) rfl, ancs (i := 43) (j := 19) rfl, ancs (i := 43) (j := 11) rfl, ancs (i := 43) (j := 7) rfl, ancs (i := 43) (j := 4) rfl, trivial⟩), ?_⟩
  simp only [hbal]
  refine re_bin rfl rfl rfl rfl rfl rfl rfl ?_
  simp only [eq_self, decide_true, Bool.not_true, Bool.and_self, Bool.and_true]
  refine re_pickT rfl rfl rfl rfl rfl rfl ?_
  refine re_move rfl rfl rfl rfl rfl ?_
  refine re_move rfl rfl rfl rfl rfl ?_
  refine re_move rfl rfl rfl rfl rfl ?_
  refine re_call en_15 rfl rfl rfl rfl rfl ?_
  have H := H.front 1
  simp only [arrs, Fw.front, zm1, zm2, zm3, zm4, zm5] at H
  refine Calls.mono (round_s H) ?_
  rintro e w ⟨rfl, H⟩
  refine ⟨_, rfl, (fun _ => ⟨ancs (i := 48) (j := 36) rfl, ancs (i := 48) (j := 27) rfl, ancs (i := 48) (j := 23) rfl, ancs (i := 48) (j := 19) rfl, ancs (i := 48) (j := 11) rfl, ancs (i := 48) (j := 7) rfl, ancs (i := 48) (j := 4) rfl, trivial⟩), ?_⟩
  refine re_call en_36 rfl rfl rfl rfl rfl ?_
  have H := H.front 1
  simp only [arrs, Fw.front, zm1, zm2, zm3, zm4, zm5] at H
  refine Calls.mono (round_r H) ?_
  rintro e w ⟨rfl, H⟩
  refine ⟨_, rfl, (fun _ => ⟨ancs (i := 50) (j := 36) rfl, ancs (i := 50) (j := 27) rfl, ancs (i := 50) (j := 23) rfl, ancs (i := 50) (j := 19) rfl, ancs (i := 50) (j := 11) rfl, ancs (i := 50) (j := 7) rfl, ancs (i := 50) (j := 4) rfl, trivial⟩), ?_⟩
  simp only [hrnd]
  refine re_bin rfl rfl rfl rfl rfl rfl rfl ?_
  simp only [eq_self, decide_true, Bool.not_true, Bool.and_self, Bool.and_true]
  refine re_pickT rfl rfl rfl rfl rfl rfl ?_
  refine re_assign rfl rfl rfl rfl rfl ?_
  refine re_nil ?_
  refine qe_noPanic ?_
  refine qe_thenC ?_
  refine ce_ret ?_
  refine qe_end rfl rfl ?_
  have H := Own.arr [0, 4, 2] H
  simp only [arrs, Fw.front, zm1, zm2, zm3, zm4, zm5] at H
  replace H := H.sub (.cons_cons _ (.cons_cons _ (.cons_cons _ (.cons _ (.cons _ (List.Sublist.refl _))))))
  exact ⟨rfl, H⟩
end Go.Proofs.Ytofaoblfemfkiaa

namespace Go.Proofs.Ytofaoblfemfkiaa
open Go Go.RowKit Go.Fw
set_option linter.unusedSimpArgs false
set_option linter.unusedVariables false
set_option maxRecDepth 4000
set_option maxHeartbeats 2000000


/-! ### Lists that go side by side -/
def ansOf (gs hs : List Int) : List Bool := gs.map fun g => decide (g ∈ hs)
def cntOf (gs : List Int) (ms : List (Int × GM)) : List Bool := gs.map fun g => (msGet ms g).isSome
theorem kvGet_heard (hs : List Int) (x : Int) : (kvGet (heardK hs) x).isNone = !decide (x ∈ hs) := by
  induction hs with
  | nil => rfl
  | cons y r ih =>
    simp only [heardK, List.map_cons, kvGet] at ih ⊢
    by_cases h : x = y
    · simp [h]
    · simp only [h, if_false, ih, List.mem_cons, false_or]
theorem rest_missing : ∀ (gs hs : List Int), restOf gs (ansOf gs hs) = missing gs (heardK hs)
  | [], _ => rfl
  | g :: gs, hs => by
    have ih := rest_missing gs hs
    simp only [ansOf, List.map_cons, restOf, missing] at ih ⊢
    rw [List.filter_cons, kvGet_heard, ih]
    by_cases h : g ∈ hs <;> simp [h]
theorem fresh_eq (p : PS) (hs : List Int) (v : Int) : p.fresh hs v = (decide (v ∈ p.gs) && !decide (v ∈ hs)) := by
  simp only [PS.fresh, missing, List.mem_filter, kvGet_heard]
  by_cases h1 : v ∈ p.gs <;> by_cases h2 : v ∈ hs <;> simp [h1, h2]
theorem ansOf_set {gs hs : List Int} {k : Nat} (h : k < gs.length) (hn : gs.Nodup) : (ansOf gs hs).set k true = ansOf gs (hs ++ [gs[k]]) := by
  apply List.ext_getElem
  · simp [ansOf]
  · intro j h1 h2
    simp only [ansOf, List.getElem_set, List.getElem_map, List.length_set, List.length_map] at h1 h2 ⊢
    by_cases hj : k = j
    · subst hj; simp
    · have hne : gs[j] ≠ gs[k] := fun e => hj ((List.getElem_inj hn).1 e).symm
      simp [hj, hne]
theorem ansOf_get {gs hs : List Int} {k : Nat} (h : k < gs.length) (h' : k < (ansOf gs hs).length) : (ansOf gs hs)[k] = decide (gs[k] ∈ hs) := by simp [ansOf]
theorem msGet_snoc (ms : List (Int × GM)) (s : Int) (m : GM) (v : Int) : msGet (ms ++ [(s, m)]) v = (match msGet ms v with | some x => some x | none => if v = s then some m else none) := by
  induction ms with
  | nil => rfl
  | cons x r ih =>
    obtain ⟨j, y⟩ := x
    simp only [List.cons_append, msGet]
    by_cases h : v = j
    · simp [h]
    · simp only [h, if_false, ih]
theorem cntOf_set {gs : List Int} {ms : List (Int × GM)} {m : GM} {k : Nat} (h : k < gs.length) (hn : gs.Nodup) : (cntOf gs ms).set k true = cntOf gs (ms ++ [(gs[k], m)]) := by
  apply List.ext_getElem
  · simp [cntOf]
  · intro j h1 h2
    simp only [cntOf, List.getElem_set, List.getElem_map, List.length_set, List.length_map, msGet_snoc] at h1 h2 ⊢
    by_cases hj : k = j
    · subst hj; cases msGet ms gs[k] <;> simp
    · have hne : gs[j] ≠ gs[k] := fun e => hj ((List.getElem_inj hn).1 e).symm
      cases msGet ms gs[j] <;> simp [hj, hne]
theorem cntN_set : ∀ (l : List Bool) (k : Nat) (h : k < l.length), l[k] = false → cntN (l.set k true) = cntN l + 1
  | b :: l, 0, _, hk => by simp at hk; subst hk; simp [cntN]
  | b :: l, k + 1, h, hk => by
    have ih := cntN_set l k (by simpa using h) (by simpa using hk)
    cases b <;> simp [cntN] at ih ⊢ <;> omega
  | [], _, h, _ => by simp at h
theorem cntN_none (gs : List Int) : cntN (cntOf gs []) = 0 := by
  induction gs with
  | nil => rfl
  | cons g gs ih => simpa [cntOf, msGet, cntN] using ih
theorem ansOf_nil (gs : List Int) : ansOf gs [] = List.replicate gs.length false := by
  induction gs with
  | nil => rfl
  | cons g gs ih => simp [ansOf] at ih ⊢; simpa [List.replicate_succ] using ih
theorem cntOf_nil (gs : List Int) : cntOf gs [] = List.replicate gs.length false := by
  induction gs with
  | nil => rfl
  | cons g gs ih => simp [cntOf, msGet] at ih ⊢; simpa [List.replicate_succ] using ih
theorem idxOf_get {gs : List Int} {v : Int} (h : v ∈ gs) : ∃ k : Nat, ∃ hk : k < gs.length, idxOf v gs = (k : Int) ∧ gs[k] = v := by
  have gen : ∀ (xs : List Int) (i : Nat), v ∈ xs → ∃ k : Nat, ∃ hk : k < xs.length, idxGo v xs i = ((i + k : Nat) : Int) ∧ xs[k] = v := by
    intro xs
    induction xs with
    | nil => intro i h; cases h
    | cons x r ih =>
      intro i h
      by_cases hx : v = x
      · exact ⟨0, by simp, by simp [idxGo, hx], by simp [hx]⟩
      · have hr : v ∈ r := by
          cases h with
          | head => exact absurd rfl hx
          | tail _ h => exact h
        obtain ⟨k, hk, h1, h2⟩ := ih (i + 1) hr
        exact ⟨k + 1, by simpa using hk, by simp only [idxGo, hx, if_false, h1]; congr 1; omega, by simpa using h2⟩
  obtain ⟨k, hk, h1, h2⟩ := gen gs 0 h
  exact ⟨k, hk, by simpa [idxOf] using h1, h2⟩
end Go.Proofs.Ytofaoblfemfkiaa

namespace Go.Proofs.Ytofaoblfemfkiaa
open Go Go.RowKit Go.Fw
set_option linter.unusedSimpArgs false
set_option linter.unusedVariables false
set_option maxRecDepth 4000
set_option maxHeartbeats 2000000


/-! ### The two proposers, side by side -/
structure Base (p : PS) (r : RS) : Prop where
  cl : p.cl = r.cl
  op : p.op = r.op
  kk : p.kk = r.kk
  ka : p.ka = r.ka
  kb : p.kb = r.kb
  kc : p.kc = r.kc
  gs : p.gs = r.gs
  mine : p.mine = r.mine
  rnd : p.rnd = r.rnd
  nt : max p.bal p.nt = r.nt
  wn : p.wn = r.wn
  tm : p.tm = .pointer none
  tr : r.tr = false
  bu : r.bu = 0
  be : r.be = ⟨none, 0, 0⟩
  bl : r.bl = ⟨none, 0, 0⟩
  nd : p.gs.Nodup
  un : unlike p.gs = p.gs
  len : p.gs.length ≤ 1000
  pos : 0 < p.gs.length
  la : r.ans.length = r.gs.length
  lc : r.cnt.length = r.gs.length
  lh : r.held.length = r.gs.length
  lm : r.cms.length = r.gs.length
structure Live (p : PS) (r : RS) (hs : List Int) (ms : List (Int × GM)) : Prop extends Base p r where
  bal : p.bal = r.n
  rf : p.rf = r.nk
  b1 : 1 ≤ p.bal
  r1 : 1 ≤ p.rnd
  dc : p.dc = .pointer none
  rdc : r.dc = false
  dec : r.dec = Cmd.zero
  ans : r.ans = ansOf p.gs hs
  cnt : r.cnt = cntOf p.gs ms
  held : r.held = List.replicate r.gs.length (0, 0)
  na : cntN r.ans = hs.length
  nc : cntN r.cnt = ms.length
  hz : ∀ x ∈ ms, x.2.h0 = 0 ∧ x.2.h1 = 0
  sub : ∀ v, (msGet ms v).isSome = true → v ∈ hs
  few : (ms.length : Int) < (p.gs.length : Int) / 2 + 1
theorem Live.hl {p : PS} {r : RS} {hs : List Int} {ms : List (Int × GM)} (h : Live p r hs ms) : hs.length ≤ p.gs.length := by
  have h1 := cntN_le r.ans
  rw [h.na, h.la, ← h.gs] at h1
  exact h1

/-- Both proposers in memory. -/
inductive Inv (B : World) (F : List Ent) (g h : Nat) (w : World) : Prop
  | live (p : PS) (r : RS) (hs : List Int) (ms : List (Int × GM)) (ht hc hm : Nat) (ha : Option Nat) (qt qc qm : Nat) (qa : Option Nat) (a1 a2 a3 a4 : Nat)
      (H : Own B (.cells g 80 p.cells :: .row p.ga p.gc 3 1 p.gs.length (ints p.gs) :: .cells ht 109 [slv ha p.gs.length hc, .int .i64 ((p.gs.length : Int) + 1), .map (some hm)] :: .row ha hc 3 1 p.gs.length (ints p.gs) :: .imap hm (heardK hs) :: .cells qt 145 [slv qa p.gs.length qc, .int .i64 ((p.gs.length : Int) / 2 + 1), .map (some qm)] :: .row qa qc 3 1 p.gs.length (ints p.gs) :: .imap qm (kvM ms) :: .cells h 54 (r.cellsV (slv (some a1) r.gs.length r.gs.length) (slv (some a2) r.gs.length r.gs.length) (slv (some a3) r.gs.length r.gs.length) (slv (some a4) r.gs.length r.gs.length)) :: .row r.ga r.gc 3 1 r.gs.length (ints r.gs) :: .cells a1 4 (bools r.ans) :: .cells a2 4 (bools r.cnt) :: .cells a3 38 (stamps r.held) :: .cells a4 28 (cmdsC r.cms) :: F) w) (hh : p.hd = .pointer (some ⟨ht, 0, none⟩)) (L : Live p r hs ms)
      (ph : (p.ph = phP qt ∧ r.ph = 1) ∨ (p.ph = phA qt p.mine ∧ r.ph = 2 ∧ r.chosen = p.mine)) : Inv B F g h w
  | over0 (p : PS) (r : RS) (a1 a2 a3 a4 : Nat) (H : Own B (.cells g 80 p.cells :: .cells h 54 (r.cellsV (slv (some a1) r.gs.length r.gs.length) (slv (some a2) r.gs.length r.gs.length) (slv (some a3) r.gs.length r.gs.length) (slv (some a4) r.gs.length r.gs.length)) :: .row r.ga r.gc 3 1 r.gs.length (ints r.gs) :: .cells a1 4 (bools r.ans) :: .cells a2 4 (bools r.cnt) :: .cells a3 38 (stamps r.held) :: .cells a4 28 (cmdsC r.cms) :: F) w) (L : Base p r) (ph : p.ph = .iface 97 (.agg #[])) (rp : r.ph = 3) (dc : p.dc = .pointer none) (rdc : r.dc = false) (dec : r.dec = Cmd.zero) : Inv B F g h w
  | over1 (p : PS) (r : RS) (q : Nat) (c : Cmd) (a1 a2 a3 a4 : Nat) (H : Own B (.cells g 80 p.cells :: .cells q 28 c.cells :: .cells h 54 (r.cellsV (slv (some a1) r.gs.length r.gs.length) (slv (some a2) r.gs.length r.gs.length) (slv (some a3) r.gs.length r.gs.length) (slv (some a4) r.gs.length r.gs.length)) :: .row r.ga r.gc 3 1 r.gs.length (ints r.gs) :: .cells a1 4 (bools r.ans) :: .cells a2 4 (bools r.cnt) :: .cells a3 38 (stamps r.held) :: .cells a4 28 (cmdsC r.cms) :: F) w) (L : Base p r) (ph : p.ph = .iface 97 (.agg #[])) (rp : r.ph = 3) (dc : p.dc = .pointer (some ⟨q, 0, none⟩)) (rdc : r.dc = true) (dec : r.dec = c) : Inv B F g h w
end Go.Proofs.Ytofaoblfemfkiaa

namespace Go.Proofs.Ytofaoblfemfkiaa
open Go Go.RowKit Go.Fw
set_option linter.unusedSimpArgs false
set_option linter.unusedVariables false
set_option maxRecDepth 4000
set_option maxHeartbeats 2000000


theorem inv_shows {B w : World} {F : List Ent} {g h : Nat} (I : Inv B F g h w) : Calls Try.prog 9 #[.pointer (some ⟨g, 0, none⟩), .pointer (some ⟨h, 0, none⟩)] w fun e w' => e = .returned (.bool true) ∧ Inv B F g h w' := by
  cases I with
  | live p r hs ms ht hc hm ha qt qc qm qa a1 a2 a3 a4 H hh L ph =>
    have H := H.front 8
    have H := H.front 1
    simp only [arrs, Fw.front, zm1, zm2, zm3, zm4, zm5] at H
    refine Calls.mono (shows0 H L.dc L.rdc L.dec L.wn L.nt L.rnd L.tm L.tr L.bu L.be L.bl) ?_
    rintro e w ⟨rfl, H⟩
    have H := Own.arr [13, 13, 13, 13, 13, 6, 13, 13, 13, 13, 13, 13, 13, 13] H
    simp only [arrs, Fw.front, zm1, zm2, zm3, zm4, zm5] at H
    exact ⟨rfl, .live p r hs ms ht hc hm ha qt qc qm qa a1 a2 a3 a4 H hh L ph⟩
  | over0 p r a1 a2 a3 a4 H L ph rp dc rdc dec =>
    refine Calls.mono (shows0 H dc rdc dec L.wn L.nt L.rnd L.tm L.tr L.bu L.be L.bl) ?_
    rintro e w ⟨rfl, H⟩
    exact ⟨rfl, .over0 p r a1 a2 a3 a4 H L ph rp dc rdc dec⟩
  | over1 p r q c a1 a2 a3 a4 H L ph rp dc rdc dec =>
    refine Calls.mono (shows1 H dc rdc dec L.wn L.nt L.rnd L.tm L.tr L.bu L.be L.bl) ?_
    rintro e w ⟨rfl, H⟩
    exact ⟨rfl, .over1 p r q c a1 a2 a3 a4 H L ph rp dc rdc dec⟩
end Go.Proofs.Ytofaoblfemfkiaa

namespace Go.Proofs.Ytofaoblfemfkiaa
open Go Go.RowKit Go.Fw
set_option linter.unusedSimpArgs false
set_option linter.unusedVariables false
set_option maxRecDepth 4000
set_option maxHeartbeats 2000000
theorem en_14 : Enterable Try.prog 14 := ⟨Try.f14, Try.func14, rfl, by decide⟩
theorem en_23 : Enterable Try.prog 23 := ⟨Try.f23, Try.func23, rfl, by decide⟩
theorem en_24 : Enterable Try.prog 24 := ⟨Try.f24, Try.func24, rfl, by decide⟩
theorem en_25 : Enterable Try.prog 25 := ⟨Try.f25, Try.func25, rfl, by decide⟩
theorem en_26 : Enterable Try.prog 26 := ⟨Try.f26, Try.func26, rfl, by decide⟩
theorem fo_48_0 : fOff Try.prog 48 0 = some 0 := by kernel_rfl

theorem step_begin {B w : World} {X : List Ent} {g h : Nat} {K : World → Prop} {x : Value} (hx : x = .agg (Value.int .i64 0 :: GM.zero.cells).toArray) (H : Own B X w) (hk : ∀ E w, Own B (E :: X) w → Calls Try.prog 14 #[.pointer (some ⟨g, 0, none⟩)] w fun e w1 => ∃ v1, e = .returned v1 ∧ Calls Try.prog 24 #[.pointer (some ⟨h, 0, none⟩)] w1 fun e w2 => ∃ v2, e = .returned v2 ∧ Calls Try.prog 23 #[v1, v2] w2 fun e w3 => e = .returned (.bool true) ∧ K w3) :
    Calls Try.prog 8 #[.pointer (some ⟨g, 0, none⟩), .pointer (some ⟨h, 0, none⟩), x] w fun e w' => e = .returned (.bool true) ∧ K w' := by
  refine calls_ce (args := [.pointer (some ⟨g, 0, none⟩), .pointer (some ⟨h, 0, none⟩), x]) Try.func8 rfl rfl ?_
  change CE _ _ 60 _ _ [(0, .pointer (some ⟨g, 0, none⟩)), (1, .pointer (some ⟨h, 0, none⟩)), (2, x)] _
  refine ce_seq ?_
  refine ce_text (tab := []) (soft := 2) (.op 0 (.op 1 .nil)) rfl rfl ?_
  simp only [hx]
  refine re_box H rfl rfl rfl rfl rfl rfl ?_
  intro g5 w H
  refine ⟨(fun h => (nomatch h)), ?_⟩
  refine re_assign rfl rfl rfl rfl rfl ?_
  refine re_nil ?_
  refine qe_thenC ?_
  refine ce_seq ?_
  refine ce_seq ?_
  refine ce_text (tab := []) (soft := 3) (.op 0 (.op 1 (.op 2 .nil))) rfl rfl ?_
  first | refine re_field0 rfl rfl rfl rfl rfl fo_48_0 ?_ | refine re_field rfl rfl rfl rfl rfl fo_48_0 ?_ | refine re_fieldA rfl rfl rfl rfl rfl fo_48_0 ?_
  refine re_load H rfl rfl rfl rfl rfl sh_3 rfl ?_
  refine re_call en_10 rfl rfl rfl rfl rfl ?_
  refine Calls.mono (round_l H (by decide)) ?_
  rintro e w ⟨rfl, H⟩
  simp only [show (0 : Int) % 5 = 0 from rfl]
  refine ⟨_, rfl, (fun h => (nomatch h)), ?_⟩
  refine re_nil ?_
  refine qe_thenC ?_
  refine ce_block ?_
  refine ce_seq ?_
  refine ce_text (tab := []) (soft := 3) (.op 0 (.op 1 .nil)) rfl rfl ?_
  refine re_bin rfl rfl rfl rfl rfl rfl rfl ?_
  refine re_assign rfl rfl rfl rfl rfl ?_
  refine re_nil ?_
  refine qe_thenC ?_
  refine ce_condT rfl ?_
  refine ce_seq ?_
  refine ce_text (tab := []) (soft := 37) (.op 0 (.op 1 (.op 2 (.op 3 (.op 4 (.op 5 .nil)))))) rfl rfl ?_
  refine re_move rfl rfl rfl rfl rfl ?_
  refine re_call en_14 rfl rfl rfl rfl rfl ?_
  refine Calls.mono (hk _ _ H) ?_
  rintro e w ⟨v1, rfl, H1⟩
  refine ⟨_, rfl, (fun h => (nomatch h)), ?_⟩
  refine re_move rfl rfl rfl rfl rfl ?_
  refine re_call en_24 rfl rfl rfl rfl rfl ?_
  refine Calls.mono (H1) ?_
  rintro e w ⟨v2, rfl, H2⟩
  refine ⟨_, rfl, (fun h => (nomatch h)), ?_⟩
  refine re_call en_23 rfl rfl rfl rfl rfl ?_
  refine Calls.mono (H2) ?_
  rintro e w ⟨rfl, HK⟩
  refine ⟨_, rfl, (fun h => (nomatch h)), ?_⟩
  refine re_assign rfl rfl rfl rfl rfl ?_
  refine re_nil ?_
  refine qe_thenC ?_
  refine ce_ret ?_
  refine qe_block_ret ?_
  refine qe_then_ret ?_
  refine qe_end rfl rfl ?_
  exact ⟨rfl, HK⟩

theorem step_tick {B w : World} {X : List Ent} {g h : Nat} {K : World → Prop} {x : Value} (hx : x = .agg (Value.int .i64 1 :: GM.zero.cells).toArray) (H : Own B X w) (hk : ∀ E w, Own B (E :: X) w → Calls Try.prog 25 #[.pointer (some ⟨g, 0, none⟩)] w fun e w1 => ∃ v1, e = .returned v1 ∧ Calls Try.prog 26 #[.pointer (some ⟨h, 0, none⟩)] w1 fun e w2 => ∃ v2, e = .returned v2 ∧ Calls Try.prog 23 #[v1, v2] w2 fun e w3 => e = .returned (.bool true) ∧ K w3) :
    Calls Try.prog 8 #[.pointer (some ⟨g, 0, none⟩), .pointer (some ⟨h, 0, none⟩), x] w fun e w' => e = .returned (.bool true) ∧ K w' := by
  refine calls_ce (args := [.pointer (some ⟨g, 0, none⟩), .pointer (some ⟨h, 0, none⟩), x]) Try.func8 rfl rfl ?_
  change CE _ _ 60 _ _ [(0, .pointer (some ⟨g, 0, none⟩)), (1, .pointer (some ⟨h, 0, none⟩)), (2, x)] _
  refine ce_seq ?_
  refine ce_text (tab := []) (soft := 2) (.op 0 (.op 1 .nil)) rfl rfl ?_
  simp only [hx]
  refine re_box H rfl rfl rfl rfl rfl rfl ?_
  intro g5 w H
  refine ⟨(fun h => (nomatch h)), ?_⟩
  refine re_assign rfl rfl rfl rfl rfl ?_
  refine re_nil ?_
  refine qe_thenC ?_
  refine ce_seq ?_
  refine ce_seq ?_
  refine ce_text (tab := []) (soft := 3) (.op 0 (.op 1 (.op 2 .nil))) rfl rfl ?_
  first | refine re_field0 rfl rfl rfl rfl rfl fo_48_0 ?_ | refine re_field rfl rfl rfl rfl rfl fo_48_0 ?_ | refine re_fieldA rfl rfl rfl rfl rfl fo_48_0 ?_
  refine re_load H rfl rfl rfl rfl rfl sh_3 rfl ?_
  refine re_call en_10 rfl rfl rfl rfl rfl ?_
  refine Calls.mono (round_l H (by decide)) ?_
  rintro e w ⟨rfl, H⟩
  simp only [show (1 : Int) % 5 = 1 from rfl]
  refine ⟨_, rfl, (fun h => (nomatch h)), ?_⟩
  refine re_nil ?_
  refine qe_thenC ?_
  refine ce_block ?_
  refine ce_seq ?_
  refine ce_text (tab := []) (soft := 3) (.op 0 (.op 1 .nil)) rfl rfl ?_
  refine re_bin rfl rfl rfl rfl rfl rfl rfl ?_
  refine re_assign rfl rfl rfl rfl rfl ?_
  refine re_nil ?_
  refine qe_thenC ?_
  refine ce_condF rfl ?_
  refine ce_seq ?_
  refine ce_text (tab := []) (soft := 3) (.op 0 (.op 1 .nil)) rfl rfl ?_
  refine re_bin rfl rfl rfl rfl rfl rfl rfl ?_
  refine re_assign rfl rfl rfl rfl rfl ?_
  refine re_nil ?_
  refine qe_thenC ?_
  refine ce_condT rfl ?_
  refine ce_seq ?_
  refine ce_text (tab := []) (soft := 37) (.op 0 (.op 1 (.op 2 (.op 3 (.op 4 (.op 5 .nil)))))) rfl rfl ?_
  refine re_move rfl rfl rfl rfl rfl ?_
  refine re_call en_25 rfl rfl rfl rfl rfl ?_
  refine Calls.mono (hk _ _ H) ?_
  rintro e w ⟨v1, rfl, H1⟩
  refine ⟨_, rfl, (fun h => (nomatch h)), ?_⟩
  refine re_move rfl rfl rfl rfl rfl ?_
  refine re_call en_26 rfl rfl rfl rfl rfl ?_
  refine Calls.mono (H1) ?_
  rintro e w ⟨v2, rfl, H2⟩
  refine ⟨_, rfl, (fun h => (nomatch h)), ?_⟩
  refine re_call en_23 rfl rfl rfl rfl rfl ?_
  refine Calls.mono (H2) ?_
  rintro e w ⟨rfl, HK⟩
  refine ⟨_, rfl, (fun h => (nomatch h)), ?_⟩
  refine re_assign rfl rfl rfl rfl rfl ?_
  refine re_nil ?_
  refine qe_thenC ?_
  refine ce_ret ?_
  refine qe_block_ret ?_
  refine qe_then_ret ?_
  refine qe_end rfl rfl ?_
  exact ⟨rfl, HK⟩
end Go.Proofs.Ytofaoblfemfkiaa

namespace Go.Proofs.Ytofaoblfemfkiaa
open Go Go.RowKit Go.Fw
set_option linter.unusedSimpArgs false
set_option linter.unusedVariables false
set_option maxRecDepth 4000
set_option maxHeartbeats 2000000
theorem en_18 : Enterable Try.prog 18 := ⟨Try.f18, Try.func18, rfl, by decide⟩
theorem en_27 : Enterable Try.prog 27 := ⟨Try.f27, Try.func27, rfl, by decide⟩
theorem en_28 : Enterable Try.prog 28 := ⟨Try.f28, Try.func28, rfl, by decide⟩
theorem en_29 : Enterable Try.prog 29 := ⟨Try.f29, Try.func29, rfl, by decide⟩
theorem en_30 : Enterable Try.prog 30 := ⟨Try.f30, Try.func30, rfl, by decide⟩
theorem en_31 : Enterable Try.prog 31 := ⟨Try.f31, Try.func31, rfl, by decide⟩
theorem fo_48_1 : fOff Try.prog 48 1 = some 1 := by kernel_rfl

theorem lendMsg_p {B w : World} {F : List Ent} {m : GM} (hp : m.plain) (H : Own B F w) : Calls Try.prog 28 #[.agg m.cells.toArray] w fun e w' => ∃ b1 b2 b3 b4, e = .returned (.agg (m.lent (some ⟨b1, 0, none⟩) (some ⟨b2, 0, none⟩) (some ⟨b3, 0, none⟩) (some ⟨b4, 0, none⟩) 67 67 67 67).cells.toArray) ∧ Own B (.cells b1 5 ((marks 67 67).map byteC) :: .cells b2 102 ((marks 67 67).flatMap entC) :: .cells b3 106 ((marks 67 67).flatMap lastC) :: .cells b4 28 ((marks 67 67).flatMap cmdM) :: F) w' := by
  have := lendMsg_s (m := m) H
  rw [show m.lent none none none none 0 0 0 0 = m from hp] at this
  exact this
theorem backMsg_p {B w : World} {F : List Ent} {m : GM} {b1 b2 b3 b4 : Nat} (hp : m.plain) (H : Own B (.cells b1 5 ((marks 67 67).map byteC) :: .cells b2 102 ((marks 67 67).flatMap entC) :: .cells b3 106 ((marks 67 67).flatMap lastC) :: .cells b4 28 ((marks 67 67).flatMap cmdM) :: F) w) : Calls Try.prog 30 #[.agg (m.lent (some ⟨b1, 0, none⟩) (some ⟨b2, 0, none⟩) (some ⟨b3, 0, none⟩) (some ⟨b4, 0, none⟩) 67 67 67 67).cells.toArray, .agg m.cells.toArray] w fun e w' => e = .returned (.bool true) ∧ Own B (.cells b1 5 ((marks 67 67).map byteC) :: .cells b2 102 ((marks 67 67).flatMap entC) :: .cells b3 106 ((marks 67 67).flatMap lastC) :: .cells b4 28 ((marks 67 67).flatMap cmdM) :: F) w' := by
  have := backMsg_s (m := m) H
  rw [show m.lent none none none none 0 0 0 0 = m from hp] at this
  exact this

theorem step_fit {B w : World} {Y : List Ent} {g h a1 a2 a3 a4 : Nat} {r : RS} {m m1 : GM} {K : World → Prop} {x : Value} (hx : x = .agg (Value.int .i64 3 :: m.cells).toArray) (H : Own B (.cells h 54 (r.cellsV (slv (some a1) r.gs.length r.gs.length) (slv (some a2) r.gs.length r.gs.length) (slv (some a3) r.gs.length r.gs.length) (slv (some a4) r.gs.length r.gs.length)) :: .row r.ga r.gc 3 1 r.gs.length (ints r.gs) :: Y) w) (hn : r.gs.length ≤ 1000000) (hlen : 0 < r.gs.length) (hm1 : m1 = r.fit m (r.gs.getD (m.fi % (r.gs.length : Int)).toNat 0)) (hp : m1.plain) (hk : ∀ b1 b2 b3 b4 g8 g7 E w, Own B (.cells b1 5 ((marks 67 67).map byteC) :: .cells b2 102 ((marks 67 67).flatMap entC) :: .cells b3 106 ((marks 67 67).flatMap lastC) :: .cells b4 28 ((marks 67 67).flatMap cmdM) :: .cells g8 46 (m1.lent (some ⟨b1, 0, none⟩) (some ⟨b2, 0, none⟩) (some ⟨b3, 0, none⟩) (some ⟨b4, 0, none⟩) 67 67 67 67).cells :: .cells g7 46 m1.cells :: E :: .cells h 54 (r.cellsV (slv (some a1) r.gs.length r.gs.length) (slv (some a2) r.gs.length r.gs.length) (slv (some a3) r.gs.length r.gs.length) (slv (some a4) r.gs.length r.gs.length)) :: .row r.ga r.gc 3 1 r.gs.length (ints r.gs) :: Y) w → Calls Try.prog 18 #[.pointer (some ⟨g, 0, none⟩), .agg (m1.lent (some ⟨b1, 0, none⟩) (some ⟨b2, 0, none⟩) (some ⟨b3, 0, none⟩) (some ⟨b4, 0, none⟩) 67 67 67 67).cells.toArray] w fun e w1 => ∃ v1, e = .returned v1 ∧ (∃ Z1, Own B (.cells g7 46 m1.cells :: Z1) w1) ∧ Calls Try.prog 29 #[.pointer (some ⟨h, 0, none⟩), .agg m1.cells.toArray] w1 fun e w2 => ∃ v2, e = .returned v2 ∧ Calls Try.prog 23 #[v1, v2] w2 fun e w3 => e = .returned (.bool true) ∧ ∃ Z, Own B (.cells b1 5 ((marks 67 67).map byteC) :: .cells b2 102 ((marks 67 67).flatMap entC) :: .cells b3 106 ((marks 67 67).flatMap lastC) :: .cells b4 28 ((marks 67 67).flatMap cmdM) :: .cells g8 46 (m1.lent (some ⟨b1, 0, none⟩) (some ⟨b2, 0, none⟩) (some ⟨b3, 0, none⟩) (some ⟨b4, 0, none⟩) 67 67 67 67).cells :: .cells g7 46 m1.cells :: Z) w3 ∧ ∀ w4, Own B Z w4 → K w4) :
    Calls Try.prog 8 #[.pointer (some ⟨g, 0, none⟩), .pointer (some ⟨h, 0, none⟩), x] w fun e w' => e = .returned (.bool true) ∧ K w' := by
  refine calls_ce (args := [.pointer (some ⟨g, 0, none⟩), .pointer (some ⟨h, 0, none⟩), x]) Try.func8 rfl rfl ?_
  change CE _ _ 60 _ _ [(0, .pointer (some ⟨g, 0, none⟩)), (1, .pointer (some ⟨h, 0, none⟩)), (2, x)] _
  refine ce_seq ?_
  refine ce_text (tab := []) (soft := 2) (.op 0 (.op 1 .nil)) rfl rfl ?_
  simp only [hx]
  refine re_box H rfl rfl rfl rfl rfl rfl ?_
  intro g5 w H
  refine ⟨(fun h => (nomatch h)), ?_⟩
  refine re_assign rfl rfl rfl rfl rfl ?_
  refine re_nil ?_
  refine qe_thenC ?_
  refine ce_seq ?_
  refine ce_seq ?_
  refine ce_text (tab := []) (soft := 3) (.op 0 (.op 1 (.op 2 .nil))) rfl rfl ?_
  first | refine re_field0 rfl rfl rfl rfl rfl fo_48_0 ?_ | refine re_field rfl rfl rfl rfl rfl fo_48_0 ?_ | refine re_fieldA rfl rfl rfl rfl rfl fo_48_0 ?_
  refine re_load H rfl rfl rfl rfl rfl sh_3 rfl ?_
  refine re_call en_10 rfl rfl rfl rfl rfl ?_
  refine Calls.mono (round_l H (by decide)) ?_
  rintro e w ⟨rfl, H⟩
  simp only [show (3 : Int) % 5 = 3 from rfl]
  refine ⟨_, rfl, (fun h => (nomatch h)), ?_⟩
  refine re_nil ?_
  refine qe_thenC ?_
  refine ce_block ?_
  refine ce_seq ?_
  refine ce_text (tab := []) (soft := 3) (.op 0 (.op 1 .nil)) rfl rfl ?_
  refine re_bin rfl rfl rfl rfl rfl rfl rfl ?_
  refine re_assign rfl rfl rfl rfl rfl ?_
  refine re_nil ?_
  refine qe_thenC ?_
  refine ce_condF rfl ?_
  refine ce_seq ?_
  refine ce_text (tab := []) (soft := 3) (.op 0 (.op 1 .nil)) rfl rfl ?_
  refine re_bin rfl rfl rfl rfl rfl rfl rfl ?_
  refine re_assign rfl rfl rfl rfl rfl ?_
  refine re_nil ?_
  refine qe_thenC ?_
  refine ce_condF rfl ?_
  refine ce_seq ?_
  refine ce_text (tab := []) (soft := 3) (.op 0 (.op 1 .nil)) rfl rfl ?_
  refine re_bin rfl rfl rfl rfl rfl rfl rfl ?_
  refine re_assign rfl rfl rfl rfl rfl ?_
  refine re_nil ?_
  refine qe_thenC ?_
  refine ce_condF rfl ?_
  refine ce_skip ?_
  refine qe_block_norm ?_
  refine qe_thenC ?_
  refine ce_seq ?_
  refine ce_text (tab := []) (soft := 3) (.op 0 (.op 1 (.op 2 (.op 3 .nil)))) rfl rfl ?_
  first | refine re_field0 rfl rfl rfl rfl rfl fo_48_1 ?_ | refine re_field rfl rfl rfl rfl rfl fo_48_1 ?_ | refine re_fieldA rfl rfl rfl rfl rfl fo_48_1 ?_
  refine re_load H rfl rfl rfl rfl rfl sh_46 (by first | exact rdAt_all rfl | (simp only [rdAt, PS.cells, PS.over, GM.cells, Cmd.cells, List.cons_append, List.nil_append, RS.cellsV, RS.ch, stC, RS.decide, RS.accepted, RS.phase, GM.lent, List.drop_succ_cons, List.drop_zero, List.take_succ_cons, List.take_zero, List.length_cons, List.length_nil, Nat.zero_add, Nat.reduceAdd, Nat.reduceLeDiff, Nat.le_refl, ↓reduceIte] <;> rfl)) ?_
  refine re_alloc H rfl rfl rfl rfl ze_46 ?_
  intro g7 w H
  refine ⟨(fun h => (nomatch h)), ?_⟩
  refine re_store H rfl rfl rfl rfl rfl rfl sh_46 rfl rfl rfl ?_
  intro cs w hcs H
  first | rw [setMany_whole rfl] at hcs | simp only [setMany, List.set_cons_zero, List.set_cons_succ, Nat.reduceAdd, Nat.zero_add, PS.cells, PS.over, GM.cells, Cmd.cells, List.cons_append, List.nil_append, RS.cellsV, RS.ch, stC, RS.decide, RS.accepted, RS.phase, GM.lent] at hcs
  subst hcs
  refine ⟨(fun h => (nomatch h)), ?_⟩
  refine re_nil ?_
  refine qe_thenC ?_
  refine ce_seq ?_
  refine ce_seq ?_
  refine ce_text (tab := []) (soft := 11) (.op 0 (.op 1 (.op 2 (.op 3 .nil)))) rfl rfl ?_
  first | refine re_field0 rfl rfl rfl rfl rfl fo_48_0 ?_ | refine re_field rfl rfl rfl rfl rfl fo_48_0 ?_ | refine re_fieldA rfl rfl rfl rfl rfl fo_48_0 ?_
  refine re_load H rfl rfl rfl rfl rfl sh_3 rfl ?_
  refine re_call en_10 rfl rfl rfl rfl rfl ?_
  refine Calls.mono (round_l H (by decide)) ?_
  rintro e w ⟨rfl, H⟩
  simp only [show (3 : Int) % 5 = 3 from rfl]
  refine ⟨_, rfl, (fun h => (nomatch h)), ?_⟩
  refine re_bin rfl rfl rfl rfl rfl rfl rfl ?_
  refine re_nil ?_
  refine qe_thenC ?_
  refine ce_condT rfl ?_
  refine ce_text (tab := []) (soft := 3) (.op 0 (.op 1 (.op 2 (.op 3 .nil)))) rfl rfl ?_
  refine re_load H rfl rfl rfl rfl rfl sh_46 (by first | exact rdAt_all rfl | (simp only [rdAt, PS.cells, PS.over, GM.cells, Cmd.cells, List.cons_append, List.nil_append, RS.cellsV, RS.ch, stC, RS.decide, RS.accepted, RS.phase, GM.lent, List.drop_succ_cons, List.drop_zero, List.take_succ_cons, List.take_zero, List.length_cons, List.length_nil, Nat.zero_add, Nat.reduceAdd, Nat.reduceLeDiff, Nat.le_refl, ↓reduceIte] <;> rfl)) ?_
  refine re_move rfl rfl rfl rfl rfl ?_
  refine re_call en_27 rfl rfl rfl rfl rfl ?_
  have H := Own.arr [1, 1, 3, 3] H
  simp only [arrs, Fw.front, zm1, zm2, zm3, zm4, zm5] at H
  refine Calls.mono (fit_l (m := m) H hn hlen) ?_
  rintro e w ⟨rfl, H⟩
  rw [← hm1]
  refine ⟨_, rfl, (fun h => (nomatch h)), ?_⟩
  refine re_store H rfl rfl rfl rfl rfl rfl sh_46 rfl rfl rfl ?_
  intro cs w hcs H
  first | rw [setMany_whole rfl] at hcs | simp only [setMany, List.set_cons_zero, List.set_cons_succ, Nat.reduceAdd, Nat.zero_add, PS.cells, PS.over, GM.cells, Cmd.cells, List.cons_append, List.nil_append, RS.cellsV, RS.ch, stC, RS.decide, RS.accepted, RS.phase, GM.lent] at hcs
  subst hcs
  refine ⟨(fun h => (nomatch h)), ?_⟩
  refine re_nil ?_
  refine qe_thenC ?_
  refine ce_seq ?_
  refine ce_text (tab := []) (soft := 1) (.op 0 (.op 1 (.op 2 (.op 3 .nil)))) rfl rfl ?_
  refine re_load H rfl rfl rfl rfl rfl sh_46 (by first | exact rdAt_all rfl | (simp only [rdAt, PS.cells, PS.over, GM.cells, Cmd.cells, List.cons_append, List.nil_append, RS.cellsV, RS.ch, stC, RS.decide, RS.accepted, RS.phase, GM.lent, List.drop_succ_cons, List.drop_zero, List.take_succ_cons, List.take_zero, List.length_cons, List.length_nil, Nat.zero_add, Nat.reduceAdd, Nat.reduceLeDiff, Nat.le_refl, ↓reduceIte] <;> rfl)) ?_
  refine re_call en_28 rfl rfl rfl rfl rfl ?_
  refine Calls.mono (lendMsg_p hp H) ?_
  rintro e w ⟨b1, b2, b3, b4, rfl, H⟩
  refine ⟨_, rfl, (fun h => (nomatch h)), ?_⟩
  refine re_alloc H rfl rfl rfl rfl ze_46 ?_
  intro g8 w H
  refine ⟨(fun h => (nomatch h)), ?_⟩
  refine re_store H rfl rfl rfl rfl rfl rfl sh_46 rfl rfl rfl ?_
  intro cs w hcs H
  first | rw [setMany_whole rfl] at hcs | simp only [setMany, List.set_cons_zero, List.set_cons_succ, Nat.reduceAdd, Nat.zero_add, PS.cells, PS.over, GM.cells, Cmd.cells, List.cons_append, List.nil_append, RS.cellsV, RS.ch, stC, RS.decide, RS.accepted, RS.phase, GM.lent] at hcs
  subst hcs
  refine ⟨(fun h => (nomatch h)), ?_⟩
  refine re_nil ?_
  refine qe_thenC ?_
  refine ce_seq ?_
  refine ce_text (tab := []) (soft := 11) (.op 0 (.op 1 (.op 2 (.op 3 .nil)))) rfl rfl ?_
  refine re_move rfl rfl rfl rfl rfl ?_
  refine re_load H rfl rfl rfl rfl rfl sh_46 (by first | exact rdAt_all rfl | (simp only [rdAt, PS.cells, PS.over, GM.cells, Cmd.cells, List.cons_append, List.nil_append, RS.cellsV, RS.ch, stC, RS.decide, RS.accepted, RS.phase, GM.lent, List.drop_succ_cons, List.drop_zero, List.take_succ_cons, List.take_zero, List.length_cons, List.length_nil, Nat.zero_add, Nat.reduceAdd, Nat.reduceLeDiff, Nat.le_refl, ↓reduceIte] <;> rfl)) ?_
  refine re_call en_18 rfl rfl rfl rfl rfl ?_
  have H := Own.arr [6, 6, 8, 8, 4, 8, 8, 8, 8] H
  simp only [arrs, Fw.front, zm1, zm2, zm3, zm4, zm5] at H
  refine Calls.mono (hk _ _ _ _ _ _ _ _ H) ?_
  rintro e w ⟨v1, rfl, ⟨Z1, H⟩, H1⟩
  refine ⟨_, rfl, (fun h => (nomatch h)), ?_⟩
  refine re_assign rfl rfl rfl rfl rfl ?_
  refine re_nil ?_
  refine qe_thenC ?_
  refine ce_seq ?_
  refine ce_seq ?_
  refine ce_text (tab := []) (soft := 3559) (.op 0 (.op 1 (.op 2 (.op 3 (.op 4 (.op 5 (.op 6 (.op 7 (.op 8 (.op 9 (.op 10 (.op 11 .nil)))))))))))) rfl rfl ?_
  refine re_move rfl rfl rfl rfl rfl ?_
  refine re_move rfl rfl rfl rfl rfl ?_
  refine re_load H rfl rfl rfl rfl rfl sh_46 (by first | exact rdAt_all rfl | (simp only [rdAt, PS.cells, PS.over, GM.cells, Cmd.cells, List.cons_append, List.nil_append, RS.cellsV, RS.ch, stC, RS.decide, RS.accepted, RS.phase, GM.lent, List.drop_succ_cons, List.drop_zero, List.take_succ_cons, List.take_zero, List.length_cons, List.length_nil, Nat.zero_add, Nat.reduceAdd, Nat.reduceLeDiff, Nat.le_refl, ↓reduceIte] <;> rfl)) ?_
  refine re_call en_29 rfl rfl rfl rfl rfl ?_
  refine Calls.mono (H1) ?_
  rintro e w ⟨v2, rfl, H2⟩
  refine ⟨_, rfl, (fun h => (nomatch h)), ?_⟩
  refine re_call en_23 rfl rfl rfl rfl rfl ?_
  refine Calls.mono (H2) ?_
  rintro e w ⟨rfl, Z, H, HK⟩
  refine ⟨_, rfl, (fun h => (nomatch h)), ?_⟩
  refine re_not rfl rfl rfl rfl rfl ?_
  refine re_move rfl rfl rfl rfl rfl ?_
  refine re_load H rfl rfl rfl rfl rfl sh_46 (by first | exact rdAt_all rfl | (simp only [rdAt, PS.cells, PS.over, GM.cells, Cmd.cells, List.cons_append, List.nil_append, RS.cellsV, RS.ch, stC, RS.decide, RS.accepted, RS.phase, GM.lent, List.drop_succ_cons, List.drop_zero, List.take_succ_cons, List.take_zero, List.length_cons, List.length_nil, Nat.zero_add, Nat.reduceAdd, Nat.reduceLeDiff, Nat.le_refl, ↓reduceIte] <;> rfl)) ?_
  refine re_load H rfl rfl rfl rfl rfl sh_46 (by first | exact rdAt_all rfl | (simp only [rdAt, PS.cells, PS.over, GM.cells, Cmd.cells, List.cons_append, List.nil_append, RS.cellsV, RS.ch, stC, RS.decide, RS.accepted, RS.phase, GM.lent, List.drop_succ_cons, List.drop_zero, List.take_succ_cons, List.take_zero, List.length_cons, List.length_nil, Nat.zero_add, Nat.reduceAdd, Nat.reduceLeDiff, Nat.le_refl, ↓reduceIte] <;> rfl)) ?_
  refine re_call en_30 rfl rfl rfl rfl rfl ?_
  refine Calls.mono (backMsg_p hp H) ?_
  rintro e w ⟨rfl, H⟩
  refine ⟨_, rfl, (fun h => (nomatch h)), ?_⟩
  refine re_not rfl rfl rfl rfl rfl ?_
  refine re_pickF rfl rfl rfl rfl rfl rfl ?_
  refine re_nil ?_
  refine qe_thenC ?_
  refine ce_condF rfl ?_
  refine ce_skip ?_
  refine qe_thenC ?_
  refine ce_seq ?_
  refine ce_text (tab := []) (soft := 1) (.op 0 (.op 1 .nil)) rfl rfl ?_
  refine re_load H rfl rfl rfl rfl rfl sh_46 (by first | exact rdAt_all rfl | (simp only [rdAt, PS.cells, PS.over, GM.cells, Cmd.cells, List.cons_append, List.nil_append, RS.cellsV, RS.ch, stC, RS.decide, RS.accepted, RS.phase, GM.lent, List.drop_succ_cons, List.drop_zero, List.take_succ_cons, List.take_zero, List.length_cons, List.length_nil, Nat.zero_add, Nat.reduceAdd, Nat.reduceLeDiff, Nat.le_refl, ↓reduceIte] <;> rfl)) ?_
  refine re_call en_31 rfl rfl rfl rfl rfl ?_
  refine Calls.mono (spoil0 H) ?_
  rintro e w ⟨rfl, H⟩
  refine ⟨_, rfl, (fun h => (nomatch h)), ?_⟩
  refine re_nil ?_
  refine qe_thenC ?_
  refine ce_seq ?_
  refine ce_text (tab := []) (soft := 1) (.op 0 .nil) rfl rfl ?_
  refine re_assign rfl rfl rfl rfl rfl ?_
  refine re_nil ?_
  refine qe_thenC ?_
  refine ce_ret ?_
  refine qe_end rfl rfl ?_
  exact ⟨rfl, HK _ (H.drop 6)⟩
end Go.Proofs.Ytofaoblfemfkiaa

namespace Go.Proofs.Ytofaoblfemfkiaa
open Go Go.RowKit Go.Fw
set_option linter.unusedSimpArgs false
set_option linter.unusedVariables false
set_option maxRecDepth 4000
set_option maxHeartbeats 2000000


theorem sameNil {B w : World} {F : List Ent} (H : Own B F w) : Calls Try.prog 23 #[slv none 0 0, slv none 0 0] w fun e w' => e = .returned (.bool true) ∧ Own B F w' := by
  have := sameMsgs_s (l := []) (ra := none) (qa := none) (rc := 0) (qc := 0) ((H.nil_row 46 30).nil_row 46 30) (by simp) (by simp)
  exact Calls.mono this fun e w' h => ⟨h.1, h.2.tail.tail⟩
/-- Both over: nothing is sent, nothing turns. -/
theorem tick_over0 {B w : World} {F : List Ent} {g h : Nat} {p : PS} {r : RS} {a1 a2 a3 a4 : Nat} {D : Ent} {K : World → Prop} (H : Own B (D :: .cells g 80 p.cells :: .cells h 54 (r.cellsV (slv (some a1) r.gs.length r.gs.length) (slv (some a2) r.gs.length r.gs.length) (slv (some a3) r.gs.length r.gs.length) (slv (some a4) r.gs.length r.gs.length)) :: F) w) (ph : p.ph = .iface 97 (.agg #[])) (rp : r.ph = 3) (hK : ∀ w, Own B (.cells g 80 p.cells :: .cells h 54 (r.cellsV (slv (some a1) r.gs.length r.gs.length) (slv (some a2) r.gs.length r.gs.length) (slv (some a3) r.gs.length r.gs.length) (slv (some a4) r.gs.length r.gs.length)) :: F) w → K w) :
    Calls Try.prog 25 #[.pointer (some ⟨g, 0, none⟩)] w fun e w1 => ∃ v1, e = .returned v1 ∧ Calls Try.prog 26 #[.pointer (some ⟨h, 0, none⟩)] w1 fun e w2 => ∃ v2, e = .returned v2 ∧ Calls Try.prog 23 #[v1, v2] w2 fun e w3 => e = .returned (.bool true) ∧ K w3 := by
  refine Calls.mono (tick_over H.tail ph) ?_
  rintro e w ⟨rfl, H⟩
  refine ⟨_, rfl, ?_⟩
  have H := H.front 1
  simp only [arrs, Fw.front, zm1, zm2, zm3, zm4, zm5] at H
  refine Calls.mono (tick_offR H (by omega) (by omega)) ?_
  rintro e w ⟨rfl, H⟩
  refine ⟨_, rfl, ?_⟩
  have H := H.front 1
  simp only [arrs, Fw.front, zm1, zm2, zm3, zm4, zm5] at H
  exact Calls.mono (sameNil H) fun e w h => ⟨h.1, hK _ h.2⟩
end Go.Proofs.Ytofaoblfemfkiaa

namespace Go.Proofs.Ytofaoblfemfkiaa
open Go Go.RowKit Go.Fw
set_option linter.unusedSimpArgs false
set_option linter.unusedVariables false
set_option maxRecDepth 4000
set_option maxHeartbeats 2000000


/-! ### What is sent -/
theorem msg_prep {p : PS} {r : RS} (L : Base p r) (hb : p.bal = r.n) (h1 : r.ph = 1) (x : Int) : r.msgOf x = (GM.prepare p.bal p.cl).sent p x := by
  rw [RS.msgOf, if_neg (by omega)]
  simp only [RS.base, GM.sent, GM.prepare, L.cl, L.op, L.kk, L.ka, L.kb, L.kc, L.rnd, hb]
theorem msg_acc {p : PS} {r : RS} (L : Base p r) (hb : p.bal = r.n) (h2 : r.ph = 2) (x : Int) : r.msgOf x = (GM.accept p.bal p.cl r.chosen).sent p x := by
  rw [RS.msgOf, if_pos h2]
  simp only [RS.base, GM.sent, GM.accept, L.cl, L.op, L.kk, L.ka, L.kb, L.kc, L.rnd, hb]
theorem out_prep {p : PS} {r : RS} {hs : List Int} (L : Base p r) (hb : p.bal = r.n) (h1 : r.ph = 1) (ha : r.ans = ansOf p.gs hs) : r.out = p.outP (missing p.gs (heardK hs)) := by
  rw [RS.out, ← L.gs, ha, rest_missing, PS.outP]
  exact List.map_congr_left fun x _ => msg_prep L hb h1 x
theorem out_acc {p : PS} {r : RS} {hs : List Int} (L : Base p r) (hb : p.bal = r.n) (h2 : r.ph = 2) (ha : r.ans = ansOf p.gs hs) : r.out = p.outA r.chosen (missing p.gs (heardK hs)) := by
  rw [RS.out, ← L.gs, ha, rest_missing, PS.outA]
  exact List.map_congr_left fun x _ => msg_acc L hb h2 x
theorem plain_prep (p : PS) (xs : List Int) : ∀ m ∈ p.outP xs, m.plain := by
  intro m hm
  obtain ⟨x, _, rfl⟩ := List.mem_map.1 hm
  rfl
theorem plain_acc (p : PS) (c : Cmd) (xs : List Int) : ∀ m ∈ p.outA c xs, m.plain := by
  intro m hm
  obtain ⟨x, _, rfl⟩ := List.mem_map.1 hm
  rfl
theorem plain_L (p : PS) (c : Cmd) (xs : List Int) : ∀ m ∈ p.outL c xs, m.plain := by
  intro m hm
  obtain ⟨x, _, rfl⟩ := List.mem_map.1 hm
  rfl
theorem out_L {p : PS} {r : RS} {c : Cmd} (L : Base p r) (hc : r.chosen = c) : r.outL = p.outL c p.gs := by
  rw [RS.outL, ← L.gs, PS.outL]
  refine List.map_congr_left fun x _ => ?_
  simp only [RS.learnedMsg, RS.base, GM.sent, GM.learned, L.cl, L.op, L.kk, L.ka, L.kb, L.kc, L.rnd, hc]
  rfl
end Go.Proofs.Ytofaoblfemfkiaa

namespace Go.Proofs.Ytofaoblfemfkiaa
open Go Go.RowKit Go.Fw
set_option linter.unusedSimpArgs false
set_option linter.unusedVariables false
set_option maxRecDepth 4000
set_option maxHeartbeats 2000000


theorem quietP {B w : World} {F : List Ent} {g h : Nat} {p : PS} {r : RS} {hs : List Int} {ms : List (Int × GM)} {ht hc hm qt qc qm a1 a2 a3 a4 : Nat} {ha qa : Option Nat} {D : Ent} (H : Own B (D :: .cells g 80 p.cells :: .row p.ga p.gc 3 1 p.gs.length (ints p.gs) :: .cells ht 109 [slv ha p.gs.length hc, .int .i64 ((p.gs.length : Int) + 1), .map (some hm)] :: .row ha hc 3 1 p.gs.length (ints p.gs) :: .imap hm (heardK hs) :: .cells qt 145 [slv qa p.gs.length qc, .int .i64 ((p.gs.length : Int) / 2 + 1), .map (some qm)] :: .row qa qc 3 1 p.gs.length (ints p.gs) :: .imap qm (kvM ms) :: .cells h 54 (r.cellsV (slv (some a1) r.gs.length r.gs.length) (slv (some a2) r.gs.length r.gs.length) (slv (some a3) r.gs.length r.gs.length) (slv (some a4) r.gs.length r.gs.length)) :: .row r.ga r.gc 3 1 r.gs.length (ints r.gs) :: .cells a1 4 (bools r.ans) :: .cells a2 4 (bools r.cnt) :: .cells a3 38 (stamps r.held) :: .cells a4 28 (cmdsC r.cms) :: F) w) (hh : p.hd = .pointer (some ⟨ht, 0, none⟩)) (L : Live p r hs ms) (ph : p.ph = phP qt) (rp : r.ph = 1) (hr : p.rf = false) :
    Calls Try.prog 25 #[.pointer (some ⟨g, 0, none⟩)] w fun e w1 => ∃ v1, e = .returned v1 ∧ Calls Try.prog 26 #[.pointer (some ⟨h, 0, none⟩)] w1 fun e w2 => ∃ v2, e = .returned v2 ∧ Calls Try.prog 23 #[v1, v2] w2 fun e w3 => e = .returned (.bool true) ∧  Own B (.cells g 80 p.cells :: .row p.ga p.gc 3 1 p.gs.length (ints p.gs) :: .cells ht 109 [slv ha p.gs.length hc, .int .i64 ((p.gs.length : Int) + 1), .map (some hm)] :: .row ha hc 3 1 p.gs.length (ints p.gs) :: .imap hm (heardK hs) :: .cells qt 145 [slv qa p.gs.length qc, .int .i64 ((p.gs.length : Int) / 2 + 1), .map (some qm)] :: .row qa qc 3 1 p.gs.length (ints p.gs) :: .imap qm (kvM ms) :: .cells h 54 (r.cellsV (slv (some a1) r.gs.length r.gs.length) (slv (some a2) r.gs.length r.gs.length) (slv (some a3) r.gs.length r.gs.length) (slv (some a4) r.gs.length r.gs.length)) :: .row r.ga r.gc 3 1 r.gs.length (ints r.gs) :: .cells a1 4 (bools r.ans) :: .cells a2 4 (bools r.cnt) :: .cells a3 38 (stamps r.held) :: .cells a4 28 (cmdsC r.cms) :: F) w3 := by
  have hlen := L.len
  have hgs := congrArg List.length L.gs
  have H := Own.arr [14, 14, 14, 14, 14, 14, 14, 14, 14, 11, 14, 14, 14, 14] H
  simp only [arrs, Fw.front, zm1, zm2, zm3, zm4, zm5] at H
  replace H := H.sub (.cons_cons _ (.cons_cons _ (.cons_cons _ (.cons_cons _ (.cons_cons _ (.cons_cons _ (.cons_cons _ (.cons_cons _ (.cons_cons _ (.cons_cons _ (.cons_cons _ (.cons_cons _ (.cons_cons _ (.cons_cons _ (.cons _ (List.Sublist.refl _))))))))))))))))
  refine Calls.mono (tick_quietP H (by omega) hh ph hr) ?_
  rintro e w ⟨a, c, rfl, H⟩
  refine ⟨_, rfl, ?_⟩
  have H := Own.arr [8, 8, 8, 8, 8, 8, 8, 8, 8, 14, 14, 14, 14, 14, 14] H
  simp only [arrs, Fw.front, zm1, zm2, zm3, zm4, zm5] at H
  refine Calls.mono (tick_quietR H (by omega) L.la (by omega) (by rw [← L.rf]; exact hr)) ?_
  rintro e w ⟨a', c', rfl, H⟩
  refine ⟨_, rfl, ?_⟩
  have H := Own.arr [6, 6, 6, 6, 6, 6, 15, 15, 15, 14, 14, 14, 15, 15, 14, 15] H
  simp only [arrs, Fw.front, zm1, zm2, zm3, zm4, zm5] at H
  have eo : r.out = p.outP (missing p.gs (heardK hs)) := out_prep L.toBase L.bal rp L.ans
  rw [eo] at H ⊢
  refine Calls.mono (sameMsgs_s H (plain_prep _ _) (by have := missing_length p.gs (heardK hs); simp only [PS.outP, PS.outA, List.length_map]; omega)) ?_
  rintro e w ⟨rfl, H⟩
  exact ⟨rfl, H.drop 2⟩

theorem quietA {B w : World} {F : List Ent} {g h : Nat} {p : PS} {r : RS} {hs : List Int} {ms : List (Int × GM)} {ht hc hm qt qc qm a1 a2 a3 a4 : Nat} {ha qa : Option Nat} {D : Ent} (H : Own B (D :: .cells g 80 p.cells :: .row p.ga p.gc 3 1 p.gs.length (ints p.gs) :: .cells ht 109 [slv ha p.gs.length hc, .int .i64 ((p.gs.length : Int) + 1), .map (some hm)] :: .row ha hc 3 1 p.gs.length (ints p.gs) :: .imap hm (heardK hs) :: .cells qt 145 [slv qa p.gs.length qc, .int .i64 ((p.gs.length : Int) / 2 + 1), .map (some qm)] :: .row qa qc 3 1 p.gs.length (ints p.gs) :: .imap qm (kvM ms) :: .cells h 54 (r.cellsV (slv (some a1) r.gs.length r.gs.length) (slv (some a2) r.gs.length r.gs.length) (slv (some a3) r.gs.length r.gs.length) (slv (some a4) r.gs.length r.gs.length)) :: .row r.ga r.gc 3 1 r.gs.length (ints r.gs) :: .cells a1 4 (bools r.ans) :: .cells a2 4 (bools r.cnt) :: .cells a3 38 (stamps r.held) :: .cells a4 28 (cmdsC r.cms) :: F) w) (hh : p.hd = .pointer (some ⟨ht, 0, none⟩)) (L : Live p r hs ms) (ph : p.ph = phA qt p.mine) (rp : r.ph = 2) (rc : r.chosen = p.mine) (hr : p.rf = false) :
    Calls Try.prog 25 #[.pointer (some ⟨g, 0, none⟩)] w fun e w1 => ∃ v1, e = .returned v1 ∧ Calls Try.prog 26 #[.pointer (some ⟨h, 0, none⟩)] w1 fun e w2 => ∃ v2, e = .returned v2 ∧ Calls Try.prog 23 #[v1, v2] w2 fun e w3 => e = .returned (.bool true) ∧  Own B (.cells g 80 p.cells :: .row p.ga p.gc 3 1 p.gs.length (ints p.gs) :: .cells ht 109 [slv ha p.gs.length hc, .int .i64 ((p.gs.length : Int) + 1), .map (some hm)] :: .row ha hc 3 1 p.gs.length (ints p.gs) :: .imap hm (heardK hs) :: .cells qt 145 [slv qa p.gs.length qc, .int .i64 ((p.gs.length : Int) / 2 + 1), .map (some qm)] :: .row qa qc 3 1 p.gs.length (ints p.gs) :: .imap qm (kvM ms) :: .cells h 54 (r.cellsV (slv (some a1) r.gs.length r.gs.length) (slv (some a2) r.gs.length r.gs.length) (slv (some a3) r.gs.length r.gs.length) (slv (some a4) r.gs.length r.gs.length)) :: .row r.ga r.gc 3 1 r.gs.length (ints r.gs) :: .cells a1 4 (bools r.ans) :: .cells a2 4 (bools r.cnt) :: .cells a3 38 (stamps r.held) :: .cells a4 28 (cmdsC r.cms) :: F) w3 := by
  have hlen := L.len
  have hgs := congrArg List.length L.gs
  have H := Own.arr [14, 14, 14, 14, 14, 14, 14, 14, 14, 11, 14, 14, 14, 14] H
  simp only [arrs, Fw.front, zm1, zm2, zm3, zm4, zm5] at H
  replace H := H.sub (.cons_cons _ (.cons_cons _ (.cons_cons _ (.cons_cons _ (.cons_cons _ (.cons_cons _ (.cons_cons _ (.cons_cons _ (.cons_cons _ (.cons_cons _ (.cons_cons _ (.cons_cons _ (.cons_cons _ (.cons_cons _ (.cons _ (List.Sublist.refl _))))))))))))))))
  refine Calls.mono (tick_quietA H (by omega) hh ph hr) ?_
  rintro e w ⟨a, c, rfl, H⟩
  refine ⟨_, rfl, ?_⟩
  have H := Own.arr [8, 8, 8, 8, 8, 8, 8, 8, 8, 14, 14, 14, 14, 14, 14] H
  simp only [arrs, Fw.front, zm1, zm2, zm3, zm4, zm5] at H
  refine Calls.mono (tick_quietR H (by omega) L.la (by omega) (by rw [← L.rf]; exact hr)) ?_
  rintro e w ⟨a', c', rfl, H⟩
  refine ⟨_, rfl, ?_⟩
  have H := Own.arr [6, 6, 6, 6, 6, 6, 15, 15, 15, 14, 14, 14, 15, 15, 14, 15] H
  simp only [arrs, Fw.front, zm1, zm2, zm3, zm4, zm5] at H
  have eo : r.out = p.outA p.mine (missing p.gs (heardK hs)) := by rw [out_acc L.toBase L.bal rp L.ans, rc]
  rw [eo] at H ⊢
  refine Calls.mono (sameMsgs_s H (plain_acc _ _ _) (by have := missing_length p.gs (heardK hs); simp only [PS.outP, PS.outA, List.length_map]; omega)) ?_
  rintro e w ⟨rfl, H⟩
  exact ⟨rfl, H.drop 2⟩
end Go.Proofs.Ytofaoblfemfkiaa

namespace Go.Proofs.Ytofaoblfemfkiaa
open Go Go.RowKit Go.Fw
set_option linter.unusedSimpArgs false
set_option linter.unusedVariables false
set_option maxRecDepth 4000
set_option maxHeartbeats 2000000


theorem base_worn {p : PS} {r : RS} (L : Base p r) : Base { p.over with wn := true } r.worn :=
  ⟨L.cl, L.op, L.kk, L.ka, L.kb, L.kc, L.gs, L.mine, L.rnd, L.nt, rfl, L.tm, L.tr, L.bu, L.be, L.bl, L.nd, L.un, L.len, L.pos, L.la, L.lc, L.lh, L.lm⟩
theorem cntN_rep (n : Nat) : cntN (List.replicate n false) = 0 := by
  induction n with
  | zero => rfl
  | succ n ih => simpa [cntN, List.replicate_succ] using ih
/-- A new round. -/
theorem live_clear {p p' : PS} {r r' : RS} (L : Base p r) (h1 : p'.cl = p.cl ∧ p'.op = p.op ∧ p'.kk = p.kk ∧ p'.ka = p.ka ∧ p'.kb = p.kb ∧ p'.kc = p.kc ∧ p'.gs = p.gs ∧ p'.mine = p.mine ∧ p'.wn = p.wn ∧ p'.tm = p.tm)
    (h2 : r'.cl = r.cl ∧ r'.op = r.op ∧ r'.kk = r.kk ∧ r'.ka = r.ka ∧ r'.kb = r.kb ∧ r'.kc = r.kc ∧ r'.gs = r.gs ∧ r'.mine = r.mine ∧ r'.wn = r.wn ∧ r'.tr = r.tr ∧ r'.bu = r.bu ∧ r'.be = r.be ∧ r'.bl = r.bl)
    (hr : p'.rnd = r'.rnd) (hnt : max p'.bal p'.nt = r'.nt) (hb : p'.bal = r'.n) (hf : p'.rf = false) (b1 : 1 ≤ p'.bal) (r1 : 1 ≤ p'.rnd) (dc : p'.dc = .pointer none) (rdc : r'.dc = false) (dec : r'.dec = Cmd.zero) :
    Live p' r'.clear [] [] := by
  obtain ⟨e1, e2, e3, e4, e5, e6, e7, e8, e9, e10⟩ := h1
  obtain ⟨f1, f2, f3, f4, f5, f6, f7, f8, f9, f10, f11, f12, f13⟩ := h2
  have hg : p'.gs = r'.gs := by rw [e7, f7, L.gs]
  have hl := congrArg List.length hg
  exact {
    cl := by rw [e1, L.cl]; exact f1.symm
    op := by rw [e2, L.op]; exact f2.symm
    kk := by rw [e3, L.kk]; exact f3.symm
    ka := by rw [e4, L.ka]; exact f4.symm
    kb := by rw [e5, L.kb]; exact f5.symm
    kc := by rw [e6, L.kc]; exact f6.symm
    gs := hg
    mine := by rw [e8, L.mine]; exact f8.symm
    rnd := hr
    nt := hnt
    wn := by rw [e9, L.wn]; exact f9.symm
    tm := by rw [e10, L.tm]
    tr := f10.trans L.tr
    bu := f11.trans L.bu
    be := f12.trans L.be
    bl := f13.trans L.bl
    nd := by rw [e7]; exact L.nd
    un := by rw [e7]; exact L.un
    len := by rw [e7]; exact L.len
    pos := by rw [e7]; exact L.pos
    la := by simp [RS.clear]
    lc := by simp [RS.clear]
    lh := by simp [RS.clear]
    lm := by simp [RS.clear]
    bal := hb
    rf := hf
    b1 := b1
    r1 := r1
    dc := dc
    rdc := rdc
    dec := dec
    ans := by rw [ansOf_nil, hl]; rfl
    cnt := by rw [cntOf_nil, hl]; rfl
    held := rfl
    na := cntN_rep _
    nc := cntN_rep _
    hz := fun _ h => by cases h
    sub := fun _ h => by cases h
    few := by simp only [List.length_nil]; omega }
end Go.Proofs.Ytofaoblfemfkiaa

namespace Go.Proofs.Ytofaoblfemfkiaa
open Go Go.RowKit Go.Fw
set_option linter.unusedSimpArgs false
set_option linter.unusedVariables false
set_option maxRecDepth 4000
set_option maxHeartbeats 2000000


theorem Live.far {p : PS} {r : RS} {hs : List Int} {ms : List (Int × GM)} (L : Live p r hs ms) : (1099511627776 ≤ max p.bal p.nt ∨ 1099511627776 ≤ p.rnd) ↔ (1099511627776 ≤ r.nt ∨ 1099511627776 ≤ r.rnd) := by rw [L.nt, L.rnd]

theorem wornP {B w : World} {F : List Ent} {g h : Nat} {p : PS} {r : RS} {hs : List Int} {ms : List (Int × GM)} {ht hc hm qt qc qm a1 a2 a3 a4 : Nat} {ha qa : Option Nat} {D : Ent} (H : Own B (D :: .cells g 80 p.cells :: .row p.ga p.gc 3 1 p.gs.length (ints p.gs) :: .cells ht 109 [slv ha p.gs.length hc, .int .i64 ((p.gs.length : Int) + 1), .map (some hm)] :: .row ha hc 3 1 p.gs.length (ints p.gs) :: .imap hm (heardK hs) :: .cells qt 145 [slv qa p.gs.length qc, .int .i64 ((p.gs.length : Int) / 2 + 1), .map (some qm)] :: .row qa qc 3 1 p.gs.length (ints p.gs) :: .imap qm (kvM ms) :: .cells h 54 (r.cellsV (slv (some a1) r.gs.length r.gs.length) (slv (some a2) r.gs.length r.gs.length) (slv (some a3) r.gs.length r.gs.length) (slv (some a4) r.gs.length r.gs.length)) :: .row r.ga r.gc 3 1 r.gs.length (ints r.gs) :: .cells a1 4 (bools r.ans) :: .cells a2 4 (bools r.cnt) :: .cells a3 38 (stamps r.held) :: .cells a4 28 (cmdsC r.cms) :: F) w) (L : Live p r hs ms) (ph : p.ph = phP qt) (rp : r.ph = 1) (hr : p.rf = true) (hw : 1099511627776 ≤ max p.bal p.nt ∨ 1099511627776 ≤ p.rnd) :
    Calls Try.prog 25 #[.pointer (some ⟨g, 0, none⟩)] w fun e w1 => ∃ v1, e = .returned v1 ∧ Calls Try.prog 26 #[.pointer (some ⟨h, 0, none⟩)] w1 fun e w2 => ∃ v2, e = .returned v2 ∧ Calls Try.prog 23 #[v1, v2] w2 fun e w3 => e = .returned (.bool true) ∧  Inv B F g h w3 := by
  have H := Own.arr [14, 14, 14, 14, 14, 14, 7] H
  simp only [arrs, Fw.front, zm1, zm2, zm3, zm4, zm5] at H
  replace H := H.sub (.cons_cons _ (.cons_cons _ (.cons_cons _ (.cons_cons _ (.cons_cons _ (.cons_cons _ (.cons_cons _ (.cons _ (.cons _ (.cons _ (.cons _ (.cons _ (.cons _ (.cons _ (.cons _ (List.Sublist.refl _))))))))))))))))
  refine Calls.mono (tick_wornP H ph hr hw) ?_
  rintro e w ⟨rfl, H⟩
  refine ⟨_, rfl, ?_⟩
  have H := H.front 1
  simp only [arrs, Fw.front, zm1, zm2, zm3, zm4, zm5] at H
  refine Calls.mono (tick_wornR H (by omega) (by rw [← L.rf]; exact hr) (L.far.1 hw)) ?_
  rintro e w ⟨rfl, H⟩
  refine ⟨_, rfl, ?_⟩
  refine Calls.mono (sameNil H) ?_
  rintro e w ⟨rfl, H⟩
  have H := H.front 1
  simp only [arrs, Fw.front, zm1, zm2, zm3, zm4, zm5] at H
  exact ⟨rfl, .over0 { p.over with wn := true } r.worn a1 a2 a3 a4 H (base_worn L.toBase) rfl rfl L.dc L.rdc L.dec⟩

theorem raiseP {B w : World} {F : List Ent} {g h : Nat} {p : PS} {r : RS} {hs : List Int} {ms : List (Int × GM)} {ht hc hm qt qc qm a1 a2 a3 a4 : Nat} {ha qa : Option Nat} {D : Ent} (H : Own B (D :: .cells g 80 p.cells :: .row p.ga p.gc 3 1 p.gs.length (ints p.gs) :: .cells ht 109 [slv ha p.gs.length hc, .int .i64 ((p.gs.length : Int) + 1), .map (some hm)] :: .row ha hc 3 1 p.gs.length (ints p.gs) :: .imap hm (heardK hs) :: .cells qt 145 [slv qa p.gs.length qc, .int .i64 ((p.gs.length : Int) / 2 + 1), .map (some qm)] :: .row qa qc 3 1 p.gs.length (ints p.gs) :: .imap qm (kvM ms) :: .cells h 54 (r.cellsV (slv (some a1) r.gs.length r.gs.length) (slv (some a2) r.gs.length r.gs.length) (slv (some a3) r.gs.length r.gs.length) (slv (some a4) r.gs.length r.gs.length)) :: .row r.ga r.gc 3 1 r.gs.length (ints r.gs) :: .cells a1 4 (bools r.ans) :: .cells a2 4 (bools r.cnt) :: .cells a3 38 (stamps r.held) :: .cells a4 28 (cmdsC r.cms) :: F) w) (L : Live p r hs ms) (ph : p.ph = phP qt) (rp : r.ph = 1) (hr : p.rf = true) (hw : ¬ (1099511627776 ≤ max p.bal p.nt ∨ 1099511627776 ≤ p.rnd)) :
    Calls Try.prog 25 #[.pointer (some ⟨g, 0, none⟩)] w fun e w1 => ∃ v1, e = .returned v1 ∧ Calls Try.prog 26 #[.pointer (some ⟨h, 0, none⟩)] w1 fun e w2 => ∃ v2, e = .returned v2 ∧ Calls Try.prog 23 #[v1, v2] w2 fun e w3 => e = .returned (.bool true) ∧  Inv B F g h w3 := by
  have hlen := L.len
  have hb1 := L.b1
  have hr1 := L.r1
  have hgs := congrArg List.length L.gs
  have hnt := L.nt
  have hrd := L.rnd
  have H := Own.arr [14, 14, 14, 14, 14, 14, 8, 8] H
  simp only [arrs, Fw.front, zm1, zm2, zm3, zm4, zm5] at H
  replace H := H.sub (.cons_cons _ (.cons_cons _ (.cons_cons _ (.cons_cons _ (.cons_cons _ (.cons_cons _ (.cons_cons _ (.cons_cons _ (.cons _ (.cons _ (.cons _ (.cons _ (.cons _ (.cons _ (.cons _ (List.Sublist.refl _))))))))))))))))
  refine Calls.mono (tick_raiseP H (by omega) L.un ph hr hw (by omega)) ?_
  rintro e w ⟨ht, ha, hc, hm, qt, qa, qc, qm, a, c, rfl, H⟩
  refine ⟨_, rfl, ?_⟩
  have H := Own.arr [8, 8, 8, 8, 8, 8, 8, 8, 8, 10, 10] H
  simp only [arrs, Fw.front, zm1, zm2, zm3, zm4, zm5] at H
  replace H := H.sub (.cons_cons _ (.cons_cons _ (.cons_cons _ (.cons_cons _ (.cons_cons _ (.cons_cons _ (.cons_cons _ (.cons_cons _ (.cons_cons _ (.cons_cons _ (.cons_cons _ (.cons _ (.cons _ (.cons _ (.cons _ (List.Sublist.refl _))))))))))))))))
  refine Calls.mono (tick_nextR H (by omega) (by omega) (by rw [← L.rf]; exact hr) (mt L.far.2 hw) (by omega)) ?_
  rintro e w ⟨b1, b2, b3, b4, a', c', rfl, H⟩
  refine ⟨_, rfl, ?_⟩
  have H := Own.arr [6, 6, 6, 6, 6, 6, 15, 15, 15, 15, 15, 15, 15, 15, 14, 15] H
  simp only [arrs, Fw.front, zm1, zm2, zm3, zm4, zm5] at H
  have hL : Live (p.raise.enter (phP qt) ht) r.raise.bump.clear [] [] :=
    live_clear L.toBase ⟨rfl, rfl, rfl, rfl, rfl, rfl, rfl, rfl, rfl, rfl⟩ ⟨rfl, rfl, rfl, rfl, rfl, rfl, rfl, rfl, rfl, rfl, rfl, rfl, rfl⟩ (by show p.rnd + 1 = r.rnd + 1; rw [hrd]) (by show max (max p.bal p.nt + 1) p.nt = r.nt + 1; omega) (by show max p.bal p.nt + 1 = r.nt + 1; omega) rfl (by show 1 ≤ max p.bal p.nt + 1; omega) (by show 1 ≤ p.rnd + 1; omega) L.dc L.rdc L.dec
  have eo : r.raise.bump.clear.out = p.raise.outP p.gs := by
    rw [out_prep hL.toBase hL.bal rfl hL.ans, show heardK [] = [] from rfl, missing_nil]
    rfl
  rw [eo] at H ⊢
  refine Calls.mono (sameMsgs_s H (plain_prep _ _) (by simp only [PS.outP, List.length_map]; omega)) ?_
  rintro e w ⟨rfl, H⟩
  exact ⟨rfl, .live (p.raise.enter (phP qt) ht) r.raise.bump.clear [] [] ht hc hm ha qt qc qm qa b1 b2 b3 b4 (H.drop 2) rfl hL (.inl ⟨rfl, rfl⟩)⟩

theorem wornA {B w : World} {F : List Ent} {g h : Nat} {p : PS} {r : RS} {hs : List Int} {ms : List (Int × GM)} {ht hc hm qt qc qm a1 a2 a3 a4 : Nat} {ha qa : Option Nat} {D : Ent} (H : Own B (D :: .cells g 80 p.cells :: .row p.ga p.gc 3 1 p.gs.length (ints p.gs) :: .cells ht 109 [slv ha p.gs.length hc, .int .i64 ((p.gs.length : Int) + 1), .map (some hm)] :: .row ha hc 3 1 p.gs.length (ints p.gs) :: .imap hm (heardK hs) :: .cells qt 145 [slv qa p.gs.length qc, .int .i64 ((p.gs.length : Int) / 2 + 1), .map (some qm)] :: .row qa qc 3 1 p.gs.length (ints p.gs) :: .imap qm (kvM ms) :: .cells h 54 (r.cellsV (slv (some a1) r.gs.length r.gs.length) (slv (some a2) r.gs.length r.gs.length) (slv (some a3) r.gs.length r.gs.length) (slv (some a4) r.gs.length r.gs.length)) :: .row r.ga r.gc 3 1 r.gs.length (ints r.gs) :: .cells a1 4 (bools r.ans) :: .cells a2 4 (bools r.cnt) :: .cells a3 38 (stamps r.held) :: .cells a4 28 (cmdsC r.cms) :: F) w) (L : Live p r hs ms) (ph : p.ph = phA qt p.mine) (rp : r.ph = 2) (hr : p.rf = true) (hw : 1099511627776 ≤ max p.bal p.nt ∨ 1099511627776 ≤ p.rnd) :
    Calls Try.prog 25 #[.pointer (some ⟨g, 0, none⟩)] w fun e w1 => ∃ v1, e = .returned v1 ∧ Calls Try.prog 26 #[.pointer (some ⟨h, 0, none⟩)] w1 fun e w2 => ∃ v2, e = .returned v2 ∧ Calls Try.prog 23 #[v1, v2] w2 fun e w3 => e = .returned (.bool true) ∧  Inv B F g h w3 := by
  have H := Own.arr [14, 14, 14, 14, 14, 14, 7] H
  simp only [arrs, Fw.front, zm1, zm2, zm3, zm4, zm5] at H
  replace H := H.sub (.cons_cons _ (.cons_cons _ (.cons_cons _ (.cons_cons _ (.cons_cons _ (.cons_cons _ (.cons_cons _ (.cons _ (.cons _ (.cons _ (.cons _ (.cons _ (.cons _ (.cons _ (.cons _ (List.Sublist.refl _))))))))))))))))
  refine Calls.mono (tick_wornA H ph hr hw) ?_
  rintro e w ⟨rfl, H⟩
  refine ⟨_, rfl, ?_⟩
  have H := H.front 1
  simp only [arrs, Fw.front, zm1, zm2, zm3, zm4, zm5] at H
  refine Calls.mono (tick_wornR H (by omega) (by rw [← L.rf]; exact hr) (L.far.1 hw)) ?_
  rintro e w ⟨rfl, H⟩
  refine ⟨_, rfl, ?_⟩
  refine Calls.mono (sameNil H) ?_
  rintro e w ⟨rfl, H⟩
  have H := H.front 1
  simp only [arrs, Fw.front, zm1, zm2, zm3, zm4, zm5] at H
  exact ⟨rfl, .over0 { p.over with wn := true } r.worn a1 a2 a3 a4 H (base_worn L.toBase) rfl rfl L.dc L.rdc L.dec⟩

theorem raiseA {B w : World} {F : List Ent} {g h : Nat} {p : PS} {r : RS} {hs : List Int} {ms : List (Int × GM)} {ht hc hm qt qc qm a1 a2 a3 a4 : Nat} {ha qa : Option Nat} {D : Ent} (H : Own B (D :: .cells g 80 p.cells :: .row p.ga p.gc 3 1 p.gs.length (ints p.gs) :: .cells ht 109 [slv ha p.gs.length hc, .int .i64 ((p.gs.length : Int) + 1), .map (some hm)] :: .row ha hc 3 1 p.gs.length (ints p.gs) :: .imap hm (heardK hs) :: .cells qt 145 [slv qa p.gs.length qc, .int .i64 ((p.gs.length : Int) / 2 + 1), .map (some qm)] :: .row qa qc 3 1 p.gs.length (ints p.gs) :: .imap qm (kvM ms) :: .cells h 54 (r.cellsV (slv (some a1) r.gs.length r.gs.length) (slv (some a2) r.gs.length r.gs.length) (slv (some a3) r.gs.length r.gs.length) (slv (some a4) r.gs.length r.gs.length)) :: .row r.ga r.gc 3 1 r.gs.length (ints r.gs) :: .cells a1 4 (bools r.ans) :: .cells a2 4 (bools r.cnt) :: .cells a3 38 (stamps r.held) :: .cells a4 28 (cmdsC r.cms) :: F) w) (L : Live p r hs ms) (ph : p.ph = phA qt p.mine) (rp : r.ph = 2) (hr : p.rf = true) (hw : ¬ (1099511627776 ≤ max p.bal p.nt ∨ 1099511627776 ≤ p.rnd)) :
    Calls Try.prog 25 #[.pointer (some ⟨g, 0, none⟩)] w fun e w1 => ∃ v1, e = .returned v1 ∧ Calls Try.prog 26 #[.pointer (some ⟨h, 0, none⟩)] w1 fun e w2 => ∃ v2, e = .returned v2 ∧ Calls Try.prog 23 #[v1, v2] w2 fun e w3 => e = .returned (.bool true) ∧  Inv B F g h w3 := by
  have hlen := L.len
  have hb1 := L.b1
  have hr1 := L.r1
  have hgs := congrArg List.length L.gs
  have hnt := L.nt
  have hrd := L.rnd
  have H := Own.arr [14, 14, 14, 14, 14, 14, 8, 8] H
  simp only [arrs, Fw.front, zm1, zm2, zm3, zm4, zm5] at H
  replace H := H.sub (.cons_cons _ (.cons_cons _ (.cons_cons _ (.cons_cons _ (.cons_cons _ (.cons_cons _ (.cons_cons _ (.cons_cons _ (.cons _ (.cons _ (.cons _ (.cons _ (.cons _ (.cons _ (.cons _ (List.Sublist.refl _))))))))))))))))
  refine Calls.mono (tick_raiseA H (by omega) L.un ph hr hw (by omega)) ?_
  rintro e w ⟨ht, ha, hc, hm, qt, qa, qc, qm, a, c, rfl, H⟩
  refine ⟨_, rfl, ?_⟩
  have H := Own.arr [8, 8, 8, 8, 8, 8, 8, 8, 8, 10, 10] H
  simp only [arrs, Fw.front, zm1, zm2, zm3, zm4, zm5] at H
  replace H := H.sub (.cons_cons _ (.cons_cons _ (.cons_cons _ (.cons_cons _ (.cons_cons _ (.cons_cons _ (.cons_cons _ (.cons_cons _ (.cons_cons _ (.cons_cons _ (.cons_cons _ (.cons _ (.cons _ (.cons _ (.cons _ (List.Sublist.refl _))))))))))))))))
  refine Calls.mono (tick_nextR H (by omega) (by omega) (by rw [← L.rf]; exact hr) (mt L.far.2 hw) (by omega)) ?_
  rintro e w ⟨b1, b2, b3, b4, a', c', rfl, H⟩
  refine ⟨_, rfl, ?_⟩
  have H := Own.arr [6, 6, 6, 6, 6, 6, 15, 15, 15, 15, 15, 15, 15, 15, 14, 15] H
  simp only [arrs, Fw.front, zm1, zm2, zm3, zm4, zm5] at H
  have hL : Live (p.raise.enter (phP qt) ht) r.raise.bump.clear [] [] :=
    live_clear L.toBase ⟨rfl, rfl, rfl, rfl, rfl, rfl, rfl, rfl, rfl, rfl⟩ ⟨rfl, rfl, rfl, rfl, rfl, rfl, rfl, rfl, rfl, rfl, rfl, rfl, rfl⟩ (by show p.rnd + 1 = r.rnd + 1; rw [hrd]) (by show max (max p.bal p.nt + 1) p.nt = r.nt + 1; omega) (by show max p.bal p.nt + 1 = r.nt + 1; omega) rfl (by show 1 ≤ max p.bal p.nt + 1; omega) (by show 1 ≤ p.rnd + 1; omega) L.dc L.rdc L.dec
  have eo : r.raise.bump.clear.out = p.raise.outP p.gs := by
    rw [out_prep hL.toBase hL.bal rfl hL.ans, show heardK [] = [] from rfl, missing_nil]
    rfl
  rw [eo] at H ⊢
  refine Calls.mono (sameMsgs_s H (plain_prep _ _) (by simp only [PS.outP, List.length_map]; omega)) ?_
  rintro e w ⟨rfl, H⟩
  exact ⟨rfl, .live (p.raise.enter (phP qt) ht) r.raise.bump.clear [] [] ht hc hm ha qt qc qm qa b1 b2 b3 b4 (H.drop 2) rfl hL (.inl ⟨rfl, rfl⟩)⟩
end Go.Proofs.Ytofaoblfemfkiaa

namespace Go.Proofs.Ytofaoblfemfkiaa
open Go Go.RowKit Go.Fw
set_option linter.unusedSimpArgs false
set_option linter.unusedVariables false
set_option maxRecDepth 4000
set_option maxHeartbeats 2000000


theorem inv_tick {B w : World} {F : List Ent} {g h : Nat} {x : Value} (hx : x = .agg (Value.int .i64 1 :: GM.zero.cells).toArray) (I : Inv B F g h w) :
    Calls Try.prog 8 #[.pointer (some ⟨g, 0, none⟩), .pointer (some ⟨h, 0, none⟩), x] w fun e w' => e = .returned (.bool true) ∧ Inv B F g h w' := by
  cases I with
  | live p r hs ms ht hc hm ha qt qc qm qa a1 a2 a3 a4 H hh L ph =>
    refine step_tick (K := Inv B F g h) hx H fun D w H => ?_
    have back : ∀ w', Own B (.cells g 80 p.cells :: .row p.ga p.gc 3 1 p.gs.length (ints p.gs) :: .cells ht 109 [slv ha p.gs.length hc, .int .i64 ((p.gs.length : Int) + 1), .map (some hm)] :: .row ha hc 3 1 p.gs.length (ints p.gs) :: .imap hm (heardK hs) :: .cells qt 145 [slv qa p.gs.length qc, .int .i64 ((p.gs.length : Int) / 2 + 1), .map (some qm)] :: .row qa qc 3 1 p.gs.length (ints p.gs) :: .imap qm (kvM ms) :: .cells h 54 (r.cellsV (slv (some a1) r.gs.length r.gs.length) (slv (some a2) r.gs.length r.gs.length) (slv (some a3) r.gs.length r.gs.length) (slv (some a4) r.gs.length r.gs.length)) :: .row r.ga r.gc 3 1 r.gs.length (ints r.gs) :: .cells a1 4 (bools r.ans) :: .cells a2 4 (bools r.cnt) :: .cells a3 38 (stamps r.held) :: .cells a4 28 (cmdsC r.cms) :: F) w' → Inv B F g h w' := fun w' H' => .live p r hs ms ht hc hm ha qt qc qm qa a1 a2 a3 a4 H' hh L ph
    rcases ph with ⟨hp, hr⟩ | ⟨hp, hr, hc⟩
    · cases hf : p.rf with
      | false => exact Calls.mono (quietP H hh L hp hr hf) fun e w1 ⟨v1, e1, h1⟩ => ⟨v1, e1, Calls.mono h1 fun e w2 ⟨v2, e2, h2⟩ => ⟨v2, e2, Calls.mono h2 fun e w3 h3 => ⟨h3.1, back _ h3.2⟩⟩⟩
      | true =>
        by_cases hw : 1099511627776 ≤ max p.bal p.nt ∨ 1099511627776 ≤ p.rnd
        · exact wornP H L hp hr hf hw
        · exact raiseP H L hp hr hf hw
    · cases hf : p.rf with
      | false => exact Calls.mono (quietA H hh L hp hr hc hf) fun e w1 ⟨v1, e1, h1⟩ => ⟨v1, e1, Calls.mono h1 fun e w2 ⟨v2, e2, h2⟩ => ⟨v2, e2, Calls.mono h2 fun e w3 h3 => ⟨h3.1, back _ h3.2⟩⟩⟩
      | true =>
        by_cases hw : 1099511627776 ≤ max p.bal p.nt ∨ 1099511627776 ≤ p.rnd
        · exact wornA H L hp hr hf hw
        · exact raiseA H L hp hr hf hw
  | over0 p r a1 a2 a3 a4 H L ph rp dc rdc dec =>
    exact step_tick (K := Inv B F g h) hx H fun D w H => tick_over0 H ph rp fun w H => .over0 p r a1 a2 a3 a4 H L ph rp dc rdc dec
  | over1 p r q c a1 a2 a3 a4 H L ph rp dc rdc dec =>
    refine step_tick (K := Inv B F g h) hx H fun D w H => ?_
    have H := Own.arr [2, 3, 3, 3] H
    simp only [arrs, Fw.front, zm1, zm2, zm3, zm4, zm5] at H
    exact tick_over0 H ph rp fun w H => by
      have H := Own.arr [1, 2, 2] H
      simp only [arrs, Fw.front, zm1, zm2, zm3, zm4, zm5] at H
      exact .over1 p r q c a1 a2 a3 a4 H L ph rp dc rdc dec
end Go.Proofs.Ytofaoblfemfkiaa

namespace Go.Proofs.Ytofaoblfemfkiaa
open Go Go.RowKit Go.Fw
set_option linter.unusedSimpArgs false
set_option linter.unusedVariables false
set_option maxRecDepth 4000
set_option maxHeartbeats 2000000


/-! ### A message that fits -/
theorem plain_fields {m : GM} (h : m.plain) : m.blk = ⟨none, 0, 0⟩ ∧ m.ents = ⟨none, 0, 0⟩ ∧ m.lasts = ⟨none, 0, 0⟩ ∧ m.cmds = ⟨none, 0, 0⟩ :=
  ⟨(congrArg GM.blk h).symm, (congrArg GM.ents h).symm, (congrArg GM.lasts h).symm, (congrArg GM.cmds h).symm⟩
theorem plain_of {m : GM} (h : m.blk = ⟨none, 0, 0⟩ ∧ m.ents = ⟨none, 0, 0⟩ ∧ m.lasts = ⟨none, 0, 0⟩ ∧ m.cmds = ⟨none, 0, 0⟩) : m.plain := by
  obtain ⟨h1, h2, h3, h4⟩ := h
  cases m
  simp only at h1 h2 h3 h4
  subst h1 h2 h3 h4
  rfl
theorem fit_plain {r : RS} {m : GM} {x : Int} (h : m.plain) : (r.fit m x).plain := by
  obtain ⟨h1, h2, h3, h4⟩ := plain_fields h
  refine plain_of ?_
  unfold RS.fit
  dsimp only
  split <;> exact ⟨h1, h2, h3, h4⟩
theorem fit_fields (r : RS) (m : GM) (x : Int) : (r.fit m x).kind = m.kind ∧ (r.fit m x).fc = false ∧ (r.fit m x).fi = x ∧ (r.fit m x).tc = true ∧ (r.fit m x).ti = r.cl ∧ (r.fit m x).op = r.op ∧ (r.fit m x).rnd = r.rnd ∧ (r.fit m x).k0 = r.kk ∧ (r.fit m x).k1 = r.ka ∧ (r.fit m x).k2 = r.kb ∧ (r.fit m x).k3 = r.kc ∧ (r.fit m x).h0 = m.h0 ∧ (r.fit m x).h1 = m.h1 ∧ (r.fit m x).cmd = m.cmd := by
  unfold RS.fit
  dsimp only
  split <;> exact ⟨rfl, rfl, rfl, rfl, rfl, rfl, rfl, rfl, rfl, rfl, rfl, rfl, rfl, rfl⟩
theorem fit_own {r : RS} {m : GM} {x : Int} (hk : m.kind ≠ 14) (hm : m.more = true) : (r.fit m x).s0 = r.n ∧ (r.fit m x).s1 = r.cl := by
  unfold RS.fit
  dsimp only
  rw [if_pos (by simp [hk, hm])]
  exact ⟨rfl, rfl⟩
/-- What a message that fits has. -/
structure Fits (r : RS) (m : GM) : Prop where
  fc : m.fc = false
  tc : m.tc = true
  ti : m.ti = r.cl
  op : m.op = r.op
  rnd : m.rnd = r.rnd
  k0 : m.k0 = r.kk
  k1 : m.k1 = r.ka
  k2 : m.k2 = r.kb
  k3 : m.k3 = r.kc
theorem fits_fit (r : RS) (m : GM) (x : Int) : Fits r (r.fit m x) := by
  obtain ⟨_, h1, _, h2, h3, h4, h5, h6, h7, h8, h9, _⟩ := fit_fields r m x
  exact ⟨h1, h2, h3, h4, h5, h6, h7, h8, h9⟩
theorem wants_of {p : PS} {r : RS} {m : GM} (L : Base p r) (f : Fits r m) (hv : m.fi ∈ p.gs) : p.wants m = true := by
  simp [PS.wants, f.fc, hv, f.tc, f.ti, f.op, f.rnd, f.k0, f.k1, f.k2, f.k3, L.cl, L.op, L.rnd, L.kk, L.ka, L.kb, L.kc]
theorem foreign_of {r : RS} {m : GM} (f : Fits r m) (hp : r.ph = 1 ∨ r.ph = 2) : r.foreign m = false := by
  rcases hp with hp | hp <;> simp [RS.foreign, f.fc, f.tc, f.ti, f.op, f.rnd, f.k0, f.k1, f.k2, f.k3, hp]
theorem foreign_over {r : RS} {m : GM} (hp : r.ph = 3) : r.foreign m = true := by simp [RS.foreign, hp]
theorem at_of {r : RS} {m : GM} (f : Fits r m) (hp : r.ph = 1 ∨ r.ph = 2) (hv : m.fi ∈ r.gs) : ∃ k : Nat, ∃ hk : k < r.gs.length, r.at m = (k : Int) ∧ r.gs[k] = m.fi := by
  obtain ⟨k, hk, h1, h2⟩ := idxOf_get hv
  exact ⟨k, hk, by rw [RS.at, foreign_of f hp, if_neg (by simp)]; exact h1, h2⟩
theorem lent_fits {r : RS} {m : GM} (f : Fits r m) (a1 a2 a3 a4 : Option Addr) (c1 c2 c3 c4 : Nat) : Fits r (m.lent a1 a2 a3 a4 c1 c2 c3 c4) := ⟨f.fc, f.tc, f.ti, f.op, f.rnd, f.k0, f.k1, f.k2, f.k3⟩
theorem ans_at {p : PS} {r : RS} {hs : List Int} {ms : List (Int × GM)} (L : Live p r hs ms) {k : Nat} (hk : k < r.gs.length) (h : k < r.ans.length) : r.ans[k] = decide (r.gs[k] ∈ hs) := by
  have e := L.ans
  have hg := L.gs
  have : r.ans[k]? = some (decide (r.gs[k] ∈ hs)) := by
    rw [e, ansOf, List.getElem?_map, hg, List.getElem?_eq_getElem hk]
    rfl
  rw [List.getElem?_eq_getElem h] at this
  exact Option.some.inj this
theorem cnt_at {p : PS} {r : RS} {hs : List Int} {ms : List (Int × GM)} (L : Live p r hs ms) {k : Nat} (hk : k < r.gs.length) (h : k < r.cnt.length) : r.cnt[k] = (msGet ms r.gs[k]).isSome := by
  have e := L.cnt
  have hg := L.gs
  have : r.cnt[k]? = some ((msGet ms r.gs[k]).isSome) := by
    rw [e, cntOf, List.getElem?_map, hg, List.getElem?_eq_getElem hk]
    rfl
  rw [List.getElem?_eq_getElem h] at this
  exact Option.some.inj this
end Go.Proofs.Ytofaoblfemfkiaa

namespace Go.Proofs.Ytofaoblfemfkiaa
open Go Go.RowKit Go.Fw
set_option linter.unusedSimpArgs false
set_option linter.unusedVariables false
set_option maxRecDepth 4000
set_option maxHeartbeats 2000000


/-! ### What a message does -/
theorem fresh_of {p : PS} {r : RS} {hs : List Int} {ms : List (Int × GM)} (L : Live p r hs ms) {v : Int} (hv : v ∈ p.gs) : p.fresh hs v = !decide (v ∈ hs) := by
  rw [fresh_eq]; simp [hv]
theorem live_nack {p : PS} {r : RS} {hs : List Int} {ms : List (Int × GM)} (L : Live p r hs ms) {k : Nat} (hk : k < r.gs.length) (hn : r.gs[k] ∉ hs) (n : Int) : Live (p.nack n) (r.nack k n) (hs ++ [r.gs[k]]) ms := by
  have hka : k < r.ans.length := by rw [L.la]; exact hk
  have hf : r.ans[k] = false := by rw [ans_at L hk hka]; simp [hn]
  have hkg : k < p.gs.length := by rw [L.gs]; exact hk
  have hgk : p.gs[k] = r.gs[k] := by simp only [L.gs]
  exact {
    cl := L.cl, op := L.op, kk := L.kk, ka := L.ka, kb := L.kb, kc := L.kc, gs := L.gs, mine := L.mine, rnd := L.rnd
    nt := by show max p.bal (max p.nt n) = max r.nt n; rw [← L.nt]; omega
    wn := L.wn, tm := L.tm, tr := L.tr, bu := L.bu, be := L.be, bl := L.bl, nd := L.nd, un := L.un, len := L.len, pos := L.pos
    la := by show (r.ans.set k true).length = _; rw [List.length_set]; exact L.la
    lc := L.lc, lh := L.lh, lm := L.lm, bal := L.bal, rf := rfl, b1 := L.b1, r1 := L.r1, dc := L.dc, rdc := L.rdc, dec := L.dec
    ans := by
      show r.ans.set k true = ansOf p.gs (hs ++ [r.gs[k]])
      rw [L.ans, ansOf_set hkg L.nd, hgk]
    cnt := L.cnt, held := L.held
    na := by show cntN (r.ans.set k true) = _; rw [cntN_set _ _ hka hf, L.na]; simp
    nc := L.nc, hz := L.hz
    sub := fun v h => List.mem_append_left _ (L.sub v h)
    few := L.few }
theorem counts_of {p : PS} {r : RS} {hs : List Int} {ms : List (Int × GM)} (L : Live p r hs ms) {v : Int} (hv : v ∈ p.gs) (hn : v ∉ hs) : p.counts ms v = true := by
  have h1 : msGet ms v = none := by
    cases h : msGet ms v with
    | none => rfl
    | some m => exact absurd (L.sub v (by rw [h]; rfl)) hn
  have hfew := L.few
  have hl : (kvM ms).length = ms.length := by simp [kvM]
  simp only [PS.counts, Ytofaoblfemfkiaa.counts, kvGet_kvM, h1, hl]
  simp [hv, hfew]
theorem took_of {p : PS} {r : RS} {hs : List Int} {ms : List (Int × GM)} (L : Live p r hs ms) {v : Int} (m : GM) (hv : v ∈ p.gs) (hn : v ∉ hs) : p.took ms v m = ms ++ [(v, m)] := by
  rw [PS.took, if_pos (counts_of L hv hn)]
theorem takes_of {p : PS} {r : RS} {hs : List Int} {ms : List (Int × GM)} (L : Live p r hs ms) {v : Int} (m : GM) (hv : v ∈ p.gs) (hn : v ∉ hs) : p.takes ms v m = decide ((p.gs.length : Int) / 2 + 1 ≤ (ms.length : Int) + 1) := by
  have hc := counts_of L hv hn
  have ht := took_eq p ms v m
  rw [PS.takes, Ytofaoblfemfkiaa.takes, ht, took_of L m hv hn]
  simp only [PS.counts] at hc
  rw [hc]
  simp [kvM]
end Go.Proofs.Ytofaoblfemfkiaa

namespace Go.Proofs.Ytofaoblfemfkiaa
open Go Go.RowKit Go.Fw
set_option linter.unusedSimpArgs false
set_option linter.unusedVariables false
set_option maxRecDepth 4000
set_option maxHeartbeats 2000000


/-! ### An answer that counts -/
theorem cntN_took {p : PS} {r : RS} {hs : List Int} {ms : List (Int × GM)} (L : Live p r hs ms) {k : Nat} (hk : k < r.gs.length) (hn : r.gs[k] ∉ hs) : cntN (r.cnt.set k true) = ms.length + 1 := by
  have hkc : k < r.cnt.length := by rw [L.lc]; exact hk
  have hf : r.cnt[k] = false := by
    rw [cnt_at L hk hkc]
    cases h : msGet ms r.gs[k] with
    | none => rfl
    | some m => exact absurd (L.sub _ (by rw [h]; rfl)) hn
  rw [cntN_set _ _ hkc hf, L.nc]
/-- The answers behind it, where there are too few yet. -/
theorem live_took {p : PS} {r r' : RS} {hs : List Int} {ms : List (Int × GM)} (L : Live p r hs ms) {k : Nat} {m : GM} (hk : k < r.gs.length) (hn : r.gs[k] ∉ hs) (h0 : m.h0 = 0) (h1 : m.h1 = 0)
    (hr : r' = { r with ans := r'.ans, cnt := r'.cnt, held := r'.held, cms := r'.cms }) (ea : r'.ans = r.ans.set k true) (ec : r'.cnt = r.cnt.set k true) (eh : r'.held = List.replicate r.gs.length (0, 0)) (em : r'.cms.length = r.gs.length)
    (hfew : (ms.length : Int) + 1 < (p.gs.length : Int) / 2 + 1) : Live p r' (hs ++ [r.gs[k]]) (ms ++ [(r.gs[k], m)]) := by
  have hka : k < r.ans.length := by rw [L.la]; exact hk
  have hf : r.ans[k] = false := by rw [ans_at L hk hka]; simp [hn]
  have hkg : k < p.gs.length := by rw [L.gs]; exact hk
  have hgk : p.gs[k] = r.gs[k] := by simp only [L.gs]
  rw [hr]
  exact {
    cl := L.cl, op := L.op, kk := L.kk, ka := L.ka, kb := L.kb, kc := L.kc, gs := L.gs, mine := L.mine, rnd := L.rnd
    nt := L.nt, wn := L.wn, tm := L.tm, tr := L.tr, bu := L.bu, be := L.be, bl := L.bl, nd := L.nd, un := L.un, len := L.len, pos := L.pos
    la := by show r'.ans.length = _; rw [ea, List.length_set]; exact L.la
    lc := by show r'.cnt.length = _; rw [ec, List.length_set]; exact L.lc
    lh := by show r'.held.length = _; rw [eh]; simp
    lm := em, bal := L.bal, rf := L.rf, b1 := L.b1, r1 := L.r1, dc := L.dc, rdc := L.rdc, dec := L.dec
    ans := by show r'.ans = _; rw [ea, L.ans, ansOf_set hkg L.nd, hgk]
    cnt := by show r'.cnt = _; rw [ec, L.cnt, cntOf_set (m := m) hkg L.nd, hgk]
    held := eh
    na := by show cntN r'.ans = _; rw [ea, cntN_set _ _ hka hf, L.na]; simp
    nc := by show cntN r'.cnt = _; rw [ec, cntN_took L hk hn]; simp
    hz := fun x hx => by
      rcases List.mem_append.1 hx with h | h
      · exact L.hz x h
      · have : x = (r.gs[k], m) := by simpa using h
        rw [this]; exact ⟨h0, h1⟩
    sub := fun v h => by
      rw [msGet_snoc] at h
      cases hq : msGet ms v with
      | some y => exact List.mem_append_left _ (L.sub v (by rw [hq]; rfl))
      | none =>
        rw [hq] at h
        by_cases hv : v = r.gs[k]
        · rw [hv]; exact List.mem_append_right _ (List.mem_singleton.2 rfl)
        · simp [hv] at h
    few := by simp only [List.length_append, List.length_singleton]; push_cast; exact hfew }
theorem held_set {n k : Nat} : (List.replicate n ((0 : Int), (0 : Int))).set k (0, 0) = List.replicate n (0, 0) := by
  apply List.ext_getElem
  · simp
  · intro j h1 h2
    simp [List.getElem_set]
/-- Nothing held is greater than nothing. -/
theorem heldOf_none {l : List GM} (h : ∀ m ∈ l, m.h0 = 0 ∧ m.h1 = 0) : heldOf l = [] := by
  rw [heldOf, List.filter_eq_nil_iff]
  intro m hm
  obtain ⟨e0, e1⟩ := h m hm
  simp [stampLess, e0, e1]
theorem msGet_mem {ms : List (Int × GM)} {v : Int} {m : GM} (h : msGet ms v = some m) : ∃ s, (s, m) ∈ ms := by
  induction ms with
  | nil => cases h
  | cons x r ih =>
    obtain ⟨j, y⟩ := x
    simp only [msGet] at h
    by_cases hv : v = j
    · simp only [hv, if_true, Option.some.injEq] at h
      exact ⟨j, by rw [h]; exact List.mem_cons_self ..⟩
    · simp only [hv, if_false] at h
      obtain ⟨s, hs⟩ := ih h
      exact ⟨s, List.mem_cons_of_mem _ hs⟩
theorem chosen_mine {p : PS} {ms : List (Int × GM)} (h : ∀ x ∈ ms, x.2.h0 = 0 ∧ x.2.h1 = 0) : p.chosen ms = p.mine := by
  have hz : heldOf (gotM p.gs ms) = [] := heldOf_none fun m hm => by
    simp only [gotM, gotL, List.mem_map, List.mem_filterMap, Option.map_eq_some_iff] at hm
    obtain ⟨⟨s, m'⟩, ⟨g, _, y, hy, e⟩, rfl⟩ := hm
    obtain ⟨s', hs'⟩ := msGet_mem hy
    simp only [Prod.mk.injEq] at e
    rw [← e.2]
    exact h (s', y) hs'
  rw [PS.chosen, hz]
  rfl
theorem best_mine {r : RS} (hh : ∀ x ∈ r.held, x = (0, 0)) (k : Nat) : r.best k = ((0, 0), r.mine) := by
  have gen : ∀ (l : List (Bool × (Int × Int) × Cmd)), (∀ x ∈ l, x.2.1 = (0, 0)) → ∀ c, l.foldl chStep ((0, 0), c) = ((0, 0), c) := by
    intro l
    induction l with
    | nil => intro _ c; rfl
    | cons x l ih =>
      intro h c
      have hx := h x (List.mem_cons_self ..)
      rw [List.foldl_cons, show chStep ((0, 0), c) x = ((0, 0), c) by simp [chStep, hx, stampLess]]
      exact ih (fun y hy => h y (List.mem_cons_of_mem _ hy)) c
  refine gen _ (fun x hx => ?_) _
  have hx' := List.mem_of_mem_take hx
  obtain ⟨b, q⟩ := x
  have := (List.of_mem_zip hx').2
  obtain ⟨y, z⟩ := q
  exact hh _ (List.of_mem_zip this).1
end Go.Proofs.Ytofaoblfemfkiaa

namespace Go.Proofs.Ytofaoblfemfkiaa
open Go Go.RowKit Go.Fw
set_option linter.unusedSimpArgs false
set_option linter.unusedVariables false
set_option maxRecDepth 4000
set_option maxHeartbeats 2000000


theorem nackP {B w : World} {F : List Ent} {g h : Nat} {p : PS} {r : RS} {hs : List Int} {ms : List (Int × GM)} {ht hc hm qt qc qm a1 a2 a3 a4 : Nat} {ha qa : Option Nat} {m1 m2 : GM} (H : Own B (.cells g 80 p.cells :: .row p.ga p.gc 3 1 p.gs.length (ints p.gs) :: .cells ht 109 [slv ha p.gs.length hc, .int .i64 ((p.gs.length : Int) + 1), .map (some hm)] :: .row ha hc 3 1 p.gs.length (ints p.gs) :: .imap hm (heardK hs) :: .cells qt 145 [slv qa p.gs.length qc, .int .i64 ((p.gs.length : Int) / 2 + 1), .map (some qm)] :: .row qa qc 3 1 p.gs.length (ints p.gs) :: .imap qm (kvM ms) :: .cells h 54 (r.cellsV (slv (some a1) r.gs.length r.gs.length) (slv (some a2) r.gs.length r.gs.length) (slv (some a3) r.gs.length r.gs.length) (slv (some a4) r.gs.length r.gs.length)) :: .row r.ga r.gc 3 1 r.gs.length (ints r.gs) :: .cells a1 4 (bools r.ans) :: .cells a2 4 (bools r.cnt) :: .cells a3 38 (stamps r.held) :: .cells a4 28 (cmdsC r.cms) :: F) w) (hh : p.hd = .pointer (some ⟨ht, 0, none⟩)) (L : Live p r hs ms) (hv : m2.fi ∈ p.gs) (hf : m2.fi = m1.fi) (f1 : Fits r m1) (f2 : Fits r m2) (hk : m2.kind = m1.kind) (hp : p.ph = phP qt) (hr : r.ph = 1) (kd : m1.kind = 14) (hs0 : m2.s0 = m1.s0) (phs : (p.ph = phP qt ∧ r.ph = 1) ∨ (p.ph = phA qt p.mine ∧ r.ph = 2 ∧ r.chosen = p.mine)) :
    Calls Try.prog 18 #[.pointer (some ⟨g, 0, none⟩), .agg m2.cells.toArray] w fun e w1 => ∃ v1, e = .returned v1 ∧ Own B F w1 ∧ Calls Try.prog 29 #[.pointer (some ⟨h, 0, none⟩), .agg m1.cells.toArray] w1 fun e w2 => ∃ v2, e = .returned v2 ∧ Calls Try.prog 23 #[v1, v2] w2 fun e w3 => e = .returned (.bool true) ∧ Inv B F g h w3 := by
  have hlen := L.len
  have hgs := congrArg List.length L.gs
  have hvr : m1.fi ∈ r.gs := by rw [← hf, ← L.gs]; exact hv
  obtain ⟨k, hk1, hat, hgk⟩ := at_of f1 (by omega) hvr
  have hwant := wants_of L.toBase f2 hv
  have hans := ans_at L hk1 (by rw [L.la]; exact hk1)
  cases hfr : p.fresh hs m2.fi with
  | false =>
    have hin : m2.fi ∈ hs := by rw [fresh_of L hv] at hfr; simpa using hfr
    refine Calls.mono (take_nackOldP H (by omega) hp (by omega) hwant hh L.hl hfr) ?_
    rintro e w ⟨rfl, H⟩
    refine ⟨_, rfl, H.drop 14, ?_⟩
    have H := Own.arr [7, 7, 7, 7, 7, 7, 7, 7, 13, 13, 13, 13, 13, 13] H
    simp only [arrs, Fw.front, zm1, zm2, zm3, zm4, zm5] at H
    refine Calls.mono (take_staleR H (by omega) hat hk1 L.la L.lc L.lh L.lm (by omega) (by rw [hans, hgk, ← hf]; simp [hin])) ?_
    rintro e w ⟨rfl, H⟩
    refine ⟨_, rfl, ?_⟩
    refine Calls.mono (sameNil H) ?_
    rintro e w ⟨rfl, H⟩
    have H := Own.arr [5, 5, 5, 5, 5, 5, 13, 13, 13, 13, 13, 13, 13, 13] H
    simp only [arrs, Fw.front, zm1, zm2, zm3, zm4, zm5] at H
    exact ⟨rfl, .live p r hs ms ht hc hm ha qt qc qm qa a1 a2 a3 a4 H hh L phs⟩
  | true =>
    have hin : m2.fi ∉ hs := by rw [fresh_of L hv] at hfr; simpa using hfr
    refine Calls.mono (take_nackP H (by omega) hp (by omega) hwant hh L.hl hfr) ?_
    rintro e w ⟨rfl, H⟩
    refine ⟨_, rfl, H.drop 14, ?_⟩
    have H := Own.arr [7, 7, 7, 7, 7, 7, 7, 7, 13, 13, 13, 13, 13, 13] H
    simp only [arrs, Fw.front, zm1, zm2, zm3, zm4, zm5] at H
    refine Calls.mono (take_nackR H (by omega) hat hk1 L.la L.lc L.lh L.lm kd (by rw [hans, hgk, ← hf]; simp [hin])) ?_
    rintro e w ⟨rfl, H⟩
    refine ⟨_, rfl, ?_⟩
    refine Calls.mono (sameNil H) ?_
    rintro e w ⟨rfl, H⟩
    have H := Own.arr [5, 5, 5, 5, 5, 5, 13, 13, 13, 13, 13, 13, 13, 13] H
    simp only [arrs, Fw.front, zm1, zm2, zm3, zm4, zm5] at H
    have hL := live_nack L hk1 (by rw [hgk, ← hf]; exact hin) m1.s0
    rw [hgk, ← hf] at hL
    rw [hs0] at H
    exact ⟨rfl, .live (p.nack m1.s0) (r.nack k m1.s0) (hs ++ [m2.fi]) ms ht hc hm ha qt qc qm qa a1 a2 a3 a4 H hh hL phs⟩

theorem nackA {B w : World} {F : List Ent} {g h : Nat} {p : PS} {r : RS} {hs : List Int} {ms : List (Int × GM)} {ht hc hm qt qc qm a1 a2 a3 a4 : Nat} {ha qa : Option Nat} {m1 m2 : GM} (H : Own B (.cells g 80 p.cells :: .row p.ga p.gc 3 1 p.gs.length (ints p.gs) :: .cells ht 109 [slv ha p.gs.length hc, .int .i64 ((p.gs.length : Int) + 1), .map (some hm)] :: .row ha hc 3 1 p.gs.length (ints p.gs) :: .imap hm (heardK hs) :: .cells qt 145 [slv qa p.gs.length qc, .int .i64 ((p.gs.length : Int) / 2 + 1), .map (some qm)] :: .row qa qc 3 1 p.gs.length (ints p.gs) :: .imap qm (kvM ms) :: .cells h 54 (r.cellsV (slv (some a1) r.gs.length r.gs.length) (slv (some a2) r.gs.length r.gs.length) (slv (some a3) r.gs.length r.gs.length) (slv (some a4) r.gs.length r.gs.length)) :: .row r.ga r.gc 3 1 r.gs.length (ints r.gs) :: .cells a1 4 (bools r.ans) :: .cells a2 4 (bools r.cnt) :: .cells a3 38 (stamps r.held) :: .cells a4 28 (cmdsC r.cms) :: F) w) (hh : p.hd = .pointer (some ⟨ht, 0, none⟩)) (L : Live p r hs ms) (hv : m2.fi ∈ p.gs) (hf : m2.fi = m1.fi) (f1 : Fits r m1) (f2 : Fits r m2) (hk : m2.kind = m1.kind) (hp : p.ph = phA qt p.mine) (hr : r.ph = 2) (kd : m1.kind = 14) (hs0 : m2.s0 = m1.s0) (phs : (p.ph = phP qt ∧ r.ph = 1) ∨ (p.ph = phA qt p.mine ∧ r.ph = 2 ∧ r.chosen = p.mine)) :
    Calls Try.prog 18 #[.pointer (some ⟨g, 0, none⟩), .agg m2.cells.toArray] w fun e w1 => ∃ v1, e = .returned v1 ∧ Own B F w1 ∧ Calls Try.prog 29 #[.pointer (some ⟨h, 0, none⟩), .agg m1.cells.toArray] w1 fun e w2 => ∃ v2, e = .returned v2 ∧ Calls Try.prog 23 #[v1, v2] w2 fun e w3 => e = .returned (.bool true) ∧ Inv B F g h w3 := by
  have hlen := L.len
  have hgs := congrArg List.length L.gs
  have hvr : m1.fi ∈ r.gs := by rw [← hf, ← L.gs]; exact hv
  obtain ⟨k, hk1, hat, hgk⟩ := at_of f1 (by omega) hvr
  have hwant := wants_of L.toBase f2 hv
  have hans := ans_at L hk1 (by rw [L.la]; exact hk1)
  cases hfr : p.fresh hs m2.fi with
  | false =>
    have hin : m2.fi ∈ hs := by rw [fresh_of L hv] at hfr; simpa using hfr
    refine Calls.mono (take_nackOldA H (by omega) hp (by omega) hwant hh L.hl hfr) ?_
    rintro e w ⟨rfl, H⟩
    refine ⟨_, rfl, H.drop 14, ?_⟩
    have H := Own.arr [7, 7, 7, 7, 7, 7, 7, 7, 13, 13, 13, 13, 13, 13] H
    simp only [arrs, Fw.front, zm1, zm2, zm3, zm4, zm5] at H
    refine Calls.mono (take_staleR H (by omega) hat hk1 L.la L.lc L.lh L.lm (by omega) (by rw [hans, hgk, ← hf]; simp [hin])) ?_
    rintro e w ⟨rfl, H⟩
    refine ⟨_, rfl, ?_⟩
    refine Calls.mono (sameNil H) ?_
    rintro e w ⟨rfl, H⟩
    have H := Own.arr [5, 5, 5, 5, 5, 5, 13, 13, 13, 13, 13, 13, 13, 13] H
    simp only [arrs, Fw.front, zm1, zm2, zm3, zm4, zm5] at H
    exact ⟨rfl, .live p r hs ms ht hc hm ha qt qc qm qa a1 a2 a3 a4 H hh L phs⟩
  | true =>
    have hin : m2.fi ∉ hs := by rw [fresh_of L hv] at hfr; simpa using hfr
    refine Calls.mono (take_nackA H (by omega) hp (by omega) hwant hh L.hl hfr) ?_
    rintro e w ⟨rfl, H⟩
    refine ⟨_, rfl, H.drop 14, ?_⟩
    have H := Own.arr [7, 7, 7, 7, 7, 7, 7, 7, 13, 13, 13, 13, 13, 13] H
    simp only [arrs, Fw.front, zm1, zm2, zm3, zm4, zm5] at H
    refine Calls.mono (take_nackR H (by omega) hat hk1 L.la L.lc L.lh L.lm kd (by rw [hans, hgk, ← hf]; simp [hin])) ?_
    rintro e w ⟨rfl, H⟩
    refine ⟨_, rfl, ?_⟩
    refine Calls.mono (sameNil H) ?_
    rintro e w ⟨rfl, H⟩
    have H := Own.arr [5, 5, 5, 5, 5, 5, 13, 13, 13, 13, 13, 13, 13, 13] H
    simp only [arrs, Fw.front, zm1, zm2, zm3, zm4, zm5] at H
    have hL := live_nack L hk1 (by rw [hgk, ← hf]; exact hin) m1.s0
    rw [hgk, ← hf] at hL
    rw [hs0] at H
    exact ⟨rfl, .live (p.nack m1.s0) (r.nack k m1.s0) (hs ++ [m2.fi]) ms ht hc hm ha qt qc qm qa a1 a2 a3 a4 H hh hL phs⟩
end Go.Proofs.Ytofaoblfemfkiaa

namespace Go.Proofs.Ytofaoblfemfkiaa
open Go Go.RowKit Go.Fw
set_option linter.unusedSimpArgs false
set_option linter.unusedVariables false
set_option maxRecDepth 4000
set_option maxHeartbeats 2000000


theorem own_of {p : PS} {r : RS} {hs : List Int} {ms : List (Int × GM)} {m : GM} (L : Live p r hs ms) (h0 : m.s0 = r.n) (h1 : m.s1 = r.cl) : p.own m = true := by simp [PS.own, h0, h1, L.bal, L.cl]

theorem promise_stale {B w : World} {F : List Ent} {g h : Nat} {p : PS} {r : RS} {hs : List Int} {ms : List (Int × GM)} {ht hc hm qt qc qm a1 a2 a3 a4 : Nat} {ha qa : Option Nat} {m1 m2 : GM} (H : Own B (.cells g 80 p.cells :: .row p.ga p.gc 3 1 p.gs.length (ints p.gs) :: .cells ht 109 [slv ha p.gs.length hc, .int .i64 ((p.gs.length : Int) + 1), .map (some hm)] :: .row ha hc 3 1 p.gs.length (ints p.gs) :: .imap hm (heardK hs) :: .cells qt 145 [slv qa p.gs.length qc, .int .i64 ((p.gs.length : Int) / 2 + 1), .map (some qm)] :: .row qa qc 3 1 p.gs.length (ints p.gs) :: .imap qm (kvM ms) :: .cells h 54 (r.cellsV (slv (some a1) r.gs.length r.gs.length) (slv (some a2) r.gs.length r.gs.length) (slv (some a3) r.gs.length r.gs.length) (slv (some a4) r.gs.length r.gs.length)) :: .row r.ga r.gc 3 1 r.gs.length (ints r.gs) :: .cells a1 4 (bools r.ans) :: .cells a2 4 (bools r.cnt) :: .cells a3 38 (stamps r.held) :: .cells a4 28 (cmdsC r.cms) :: F) w) (hh : p.hd = .pointer (some ⟨ht, 0, none⟩)) (L : Live p r hs ms) (hv : m2.fi ∈ p.gs) (hf : m2.fi = m1.fi) (f1 : Fits r m1) (f2 : Fits r m2) (hk : m2.kind = m1.kind) (hs0 : m1.s0 = r.n) (hs1 : m1.s1 = r.cl) (hs2 : m2.s0 = m1.s0) (hs3 : m2.s1 = m1.s1) (hz0 : m1.h0 = 0 ∧ m1.h1 = 0) (hz2 : m2.h0 = 0 ∧ m2.h1 = 0) (hp : p.ph = phP qt) (hr : r.ph = 1) (kd : m1.kind = 13) (hfr : p.fresh hs m2.fi = false) :
    Calls Try.prog 18 #[.pointer (some ⟨g, 0, none⟩), .agg m2.cells.toArray] w fun e w1 => ∃ v1, e = .returned v1 ∧ Own B F w1 ∧ Calls Try.prog 29 #[.pointer (some ⟨h, 0, none⟩), .agg m1.cells.toArray] w1 fun e w2 => ∃ v2, e = .returned v2 ∧ Calls Try.prog 23 #[v1, v2] w2 fun e w3 => e = .returned (.bool true) ∧ Inv B F g h w3 := by
  have phs : (p.ph = phP qt ∧ r.ph = 1) ∨ (p.ph = phA qt p.mine ∧ r.ph = 2 ∧ r.chosen = p.mine) := .inl ⟨hp, hr⟩
  have hlen := L.len
  have hgs := congrArg List.length L.gs
  have hvr : m1.fi ∈ r.gs := by rw [← hf, ← L.gs]; exact hv
  obtain ⟨k, hk1, hat, hgk⟩ := at_of f1 (by omega) hvr
  have hwant := wants_of L.toBase f2 hv
  have hown : p.own m2 = true := own_of L (by rw [hs2, hs0]) (by rw [hs3, hs1])
  have hans := ans_at L hk1 (by rw [L.la]; exact hk1)
  have hin : m2.fi ∈ hs := by rw [fresh_of L hv] at hfr; simpa using hfr
  · skip
    refine Calls.mono (take_countP (K := fun v w' => v = slv none 0 0 ∧ Own B (.cells g 80 p.cells :: .row p.ga p.gc 3 1 p.gs.length (ints p.gs) :: .cells ht 109 [slv ha p.gs.length hc, .int .i64 ((p.gs.length : Int) + 1), .map (some hm)] :: .row ha hc 3 1 p.gs.length (ints p.gs) :: .imap hm (heardK hs) :: .cells qt 145 [slv qa p.gs.length qc, .int .i64 ((p.gs.length : Int) / 2 + 1), .map (some qm)] :: .row qa qc 3 1 p.gs.length (ints p.gs) :: .imap qm (kvM ms) :: .cells h 54 (r.cellsV (slv (some a1) r.gs.length r.gs.length) (slv (some a2) r.gs.length r.gs.length) (slv (some a3) r.gs.length r.gs.length) (slv (some a4) r.gs.length r.gs.length)) :: .row r.ga r.gc 3 1 r.gs.length (ints r.gs) :: .cells a1 4 (bools r.ans) :: .cells a2 4 (bools r.cnt) :: .cells a3 38 (stamps r.held) :: .cells a4 28 (cmdsC r.cms) :: F) w') H (by omega) hp (by omega) hwant (fun b w H => ?_)) ?_
    · replace H := H
      have H := Own.arr [2, 8, 8, 8, 8, 8, 8, 8, 8] H
      simp only [arrs, Fw.front, zm1, zm2, zm3, zm4, zm5] at H
      exact Calls.mono (count_staleP H (by omega) hp (by omega) hown hh L.hl hfr) fun e w h => by
        obtain ⟨rfl, H⟩ := h
        have H := Own.arr [14, 14, 14, 14, 14, 14, 13, 13, 13, 13, 13, 13, 13, 13] H
        simp only [arrs, Fw.front, zm1, zm2, zm3, zm4, zm5] at H
        replace H := H.sub (.cons_cons _ (.cons_cons _ (.cons_cons _ (.cons_cons _ (.cons_cons _ (.cons_cons _ (.cons_cons _ (.cons_cons _ (.cons_cons _ (.cons_cons _ (.cons_cons _ (.cons_cons _ (.cons_cons _ (.cons_cons _ (.cons _ (List.Sublist.refl _))))))))))))))))
        exact ⟨_, rfl, rfl, H⟩
    rintro e w ⟨v, rfl, rfl, H⟩
    refine ⟨_, rfl, H.drop 14, ?_⟩
    have H := Own.arr [7, 7, 7, 7, 7, 7, 7, 7, 13, 13, 13, 13, 13, 13] H
    simp only [arrs, Fw.front, zm1, zm2, zm3, zm4, zm5] at H
    refine Calls.mono (take_staleR H (by omega) hat hk1 L.la L.lc L.lh L.lm (by omega) (by rw [hans, hgk, ← hf]; simp [hin])) ?_
    rintro e w ⟨rfl, H⟩
    refine ⟨_, rfl, ?_⟩
    refine Calls.mono (sameNil H) ?_
    rintro e w ⟨rfl, H⟩
    have H := Own.arr [5, 5, 5, 5, 5, 5, 13, 13, 13, 13, 13, 13, 13, 13] H
    simp only [arrs, Fw.front, zm1, zm2, zm3, zm4, zm5] at H
    exact ⟨rfl, .live p r hs ms ht hc hm ha qt qc qm qa a1 a2 a3 a4 H hh L phs⟩

theorem accepted_stale {B w : World} {F : List Ent} {g h : Nat} {p : PS} {r : RS} {hs : List Int} {ms : List (Int × GM)} {ht hc hm qt qc qm a1 a2 a3 a4 : Nat} {ha qa : Option Nat} {m1 m2 : GM} (H : Own B (.cells g 80 p.cells :: .row p.ga p.gc 3 1 p.gs.length (ints p.gs) :: .cells ht 109 [slv ha p.gs.length hc, .int .i64 ((p.gs.length : Int) + 1), .map (some hm)] :: .row ha hc 3 1 p.gs.length (ints p.gs) :: .imap hm (heardK hs) :: .cells qt 145 [slv qa p.gs.length qc, .int .i64 ((p.gs.length : Int) / 2 + 1), .map (some qm)] :: .row qa qc 3 1 p.gs.length (ints p.gs) :: .imap qm (kvM ms) :: .cells h 54 (r.cellsV (slv (some a1) r.gs.length r.gs.length) (slv (some a2) r.gs.length r.gs.length) (slv (some a3) r.gs.length r.gs.length) (slv (some a4) r.gs.length r.gs.length)) :: .row r.ga r.gc 3 1 r.gs.length (ints r.gs) :: .cells a1 4 (bools r.ans) :: .cells a2 4 (bools r.cnt) :: .cells a3 38 (stamps r.held) :: .cells a4 28 (cmdsC r.cms) :: F) w) (hh : p.hd = .pointer (some ⟨ht, 0, none⟩)) (L : Live p r hs ms) (hv : m2.fi ∈ p.gs) (hf : m2.fi = m1.fi) (f1 : Fits r m1) (f2 : Fits r m2) (hk : m2.kind = m1.kind) (hs0 : m1.s0 = r.n) (hs1 : m1.s1 = r.cl) (hs2 : m2.s0 = m1.s0) (hs3 : m2.s1 = m1.s1) (hz0 : m1.h0 = 0 ∧ m1.h1 = 0) (hz2 : m2.h0 = 0 ∧ m2.h1 = 0) (hp : p.ph = phA qt p.mine) (hr : r.ph = 2) (hch : r.chosen = p.mine) (kd : m1.kind = 15) (hfr : p.fresh hs m2.fi = false) :
    Calls Try.prog 18 #[.pointer (some ⟨g, 0, none⟩), .agg m2.cells.toArray] w fun e w1 => ∃ v1, e = .returned v1 ∧ Own B F w1 ∧ Calls Try.prog 29 #[.pointer (some ⟨h, 0, none⟩), .agg m1.cells.toArray] w1 fun e w2 => ∃ v2, e = .returned v2 ∧ Calls Try.prog 23 #[v1, v2] w2 fun e w3 => e = .returned (.bool true) ∧ Inv B F g h w3 := by
  have phs : (p.ph = phP qt ∧ r.ph = 1) ∨ (p.ph = phA qt p.mine ∧ r.ph = 2 ∧ r.chosen = p.mine) := .inr ⟨hp, hr, hch⟩
  have hlen := L.len
  have hgs := congrArg List.length L.gs
  have hvr : m1.fi ∈ r.gs := by rw [← hf, ← L.gs]; exact hv
  obtain ⟨k, hk1, hat, hgk⟩ := at_of f1 (by omega) hvr
  have hwant := wants_of L.toBase f2 hv
  have hown : p.own m2 = true := own_of L (by rw [hs2, hs0]) (by rw [hs3, hs1])
  have hans := ans_at L hk1 (by rw [L.la]; exact hk1)
  have hin : m2.fi ∈ hs := by rw [fresh_of L hv] at hfr; simpa using hfr
  · skip
    refine Calls.mono (take_countA (K := fun v w' => v = slv none 0 0 ∧ Own B (.cells g 80 p.cells :: .row p.ga p.gc 3 1 p.gs.length (ints p.gs) :: .cells ht 109 [slv ha p.gs.length hc, .int .i64 ((p.gs.length : Int) + 1), .map (some hm)] :: .row ha hc 3 1 p.gs.length (ints p.gs) :: .imap hm (heardK hs) :: .cells qt 145 [slv qa p.gs.length qc, .int .i64 ((p.gs.length : Int) / 2 + 1), .map (some qm)] :: .row qa qc 3 1 p.gs.length (ints p.gs) :: .imap qm (kvM ms) :: .cells h 54 (r.cellsV (slv (some a1) r.gs.length r.gs.length) (slv (some a2) r.gs.length r.gs.length) (slv (some a3) r.gs.length r.gs.length) (slv (some a4) r.gs.length r.gs.length)) :: .row r.ga r.gc 3 1 r.gs.length (ints r.gs) :: .cells a1 4 (bools r.ans) :: .cells a2 4 (bools r.cnt) :: .cells a3 38 (stamps r.held) :: .cells a4 28 (cmdsC r.cms) :: F) w') H (by omega) hp (by omega) hwant (fun b w H => ?_)) ?_
    · replace H := H
      have H := Own.arr [2, 8, 8, 8, 8, 8, 8, 8, 8] H
      simp only [arrs, Fw.front, zm1, zm2, zm3, zm4, zm5] at H
      exact Calls.mono (count_staleA H (by omega) hp (by omega) hown hh L.hl hfr) fun e w h => by
        obtain ⟨rfl, H⟩ := h
        have H := Own.arr [14, 14, 14, 14, 14, 14, 13, 13, 13, 13, 13, 13, 13, 13] H
        simp only [arrs, Fw.front, zm1, zm2, zm3, zm4, zm5] at H
        replace H := H.sub (.cons_cons _ (.cons_cons _ (.cons_cons _ (.cons_cons _ (.cons_cons _ (.cons_cons _ (.cons_cons _ (.cons_cons _ (.cons_cons _ (.cons_cons _ (.cons_cons _ (.cons_cons _ (.cons_cons _ (.cons_cons _ (.cons _ (List.Sublist.refl _))))))))))))))))
        exact ⟨_, rfl, rfl, H⟩
    rintro e w ⟨v, rfl, rfl, H⟩
    refine ⟨_, rfl, H.drop 14, ?_⟩
    have H := Own.arr [7, 7, 7, 7, 7, 7, 7, 7, 13, 13, 13, 13, 13, 13] H
    simp only [arrs, Fw.front, zm1, zm2, zm3, zm4, zm5] at H
    refine Calls.mono (take_staleR H (by omega) hat hk1 L.la L.lc L.lh L.lm (by omega) (by rw [hans, hgk, ← hf]; simp [hin])) ?_
    rintro e w ⟨rfl, H⟩
    refine ⟨_, rfl, ?_⟩
    refine Calls.mono (sameNil H) ?_
    rintro e w ⟨rfl, H⟩
    have H := Own.arr [5, 5, 5, 5, 5, 5, 13, 13, 13, 13, 13, 13, 13, 13] H
    simp only [arrs, Fw.front, zm1, zm2, zm3, zm4, zm5] at H
    exact ⟨rfl, .live p r hs ms ht hc hm ha qt qc qm qa a1 a2 a3 a4 H hh L phs⟩
end Go.Proofs.Ytofaoblfemfkiaa

namespace Go.Proofs.Ytofaoblfemfkiaa
open Go Go.RowKit Go.Fw
set_option linter.unusedSimpArgs false
set_option linter.unusedVariables false
set_option maxRecDepth 4000
set_option maxHeartbeats 2000000


theorem promise_fewI {B w : World} {F : List Ent} {g h : Nat} {p : PS} {r : RS} {hs : List Int} {ms : List (Int × GM)} {ht hc hm qt qc qm a1 a2 a3 a4 : Nat} {ha qa : Option Nat} {m1 m2 : GM} (H : Own B (.cells g 80 p.cells :: .row p.ga p.gc 3 1 p.gs.length (ints p.gs) :: .cells ht 109 [slv ha p.gs.length hc, .int .i64 ((p.gs.length : Int) + 1), .map (some hm)] :: .row ha hc 3 1 p.gs.length (ints p.gs) :: .imap hm (heardK hs) :: .cells qt 145 [slv qa p.gs.length qc, .int .i64 ((p.gs.length : Int) / 2 + 1), .map (some qm)] :: .row qa qc 3 1 p.gs.length (ints p.gs) :: .imap qm (kvM ms) :: .cells h 54 (r.cellsV (slv (some a1) r.gs.length r.gs.length) (slv (some a2) r.gs.length r.gs.length) (slv (some a3) r.gs.length r.gs.length) (slv (some a4) r.gs.length r.gs.length)) :: .row r.ga r.gc 3 1 r.gs.length (ints r.gs) :: .cells a1 4 (bools r.ans) :: .cells a2 4 (bools r.cnt) :: .cells a3 38 (stamps r.held) :: .cells a4 28 (cmdsC r.cms) :: F) w) (hh : p.hd = .pointer (some ⟨ht, 0, none⟩)) (L : Live p r hs ms) (hv : m2.fi ∈ p.gs) (hf : m2.fi = m1.fi) (f1 : Fits r m1) (f2 : Fits r m2) (hk : m2.kind = m1.kind) (hs0 : m1.s0 = r.n) (hs1 : m1.s1 = r.cl) (hs2 : m2.s0 = m1.s0) (hs3 : m2.s1 = m1.s1) (hz0 : m1.h0 = 0 ∧ m1.h1 = 0) (hz2 : m2.h0 = 0 ∧ m2.h1 = 0) (hp : p.ph = phP qt) (hr : r.ph = 1) (kd : m1.kind = 13) (hfr : p.fresh hs m2.fi = true) (hlt : (ms.length : Int) + 1 < (p.gs.length : Int) / 2 + 1) :
    Calls Try.prog 18 #[.pointer (some ⟨g, 0, none⟩), .agg m2.cells.toArray] w fun e w1 => ∃ v1, e = .returned v1 ∧ Own B F w1 ∧ Calls Try.prog 29 #[.pointer (some ⟨h, 0, none⟩), .agg m1.cells.toArray] w1 fun e w2 => ∃ v2, e = .returned v2 ∧ Calls Try.prog 23 #[v1, v2] w2 fun e w3 => e = .returned (.bool true) ∧ Inv B F g h w3 := by
  have phs : (p.ph = phP qt ∧ r.ph = 1) ∨ (p.ph = phA qt p.mine ∧ r.ph = 2 ∧ r.chosen = p.mine) := .inl ⟨hp, hr⟩
  have hlen := L.len
  have hgs := congrArg List.length L.gs
  have hvr : m1.fi ∈ r.gs := by rw [← hf, ← L.gs]; exact hv
  obtain ⟨k, hk1, hat, hgk⟩ := at_of f1 (by omega) hvr
  have hwant := wants_of L.toBase f2 hv
  have hown : p.own m2 = true := own_of L (by rw [hs2, hs0]) (by rw [hs3, hs1])
  have hans := ans_at L hk1 (by rw [L.la]; exact hk1)
  have hin : m2.fi ∉ hs := by rw [fresh_of L hv] at hfr; simpa using hfr
  have hin1 : r.gs[k] ∉ hs := by rw [hgk, ← hf]; exact hin
  have hff : r.ans[k]'(by rw [L.la]; exact hk1) = false := by rw [hans, hgk, ← hf]; simp [hin]
  have htk := takes_of L m2 hv hin
  have htook := took_of L m2 hv hin
  have hcn := cntN_took L hk1 hin1
  · skip
    refine Calls.mono (take_countP (K := fun v w' => v = slv none 0 0 ∧ Own B (.cells g 80 p.cells :: .row p.ga p.gc 3 1 p.gs.length (ints p.gs) :: .cells ht 109 [slv ha p.gs.length hc, .int .i64 ((p.gs.length : Int) + 1), .map (some hm)] :: .row ha hc 3 1 p.gs.length (ints p.gs) :: .imap hm (heardK (hs ++ [m2.fi])) :: .cells qt 145 [slv qa p.gs.length qc, .int .i64 ((p.gs.length : Int) / 2 + 1), .map (some qm)] :: .row qa qc 3 1 p.gs.length (ints p.gs) :: .imap qm (kvM (p.took ms m2.fi m2)) :: .cells h 54 (r.cellsV (slv (some a1) r.gs.length r.gs.length) (slv (some a2) r.gs.length r.gs.length) (slv (some a3) r.gs.length r.gs.length) (slv (some a4) r.gs.length r.gs.length)) :: .row r.ga r.gc 3 1 r.gs.length (ints r.gs) :: .cells a1 4 (bools r.ans) :: .cells a2 4 (bools r.cnt) :: .cells a3 38 (stamps r.held) :: .cells a4 28 (cmdsC r.cms) :: F) w') H (by omega) hp (by omega) hwant (fun b w H => ?_)) ?_
    · replace H := H
      have H := Own.arr [2, 8, 8, 8, 8, 8, 8, 8, 8] H
      simp only [arrs, Fw.front, zm1, zm2, zm3, zm4, zm5] at H
      exact Calls.mono (count_fewP H (by omega) hp (by omega) hown hh L.hl hfr (by rw [htk]; simp; omega)) fun e w h => by
        obtain ⟨rfl, H⟩ := h
        have H := Own.arr [14, 14, 14, 14, 14, 14, 13, 13, 13, 13, 13, 13, 13, 13] H
        simp only [arrs, Fw.front, zm1, zm2, zm3, zm4, zm5] at H
        replace H := H.sub (.cons_cons _ (.cons_cons _ (.cons_cons _ (.cons_cons _ (.cons_cons _ (.cons_cons _ (.cons_cons _ (.cons_cons _ (.cons_cons _ (.cons_cons _ (.cons_cons _ (.cons_cons _ (.cons_cons _ (.cons_cons _ (.cons _ (List.Sublist.refl _))))))))))))))))
        exact ⟨_, rfl, rfl, H⟩
    rintro e w ⟨v, rfl, rfl, H⟩
    refine ⟨_, rfl, H.drop 14, ?_⟩
    have H := Own.arr [7, 7, 7, 7, 7, 7, 7, 7, 13, 13, 13, 13, 13, 13] H
    simp only [arrs, Fw.front, zm1, zm2, zm3, zm4, zm5] at H
    refine Calls.mono (promise_few H (by omega) hat hk1 L.la L.lc L.lh L.lm kd hr hs0 hs1 hff (by show (cntN (r.cnt.set k true) : Int) < _; rw [hcn]; push_cast; omega)) ?_
    rintro e w ⟨rfl, H⟩
    refine ⟨_, rfl, ?_⟩
    refine Calls.mono (sameNil H) ?_
    rintro e w ⟨rfl, H⟩
    have H := Own.arr [5, 5, 5, 5, 5, 5, 13, 13, 13, 13, 13, 13, 13, 13] H
    simp only [arrs, Fw.front, zm1, zm2, zm3, zm4, zm5] at H
    have hL : Live p (r.promise k m1) (hs ++ [r.gs[k]]) (ms ++ [(r.gs[k], m2)]) := live_took L hk1 hin1 hz2.1 hz2.2 rfl rfl rfl (by show r.held.set k (m1.h0, m1.h1) = _; rw [L.held, hz0.1, hz0.2, held_set]) (by show (r.cms.set k m1.cmd).length = _; rw [List.length_set]; exact L.lm) hlt
    rw [htook] at H
    rw [hgk, ← hf] at hL
    exact ⟨rfl, .live p (r.promise k m1) _ _ ht hc hm ha qt qc qm qa a1 a2 a3 a4 H hh hL phs⟩

theorem accepted_fewI {B w : World} {F : List Ent} {g h : Nat} {p : PS} {r : RS} {hs : List Int} {ms : List (Int × GM)} {ht hc hm qt qc qm a1 a2 a3 a4 : Nat} {ha qa : Option Nat} {m1 m2 : GM} (H : Own B (.cells g 80 p.cells :: .row p.ga p.gc 3 1 p.gs.length (ints p.gs) :: .cells ht 109 [slv ha p.gs.length hc, .int .i64 ((p.gs.length : Int) + 1), .map (some hm)] :: .row ha hc 3 1 p.gs.length (ints p.gs) :: .imap hm (heardK hs) :: .cells qt 145 [slv qa p.gs.length qc, .int .i64 ((p.gs.length : Int) / 2 + 1), .map (some qm)] :: .row qa qc 3 1 p.gs.length (ints p.gs) :: .imap qm (kvM ms) :: .cells h 54 (r.cellsV (slv (some a1) r.gs.length r.gs.length) (slv (some a2) r.gs.length r.gs.length) (slv (some a3) r.gs.length r.gs.length) (slv (some a4) r.gs.length r.gs.length)) :: .row r.ga r.gc 3 1 r.gs.length (ints r.gs) :: .cells a1 4 (bools r.ans) :: .cells a2 4 (bools r.cnt) :: .cells a3 38 (stamps r.held) :: .cells a4 28 (cmdsC r.cms) :: F) w) (hh : p.hd = .pointer (some ⟨ht, 0, none⟩)) (L : Live p r hs ms) (hv : m2.fi ∈ p.gs) (hf : m2.fi = m1.fi) (f1 : Fits r m1) (f2 : Fits r m2) (hk : m2.kind = m1.kind) (hs0 : m1.s0 = r.n) (hs1 : m1.s1 = r.cl) (hs2 : m2.s0 = m1.s0) (hs3 : m2.s1 = m1.s1) (hz0 : m1.h0 = 0 ∧ m1.h1 = 0) (hz2 : m2.h0 = 0 ∧ m2.h1 = 0) (hp : p.ph = phA qt p.mine) (hr : r.ph = 2) (hch : r.chosen = p.mine) (kd : m1.kind = 15) (hfr : p.fresh hs m2.fi = true) (hlt : (ms.length : Int) + 1 < (p.gs.length : Int) / 2 + 1) :
    Calls Try.prog 18 #[.pointer (some ⟨g, 0, none⟩), .agg m2.cells.toArray] w fun e w1 => ∃ v1, e = .returned v1 ∧ Own B F w1 ∧ Calls Try.prog 29 #[.pointer (some ⟨h, 0, none⟩), .agg m1.cells.toArray] w1 fun e w2 => ∃ v2, e = .returned v2 ∧ Calls Try.prog 23 #[v1, v2] w2 fun e w3 => e = .returned (.bool true) ∧ Inv B F g h w3 := by
  have phs : (p.ph = phP qt ∧ r.ph = 1) ∨ (p.ph = phA qt p.mine ∧ r.ph = 2 ∧ r.chosen = p.mine) := .inr ⟨hp, hr, hch⟩
  have hlen := L.len
  have hgs := congrArg List.length L.gs
  have hvr : m1.fi ∈ r.gs := by rw [← hf, ← L.gs]; exact hv
  obtain ⟨k, hk1, hat, hgk⟩ := at_of f1 (by omega) hvr
  have hwant := wants_of L.toBase f2 hv
  have hown : p.own m2 = true := own_of L (by rw [hs2, hs0]) (by rw [hs3, hs1])
  have hans := ans_at L hk1 (by rw [L.la]; exact hk1)
  have hin : m2.fi ∉ hs := by rw [fresh_of L hv] at hfr; simpa using hfr
  have hin1 : r.gs[k] ∉ hs := by rw [hgk, ← hf]; exact hin
  have hff : r.ans[k]'(by rw [L.la]; exact hk1) = false := by rw [hans, hgk, ← hf]; simp [hin]
  have htk := takes_of L m2 hv hin
  have htook := took_of L m2 hv hin
  have hcn := cntN_took L hk1 hin1
  · skip
    refine Calls.mono (take_countA (K := fun v w' => v = slv none 0 0 ∧ Own B (.cells g 80 p.cells :: .row p.ga p.gc 3 1 p.gs.length (ints p.gs) :: .cells ht 109 [slv ha p.gs.length hc, .int .i64 ((p.gs.length : Int) + 1), .map (some hm)] :: .row ha hc 3 1 p.gs.length (ints p.gs) :: .imap hm (heardK (hs ++ [m2.fi])) :: .cells qt 145 [slv qa p.gs.length qc, .int .i64 ((p.gs.length : Int) / 2 + 1), .map (some qm)] :: .row qa qc 3 1 p.gs.length (ints p.gs) :: .imap qm (kvM (p.took ms m2.fi m2)) :: .cells h 54 (r.cellsV (slv (some a1) r.gs.length r.gs.length) (slv (some a2) r.gs.length r.gs.length) (slv (some a3) r.gs.length r.gs.length) (slv (some a4) r.gs.length r.gs.length)) :: .row r.ga r.gc 3 1 r.gs.length (ints r.gs) :: .cells a1 4 (bools r.ans) :: .cells a2 4 (bools r.cnt) :: .cells a3 38 (stamps r.held) :: .cells a4 28 (cmdsC r.cms) :: F) w') H (by omega) hp (by omega) hwant (fun b w H => ?_)) ?_
    · replace H := H
      have H := Own.arr [2, 8, 8, 8, 8, 8, 8, 8, 8] H
      simp only [arrs, Fw.front, zm1, zm2, zm3, zm4, zm5] at H
      exact Calls.mono (count_fewA H (by omega) hp (by omega) hown hh L.hl hfr (by rw [htk]; simp; omega)) fun e w h => by
        obtain ⟨rfl, H⟩ := h
        have H := Own.arr [14, 14, 14, 14, 14, 14, 13, 13, 13, 13, 13, 13, 13, 13] H
        simp only [arrs, Fw.front, zm1, zm2, zm3, zm4, zm5] at H
        replace H := H.sub (.cons_cons _ (.cons_cons _ (.cons_cons _ (.cons_cons _ (.cons_cons _ (.cons_cons _ (.cons_cons _ (.cons_cons _ (.cons_cons _ (.cons_cons _ (.cons_cons _ (.cons_cons _ (.cons_cons _ (.cons_cons _ (.cons _ (List.Sublist.refl _))))))))))))))))
        exact ⟨_, rfl, rfl, H⟩
    rintro e w ⟨v, rfl, rfl, H⟩
    refine ⟨_, rfl, H.drop 14, ?_⟩
    have H := Own.arr [7, 7, 7, 7, 7, 7, 7, 7, 13, 13, 13, 13, 13, 13] H
    simp only [arrs, Fw.front, zm1, zm2, zm3, zm4, zm5] at H
    refine Calls.mono (accepted_few H (by omega) hat hk1 L.la L.lc L.lh L.lm kd hr hs0 hs1 hff (by show (cntN (r.cnt.set k true) : Int) < _; rw [hcn]; push_cast; omega)) ?_
    rintro e w ⟨rfl, H⟩
    refine ⟨_, rfl, ?_⟩
    refine Calls.mono (sameNil H) ?_
    rintro e w ⟨rfl, H⟩
    have H := Own.arr [5, 5, 5, 5, 5, 5, 13, 13, 13, 13, 13, 13, 13, 13] H
    simp only [arrs, Fw.front, zm1, zm2, zm3, zm4, zm5] at H
    have hL : Live p (r.accepted k) (hs ++ [r.gs[k]]) (ms ++ [(r.gs[k], m2)]) := live_took L hk1 hin1 hz2.1 hz2.2 rfl rfl rfl (L.held) (L.lm) hlt
    rw [htook] at H
    rw [hgk, ← hf] at hL
    exact ⟨rfl, .live p (r.accepted k) _ _ ht hc hm ha qt qc qm qa a1 a2 a3 a4 H hh hL phs⟩
end Go.Proofs.Ytofaoblfemfkiaa

namespace Go.Proofs.Ytofaoblfemfkiaa
open Go Go.RowKit Go.Fw
set_option linter.unusedSimpArgs false
set_option linter.unusedVariables false
set_option maxRecDepth 4000
set_option maxHeartbeats 2000000


theorem promise_wornI {B w : World} {F : List Ent} {g h : Nat} {p : PS} {r : RS} {hs : List Int} {ms : List (Int × GM)} {ht hc hm qt qc qm a1 a2 a3 a4 : Nat} {ha qa : Option Nat} {m1 m2 : GM} (H : Own B (.cells g 80 p.cells :: .row p.ga p.gc 3 1 p.gs.length (ints p.gs) :: .cells ht 109 [slv ha p.gs.length hc, .int .i64 ((p.gs.length : Int) + 1), .map (some hm)] :: .row ha hc 3 1 p.gs.length (ints p.gs) :: .imap hm (heardK hs) :: .cells qt 145 [slv qa p.gs.length qc, .int .i64 ((p.gs.length : Int) / 2 + 1), .map (some qm)] :: .row qa qc 3 1 p.gs.length (ints p.gs) :: .imap qm (kvM ms) :: .cells h 54 (r.cellsV (slv (some a1) r.gs.length r.gs.length) (slv (some a2) r.gs.length r.gs.length) (slv (some a3) r.gs.length r.gs.length) (slv (some a4) r.gs.length r.gs.length)) :: .row r.ga r.gc 3 1 r.gs.length (ints r.gs) :: .cells a1 4 (bools r.ans) :: .cells a2 4 (bools r.cnt) :: .cells a3 38 (stamps r.held) :: .cells a4 28 (cmdsC r.cms) :: F) w) (hh : p.hd = .pointer (some ⟨ht, 0, none⟩)) (L : Live p r hs ms) (hv : m2.fi ∈ p.gs) (hf : m2.fi = m1.fi) (f1 : Fits r m1) (f2 : Fits r m2) (hk : m2.kind = m1.kind) (hs0 : m1.s0 = r.n) (hs1 : m1.s1 = r.cl) (hs2 : m2.s0 = m1.s0) (hs3 : m2.s1 = m1.s1) (hz0 : m1.h0 = 0 ∧ m1.h1 = 0) (hz2 : m2.h0 = 0 ∧ m2.h1 = 0) (hp : p.ph = phP qt) (hr : r.ph = 1) (kd : m1.kind = 13) (hfr : p.fresh hs m2.fi = true) (hge : ¬ (ms.length : Int) + 1 < (p.gs.length : Int) / 2 + 1) (hwn : 1099511627776 ≤ p.rnd) :
    Calls Try.prog 18 #[.pointer (some ⟨g, 0, none⟩), .agg m2.cells.toArray] w fun e w1 => ∃ v1, e = .returned v1 ∧ Own B F w1 ∧ Calls Try.prog 29 #[.pointer (some ⟨h, 0, none⟩), .agg m1.cells.toArray] w1 fun e w2 => ∃ v2, e = .returned v2 ∧ Calls Try.prog 23 #[v1, v2] w2 fun e w3 => e = .returned (.bool true) ∧ Inv B F g h w3 := by
  have hlen := L.len
  have hgs := congrArg List.length L.gs
  have hvr : m1.fi ∈ r.gs := by rw [← hf, ← L.gs]; exact hv
  obtain ⟨k, hk1, hat, hgk⟩ := at_of f1 (by omega) hvr
  have hwant := wants_of L.toBase f2 hv
  have hown : p.own m2 = true := own_of L (by rw [hs2, hs0]) (by rw [hs3, hs1])
  have hans := ans_at L hk1 (by rw [L.la]; exact hk1)
  have hin : m2.fi ∉ hs := by rw [fresh_of L hv] at hfr; simpa using hfr
  have hin1 : r.gs[k] ∉ hs := by rw [hgk, ← hf]; exact hin
  have hff : r.ans[k]'(by rw [L.la]; exact hk1) = false := by rw [hans, hgk, ← hf]; simp [hin]
  have htk := takes_of L m2 hv hin
  have htook := took_of L m2 hv hin
  have hcn := cntN_took L hk1 hin1
  · skip
    refine Calls.mono (take_countP (K := fun v w' => v = slv none 0 0 ∧ Own B (.cells g 80 { p.over with wn := true }.cells :: .row p.ga p.gc 3 1 p.gs.length (ints p.gs) :: .cells h 54 (r.cellsV (slv (some a1) r.gs.length r.gs.length) (slv (some a2) r.gs.length r.gs.length) (slv (some a3) r.gs.length r.gs.length) (slv (some a4) r.gs.length r.gs.length)) :: .row r.ga r.gc 3 1 r.gs.length (ints r.gs) :: .cells a1 4 (bools r.ans) :: .cells a2 4 (bools r.cnt) :: .cells a3 38 (stamps r.held) :: .cells a4 28 (cmdsC r.cms) :: F) w') H (by omega) hp (by omega) hwant (fun b w H => ?_)) ?_
    · replace H := H
      have H := Own.arr [2, 8, 8, 8, 8, 8, 8, 8, 8] H
      simp only [arrs, Fw.front, zm1, zm2, zm3, zm4, zm5] at H
      exact Calls.mono (count_worn H (by omega) hp (by omega) hown hh L.hl hfr (by rw [htk]; simp; omega) L.un hwn) fun e w h => by
        obtain ⟨rfl, H⟩ := h
        have H := Own.arr [8, 8, 8, 8, 8, 8, 7, 7] H
        simp only [arrs, Fw.front, zm1, zm2, zm3, zm4, zm5] at H
        replace H := H.sub (.cons_cons _ (.cons_cons _ (.cons_cons _ (.cons_cons _ (.cons_cons _ (.cons_cons _ (.cons_cons _ (.cons_cons _ (.cons _ (List.Sublist.refl _))))))))))
        exact ⟨_, rfl, rfl, H⟩
    rintro e w ⟨v, rfl, rfl, H⟩
    refine ⟨_, rfl, H.drop 8, ?_⟩
    have H := Own.arr [1, 1, 7, 7, 7, 7, 7, 7] H
    simp only [arrs, Fw.front, zm1, zm2, zm3, zm4, zm5] at H
    refine Calls.mono (promise_worn H (by omega) hat hk1 L.la L.lc L.lh L.lm kd hr hs0 hs1 hff (by show _ ≤ (cntN (r.cnt.set k true) : Int); rw [hcn]; push_cast; omega) (by rw [← L.rnd]; exact hwn)) ?_
    rintro e w ⟨rfl, H⟩
    refine ⟨_, rfl, ?_⟩
    refine Calls.mono (sameNil H) ?_
    rintro e w ⟨rfl, H⟩
    have H := Own.arr [5, 5, 5, 5, 5, 5, 6] H
    simp only [arrs, Fw.front, zm1, zm2, zm3, zm4, zm5] at H
    replace H := H.sub (.cons_cons _ (.cons_cons _ (.cons_cons _ (.cons_cons _ (.cons_cons _ (.cons_cons _ (.cons_cons _ (.cons _ (List.Sublist.refl _)))))))))
    have hB : Base { p.over with wn := true } (r.promise k m1).chose.worn :=
      { base_worn L.toBase with la := by show (r.ans.set k true).length = _; rw [List.length_set]; exact L.la
                                lc := by show (r.cnt.set k true).length = _; rw [List.length_set]; exact L.lc
                                lh := by show (r.held.set k _).length = _; rw [List.length_set]; exact L.lh
                                lm := by show (r.cms.set k _).length = _; rw [List.length_set]; exact L.lm }
    exact ⟨rfl, .over0 { p.over with wn := true } (r.promise k m1).chose.worn a1 a2 a3 a4 H hB rfl rfl L.dc L.rdc L.dec⟩

theorem promise_nextI {B w : World} {F : List Ent} {g h : Nat} {p : PS} {r : RS} {hs : List Int} {ms : List (Int × GM)} {ht hc hm qt qc qm a1 a2 a3 a4 : Nat} {ha qa : Option Nat} {m1 m2 : GM} (H : Own B (.cells g 80 p.cells :: .row p.ga p.gc 3 1 p.gs.length (ints p.gs) :: .cells ht 109 [slv ha p.gs.length hc, .int .i64 ((p.gs.length : Int) + 1), .map (some hm)] :: .row ha hc 3 1 p.gs.length (ints p.gs) :: .imap hm (heardK hs) :: .cells qt 145 [slv qa p.gs.length qc, .int .i64 ((p.gs.length : Int) / 2 + 1), .map (some qm)] :: .row qa qc 3 1 p.gs.length (ints p.gs) :: .imap qm (kvM ms) :: .cells h 54 (r.cellsV (slv (some a1) r.gs.length r.gs.length) (slv (some a2) r.gs.length r.gs.length) (slv (some a3) r.gs.length r.gs.length) (slv (some a4) r.gs.length r.gs.length)) :: .row r.ga r.gc 3 1 r.gs.length (ints r.gs) :: .cells a1 4 (bools r.ans) :: .cells a2 4 (bools r.cnt) :: .cells a3 38 (stamps r.held) :: .cells a4 28 (cmdsC r.cms) :: F) w) (hh : p.hd = .pointer (some ⟨ht, 0, none⟩)) (L : Live p r hs ms) (hv : m2.fi ∈ p.gs) (hf : m2.fi = m1.fi) (f1 : Fits r m1) (f2 : Fits r m2) (hk : m2.kind = m1.kind) (hs0 : m1.s0 = r.n) (hs1 : m1.s1 = r.cl) (hs2 : m2.s0 = m1.s0) (hs3 : m2.s1 = m1.s1) (hz0 : m1.h0 = 0 ∧ m1.h1 = 0) (hz2 : m2.h0 = 0 ∧ m2.h1 = 0) (hp : p.ph = phP qt) (hr : r.ph = 1) (kd : m1.kind = 13) (hfr : p.fresh hs m2.fi = true) (hge : ¬ (ms.length : Int) + 1 < (p.gs.length : Int) / 2 + 1) (hwn : ¬ 1099511627776 ≤ p.rnd) :
    Calls Try.prog 18 #[.pointer (some ⟨g, 0, none⟩), .agg m2.cells.toArray] w fun e w1 => ∃ v1, e = .returned v1 ∧ Own B F w1 ∧ Calls Try.prog 29 #[.pointer (some ⟨h, 0, none⟩), .agg m1.cells.toArray] w1 fun e w2 => ∃ v2, e = .returned v2 ∧ Calls Try.prog 23 #[v1, v2] w2 fun e w3 => e = .returned (.bool true) ∧ Inv B F g h w3 := by
  have hlen := L.len
  have hgs := congrArg List.length L.gs
  have hvr : m1.fi ∈ r.gs := by rw [← hf, ← L.gs]; exact hv
  obtain ⟨k, hk1, hat, hgk⟩ := at_of f1 (by omega) hvr
  have hwant := wants_of L.toBase f2 hv
  have hown : p.own m2 = true := own_of L (by rw [hs2, hs0]) (by rw [hs3, hs1])
  have hans := ans_at L hk1 (by rw [L.la]; exact hk1)
  have hin : m2.fi ∉ hs := by rw [fresh_of L hv] at hfr; simpa using hfr
  have hin1 : r.gs[k] ∉ hs := by rw [hgk, ← hf]; exact hin
  have hff : r.ans[k]'(by rw [L.la]; exact hk1) = false := by rw [hans, hgk, ← hf]; simp [hin]
  have htk := takes_of L m2 hv hin
  have htook := took_of L m2 hv hin
  have hcn := cntN_took L hk1 hin1
  have hzm : ∀ x ∈ p.took ms m2.fi m2, x.2.h0 = 0 ∧ x.2.h1 = 0 := by
    rw [htook]
    intro x hx
    rcases List.mem_append.1 hx with h | h
    · exact L.hz x h
    · have : x = (m2.fi, m2) := by simpa using h
      rw [this]; exact hz2
  have hch := chosen_mine (p := p) hzm
  have hbest : (r.promise k m1).best (r.promise k m1).gs.length = ((0, 0), r.mine) := best_mine (r := r.promise k m1) (fun x hx => by
    rw [show (r.promise k m1).held = r.held.set k (m1.h0, m1.h1) from rfl, L.held, hz0.1, hz0.2, held_set] at hx
    exact (List.mem_replicate.1 hx).2) _
  have hr1 := L.r1
  have hrd := L.rnd
  · skip
    refine Calls.mono (take_countP (K := fun v w' => ∃ ht ha hc hm qt qa qc qm a c, v = slv a (p.next.outA p.mine p.gs).length c ∧ Own B (.row a c 46 30 (p.next.outA p.mine p.gs).length (msgs (p.next.outA p.mine p.gs)) :: .cells g 80 (p.next.enter (phA qt p.mine) ht).cells :: .row p.ga p.gc 3 1 p.gs.length (ints p.gs) :: .cells ht 109 [slv ha p.gs.length hc, .int .i64 ((p.gs.length : Int) + 1), .map (some hm)] :: .row ha hc 3 1 p.gs.length (ints p.gs) :: .imap hm (heardK []) :: .cells qt 145 [slv qa p.gs.length qc, .int .i64 ((p.gs.length : Int) / 2 + 1), .map (some qm)] :: .row qa qc 3 1 p.gs.length (ints p.gs) :: .imap qm (kvM []) :: .cells h 54 (r.cellsV (slv (some a1) r.gs.length r.gs.length) (slv (some a2) r.gs.length r.gs.length) (slv (some a3) r.gs.length r.gs.length) (slv (some a4) r.gs.length r.gs.length)) :: .row r.ga r.gc 3 1 r.gs.length (ints r.gs) :: .cells a1 4 (bools r.ans) :: .cells a2 4 (bools r.cnt) :: .cells a3 38 (stamps r.held) :: .cells a4 28 (cmdsC r.cms) :: F) w') H (by omega) hp (by omega) hwant (fun b w H => ?_)) ?_
    · replace H := H
      have H := Own.arr [2, 8, 8, 8, 8, 8, 8, 8, 8] H
      simp only [arrs, Fw.front, zm1, zm2, zm3, zm4, zm5] at H
      have hcc := count_accept H (by omega) hp (by omega) hown hh L.hl hfr (by rw [htk]; simp; omega) L.un (by omega) (by omega)
      rw [hch] at hcc
      exact Calls.mono hcc fun e w h => by
        obtain ⟨ht, ha, hc, hm, qt, qa, qc, qm, a, c, rfl, H⟩ := h
        have H := Own.arr [15, 15, 15, 15, 15, 15, 14, 14, 14, 14, 14, 14, 14, 14, 14] H
        simp only [arrs, Fw.front, zm1, zm2, zm3, zm4, zm5] at H
        replace H := H.sub (.cons_cons _ (.cons_cons _ (.cons_cons _ (.cons_cons _ (.cons_cons _ (.cons_cons _ (.cons_cons _ (.cons_cons _ (.cons_cons _ (.cons_cons _ (.cons_cons _ (.cons_cons _ (.cons_cons _ (.cons_cons _ (.cons_cons _ (.cons _ (List.Sublist.refl _)))))))))))))))))
        exact ⟨_, rfl, ht, ha, hc, hm, qt, qa, qc, qm, a, c, rfl, H⟩
    rintro e w ⟨v, rfl, ht, ha, hc, hm, qt, qa, qc, qm, a, c, rfl, H⟩
    refine ⟨_, rfl, H.drop 15, ?_⟩
    have H := Own.arr [8, 8, 8, 8, 8, 8, 8, 8, 8, 14, 14, 14, 14, 14, 14] H
    simp only [arrs, Fw.front, zm1, zm2, zm3, zm4, zm5] at H
    refine Calls.mono (promise_next H (by omega) hat hk1 L.la L.lc L.lh L.lm kd hr hs0 hs1 hff (by show _ ≤ (cntN (r.cnt.set k true) : Int); rw [hcn]; push_cast; omega) (by omega) (by omega)) ?_
    rintro e w ⟨b1, b2, b3, b4, a', c', rfl, H⟩
    refine ⟨_, rfl, ?_⟩
    have H := Own.arr [6, 6, 6, 6, 6, 6, 15, 15, 15, 15, 15, 15, 15, 15, 14, 15] H
    simp only [arrs, Fw.front, zm1, zm2, zm3, zm4, zm5] at H
    have hcm : (r.promise k m1).chose.bump.clear.chosen = p.mine := by
      show ((r.promise k m1).best (r.promise k m1).gs.length).2 = p.mine
      rw [hbest, L.mine]
    have hL : Live (p.next.enter (phA qt p.mine) ht) (r.promise k m1).chose.bump.clear [] [] :=
      live_clear L.toBase ⟨rfl, rfl, rfl, rfl, rfl, rfl, rfl, rfl, rfl, rfl⟩ ⟨rfl, rfl, rfl, rfl, rfl, rfl, rfl, rfl, rfl, rfl, rfl, rfl, rfl⟩ (by show p.rnd + 1 = r.rnd + 1; rw [hrd]) L.nt L.bal rfl L.b1 (by show 1 ≤ p.rnd + 1; omega) L.dc L.rdc L.dec
    have eo : (r.promise k m1).chose.bump.clear.out = p.next.outA p.mine p.gs := by
      rw [out_acc hL.toBase hL.bal rfl hL.ans, hcm, show heardK [] = [] from rfl, missing_nil]
      rfl
    rw [eo] at H ⊢
    refine Calls.mono (sameMsgs_s H (plain_acc _ _ _) (by simp only [PS.outA, List.length_map]; omega)) ?_
    rintro e w ⟨rfl, H⟩
    exact ⟨rfl, .live (p.next.enter (phA qt p.mine) ht) (r.promise k m1).chose.bump.clear [] [] ht hc hm ha qt qc qm qa b1 b2 b3 b4 (H.drop 2) rfl hL (.inr ⟨rfl, rfl, hcm⟩)⟩
end Go.Proofs.Ytofaoblfemfkiaa

namespace Go.Proofs.Ytofaoblfemfkiaa
open Go Go.RowKit Go.Fw
set_option linter.unusedSimpArgs false
set_option linter.unusedVariables false
set_option maxRecDepth 4000
set_option maxHeartbeats 2000000


theorem accepted_allI {B w : World} {F : List Ent} {g h : Nat} {p : PS} {r : RS} {hs : List Int} {ms : List (Int × GM)} {ht hc hm qt qc qm a1 a2 a3 a4 : Nat} {ha qa : Option Nat} {m1 m2 : GM} (H : Own B (.cells g 80 p.cells :: .row p.ga p.gc 3 1 p.gs.length (ints p.gs) :: .cells ht 109 [slv ha p.gs.length hc, .int .i64 ((p.gs.length : Int) + 1), .map (some hm)] :: .row ha hc 3 1 p.gs.length (ints p.gs) :: .imap hm (heardK hs) :: .cells qt 145 [slv qa p.gs.length qc, .int .i64 ((p.gs.length : Int) / 2 + 1), .map (some qm)] :: .row qa qc 3 1 p.gs.length (ints p.gs) :: .imap qm (kvM ms) :: .cells h 54 (r.cellsV (slv (some a1) r.gs.length r.gs.length) (slv (some a2) r.gs.length r.gs.length) (slv (some a3) r.gs.length r.gs.length) (slv (some a4) r.gs.length r.gs.length)) :: .row r.ga r.gc 3 1 r.gs.length (ints r.gs) :: .cells a1 4 (bools r.ans) :: .cells a2 4 (bools r.cnt) :: .cells a3 38 (stamps r.held) :: .cells a4 28 (cmdsC r.cms) :: F) w) (hh : p.hd = .pointer (some ⟨ht, 0, none⟩)) (L : Live p r hs ms) (hv : m2.fi ∈ p.gs) (hf : m2.fi = m1.fi) (f1 : Fits r m1) (f2 : Fits r m2) (hk : m2.kind = m1.kind) (hs0 : m1.s0 = r.n) (hs1 : m1.s1 = r.cl) (hs2 : m2.s0 = m1.s0) (hs3 : m2.s1 = m1.s1) (hz0 : m1.h0 = 0 ∧ m1.h1 = 0) (hz2 : m2.h0 = 0 ∧ m2.h1 = 0) (hp : p.ph = phA qt p.mine) (hr : r.ph = 2) (hch : r.chosen = p.mine) (kd : m1.kind = 15) (hfr : p.fresh hs m2.fi = true) (hge : ¬ (ms.length : Int) + 1 < (p.gs.length : Int) / 2 + 1) :
    Calls Try.prog 18 #[.pointer (some ⟨g, 0, none⟩), .agg m2.cells.toArray] w fun e w1 => ∃ v1, e = .returned v1 ∧ Own B F w1 ∧ Calls Try.prog 29 #[.pointer (some ⟨h, 0, none⟩), .agg m1.cells.toArray] w1 fun e w2 => ∃ v2, e = .returned v2 ∧ Calls Try.prog 23 #[v1, v2] w2 fun e w3 => e = .returned (.bool true) ∧ Inv B F g h w3 := by
  have hlen := L.len
  have hgs := congrArg List.length L.gs
  have hvr : m1.fi ∈ r.gs := by rw [← hf, ← L.gs]; exact hv
  obtain ⟨k, hk1, hat, hgk⟩ := at_of f1 (by omega) hvr
  have hwant := wants_of L.toBase f2 hv
  have hown : p.own m2 = true := own_of L (by rw [hs2, hs0]) (by rw [hs3, hs1])
  have hans := ans_at L hk1 (by rw [L.la]; exact hk1)
  have hin : m2.fi ∉ hs := by rw [fresh_of L hv] at hfr; simpa using hfr
  have hin1 : r.gs[k] ∉ hs := by rw [hgk, ← hf]; exact hin
  have hff : r.ans[k]'(by rw [L.la]; exact hk1) = false := by rw [hans, hgk, ← hf]; simp [hin]
  have htk := takes_of L m2 hv hin
  have htook := took_of L m2 hv hin
  have hcn := cntN_took L hk1 hin1
  · skip
    refine Calls.mono (take_countA (K := fun v w' => ∃ d a c, v = slv a (p.outL p.mine p.gs).length c ∧ Own B (.row a c 46 30 (p.outL p.mine p.gs).length (msgs (p.outL p.mine p.gs)) :: .cells g 80 { p.over with dc := .pointer (some ⟨d, 0, none⟩) }.cells :: .row p.ga p.gc 3 1 p.gs.length (ints p.gs) :: .cells d 28 p.mine.cells :: .cells h 54 (r.cellsV (slv (some a1) r.gs.length r.gs.length) (slv (some a2) r.gs.length r.gs.length) (slv (some a3) r.gs.length r.gs.length) (slv (some a4) r.gs.length r.gs.length)) :: .row r.ga r.gc 3 1 r.gs.length (ints r.gs) :: .cells a1 4 (bools r.ans) :: .cells a2 4 (bools r.cnt) :: .cells a3 38 (stamps r.held) :: .cells a4 28 (cmdsC r.cms) :: F) w') H (by omega) hp (by omega) hwant (fun b w H => ?_)) ?_
    · replace H := H
      have H := Own.arr [2, 8, 8, 8, 8, 8, 8, 8, 8] H
      simp only [arrs, Fw.front, zm1, zm2, zm3, zm4, zm5] at H
      exact Calls.mono (count_decide H (by omega) hp (by omega) hown hh L.hl hfr (by rw [htk]; simp; omega)) fun e w h => by
        obtain ⟨d, a, c, rfl, H⟩ := h
        have H := Own.arr [10, 10, 10, 10, 10, 10, 9, 9, 9, 9] H
        simp only [arrs, Fw.front, zm1, zm2, zm3, zm4, zm5] at H
        replace H := H.sub (.cons_cons _ (.cons_cons _ (.cons_cons _ (.cons_cons _ (.cons_cons _ (.cons_cons _ (.cons_cons _ (.cons_cons _ (.cons_cons _ (.cons_cons _ (.cons _ (List.Sublist.refl _))))))))))))
        exact ⟨_, rfl, d, a, c, rfl, H⟩
    rintro e w ⟨v, rfl, d, a, c, rfl, H⟩
    refine ⟨_, rfl, H.drop 10, ?_⟩
    have H := Own.arr [3, 3, 3, 3, 9, 9, 9, 9, 9, 9] H
    simp only [arrs, Fw.front, zm1, zm2, zm3, zm4, zm5] at H
    refine Calls.mono (accepted_all H (by omega) hat hk1 L.la L.lc L.lh L.lm kd hr hs0 hs1 hff (by show _ ≤ (cntN (r.cnt.set k true) : Int); rw [hcn]; push_cast; omega)) ?_
    rintro e w ⟨a', c', rfl, H⟩
    refine ⟨_, rfl, ?_⟩
    have H := Own.arr [6, 6, 6, 6, 6, 6, 10, 9, 8, 9] H
    simp only [arrs, Fw.front, zm1, zm2, zm3, zm4, zm5] at H
    replace H := H.sub (.cons_cons _ (.cons_cons _ (.cons_cons _ (.cons_cons _ (.cons_cons _ (.cons_cons _ (.cons_cons _ (.cons_cons _ (.cons_cons _ (.cons_cons _ (.cons _ (List.Sublist.refl _))))))))))))
    have eo : r.outL = p.outL p.mine p.gs := out_L L.toBase hch
    rw [eo] at H ⊢
    refine Calls.mono (sameMsgs_s H (plain_L _ _ _) (by simp only [PS.outL, List.length_map]; omega)) ?_
    rintro e w ⟨rfl, H⟩
    have hB : Base { p.over with dc := .pointer (some ⟨d, 0, none⟩) } (r.acc k) :=
      ⟨L.cl, L.op, L.kk, L.ka, L.kb, L.kc, L.gs, L.mine, L.rnd, L.nt, L.wn, L.tm, L.tr, L.bu, L.be, L.bl, L.nd, L.un, L.len, L.pos, by show (r.ans.set k true).length = _; rw [List.length_set]; exact L.la, by show (r.cnt.set k true).length = _; rw [List.length_set]; exact L.lc, L.lh, L.lm⟩
    exact ⟨rfl, .over1 { p.over with dc := .pointer (some ⟨d, 0, none⟩) } (r.acc k) d p.mine a1 a2 a3 a4 (H.drop 2) hB rfl rfl rfl rfl hch⟩

theorem otherI_P {B w : World} {F : List Ent} {g h : Nat} {p : PS} {r : RS} {hs : List Int} {ms : List (Int × GM)} {ht hc hm qt qc qm a1 a2 a3 a4 : Nat} {ha qa : Option Nat} {m1 m2 : GM} (H : Own B (.cells g 80 p.cells :: .row p.ga p.gc 3 1 p.gs.length (ints p.gs) :: .cells ht 109 [slv ha p.gs.length hc, .int .i64 ((p.gs.length : Int) + 1), .map (some hm)] :: .row ha hc 3 1 p.gs.length (ints p.gs) :: .imap hm (heardK hs) :: .cells qt 145 [slv qa p.gs.length qc, .int .i64 ((p.gs.length : Int) / 2 + 1), .map (some qm)] :: .row qa qc 3 1 p.gs.length (ints p.gs) :: .imap qm (kvM ms) :: .cells h 54 (r.cellsV (slv (some a1) r.gs.length r.gs.length) (slv (some a2) r.gs.length r.gs.length) (slv (some a3) r.gs.length r.gs.length) (slv (some a4) r.gs.length r.gs.length)) :: .row r.ga r.gc 3 1 r.gs.length (ints r.gs) :: .cells a1 4 (bools r.ans) :: .cells a2 4 (bools r.cnt) :: .cells a3 38 (stamps r.held) :: .cells a4 28 (cmdsC r.cms) :: F) w) (hh : p.hd = .pointer (some ⟨ht, 0, none⟩)) (L : Live p r hs ms) (hv : m2.fi ∈ p.gs) (hf : m2.fi = m1.fi) (f1 : Fits r m1) (f2 : Fits r m2) (hk : m2.kind = m1.kind) (hs0 : m1.s0 = r.n) (hs1 : m1.s1 = r.cl) (hs2 : m2.s0 = m1.s0) (hs3 : m2.s1 = m1.s1) (hz0 : m1.h0 = 0 ∧ m1.h1 = 0) (hz2 : m2.h0 = 0 ∧ m2.h1 = 0) (hp : p.ph = phP qt) (hr : r.ph = 1) (kd : m1.kind = 15) :
    Calls Try.prog 18 #[.pointer (some ⟨g, 0, none⟩), .agg m2.cells.toArray] w fun e w1 => ∃ v1, e = .returned v1 ∧ Own B F w1 ∧ Calls Try.prog 29 #[.pointer (some ⟨h, 0, none⟩), .agg m1.cells.toArray] w1 fun e w2 => ∃ v2, e = .returned v2 ∧ Calls Try.prog 23 #[v1, v2] w2 fun e w3 => e = .returned (.bool true) ∧ Inv B F g h w3 := by
  have phs : (p.ph = phP qt ∧ r.ph = 1) ∨ (p.ph = phA qt p.mine ∧ r.ph = 2 ∧ r.chosen = p.mine) := .inl ⟨hp, hr⟩
  have hlen := L.len
  have hgs := congrArg List.length L.gs
  have hvr : m1.fi ∈ r.gs := by rw [← hf, ← L.gs]; exact hv
  obtain ⟨k, hk1, hat, hgk⟩ := at_of f1 (by omega) hvr
  have hwant := wants_of L.toBase f2 hv
  have hown : p.own m2 = true := own_of L (by rw [hs2, hs0]) (by rw [hs3, hs1])
  have hans := ans_at L hk1 (by rw [L.la]; exact hk1)
  · skip
    refine Calls.mono (take_countP (K := fun v w' => v = slv none 0 0 ∧ Own B (.cells g 80 p.cells :: .row p.ga p.gc 3 1 p.gs.length (ints p.gs) :: .cells ht 109 [slv ha p.gs.length hc, .int .i64 ((p.gs.length : Int) + 1), .map (some hm)] :: .row ha hc 3 1 p.gs.length (ints p.gs) :: .imap hm (heardK hs) :: .cells qt 145 [slv qa p.gs.length qc, .int .i64 ((p.gs.length : Int) / 2 + 1), .map (some qm)] :: .row qa qc 3 1 p.gs.length (ints p.gs) :: .imap qm (kvM ms) :: .cells h 54 (r.cellsV (slv (some a1) r.gs.length r.gs.length) (slv (some a2) r.gs.length r.gs.length) (slv (some a3) r.gs.length r.gs.length) (slv (some a4) r.gs.length r.gs.length)) :: .row r.ga r.gc 3 1 r.gs.length (ints r.gs) :: .cells a1 4 (bools r.ans) :: .cells a2 4 (bools r.cnt) :: .cells a3 38 (stamps r.held) :: .cells a4 28 (cmdsC r.cms) :: F) w') H (by omega) hp (by omega) hwant (fun b w H => ?_)) ?_
    · replace H := H
      have H := Own.arr [2, 8, 8, 8, 8, 8, 8, 8, 8] H
      simp only [arrs, Fw.front, zm1, zm2, zm3, zm4, zm5] at H
      exact Calls.mono (count_otherP H (by omega) hp (by omega) hown) fun e w h => by
        obtain ⟨rfl, H⟩ := h
        have H := Own.arr [14, 14, 14, 14, 14, 14, 13, 13, 13, 13, 13, 13, 13, 13] H
        simp only [arrs, Fw.front, zm1, zm2, zm3, zm4, zm5] at H
        replace H := H.sub (.cons_cons _ (.cons_cons _ (.cons_cons _ (.cons_cons _ (.cons_cons _ (.cons_cons _ (.cons_cons _ (.cons_cons _ (.cons_cons _ (.cons_cons _ (.cons_cons _ (.cons_cons _ (.cons_cons _ (.cons_cons _ (.cons _ (List.Sublist.refl _))))))))))))))))
        exact ⟨_, rfl, rfl, H⟩
    rintro e w ⟨v, rfl, rfl, H⟩
    refine ⟨_, rfl, H.drop 14, ?_⟩
    have H := Own.arr [7, 7, 7, 7, 7, 7, 7, 7, 13, 13, 13, 13, 13, 13] H
    simp only [arrs, Fw.front, zm1, zm2, zm3, zm4, zm5] at H
    cases hin : decide (m1.fi ∈ hs) with
    | true =>
      refine Calls.mono (take_staleR H (by omega) hat hk1 L.la L.lc L.lh L.lm (by omega) (by rw [hans, hgk]; exact hin)) ?_
      rintro e w ⟨rfl, H⟩
      refine ⟨_, rfl, ?_⟩
      refine Calls.mono (sameNil H) ?_
      rintro e w ⟨rfl, H⟩
      have H := Own.arr [5, 5, 5, 5, 5, 5, 13, 13, 13, 13, 13, 13, 13, 13] H
      simp only [arrs, Fw.front, zm1, zm2, zm3, zm4, zm5] at H
      exact ⟨rfl, .live p r hs ms ht hc hm ha qt qc qm qa a1 a2 a3 a4 H hh L phs⟩
    | false =>
      refine Calls.mono (take_15R H (by omega) hat hk1 L.la L.lc L.lh L.lm kd (by omega) hs0 hs1 (by rw [hans, hgk]; exact hin)) ?_
      rintro e w ⟨rfl, H⟩
      refine ⟨_, rfl, ?_⟩
      refine Calls.mono (sameNil H) ?_
      rintro e w ⟨rfl, H⟩
      have H := Own.arr [5, 5, 5, 5, 5, 5, 13, 13, 13, 13, 13, 13, 13, 13] H
      simp only [arrs, Fw.front, zm1, zm2, zm3, zm4, zm5] at H
      exact ⟨rfl, .live p r hs ms ht hc hm ha qt qc qm qa a1 a2 a3 a4 H hh L phs⟩

theorem otherI_A {B w : World} {F : List Ent} {g h : Nat} {p : PS} {r : RS} {hs : List Int} {ms : List (Int × GM)} {ht hc hm qt qc qm a1 a2 a3 a4 : Nat} {ha qa : Option Nat} {m1 m2 : GM} (H : Own B (.cells g 80 p.cells :: .row p.ga p.gc 3 1 p.gs.length (ints p.gs) :: .cells ht 109 [slv ha p.gs.length hc, .int .i64 ((p.gs.length : Int) + 1), .map (some hm)] :: .row ha hc 3 1 p.gs.length (ints p.gs) :: .imap hm (heardK hs) :: .cells qt 145 [slv qa p.gs.length qc, .int .i64 ((p.gs.length : Int) / 2 + 1), .map (some qm)] :: .row qa qc 3 1 p.gs.length (ints p.gs) :: .imap qm (kvM ms) :: .cells h 54 (r.cellsV (slv (some a1) r.gs.length r.gs.length) (slv (some a2) r.gs.length r.gs.length) (slv (some a3) r.gs.length r.gs.length) (slv (some a4) r.gs.length r.gs.length)) :: .row r.ga r.gc 3 1 r.gs.length (ints r.gs) :: .cells a1 4 (bools r.ans) :: .cells a2 4 (bools r.cnt) :: .cells a3 38 (stamps r.held) :: .cells a4 28 (cmdsC r.cms) :: F) w) (hh : p.hd = .pointer (some ⟨ht, 0, none⟩)) (L : Live p r hs ms) (hv : m2.fi ∈ p.gs) (hf : m2.fi = m1.fi) (f1 : Fits r m1) (f2 : Fits r m2) (hk : m2.kind = m1.kind) (hs0 : m1.s0 = r.n) (hs1 : m1.s1 = r.cl) (hs2 : m2.s0 = m1.s0) (hs3 : m2.s1 = m1.s1) (hz0 : m1.h0 = 0 ∧ m1.h1 = 0) (hz2 : m2.h0 = 0 ∧ m2.h1 = 0) (hp : p.ph = phA qt p.mine) (hr : r.ph = 2) (hch : r.chosen = p.mine) (kd : m1.kind = 13) :
    Calls Try.prog 18 #[.pointer (some ⟨g, 0, none⟩), .agg m2.cells.toArray] w fun e w1 => ∃ v1, e = .returned v1 ∧ Own B F w1 ∧ Calls Try.prog 29 #[.pointer (some ⟨h, 0, none⟩), .agg m1.cells.toArray] w1 fun e w2 => ∃ v2, e = .returned v2 ∧ Calls Try.prog 23 #[v1, v2] w2 fun e w3 => e = .returned (.bool true) ∧ Inv B F g h w3 := by
  have phs : (p.ph = phP qt ∧ r.ph = 1) ∨ (p.ph = phA qt p.mine ∧ r.ph = 2 ∧ r.chosen = p.mine) := .inr ⟨hp, hr, hch⟩
  have hlen := L.len
  have hgs := congrArg List.length L.gs
  have hvr : m1.fi ∈ r.gs := by rw [← hf, ← L.gs]; exact hv
  obtain ⟨k, hk1, hat, hgk⟩ := at_of f1 (by omega) hvr
  have hwant := wants_of L.toBase f2 hv
  have hown : p.own m2 = true := own_of L (by rw [hs2, hs0]) (by rw [hs3, hs1])
  have hans := ans_at L hk1 (by rw [L.la]; exact hk1)
  · skip
    refine Calls.mono (take_countA (K := fun v w' => v = slv none 0 0 ∧ Own B (.cells g 80 p.cells :: .row p.ga p.gc 3 1 p.gs.length (ints p.gs) :: .cells ht 109 [slv ha p.gs.length hc, .int .i64 ((p.gs.length : Int) + 1), .map (some hm)] :: .row ha hc 3 1 p.gs.length (ints p.gs) :: .imap hm (heardK hs) :: .cells qt 145 [slv qa p.gs.length qc, .int .i64 ((p.gs.length : Int) / 2 + 1), .map (some qm)] :: .row qa qc 3 1 p.gs.length (ints p.gs) :: .imap qm (kvM ms) :: .cells h 54 (r.cellsV (slv (some a1) r.gs.length r.gs.length) (slv (some a2) r.gs.length r.gs.length) (slv (some a3) r.gs.length r.gs.length) (slv (some a4) r.gs.length r.gs.length)) :: .row r.ga r.gc 3 1 r.gs.length (ints r.gs) :: .cells a1 4 (bools r.ans) :: .cells a2 4 (bools r.cnt) :: .cells a3 38 (stamps r.held) :: .cells a4 28 (cmdsC r.cms) :: F) w') H (by omega) hp (by omega) hwant (fun b w H => ?_)) ?_
    · replace H := H
      have H := Own.arr [2, 8, 8, 8, 8, 8, 8, 8, 8] H
      simp only [arrs, Fw.front, zm1, zm2, zm3, zm4, zm5] at H
      exact Calls.mono (count_otherA H (by omega) hp (by omega) hown) fun e w h => by
        obtain ⟨rfl, H⟩ := h
        have H := Own.arr [14, 14, 14, 14, 14, 14, 13, 13, 13, 13, 13, 13, 13, 13] H
        simp only [arrs, Fw.front, zm1, zm2, zm3, zm4, zm5] at H
        replace H := H.sub (.cons_cons _ (.cons_cons _ (.cons_cons _ (.cons_cons _ (.cons_cons _ (.cons_cons _ (.cons_cons _ (.cons_cons _ (.cons_cons _ (.cons_cons _ (.cons_cons _ (.cons_cons _ (.cons_cons _ (.cons_cons _ (.cons _ (List.Sublist.refl _))))))))))))))))
        exact ⟨_, rfl, rfl, H⟩
    rintro e w ⟨v, rfl, rfl, H⟩
    refine ⟨_, rfl, H.drop 14, ?_⟩
    have H := Own.arr [7, 7, 7, 7, 7, 7, 7, 7, 13, 13, 13, 13, 13, 13] H
    simp only [arrs, Fw.front, zm1, zm2, zm3, zm4, zm5] at H
    cases hin : decide (m1.fi ∈ hs) with
    | true =>
      refine Calls.mono (take_staleR H (by omega) hat hk1 L.la L.lc L.lh L.lm (by omega) (by rw [hans, hgk]; exact hin)) ?_
      rintro e w ⟨rfl, H⟩
      refine ⟨_, rfl, ?_⟩
      refine Calls.mono (sameNil H) ?_
      rintro e w ⟨rfl, H⟩
      have H := Own.arr [5, 5, 5, 5, 5, 5, 13, 13, 13, 13, 13, 13, 13, 13] H
      simp only [arrs, Fw.front, zm1, zm2, zm3, zm4, zm5] at H
      exact ⟨rfl, .live p r hs ms ht hc hm ha qt qc qm qa a1 a2 a3 a4 H hh L phs⟩
    | false =>
      refine Calls.mono (take_13R H (by omega) hat hk1 L.la L.lc L.lh L.lm kd (by omega) hs0 hs1 (by rw [hans, hgk]; exact hin)) ?_
      rintro e w ⟨rfl, H⟩
      refine ⟨_, rfl, ?_⟩
      refine Calls.mono (sameNil H) ?_
      rintro e w ⟨rfl, H⟩
      have H := Own.arr [5, 5, 5, 5, 5, 5, 13, 13, 13, 13, 13, 13, 13, 13] H
      simp only [arrs, Fw.front, zm1, zm2, zm3, zm4, zm5] at H
      exact ⟨rfl, .live p r hs ms ht hc hm ha qt qc qm qa a1 a2 a3 a4 H hh L phs⟩

theorem over_I0 {B w : World} {F X : List Ent} {g h : Nat} {p : PS} {r : RS} {a1 a2 a3 a4 : Nat} {m1 m2 : GM} {K : World → Prop} (H : Own B (.cells g 80 p.cells :: .cells h 54 (r.cellsV (slv (some a1) r.gs.length r.gs.length) (slv (some a2) r.gs.length r.gs.length) (slv (some a3) r.gs.length r.gs.length) (slv (some a4) r.gs.length r.gs.length)) :: .row r.ga r.gc 3 1 r.gs.length (ints r.gs) :: .cells a1 4 (bools r.ans) :: .cells a2 4 (bools r.cnt) :: .cells a3 38 (stamps r.held) :: .cells a4 28 (cmdsC r.cms) :: X ++ F) w) (hn : r.gs.length ≤ 1000000) (hp : p.ph = .iface 97 (.agg #[])) (hr : r.ph = 3)
    (hK : ∀ w, Own B (.cells g 80 p.cells :: .cells h 54 (r.cellsV (slv (some a1) r.gs.length r.gs.length) (slv (some a2) r.gs.length r.gs.length) (slv (some a3) r.gs.length r.gs.length) (slv (some a4) r.gs.length r.gs.length)) :: .row r.ga r.gc 3 1 r.gs.length (ints r.gs) :: .cells a1 4 (bools r.ans) :: .cells a2 4 (bools r.cnt) :: .cells a3 38 (stamps r.held) :: .cells a4 28 (cmdsC r.cms) :: X ++ F) w → K w) :
    Calls Try.prog 18 #[.pointer (some ⟨g, 0, none⟩), .agg m2.cells.toArray] w fun e w1 => ∃ v1, e = .returned v1 ∧ Own B F w1 ∧ Calls Try.prog 29 #[.pointer (some ⟨h, 0, none⟩), .agg m1.cells.toArray] w1 fun e w2 => ∃ v2, e = .returned v2 ∧ Calls Try.prog 23 #[v1, v2] w2 fun e w3 => e = .returned (.bool true) ∧ K w3 := by
  refine Calls.mono (take_over H hp) ?_
  rintro e w ⟨rfl, H⟩
  have HX : Own B (X ++ F) w := H.drop 7
  refine ⟨_, rfl, HX.append_right, ?_⟩
  have H := Own.arr [0, 6, 6, 6, 6, 6, 6] H
  simp only [arrs, Fw.front, zm1, zm2, zm3, zm4, zm5] at H
  refine Calls.mono (take_noR H hn (by rw [RS.at, foreign_over hr, if_pos rfl]; decide)) ?_
  rintro e w ⟨rfl, H⟩
  refine ⟨_, rfl, ?_⟩
  refine Calls.mono (sameNil H) ?_
  rintro e w ⟨rfl, H⟩
  have H := Own.arr [5, 5, 5, 5, 5, 5, 6] H
  simp only [arrs, Fw.front, zm1, zm2, zm3, zm4, zm5] at H
  exact ⟨rfl, hK _ H⟩
end Go.Proofs.Ytofaoblfemfkiaa

namespace Go.Proofs.Ytofaoblfemfkiaa
open Go Go.RowKit Go.Fw
set_option linter.unusedSimpArgs false
set_option linter.unusedVariables false
set_option maxRecDepth 4000
set_option maxHeartbeats 2000000


theorem take_live {B w : World} {F : List Ent} {g h : Nat} {p : PS} {r : RS} {hs : List Int} {ms : List (Int × GM)} {ht hc hm qt qc qm a1 a2 a3 a4 : Nat} {ha qa : Option Nat} {m1 m2 : GM} (H : Own B (.cells g 80 p.cells :: .row p.ga p.gc 3 1 p.gs.length (ints p.gs) :: .cells ht 109 [slv ha p.gs.length hc, .int .i64 ((p.gs.length : Int) + 1), .map (some hm)] :: .row ha hc 3 1 p.gs.length (ints p.gs) :: .imap hm (heardK hs) :: .cells qt 145 [slv qa p.gs.length qc, .int .i64 ((p.gs.length : Int) / 2 + 1), .map (some qm)] :: .row qa qc 3 1 p.gs.length (ints p.gs) :: .imap qm (kvM ms) :: .cells h 54 (r.cellsV (slv (some a1) r.gs.length r.gs.length) (slv (some a2) r.gs.length r.gs.length) (slv (some a3) r.gs.length r.gs.length) (slv (some a4) r.gs.length r.gs.length)) :: .row r.ga r.gc 3 1 r.gs.length (ints r.gs) :: .cells a1 4 (bools r.ans) :: .cells a2 4 (bools r.cnt) :: .cells a3 38 (stamps r.held) :: .cells a4 28 (cmdsC r.cms) :: F) w) (hh : p.hd = .pointer (some ⟨ht, 0, none⟩)) (L : Live p r hs ms) (hv : m2.fi ∈ p.gs) (hf : m2.fi = m1.fi) (f1 : Fits r m1) (f2 : Fits r m2) (hk : m2.kind = m1.kind) (phs : (p.ph = phP qt ∧ r.ph = 1) ∨ (p.ph = phA qt p.mine ∧ r.ph = 2 ∧ r.chosen = p.mine)) (hkk : m1.kind = 14 ∨ (m1.kind = 13 ∨ m1.kind = 15) ∧ m1.s0 = r.n ∧ m1.s1 = r.cl) (hs2 : m2.s0 = m1.s0) (hs3 : m2.s1 = m1.s1) (hz0 : m1.h0 = 0 ∧ m1.h1 = 0) (hz2 : m2.h0 = 0 ∧ m2.h1 = 0) :
    Calls Try.prog 18 #[.pointer (some ⟨g, 0, none⟩), .agg m2.cells.toArray] w fun e w1 => ∃ v1, e = .returned v1 ∧ Own B F w1 ∧ Calls Try.prog 29 #[.pointer (some ⟨h, 0, none⟩), .agg m1.cells.toArray] w1 fun e w2 => ∃ v2, e = .returned v2 ∧ Calls Try.prog 23 #[v1, v2] w2 fun e w3 => e = .returned (.bool true) ∧ Inv B F g h w3 := by
  rcases hkk with kd | ⟨kd, hs0, hs1⟩
  · rcases phs with ⟨hp, hr⟩ | ⟨hp, hr, hc⟩
    · exact nackP H hh L hv hf f1 f2 hk hp hr kd hs2 (.inl ⟨hp, hr⟩)
    · exact nackA H hh L hv hf f1 f2 hk hp hr kd hs2 (.inr ⟨hp, hr, hc⟩)
  · rcases phs with ⟨hp, hr⟩ | ⟨hp, hr, hc⟩
    · rcases kd with kd | kd
      · cases hfr : p.fresh hs m2.fi with
        | false => exact promise_stale H hh L hv hf f1 f2 hk hs0 hs1 hs2 hs3 hz0 hz2 hp hr kd hfr
        | true =>
          by_cases hlt : (ms.length : Int) + 1 < (p.gs.length : Int) / 2 + 1
          · exact promise_fewI H hh L hv hf f1 f2 hk hs0 hs1 hs2 hs3 hz0 hz2 hp hr kd hfr hlt
          · by_cases hw : 1099511627776 ≤ p.rnd
            · exact promise_wornI H hh L hv hf f1 f2 hk hs0 hs1 hs2 hs3 hz0 hz2 hp hr kd hfr hlt hw
            · exact promise_nextI H hh L hv hf f1 f2 hk hs0 hs1 hs2 hs3 hz0 hz2 hp hr kd hfr hlt hw
      · exact otherI_P H hh L hv hf f1 f2 hk hs0 hs1 hs2 hs3 hz0 hz2 hp hr kd
    · rcases kd with kd | kd
      · exact otherI_A H hh L hv hf f1 f2 hk hs0 hs1 hs2 hs3 hz0 hz2 hp hr hc kd
      · cases hfr : p.fresh hs m2.fi with
        | false => exact accepted_stale H hh L hv hf f1 f2 hk hs0 hs1 hs2 hs3 hz0 hz2 hp hr hc kd hfr
        | true =>
          by_cases hlt : (ms.length : Int) + 1 < (p.gs.length : Int) / 2 + 1
          · exact accepted_fewI H hh L hv hf f1 f2 hk hs0 hs1 hs2 hs3 hz0 hz2 hp hr hc kd hfr hlt
          · exact accepted_allI H hh L hv hf f1 f2 hk hs0 hs1 hs2 hs3 hz0 hz2 hp hr hc kd hfr hlt

theorem inv_split {B w : World} {F : List Ent} {g h b1 b2 b3 b4 g7 g8 : Nat} {m1 : GM} (I : Inv B (.cells b1 5 ((marks 67 67).map byteC) :: .cells b2 102 ((marks 67 67).flatMap entC) :: .cells b3 106 ((marks 67 67).flatMap lastC) :: .cells b4 28 ((marks 67 67).flatMap cmdM) :: .cells g8 46 (m1.lent (some ⟨b1, 0, none⟩) (some ⟨b2, 0, none⟩) (some ⟨b3, 0, none⟩) (some ⟨b4, 0, none⟩) 67 67 67 67).cells :: .cells g7 46 m1.cells :: F) g h w) : ∃ Z, Own B (.cells b1 5 ((marks 67 67).map byteC) :: .cells b2 102 ((marks 67 67).flatMap entC) :: .cells b3 106 ((marks 67 67).flatMap lastC) :: .cells b4 28 ((marks 67 67).flatMap cmdM) :: .cells g8 46 (m1.lent (some ⟨b1, 0, none⟩) (some ⟨b2, 0, none⟩) (some ⟨b3, 0, none⟩) (some ⟨b4, 0, none⟩) 67 67 67 67).cells :: .cells g7 46 m1.cells :: Z) w ∧ ∀ w4, Own B Z w4 → Inv B F g h w4 := by
  cases I with
  | live p r hs ms ht hc hm ha qt qc qm qa a1 a2 a3 a4 H hh L ph =>
    have H := Own.arr [13, 13, 13, 13, 13, 13, 13, 13, 13, 13, 13, 13, 13, 13, 19, 19, 19, 19, 19, 19] H
    simp only [arrs, Fw.front, zm1, zm2, zm3, zm4, zm5] at H
    exact ⟨_, H, fun w4 H => .live p r hs ms ht hc hm ha qt qc qm qa a1 a2 a3 a4 H hh L ph⟩
  | over0 p r a1 a2 a3 a4 H L ph rp dc rdc dec =>
    have H := Own.arr [6, 6, 6, 6, 6, 6, 6, 12, 12, 12, 12, 12, 12] H
    simp only [arrs, Fw.front, zm1, zm2, zm3, zm4, zm5] at H
    exact ⟨_, H, fun w4 H => .over0 p r a1 a2 a3 a4 H L ph rp dc rdc dec⟩
  | over1 p r q c a1 a2 a3 a4 H L ph rp dc rdc dec =>
    have H := Own.arr [7, 7, 7, 7, 7, 7, 7, 7, 13, 13, 13, 13, 13, 13] H
    simp only [arrs, Fw.front, zm1, zm2, zm3, zm4, zm5] at H
    exact ⟨_, H, fun w4 H => .over1 p r q c a1 a2 a3 a4 H L ph rp dc rdc dec⟩

theorem inv_fit {B w : World} {F : List Ent} {g h : Nat} {m : GM} {x : Value} (hx : x = .agg (Value.int .i64 3 :: m.cells).toArray) (hpl : m.plain) (hz : m.h0 = 0 ∧ m.h1 = 0) (hkk : m.kind = 14 ∨ (m.kind = 13 ∨ m.kind = 15) ∧ m.more = true) (I : Inv B F g h w) :
    Calls Try.prog 8 #[.pointer (some ⟨g, 0, none⟩), .pointer (some ⟨h, 0, none⟩), x] w fun e w' => e = .returned (.bool true) ∧ Inv B F g h w' := by
  have back : ∀ {w : World} {b1 b2 b3 b4 g7 g8 : Nat} {m1 : GM}, Inv B (.cells b1 5 ((marks 67 67).map byteC) :: .cells b2 102 ((marks 67 67).flatMap entC) :: .cells b3 106 ((marks 67 67).flatMap lastC) :: .cells b4 28 ((marks 67 67).flatMap cmdM) :: .cells g8 46 (m1.lent (some ⟨b1, 0, none⟩) (some ⟨b2, 0, none⟩) (some ⟨b3, 0, none⟩) (some ⟨b4, 0, none⟩) 67 67 67 67).cells :: .cells g7 46 m1.cells :: F) g h w → ∃ Z, Own B (.cells b1 5 ((marks 67 67).map byteC) :: .cells b2 102 ((marks 67 67).flatMap entC) :: .cells b3 106 ((marks 67 67).flatMap lastC) :: .cells b4 28 ((marks 67 67).flatMap cmdM) :: .cells g8 46 (m1.lent (some ⟨b1, 0, none⟩) (some ⟨b2, 0, none⟩) (some ⟨b3, 0, none⟩) (some ⟨b4, 0, none⟩) 67 67 67 67).cells :: .cells g7 46 m1.cells :: Z) w ∧ ∀ w4, Own B Z w4 → Inv B F g h w4 := fun h => inv_split h
  cases I with
  | live p r hs ms ht hc hm ha qt qc qm qa a1 a2 a3 a4 H hh L ph =>
    have H := Own.arr [13, 13, 13, 13, 11, 11, 11, 11, 11, 11, 11, 11, 13, 13] H
    simp only [arrs, Fw.front, zm1, zm2, zm3, zm4, zm5] at H
    have hlen := L.len
    have hpos := L.pos
    have hgs := congrArg List.length L.gs
    obtain ⟨m1, hm1⟩ : ∃ m1, m1 = r.fit m (r.gs.getD (m.fi % (r.gs.length : Int)).toNat 0) := ⟨_, rfl⟩
    have hfl := fit_fields r m (r.gs.getD (m.fi % (r.gs.length : Int)).toNat 0)
    have hown := fun h1 h2 => @fit_own r m (r.gs.getD (m.fi % (r.gs.length : Int)).toNat 0) h1 h2
    have hfits := fits_fit r m (r.gs.getD (m.fi % (r.gs.length : Int)).toNat 0)
    have hp1 := @fit_plain r m (r.gs.getD (m.fi % (r.gs.length : Int)).toNat 0) hpl
    rw [← hm1] at hfl hown hfits hp1
    have hrl := @rem_lt m.fi r.gs.length (by omega)
    have hv : m1.fi ∈ p.gs := by
      rw [hfl.2.2.1, L.gs, List.getD_eq_getElem?_getD, List.getElem?_eq_getElem (by omega)]
      exact List.getElem_mem _
    refine step_fit (K := Inv B F g h) hx H (by omega) (by omega) hm1 hp1 fun b1 b2 b3 b4 g8 g7 E w H => ?_
    have H := Own.arr [5, 5, 5, 5, 5, 5, 20, 20, 20, 20, 12, 12, 20, 20, 20, 20, 20, 20, 20, 20] H
    simp only [arrs, Fw.front, zm1, zm2, zm3, zm4, zm5] at H
    replace H := H.sub (.cons_cons _ (.cons_cons _ (.cons_cons _ (.cons_cons _ (.cons_cons _ (.cons_cons _ (.cons_cons _ (.cons_cons _ (.cons_cons _ (.cons_cons _ (.cons_cons _ (.cons_cons _ (.cons_cons _ (.cons_cons _ (.cons_cons _ (.cons_cons _ (.cons_cons _ (.cons_cons _ (.cons_cons _ (.cons_cons _ (.cons _ (List.Sublist.refl _))))))))))))))))))))))
    refine Calls.mono (take_live (F := .cells b1 5 ((marks 67 67).map byteC) :: .cells b2 102 ((marks 67 67).flatMap entC) :: .cells b3 106 ((marks 67 67).flatMap lastC) :: .cells b4 28 ((marks 67 67).flatMap cmdM) :: .cells g8 46 (m1.lent (some ⟨b1, 0, none⟩) (some ⟨b2, 0, none⟩) (some ⟨b3, 0, none⟩) (some ⟨b4, 0, none⟩) 67 67 67 67).cells :: .cells g7 46 m1.cells :: F) (m1 := m1) (m2 := (m1.lent (some ⟨b1, 0, none⟩) (some ⟨b2, 0, none⟩) (some ⟨b3, 0, none⟩) (some ⟨b4, 0, none⟩) 67 67 67 67)) H hh L hv rfl hfits (lent_fits hfits ..) rfl ph ?_ rfl rfl ⟨hfl.2.2.2.2.2.2.2.2.2.2.2.1.trans hz.1, hfl.2.2.2.2.2.2.2.2.2.2.2.2.1.trans hz.2⟩ ⟨hfl.2.2.2.2.2.2.2.2.2.2.2.1.trans hz.1, hfl.2.2.2.2.2.2.2.2.2.2.2.2.1.trans hz.2⟩) ?_
    · rw [hfl.1]
      rcases hkk with h | ⟨h, hmm⟩
      · exact .inl h
      · exact .inr ⟨h, hown (by omega) hmm⟩
    · rintro e w1 ⟨v1, rfl, H, h29⟩
      refine ⟨v1, rfl, ⟨_, H.front 5⟩, Calls.mono h29 ?_⟩
      rintro e w2 ⟨v2, rfl, h23⟩
      exact ⟨v2, rfl, Calls.mono h23 fun e w3 h => ⟨h.1, back h.2⟩⟩
  | over0 p r a1 a2 a3 a4 H L ph rp dc rdc dec =>
    have H := Own.arr [6, 6, 6, 6, 4, 6, 6] H
    simp only [arrs, Fw.front, zm1, zm2, zm3, zm4, zm5] at H
    have hlen := L.len
    have hpos := L.pos
    have hgs := congrArg List.length L.gs
    obtain ⟨m1, hm1⟩ : ∃ m1, m1 = r.fit m (r.gs.getD (m.fi % (r.gs.length : Int)).toNat 0) := ⟨_, rfl⟩
    have hp1 := @fit_plain r m (r.gs.getD (m.fi % (r.gs.length : Int)).toNat 0) hpl
    rw [← hm1] at hp1
    refine step_fit (K := Inv B F g h) hx H (by omega) (by omega) hm1 hp1 fun b1 b2 b3 b4 g8 g7 E w H => ?_
    have H := Own.arr [5, 5, 5, 5, 5, 5, 13, 13, 13, 13, 12, 12, 13] H
    simp only [arrs, Fw.front, zm1, zm2, zm3, zm4, zm5] at H
    replace H := H.sub (.cons_cons _ (.cons_cons _ (.cons_cons _ (.cons_cons _ (.cons_cons _ (.cons_cons _ (.cons_cons _ (.cons_cons _ (.cons_cons _ (.cons_cons _ (.cons_cons _ (.cons_cons _ (.cons_cons _ (.cons _ (List.Sublist.refl _)))))))))))))))
    refine Calls.mono (over_I0 (m1 := m1) (X := []) (F := .cells b1 5 ((marks 67 67).map byteC) :: .cells b2 102 ((marks 67 67).flatMap entC) :: .cells b3 106 ((marks 67 67).flatMap lastC) :: .cells b4 28 ((marks 67 67).flatMap cmdM) :: .cells g8 46 (m1.lent (some ⟨b1, 0, none⟩) (some ⟨b2, 0, none⟩) (some ⟨b3, 0, none⟩) (some ⟨b4, 0, none⟩) 67 67 67 67).cells :: .cells g7 46 m1.cells :: F) (K := fun w3 => ∃ Z, Own B (.cells b1 5 ((marks 67 67).map byteC) :: .cells b2 102 ((marks 67 67).flatMap entC) :: .cells b3 106 ((marks 67 67).flatMap lastC) :: .cells b4 28 ((marks 67 67).flatMap cmdM) :: .cells g8 46 (m1.lent (some ⟨b1, 0, none⟩) (some ⟨b2, 0, none⟩) (some ⟨b3, 0, none⟩) (some ⟨b4, 0, none⟩) 67 67 67 67).cells :: .cells g7 46 m1.cells :: Z) w3 ∧ ∀ w4, Own B Z w4 → Inv B F g h w4) H (by omega) ph rp (fun w H => back (.over0 p r a1 a2 a3 a4 H L ph rp dc rdc dec))) ?_
    rintro e w1 ⟨v1, rfl, H, h29⟩
    exact ⟨v1, rfl, ⟨_, H.front 5⟩, h29⟩
  | over1 p r q c a1 a2 a3 a4 H L ph rp dc rdc dec =>
    have H := Own.arr [7, 7, 7, 7, 5, 5, 7, 7] H
    simp only [arrs, Fw.front, zm1, zm2, zm3, zm4, zm5] at H
    have hlen := L.len
    have hpos := L.pos
    have hgs := congrArg List.length L.gs
    obtain ⟨m1, hm1⟩ : ∃ m1, m1 = r.fit m (r.gs.getD (m.fi % (r.gs.length : Int)).toNat 0) := ⟨_, rfl⟩
    have hp1 := @fit_plain r m (r.gs.getD (m.fi % (r.gs.length : Int)).toNat 0) hpl
    rw [← hm1] at hp1
    refine step_fit (K := Inv B F g h) hx H (by omega) (by omega) hm1 hp1 fun b1 b2 b3 b4 g8 g7 E w H => ?_
    have H := Own.arr [5, 5, 5, 5, 5, 5, 10, 14, 14, 14, 14, 13, 13, 14] H
    simp only [arrs, Fw.front, zm1, zm2, zm3, zm4, zm5] at H
    replace H := H.sub (.cons_cons _ (.cons_cons _ (.cons_cons _ (.cons_cons _ (.cons_cons _ (.cons_cons _ (.cons_cons _ (.cons_cons _ (.cons_cons _ (.cons_cons _ (.cons_cons _ (.cons_cons _ (.cons_cons _ (.cons_cons _ (.cons _ (List.Sublist.refl _))))))))))))))))
    refine Calls.mono (over_I0 (m1 := m1) (X := [.cells q 28 c.cells]) (F := .cells b1 5 ((marks 67 67).map byteC) :: .cells b2 102 ((marks 67 67).flatMap entC) :: .cells b3 106 ((marks 67 67).flatMap lastC) :: .cells b4 28 ((marks 67 67).flatMap cmdM) :: .cells g8 46 (m1.lent (some ⟨b1, 0, none⟩) (some ⟨b2, 0, none⟩) (some ⟨b3, 0, none⟩) (some ⟨b4, 0, none⟩) 67 67 67 67).cells :: .cells g7 46 m1.cells :: F) (K := fun w3 => ∃ Z, Own B (.cells b1 5 ((marks 67 67).map byteC) :: .cells b2 102 ((marks 67 67).flatMap entC) :: .cells b3 106 ((marks 67 67).flatMap lastC) :: .cells b4 28 ((marks 67 67).flatMap cmdM) :: .cells g8 46 (m1.lent (some ⟨b1, 0, none⟩) (some ⟨b2, 0, none⟩) (some ⟨b3, 0, none⟩) (some ⟨b4, 0, none⟩) 67 67 67 67).cells :: .cells g7 46 m1.cells :: Z) w3 ∧ ∀ w4, Own B Z w4 → Inv B F g h w4) H (by omega) ph rp (fun w H => ?_)) ?_
    · replace H := H
      simp only [List.cons_append, List.nil_append] at H
      have H := Own.arr [13, 13, 13, 13, 13, 13, 12, 12, 12, 12, 12, 12, 13, 13] H
      simp only [arrs, Fw.front, zm1, zm2, zm3, zm4, zm5] at H
      exact back (.over1 p r q c a1 a2 a3 a4 H L ph rp dc rdc dec)
    rintro e w1 ⟨v1, rfl, H, h29⟩
    exact ⟨v1, rfl, ⟨_, H.front 5⟩, h29⟩
end Go.Proofs.Ytofaoblfemfkiaa

namespace Go.Proofs.Ytofaoblfemfkiaa
open Go Go.RowKit Go.Fw
set_option linter.unusedSimpArgs false
set_option linter.unusedVariables false
set_option maxRecDepth 4000
set_option maxHeartbeats 2000000


theorem inv_begin {B w : World} {F : List Ent} {g h a1 a2 a3 a4 : Nat} {cl op kk ka kb kc bal rnd : Int} {mine : Cmd} {gs : List Int} {pa ra : Option Nat} {pc rc : Nat} {p : PS} {r : RS} {x : Value} (hx : x = .agg (Value.int .i64 0 :: GM.zero.cells).toArray)
    (hp : p = PS.new cl op kk ka kb kc mine bal rnd pa pc gs) (hr : r = (RS.new cl op kk ka kb kc mine bal rnd ra rc gs).clear) (hu : unlike gs = gs) (nd : gs.Nodup) (hl : gs.length ≤ 1000) (hpos : 0 < gs.length)
    (H : Own B (.cells g 80 p.cells :: .row p.ga p.gc 3 1 p.gs.length (ints p.gs) :: .cells h 54 (r.cellsV (slv (some a1) r.gs.length r.gs.length) (slv (some a2) r.gs.length r.gs.length) (slv (some a3) r.gs.length r.gs.length) (slv (some a4) r.gs.length r.gs.length)) :: .row r.ga r.gc 3 1 r.gs.length (ints r.gs) :: .cells a1 4 (bools r.ans) :: .cells a2 4 (bools r.cnt) :: .cells a3 38 (stamps r.held) :: .cells a4 28 (cmdsC r.cms) :: F) w) :
    Calls Try.prog 8 #[.pointer (some ⟨g, 0, none⟩), .pointer (some ⟨h, 0, none⟩), x] w fun e w' => e = .returned (.bool true) ∧ Inv B F g h w' := by
  have L : Base p r := by
    subst hp hr
    exact ⟨rfl, rfl, rfl, rfl, rfl, rfl, rfl, rfl, rfl, by show max bal bal = bal; omega, rfl, rfl, rfl, rfl, rfl, rfl, nd, hu, hl, hpos, by simp [RS.clear], by simp [RS.clear], by simp [RS.clear], by simp [RS.clear]⟩
  have hgs : p.gs.length = gs.length := by rw [hp]; rfl
  have hrs : r.gs.length = gs.length := by rw [hr]; rfl
  have hpi : p.ph = .iface 73 (.agg #[]) := by rw [hp]; rfl
  have hr0 : r.ph = 0 := by rw [hr]; rfl
  have hdc : p.dc = .pointer none := by rw [hp]; rfl
  have hrd : r.dc = false := by rw [hr]; rfl
  have hde : r.dec = Cmd.zero := by rw [hr]; rfl
  have hbal : p.bal = r.n := by rw [hp, hr]; rfl
  have hrnd := L.rnd
  refine step_begin (K := Inv B F g h) hx H fun E w H => ?_
  have H := Own.arr [8, 8, 8, 8, 8, 8, 6, 8, 8] H
  simp only [arrs, Fw.front, zm1, zm2, zm3, zm4, zm5] at H
  by_cases hw : min p.bal p.rnd < 1 ∨ 1099511627776 < max p.bal p.rnd
  · refine Calls.mono (begin_worn H (by omega) hpi hw) ?_
    rintro e w ⟨rfl, H⟩
    refine ⟨_, rfl, ?_⟩
    have H := Own.arr [2, 2, 2, 8, 8, 8, 8, 8, 8] H
    simp only [arrs, Fw.front, zm1, zm2, zm3, zm4, zm5] at H
    refine Calls.mono (begin_wr H hr0 (by unfold RS.far; omega)) ?_
    rintro e w ⟨rfl, H⟩
    refine ⟨_, rfl, ?_⟩
    refine Calls.mono (sameNil H) ?_
    rintro e w ⟨rfl, H⟩
    have H := Own.arr [5, 5, 5, 5, 5, 5, 6] H
    simp only [arrs, Fw.front, zm1, zm2, zm3, zm4, zm5] at H
    replace H := H.sub (.cons_cons _ (.cons_cons _ (.cons_cons _ (.cons_cons _ (.cons_cons _ (.cons_cons _ (.cons_cons _ (.cons _ (.cons _ (List.Sublist.refl _))))))))))
    exact ⟨rfl, .over0 { p.over with wn := true } r.worn a1 a2 a3 a4 H (base_worn L) rfl rfl hdc hrd hde⟩
  · refine Calls.mono (begin_s H (by omega) L.un hpi hw) ?_
    rintro e w ⟨ht, ha, hc, hm, qt, qa, qc, qm, a, c, rfl, H⟩
    refine ⟨_, rfl, ?_⟩
    have H := Own.arr [8, 8, 8, 8, 8, 8, 8, 8, 8, 15, 15, 15, 15, 15, 15] H
    simp only [arrs, Fw.front, zm1, zm2, zm3, zm4, zm5] at H
    replace H := H.sub (.cons_cons _ (.cons_cons _ (.cons_cons _ (.cons_cons _ (.cons_cons _ (.cons_cons _ (.cons_cons _ (.cons_cons _ (.cons_cons _ (.cons_cons _ (.cons_cons _ (.cons_cons _ (.cons_cons _ (.cons_cons _ (.cons_cons _ (.cons _ (List.Sublist.refl _)))))))))))))))))
    refine Calls.mono (begin_r H (by omega) L.la hr0 (by unfold RS.far; omega)) ?_
    rintro e w ⟨a', c', rfl, H⟩
    refine ⟨_, rfl, ?_⟩
    have H := Own.arr [6, 6, 6, 6, 6, 6, 15, 15, 15, 15, 15, 15, 15, 15, 14, 15] H
    simp only [arrs, Fw.front, zm1, zm2, zm3, zm4, zm5] at H
    have hL : Live (p.enter (phP qt) ht) (r.phase 1) [] [] := by
      have := live_clear (p' := p.enter (phP qt) ht) (r' := (RS.new cl op kk ka kb kc mine bal rnd ra rc gs).phase 1) L ⟨rfl, rfl, rfl, rfl, rfl, rfl, rfl, rfl, rfl, rfl⟩ (by subst hr; exact ⟨rfl, rfl, rfl, rfl, rfl, rfl, rfl, rfl, rfl, rfl, rfl, rfl, rfl⟩) (by subst hp; rfl) (by subst hp; show max bal bal = bal; omega) (by subst hp; rfl) rfl (by show 1 ≤ p.bal; omega) (by show 1 ≤ p.rnd; omega) hdc rfl rfl
      subst hr
      exact this
    have eo : (r.phase 1).out = p.outP p.gs := by
      rw [out_prep hL.toBase hL.bal rfl hL.ans, show heardK [] = [] from rfl, missing_nil]
      rfl
    rw [eo] at H ⊢
    refine Calls.mono (sameMsgs_s H (plain_prep _ _) (by simp only [PS.outP, List.length_map]; omega)) ?_
    rintro e w ⟨rfl, H⟩
    exact ⟨rfl, .live (p.enter (phP qt) ht) (r.phase 1) [] [] ht hc hm ha qt qc qm qa a1 a2 a3 a4 (H.drop 2) rfl hL (.inl ⟨rfl, rfl⟩)⟩
end Go.Proofs.Ytofaoblfemfkiaa
