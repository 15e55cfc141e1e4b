/- Parts of the proof: B C D E F G H I J. -/
import Derived.Test.YtofaoblfemfkiaaBe1
set_option linter.unusedVariables false
set_option linter.unusedSimpArgs false
namespace Go.Proofs.Ytofaoblfemfkiaa
open Go Go.RowKit Go.Fw
set_option linter.unusedSimpArgs false
set_option linter.unusedVariables false
set_option maxRecDepth 4000
set_option maxHeartbeats 2000000
theorem en_50 : Enterable Try.prog 50 := ⟨Try.f50, Try.func50, rfl, by decide⟩
theorem fo_109_0 : fOff Try.prog 109 0 = some 0 := by kernel_rfl
theorem fo_145_0 : fOff Try.prog 145 0 = some 0 := by kernel_rfl
theorem pl_109 : placesOf Try.prog 109 = some [(0, 1), (1, 1), (2, 1)] := by kernel_rfl
theorem pl_145 : placesOf Try.prog 145 = some [(0, 1), (1, 1), (2, 1)] := by kernel_rfl
theorem sh_31 : shapeOf Try.prog 31 = some (false, 1) := by kernel_rfl
theorem ze_109 : zeroC Try.prog 109 = some [.slice none 0 0, .int .i64 0, .map none] := by kernel_rfl
theorem ze_145 : zeroC Try.prog 145 = some [.slice none 0 0, .int .i64 0, .map none] := by kernel_rfl
theorem ze_3 : zeroC Try.prog 3 = some [.int .i64 0] := by kernel_rfl

theorem tnewB {B w : World} {F : List Ent} {sa : Option Addr} {sc : Nat} {xs : List Int} {need : Int} (hS : Sees B F sa xs.length 1 (ints xs)) (H : Own B F w) (hn : xs.length ≤ 1000000) :
    Calls Try.prog 19 #[.slice sa xs.length sc, .int .i64 need] w fun e w' => ∃ t a c m, e = .returned (.pointer (some ⟨t, 0, none⟩)) ∧ Own B (.cells t 109 [slv a (unlike xs).length c, .int .i64 need, .map (some m)] :: .row a c 3 1 (unlike xs).length (ints (unlike xs)) :: .imap m [] :: F) w' := by
  refine calls_ce (args := [.slice sa xs.length sc, .int .i64 need]) Try.func19 rfl rfl ?_
  change CE _ _ 37 _ _ [(0, .slice sa xs.length sc), (1, .int .i64 need)] _
  refine ce_seq ?_
  refine ce_text (tab := []) (soft := 1) (.op 0 .nil) rfl rfl ?_
  refine re_assign rfl rfl rfl rfl rfl ?_
  refine re_nil ?_
  refine qe_thenC ?_
  refine ce_seq ?_
  refine ce_text (tab := []) (soft := 21) (.op 0 (.op 1 (.op 2 (.op 3 (.op 4 .nil))))) rfl rfl ?_
  refine re_move rfl rfl rfl rfl rfl ?_
  refine re_makeMap H rfl rfl rfl rfl ?_
  intro g9 w H
  refine ⟨(fun h => (nomatch h)), ?_⟩
  refine re_build rfl rfl rfl rfl rfl ze_109 pl_109 (by simp only [fillL, setMany, Value.cells, List.getElem?_cons_zero, List.getElem?_cons_succ, List.length_cons, List.length_nil, List.set_cons_zero, List.set_cons_succ, Nat.reduceAdd, Nat.reduceLeDiff, Nat.zero_add, and_self, ↓reduceIte]; rfl) ?_
  refine re_box H rfl rfl rfl rfl rfl rfl ?_
  intro g11 w H
  refine ⟨(fun h => (nomatch h)), ?_⟩
  refine re_assign rfl rfl rfl rfl rfl ?_
  refine re_nil ?_
  refine qe_thenC ?_
  refine ce_seq ?_
  refine ce_seq ?_
  refine ce_text (tab := []) (soft := 7) (.op 0 (.op 1 (.op 2 .nil))) rfl rfl ?_
  refine re_move rfl rfl rfl rfl rfl ?_
  refine re_len rfl rfl rfl rfl rfl ul_31 ?_
  refine re_move rfl rfl rfl rfl rfl ?_
  refine re_nil ?_
  refine qe_thenC ?_
  refine ce_block ?_
  have H0 := H.nil_row 3 1
  refine ce_loop (α := Nat × (Option Nat) × Nat) (fun ⟨k, a, c⟩ => [(5, .pointer (some ⟨g11, 0, none⟩)), (12, .slice sa xs.length sc), (13, .int .i64 (xs.length : Int)), (14, .int .i64 (k : Int))]) (fun ⟨k, a, c⟩ w => Own B (.row a c 3 1 (unlike (xs.take k)).length (ints (unlike (xs.take k))) :: .cells g11 109 [slv a (unlike (xs.take k)).length c, .int .i64 need, .map (some g9)] :: .imap g9 [] :: F) w ∧ k ≤ xs.length) (fun ⟨k, a, c⟩ => xs.length - k) (0, none, 0) (And.intro rfl (And.intro rfl (And.intro rfl (And.intro rfl trivial)))) ⟨H0, Nat.zero_le _⟩ ?_
  rintro ⟨k, a, c⟩ w HW
  obtain ⟨H, hk⟩ := HW
  change CE _ _ _ _ _ [(5, .pointer (some ⟨g11, 0, none⟩)), (12, .slice sa xs.length sc), (13, .int .i64 (xs.length : Int)), (14, .int .i64 (k : Int))] _
  have hul := unlike_length (xs.take k)
  have htl := List.length_take_le k xs
  refine ce_seq ?_
  refine ce_text (tab := []) (soft := 1) (.op 0 .nil) rfl rfl ?_
  refine re_bin rfl rfl rfl rfl rfl rfl rfl ?_
  refine re_nil ?_
  refine qe_thenC ?_
  refine ce_seq ?_
  refine ce_cond rfl (fun h0 => ?_) (fun h0 => ?_)
  · try simp only [zn1, zn2, zn3, zn4, zn5, zn6] at h0
    refine ce_skip ?_
    refine qe_thenC ?_
    refine ce_seq ?_
    refine ce_block ?_
    refine ce_seq ?_
    refine ce_text (tab := []) (soft := 7) (.op 0 (.op 1 (.op 2 .nil))) rfl rfl ?_
    have hlt : k < xs.length := by omega
    obtain ⟨ad, rfl, hA⟩ := hS.open_ H.to (by omega)
    refine re_index rfl rfl rfl rfl rfl rfl ul_31 ei_31 (by omega) (by omega) ?_
    refine re_loadW rfl rfl rfl rfl rfl (run_loadAt_one sh_3 (hA.int H hlt)) ?_
    refine re_assign rfl rfl rfl rfl rfl ?_
    refine re_nil ?_
    refine qe_thenC ?_
    refine ce_seq ?_
    refine ce_text (tab := []) (soft := 95) (.op 0 (.op 1 (.op 2 (.op 3 (.op 4 (.op 5 (.op 6 .nil))))))) rfl rfl ?_
    refine re_move rfl rfl rfl rfl rfl ?_
    refine re_nilc rfl rfl rfl rfl rfl ?_
    first | refine re_field0 rfl rfl rfl rfl rfl fo_109_0 ?_ | refine re_field rfl rfl rfl rfl rfl fo_109_0 ?_ | refine re_fieldA rfl rfl rfl rfl rfl fo_109_0 ?_
    refine re_load H rfl rfl rfl rfl rfl sh_31 rfl ?_
    refine re_move rfl rfl rfl rfl rfl ?_
    refine re_call en_50 rfl rfl rfl rfl rfl ?_
    refine Calls.mono (contains_s (F := _ :: _) (Sees.of_row (.head _) H) H (by omega)) ?_
    rintro e w ⟨rfl, H⟩
    refine ⟨_, rfl, (fun h => (nomatch h)), ?_⟩
    refine re_not rfl rfl rfl rfl rfl ?_
    refine re_nil ?_
    refine qe_thenC ?_
    refine ce_cond rfl (fun h1 => ?_) (fun h1 => ?_)
    · try simp only [zn1, zn2, zn3, zn4, zn5, zn6] at h1
      refine ce_text (tab := []) (soft := 831) (.op 0 (.op 1 (.op 2 (.op 3 (.op 4 (.op 5 (.op 6 (.op 7 (.op 8 (.op 9 (.op 10 .nil))))))))))) rfl rfl ?_
      refine re_move rfl rfl rfl rfl rfl ?_
      refine re_move rfl rfl rfl rfl rfl ?_
      refine re_nilc rfl rfl rfl rfl rfl ?_
      first | refine re_field0 rfl rfl rfl rfl rfl fo_109_0 ?_ | refine re_field rfl rfl rfl rfl rfl fo_109_0 ?_ | refine re_fieldA rfl rfl rfl rfl rfl fo_109_0 ?_
      refine re_load H rfl rfl rfl rfl rfl sh_31 rfl ?_
      refine re_move rfl rfl rfl rfl rfl ?_
      refine re_slice1 H rfl rfl rfl rfl rfl rfl ul_31 ei_31 ze_3 rfl rfl rfl (by decide) ?_
      intro g31 w H
      refine ⟨(fun h => (nomatch h)), ?_⟩
      refine re_append H rfl rfl rfl rfl rfl rfl ul_31 ei_31 ze_3 rfl (by decide) (src_cells H rfl) rfl (by omega) (by simp only [maxLen]; omega) ?_
      intro a' c' w H _
      simp only [List.set_cons_zero, List.set_cons_succ] at H
      refine ⟨(fun h => (nomatch h)), ?_⟩
      refine re_nilc rfl rfl rfl rfl rfl ?_
      first | refine re_field0 rfl rfl rfl rfl rfl fo_109_0 ?_ | refine re_field rfl rfl rfl rfl rfl fo_109_0 ?_ | refine re_fieldA rfl rfl rfl rfl rfl fo_109_0 ?_
      refine re_store H rfl rfl rfl rfl rfl rfl sh_31 rfl rfl rfl ?_
      intro cs w hcs H
      first | rw [setMany_whole rfl] at hcs | simp only [setMany, List.set_cons_zero, List.set_cons_succ, Nat.reduceAdd, Nat.zero_add, PS.cells, PS.over, GM.cells, Cmd.cells, List.cons_append, List.nil_append] at hcs
      subst hcs
      refine ⟨(fun h => (nomatch h)), ?_⟩
      refine re_nil ?_
      refine qe_block_norm ?_
      refine qe_thenC ?_
      refine ce_text (tab := []) (soft := 3) (.op 0 (.op 1 .nil)) rfl rfl ?_
      first | refine re_add rfl rfl rfl rfl rfl rfl (by omega) ?_ | refine re_bin rfl rfl rfl rfl rfl rfl rfl ?_
      refine re_move rfl rfl rfl rfl rfl ?_
      refine re_nil ?_
      refine qe_round (x := (k, a, c)) (k + 1, a', c') ?_ ?_ ?_
      · first | (dsimp only; omega) | omega
      · exact (And.intro rfl (And.intro rfl (And.intro rfl (And.intro rfl trivial))))
      ·
        refine ⟨?_, by omega⟩
        have H2 := H.tail
        rw [unlike_new hlt (by simpa using h1)]
        simpa using H2
    · try simp only [zn1, zn2, zn3, zn4, zn5, zn6] at h1
      refine ce_skip ?_
      refine qe_block_norm ?_
      refine qe_thenC ?_
      refine ce_text (tab := []) (soft := 3) (.op 0 (.op 1 .nil)) rfl rfl ?_
      first | refine re_add rfl rfl rfl rfl rfl rfl (by omega) ?_ | refine re_bin rfl rfl rfl rfl rfl rfl rfl ?_
      refine re_move rfl rfl rfl rfl rfl ?_
      refine re_nil ?_
      refine qe_round (x := (k, a, c)) (k + 1, a, c) ?_ ?_ ?_
      · first | (dsimp only; omega) | omega
      · exact (And.intro rfl (And.intro rfl (And.intro rfl (And.intro rfl trivial))))
      ·
        refine ⟨?_, by omega⟩
        rw [unlike_old hlt (by simpa using h1)]
        exact H
  · try simp only [zn1, zn2, zn3, zn4, zn5, zn6] at h0
    refine ce_exit ?_
    refine qe_then_exit ?_
    refine qe_then_exit ?_
    refine qe_block_exit ?_
    refine qe_thenC ?_
    refine ce_seq ?_
    refine ce_text (tab := []) (soft := 3) (.op 0 (.op 1 .nil)) rfl rfl ?_
    refine re_move rfl rfl rfl rfl rfl ?_
    refine re_assign rfl rfl rfl rfl rfl ?_
    refine re_nil ?_
    refine qe_thenC ?_
    refine ce_ret ?_
    refine qe_end rfl rfl ?_
    obtain rfl : k = xs.length := by omega
    rw [List.take_length] at H
    exact ⟨_, _, _, _, rfl, H.perm (.swap _ _ _)⟩

theorem tnewM {B w : World} {F : List Ent} {sa : Option Addr} {sc : Nat} {xs : List Int} {need : Int} (hS : Sees B F sa xs.length 1 (ints xs)) (H : Own B F w) (hn : xs.length ≤ 1000000) :
    Calls Try.prog 69 #[.slice sa xs.length sc, .int .i64 need] w fun e w' => ∃ t a c m, e = .returned (.pointer (some ⟨t, 0, none⟩)) ∧ Own B (.cells t 145 [slv a (unlike xs).length c, .int .i64 need, .map (some m)] :: .row a c 3 1 (unlike xs).length (ints (unlike xs)) :: .imap m [] :: F) w' := by
  refine calls_ce (args := [.slice sa xs.length sc, .int .i64 need]) Try.func69 rfl rfl ?_
  change CE _ _ 37 _ _ [(0, .slice sa xs.length sc), (1, .int .i64 need)] _
  refine ce_seq ?_
  refine ce_text (tab := []) (soft := 1) (.op 0 .nil) rfl rfl ?_
  refine re_assign rfl rfl rfl rfl rfl ?_
  refine re_nil ?_
  refine qe_thenC ?_
  refine ce_seq ?_
  refine ce_text (tab := []) (soft := 21) (.op 0 (.op 1 (.op 2 (.op 3 (.op 4 .nil))))) rfl rfl ?_
  refine re_move rfl rfl rfl rfl rfl ?_
  refine re_makeMap H rfl rfl rfl rfl ?_
  intro g9 w H
  refine ⟨(fun h => (nomatch h)), ?_⟩
  refine re_build rfl rfl rfl rfl rfl ze_145 pl_145 (by simp only [fillL, setMany, Value.cells, List.getElem?_cons_zero, List.getElem?_cons_succ, List.length_cons, List.length_nil, List.set_cons_zero, List.set_cons_succ, Nat.reduceAdd, Nat.reduceLeDiff, Nat.zero_add, and_self, ↓reduceIte]; rfl) ?_
  refine re_box H rfl rfl rfl rfl rfl rfl ?_
  intro g11 w H
  refine ⟨(fun h => (nomatch h)), ?_⟩
  refine re_assign rfl rfl rfl rfl rfl ?_
  refine re_nil ?_
  refine qe_thenC ?_
  refine ce_seq ?_
  refine ce_seq ?_
  refine ce_text (tab := []) (soft := 7) (.op 0 (.op 1 (.op 2 .nil))) rfl rfl ?_
  refine re_move rfl rfl rfl rfl rfl ?_
  refine re_len rfl rfl rfl rfl rfl ul_31 ?_
  refine re_move rfl rfl rfl rfl rfl ?_
  refine re_nil ?_
  refine qe_thenC ?_
  refine ce_block ?_
  have H0 := H.nil_row 3 1
  refine ce_loop (α := Nat × (Option Nat) × Nat) (fun ⟨k, a, c⟩ => [(5, .pointer (some ⟨g11, 0, none⟩)), (12, .slice sa xs.length sc), (13, .int .i64 (xs.length : Int)), (14, .int .i64 (k : Int))]) (fun ⟨k, a, c⟩ w => Own B (.row a c 3 1 (unlike (xs.take k)).length (ints (unlike (xs.take k))) :: .cells g11 145 [slv a (unlike (xs.take k)).length c, .int .i64 need, .map (some g9)] :: .imap g9 [] :: F) w ∧ k ≤ xs.length) (fun ⟨k, a, c⟩ => xs.length - k) (0, none, 0) (And.intro rfl (And.intro rfl (And.intro rfl (And.intro rfl trivial)))) ⟨H0, Nat.zero_le _⟩ ?_
  rintro ⟨k, a, c⟩ w HW
  obtain ⟨H, hk⟩ := HW
  change CE _ _ _ _ _ [(5, .pointer (some ⟨g11, 0, none⟩)), (12, .slice sa xs.length sc), (13, .int .i64 (xs.length : Int)), (14, .int .i64 (k : Int))] _
  have hul := unlike_length (xs.take k)
  have htl := List.length_take_le k xs
  refine ce_seq ?_
  refine ce_text (tab := []) (soft := 1) (.op 0 .nil) rfl rfl ?_
  refine re_bin rfl rfl rfl rfl rfl rfl rfl ?_
  refine re_nil ?_
  refine qe_thenC ?_
  refine ce_seq ?_
  refine ce_cond rfl (fun h0 => ?_) (fun h0 => ?_)
  · try simp only [zn1, zn2, zn3, zn4, zn5, zn6] at h0
    refine ce_skip ?_
    refine qe_thenC ?_
    refine ce_seq ?_
    refine ce_block ?_
    refine ce_seq ?_
    refine ce_text (tab := []) (soft := 7) (.op 0 (.op 1 (.op 2 .nil))) rfl rfl ?_
    have hlt : k < xs.length := by omega
    obtain ⟨ad, rfl, hA⟩ := hS.open_ H.to (by omega)
    refine re_index rfl rfl rfl rfl rfl rfl ul_31 ei_31 (by omega) (by omega) ?_
    refine re_loadW rfl rfl rfl rfl rfl (run_loadAt_one sh_3 (hA.int H hlt)) ?_
    refine re_assign rfl rfl rfl rfl rfl ?_
    refine re_nil ?_
    refine qe_thenC ?_
    refine ce_seq ?_
    refine ce_text (tab := []) (soft := 95) (.op 0 (.op 1 (.op 2 (.op 3 (.op 4 (.op 5 (.op 6 .nil))))))) rfl rfl ?_
    refine re_move rfl rfl rfl rfl rfl ?_
    refine re_nilc rfl rfl rfl rfl rfl ?_
    first | refine re_field0 rfl rfl rfl rfl rfl fo_145_0 ?_ | refine re_field rfl rfl rfl rfl rfl fo_145_0 ?_ | refine re_fieldA rfl rfl rfl rfl rfl fo_145_0 ?_
    refine re_load H rfl rfl rfl rfl rfl sh_31 rfl ?_
    refine re_move rfl rfl rfl rfl rfl ?_
    refine re_call en_50 rfl rfl rfl rfl rfl ?_
    refine Calls.mono (contains_s (F := _ :: _) (Sees.of_row (.head _) H) H (by omega)) ?_
    rintro e w ⟨rfl, H⟩
    refine ⟨_, rfl, (fun h => (nomatch h)), ?_⟩
    refine re_not rfl rfl rfl rfl rfl ?_
    refine re_nil ?_
    refine qe_thenC ?_
    refine ce_cond rfl (fun h1 => ?_) (fun h1 => ?_)
    · try simp only [zn1, zn2, zn3, zn4, zn5, zn6] at h1
      refine ce_text (tab := []) (soft := 831) (.op 0 (.op 1 (.op 2 (.op 3 (.op 4 (.op 5 (.op 6 (.op 7 (.op 8 (.op 9 (.op 10 .nil))))))))))) rfl rfl ?_
      refine re_move rfl rfl rfl rfl rfl ?_
      refine re_move rfl rfl rfl rfl rfl ?_
      refine re_nilc rfl rfl rfl rfl rfl ?_
      first | refine re_field0 rfl rfl rfl rfl rfl fo_145_0 ?_ | refine re_field rfl rfl rfl rfl rfl fo_145_0 ?_ | refine re_fieldA rfl rfl rfl rfl rfl fo_145_0 ?_
      refine re_load H rfl rfl rfl rfl rfl sh_31 rfl ?_
      refine re_move rfl rfl rfl rfl rfl ?_
      refine re_slice1 H rfl rfl rfl rfl rfl rfl ul_31 ei_31 ze_3 rfl rfl rfl (by decide) ?_
      intro g31 w H
      refine ⟨(fun h => (nomatch h)), ?_⟩
      refine re_append H rfl rfl rfl rfl rfl rfl ul_31 ei_31 ze_3 rfl (by decide) (src_cells H rfl) rfl (by omega) (by simp only [maxLen]; omega) ?_
      intro a' c' w H _
      simp only [List.set_cons_zero, List.set_cons_succ] at H
      refine ⟨(fun h => (nomatch h)), ?_⟩
      refine re_nilc rfl rfl rfl rfl rfl ?_
      first | refine re_field0 rfl rfl rfl rfl rfl fo_145_0 ?_ | refine re_field rfl rfl rfl rfl rfl fo_145_0 ?_ | refine re_fieldA rfl rfl rfl rfl rfl fo_145_0 ?_
      refine re_store H rfl rfl rfl rfl rfl rfl sh_31 rfl rfl rfl ?_
      intro cs w hcs H
      first | rw [setMany_whole rfl] at hcs | simp only [setMany, List.set_cons_zero, List.set_cons_succ, Nat.reduceAdd, Nat.zero_add, PS.cells, PS.over, GM.cells, Cmd.cells, List.cons_append, List.nil_append] at hcs
      subst hcs
      refine ⟨(fun h => (nomatch h)), ?_⟩
      refine re_nil ?_
      refine qe_block_norm ?_
      refine qe_thenC ?_
      refine ce_text (tab := []) (soft := 3) (.op 0 (.op 1 .nil)) rfl rfl ?_
      first | refine re_add rfl rfl rfl rfl rfl rfl (by omega) ?_ | refine re_bin rfl rfl rfl rfl rfl rfl rfl ?_
      refine re_move rfl rfl rfl rfl rfl ?_
      refine re_nil ?_
      refine qe_round (x := (k, a, c)) (k + 1, a', c') ?_ ?_ ?_
      · first | (dsimp only; omega) | omega
      · exact (And.intro rfl (And.intro rfl (And.intro rfl (And.intro rfl trivial))))
      ·
        refine ⟨?_, by omega⟩
        have H2 := H.tail
        rw [unlike_new hlt (by simpa using h1)]
        simpa using H2
    · try simp only [zn1, zn2, zn3, zn4, zn5, zn6] at h1
      refine ce_skip ?_
      refine qe_block_norm ?_
      refine qe_thenC ?_
      refine ce_text (tab := []) (soft := 3) (.op 0 (.op 1 .nil)) rfl rfl ?_
      first | refine re_add rfl rfl rfl rfl rfl rfl (by omega) ?_ | refine re_bin rfl rfl rfl rfl rfl rfl rfl ?_
      refine re_move rfl rfl rfl rfl rfl ?_
      refine re_nil ?_
      refine qe_round (x := (k, a, c)) (k + 1, a, c) ?_ ?_ ?_
      · first | (dsimp only; omega) | omega
      · exact (And.intro rfl (And.intro rfl (And.intro rfl (And.intro rfl trivial))))
      ·
        refine ⟨?_, by omega⟩
        rw [unlike_old hlt (by simpa using h1)]
        exact H
  · try simp only [zn1, zn2, zn3, zn4, zn5, zn6] at h0
    refine ce_exit ?_
    refine qe_then_exit ?_
    refine qe_then_exit ?_
    refine qe_block_exit ?_
    refine qe_thenC ?_
    refine ce_seq ?_
    refine ce_text (tab := []) (soft := 3) (.op 0 (.op 1 .nil)) rfl rfl ?_
    refine re_move rfl rfl rfl rfl rfl ?_
    refine re_assign rfl rfl rfl rfl rfl ?_
    refine re_nil ?_
    refine qe_thenC ?_
    refine ce_ret ?_
    refine qe_end rfl rfl ?_
    obtain rfl : k = xs.length := by omega
    rw [List.take_length] at H
    exact ⟨_, _, _, _, rfl, H.perm (.swap _ _ _)⟩
end Go.Proofs.Ytofaoblfemfkiaa

namespace Go.Proofs.Ytofaoblfemfkiaa
open Go Go.RowKit Go.Fw
set_option linter.unusedSimpArgs false
set_option linter.unusedVariables false
set_option maxRecDepth 4000
set_option maxHeartbeats 2000000
theorem en_81 : Enterable Try.prog 81 := ⟨Try.f81, Try.func81, rfl, by decide⟩
theorem en_82 : Enterable Try.prog 82 := ⟨Try.f82, Try.func82, rfl, by decide⟩
theorem fo_109_1 : fOff Try.prog 109 1 = some 1 := by kernel_rfl
theorem fo_109_2 : fOff Try.prog 109 2 = some 2 := by kernel_rfl
theorem fo_145_1 : fOff Try.prog 145 1 = some 1 := by kernel_rfl
theorem fo_145_2 : fOff Try.prog 145 2 = some 2 := by kernel_rfl
theorem sh_107 : shapeOf Try.prog 107 = some (false, 1) := by kernel_rfl
theorem sh_143 : shapeOf Try.prog 143 = some (false, 1) := by kernel_rfl
theorem sh_46 : shapeOf Try.prog 46 = some (true, 30) := by kernel_rfl
theorem ul_107 : Try.prog.underlying 107 = some (.map 3 4) := by kernel_rfl
theorem ul_143 : Try.prog.underlying 143 = some (.map 3 46) := by kernel_rfl
theorem ul_3 : Try.prog.underlying 3 = some (.int .i64) := by kernel_rfl
theorem ze_46 : zeroC Try.prog 46 = some [.int .i64 0, .bool false, .int .i64 0, .bool false, .int .i64 0, .int .i64 0, .int .i64 0, .int .i64 0, .int .i64 0, .int .i64 0, .int .i64 0, .int .i64 0, .int .i64 0, .int .i64 0, .int .i64 0, .slice none 0 0, .int .i64 0, .int .i64 0, .int .i64 0, .string ByteArray.empty, .int .i64 0, .int .i64 0, .int .i64 0, .int .i64 0, .int .i64 0, .int .i64 0, .slice none 0 0, .slice none 0 0, .slice none 0 0, .bool false] := by kernel_rfl
theorem zv_4 : zeroV Try.prog 4 = some (.bool false) := by kernel_rfl
theorem zv_46 : zeroV Try.prog 46 = some (.agg #[.int .i64 0, .bool false, .int .i64 0, .bool false, .int .i64 0, .int .i64 0, .int .i64 0, .int .i64 0, .int .i64 0, .int .i64 0, .int .i64 0, .int .i64 0, .int .i64 0, .int .i64 0, .int .i64 0, .slice none 0 0, .int .i64 0, .int .i64 0, .int .i64 0, .string ByteArray.empty, .int .i64 0, .int .i64 0, .int .i64 0, .int .i64 0, .int .i64 0, .int .i64 0, .slice none 0 0, .slice none 0 0, .slice none 0 0, .bool false]) := by kernel_rfl

theorem enoughB {B w : World} {F : List Ent} {t m : Nat} {a : Option Nat} {c : Nat} {gs : List Int} {need : Int} {kvs : List (Int × Value)} (H : Own B (.cells t 109 [slv a gs.length c, .int .i64 need, .map (some m)] :: .row a c 3 1 gs.length (ints gs) :: .imap m kvs :: F) w) :
    Calls Try.prog 81 #[.pointer (some ⟨t, 0, none⟩)] w fun e w' => e = .returned (.bool (decide (need ≤ (kvs.length : Int)))) ∧ Own B (.cells t 109 [slv a gs.length c, .int .i64 need, .map (some m)] :: .row a c 3 1 gs.length (ints gs) :: .imap m kvs :: F) w' := by
  refine calls_ce (args := [.pointer (some ⟨t, 0, none⟩)]) Try.func81 rfl rfl ?_
  change CE _ _ 13 _ _ [(0, .pointer (some ⟨t, 0, none⟩))] _
  refine ce_seq ?_
  refine ce_text (tab := []) (soft := 1) (.op 0 .nil) rfl rfl ?_
  refine re_assign rfl rfl rfl rfl rfl ?_
  refine re_nil ?_
  refine qe_thenC ?_
  refine ce_seq ?_
  refine ce_open (tab := [0, 1, 3, 7, 15, 0, 32, 96, 224, 511, 1023]) (soft := 2047) mixed (.op 0 (.op 1 (.op 2 (.op 3 (.op 4 (.op 5 (.op 6 (.op 7 (.op 8 (.op 9 (.op 10 .nil))))))))))) (by kernel_rfl) H ?_
  intro w H
  refine re_move rfl rfl rfl rfl rfl ?_
  refine re_nilc rfl rfl rfl rfl rfl ?_
  first | refine re_field0 rfl rfl rfl rfl rfl fo_109_2 ?_ | refine re_field rfl rfl rfl rfl rfl fo_109_2 ?_ | refine re_fieldA rfl rfl rfl rfl rfl fo_109_2 ?_
  refine re_load H rfl rfl rfl rfl rfl sh_107 rfl ?_
  refine re_lenM H rfl rfl rfl rfl rfl ul_107 ?_
  refine re_move rfl rfl rfl rfl rfl ?_
  refine re_nilc rfl rfl rfl rfl rfl ?_
  first | refine re_field0 rfl rfl rfl rfl rfl fo_109_1 ?_ | refine re_field rfl rfl rfl rfl rfl fo_109_1 ?_ | refine re_fieldA rfl rfl rfl rfl rfl fo_109_1 ?_
  refine re_load H rfl rfl rfl rfl rfl sh_3 rfl ?_
  refine re_bin rfl rfl rfl rfl rfl rfl rfl ?_
  refine re_assign rfl rfl rfl rfl rfl ?_
  refine re_nil ?_
  refine qe_noPanic ?_
  refine qe_thenC ?_
  refine ce_ret ?_
  refine qe_end rfl rfl ?_
  exact ⟨rfl, H⟩

theorem missingB {B w : World} {F : List Ent} {t m : Nat} {a : Option Nat} {c : Nat} {gs : List Int} {need : Int} {kvs : List (Int × Value)} (H : Own B (.cells t 109 [slv a gs.length c, .int .i64 need, .map (some m)] :: .row a c 3 1 gs.length (ints gs) :: .imap m kvs :: F) w) (hn : gs.length ≤ 1000000) :
    Calls Try.prog 20 #[.pointer (some ⟨t, 0, none⟩)] w fun e w' => ∃ a2 c2, e = .returned (slv a2 (missing gs kvs).length c2) ∧ Own B (.row a2 c2 3 1 (missing gs kvs).length (ints (missing gs kvs)) :: .cells t 109 [slv a gs.length c, .int .i64 need, .map (some m)] :: .row a c 3 1 gs.length (ints gs) :: .imap m kvs :: F) w' := by
  refine calls_ce (args := [.pointer (some ⟨t, 0, none⟩)]) Try.func20 rfl rfl ?_
  change CE _ _ 34 _ _ [(0, .pointer (some ⟨t, 0, none⟩))] _
  refine ce_seq ?_
  refine ce_text (tab := []) (soft := 1) (.op 0 .nil) rfl rfl ?_
  refine re_assign rfl rfl rfl rfl rfl ?_
  refine re_nil ?_
  refine qe_thenC ?_
  refine ce_seq ?_
  refine ce_text (tab := []) (soft := 1) (.op 0 .nil) rfl rfl ?_
  refine re_assign rfl rfl rfl rfl rfl ?_
  refine re_nil ?_
  refine qe_thenC ?_
  refine ce_seq ?_
  refine ce_seq ?_
  refine ce_text (tab := []) (soft := 63) (.op 0 (.op 1 (.op 2 (.op 3 (.op 4 (.op 5 .nil)))))) rfl rfl ?_
  refine re_move rfl rfl rfl rfl rfl ?_
  refine re_nilc rfl rfl rfl rfl rfl ?_
  first | refine re_field0 rfl rfl rfl rfl rfl fo_109_0 ?_ | refine re_field rfl rfl rfl rfl rfl fo_109_0 ?_ | refine re_fieldA rfl rfl rfl rfl rfl fo_109_0 ?_
  refine re_load H rfl rfl rfl rfl rfl sh_31 rfl ?_
  refine re_len rfl rfl rfl rfl rfl ul_31 ?_
  refine re_move rfl rfl rfl rfl rfl ?_
  refine re_nil ?_
  refine qe_thenC ?_
  refine ce_block ?_
  refine ce_loop (α := Nat × (Option Nat) × Nat × Nat) (fun ⟨k, a2, c2, nn⟩ => [(0, .pointer (some ⟨t, 0, none⟩)), (3, slv a2 nn c2), (11, slv a gs.length c), (12, .int .i64 (gs.length : Int)), (13, .int .i64 (k : Int))]) (fun ⟨k, a2, c2, nn⟩ w => Own B (.row a2 c2 3 1 nn (ints (missing (gs.take k) kvs)) :: .cells t 109 [slv a gs.length c, .int .i64 need, .map (some m)] :: .row a c 3 1 gs.length (ints gs) :: .imap m kvs :: F) w ∧ k ≤ gs.length) (fun ⟨k, a2, c2, nn⟩ => gs.length - k) (0, none, 0, 0) (And.intro rfl (And.intro rfl (And.intro rfl (And.intro rfl (And.intro rfl trivial))))) ⟨H.nil_row 3 1, Nat.zero_le _⟩ ?_
  rintro ⟨k, a2, c2, nn⟩ w HW
  obtain ⟨H, hk⟩ := HW
  change CE _ _ _ _ _ [(0, .pointer (some ⟨t, 0, none⟩)), (3, slv a2 nn c2), (11, slv a gs.length c), (12, .int .i64 (gs.length : Int)), (13, .int .i64 (k : Int))] _
  have hul := missing_length (gs.take k) kvs
  have htl := List.length_take_le k gs
  have hrl := H.row_len (List.mem_cons_self ..)
  simp only [List.length_map, Nat.mul_one] at hrl
  refine ce_seq ?_
  refine ce_text (tab := []) (soft := 1) (.op 0 .nil) rfl rfl ?_
  refine re_bin rfl rfl rfl rfl rfl rfl rfl ?_
  refine re_nil ?_
  refine qe_thenC ?_
  refine ce_seq ?_
  refine ce_cond rfl (fun h0 => ?_) (fun h0 => ?_)
  · try simp only [zn1, zn2, zn3, zn4, zn5, zn6] at h0
    refine ce_skip ?_
    refine qe_thenC ?_
    refine ce_seq ?_
    refine ce_block ?_
    refine ce_seq ?_
    refine ce_text (tab := []) (soft := 7) (.op 0 (.op 1 (.op 2 .nil))) rfl rfl ?_
    have hlt : k < gs.length := by omega
    obtain ⟨ga, rfl⟩ := H.rsome a (by omega)
    refine re_index rfl rfl rfl rfl rfl rfl ul_31 ei_31 (by omega) (by omega) ?_
    refine re_loadW rfl rfl rfl rfl rfl (run_loadAt_one sh_3 (H.rint hlt)) ?_
    refine re_assign rfl rfl rfl rfl rfl ?_
    refine re_nil ?_
    refine qe_thenC ?_
    refine ce_seq ?_
    refine ce_text (tab := []) (soft := 2047) (.op 0 (.op 1 (.op 2 (.op 3 (.op 4 (.op 5 (.op 6 (.op 7 (.op 8 (.op 9 (.op 10 .nil))))))))))) rfl rfl ?_
    refine re_move rfl rfl rfl rfl rfl ?_
    refine re_nilc rfl rfl rfl rfl rfl ?_
    first | refine re_field0 rfl rfl rfl rfl rfl fo_109_2 ?_ | refine re_field rfl rfl rfl rfl rfl fo_109_2 ?_ | refine re_fieldA rfl rfl rfl rfl rfl fo_109_2 ?_
    refine re_load H rfl rfl rfl rfl rfl sh_107 rfl ?_
    refine re_move rfl rfl rfl rfl rfl ?_
    refine re_lookup H rfl rfl rfl rfl rfl rfl ul_107 ul_3 zv_4 ?_
    refine re_move rfl rfl rfl rfl rfl ?_
    refine re_extract rfl rfl rfl rfl rfl rfl ?_
    refine re_extract rfl rfl rfl rfl rfl rfl ?_
    refine re_assign rfl rfl rfl rfl rfl ?_
    refine re_assign rfl rfl rfl rfl rfl ?_
    refine re_nil ?_
    refine qe_thenC ?_
    refine ce_seq ?_
    refine ce_text (tab := []) (soft := 3) (.op 0 (.op 1 .nil)) rfl rfl ?_
    refine re_move rfl rfl rfl rfl rfl ?_
    refine re_not rfl rfl rfl rfl rfl ?_
    refine re_nil ?_
    refine qe_thenC ?_
    refine ce_cond rfl (fun h1 => ?_) (fun h1 => ?_)
    · try simp only [zn1, zn2, zn3, zn4, zn5, zn6] at h1
      refine ce_text (tab := []) (soft := 19) (.op 0 (.op 1 (.op 2 (.op 3 (.op 4 .nil))))) rfl rfl ?_
      refine re_move rfl rfl rfl rfl rfl ?_
      refine re_move rfl rfl rfl rfl rfl ?_
      refine re_slice1 H rfl rfl rfl rfl rfl rfl ul_31 ei_31 ze_3 rfl rfl rfl (by decide) ?_
      intro g30 w H
      refine ⟨(fun h => (nomatch h)), ?_⟩
      refine re_append H rfl rfl rfl rfl rfl rfl ul_31 ei_31 ze_3 rfl (by decide) (src_cells H rfl) rfl (by omega) (by simp only [maxLen]; omega) ?_
      intro a' c' w H _
      simp only [List.set_cons_zero, List.set_cons_succ] at H
      refine ⟨(fun h => (nomatch h)), ?_⟩
      refine re_assign rfl rfl rfl rfl rfl ?_
      refine re_nil ?_
      refine qe_block_norm ?_
      refine qe_thenC ?_
      refine ce_text (tab := []) (soft := 3) (.op 0 (.op 1 .nil)) rfl rfl ?_
      first | refine re_add rfl rfl rfl rfl rfl rfl (by omega) ?_ | refine re_bin rfl rfl rfl rfl rfl rfl rfl ?_
      refine re_move rfl rfl rfl rfl rfl ?_
      refine re_nil ?_
      refine qe_round (x := (k, a2, c2, nn)) (k + 1, a', c', nn + 1) ?_ ?_ ?_
      · first | (dsimp only; omega) | omega
      · exact (And.intro rfl (And.intro rfl (And.intro rfl (And.intro rfl (And.intro rfl trivial)))))
      ·
        refine ⟨?_, by omega⟩
        have H2 := H.tail
        rw [missing_new hlt h1]
        simpa using H2
    · try simp only [zn1, zn2, zn3, zn4, zn5, zn6] at h1
      refine ce_skip ?_
      refine qe_block_norm ?_
      refine qe_thenC ?_
      refine ce_text (tab := []) (soft := 3) (.op 0 (.op 1 .nil)) rfl rfl ?_
      first | refine re_add rfl rfl rfl rfl rfl rfl (by omega) ?_ | refine re_bin rfl rfl rfl rfl rfl rfl rfl ?_
      refine re_move rfl rfl rfl rfl rfl ?_
      refine re_nil ?_
      refine qe_round (x := (k, a2, c2, nn)) (k + 1, a2, c2, nn) ?_ ?_ ?_
      · first | (dsimp only; omega) | omega
      · exact (And.intro rfl (And.intro rfl (And.intro rfl (And.intro rfl (And.intro rfl trivial)))))
      ·
        refine ⟨?_, by omega⟩
        rw [missing_old hlt h1]
        exact H
  · try simp only [zn1, zn2, zn3, zn4, zn5, zn6] at h0
    refine ce_exit ?_
    refine qe_then_exit ?_
    refine qe_then_exit ?_
    refine qe_block_exit ?_
    refine qe_thenC ?_
    refine ce_seq ?_
    refine ce_text (tab := []) (soft := 3) (.op 0 (.op 1 .nil)) rfl rfl ?_
    refine re_move rfl rfl rfl rfl rfl ?_
    refine re_assign rfl rfl rfl rfl rfl ?_
    refine re_nil ?_
    refine qe_thenC ?_
    refine ce_ret ?_
    refine qe_end rfl rfl ?_
    obtain rfl : k = gs.length := by omega
    rw [List.take_length] at H hrl
    subst hrl
    exact ⟨_, _, rfl, H⟩

theorem takeB {B w : World} {F : List Ent} {t m : Nat} {a : Option Nat} {c : Nat} {gs : List Int} {need : Int} {kvs : List (Int × Value)} {v : Int} {x : Bool} (H : Own B (.cells t 109 [slv a gs.length c, .int .i64 need, .map (some m)] :: .row a c 3 1 gs.length (ints gs) :: .imap m kvs :: F) w) (hn : gs.length ≤ 1000000) :
    Calls Try.prog 71 #[.pointer (some ⟨t, 0, none⟩), .int .i64 v, .bool x] w fun e w' => e = .returned (.bool (takes gs need kvs v (.bool x))) ∧ Own B (.cells t 109 [slv a gs.length c, .int .i64 need, .map (some m)] :: .row a c 3 1 gs.length (ints gs) :: .imap m (takeK gs need kvs v (.bool x)) :: F) w' := by
  refine calls_ce (args := [.pointer (some ⟨t, 0, none⟩), .int .i64 v, .bool x]) Try.func71 rfl rfl ?_
  change CE _ _ 40 _ _ [(0, .pointer (some ⟨t, 0, none⟩)), (1, .int .i64 v), (2, .bool x)] _
  refine ce_seq ?_
  refine ce_text (tab := []) (soft := 1) (.op 0 .nil) rfl rfl ?_
  refine re_assign rfl rfl rfl rfl rfl ?_
  refine re_nil ?_
  refine qe_thenC ?_
  refine ce_seq ?_
  refine ce_seq ?_
  refine ce_text (tab := []) (soft := 2047) (.op 0 (.op 1 (.op 2 (.op 3 (.op 4 (.op 5 (.op 6 (.op 7 (.op 8 (.op 9 (.op 10 .nil))))))))))) rfl rfl ?_
  refine re_move rfl rfl rfl rfl rfl ?_
  refine re_nilc rfl rfl rfl rfl rfl ?_
  first | refine re_field0 rfl rfl rfl rfl rfl fo_109_2 ?_ | refine re_field rfl rfl rfl rfl rfl fo_109_2 ?_ | refine re_fieldA rfl rfl rfl rfl rfl fo_109_2 ?_
  refine re_load H rfl rfl rfl rfl rfl sh_107 rfl ?_
  refine re_move rfl rfl rfl rfl rfl ?_
  refine re_lookup H rfl rfl rfl rfl rfl rfl ul_107 ul_3 zv_4 ?_
  refine re_move rfl rfl rfl rfl rfl ?_
  refine re_extract rfl rfl rfl rfl rfl rfl ?_
  refine re_extract rfl rfl rfl rfl rfl rfl ?_
  refine re_assign rfl rfl rfl rfl rfl ?_
  refine re_assign rfl rfl rfl rfl rfl ?_
  refine re_nil ?_
  refine qe_thenC ?_
  refine ce_seq ?_
  refine ce_text (tab := []) (soft := 14327) (.op 0 (.op 1 (.op 2 (.op 3 (.op 4 (.op 5 (.op 6 (.op 7 (.op 8 (.op 9 (.op 10 (.op 11 (.op 12 (.op 13 .nil)))))))))))))) rfl rfl ?_
  refine re_move rfl rfl rfl rfl rfl ?_
  refine re_move rfl rfl rfl rfl rfl ?_
  refine re_split (fun hg2_1 => ?_) (fun hg2_1 => ?_)
  ·
    refine re_skip1 rfl rfl rfl ?_
    refine re_skip1 rfl rfl rfl ?_
    refine re_pickT rfl rfl rfl rfl rfl rfl ?_
    refine re_move rfl rfl rfl rfl rfl ?_
    refine re_skip1 rfl rfl rfl ?_
    refine re_skip1 rfl rfl rfl ?_
    refine re_skip1 rfl rfl rfl ?_
    refine re_skip1 rfl rfl rfl ?_
    refine re_skip1 rfl rfl rfl ?_
    refine re_skip1 rfl rfl rfl ?_
    refine re_skip1 rfl rfl rfl ?_
    refine re_pickT rfl rfl rfl rfl rfl rfl ?_
    refine re_nil ?_
    refine qe_thenC ?_
    refine ce_condT rfl ?_
    refine ce_seq ?_
    refine ce_text (tab := []) (soft := 1) (.op 0 .nil) rfl rfl ?_
    refine re_assign rfl rfl rfl rfl rfl ?_
    refine re_nil ?_
    refine qe_thenC ?_
    refine ce_ret ?_
    refine qe_then_ret ?_
    refine qe_end rfl rfl ?_
    have hc : counts gs need kvs v = false := counts_no1 hg2_1
    rw [takeK_no hc, takes_no hc]; exact ⟨rfl, H.to⟩
  ·
    refine re_move rfl rfl rfl rfl rfl ?_
    refine re_call en_81 rfl rfl rfl rfl rfl ?_
    refine Calls.mono (enoughB H) ?_
    rintro e w ⟨rfl, H⟩
    refine ⟨_, rfl, (fun h => (nomatch h)), ?_⟩
    refine re_pickF rfl rfl rfl rfl rfl rfl ?_
    refine re_move rfl rfl rfl rfl rfl ?_
    refine re_split (fun hg2_5 => ?_) (fun hg2_5 => ?_)
    ·
      refine re_skip1 rfl rfl rfl ?_
      refine re_skip1 rfl rfl rfl ?_
      refine re_skip1 rfl rfl rfl ?_
      refine re_skip1 rfl rfl rfl ?_
      refine re_skip1 rfl rfl rfl ?_
      refine re_skip1 rfl rfl rfl ?_
      refine re_skip1 rfl rfl rfl ?_
      refine re_pickT rfl rfl rfl rfl rfl rfl ?_
      refine re_nil ?_
      refine qe_thenC ?_
      refine ce_condT rfl ?_
      refine ce_seq ?_
      refine ce_text (tab := []) (soft := 1) (.op 0 .nil) rfl rfl ?_
      refine re_assign rfl rfl rfl rfl rfl ?_
      refine re_nil ?_
      refine qe_thenC ?_
      refine ce_ret ?_
      refine qe_then_ret ?_
      refine qe_end rfl rfl ?_
      have hc : counts gs need kvs v = false := counts_no2 hg2_5
      rw [takeK_no hc, takes_no hc]; exact ⟨rfl, H.to⟩
    ·
      refine re_move rfl rfl rfl rfl rfl ?_
      refine re_nilc rfl rfl rfl rfl rfl ?_
      first | refine re_field0 rfl rfl rfl rfl rfl fo_109_0 ?_ | refine re_field rfl rfl rfl rfl rfl fo_109_0 ?_ | refine re_fieldA rfl rfl rfl rfl rfl fo_109_0 ?_
      refine re_load H rfl rfl rfl rfl rfl sh_31 rfl ?_
      refine re_move rfl rfl rfl rfl rfl ?_
      refine re_call en_50 rfl rfl rfl rfl rfl ?_
      refine Calls.mono (contains_s (H.rsees a) H hn) ?_
      rintro e w ⟨rfl, H⟩
      refine ⟨_, rfl, (fun h => (nomatch h)), ?_⟩
      refine re_not rfl rfl rfl rfl rfl ?_
      refine re_pickF rfl rfl rfl rfl rfl rfl ?_
      refine re_nil ?_
      refine qe_thenC ?_
      refine ce_cond rfl (fun h0 => ?_) (fun h0 => ?_)
      · try simp only [zn1, zn2, zn3, zn4, zn5, zn6] at h0
        refine ce_seq ?_
        refine ce_text (tab := []) (soft := 1) (.op 0 .nil) rfl rfl ?_
        refine re_assign rfl rfl rfl rfl rfl ?_
        refine re_nil ?_
        refine qe_thenC ?_
        refine ce_ret ?_
        refine qe_then_ret ?_
        refine qe_end rfl rfl ?_
        have hc : counts gs need kvs v = false := counts_no3 (by simpa using h0)
        rw [takeK_no hc, takes_no hc]; exact ⟨rfl, H.to⟩
      · try simp only [zn1, zn2, zn3, zn4, zn5, zn6] at h0
        refine ce_skip ?_
        refine qe_thenC ?_
        refine ce_seq ?_
        refine ce_text (tab := []) (soft := 63) (.op 0 (.op 1 (.op 2 (.op 3 (.op 4 (.op 5 (.op 6 .nil))))))) rfl rfl ?_
        refine re_move rfl rfl rfl rfl rfl ?_
        refine re_nilc rfl rfl rfl rfl rfl ?_
        first | refine re_field0 rfl rfl rfl rfl rfl fo_109_2 ?_ | refine re_field rfl rfl rfl rfl rfl fo_109_2 ?_ | refine re_fieldA rfl rfl rfl rfl rfl fo_109_2 ?_
        refine re_load H rfl rfl rfl rfl rfl sh_107 rfl ?_
        refine re_move rfl rfl rfl rfl rfl ?_
        refine re_move rfl rfl rfl rfl rfl ?_
        refine re_mapPut H rfl rfl rfl rfl rfl rfl ul_107 ul_3 ?_
        intro w H
        refine ⟨(fun h => (nomatch h)), ?_⟩
        refine re_nil ?_
        refine qe_thenC ?_
        refine ce_seq ?_
        refine ce_text (tab := []) (soft := 5) (.op 0 (.op 1 (.op 2 .nil))) rfl rfl ?_
        refine re_move rfl rfl rfl rfl rfl ?_
        refine re_call en_81 rfl rfl rfl rfl rfl ?_
        refine Calls.mono (enoughB H) ?_
        rintro e w ⟨rfl, H⟩
        refine ⟨_, rfl, (fun h => (nomatch h)), ?_⟩
        refine re_assign rfl rfl rfl rfl rfl ?_
        refine re_nil ?_
        refine qe_thenC ?_
        refine ce_ret ?_
        refine qe_end rfl rfl ?_
        have hc : counts gs need kvs v = true := counts_yes hg2_1 hg2_5 (by simpa using h0)
        rw [takeK_yes hc, takes_yes hc]; exact ⟨rfl, H.to⟩

theorem enoughM {B w : World} {F : List Ent} {t m : Nat} {a : Option Nat} {c : Nat} {gs : List Int} {need : Int} {kvs : List (Int × Value)} (H : Own B (.cells t 145 [slv a gs.length c, .int .i64 need, .map (some m)] :: .row a c 3 1 gs.length (ints gs) :: .imap m kvs :: F) w) :
    Calls Try.prog 82 #[.pointer (some ⟨t, 0, none⟩)] w fun e w' => e = .returned (.bool (decide (need ≤ (kvs.length : Int)))) ∧ Own B (.cells t 145 [slv a gs.length c, .int .i64 need, .map (some m)] :: .row a c 3 1 gs.length (ints gs) :: .imap m kvs :: F) w' := by
  refine calls_ce (args := [.pointer (some ⟨t, 0, none⟩)]) Try.func82 rfl rfl ?_
  change CE _ _ 13 _ _ [(0, .pointer (some ⟨t, 0, none⟩))] _
  refine ce_seq ?_
  refine ce_text (tab := []) (soft := 1) (.op 0 .nil) rfl rfl ?_
  refine re_assign rfl rfl rfl rfl rfl ?_
  refine re_nil ?_
  refine qe_thenC ?_
  refine ce_seq ?_
  refine ce_open (tab := [0, 1, 3, 7, 15, 0, 32, 96, 224, 511, 1023]) (soft := 2047) mixed (.op 0 (.op 1 (.op 2 (.op 3 (.op 4 (.op 5 (.op 6 (.op 7 (.op 8 (.op 9 (.op 10 .nil))))))))))) (by kernel_rfl) H ?_
  intro w H
  refine re_move rfl rfl rfl rfl rfl ?_
  refine re_nilc rfl rfl rfl rfl rfl ?_
  first | refine re_field0 rfl rfl rfl rfl rfl fo_145_2 ?_ | refine re_field rfl rfl rfl rfl rfl fo_145_2 ?_ | refine re_fieldA rfl rfl rfl rfl rfl fo_145_2 ?_
  refine re_load H rfl rfl rfl rfl rfl sh_143 rfl ?_
  refine re_lenM H rfl rfl rfl rfl rfl ul_143 ?_
  refine re_move rfl rfl rfl rfl rfl ?_
  refine re_nilc rfl rfl rfl rfl rfl ?_
  first | refine re_field0 rfl rfl rfl rfl rfl fo_145_1 ?_ | refine re_field rfl rfl rfl rfl rfl fo_145_1 ?_ | refine re_fieldA rfl rfl rfl rfl rfl fo_145_1 ?_
  refine re_load H rfl rfl rfl rfl rfl sh_3 rfl ?_
  refine re_bin rfl rfl rfl rfl rfl rfl rfl ?_
  refine re_assign rfl rfl rfl rfl rfl ?_
  refine re_nil ?_
  refine qe_noPanic ?_
  refine qe_thenC ?_
  refine ce_ret ?_
  refine qe_end rfl rfl ?_
  exact ⟨rfl, H⟩

theorem takeM {B w : World} {F : List Ent} {t m : Nat} {a : Option Nat} {c : Nat} {gs : List Int} {need : Int} {ms : List (Int × GM)} {v : Int} {x : GM} (H : Own B (.cells t 145 [slv a gs.length c, .int .i64 need, .map (some m)] :: .row a c 3 1 gs.length (ints gs) :: .imap m (kvM ms) :: F) w) (hn : gs.length ≤ 1000000) :
    Calls Try.prog 73 #[.pointer (some ⟨t, 0, none⟩), .int .i64 v, .agg x.cells.toArray] w fun e w' => e = .returned (.bool (takes gs need (kvM ms) v (.agg x.cells.toArray))) ∧ Own B (.cells t 145 [slv a gs.length c, .int .i64 need, .map (some m)] :: .row a c 3 1 gs.length (ints gs) :: .imap m (takeK gs need (kvM ms) v (.agg x.cells.toArray)) :: F) w' := by
  refine calls_ce (args := [.pointer (some ⟨t, 0, none⟩), .int .i64 v, .agg x.cells.toArray]) Try.func73 rfl rfl ?_
  change CE _ _ 40 _ _ [(0, .pointer (some ⟨t, 0, none⟩)), (1, .int .i64 v), (2, .agg x.cells.toArray)] _
  refine ce_seq ?_
  refine ce_text (tab := []) (soft := 2) (.op 0 (.op 1 .nil)) rfl rfl ?_
  refine re_box H rfl rfl rfl rfl rfl rfl ?_
  intro g5 w H
  refine ⟨(fun h => (nomatch h)), ?_⟩
  refine re_assign rfl rfl rfl rfl rfl ?_
  refine re_nil ?_
  refine qe_thenC ?_
  refine ce_seq ?_
  refine ce_seq ?_
  refine ce_text (tab := []) (soft := 2559) (.op 0 (.op 1 (.op 2 (.op 3 (.op 4 (.op 5 (.op 6 (.op 7 (.op 8 (.op 9 (.op 10 (.op 11 .nil)))))))))))) rfl rfl ?_
  refine re_move rfl rfl rfl rfl rfl ?_
  refine re_nilc rfl rfl rfl rfl rfl ?_
  first | refine re_field0 rfl rfl rfl rfl rfl fo_145_2 ?_ | refine re_field rfl rfl rfl rfl rfl fo_145_2 ?_ | refine re_fieldA rfl rfl rfl rfl rfl fo_145_2 ?_
  refine re_load H rfl rfl rfl rfl rfl sh_143 rfl ?_
  refine re_move rfl rfl rfl rfl rfl ?_
  refine re_lookup H rfl rfl rfl rfl rfl rfl ul_143 ul_3 zv_46 ?_
  refine re_move rfl rfl rfl rfl rfl ?_
  refine re_extract rfl rfl rfl rfl rfl rfl ?_
  refine re_extract rfl rfl rfl rfl rfl rfl ?_
  obtain ⟨mm, hmm⟩ := kvM_get ms v
  simp only [hmm]
  refine re_alloc H rfl rfl rfl rfl ze_46 ?_
  intro g7 w H
  refine ⟨(fun h => (nomatch h)), ?_⟩
  refine re_store H rfl rfl rfl rfl rfl rfl sh_46 rfl rfl rfl ?_
  intro cs w hcs H
  first | rw [setMany_whole rfl] at hcs | simp only [setMany, List.set_cons_zero, List.set_cons_succ, Nat.reduceAdd, Nat.zero_add, PS.cells, PS.over, GM.cells, Cmd.cells, List.cons_append, List.nil_append] at hcs
  subst hcs
  refine ⟨(fun h => (nomatch h)), ?_⟩
  refine re_assign rfl rfl rfl rfl rfl ?_
  refine re_nil ?_
  refine qe_thenC ?_
  refine ce_seq ?_
  refine ce_text (tab := []) (soft := 14327) (.op 0 (.op 1 (.op 2 (.op 3 (.op 4 (.op 5 (.op 6 (.op 7 (.op 8 (.op 9 (.op 10 (.op 11 (.op 12 (.op 13 .nil)))))))))))))) rfl rfl ?_
  refine re_move rfl rfl rfl rfl rfl ?_
  refine re_move rfl rfl rfl rfl rfl ?_
  refine re_split (fun hg2_1 => ?_) (fun hg2_1 => ?_)
  ·
    refine re_skip1 rfl rfl rfl ?_
    refine re_skip1 rfl rfl rfl ?_
    refine re_pickT rfl rfl rfl rfl rfl rfl ?_
    refine re_move rfl rfl rfl rfl rfl ?_
    refine re_skip1 rfl rfl rfl ?_
    refine re_skip1 rfl rfl rfl ?_
    refine re_skip1 rfl rfl rfl ?_
    refine re_skip1 rfl rfl rfl ?_
    refine re_skip1 rfl rfl rfl ?_
    refine re_skip1 rfl rfl rfl ?_
    refine re_skip1 rfl rfl rfl ?_
    refine re_pickT rfl rfl rfl rfl rfl rfl ?_
    refine re_nil ?_
    refine qe_thenC ?_
    refine ce_condT rfl ?_
    refine ce_seq ?_
    refine ce_text (tab := []) (soft := 1) (.op 0 .nil) rfl rfl ?_
    refine re_assign rfl rfl rfl rfl rfl ?_
    refine re_nil ?_
    refine qe_thenC ?_
    refine ce_ret ?_
    refine qe_then_ret ?_
    refine qe_end rfl rfl ?_
    have hc : counts gs need (kvM ms) v = false := counts_no1 hg2_1
    rw [takeK_no hc, takes_no hc]; exact ⟨rfl, H.to⟩
  ·
    refine re_move rfl rfl rfl rfl rfl ?_
    refine re_call en_82 rfl rfl rfl rfl rfl ?_
    have H := Own.arr [4, 4, 4] H
    simp only [arrs, Fw.front, zm1, zm2, zm3, zm4, zm5] at H
    refine Calls.mono (enoughM H) ?_
    rintro e w ⟨rfl, H⟩
    refine ⟨_, rfl, (fun h => (nomatch h)), ?_⟩
    refine re_pickF rfl rfl rfl rfl rfl rfl ?_
    refine re_move rfl rfl rfl rfl rfl ?_
    refine re_split (fun hg2_5 => ?_) (fun hg2_5 => ?_)
    ·
      refine re_skip1 rfl rfl rfl ?_
      refine re_skip1 rfl rfl rfl ?_
      refine re_skip1 rfl rfl rfl ?_
      refine re_skip1 rfl rfl rfl ?_
      refine re_skip1 rfl rfl rfl ?_
      refine re_skip1 rfl rfl rfl ?_
      refine re_skip1 rfl rfl rfl ?_
      refine re_pickT rfl rfl rfl rfl rfl rfl ?_
      refine re_nil ?_
      refine qe_thenC ?_
      refine ce_condT rfl ?_
      refine ce_seq ?_
      refine ce_text (tab := []) (soft := 1) (.op 0 .nil) rfl rfl ?_
      refine re_assign rfl rfl rfl rfl rfl ?_
      refine re_nil ?_
      refine qe_thenC ?_
      refine ce_ret ?_
      refine qe_then_ret ?_
      refine qe_end rfl rfl ?_
      have hc : counts gs need (kvM ms) v = false := counts_no2 hg2_5
      rw [takeK_no hc, takes_no hc]; exact ⟨rfl, H.to⟩
    ·
      refine re_move rfl rfl rfl rfl rfl ?_
      refine re_nilc rfl rfl rfl rfl rfl ?_
      first | refine re_field0 rfl rfl rfl rfl rfl fo_145_0 ?_ | refine re_field rfl rfl rfl rfl rfl fo_145_0 ?_ | refine re_fieldA rfl rfl rfl rfl rfl fo_145_0 ?_
      refine re_load H rfl rfl rfl rfl rfl sh_31 rfl ?_
      refine re_move rfl rfl rfl rfl rfl ?_
      refine re_call en_50 rfl rfl rfl rfl rfl ?_
      refine Calls.mono (contains_s (H.rsees a) H hn) ?_
      rintro e w ⟨rfl, H⟩
      refine ⟨_, rfl, (fun h => (nomatch h)), ?_⟩
      refine re_not rfl rfl rfl rfl rfl ?_
      refine re_pickF rfl rfl rfl rfl rfl rfl ?_
      refine re_nil ?_
      refine qe_thenC ?_
      refine ce_cond rfl (fun h0 => ?_) (fun h0 => ?_)
      · try simp only [zn1, zn2, zn3, zn4, zn5, zn6] at h0
        refine ce_seq ?_
        refine ce_text (tab := []) (soft := 1) (.op 0 .nil) rfl rfl ?_
        refine re_assign rfl rfl rfl rfl rfl ?_
        refine re_nil ?_
        refine qe_thenC ?_
        refine ce_ret ?_
        refine qe_then_ret ?_
        refine qe_end rfl rfl ?_
        have hc : counts gs need (kvM ms) v = false := counts_no3 (by simpa using h0)
        rw [takeK_no hc, takes_no hc]; exact ⟨rfl, H.to⟩
      · try simp only [zn1, zn2, zn3, zn4, zn5, zn6] at h0
        refine ce_skip ?_
        refine qe_thenC ?_
        refine ce_seq ?_
        refine ce_open (tab := [0, 1, 3, 7, 0, 0, 63]) (soft := 63) mixed (.op 0 (.op 1 (.op 2 (.op 3 (.op 4 (.op 5 (.op 6 .nil))))))) (by kernel_rfl) H ?_
        intro w H
        refine re_move rfl rfl rfl rfl rfl ?_
        refine re_nilc rfl rfl rfl rfl rfl ?_
        first | refine re_field0 rfl rfl rfl rfl rfl fo_145_2 ?_ | refine re_field rfl rfl rfl rfl rfl fo_145_2 ?_ | refine re_fieldA rfl rfl rfl rfl rfl fo_145_2 ?_
        refine re_load H rfl rfl rfl rfl rfl sh_143 rfl ?_
        refine re_move rfl rfl rfl rfl rfl ?_
        refine re_load H rfl rfl rfl rfl rfl sh_46 (by first | exact rdAt_all rfl | (simp only [rdAt, PS.cells, PS.over, GM.cells, Cmd.cells, List.cons_append, List.nil_append, List.drop_succ_cons, List.drop_zero, List.take_succ_cons, List.take_zero, List.length_cons, List.length_nil, Nat.zero_add, Nat.reduceAdd, Nat.reduceLeDiff, Nat.le_refl, ↓reduceIte] <;> rfl)) ?_
        refine re_mapPut H rfl rfl rfl rfl rfl rfl ul_143 ul_3 ?_
        intro w H
        refine ⟨(fun _ => ⟨ancs (i := 6) (j := 5) rfl, ancs (i := 6) (j := 3) rfl, trivial⟩), ?_⟩
        refine re_nil ?_
        refine qe_noPanic ?_
        refine qe_thenC ?_
        refine ce_seq ?_
        refine ce_text (tab := []) (soft := 5) (.op 0 (.op 1 (.op 2 .nil))) rfl rfl ?_
        refine re_move rfl rfl rfl rfl rfl ?_
        refine re_call en_82 rfl rfl rfl rfl rfl ?_
        refine Calls.mono (enoughM H) ?_
        rintro e w ⟨rfl, H⟩
        refine ⟨_, rfl, (fun h => (nomatch h)), ?_⟩
        refine re_assign rfl rfl rfl rfl rfl ?_
        refine re_nil ?_
        refine qe_thenC ?_
        refine ce_ret ?_
        refine qe_end rfl rfl ?_
        have hc : counts gs need (kvM ms) v = true := counts_yes hg2_1 hg2_5 (by simpa using h0)
        rw [takeK_yes hc, takes_yes hc]; exact ⟨rfl, H.to⟩
end Go.Proofs.Ytofaoblfemfkiaa

namespace Go.Proofs.Ytofaoblfemfkiaa
open Go Go.RowKit Go.Fw
set_option linter.unusedSimpArgs false
set_option linter.unusedVariables false
set_option maxRecDepth 4000
set_option maxHeartbeats 2000000
theorem ei_62 : elemInfo Try.prog 62 = some (46, 30, 312) := by kernel_rfl
theorem en_47 : Enterable Try.prog 47 := ⟨Try.f47, Try.func47, rfl, by decide⟩
theorem en_72 : Enterable Try.prog 72 := ⟨Try.f72, Try.func72, rfl, by decide⟩
theorem fo_137_1 : fOff Try.prog 137 1 = some 1 := by kernel_rfl
theorem fo_46_1 : fOff Try.prog 46 1 = some 1 := by kernel_rfl
theorem fo_46_2 : fOff Try.prog 46 2 = some 3 := by kernel_rfl
theorem fo_46_3 : fOff Try.prog 46 3 = some 5 := by kernel_rfl
theorem fo_46_4 : fOff Try.prog 46 4 = some 6 := by kernel_rfl
theorem fo_46_5 : fOff Try.prog 46 5 = some 7 := by kernel_rfl
theorem fo_80_0 : fOff Try.prog 80 0 = some 0 := by kernel_rfl
theorem fo_80_1 : fOff Try.prog 80 1 = some 1 := by kernel_rfl
theorem fo_80_10 : fOff Try.prog 80 10 = some 21 := by kernel_rfl
theorem fo_80_11 : fOff Try.prog 80 11 = some 22 := by kernel_rfl
theorem fo_80_12 : fOff Try.prog 80 12 = some 23 := by kernel_rfl
theorem fo_80_13 : fOff Try.prog 80 13 = some 24 := by kernel_rfl
theorem fo_80_2 : fOff Try.prog 80 2 = some 2 := by kernel_rfl
theorem fo_80_3 : fOff Try.prog 80 3 = some 6 := by kernel_rfl
theorem fo_80_5 : fOff Try.prog 80 5 = some 16 := by kernel_rfl
theorem fo_80_6 : fOff Try.prog 80 6 = some 17 := by kernel_rfl
theorem fo_80_7 : fOff Try.prog 80 7 = some 18 := by kernel_rfl
theorem nif_97 : notIface Try.prog 97 = true := by kernel_rfl
theorem pl_28 : placesOf Try.prog 28 = some [(0, 1), (1, 1), (2, 1), (3, 1), (4, 2), (6, 2), (8, 1)] := by kernel_rfl
theorem pl_36 : placesOf Try.prog 36 = some [(0, 1), (1, 1)] := by kernel_rfl
theorem pl_38 : placesOf Try.prog 38 = some [(0, 1), (1, 1)] := by kernel_rfl
theorem pl_43 : placesOf Try.prog 43 = some [(0, 1), (1, 1), (2, 1)] := by kernel_rfl
theorem pl_46 : placesOf Try.prog 46 = some [(0, 1), (1, 2), (3, 2), (5, 1), (6, 1), (7, 4), (11, 2), (13, 2), (15, 1), (16, 9), (25, 3), (28, 1), (29, 1)] := by kernel_rfl
theorem pl_97 : placesOf Try.prog 97 = some [] := by kernel_rfl
theorem sh_24 : shapeOf Try.prog 24 = some (true, 4) := by kernel_rfl
theorem sh_28 : shapeOf Try.prog 28 = some (true, 9) := by kernel_rfl
theorem sh_36 : shapeOf Try.prog 36 = some (true, 2) := by kernel_rfl
theorem sh_38 : shapeOf Try.prog 38 = some (true, 2) := by kernel_rfl
theorem sh_43 : shapeOf Try.prog 43 = some (true, 3) := by kernel_rfl
theorem sh_76 : shapeOf Try.prog 76 = some (false, 1) := by kernel_rfl
theorem sh_77 : shapeOf Try.prog 77 = some (false, 1) := by kernel_rfl
theorem sh_78 : shapeOf Try.prog 78 = some (false, 1) := by kernel_rfl
theorem ul_62 : Try.prog.underlying 62 = some (.slice 46) := by kernel_rfl
theorem ul_77 : Try.prog.underlying 77 = some (.pointer 28) := by kernel_rfl
theorem ul_78 : Try.prog.underlying 78 = some (.pointer 43) := by kernel_rfl
theorem ze_28 : zeroC Try.prog 28 = some [.int .i64 0, .int .i64 0, .int .i64 0, .string ByteArray.empty, .int .i64 0, .int .i64 0, .int .i64 0, .int .i64 0, .int .i64 0] := by kernel_rfl
theorem ze_36 : zeroC Try.prog 36 = some [.bool false, .int .i64 0] := by kernel_rfl
theorem ze_38 : zeroC Try.prog 38 = some [.int .i64 0, .int .i64 0] := by kernel_rfl
theorem ze_43 : zeroC Try.prog 43 = some [.int .i64 0, .slice none 0 0, .slice none 0 0] := by kernel_rfl
theorem ze_97 : zeroC Try.prog 97 = some [] := by kernel_rfl

theorem worn_s {B w : World} {F : List Ent} {g : Nat} {p : PS} (H : Own B (.cells g 80 p.cells :: F) w) :
    Calls Try.prog 11 #[.pointer (some ⟨g, 0, none⟩)] w fun e w' => e = .returned (.bool p.wn) ∧ Own B (.cells g 80 p.cells :: F) w' := by
  refine calls_ce (args := [.pointer (some ⟨g, 0, none⟩)]) Try.func11 rfl rfl ?_
  change CE _ _ 7 _ _ [(0, .pointer (some ⟨g, 0, none⟩))] _
  refine ce_seq ?_
  refine ce_text (tab := []) (soft := 1) (.op 0 .nil) rfl rfl ?_
  refine re_assign rfl rfl rfl rfl rfl ?_
  refine re_nil ?_
  refine qe_thenC ?_
  refine ce_seq ?_
  refine ce_text (tab := []) (soft := 31) (.op 0 (.op 1 (.op 2 (.op 3 (.op 4 .nil))))) rfl rfl ?_
  refine re_move rfl rfl rfl rfl rfl ?_
  refine re_nilc rfl rfl rfl rfl rfl ?_
  first | refine re_field0 rfl rfl rfl rfl rfl fo_80_13 ?_ | refine re_field rfl rfl rfl rfl rfl fo_80_13 ?_ | refine re_fieldA rfl rfl rfl rfl rfl fo_80_13 ?_
  refine re_load H rfl rfl rfl rfl rfl sh_4 rfl ?_
  refine re_assign rfl rfl rfl rfl rfl ?_
  refine re_nil ?_
  refine qe_thenC ?_
  refine ce_ret ?_
  refine qe_end rfl rfl ?_
  exact ⟨rfl, H⟩

theorem ballot_s {B w : World} {F : List Ent} {g : Nat} {p : PS} (H : Own B (.cells g 80 p.cells :: F) w) :
    Calls Try.prog 34 #[.pointer (some ⟨g, 0, none⟩)] w fun e w' => e = .returned (.int .i64 (max p.bal p.nt)) ∧ Own B (.cells g 80 p.cells :: F) w' := by
  refine calls_ce (args := [.pointer (some ⟨g, 0, none⟩)]) Try.func34 rfl rfl ?_
  change CE _ _ 12 _ _ [(0, .pointer (some ⟨g, 0, none⟩))] _
  refine ce_seq ?_
  refine ce_text (tab := []) (soft := 1) (.op 0 .nil) rfl rfl ?_
  refine re_assign rfl rfl rfl rfl rfl ?_
  refine re_nil ?_
  refine qe_thenC ?_
  refine ce_seq ?_
  refine ce_open (tab := [0, 1, 3, 7, 0, 16, 48, 112, 255, 511]) (soft := 1023) mixed (.op 0 (.op 1 (.op 2 (.op 3 (.op 4 (.op 5 (.op 6 (.op 7 (.op 8 (.op 9 .nil)))))))))) (by kernel_rfl) H ?_
  intro w H
  refine re_move rfl rfl rfl rfl rfl ?_
  refine re_nilc rfl rfl rfl rfl rfl ?_
  first | refine re_field0 rfl rfl rfl rfl rfl fo_80_5 ?_ | refine re_field rfl rfl rfl rfl rfl fo_80_5 ?_ | refine re_fieldA rfl rfl rfl rfl rfl fo_80_5 ?_
  refine re_load H rfl rfl rfl rfl rfl sh_3 rfl ?_
  refine re_move rfl rfl rfl rfl rfl ?_
  refine re_nilc rfl rfl rfl rfl rfl ?_
  first | refine re_field0 rfl rfl rfl rfl rfl fo_80_7 ?_ | refine re_field rfl rfl rfl rfl rfl fo_80_7 ?_ | refine re_fieldA rfl rfl rfl rfl rfl fo_80_7 ?_
  refine re_load H rfl rfl rfl rfl rfl sh_3 rfl ?_
  refine re_max rfl rfl rfl rfl rfl rfl ?_
  refine re_assign rfl rfl rfl rfl rfl ?_
  refine re_nil ?_
  refine qe_noPanic ?_
  refine qe_thenC ?_
  refine ce_ret ?_
  refine qe_end rfl rfl ?_
  exact ⟨rfl, H⟩

theorem round_s {B w : World} {F : List Ent} {g : Nat} {p : PS} (H : Own B (.cells g 80 p.cells :: F) w) :
    Calls Try.prog 15 #[.pointer (some ⟨g, 0, none⟩)] w fun e w' => e = .returned (.int .i64 p.rnd) ∧ Own B (.cells g 80 p.cells :: F) w' := by
  refine calls_ce (args := [.pointer (some ⟨g, 0, none⟩)]) Try.func15 rfl rfl ?_
  change CE _ _ 7 _ _ [(0, .pointer (some ⟨g, 0, none⟩))] _
  refine ce_seq ?_
  refine ce_text (tab := []) (soft := 1) (.op 0 .nil) rfl rfl ?_
  refine re_assign rfl rfl rfl rfl rfl ?_
  refine re_nil ?_
  refine qe_thenC ?_
  refine ce_seq ?_
  refine ce_text (tab := []) (soft := 31) (.op 0 (.op 1 (.op 2 (.op 3 (.op 4 .nil))))) rfl rfl ?_
  refine re_move rfl rfl rfl rfl rfl ?_
  refine re_nilc rfl rfl rfl rfl rfl ?_
  first | refine re_field0 rfl rfl rfl rfl rfl fo_80_6 ?_ | refine re_field rfl rfl rfl rfl rfl fo_80_6 ?_ | refine re_fieldA rfl rfl rfl rfl rfl fo_80_6 ?_
  refine re_load H rfl rfl rfl rfl rfl sh_3 rfl ?_
  refine re_assign rfl rfl rfl rfl rfl ?_
  refine re_nil ?_
  refine qe_thenC ?_
  refine ce_ret ?_
  refine qe_end rfl rfl ?_
  exact ⟨rfl, H⟩

theorem stamp_s {B w : World} {F : List Ent} {g : Nat} {p : PS} (H : Own B (.cells g 80 p.cells :: F) w) :
    Calls Try.prog 72 #[.pointer (some ⟨g, 0, none⟩)] w fun e w' => e = .returned (.agg #[.int .i64 p.bal, .int .i64 p.cl]) ∧ Own B (.cells g 80 p.cells :: F) w' := by
  refine calls_ce (args := [.pointer (some ⟨g, 0, none⟩)]) Try.func72 rfl rfl ?_
  change CE _ _ 12 _ _ [(0, .pointer (some ⟨g, 0, none⟩))] _
  refine ce_seq ?_
  refine ce_text (tab := []) (soft := 0) (.op 0 .nil) rfl rfl ?_
  refine re_alloc H rfl rfl rfl rfl ze_38 ?_
  intro g2 w H
  refine ⟨(fun h => (nomatch h)), ?_⟩
  refine re_nil ?_
  refine qe_thenC ?_
  refine ce_seq ?_
  refine ce_open (tab := [0, 1, 3, 7, 0, 16, 48, 112, 255, 511]) (soft := 511) mixed (.op 0 (.op 1 (.op 2 (.op 3 (.op 4 (.op 5 (.op 6 (.op 7 (.op 8 (.op 9 .nil)))))))))) (by kernel_rfl) H ?_
  intro w H
  refine re_move rfl rfl rfl rfl rfl ?_
  refine re_nilc rfl rfl rfl rfl rfl ?_
  first | refine re_field0 rfl rfl rfl rfl rfl fo_80_5 ?_ | refine re_field rfl rfl rfl rfl rfl fo_80_5 ?_ | refine re_fieldA rfl rfl rfl rfl rfl fo_80_5 ?_
  refine re_load H rfl rfl rfl rfl rfl sh_3 rfl ?_
  refine re_move rfl rfl rfl rfl rfl ?_
  refine re_nilc rfl rfl rfl rfl rfl ?_
  first | refine re_field0 rfl rfl rfl rfl rfl fo_80_0 ?_ | refine re_field rfl rfl rfl rfl rfl fo_80_0 ?_ | refine re_fieldA rfl rfl rfl rfl rfl fo_80_0 ?_
  refine re_load H rfl rfl rfl rfl rfl sh_3 rfl ?_
  refine re_build rfl rfl rfl rfl rfl ze_38 pl_38 (by simp only [fillL, setMany, Value.cells, List.getElem?_cons_zero, List.getElem?_cons_succ, List.length_cons, List.length_nil, List.set_cons_zero, List.set_cons_succ, Nat.reduceAdd, Nat.reduceLeDiff, Nat.zero_add, and_self, ↓reduceIte]; rfl) ?_
  refine re_store H rfl rfl rfl rfl rfl rfl sh_38 rfl rfl rfl ?_
  intro cs w hcs H
  first | rw [setMany_whole rfl] at hcs | simp only [setMany, List.set_cons_zero, List.set_cons_succ, Nat.reduceAdd, Nat.zero_add, PS.cells, PS.over, GM.cells, Cmd.cells, List.cons_append, List.nil_append] at hcs
  subst hcs
  refine ⟨(fun _ => ⟨ancs (i := 9) (j := 7) rfl, ancs (i := 9) (j := 3) rfl, trivial⟩), ?_⟩
  refine re_nil ?_
  refine qe_noPanic ?_
  refine qe_thenC ?_
  refine ce_ret ?_
  refine qe_endCell H rfl rfl sh_38 (by first | exact rdAt_all rfl | (simp only [rdAt, PS.cells, PS.over, GM.cells, Cmd.cells, List.cons_append, List.nil_append, List.drop_succ_cons, List.drop_zero, List.take_succ_cons, List.take_zero, List.length_cons, List.length_nil, Nat.zero_add, Nat.reduceAdd, Nat.reduceLeDiff, Nat.le_refl, ↓reduceIte] <;> rfl)) ?_
  exact ⟨rfl, H.tail⟩

theorem need_s {B w : World} {F : List Ent} {g : Nat} {p : PS} (H : Own B (.cells g 80 p.cells :: F) w) (hn : p.gs.length ≤ 1000000) :
    Calls Try.prog 70 #[.pointer (some ⟨g, 0, none⟩)] w fun e w' => e = .returned (.int .i64 ((p.gs.length : Int) / 2 + 1)) ∧ Own B (.cells g 80 p.cells :: F) w' := by
  refine calls_ce (args := [.pointer (some ⟨g, 0, none⟩)]) Try.func70 rfl rfl ?_
  change CE _ _ 10 _ _ [(0, .pointer (some ⟨g, 0, none⟩))] _
  refine ce_seq ?_
  refine ce_text (tab := []) (soft := 1) (.op 0 .nil) rfl rfl ?_
  refine re_assign rfl rfl rfl rfl rfl ?_
  refine re_nil ?_
  refine qe_thenC ?_
  refine ce_seq ?_
  refine ce_text (tab := []) (soft := 255) (.op 0 (.op 1 (.op 2 (.op 3 (.op 4 (.op 5 (.op 6 (.op 7 .nil)))))))) rfl rfl ?_
  refine re_move rfl rfl rfl rfl rfl ?_
  refine re_nilc rfl rfl rfl rfl rfl ?_
  first | refine re_field0 rfl rfl rfl rfl rfl fo_80_3 ?_ | refine re_field rfl rfl rfl rfl rfl fo_80_3 ?_ | refine re_fieldA rfl rfl rfl rfl rfl fo_80_3 ?_
  refine re_load H rfl rfl rfl rfl rfl sh_31 rfl ?_
  refine re_len rfl rfl rfl rfl rfl ul_31 ?_
  refine re_quo rfl rfl rfl rfl rfl rfl (by omega) (by omega) (by omega) ?_
  first | refine re_add rfl rfl rfl rfl rfl rfl (by omega) ?_ | refine re_bin rfl rfl rfl rfl rfl rfl rfl ?_
  refine re_assign rfl rfl rfl rfl rfl ?_
  refine re_nil ?_
  refine qe_thenC ?_
  refine ce_ret ?_
  refine qe_end rfl rfl ?_
  exact ⟨rfl, H⟩

theorem end_s {B w : World} {F : List Ent} {g : Nat} {p : PS} (H : Own B (.cells g 80 p.cells :: F) w) :
    Calls Try.prog 47 #[.pointer (some ⟨g, 0, none⟩)] w fun e w' => e = .returned (.tuple #[]) ∧ Own B (.cells g 80 (p.over).cells :: F) w' := by
  refine calls_ce (args := [.pointer (some ⟨g, 0, none⟩)]) Try.func47 rfl rfl ?_
  change CE _ _ 7 _ _ [(0, .pointer (some ⟨g, 0, none⟩))] _
  refine ce_text (tab := []) (soft := 31) (.op 0 (.op 1 (.op 2 (.op 3 (.op 4 (.op 5 .nil)))))) rfl rfl ?_
  refine re_move rfl rfl rfl rfl rfl ?_
  refine re_build rfl rfl rfl rfl rfl ze_97 pl_97 (by simp only [fillL, setMany, Value.cells, List.getElem?_cons_zero, List.getElem?_cons_succ, List.length_cons, List.length_nil, List.set_cons_zero, List.set_cons_succ, Nat.reduceAdd, Nat.reduceLeDiff, Nat.zero_add, and_self, ↓reduceIte]; rfl) ?_
  refine re_iface rfl rfl rfl rfl rfl nif_97 ?_
  refine re_nilc rfl rfl rfl rfl rfl ?_
  first | refine re_field0 rfl rfl rfl rfl rfl fo_80_10 ?_ | refine re_field rfl rfl rfl rfl rfl fo_80_10 ?_ | refine re_fieldA rfl rfl rfl rfl rfl fo_80_10 ?_
  refine re_store H rfl rfl rfl rfl rfl rfl sh_76 rfl rfl rfl ?_
  intro cs w hcs H
  first | rw [setMany_whole rfl] at hcs | simp only [setMany, List.set_cons_zero, List.set_cons_succ, Nat.reduceAdd, Nat.zero_add, PS.cells, PS.over, GM.cells, Cmd.cells, List.cons_append, List.nil_append] at hcs
  subst hcs
  refine ⟨(fun h => (nomatch h)), ?_⟩
  refine re_nil ?_
  refine qe_end0 rfl ?_
  exact ⟨rfl, H⟩

theorem wear_s {B w : World} {F : List Ent} {g : Nat} {p : PS} (H : Own B (.cells g 80 p.cells :: F) w) :
    Calls Try.prog 41 #[.pointer (some ⟨g, 0, none⟩)] w fun e w' => e = .returned (.slice none 0 0) ∧ Own B (.cells g 80 { p.over with wn := true }.cells :: F) w' := by
  refine calls_ce (args := [.pointer (some ⟨g, 0, none⟩)]) Try.func41 rfl rfl ?_
  change CE _ _ 8 _ _ [(0, .pointer (some ⟨g, 0, none⟩))] _
  refine ce_seq ?_
  refine ce_text (tab := []) (soft := 1) (.op 0 .nil) rfl rfl ?_
  refine re_assign rfl rfl rfl rfl rfl ?_
  refine re_nil ?_
  refine qe_thenC ?_
  refine ce_seq ?_
  refine ce_text (tab := []) (soft := 7) (.op 0 (.op 1 (.op 2 (.op 3 .nil)))) rfl rfl ?_
  refine re_move rfl rfl rfl rfl rfl ?_
  refine re_nilc rfl rfl rfl rfl rfl ?_
  first | refine re_field0 rfl rfl rfl rfl rfl fo_80_13 ?_ | refine re_field rfl rfl rfl rfl rfl fo_80_13 ?_ | refine re_fieldA rfl rfl rfl rfl rfl fo_80_13 ?_
  refine re_store H rfl rfl rfl rfl rfl rfl sh_4 rfl rfl rfl ?_
  intro cs w hcs H
  first | rw [setMany_whole rfl] at hcs | simp only [setMany, List.set_cons_zero, List.set_cons_succ, Nat.reduceAdd, Nat.zero_add, PS.cells, PS.over, GM.cells, Cmd.cells, List.cons_append, List.nil_append] at hcs
  subst hcs
  refine ⟨(fun h => (nomatch h)), ?_⟩
  refine re_nil ?_
  refine qe_thenC ?_
  refine ce_seq ?_
  refine ce_text (tab := []) (soft := 1) (.op 0 (.op 1 .nil)) rfl rfl ?_
  refine re_move rfl rfl rfl rfl rfl ?_
  refine re_call en_47 rfl rfl rfl rfl rfl ?_
  refine Calls.mono (end_s (p := { p with wn := true }) H) ?_
  rintro e w ⟨rfl, H⟩
  refine ⟨_, rfl, (fun h => (nomatch h)), ?_⟩
  refine re_nil ?_
  refine qe_thenC ?_
  refine ce_seq ?_
  refine ce_text (tab := []) (soft := 1) (.op 0 .nil) rfl rfl ?_
  refine re_assign rfl rfl rfl rfl rfl ?_
  refine re_nil ?_
  refine qe_thenC ?_
  refine ce_ret ?_
  refine qe_end rfl rfl ?_
  exact ⟨rfl, H⟩

theorem decide_s {B w : World} {F : List Ent} {g : Nat} {p : PS} {c : Cmd} (H : Own B (.cells g 80 p.cells :: F) w) :
    Calls Try.prog 44 #[.pointer (some ⟨g, 0, none⟩), .agg c.cells.toArray] w fun e w' => ∃ q, e = .returned (.tuple #[]) ∧ Own B (.cells g 80 { p.over with dc := .pointer (some ⟨q, 0, none⟩) }.cells :: .cells q 28 c.cells :: F) w' := by
  refine calls_ce (args := [.pointer (some ⟨g, 0, none⟩), .agg c.cells.toArray]) Try.func44 rfl rfl ?_
  change CE _ _ 9 _ _ [(0, .pointer (some ⟨g, 0, none⟩)), (1, .agg c.cells.toArray)] _
  refine ce_seq ?_
  refine ce_text (tab := []) (soft := 0) (.op 0 .nil) rfl rfl ?_
  refine re_box H rfl rfl rfl rfl rfl rfl ?_
  intro g3 w H
  refine ⟨(fun h => (nomatch h)), ?_⟩
  refine re_nil ?_
  refine qe_thenC ?_
  refine ce_seq ?_
  refine ce_text (tab := []) (soft := 7) (.op 0 (.op 1 (.op 2 (.op 3 .nil)))) rfl rfl ?_
  refine re_move rfl rfl rfl rfl rfl ?_
  refine re_nilc rfl rfl rfl rfl rfl ?_
  first | refine re_field0 rfl rfl rfl rfl rfl fo_80_11 ?_ | refine re_field rfl rfl rfl rfl rfl fo_80_11 ?_ | refine re_fieldA rfl rfl rfl rfl rfl fo_80_11 ?_
  refine re_store H rfl rfl rfl rfl rfl rfl sh_77 rfl rfl rfl ?_
  intro cs w hcs H
  first | rw [setMany_whole rfl] at hcs | simp only [setMany, List.set_cons_zero, List.set_cons_succ, Nat.reduceAdd, Nat.zero_add, PS.cells, PS.over, GM.cells, Cmd.cells, List.cons_append, List.nil_append] at hcs
  subst hcs
  refine ⟨(fun h => (nomatch h)), ?_⟩
  refine re_nil ?_
  refine qe_thenC ?_
  refine ce_text (tab := []) (soft := 1) (.op 0 (.op 1 .nil)) rfl rfl ?_
  refine re_move rfl rfl rfl rfl rfl ?_
  refine re_call en_47 rfl rfl rfl rfl rfl ?_
  refine Calls.mono (end_s (p := { p with dc := .pointer (some ⟨g3, 0, none⟩) }) (H.perm (.swap _ _ _))) ?_
  rintro e w ⟨rfl, H⟩
  refine ⟨_, rfl, (fun h => (nomatch h)), ?_⟩
  refine re_nil ?_
  refine qe_end0 rfl ?_
  exact ⟨_, rfl, H⟩

theorem decided0 {B w : World} {F : List Ent} {g : Nat} {p : PS} (H : Own B (.cells g 80 p.cells :: F) w) (hd : p.dc = .pointer none) :
    Calls Try.prog 16 #[.pointer (some ⟨g, 0, none⟩)] w fun e w' => e = .returned (.tuple #[.agg Cmd.zero.cells.toArray, .bool false]) ∧ Own B (.cells g 80 p.cells :: F) w' := by
  refine calls_ce (args := [.pointer (some ⟨g, 0, none⟩)]) Try.func16 rfl rfl ?_
  change CE _ _ 16 _ _ [(0, .pointer (some ⟨g, 0, none⟩))] _
  refine ce_seq ?_
  refine ce_text (tab := []) (soft := 2) (.op 0 (.op 1 .nil)) rfl rfl ?_
  refine re_alloc H rfl rfl rfl rfl ze_28 ?_
  intro g2 w H
  refine ⟨(fun h => (nomatch h)), ?_⟩
  refine re_assign rfl rfl rfl rfl rfl ?_
  refine re_nil ?_
  refine qe_thenC ?_
  refine ce_seq ?_
  refine ce_seq ?_
  refine ce_text (tab := []) (soft := 31) (.op 0 (.op 1 (.op 2 (.op 3 (.op 4 .nil))))) rfl rfl ?_
  refine re_move rfl rfl rfl rfl rfl ?_
  refine re_nilc rfl rfl rfl rfl rfl ?_
  first | refine re_field0 rfl rfl rfl rfl rfl fo_80_11 ?_ | refine re_field rfl rfl rfl rfl rfl fo_80_11 ?_ | refine re_fieldA rfl rfl rfl rfl rfl fo_80_11 ?_
  refine re_load H rfl rfl rfl rfl rfl sh_77 rfl ?_
  simp only [hd]
  refine re_binW rfl rfl rfl rfl rfl rfl (run_ptrNil ul_77 (.inl ⟨rfl, rfl⟩)) ?_
  refine re_nil ?_
  refine qe_thenC ?_
  refine ce_condT rfl ?_
  refine ce_seq ?_
  refine ce_text (tab := []) (soft := 5) (.op 0 (.op 1 (.op 2 .nil))) rfl rfl ?_
  refine re_build rfl rfl rfl rfl rfl ze_28 pl_28 (by simp only [fillL, setMany, Value.cells, List.getElem?_cons_zero, List.getElem?_cons_succ, List.length_cons, List.length_nil, List.set_cons_zero, List.set_cons_succ, Nat.reduceAdd, Nat.reduceLeDiff, Nat.zero_add, and_self, ↓reduceIte]; rfl) ?_
  refine re_store H rfl rfl rfl rfl rfl rfl sh_28 rfl rfl rfl ?_
  intro cs w hcs H
  first | rw [setMany_whole rfl] at hcs | simp only [setMany, List.set_cons_zero, List.set_cons_succ, Nat.reduceAdd, Nat.zero_add, PS.cells, PS.over, GM.cells, Cmd.cells, List.cons_append, List.nil_append] at hcs
  subst hcs
  refine ⟨(fun h => (nomatch h)), ?_⟩
  refine re_assign rfl rfl rfl rfl rfl ?_
  refine re_nil ?_
  refine qe_thenC ?_
  refine ce_ret ?_
  refine qe_then_ret ?_
  refine qe_endCell2 H rfl rfl rfl sh_28 (by first | exact rdAt_all rfl | (simp only [rdAt, PS.cells, PS.over, GM.cells, Cmd.cells, List.cons_append, List.nil_append, List.drop_succ_cons, List.drop_zero, List.take_succ_cons, List.take_zero, List.length_cons, List.length_nil, Nat.zero_add, Nat.reduceAdd, Nat.reduceLeDiff, Nat.le_refl, ↓reduceIte] <;> rfl)) ?_
  exact ⟨rfl, H.tail⟩

theorem decided1 {B w : World} {F : List Ent} {g : Nat} {p : PS} {q : Nat} {c : Cmd} (H : Own B (.cells g 80 p.cells :: .cells q 28 c.cells :: F) w) (hd : p.dc = .pointer (some ⟨q, 0, none⟩)) :
    Calls Try.prog 16 #[.pointer (some ⟨g, 0, none⟩)] w fun e w' => e = .returned (.tuple #[.agg c.cells.toArray, .bool true]) ∧ Own B (.cells g 80 p.cells :: .cells q 28 c.cells :: F) w' := by
  refine calls_ce (args := [.pointer (some ⟨g, 0, none⟩)]) Try.func16 rfl rfl ?_
  change CE _ _ 16 _ _ [(0, .pointer (some ⟨g, 0, none⟩))] _
  refine ce_seq ?_
  refine ce_text (tab := []) (soft := 2) (.op 0 (.op 1 .nil)) rfl rfl ?_
  refine re_alloc H rfl rfl rfl rfl ze_28 ?_
  intro g2 w H
  refine ⟨(fun h => (nomatch h)), ?_⟩
  refine re_assign rfl rfl rfl rfl rfl ?_
  refine re_nil ?_
  refine qe_thenC ?_
  refine ce_seq ?_
  refine ce_seq ?_
  refine ce_text (tab := []) (soft := 31) (.op 0 (.op 1 (.op 2 (.op 3 (.op 4 .nil))))) rfl rfl ?_
  refine re_move rfl rfl rfl rfl rfl ?_
  refine re_nilc rfl rfl rfl rfl rfl ?_
  first | refine re_field0 rfl rfl rfl rfl rfl fo_80_11 ?_ | refine re_field rfl rfl rfl rfl rfl fo_80_11 ?_ | refine re_fieldA rfl rfl rfl rfl rfl fo_80_11 ?_
  refine re_load H rfl rfl rfl rfl rfl sh_77 rfl ?_
  simp only [hd]
  refine re_binW rfl rfl rfl rfl rfl rfl (run_ptrNil ul_77 (.inl ⟨rfl, rfl⟩)) ?_
  refine re_nil ?_
  refine qe_thenC ?_
  refine ce_condF rfl ?_
  refine ce_skip ?_
  refine qe_thenC ?_
  refine ce_seq ?_
  refine ce_text (tab := []) (soft := 191) (.op 0 (.op 1 (.op 2 (.op 3 (.op 4 (.op 5 (.op 6 (.op 7 .nil)))))))) rfl rfl ?_
  refine re_move rfl rfl rfl rfl rfl ?_
  refine re_nilc rfl rfl rfl rfl rfl ?_
  first | refine re_field0 rfl rfl rfl rfl rfl fo_80_11 ?_ | refine re_field rfl rfl rfl rfl rfl fo_80_11 ?_ | refine re_fieldA rfl rfl rfl rfl rfl fo_80_11 ?_
  refine re_load H rfl rfl rfl rfl rfl sh_77 rfl ?_
  simp only [hd]
  refine re_nilc rfl rfl rfl rfl rfl ?_
  refine re_load H rfl rfl rfl rfl rfl sh_28 (by first | exact rdAt_all rfl | (simp only [rdAt, PS.cells, PS.over, GM.cells, Cmd.cells, List.cons_append, List.nil_append, List.drop_succ_cons, List.drop_zero, List.take_succ_cons, List.take_zero, List.length_cons, List.length_nil, Nat.zero_add, Nat.reduceAdd, Nat.reduceLeDiff, Nat.le_refl, ↓reduceIte] <;> rfl)) ?_
  refine re_store H rfl rfl rfl rfl rfl rfl sh_28 rfl rfl rfl ?_
  intro cs w hcs H
  first | rw [setMany_whole rfl] at hcs | simp only [setMany, List.set_cons_zero, List.set_cons_succ, Nat.reduceAdd, Nat.zero_add, PS.cells, PS.over, GM.cells, Cmd.cells, List.cons_append, List.nil_append] at hcs
  subst hcs
  refine ⟨(fun h => (nomatch h)), ?_⟩
  refine re_assign rfl rfl rfl rfl rfl ?_
  refine re_nil ?_
  refine qe_thenC ?_
  refine ce_ret ?_
  refine qe_endCell2 H rfl rfl rfl sh_28 (by first | exact rdAt_all rfl | (simp only [rdAt, PS.cells, PS.over, GM.cells, Cmd.cells, List.cons_append, List.nil_append, List.drop_succ_cons, List.drop_zero, List.take_succ_cons, List.take_zero, List.length_cons, List.length_nil, Nat.zero_add, Nat.reduceAdd, Nat.reduceLeDiff, Nat.le_refl, ↓reduceIte] <;> rfl)) ?_
  exact ⟨rfl, H.tail⟩

theorem trimmed0 {B w : World} {F : List Ent} {g : Nat} {p : PS} (H : Own B (.cells g 80 p.cells :: F) w) (hd : p.tm = .pointer none) :
    Calls Try.prog 32 #[.pointer (some ⟨g, 0, none⟩)] w fun e w' => e = .returned (.tuple #[.agg #[.int .i64 0, .slice none 0 0, .slice none 0 0], .bool false]) ∧ Own B (.cells g 80 p.cells :: F) w' := by
  refine calls_ce (args := [.pointer (some ⟨g, 0, none⟩)]) Try.func32 rfl rfl ?_
  change CE _ _ 26 _ _ [(0, .pointer (some ⟨g, 0, none⟩))] _
  refine ce_seq ?_
  refine ce_text (tab := []) (soft := 2) (.op 0 (.op 1 .nil)) rfl rfl ?_
  refine re_alloc H rfl rfl rfl rfl ze_43 ?_
  intro g2 w H
  refine ⟨(fun h => (nomatch h)), ?_⟩
  refine re_assign rfl rfl rfl rfl rfl ?_
  refine re_nil ?_
  refine qe_thenC ?_
  refine ce_seq ?_
  refine ce_seq ?_
  refine ce_text (tab := []) (soft := 31) (.op 0 (.op 1 (.op 2 (.op 3 (.op 4 .nil))))) rfl rfl ?_
  refine re_move rfl rfl rfl rfl rfl ?_
  refine re_nilc rfl rfl rfl rfl rfl ?_
  first | refine re_field0 rfl rfl rfl rfl rfl fo_80_12 ?_ | refine re_field rfl rfl rfl rfl rfl fo_80_12 ?_ | refine re_fieldA rfl rfl rfl rfl rfl fo_80_12 ?_
  refine re_load H rfl rfl rfl rfl rfl sh_78 rfl ?_
  simp only [hd]
  refine re_binW rfl rfl rfl rfl rfl rfl (run_ptrNil ul_78 (.inl ⟨rfl, rfl⟩)) ?_
  refine re_nil ?_
  refine qe_thenC ?_
  refine ce_cond rfl (fun h0 => ?_) (fun h0 => ?_)
  · try simp only [zn1, zn2, zn3, zn4, zn5, zn6] at h0
    refine ce_seq ?_
    refine ce_text (tab := []) (soft := 5) (.op 0 (.op 1 (.op 2 .nil))) rfl rfl ?_
    refine re_build rfl rfl rfl rfl rfl ze_43 pl_43 (by simp only [fillL, setMany, Value.cells, List.getElem?_cons_zero, List.getElem?_cons_succ, List.length_cons, List.length_nil, List.set_cons_zero, List.set_cons_succ, Nat.reduceAdd, Nat.reduceLeDiff, Nat.zero_add, and_self, ↓reduceIte]; rfl) ?_
    refine re_store H rfl rfl rfl rfl rfl rfl sh_43 rfl rfl rfl ?_
    intro cs w hcs H
    first | rw [setMany_whole rfl] at hcs | simp only [setMany, List.set_cons_zero, List.set_cons_succ, Nat.reduceAdd, Nat.zero_add, PS.cells, PS.over, GM.cells, Cmd.cells, List.cons_append, List.nil_append] at hcs
    subst hcs
    refine ⟨(fun h => (nomatch h)), ?_⟩
    refine re_assign rfl rfl rfl rfl rfl ?_
    refine re_nil ?_
    refine qe_thenC ?_
    refine ce_ret ?_
    refine qe_then_ret ?_
    refine qe_endCell2 H rfl rfl rfl sh_43 (by first | exact rdAt_all rfl | (simp only [rdAt, PS.cells, PS.over, GM.cells, Cmd.cells, List.cons_append, List.nil_append, List.drop_succ_cons, List.drop_zero, List.take_succ_cons, List.take_zero, List.length_cons, List.length_nil, Nat.zero_add, Nat.reduceAdd, Nat.reduceLeDiff, Nat.le_refl, ↓reduceIte] <;> rfl)) ?_
    exact ⟨rfl, H.tail⟩
  · try simp only [zn1, zn2, zn3, zn4, zn5, zn6] at h0
    cases h0

theorem msgP {B w : World} {F : List Ent} {g : Nat} {p : PS} {q : Value} (H : Own B (.cells g 80 p.cells :: F) w) :
    Calls Try.prog 109 #[.agg #[q], .pointer (some ⟨g, 0, none⟩)] w fun e w' => e = .returned (.agg (GM.prepare p.bal p.cl).cells.toArray) ∧ Own B (.cells g 80 p.cells :: F) w' := by
  refine calls_ce (args := [.agg #[q], .pointer (some ⟨g, 0, none⟩)]) Try.func109 rfl rfl ?_
  change CE _ _ 8 _ _ [(0, .agg #[q]), (1, .pointer (some ⟨g, 0, none⟩))] _
  refine ce_seq ?_
  refine ce_text (tab := []) (soft := 0) (.op 0 (.op 1 .nil)) rfl rfl ?_
  refine re_box H rfl rfl rfl rfl rfl rfl ?_
  intro g2 w H
  refine ⟨(fun h => (nomatch h)), ?_⟩
  refine re_alloc H rfl rfl rfl rfl ze_46 ?_
  intro g4 w H
  refine ⟨(fun h => (nomatch h)), ?_⟩
  refine re_nil ?_
  refine qe_thenC ?_
  refine ce_seq ?_
  refine ce_text (tab := []) (soft := 5) (.op 0 (.op 1 (.op 2 (.op 3 .nil)))) rfl rfl ?_
  refine re_move rfl rfl rfl rfl rfl ?_
  refine re_call en_72 rfl rfl rfl rfl rfl ?_
  have H := H.front 2
  simp only [arrs, Fw.front, zm1, zm2, zm3, zm4, zm5] at H
  refine Calls.mono (stamp_s H) ?_
  rintro e w ⟨rfl, H⟩
  refine ⟨_, rfl, (fun h => (nomatch h)), ?_⟩
  refine re_build rfl rfl rfl rfl rfl ze_46 pl_46 (by simp only [fillL, setMany, Value.cells, List.getElem?_cons_zero, List.getElem?_cons_succ, List.length_cons, List.length_nil, List.set_cons_zero, List.set_cons_succ, Nat.reduceAdd, Nat.reduceLeDiff, Nat.zero_add, and_self, ↓reduceIte]; rfl) ?_
  refine re_store H rfl rfl rfl rfl rfl rfl sh_46 rfl rfl rfl ?_
  intro cs w hcs H
  first | rw [setMany_whole rfl] at hcs | simp only [setMany, List.set_cons_zero, List.set_cons_succ, Nat.reduceAdd, Nat.zero_add, PS.cells, PS.over, GM.cells, Cmd.cells, List.cons_append, List.nil_append] at hcs
  subst hcs
  refine ⟨(fun h => (nomatch h)), ?_⟩
  refine re_nil ?_
  refine qe_thenC ?_
  refine ce_ret ?_
  refine qe_endCell H rfl rfl sh_46 (by first | exact rdAt_all rfl | (simp only [rdAt, PS.cells, PS.over, GM.cells, Cmd.cells, List.cons_append, List.nil_append, List.drop_succ_cons, List.drop_zero, List.take_succ_cons, List.take_zero, List.length_cons, List.length_nil, Nat.zero_add, Nat.reduceAdd, Nat.reduceLeDiff, Nat.le_refl, ↓reduceIte] <;> rfl)) ?_
  exact ⟨rfl, H.sub (.cons_cons _ (.cons _ (.cons _ (List.Sublist.refl _))))⟩

theorem msgA {B w : World} {F : List Ent} {g : Nat} {p : PS} {q : Value} {c : Cmd} (H : Own B (.cells g 80 p.cells :: F) w) :
    Calls Try.prog 110 #[.agg (q :: c.cells).toArray, .pointer (some ⟨g, 0, none⟩)] w fun e w' => e = .returned (.agg (GM.accept p.bal p.cl c).cells.toArray) ∧ Own B (.cells g 80 p.cells :: F) w' := by
  refine calls_ce (args := [.agg (q :: c.cells).toArray, .pointer (some ⟨g, 0, none⟩)]) Try.func110 rfl rfl ?_
  change CE _ _ 10 _ _ [(0, .agg (q :: c.cells).toArray), (1, .pointer (some ⟨g, 0, none⟩))] _
  refine ce_seq ?_
  refine ce_text (tab := []) (soft := 0) (.op 0 (.op 1 .nil)) rfl rfl ?_
  refine re_box H rfl rfl rfl rfl rfl rfl ?_
  intro g2 w H
  refine ⟨(fun h => (nomatch h)), ?_⟩
  refine re_alloc H rfl rfl rfl rfl ze_46 ?_
  intro g4 w H
  refine ⟨(fun h => (nomatch h)), ?_⟩
  refine re_nil ?_
  refine qe_thenC ?_
  refine ce_seq ?_
  refine ce_open (tab := [0, 1, 0, 4, 15, 31]) (soft := 29) mixed (.op 0 (.op 2 (.op 3 (.op 1 (.op 4 (.op 5 .nil)))))) (by kernel_rfl) H ?_
  intro w H
  refine re_move rfl rfl rfl rfl rfl ?_
  first | refine re_field0 rfl rfl rfl rfl rfl fo_137_1 ?_ | refine re_field rfl rfl rfl rfl rfl fo_137_1 ?_ | refine re_fieldA rfl rfl rfl rfl rfl fo_137_1 ?_
  refine re_load H rfl rfl rfl rfl rfl sh_28 (by first | exact rdAt_all rfl | (simp only [rdAt, PS.cells, PS.over, GM.cells, Cmd.cells, List.cons_append, List.nil_append, List.drop_succ_cons, List.drop_zero, List.take_succ_cons, List.take_zero, List.length_cons, List.length_nil, Nat.zero_add, Nat.reduceAdd, Nat.reduceLeDiff, Nat.le_refl, ↓reduceIte] <;> rfl)) ?_
  refine re_call en_72 rfl rfl rfl rfl rfl ?_
  have H := H.front 2
  simp only [arrs, Fw.front, zm1, zm2, zm3, zm4, zm5] at H
  refine Calls.mono (stamp_s H) ?_
  rintro e w ⟨rfl, H⟩
  refine ⟨_, rfl, (fun _ => ⟨fun _ => still_load H sh_28 (by first | exact rdAt_all rfl | (simp only [rdAt, PS.cells, PS.over, GM.cells, Cmd.cells, List.cons_append, List.nil_append, List.drop_succ_cons, List.drop_zero, List.take_succ_cons, List.take_zero, List.length_cons, List.length_nil, Nat.zero_add, Nat.reduceAdd, Nat.reduceLeDiff, Nat.le_refl, ↓reduceIte] <;> rfl)), trivial⟩), ?_⟩
  refine re_build rfl rfl rfl rfl rfl ze_46 pl_46 (by simp only [fillL, setMany, Value.cells, List.getElem?_cons_zero, List.getElem?_cons_succ, List.length_cons, List.length_nil, List.set_cons_zero, List.set_cons_succ, Nat.reduceAdd, Nat.reduceLeDiff, Nat.zero_add, and_self, ↓reduceIte]; rfl) ?_
  refine re_store H rfl rfl rfl rfl rfl rfl sh_46 rfl rfl rfl ?_
  intro cs w hcs H
  first | rw [setMany_whole rfl] at hcs | simp only [setMany, List.set_cons_zero, List.set_cons_succ, Nat.reduceAdd, Nat.zero_add, PS.cells, PS.over, GM.cells, Cmd.cells, List.cons_append, List.nil_append] at hcs
  subst hcs
  refine ⟨(fun _ => ⟨ancs (i := 5) (j := 3) rfl, trivial⟩), ?_⟩
  refine re_nil ?_
  refine qe_noPanic ?_
  refine qe_thenC ?_
  refine ce_ret ?_
  refine qe_endCell H rfl rfl sh_46 (by first | exact rdAt_all rfl | (simp only [rdAt, PS.cells, PS.over, GM.cells, Cmd.cells, List.cons_append, List.nil_append, List.drop_succ_cons, List.drop_zero, List.take_succ_cons, List.take_zero, List.length_cons, List.length_nil, Nat.zero_add, Nat.reduceAdd, Nat.reduceLeDiff, Nat.le_refl, ↓reduceIte] <;> rfl)) ?_
  exact ⟨rfl, H.sub (.cons_cons _ (.cons _ (.cons _ (List.Sublist.refl _))))⟩

theorem send_s {B w : World} {F : List Ent} {g : Nat} {p : PS} {m : GM} {sa : Option Addr} {sc : Nat} {xs : List Int} (H : Own B (.cells g 80 p.cells :: F) w) (hS : Sees B F sa xs.length 1 (ints xs)) (hn : xs.length ≤ 1000000) :
    Calls Try.prog 54 #[.pointer (some ⟨g, 0, none⟩), .agg m.cells.toArray, .slice sa xs.length sc] w fun e w' => ∃ a c, e = .returned (slv a (xs.map (m.sent p)).length c) ∧ Own B (.row a c 46 30 (xs.map (m.sent p)).length (msgs (xs.map (m.sent p))) :: .cells g 80 p.cells :: F) w' := by
  refine calls_ce (args := [.pointer (some ⟨g, 0, none⟩), .agg m.cells.toArray, .slice sa xs.length sc]) Try.func54 rfl rfl ?_
  change CE _ _ 46 _ _ [(0, .pointer (some ⟨g, 0, none⟩)), (1, .agg m.cells.toArray), (2, .slice sa xs.length sc)] _
  refine ce_seq ?_
  refine ce_text (tab := []) (soft := 2) (.op 0 (.op 1 .nil)) rfl rfl ?_
  refine re_box H rfl rfl rfl rfl rfl rfl ?_
  intro g4 w H
  refine ⟨(fun h => (nomatch h)), ?_⟩
  refine re_assign rfl rfl rfl rfl rfl ?_
  refine re_nil ?_
  refine qe_thenC ?_
  refine ce_seq ?_
  refine ce_text (tab := []) (soft := 1) (.op 0 .nil) rfl rfl ?_
  refine re_assign rfl rfl rfl rfl rfl ?_
  refine re_nil ?_
  refine qe_thenC ?_
  refine ce_seq ?_
  refine ce_seq ?_
  refine ce_text (tab := []) (soft := 7) (.op 0 (.op 1 (.op 2 .nil))) rfl rfl ?_
  refine re_move rfl rfl rfl rfl rfl ?_
  refine re_len rfl rfl rfl rfl rfl ul_31 ?_
  refine re_move rfl rfl rfl rfl rfl ?_
  refine re_nil ?_
  refine qe_thenC ?_
  refine ce_block ?_
  refine ce_loop (α := Nat × (Option Nat) × Nat × GM) (fun ⟨k, a, c, mm⟩ => [(0, .pointer (some ⟨g, 0, none⟩)), (4, .pointer (some ⟨g4, 0, none⟩)), (7, slv a k c), (10, .slice sa xs.length sc), (11, .int .i64 (xs.length : Int)), (12, .int .i64 (k : Int))]) (fun ⟨k, a, c, mm⟩ w => Own B (.row a c 46 30 k (msgs ((xs.take k).map (m.sent p))) :: .cells g4 46 mm.cells :: .cells g 80 p.cells :: F) w ∧ k ≤ xs.length ∧ ∀ x, mm.sent p x = m.sent p x) (fun ⟨k, a, c, mm⟩ => xs.length - k) (0, none, 0, m) (And.intro rfl (And.intro rfl (And.intro rfl (And.intro rfl (And.intro rfl (And.intro rfl trivial)))))) ⟨by simpa [msgs] using H.nil_row 46 30, Nat.zero_le _, fun _ => rfl⟩ ?_
  rintro ⟨k, a, c, mm⟩ w HW
  obtain ⟨H, hk, hmm⟩ := HW
  change CE _ _ _ _ _ [(0, .pointer (some ⟨g, 0, none⟩)), (4, .pointer (some ⟨g4, 0, none⟩)), (7, slv a k c), (10, .slice sa xs.length sc), (11, .int .i64 (xs.length : Int)), (12, .int .i64 (k : Int))] _
  refine ce_seq ?_
  refine ce_text (tab := []) (soft := 1) (.op 0 .nil) rfl rfl ?_
  refine re_bin rfl rfl rfl rfl rfl rfl rfl ?_
  refine re_nil ?_
  refine qe_thenC ?_
  refine ce_seq ?_
  refine ce_cond rfl (fun h0 => ?_) (fun h0 => ?_)
  · try simp only [zn1, zn2, zn3, zn4, zn5, zn6] at h0
    refine ce_skip ?_
    refine qe_thenC ?_
    refine ce_seq ?_
    refine ce_block ?_
    refine ce_seq ?_
    refine ce_text (tab := []) (soft := 7) (.op 0 (.op 1 (.op 2 .nil))) rfl rfl ?_
    have hlt : k < xs.length := by omega
    obtain ⟨ad, rfl, hA⟩ := hS.open_ H.to (by omega)
    obtain ⟨x, hx⟩ : ∃ x, x = xs[k] := ⟨_, rfl⟩
    refine re_index rfl rfl rfl rfl rfl rfl ul_31 ei_31 (by omega) (by omega) ?_
    refine re_loadW rfl rfl rfl rfl rfl (run_loadAt_one sh_3 (hA.int H hlt)) ?_
    rw [← hx]
    refine re_assign rfl rfl rfl rfl rfl ?_
    refine re_nil ?_
    refine qe_thenC ?_
    refine ce_seq ?_
    refine ce_text (tab := []) (soft := 767) (.op 0 (.op 1 (.op 2 (.op 3 (.op 4 (.op 5 (.op 6 (.op 7 (.op 8 (.op 9 (.op 10 .nil))))))))))) rfl rfl ?_
    refine re_move rfl rfl rfl rfl rfl ?_
    refine re_nilc rfl rfl rfl rfl rfl ?_
    first | refine re_field0 rfl rfl rfl rfl rfl fo_80_0 ?_ | refine re_field rfl rfl rfl rfl rfl fo_80_0 ?_ | refine re_fieldA rfl rfl rfl rfl rfl fo_80_0 ?_
    refine re_load H rfl rfl rfl rfl rfl sh_3 rfl ?_
    refine re_build rfl rfl rfl rfl rfl ze_36 pl_36 (by simp only [fillL, setMany, Value.cells, List.getElem?_cons_zero, List.getElem?_cons_succ, List.length_cons, List.length_nil, List.set_cons_zero, List.set_cons_succ, Nat.reduceAdd, Nat.reduceLeDiff, Nat.zero_add, and_self, ↓reduceIte]; rfl) ?_
    refine re_move rfl rfl rfl rfl rfl ?_
    refine re_build rfl rfl rfl rfl rfl ze_36 pl_36 (by simp only [fillL, setMany, Value.cells, List.getElem?_cons_zero, List.getElem?_cons_succ, List.length_cons, List.length_nil, List.set_cons_zero, List.set_cons_succ, Nat.reduceAdd, Nat.reduceLeDiff, Nat.zero_add, and_self, ↓reduceIte]; rfl) ?_
    first | refine re_field0 rfl rfl rfl rfl rfl fo_46_1 ?_ | refine re_field rfl rfl rfl rfl rfl fo_46_1 ?_ | refine re_fieldA rfl rfl rfl rfl rfl fo_46_1 ?_
    refine re_store H rfl rfl rfl rfl rfl rfl sh_36 rfl rfl rfl ?_
    intro cs w hcs H
    first | rw [setMany_whole rfl] at hcs | simp only [setMany, List.set_cons_zero, List.set_cons_succ, Nat.reduceAdd, Nat.zero_add, PS.cells, PS.over, GM.cells, Cmd.cells, List.cons_append, List.nil_append] at hcs
    subst hcs
    refine ⟨(fun h => (nomatch h)), ?_⟩
    first | refine re_field0 rfl rfl rfl rfl rfl fo_46_2 ?_ | refine re_field rfl rfl rfl rfl rfl fo_46_2 ?_ | refine re_fieldA rfl rfl rfl rfl rfl fo_46_2 ?_
    refine re_store H rfl rfl rfl rfl rfl rfl sh_36 rfl rfl rfl ?_
    intro cs w hcs H
    first | rw [setMany_whole rfl] at hcs | simp only [setMany, List.set_cons_zero, List.set_cons_succ, Nat.reduceAdd, Nat.zero_add, PS.cells, PS.over, GM.cells, Cmd.cells, List.cons_append, List.nil_append] at hcs
    subst hcs
    refine ⟨(fun h => (nomatch h)), ?_⟩
    refine re_nil ?_
    refine qe_thenC ?_
    refine ce_seq ?_
    refine ce_open (tab := [0, 1, 3, 7, 0, 16, 48, 112, 0, 256, 768, 1792, 15, 4111, 12543, 28927, 65535, 131071]) (soft := 90111) mixed (.op 0 (.op 1 (.op 2 (.op 3 (.op 4 (.op 5 (.op 6 (.op 7 (.op 8 (.op 9 (.op 10 (.op 11 (.op 12 (.op 13 (.op 14 (.op 15 (.op 16 (.op 17 .nil)))))))))))))))))) (by kernel_rfl) H ?_
    intro w H
    refine re_move rfl rfl rfl rfl rfl ?_
    refine re_nilc rfl rfl rfl rfl rfl ?_
    first | refine re_field0 rfl rfl rfl rfl rfl fo_80_1 ?_ | refine re_field rfl rfl rfl rfl rfl fo_80_1 ?_ | refine re_fieldA rfl rfl rfl rfl rfl fo_80_1 ?_
    refine re_load H rfl rfl rfl rfl rfl sh_3 rfl ?_
    refine re_move rfl rfl rfl rfl rfl ?_
    refine re_nilc rfl rfl rfl rfl rfl ?_
    first | refine re_field0 rfl rfl rfl rfl rfl fo_80_6 ?_ | refine re_field rfl rfl rfl rfl rfl fo_80_6 ?_ | refine re_fieldA rfl rfl rfl rfl rfl fo_80_6 ?_
    refine re_load H rfl rfl rfl rfl rfl sh_3 rfl ?_
    refine re_move rfl rfl rfl rfl rfl ?_
    refine re_nilc rfl rfl rfl rfl rfl ?_
    first | refine re_field0 rfl rfl rfl rfl rfl fo_80_2 ?_ | refine re_field rfl rfl rfl rfl rfl fo_80_2 ?_ | refine re_fieldA rfl rfl rfl rfl rfl fo_80_2 ?_
    refine re_load H rfl rfl rfl rfl rfl sh_24 (by first | exact rdAt_all rfl | (simp only [rdAt, PS.cells, PS.over, GM.cells, Cmd.cells, List.cons_append, List.nil_append, List.drop_succ_cons, List.drop_zero, List.take_succ_cons, List.take_zero, List.length_cons, List.length_nil, Nat.zero_add, Nat.reduceAdd, Nat.reduceLeDiff, Nat.le_refl, ↓reduceIte] <;> rfl)) ?_
    first | refine re_field0 rfl rfl rfl rfl rfl fo_46_3 ?_ | refine re_field rfl rfl rfl rfl rfl fo_46_3 ?_ | refine re_fieldA rfl rfl rfl rfl rfl fo_46_3 ?_
    refine re_store H rfl rfl rfl rfl rfl rfl sh_3 rfl rfl rfl ?_
    intro cs w hcs H
    first | rw [setMany_whole rfl] at hcs | simp only [setMany, List.set_cons_zero, List.set_cons_succ, Nat.reduceAdd, Nat.zero_add, PS.cells, PS.over, GM.cells, Cmd.cells, List.cons_append, List.nil_append] at hcs
    subst hcs
    refine ⟨(fun _ => ⟨fun _ => still_load H sh_24 (by first | exact rdAt_all rfl | (simp only [rdAt, PS.cells, PS.over, GM.cells, Cmd.cells, List.cons_append, List.nil_append, List.drop_succ_cons, List.drop_zero, List.take_succ_cons, List.take_zero, List.length_cons, List.length_nil, Nat.zero_add, Nat.reduceAdd, Nat.reduceLeDiff, Nat.le_refl, ↓reduceIte] <;> rfl)), fun _ => still_load H sh_3 rfl, ancs (i := 13) (j := 3) rfl, trivial⟩), ?_⟩
    first | refine re_field0 rfl rfl rfl rfl rfl fo_46_4 ?_ | refine re_field rfl rfl rfl rfl rfl fo_46_4 ?_ | refine re_fieldA rfl rfl rfl rfl rfl fo_46_4 ?_
    refine re_store H rfl rfl rfl rfl rfl rfl sh_3 rfl rfl rfl ?_
    intro cs w hcs H
    first | rw [setMany_whole rfl] at hcs | simp only [setMany, List.set_cons_zero, List.set_cons_succ, Nat.reduceAdd, Nat.zero_add, PS.cells, PS.over, GM.cells, Cmd.cells, List.cons_append, List.nil_append] at hcs
    subst hcs
    refine ⟨(fun _ => ⟨fun _ => still_load H sh_24 (by first | exact rdAt_all rfl | (simp only [rdAt, PS.cells, PS.over, GM.cells, Cmd.cells, List.cons_append, List.nil_append, List.drop_succ_cons, List.drop_zero, List.take_succ_cons, List.take_zero, List.length_cons, List.length_nil, Nat.zero_add, Nat.reduceAdd, Nat.reduceLeDiff, Nat.le_refl, ↓reduceIte] <;> rfl)), ancs (i := 15) (j := 7) rfl, ancs (i := 15) (j := 3) rfl, trivial⟩), ?_⟩
    first | refine re_field0 rfl rfl rfl rfl rfl fo_46_5 ?_ | refine re_field rfl rfl rfl rfl rfl fo_46_5 ?_ | refine re_fieldA rfl rfl rfl rfl rfl fo_46_5 ?_
    refine re_store H rfl rfl rfl rfl rfl rfl sh_24 rfl rfl rfl ?_
    intro cs w hcs H
    first | rw [setMany_whole rfl] at hcs | simp only [setMany, List.set_cons_zero, List.set_cons_succ, Nat.reduceAdd, Nat.zero_add, PS.cells, PS.over, GM.cells, Cmd.cells, List.cons_append, List.nil_append] at hcs
    subst hcs
    refine ⟨(fun _ => ⟨ancs (i := 17) (j := 11) rfl, ancs (i := 17) (j := 7) rfl, ancs (i := 17) (j := 3) rfl, trivial⟩), ?_⟩
    refine re_nil ?_
    refine qe_noPanic ?_
    refine qe_thenC ?_
    refine ce_text (tab := []) (soft := 19) (.op 0 (.op 1 (.op 2 (.op 3 (.op 4 .nil))))) rfl rfl ?_
    refine re_move rfl rfl rfl rfl rfl ?_
    refine re_load H rfl rfl rfl rfl rfl sh_46 (by first | exact rdAt_all rfl | (simp only [rdAt, PS.cells, PS.over, GM.cells, Cmd.cells, List.cons_append, List.nil_append, List.drop_succ_cons, List.drop_zero, List.take_succ_cons, List.take_zero, List.length_cons, List.length_nil, Nat.zero_add, Nat.reduceAdd, Nat.reduceLeDiff, Nat.le_refl, ↓reduceIte] <;> rfl)) ?_
    refine re_slice1 H rfl rfl rfl rfl rfl rfl ul_62 ei_62 ze_46 rfl rfl rfl (by decide) ?_
    intro g42 w H
    refine ⟨(fun h => (nomatch h)), ?_⟩
    refine re_append H rfl rfl rfl rfl rfl rfl ul_62 ei_62 ze_46 rfl (by decide) (src_cells H rfl) rfl (by omega) (by simp only [maxLen]; omega) ?_
    intro a' c' w H _
    simp only [List.set_cons_zero, List.set_cons_succ] at H
    refine ⟨(fun h => (nomatch h)), ?_⟩
    refine re_assign rfl rfl rfl rfl rfl ?_
    refine re_nil ?_
    refine qe_block_norm ?_
    refine qe_thenC ?_
    refine ce_text (tab := []) (soft := 3) (.op 0 (.op 1 .nil)) rfl rfl ?_
    first | refine re_add rfl rfl rfl rfl rfl rfl (by omega) ?_ | refine re_bin rfl rfl rfl rfl rfl rfl rfl ?_
    refine re_move rfl rfl rfl rfl rfl ?_
    refine re_nil ?_
    refine qe_round (x := (k, a, c, mm)) (k + 1, a', c', (mm.sent p x)) ?_ ?_ ?_
    · first | (dsimp only; omega) | omega
    · exact (And.intro rfl (And.intro rfl (And.intro rfl (And.intro rfl (And.intro rfl (And.intro rfl trivial))))))
    ·
      have H2 : Own B (.row a' c' 46 30 (k + 1) (msgs ((xs.take k).map (m.sent p)) ++ (mm.sent p x).cells) :: .cells g4 46 (mm.sent p x).cells :: .cells g 80 p.cells :: F) w := H.tail
      refine ⟨?_, by omega, fun y => by rw [← hmm y]; rfl⟩
      rw [List.take_succ_eq_append_getElem hlt, List.map_append, msgs, List.flatMap_append, List.map_singleton, List.flatMap_singleton, ← hx, ← hmm x]
      exact H2
  · try simp only [zn1, zn2, zn3, zn4, zn5, zn6] at h0
    refine ce_exit ?_
    refine qe_then_exit ?_
    refine qe_then_exit ?_
    refine qe_block_exit ?_
    refine qe_thenC ?_
    refine ce_seq ?_
    refine ce_text (tab := []) (soft := 3) (.op 0 (.op 1 .nil)) rfl rfl ?_
    refine re_move rfl rfl rfl rfl rfl ?_
    refine re_assign rfl rfl rfl rfl rfl ?_
    refine re_nil ?_
    refine qe_thenC ?_
    refine ce_ret ?_
    refine qe_end rfl rfl ?_
    obtain rfl : k = xs.length := by omega
    rw [List.take_length] at H
    rw [List.length_map]
    exact ⟨a, c, rfl, H.sub (.cons_cons _ (.cons _ (List.Sublist.refl _)))⟩
end Go.Proofs.Ytofaoblfemfkiaa

namespace Go.Proofs.Ytofaoblfemfkiaa
open Go Go.RowKit Go.Fw
set_option linter.unusedSimpArgs false
set_option linter.unusedVariables false
set_option maxRecDepth 4000
set_option maxHeartbeats 2000000
theorem fk_24 : flatK Try.prog 9 24 = some [.i, .i, .i, .i] := by kernel_rfl
theorem fk_36 : flatK Try.prog 9 36 = some [.b, .i] := by kernel_rfl
theorem fo_36_0 : fOff Try.prog 36 0 = some 0 := by kernel_rfl
theorem fo_36_1 : fOff Try.prog 36 1 = some 1 := by kernel_rfl
theorem ng_24 : notGuarded Try.prog 24 = true := by kernel_rfl
theorem ng_36 : notGuarded Try.prog 36 = true := by kernel_rfl

theorem forMe_s {B w : World} {F : List Ent} {g : Nat} {p : PS} {m : GM} (H : Own B (.cells g 80 p.cells :: .row p.ga p.gc 3 1 p.gs.length (ints p.gs) :: F) w) (hn : p.gs.length ≤ 1000000) :
    Calls Try.prog 43 #[.pointer (some ⟨g, 0, none⟩), .agg m.cells.toArray] w fun e w' => e = .returned (.bool (p.wants m)) ∧ Own B (.cells g 80 p.cells :: .row p.ga p.gc 3 1 p.gs.length (ints p.gs) :: F) w' := by
  refine calls_ce (args := [.pointer (some ⟨g, 0, none⟩), .agg m.cells.toArray]) Try.func43 rfl rfl ?_
  change CE _ _ 56 _ _ [(0, .pointer (some ⟨g, 0, none⟩)), (1, .agg m.cells.toArray)] _
  refine ce_seq ?_
  refine ce_text (tab := []) (soft := 2) (.op 0 (.op 1 .nil)) rfl rfl ?_
  refine re_box H rfl rfl rfl rfl rfl rfl ?_
  intro g3 w H
  refine ⟨(fun h => (nomatch h)), ?_⟩
  refine re_assign rfl rfl rfl rfl rfl ?_
  refine re_nil ?_
  refine qe_thenC ?_
  refine ce_seq ?_
  refine ce_open (tab := [0, 1, 3, 7, 15, 31, 63, 127, 255, 31, 543, 1567, 4095, 8191, 16383, 32767, 65535, 32767, 163839, 425983, 950271, 1998847, 4194303, 8388607, 16777215, 33554431, 67108863, 33554431, 167772159, 436207615, 973078527, 2147483647, 4294967295, 8589934591, 17179869183, 34359738367, 17179869183, 85899345919, 223338299391, 498216206335, 1099511627775, 2199023255551, 4398046511103, 8796093022207, 17592186044415, 8796093022207, 43980465111039, 114349209288703, 255086697644031, 562949953421311, 1125899906842623, 2251799813685247]) (soft := 4503599627366399) mixed (.op 0 (.op 1 (.op 2 (.op 3 (.op 4 (.op 5 (.op 6 (.op 7 (.op 8 (.op 9 (.op 10 (.op 11 (.op 12 (.op 13 (.op 14 (.op 15 (.op 16 (.op 17 (.op 18 (.op 19 (.op 20 (.op 21 (.op 22 (.op 23 (.op 24 (.op 25 (.op 26 (.op 27 (.op 28 (.op 29 (.op 30 (.op 31 (.op 32 (.op 33 (.op 34 (.op 35 (.op 36 (.op 37 (.op 38 (.op 39 (.op 40 (.op 41 (.op 42 (.op 43 (.op 44 (.op 45 (.op 46 (.op 47 (.op 48 (.op 49 (.op 50 (.op 51 .nil)))))))))))))))))))))))))))))))))))))))))))))))))))) (by kernel_rfl) H ?_
  intro w H
  first | refine re_field0 rfl rfl rfl rfl rfl fo_46_1 ?_ | refine re_field rfl rfl rfl rfl rfl fo_46_1 ?_ | refine re_fieldA rfl rfl rfl rfl rfl fo_46_1 ?_
  first | refine re_field0 rfl rfl rfl rfl rfl fo_36_0 ?_ | refine re_field rfl rfl rfl rfl rfl fo_36_0 ?_ | refine re_fieldA rfl rfl rfl rfl rfl fo_36_0 ?_
  refine re_load H rfl rfl rfl rfl rfl sh_4 rfl ?_
  refine re_not rfl rfl rfl rfl rfl ?_
  refine re_move rfl rfl rfl rfl rfl ?_
  refine re_split (fun hg1_4 => ?_) (fun hg1_4 => ?_)
  ·
    refine re_move rfl rfl rfl rfl rfl ?_
    refine re_nilc rfl rfl rfl rfl rfl ?_
    first | refine re_field0 rfl rfl rfl rfl rfl fo_80_3 ?_ | refine re_field rfl rfl rfl rfl rfl fo_80_3 ?_ | refine re_fieldA rfl rfl rfl rfl rfl fo_80_3 ?_
    refine re_load H rfl rfl rfl rfl rfl sh_31 rfl ?_
    first | refine re_field0 rfl rfl rfl rfl rfl fo_46_1 ?_ | refine re_field rfl rfl rfl rfl rfl fo_46_1 ?_ | refine re_fieldA rfl rfl rfl rfl rfl fo_46_1 ?_
    first | refine re_field0 rfl rfl rfl rfl rfl fo_36_1 ?_ | refine re_field rfl rfl rfl rfl rfl fo_36_1 ?_ | refine re_fieldA rfl rfl rfl rfl rfl fo_36_1 ?_
    refine re_load H rfl rfl rfl rfl rfl sh_3 rfl ?_
    refine re_call en_50 rfl rfl rfl rfl rfl ?_
    refine Calls.mono (contains_s (H.rsees p.ga) H hn) ?_
    rintro e w ⟨rfl, H⟩
    refine ⟨_, rfl, (fun _ => ⟨ancs (i := 12) (j := 11) rfl, ancs (i := 12) (j := 8) rfl, ancs (i := 12) (j := 2) rfl, trivial⟩), ?_⟩
    refine re_pickT rfl rfl rfl rfl rfl rfl ?_
    refine re_move rfl rfl rfl rfl rfl ?_
    refine re_split (fun hg1_14 => ?_) (fun hg1_14 => ?_)
    ·
      first | refine re_field0 rfl rfl rfl rfl rfl fo_46_2 ?_ | refine re_field rfl rfl rfl rfl rfl fo_46_2 ?_ | refine re_fieldA rfl rfl rfl rfl rfl fo_46_2 ?_
      refine re_load H rfl rfl rfl rfl rfl sh_36 (by first | exact rdAt_all rfl | (simp only [rdAt, PS.cells, PS.over, GM.cells, Cmd.cells, List.cons_append, List.nil_append, List.drop_succ_cons, List.drop_zero, List.take_succ_cons, List.take_zero, List.length_cons, List.length_nil, Nat.zero_add, Nat.reduceAdd, Nat.reduceLeDiff, Nat.le_refl, ↓reduceIte] <;> rfl)) ?_
      refine re_move rfl rfl rfl rfl rfl ?_
      refine re_nilc rfl rfl rfl rfl rfl ?_
      first | refine re_field0 rfl rfl rfl rfl rfl fo_80_0 ?_ | refine re_field rfl rfl rfl rfl rfl fo_80_0 ?_ | refine re_fieldA rfl rfl rfl rfl rfl fo_80_0 ?_
      refine re_load H rfl rfl rfl rfl rfl sh_3 rfl ?_
      refine re_build rfl rfl rfl rfl rfl ze_36 pl_36 (by simp only [fillL, setMany, Value.cells, List.getElem?_cons_zero, List.getElem?_cons_succ, List.length_cons, List.length_nil, List.set_cons_zero, List.set_cons_succ, Nat.reduceAdd, Nat.reduceLeDiff, Nat.zero_add, and_self, ↓reduceIte]; rfl) ?_
      refine re_eqAgg rfl rfl rfl rfl rfl rfl fk_36 sh_36 ng_36 (by simp only [eqKs, eqK, ↓reduceIte]; rfl) ?_
      refine re_pickT rfl rfl rfl rfl rfl rfl ?_
      refine re_move rfl rfl rfl rfl rfl ?_
      refine re_split (fun hg1_24 => ?_) (fun hg1_24 => ?_)
      ·
        first | refine re_field0 rfl rfl rfl rfl rfl fo_46_3 ?_ | refine re_field rfl rfl rfl rfl rfl fo_46_3 ?_ | refine re_fieldA rfl rfl rfl rfl rfl fo_46_3 ?_
        refine re_load H rfl rfl rfl rfl rfl sh_3 rfl ?_
        refine re_move rfl rfl rfl rfl rfl ?_
        refine re_nilc rfl rfl rfl rfl rfl ?_
        first | refine re_field0 rfl rfl rfl rfl rfl fo_80_1 ?_ | refine re_field rfl rfl rfl rfl rfl fo_80_1 ?_ | refine re_fieldA rfl rfl rfl rfl rfl fo_80_1 ?_
        refine re_load H rfl rfl rfl rfl rfl sh_3 rfl ?_
        refine re_bin rfl rfl rfl rfl rfl rfl rfl ?_
        refine re_pickT rfl rfl rfl rfl rfl rfl ?_
        refine re_move rfl rfl rfl rfl rfl ?_
        refine re_split (fun hg1_33 => ?_) (fun hg1_33 => ?_)
        ·
          first | refine re_field0 rfl rfl rfl rfl rfl fo_46_4 ?_ | refine re_field rfl rfl rfl rfl rfl fo_46_4 ?_ | refine re_fieldA rfl rfl rfl rfl rfl fo_46_4 ?_
          refine re_load H rfl rfl rfl rfl rfl sh_3 rfl ?_
          refine re_move rfl rfl rfl rfl rfl ?_
          refine re_nilc rfl rfl rfl rfl rfl ?_
          first | refine re_field0 rfl rfl rfl rfl rfl fo_80_6 ?_ | refine re_field rfl rfl rfl rfl rfl fo_80_6 ?_ | refine re_fieldA rfl rfl rfl rfl rfl fo_80_6 ?_
          refine re_load H rfl rfl rfl rfl rfl sh_3 rfl ?_
          refine re_bin rfl rfl rfl rfl rfl rfl rfl ?_
          refine re_pickT rfl rfl rfl rfl rfl rfl ?_
          refine re_move rfl rfl rfl rfl rfl ?_
          refine re_split (fun hg1_42 => ?_) (fun hg1_42 => ?_)
          ·
            first | refine re_field0 rfl rfl rfl rfl rfl fo_46_5 ?_ | refine re_field rfl rfl rfl rfl rfl fo_46_5 ?_ | refine re_fieldA rfl rfl rfl rfl rfl fo_46_5 ?_
            refine re_load H rfl rfl rfl rfl rfl sh_24 (by first | exact rdAt_all rfl | (simp only [rdAt, PS.cells, PS.over, GM.cells, Cmd.cells, List.cons_append, List.nil_append, List.drop_succ_cons, List.drop_zero, List.take_succ_cons, List.take_zero, List.length_cons, List.length_nil, Nat.zero_add, Nat.reduceAdd, Nat.reduceLeDiff, Nat.le_refl, ↓reduceIte] <;> rfl)) ?_
            refine re_move rfl rfl rfl rfl rfl ?_
            refine re_nilc rfl rfl rfl rfl rfl ?_
            first | refine re_field0 rfl rfl rfl rfl rfl fo_80_2 ?_ | refine re_field rfl rfl rfl rfl rfl fo_80_2 ?_ | refine re_fieldA rfl rfl rfl rfl rfl fo_80_2 ?_
            refine re_load H rfl rfl rfl rfl rfl sh_24 (by first | exact rdAt_all rfl | (simp only [rdAt, PS.cells, PS.over, GM.cells, Cmd.cells, List.cons_append, List.nil_append, List.drop_succ_cons, List.drop_zero, List.take_succ_cons, List.take_zero, List.length_cons, List.length_nil, Nat.zero_add, Nat.reduceAdd, Nat.reduceLeDiff, Nat.le_refl, ↓reduceIte] <;> rfl)) ?_
            refine re_eqAgg rfl rfl rfl rfl rfl rfl fk_24 sh_24 ng_24 (by simp only [eqKs, eqK, ↓reduceIte]; rfl) ?_
            refine re_pickT rfl rfl rfl rfl rfl rfl ?_
            refine re_assign rfl rfl rfl rfl rfl ?_
            refine re_nil ?_
            refine qe_noPanic ?_
            refine qe_thenC ?_
            refine ce_ret ?_
            refine qe_end rfl rfl ?_
            exact ⟨by simp only [PS.wants, hg1_4, hg1_14, hg1_24, hg1_33, hg1_42, Bool.true_and, Bool.false_and], H.sub (.cons _ (List.Sublist.refl _))⟩
          ·
            refine re_skip1 rfl rfl rfl ?_
            refine re_skip1 rfl rfl rfl ?_
            refine re_skip1 rfl rfl rfl ?_
            refine re_skip1 rfl rfl rfl ?_
            refine re_skip1 rfl rfl rfl ?_
            refine re_skip1 rfl rfl rfl ?_
            refine re_skip1 rfl rfl rfl ?_
            refine re_pickF rfl rfl rfl rfl rfl rfl ?_
            refine re_assign rfl rfl rfl rfl rfl ?_
            refine re_nil ?_
            refine qe_noPanic ?_
            refine qe_thenC ?_
            refine ce_ret ?_
            refine qe_end rfl rfl ?_
            exact ⟨by simp only [PS.wants, hg1_4, hg1_14, hg1_24, hg1_33, hg1_42, Bool.true_and, Bool.false_and], H.sub (.cons _ (List.Sublist.refl _))⟩
        ·
          refine re_skip1 rfl rfl rfl ?_
          refine re_skip1 rfl rfl rfl ?_
          refine re_skip1 rfl rfl rfl ?_
          refine re_skip1 rfl rfl rfl ?_
          refine re_skip1 rfl rfl rfl ?_
          refine re_skip1 rfl rfl rfl ?_
          refine re_skip1 rfl rfl rfl ?_
          refine re_pickF rfl rfl rfl rfl rfl rfl ?_
          refine re_move rfl rfl rfl rfl rfl ?_
          refine re_skip1 rfl rfl rfl ?_
          refine re_skip1 rfl rfl rfl ?_
          refine re_skip1 rfl rfl rfl ?_
          refine re_skip1 rfl rfl rfl ?_
          refine re_skip1 rfl rfl rfl ?_
          refine re_skip1 rfl rfl rfl ?_
          refine re_skip1 rfl rfl rfl ?_
          refine re_pickF rfl rfl rfl rfl rfl rfl ?_
          refine re_assign rfl rfl rfl rfl rfl ?_
          refine re_nil ?_
          refine qe_noPanic ?_
          refine qe_thenC ?_
          refine ce_ret ?_
          refine qe_end rfl rfl ?_
          exact ⟨by simp only [PS.wants, hg1_4, hg1_14, hg1_24, hg1_33, Bool.true_and, Bool.false_and], H.sub (.cons _ (List.Sublist.refl _))⟩
      ·
        refine re_skip1 rfl rfl rfl ?_
        refine re_skip1 rfl rfl rfl ?_
        refine re_skip1 rfl rfl rfl ?_
        refine re_skip1 rfl rfl rfl ?_
        refine re_skip1 rfl rfl rfl ?_
        refine re_skip1 rfl rfl rfl ?_
        refine re_skip1 rfl rfl rfl ?_
        refine re_pickF rfl rfl rfl rfl rfl rfl ?_
        refine re_move rfl rfl rfl rfl rfl ?_
        refine re_skip1 rfl rfl rfl ?_
        refine re_skip1 rfl rfl rfl ?_
        refine re_skip1 rfl rfl rfl ?_
        refine re_skip1 rfl rfl rfl ?_
        refine re_skip1 rfl rfl rfl ?_
        refine re_skip1 rfl rfl rfl ?_
        refine re_skip1 rfl rfl rfl ?_
        refine re_pickF rfl rfl rfl rfl rfl rfl ?_
        refine re_move rfl rfl rfl rfl rfl ?_
        refine re_skip1 rfl rfl rfl ?_
        refine re_skip1 rfl rfl rfl ?_
        refine re_skip1 rfl rfl rfl ?_
        refine re_skip1 rfl rfl rfl ?_
        refine re_skip1 rfl rfl rfl ?_
        refine re_skip1 rfl rfl rfl ?_
        refine re_skip1 rfl rfl rfl ?_
        refine re_pickF rfl rfl rfl rfl rfl rfl ?_
        refine re_assign rfl rfl rfl rfl rfl ?_
        refine re_nil ?_
        refine qe_noPanic ?_
        refine qe_thenC ?_
        refine ce_ret ?_
        refine qe_end rfl rfl ?_
        exact ⟨by simp only [PS.wants, hg1_4, hg1_14, hg1_24, Bool.true_and, Bool.false_and], H.sub (.cons _ (List.Sublist.refl _))⟩
    ·
      refine re_skip1 rfl rfl rfl ?_
      refine re_skip1 rfl rfl rfl ?_
      refine re_skip1 rfl rfl rfl ?_
      refine re_skip1 rfl rfl rfl ?_
      refine re_skip1 rfl rfl rfl ?_
      refine re_skip1 rfl rfl rfl ?_
      refine re_skip1 rfl rfl rfl ?_
      refine re_skip1 rfl rfl rfl ?_
      refine re_pickF rfl rfl rfl rfl rfl rfl ?_
      refine re_move rfl rfl rfl rfl rfl ?_
      refine re_skip1 rfl rfl rfl ?_
      refine re_skip1 rfl rfl rfl ?_
      refine re_skip1 rfl rfl rfl ?_
      refine re_skip1 rfl rfl rfl ?_
      refine re_skip1 rfl rfl rfl ?_
      refine re_skip1 rfl rfl rfl ?_
      refine re_skip1 rfl rfl rfl ?_
      refine re_pickF rfl rfl rfl rfl rfl rfl ?_
      refine re_move rfl rfl rfl rfl rfl ?_
      refine re_skip1 rfl rfl rfl ?_
      refine re_skip1 rfl rfl rfl ?_
      refine re_skip1 rfl rfl rfl ?_
      refine re_skip1 rfl rfl rfl ?_
      refine re_skip1 rfl rfl rfl ?_
      refine re_skip1 rfl rfl rfl ?_
      refine re_skip1 rfl rfl rfl ?_
      refine re_pickF rfl rfl rfl rfl rfl rfl ?_
      refine re_move rfl rfl rfl rfl rfl ?_
      refine re_skip1 rfl rfl rfl ?_
      refine re_skip1 rfl rfl rfl ?_
      refine re_skip1 rfl rfl rfl ?_
      refine re_skip1 rfl rfl rfl ?_
      refine re_skip1 rfl rfl rfl ?_
      refine re_skip1 rfl rfl rfl ?_
      refine re_skip1 rfl rfl rfl ?_
      refine re_pickF rfl rfl rfl rfl rfl rfl ?_
      refine re_assign rfl rfl rfl rfl rfl ?_
      refine re_nil ?_
      refine qe_noPanic ?_
      refine qe_thenC ?_
      refine ce_ret ?_
      refine qe_end rfl rfl ?_
      exact ⟨by simp only [PS.wants, hg1_4, hg1_14, Bool.true_and, Bool.false_and], H.sub (.cons _ (List.Sublist.refl _))⟩
  ·
    refine re_skip1 rfl rfl rfl ?_
    refine re_skip1 rfl rfl rfl ?_
    refine re_skip1 rfl rfl rfl ?_
    refine re_skip1 rfl rfl rfl ?_
    refine re_skip1 rfl rfl rfl ?_
    refine re_skip1 rfl rfl rfl ?_
    refine re_skip1 rfl rfl rfl ?_
    refine re_skip1 rfl rfl rfl ?_
    refine re_pickF rfl rfl rfl rfl rfl rfl ?_
    refine re_move rfl rfl rfl rfl rfl ?_
    refine re_skip1 rfl rfl rfl ?_
    refine re_skip1 rfl rfl rfl ?_
    refine re_skip1 rfl rfl rfl ?_
    refine re_skip1 rfl rfl rfl ?_
    refine re_skip1 rfl rfl rfl ?_
    refine re_skip1 rfl rfl rfl ?_
    refine re_skip1 rfl rfl rfl ?_
    refine re_skip1 rfl rfl rfl ?_
    refine re_pickF rfl rfl rfl rfl rfl rfl ?_
    refine re_move rfl rfl rfl rfl rfl ?_
    refine re_skip1 rfl rfl rfl ?_
    refine re_skip1 rfl rfl rfl ?_
    refine re_skip1 rfl rfl rfl ?_
    refine re_skip1 rfl rfl rfl ?_
    refine re_skip1 rfl rfl rfl ?_
    refine re_skip1 rfl rfl rfl ?_
    refine re_skip1 rfl rfl rfl ?_
    refine re_pickF rfl rfl rfl rfl rfl rfl ?_
    refine re_move rfl rfl rfl rfl rfl ?_
    refine re_skip1 rfl rfl rfl ?_
    refine re_skip1 rfl rfl rfl ?_
    refine re_skip1 rfl rfl rfl ?_
    refine re_skip1 rfl rfl rfl ?_
    refine re_skip1 rfl rfl rfl ?_
    refine re_skip1 rfl rfl rfl ?_
    refine re_skip1 rfl rfl rfl ?_
    refine re_pickF rfl rfl rfl rfl rfl rfl ?_
    refine re_move rfl rfl rfl rfl rfl ?_
    refine re_skip1 rfl rfl rfl ?_
    refine re_skip1 rfl rfl rfl ?_
    refine re_skip1 rfl rfl rfl ?_
    refine re_skip1 rfl rfl rfl ?_
    refine re_skip1 rfl rfl rfl ?_
    refine re_skip1 rfl rfl rfl ?_
    refine re_skip1 rfl rfl rfl ?_
    refine re_pickF rfl rfl rfl rfl rfl rfl ?_
    refine re_assign rfl rfl rfl rfl rfl ?_
    refine re_nil ?_
    refine qe_noPanic ?_
    refine qe_thenC ?_
    refine ce_ret ?_
    refine qe_end rfl rfl ?_
    exact ⟨by simp only [PS.wants, hg1_4, Bool.true_and, Bool.false_and], H.sub (.cons _ (List.Sublist.refl _))⟩
end Go.Proofs.Ytofaoblfemfkiaa

namespace Go.Proofs.Ytofaoblfemfkiaa
open Go Go.RowKit Go.Fw
set_option linter.unusedSimpArgs false
set_option linter.unusedVariables false
set_option maxRecDepth 4000
set_option maxHeartbeats 2000000
theorem en_109 : Enterable Try.prog 109 := ⟨Try.f109, Try.func109, rfl, by decide⟩
theorem en_110 : Enterable Try.prog 110 := ⟨Try.f110, Try.func110, rfl, by decide⟩
theorem en_19 : Enterable Try.prog 19 := ⟨Try.f19, Try.func19, rfl, by decide⟩
theorem en_20 : Enterable Try.prog 20 := ⟨Try.f20, Try.func20, rfl, by decide⟩
theorem en_54 : Enterable Try.prog 54 := ⟨Try.f54, Try.func54, rfl, by decide⟩
theorem en_71 : Enterable Try.prog 71 := ⟨Try.f71, Try.func71, rfl, by decide⟩
theorem fo_80_8 : fOff Try.prog 80 8 = some 19 := by kernel_rfl
theorem fo_80_9 : fOff Try.prog 80 9 = some 20 := by kernel_rfl
theorem mth_131_109 : methodOf Try.prog 131 "cairn/proposer.message" = some 109 := by kernel_rfl
theorem mth_137_110 : methodOf Try.prog 137 "cairn/proposer.message" = some 110 := by kernel_rfl
theorem sh_74 : shapeOf Try.prog 74 = some (false, 1) := by kernel_rfl

theorem fresh_s {B w : World} {F : List Ent} {g : Nat} {p : PS} {m : GM} {ht hm hc : Nat} {ha : Option Nat} {hs : List Int} (H : Own B (.cells g 80 p.cells :: .cells ht 109 [slv ha p.gs.length hc, .int .i64 ((p.gs.length : Int) + 1), .map (some hm)] :: .row ha hc 3 1 p.gs.length (ints p.gs) :: .imap hm (heardK hs) :: F) w) (hh : p.hd = .pointer (some ⟨ht, 0, none⟩)) (hn : p.gs.length ≤ 1000000) (hl : hs.length ≤ p.gs.length) :
    Calls Try.prog 48 #[.pointer (some ⟨g, 0, none⟩), .agg m.cells.toArray] w fun e w' => e = .returned (.bool (p.fresh hs m.fi)) ∧ Own B (.cells g 80 p.cells :: .cells ht 109 [slv ha p.gs.length hc, .int .i64 ((p.gs.length : Int) + 1), .map (some hm)] :: .row ha hc 3 1 p.gs.length (ints p.gs) :: .imap hm (heardK (if p.fresh hs m.fi then hs ++ [m.fi] else hs)) :: F) w' := by
  refine calls_ce (args := [.pointer (some ⟨g, 0, none⟩), .agg m.cells.toArray]) Try.func48 rfl rfl ?_
  change CE _ _ 23 _ _ [(0, .pointer (some ⟨g, 0, none⟩)), (1, .agg m.cells.toArray)] _
  refine ce_seq ?_
  refine ce_text (tab := []) (soft := 2) (.op 0 (.op 1 .nil)) rfl rfl ?_
  refine re_box H rfl rfl rfl rfl rfl rfl ?_
  intro g3 w H
  refine ⟨(fun h => (nomatch h)), ?_⟩
  refine re_assign rfl rfl rfl rfl rfl ?_
  refine re_nil ?_
  refine qe_thenC ?_
  refine ce_seq ?_
  refine ce_seq ?_
  refine ce_open (tab := [0, 1, 3, 7, 15, 0, 32, 96, 255, 511]) (soft := 751) mixed (.op 0 (.op 1 (.op 2 (.op 3 (.op 5 (.op 6 (.op 7 (.op 4 (.op 8 (.op 9 .nil)))))))))) (by kernel_rfl) H ?_
  intro w H
  refine re_move rfl rfl rfl rfl rfl ?_
  refine re_nilc rfl rfl rfl rfl rfl ?_
  first | refine re_field0 rfl rfl rfl rfl rfl fo_80_9 ?_ | refine re_field rfl rfl rfl rfl rfl fo_80_9 ?_ | refine re_fieldA rfl rfl rfl rfl rfl fo_80_9 ?_
  refine re_load H rfl rfl rfl rfl rfl sh_74 rfl ?_
  first | refine re_field0 rfl rfl rfl rfl rfl fo_46_1 ?_ | refine re_field rfl rfl rfl rfl rfl fo_46_1 ?_ | refine re_fieldA rfl rfl rfl rfl rfl fo_46_1 ?_
  first | refine re_field0 rfl rfl rfl rfl rfl fo_36_1 ?_ | refine re_field rfl rfl rfl rfl rfl fo_36_1 ?_ | refine re_fieldA rfl rfl rfl rfl rfl fo_36_1 ?_
  refine re_load H rfl rfl rfl rfl rfl sh_3 rfl ?_
  refine re_call en_20 rfl rfl rfl rfl rfl ?_
  simp only [hh]
  have H := Own.arr [4, 4, 4] H
  simp only [arrs, Fw.front, zm1, zm2, zm3, zm4, zm5] at H
  refine Calls.mono (missingB H hn) ?_
  rintro e w ⟨a2, c2, rfl, H⟩
  refine ⟨_, rfl, (fun _ => ⟨fun _ => still_load H sh_3 rfl, ancs (i := 4) (j := 3) rfl, trivial⟩), ?_⟩
  refine re_call en_50 rfl rfl rfl rfl rfl ?_
  refine Calls.mono (contains_s (H.rsees a2) H (Nat.le_trans (missing_length _ _) hn)) ?_
  rintro e w ⟨rfl, H⟩
  refine ⟨_, rfl, (fun _ => ⟨ancs (i := 8) (j := 7) rfl, ancs (i := 8) (j := 3) rfl, trivial⟩), ?_⟩
  refine re_not rfl rfl rfl rfl rfl ?_
  refine re_nil ?_
  refine qe_noPanic ?_
  refine qe_thenC ?_
  refine ce_cond rfl (fun h0 => ?_) (fun h0 => ?_)
  · try simp only [zn1, zn2, zn3, zn4, zn5, zn6] at h0
    refine ce_seq ?_
    refine ce_text (tab := []) (soft := 1) (.op 0 .nil) rfl rfl ?_
    refine re_assign rfl rfl rfl rfl rfl ?_
    refine re_nil ?_
    refine qe_thenC ?_
    refine ce_ret ?_
    refine qe_then_ret ?_
    refine qe_end rfl rfl ?_
    have hf : p.fresh hs m.fi = false := by simpa [PS.fresh] using h0
    rw [hf]
    have H := H.tail
    have H := H.front 4
    simp only [arrs, Fw.front, zm1, zm2, zm3, zm4, zm5] at H
    exact ⟨rfl, H.sub (.cons_cons _ (.cons_cons _ (.cons_cons _ (.cons_cons _ (.cons _ (List.Sublist.refl _))))))⟩
  · try simp only [zn1, zn2, zn3, zn4, zn5, zn6] at h0
    refine ce_skip ?_
    refine qe_thenC ?_
    refine ce_seq ?_
    refine ce_open (tab := [0, 1, 3, 7, 0, 16, 48, 127]) (soft := 127) mixed (.op 0 (.op 1 (.op 2 (.op 3 (.op 4 (.op 5 (.op 6 (.op 7 .nil)))))))) (by kernel_rfl) H ?_
    intro w H
    refine re_move rfl rfl rfl rfl rfl ?_
    refine re_nilc rfl rfl rfl rfl rfl ?_
    first | refine re_field0 rfl rfl rfl rfl rfl fo_80_9 ?_ | refine re_field rfl rfl rfl rfl rfl fo_80_9 ?_ | refine re_fieldA rfl rfl rfl rfl rfl fo_80_9 ?_
    refine re_load H rfl rfl rfl rfl rfl sh_74 rfl ?_
    first | refine re_field0 rfl rfl rfl rfl rfl fo_46_1 ?_ | refine re_field rfl rfl rfl rfl rfl fo_46_1 ?_ | refine re_fieldA rfl rfl rfl rfl rfl fo_46_1 ?_
    first | refine re_field0 rfl rfl rfl rfl rfl fo_36_1 ?_ | refine re_field rfl rfl rfl rfl rfl fo_36_1 ?_ | refine re_fieldA rfl rfl rfl rfl rfl fo_36_1 ?_
    refine re_load H rfl rfl rfl rfl rfl sh_3 rfl ?_
    refine re_call en_71 rfl rfl rfl rfl rfl ?_
    simp only [hh]
    have H := H.tail
    refine Calls.mono (takeB H hn) ?_
    rintro e w ⟨rfl, H⟩
    refine ⟨_, rfl, (fun _ => ⟨ancs (i := 7) (j := 6) rfl, ancs (i := 7) (j := 3) rfl, trivial⟩), ?_⟩
    refine re_nil ?_
    refine qe_noPanic ?_
    refine qe_thenC ?_
    refine ce_seq ?_
    refine ce_text (tab := []) (soft := 1) (.op 0 .nil) rfl rfl ?_
    refine re_assign rfl rfl rfl rfl rfl ?_
    refine re_nil ?_
    refine qe_thenC ?_
    refine ce_ret ?_
    refine qe_end rfl rfl ?_
    have hm : m.fi ∈ missing p.gs (heardK hs) := by simpa using h0
    have hf : p.fresh hs m.fi = true := by simpa [PS.fresh] using h0
    rw [hf]
    rw [takeK_heard hm (by omega)] at H
    have H := H.front 4
    simp only [arrs, Fw.front, zm1, zm2, zm3, zm4, zm5] at H
    exact ⟨rfl, H.sub (.cons_cons _ (.cons_cons _ (.cons_cons _ (.cons_cons _ (.cons _ (List.Sublist.refl _))))))⟩

theorem enterP {B w : World} {F : List Ent} {g : Nat} {p : PS} {q : Nat} (H : Own B (.cells g 80 p.cells :: .row p.ga p.gc 3 1 p.gs.length (ints p.gs) :: F) w) (hn : p.gs.length ≤ 1000000) (hu : unlike p.gs = p.gs) :
    Calls Try.prog 68 #[.pointer (some ⟨g, 0, none⟩), phP q] w fun e w' => ∃ ht ha hc hm a c, e = .returned (slv a (p.outP p.gs).length c) ∧ Own B (.row a c 46 30 (p.outP p.gs).length (msgs (p.outP p.gs)) :: .cells g 80 (p.enter (phP q) ht).cells :: .row p.ga p.gc 3 1 p.gs.length (ints p.gs) :: .cells ht 109 [slv ha p.gs.length hc, .int .i64 ((p.gs.length : Int) + 1), .map (some hm)] :: .row ha hc 3 1 p.gs.length (ints p.gs) :: .imap hm (heardK []) :: F) w' := by
  refine calls_ce (args := [.pointer (some ⟨g, 0, none⟩), phP q]) Try.func68 rfl rfl ?_
  change CE _ _ 35 _ _ [(0, .pointer (some ⟨g, 0, none⟩)), (1, phP q)] _
  refine ce_seq ?_
  refine ce_text (tab := []) (soft := 1) (.op 0 .nil) rfl rfl ?_
  refine re_assign rfl rfl rfl rfl rfl ?_
  refine re_nil ?_
  refine qe_thenC ?_
  refine ce_seq ?_
  refine ce_text (tab := []) (soft := 223) (.op 0 (.op 1 (.op 2 (.op 3 (.op 4 (.op 5 (.op 6 (.op 7 (.op 8 .nil))))))))) rfl rfl ?_
  refine re_move rfl rfl rfl rfl rfl ?_
  refine re_move rfl rfl rfl rfl rfl ?_
  refine re_move rfl rfl rfl rfl rfl ?_
  refine re_nilc rfl rfl rfl rfl rfl ?_
  first | refine re_field0 rfl rfl rfl rfl rfl fo_80_10 ?_ | refine re_field rfl rfl rfl rfl rfl fo_80_10 ?_ | refine re_fieldA rfl rfl rfl rfl rfl fo_80_10 ?_
  refine re_store H rfl rfl rfl rfl rfl rfl sh_76 rfl rfl rfl ?_
  intro cs w hcs H
  first | rw [setMany_whole rfl] at hcs | simp only [setMany, List.set_cons_zero, List.set_cons_succ, Nat.reduceAdd, Nat.zero_add, PS.cells, PS.over, GM.cells, Cmd.cells, List.cons_append, List.nil_append] at hcs
  subst hcs
  refine ⟨(fun h => (nomatch h)), ?_⟩
  refine re_nilc rfl rfl rfl rfl rfl ?_
  first | refine re_field0 rfl rfl rfl rfl rfl fo_80_8 ?_ | refine re_field rfl rfl rfl rfl rfl fo_80_8 ?_ | refine re_fieldA rfl rfl rfl rfl rfl fo_80_8 ?_
  refine re_store H rfl rfl rfl rfl rfl rfl sh_4 rfl rfl rfl ?_
  intro cs w hcs H
  first | rw [setMany_whole rfl] at hcs | simp only [setMany, List.set_cons_zero, List.set_cons_succ, Nat.reduceAdd, Nat.zero_add, PS.cells, PS.over, GM.cells, Cmd.cells, List.cons_append, List.nil_append] at hcs
  subst hcs
  refine ⟨(fun h => (nomatch h)), ?_⟩
  refine re_nil ?_
  refine qe_thenC ?_
  refine ce_seq ?_
  refine ce_open (tab := [0, 0, 2, 6, 14, 0, 32, 96, 224, 480, 992, 2046, 4095, 8191, 16383]) (soft := 14335) mixed (.op 0 (.op 1 (.op 2 (.op 3 (.op 4 (.op 5 (.op 6 (.op 7 (.op 8 (.op 9 (.op 10 (.op 11 (.op 12 (.op 13 (.op 14 .nil))))))))))))))) (by kernel_rfl) H ?_
  intro w H
  refine re_move rfl rfl rfl rfl rfl ?_
  refine re_move rfl rfl rfl rfl rfl ?_
  refine re_nilc rfl rfl rfl rfl rfl ?_
  first | refine re_field0 rfl rfl rfl rfl rfl fo_80_3 ?_ | refine re_field rfl rfl rfl rfl rfl fo_80_3 ?_ | refine re_fieldA rfl rfl rfl rfl rfl fo_80_3 ?_
  refine re_load H rfl rfl rfl rfl rfl sh_31 rfl ?_
  refine re_move rfl rfl rfl rfl rfl ?_
  refine re_nilc rfl rfl rfl rfl rfl ?_
  first | refine re_field0 rfl rfl rfl rfl rfl fo_80_3 ?_ | refine re_field rfl rfl rfl rfl rfl fo_80_3 ?_ | refine re_fieldA rfl rfl rfl rfl rfl fo_80_3 ?_
  refine re_load H rfl rfl rfl rfl rfl sh_31 rfl ?_
  refine re_len rfl rfl rfl rfl rfl ul_31 ?_
  first | refine re_add rfl rfl rfl rfl rfl rfl (by omega) ?_ | refine re_bin rfl rfl rfl rfl rfl rfl rfl ?_
  refine re_call en_19 rfl rfl rfl rfl rfl ?_
  refine Calls.mono (tnewB (H.rsees p.ga) H hn) ?_
  rintro e w ⟨ht, ha, hc, hm, rfl, H⟩
  rw [hu] at H
  have H := H.front 3
  simp only [arrs, Fw.front, zm1, zm2, zm3, zm4, zm5] at H
  refine ⟨_, rfl, (fun _ => ⟨ancs (i := 11) (j := 8) rfl, ancs (i := 11) (j := 4) rfl, trivial⟩), ?_⟩
  refine re_nilc rfl rfl rfl rfl rfl ?_
  first | refine re_field0 rfl rfl rfl rfl rfl fo_80_9 ?_ | refine re_field rfl rfl rfl rfl rfl fo_80_9 ?_ | refine re_fieldA rfl rfl rfl rfl rfl fo_80_9 ?_
  refine re_store H rfl rfl rfl rfl rfl rfl sh_74 rfl rfl rfl ?_
  intro cs w hcs H
  first | rw [setMany_whole rfl] at hcs | simp only [setMany, List.set_cons_zero, List.set_cons_succ, Nat.reduceAdd, Nat.zero_add, PS.cells, PS.over, GM.cells, Cmd.cells, List.cons_append, List.nil_append] at hcs
  subst hcs
  refine ⟨(fun _ => ⟨ancs (i := 14) (j := 8) rfl, ancs (i := 14) (j := 4) rfl, trivial⟩), ?_⟩
  refine re_nil ?_
  refine qe_noPanic ?_
  refine qe_thenC ?_
  refine ce_seq ?_
  refine ce_open (tab := [0, 0, 0, 6, 0, 16, 48, 112, 255, 511]) (soft := 759) mixed (.op 0 (.op 1 (.op 2 (.op 4 (.op 5 (.op 6 (.op 7 (.op 3 (.op 8 (.op 9 .nil)))))))))) (by kernel_rfl) H ?_
  intro w H
  refine re_move rfl rfl rfl rfl rfl ?_
  refine re_move rfl rfl rfl rfl rfl ?_
  refine re_move rfl rfl rfl rfl rfl ?_
  refine re_move rfl rfl rfl rfl rfl ?_
  refine re_nilc rfl rfl rfl rfl rfl ?_
  first | refine re_field0 rfl rfl rfl rfl rfl fo_80_3 ?_ | refine re_field rfl rfl rfl rfl rfl fo_80_3 ?_ | refine re_fieldA rfl rfl rfl rfl rfl fo_80_3 ?_
  refine re_load H rfl rfl rfl rfl rfl sh_31 rfl ?_
  refine re_invoke mth_131_109 en_109 rfl rfl rfl rfl rfl rfl ?_
  refine Calls.mono (msgP (p := p.enter (phP q) ht) H) ?_
  rintro e w ⟨rfl, H⟩
  refine ⟨_, rfl, (fun _ => ⟨fun _ => still_load H sh_31 rfl, trivial⟩), ?_⟩
  refine re_call en_54 rfl rfl rfl rfl rfl ?_
  refine Calls.mono (send_s (p := p.enter (phP q) ht) H (((H.tail).rsees p.ga)) hn) ?_
  rintro e w ⟨a, c, rfl, H⟩
  refine ⟨_, rfl, (fun _ => ⟨ancs (i := 8) (j := 7) rfl, trivial⟩), ?_⟩
  refine re_assign rfl rfl rfl rfl rfl ?_
  refine re_nil ?_
  refine qe_noPanic ?_
  refine qe_thenC ?_
  refine ce_ret ?_
  refine qe_end rfl rfl ?_
  refine ⟨ht, ha, hc, hm, a, c, rfl, ?_⟩
  have H := Own.arr [4, 4, 4, 5, 5, 5] H
  simp only [arrs, Fw.front, zm1, zm2, zm3, zm4, zm5] at H
  exact H

theorem enterA {B w : World} {F : List Ent} {g : Nat} {p : PS} {q : Nat} {cm : Cmd} (H : Own B (.cells g 80 p.cells :: .row p.ga p.gc 3 1 p.gs.length (ints p.gs) :: F) w) (hn : p.gs.length ≤ 1000000) (hu : unlike p.gs = p.gs) :
    Calls Try.prog 68 #[.pointer (some ⟨g, 0, none⟩), phA q cm] w fun e w' => ∃ ht ha hc hm a c, e = .returned (slv a (p.outA cm p.gs).length c) ∧ Own B (.row a c 46 30 (p.outA cm p.gs).length (msgs (p.outA cm p.gs)) :: .cells g 80 (p.enter (phA q cm) ht).cells :: .row p.ga p.gc 3 1 p.gs.length (ints p.gs) :: .cells ht 109 [slv ha p.gs.length hc, .int .i64 ((p.gs.length : Int) + 1), .map (some hm)] :: .row ha hc 3 1 p.gs.length (ints p.gs) :: .imap hm (heardK []) :: F) w' := by
  refine calls_ce (args := [.pointer (some ⟨g, 0, none⟩), phA q cm]) Try.func68 rfl rfl ?_
  change CE _ _ 35 _ _ [(0, .pointer (some ⟨g, 0, none⟩)), (1, phA q cm)] _
  refine ce_seq ?_
  refine ce_text (tab := []) (soft := 1) (.op 0 .nil) rfl rfl ?_
  refine re_assign rfl rfl rfl rfl rfl ?_
  refine re_nil ?_
  refine qe_thenC ?_
  refine ce_seq ?_
  refine ce_text (tab := []) (soft := 223) (.op 0 (.op 1 (.op 2 (.op 3 (.op 4 (.op 5 (.op 6 (.op 7 (.op 8 .nil))))))))) rfl rfl ?_
  refine re_move rfl rfl rfl rfl rfl ?_
  refine re_move rfl rfl rfl rfl rfl ?_
  refine re_move rfl rfl rfl rfl rfl ?_
  refine re_nilc rfl rfl rfl rfl rfl ?_
  first | refine re_field0 rfl rfl rfl rfl rfl fo_80_10 ?_ | refine re_field rfl rfl rfl rfl rfl fo_80_10 ?_ | refine re_fieldA rfl rfl rfl rfl rfl fo_80_10 ?_
  refine re_store H rfl rfl rfl rfl rfl rfl sh_76 rfl rfl rfl ?_
  intro cs w hcs H
  first | rw [setMany_whole rfl] at hcs | simp only [setMany, List.set_cons_zero, List.set_cons_succ, Nat.reduceAdd, Nat.zero_add, PS.cells, PS.over, GM.cells, Cmd.cells, List.cons_append, List.nil_append] at hcs
  subst hcs
  refine ⟨(fun h => (nomatch h)), ?_⟩
  refine re_nilc rfl rfl rfl rfl rfl ?_
  first | refine re_field0 rfl rfl rfl rfl rfl fo_80_8 ?_ | refine re_field rfl rfl rfl rfl rfl fo_80_8 ?_ | refine re_fieldA rfl rfl rfl rfl rfl fo_80_8 ?_
  refine re_store H rfl rfl rfl rfl rfl rfl sh_4 rfl rfl rfl ?_
  intro cs w hcs H
  first | rw [setMany_whole rfl] at hcs | simp only [setMany, List.set_cons_zero, List.set_cons_succ, Nat.reduceAdd, Nat.zero_add, PS.cells, PS.over, GM.cells, Cmd.cells, List.cons_append, List.nil_append] at hcs
  subst hcs
  refine ⟨(fun h => (nomatch h)), ?_⟩
  refine re_nil ?_
  refine qe_thenC ?_
  refine ce_seq ?_
  refine ce_open (tab := [0, 0, 2, 6, 14, 0, 32, 96, 224, 480, 992, 2046, 4095, 8191, 16383]) (soft := 14335) mixed (.op 0 (.op 1 (.op 2 (.op 3 (.op 4 (.op 5 (.op 6 (.op 7 (.op 8 (.op 9 (.op 10 (.op 11 (.op 12 (.op 13 (.op 14 .nil))))))))))))))) (by kernel_rfl) H ?_
  intro w H
  refine re_move rfl rfl rfl rfl rfl ?_
  refine re_move rfl rfl rfl rfl rfl ?_
  refine re_nilc rfl rfl rfl rfl rfl ?_
  first | refine re_field0 rfl rfl rfl rfl rfl fo_80_3 ?_ | refine re_field rfl rfl rfl rfl rfl fo_80_3 ?_ | refine re_fieldA rfl rfl rfl rfl rfl fo_80_3 ?_
  refine re_load H rfl rfl rfl rfl rfl sh_31 rfl ?_
  refine re_move rfl rfl rfl rfl rfl ?_
  refine re_nilc rfl rfl rfl rfl rfl ?_
  first | refine re_field0 rfl rfl rfl rfl rfl fo_80_3 ?_ | refine re_field rfl rfl rfl rfl rfl fo_80_3 ?_ | refine re_fieldA rfl rfl rfl rfl rfl fo_80_3 ?_
  refine re_load H rfl rfl rfl rfl rfl sh_31 rfl ?_
  refine re_len rfl rfl rfl rfl rfl ul_31 ?_
  first | refine re_add rfl rfl rfl rfl rfl rfl (by omega) ?_ | refine re_bin rfl rfl rfl rfl rfl rfl rfl ?_
  refine re_call en_19 rfl rfl rfl rfl rfl ?_
  refine Calls.mono (tnewB (H.rsees p.ga) H hn) ?_
  rintro e w ⟨ht, ha, hc, hm, rfl, H⟩
  rw [hu] at H
  have H := H.front 3
  simp only [arrs, Fw.front, zm1, zm2, zm3, zm4, zm5] at H
  refine ⟨_, rfl, (fun _ => ⟨ancs (i := 11) (j := 8) rfl, ancs (i := 11) (j := 4) rfl, trivial⟩), ?_⟩
  refine re_nilc rfl rfl rfl rfl rfl ?_
  first | refine re_field0 rfl rfl rfl rfl rfl fo_80_9 ?_ | refine re_field rfl rfl rfl rfl rfl fo_80_9 ?_ | refine re_fieldA rfl rfl rfl rfl rfl fo_80_9 ?_
  refine re_store H rfl rfl rfl rfl rfl rfl sh_74 rfl rfl rfl ?_
  intro cs w hcs H
  first | rw [setMany_whole rfl] at hcs | simp only [setMany, List.set_cons_zero, List.set_cons_succ, Nat.reduceAdd, Nat.zero_add, PS.cells, PS.over, GM.cells, Cmd.cells, List.cons_append, List.nil_append] at hcs
  subst hcs
  refine ⟨(fun _ => ⟨ancs (i := 14) (j := 8) rfl, ancs (i := 14) (j := 4) rfl, trivial⟩), ?_⟩
  refine re_nil ?_
  refine qe_noPanic ?_
  refine qe_thenC ?_
  refine ce_seq ?_
  refine ce_open (tab := [0, 0, 0, 6, 0, 16, 48, 112, 255, 511]) (soft := 759) mixed (.op 0 (.op 1 (.op 2 (.op 4 (.op 5 (.op 6 (.op 7 (.op 3 (.op 8 (.op 9 .nil)))))))))) (by kernel_rfl) H ?_
  intro w H
  refine re_move rfl rfl rfl rfl rfl ?_
  refine re_move rfl rfl rfl rfl rfl ?_
  refine re_move rfl rfl rfl rfl rfl ?_
  refine re_move rfl rfl rfl rfl rfl ?_
  refine re_nilc rfl rfl rfl rfl rfl ?_
  first | refine re_field0 rfl rfl rfl rfl rfl fo_80_3 ?_ | refine re_field rfl rfl rfl rfl rfl fo_80_3 ?_ | refine re_fieldA rfl rfl rfl rfl rfl fo_80_3 ?_
  refine re_load H rfl rfl rfl rfl rfl sh_31 rfl ?_
  refine re_invoke mth_137_110 en_110 rfl rfl rfl rfl rfl rfl ?_
  refine Calls.mono (msgA (p := p.enter (phA q cm) ht) H) ?_
  rintro e w ⟨rfl, H⟩
  refine ⟨_, rfl, (fun _ => ⟨fun _ => still_load H sh_31 rfl, trivial⟩), ?_⟩
  refine re_call en_54 rfl rfl rfl rfl rfl ?_
  refine Calls.mono (send_s (p := p.enter (phA q cm) ht) H (((H.tail).rsees p.ga)) hn) ?_
  rintro e w ⟨a, c, rfl, H⟩
  refine ⟨_, rfl, (fun _ => ⟨ancs (i := 8) (j := 7) rfl, trivial⟩), ?_⟩
  refine re_assign rfl rfl rfl rfl rfl ?_
  refine re_nil ?_
  refine qe_noPanic ?_
  refine qe_thenC ?_
  refine ce_ret ?_
  refine qe_end rfl rfl ?_
  refine ⟨ht, ha, hc, hm, a, c, rfl, ?_⟩
  have H := Own.arr [4, 4, 4, 5, 5, 5] H
  simp only [arrs, Fw.front, zm1, zm2, zm3, zm4, zm5] at H
  exact H
end Go.Proofs.Ytofaoblfemfkiaa

namespace Go.Proofs.Ytofaoblfemfkiaa
open Go Go.RowKit Go.Fw
set_option linter.unusedSimpArgs false
set_option linter.unusedVariables false
set_option maxRecDepth 4000
set_option maxHeartbeats 2000000
theorem cmp_73 : (Try.prog.info? 73).map (·.comparable) = some true := by kernel_rfl
theorem en_41 : Enterable Try.prog 41 := ⟨Try.f41, Try.func41, rfl, by decide⟩
theorem en_42 : Enterable Try.prog 42 := ⟨Try.f42, Try.func42, rfl, by decide⟩
theorem en_68 : Enterable Try.prog 68 := ⟨Try.f68, Try.func68, rfl, by decide⟩
theorem en_69 : Enterable Try.prog 69 := ⟨Try.f69, Try.func69, rfl, by decide⟩
theorem en_70 : Enterable Try.prog 70 := ⟨Try.f70, Try.func70, rfl, by decide⟩
theorem fk_73 : flatK Try.prog 9 73 = some [] := by kernel_rfl
theorem ifc_76 : ifaceT Try.prog 76 = true := by kernel_rfl
theorem nif_131 : notIface Try.prog 131 = true := by kernel_rfl
theorem nif_73 : notIface Try.prog 73 = true := by kernel_rfl
theorem pl_131 : placesOf Try.prog 131 = some [(0, 1)] := by kernel_rfl
theorem pl_73 : placesOf Try.prog 73 = some [] := by kernel_rfl
theorem sh_73 : shapeOf Try.prog 73 = some (true, 0) := by kernel_rfl
theorem ze_131 : zeroC Try.prog 131 = some [.pointer none] := by kernel_rfl
theorem ze_73 : zeroC Try.prog 73 = some [] := by kernel_rfl

theorem prepare_s {B w : World} {F : List Ent} {g : Nat} {p : PS} (H : Own B (.cells g 80 p.cells :: .row p.ga p.gc 3 1 p.gs.length (ints p.gs) :: F) w) (hn : p.gs.length ≤ 1000000) (hu : unlike p.gs = p.gs) :
    Calls Try.prog 42 #[.pointer (some ⟨g, 0, none⟩)] w fun e w' => ∃ ht ha hc hm qt qa qc qm a c, e = .returned (slv a (p.outP p.gs).length c) ∧ Own B (.row a c 46 30 (p.outP p.gs).length (msgs (p.outP p.gs)) :: .cells g 80 (p.enter (phP qt) ht).cells :: .row p.ga p.gc 3 1 p.gs.length (ints p.gs) :: .cells ht 109 [slv ha p.gs.length hc, .int .i64 ((p.gs.length : Int) + 1), .map (some hm)] :: .row ha hc 3 1 p.gs.length (ints p.gs) :: .imap hm (heardK []) :: .cells qt 145 [slv qa p.gs.length qc, .int .i64 ((p.gs.length : Int) / 2 + 1), .map (some qm)] :: .row qa qc 3 1 p.gs.length (ints p.gs) :: .imap qm (kvM []) :: F) w' := by
  refine calls_ce (args := [.pointer (some ⟨g, 0, none⟩)]) Try.func42 rfl rfl ?_
  change CE _ _ 14 _ _ [(0, .pointer (some ⟨g, 0, none⟩))] _
  refine ce_seq ?_
  refine ce_text (tab := []) (soft := 1) (.op 0 .nil) rfl rfl ?_
  refine re_assign rfl rfl rfl rfl rfl ?_
  refine re_nil ?_
  refine qe_thenC ?_
  refine ce_seq ?_
  refine ce_open (tab := [0, 0, 2, 6, 14, 0, 32, 126, 254, 510, 1023, 2047]) (soft := 2879) mixed (.op 0 (.op 1 (.op 2 (.op 3 (.op 4 (.op 5 (.op 6 (.op 7 (.op 8 (.op 9 (.op 10 (.op 11 .nil)))))))))))) (by kernel_rfl) H ?_
  intro w H
  refine re_move rfl rfl rfl rfl rfl ?_
  refine re_move rfl rfl rfl rfl rfl ?_
  refine re_nilc rfl rfl rfl rfl rfl ?_
  first | refine re_field0 rfl rfl rfl rfl rfl fo_80_3 ?_ | refine re_field rfl rfl rfl rfl rfl fo_80_3 ?_ | refine re_fieldA rfl rfl rfl rfl rfl fo_80_3 ?_
  refine re_load H rfl rfl rfl rfl rfl sh_31 rfl ?_
  refine re_move rfl rfl rfl rfl rfl ?_
  refine re_call en_70 rfl rfl rfl rfl rfl ?_
  refine Calls.mono (need_s H hn) ?_
  rintro e w ⟨rfl, H⟩
  refine ⟨_, rfl, (fun _ => ⟨fun _ => still_load H sh_31 rfl, trivial⟩), ?_⟩
  refine re_call en_69 rfl rfl rfl rfl rfl ?_
  refine Calls.mono (tnewM (H.rsees p.ga) H hn) ?_
  rintro e w ⟨qt, qa, qc, qm, rfl, H⟩
  rw [hu] at H
  have H := H.front 4
  have H := H.front 4
  simp only [arrs, Fw.front, zm1, zm2, zm3, zm4, zm5] at H
  refine ⟨_, rfl, (fun _ => ⟨ancs (i := 7) (j := 4) rfl, trivial⟩), ?_⟩
  refine re_build rfl rfl rfl rfl rfl ze_131 pl_131 (by simp only [fillL, setMany, Value.cells, List.getElem?_cons_zero, List.getElem?_cons_succ, List.length_cons, List.length_nil, List.set_cons_zero, List.set_cons_succ, Nat.reduceAdd, Nat.reduceLeDiff, Nat.zero_add, and_self, ↓reduceIte]; rfl) ?_
  refine re_iface rfl rfl rfl rfl rfl nif_131 ?_
  refine re_call en_68 rfl rfl rfl rfl rfl ?_
  refine Calls.mono (enterP (q := qt) H hn hu) ?_
  rintro e w ⟨ht, ha, hc, hm, a, c, rfl, H⟩
  refine ⟨_, rfl, (fun _ => ⟨ancs (i := 10) (j := 4) rfl, trivial⟩), ?_⟩
  refine re_assign rfl rfl rfl rfl rfl ?_
  refine re_nil ?_
  refine qe_noPanic ?_
  refine qe_thenC ?_
  refine ce_ret ?_
  refine qe_end rfl rfl ?_
  exact ⟨ht, ha, hc, hm, qt, qa, qc, qm, a, c, rfl, H⟩

theorem begin_worn {B w : World} {F : List Ent} {g : Nat} {p : PS} (H : Own B (.cells g 80 p.cells :: .row p.ga p.gc 3 1 p.gs.length (ints p.gs) :: F) w) (hn : p.gs.length ≤ 1000000) (hi : p.ph = .iface 73 (.agg #[])) (hw : (min p.bal p.rnd < 1 ∨ 1099511627776 < max p.bal p.rnd)) :
    Calls Try.prog 14 #[.pointer (some ⟨g, 0, none⟩)] w fun e w' => e = .returned (slv none 0 0) ∧ Own B (.cells g 80 { p.over with wn := true }.cells :: .row p.ga p.gc 3 1 p.gs.length (ints p.gs) :: F) w' := by
  refine calls_ce (args := [.pointer (some ⟨g, 0, none⟩)]) Try.func14 rfl rfl ?_
  change CE _ _ 36 _ _ [(0, .pointer (some ⟨g, 0, none⟩))] _
  refine ce_seq ?_
  refine ce_text (tab := []) (soft := 1) (.op 0 .nil) rfl rfl ?_
  refine re_assign rfl rfl rfl rfl rfl ?_
  refine re_nil ?_
  refine qe_thenC ?_
  refine ce_seq ?_
  refine ce_seq ?_
  refine ce_text (tab := []) (soft := 127) (.op 0 (.op 1 (.op 2 (.op 3 (.op 4 (.op 5 (.op 6 .nil))))))) rfl rfl ?_
  refine re_move rfl rfl rfl rfl rfl ?_
  refine re_nilc rfl rfl rfl rfl rfl ?_
  first | refine re_field0 rfl rfl rfl rfl rfl fo_80_10 ?_ | refine re_field rfl rfl rfl rfl rfl fo_80_10 ?_ | refine re_fieldA rfl rfl rfl rfl rfl fo_80_10 ?_
  refine re_load H rfl rfl rfl rfl rfl sh_76 rfl ?_
  refine re_build rfl rfl rfl rfl rfl ze_73 pl_73 (by simp only [fillL, setMany, Value.cells, List.getElem?_cons_zero, List.getElem?_cons_succ, List.length_cons, List.length_nil, List.set_cons_zero, List.set_cons_succ, Nat.reduceAdd, Nat.reduceLeDiff, Nat.zero_add, and_self, ↓reduceIte]; rfl) ?_
  refine re_iface rfl rfl rfl rfl rfl nif_73 ?_
  simp only [hi]
  refine re_binW rfl rfl rfl rfl rfl rfl (run_ifEq0 ifc_76 cmp_73 fk_73 sh_73 (.inr ⟨rfl, rfl⟩)) ?_
  refine re_nil ?_
  refine qe_thenC ?_
  refine ce_condF rfl ?_
  refine ce_skip ?_
  refine qe_thenC ?_
  refine ce_seq ?_
  refine ce_seq ?_
  refine ce_open (tab := [0, 1, 3, 7, 0, 16, 48, 112, 255, 511, 1023, 2047, 4095, 8191, 16383, 2047, 34815, 100351, 231423, 524287, 1048575, 2097151]) (soft := 4194303) mixed (.op 0 (.op 1 (.op 2 (.op 3 (.op 4 (.op 5 (.op 6 (.op 7 (.op 8 (.op 9 (.op 10 (.op 11 (.op 12 (.op 13 (.op 14 (.op 15 (.op 16 (.op 17 (.op 18 (.op 19 (.op 20 (.op 21 .nil)))))))))))))))))))))) (by kernel_rfl) H ?_
  intro w H
  refine re_move rfl rfl rfl rfl rfl ?_
  refine re_nilc rfl rfl rfl rfl rfl ?_
  first | refine re_field0 rfl rfl rfl rfl rfl fo_80_5 ?_ | refine re_field rfl rfl rfl rfl rfl fo_80_5 ?_ | refine re_fieldA rfl rfl rfl rfl rfl fo_80_5 ?_
  refine re_load H rfl rfl rfl rfl rfl sh_3 rfl ?_
  refine re_move rfl rfl rfl rfl rfl ?_
  refine re_nilc rfl rfl rfl rfl rfl ?_
  first | refine re_field0 rfl rfl rfl rfl rfl fo_80_6 ?_ | refine re_field rfl rfl rfl rfl rfl fo_80_6 ?_ | refine re_fieldA rfl rfl rfl rfl rfl fo_80_6 ?_
  refine re_load H rfl rfl rfl rfl rfl sh_3 rfl ?_
  refine re_min rfl rfl rfl rfl rfl rfl ?_
  refine re_bin rfl rfl rfl rfl rfl rfl rfl ?_
  refine re_move rfl rfl rfl rfl rfl ?_
  refine re_split (fun hg3_10 => ?_) (fun hg3_10 => ?_)
  ·
    refine re_skip1 rfl rfl rfl ?_
    refine re_skip1 rfl rfl rfl ?_
    refine re_skip1 rfl rfl rfl ?_
    refine re_skip1 rfl rfl rfl ?_
    refine re_skip1 rfl rfl rfl ?_
    refine re_skip1 rfl rfl rfl ?_
    refine re_skip1 rfl rfl rfl ?_
    refine re_skip1 rfl rfl rfl ?_
    refine re_skip1 rfl rfl rfl ?_
    refine re_skip1 rfl rfl rfl ?_
    refine re_pickT rfl rfl rfl rfl rfl rfl ?_
    refine re_nil ?_
    refine qe_noPanic ?_
    refine qe_thenC ?_
    refine ce_condT rfl ?_
    refine ce_seq ?_
    refine ce_text (tab := []) (soft := 5) (.op 0 (.op 1 (.op 2 .nil))) rfl rfl ?_
    refine re_move rfl rfl rfl rfl rfl ?_
    refine re_call en_41 rfl rfl rfl rfl rfl ?_
    refine Calls.mono (wear_s H) ?_
    rintro e w ⟨rfl, H⟩
    refine ⟨_, rfl, (fun h => (nomatch h)), ?_⟩
    refine re_assign rfl rfl rfl rfl rfl ?_
    refine re_nil ?_
    refine qe_thenC ?_
    refine ce_ret ?_
    refine qe_then_ret ?_
    refine qe_end rfl rfl ?_
    exact ⟨rfl, H⟩
  ·
    refine re_move rfl rfl rfl rfl rfl ?_
    refine re_nilc rfl rfl rfl rfl rfl ?_
    first | refine re_field0 rfl rfl rfl rfl rfl fo_80_5 ?_ | refine re_field rfl rfl rfl rfl rfl fo_80_5 ?_ | refine re_fieldA rfl rfl rfl rfl rfl fo_80_5 ?_
    refine re_load H rfl rfl rfl rfl rfl sh_3 rfl ?_
    refine re_move rfl rfl rfl rfl rfl ?_
    refine re_nilc rfl rfl rfl rfl rfl ?_
    first | refine re_field0 rfl rfl rfl rfl rfl fo_80_6 ?_ | refine re_field rfl rfl rfl rfl rfl fo_80_6 ?_ | refine re_fieldA rfl rfl rfl rfl rfl fo_80_6 ?_
    refine re_load H rfl rfl rfl rfl rfl sh_3 rfl ?_
    refine re_max rfl rfl rfl rfl rfl rfl ?_
    refine re_bin rfl rfl rfl rfl rfl rfl rfl ?_
    refine re_pickF rfl rfl rfl rfl rfl rfl ?_
    refine re_nil ?_
    refine qe_noPanic ?_
    refine qe_thenC ?_
    refine ce_cond rfl (fun h1 => ?_) (fun h1 => ?_)
    · try simp only [zn1, zn2, zn3, zn4, zn5, zn6] at h1
      refine ce_seq ?_
      refine ce_text (tab := []) (soft := 5) (.op 0 (.op 1 (.op 2 .nil))) rfl rfl ?_
      refine re_move rfl rfl rfl rfl rfl ?_
      refine re_call en_41 rfl rfl rfl rfl rfl ?_
      refine Calls.mono (wear_s H) ?_
      rintro e w ⟨rfl, H⟩
      refine ⟨_, rfl, (fun h => (nomatch h)), ?_⟩
      refine re_assign rfl rfl rfl rfl rfl ?_
      refine re_nil ?_
      refine qe_thenC ?_
      refine ce_ret ?_
      refine qe_then_ret ?_
      refine qe_end rfl rfl ?_
      exact ⟨rfl, H⟩
    · try simp only [zn1, zn2, zn3, zn4, zn5, zn6] at h1
      exact absurd hw (by simp at hg3_10; omega)

theorem begin_s {B w : World} {F : List Ent} {g : Nat} {p : PS} (H : Own B (.cells g 80 p.cells :: .row p.ga p.gc 3 1 p.gs.length (ints p.gs) :: F) w) (hn : p.gs.length ≤ 1000000) (hu : unlike p.gs = p.gs) (hi : p.ph = .iface 73 (.agg #[])) (hw : ¬ (min p.bal p.rnd < 1 ∨ 1099511627776 < max p.bal p.rnd)) :
    Calls Try.prog 14 #[.pointer (some ⟨g, 0, none⟩)] w fun e w' => ∃ ht ha hc hm qt qa qc qm a c, e = .returned (slv a (p.outP p.gs).length c) ∧ Own B (.row a c 46 30 (p.outP p.gs).length (msgs (p.outP p.gs)) :: .cells g 80 (p.enter (phP qt) ht).cells :: .row p.ga p.gc 3 1 p.gs.length (ints p.gs) :: .cells ht 109 [slv ha p.gs.length hc, .int .i64 ((p.gs.length : Int) + 1), .map (some hm)] :: .row ha hc 3 1 p.gs.length (ints p.gs) :: .imap hm (heardK []) :: .cells qt 145 [slv qa p.gs.length qc, .int .i64 ((p.gs.length : Int) / 2 + 1), .map (some qm)] :: .row qa qc 3 1 p.gs.length (ints p.gs) :: .imap qm (kvM []) :: F) w' := by
  refine calls_ce (args := [.pointer (some ⟨g, 0, none⟩)]) Try.func14 rfl rfl ?_
  change CE _ _ 36 _ _ [(0, .pointer (some ⟨g, 0, none⟩))] _
  refine ce_seq ?_
  refine ce_text (tab := []) (soft := 1) (.op 0 .nil) rfl rfl ?_
  refine re_assign rfl rfl rfl rfl rfl ?_
  refine re_nil ?_
  refine qe_thenC ?_
  refine ce_seq ?_
  refine ce_seq ?_
  refine ce_text (tab := []) (soft := 127) (.op 0 (.op 1 (.op 2 (.op 3 (.op 4 (.op 5 (.op 6 .nil))))))) rfl rfl ?_
  refine re_move rfl rfl rfl rfl rfl ?_
  refine re_nilc rfl rfl rfl rfl rfl ?_
  first | refine re_field0 rfl rfl rfl rfl rfl fo_80_10 ?_ | refine re_field rfl rfl rfl rfl rfl fo_80_10 ?_ | refine re_fieldA rfl rfl rfl rfl rfl fo_80_10 ?_
  refine re_load H rfl rfl rfl rfl rfl sh_76 rfl ?_
  refine re_build rfl rfl rfl rfl rfl ze_73 pl_73 (by simp only [fillL, setMany, Value.cells, List.getElem?_cons_zero, List.getElem?_cons_succ, List.length_cons, List.length_nil, List.set_cons_zero, List.set_cons_succ, Nat.reduceAdd, Nat.reduceLeDiff, Nat.zero_add, and_self, ↓reduceIte]; rfl) ?_
  refine re_iface rfl rfl rfl rfl rfl nif_73 ?_
  simp only [hi]
  refine re_binW rfl rfl rfl rfl rfl rfl (run_ifEq0 ifc_76 cmp_73 fk_73 sh_73 (.inr ⟨rfl, rfl⟩)) ?_
  refine re_nil ?_
  refine qe_thenC ?_
  refine ce_condF rfl ?_
  refine ce_skip ?_
  refine qe_thenC ?_
  refine ce_seq ?_
  refine ce_seq ?_
  refine ce_open (tab := [0, 1, 3, 7, 0, 16, 48, 112, 255, 511, 1023, 2047, 4095, 8191, 16383, 2047, 34815, 100351, 231423, 524287, 1048575, 2097151]) (soft := 4194303) mixed (.op 0 (.op 1 (.op 2 (.op 3 (.op 4 (.op 5 (.op 6 (.op 7 (.op 8 (.op 9 (.op 10 (.op 11 (.op 12 (.op 13 (.op 14 (.op 15 (.op 16 (.op 17 (.op 18 (.op 19 (.op 20 (.op 21 .nil)))))))))))))))))))))) (by kernel_rfl) H ?_
  intro w H
  refine re_move rfl rfl rfl rfl rfl ?_
  refine re_nilc rfl rfl rfl rfl rfl ?_
  first | refine re_field0 rfl rfl rfl rfl rfl fo_80_5 ?_ | refine re_field rfl rfl rfl rfl rfl fo_80_5 ?_ | refine re_fieldA rfl rfl rfl rfl rfl fo_80_5 ?_
  refine re_load H rfl rfl rfl rfl rfl sh_3 rfl ?_
  refine re_move rfl rfl rfl rfl rfl ?_
  refine re_nilc rfl rfl rfl rfl rfl ?_
  first | refine re_field0 rfl rfl rfl rfl rfl fo_80_6 ?_ | refine re_field rfl rfl rfl rfl rfl fo_80_6 ?_ | refine re_fieldA rfl rfl rfl rfl rfl fo_80_6 ?_
  refine re_load H rfl rfl rfl rfl rfl sh_3 rfl ?_
  refine re_min rfl rfl rfl rfl rfl rfl ?_
  refine re_bin rfl rfl rfl rfl rfl rfl rfl ?_
  have hg0 : decide (min p.bal p.rnd < 1) = false := by simp; omega
  simp only [hg0]
  refine re_move rfl rfl rfl rfl rfl ?_
  refine re_move rfl rfl rfl rfl rfl ?_
  refine re_nilc rfl rfl rfl rfl rfl ?_
  first | refine re_field0 rfl rfl rfl rfl rfl fo_80_5 ?_ | refine re_field rfl rfl rfl rfl rfl fo_80_5 ?_ | refine re_fieldA rfl rfl rfl rfl rfl fo_80_5 ?_
  refine re_load H rfl rfl rfl rfl rfl sh_3 rfl ?_
  refine re_move rfl rfl rfl rfl rfl ?_
  refine re_nilc rfl rfl rfl rfl rfl ?_
  first | refine re_field0 rfl rfl rfl rfl rfl fo_80_6 ?_ | refine re_field rfl rfl rfl rfl rfl fo_80_6 ?_ | refine re_fieldA rfl rfl rfl rfl rfl fo_80_6 ?_
  refine re_load H rfl rfl rfl rfl rfl sh_3 rfl ?_
  refine re_max rfl rfl rfl rfl rfl rfl ?_
  refine re_bin rfl rfl rfl rfl rfl rfl rfl ?_
  refine re_pickF rfl rfl rfl rfl rfl rfl ?_
  refine re_nil ?_
  refine qe_noPanic ?_
  refine qe_thenC ?_
  refine ce_cond rfl (fun h1 => ?_) (fun h1 => ?_)
  · try simp only [zn1, zn2, zn3, zn4, zn5, zn6] at h1
    exact absurd (.inr (by simpa using h1)) hw
  · try simp only [zn1, zn2, zn3, zn4, zn5, zn6] at h1
    refine ce_skip ?_
    refine qe_thenC ?_
    refine ce_seq ?_
    refine ce_text (tab := []) (soft := 5) (.op 0 (.op 1 (.op 2 .nil))) rfl rfl ?_
    refine re_move rfl rfl rfl rfl rfl ?_
    refine re_call en_42 rfl rfl rfl rfl rfl ?_
    refine Calls.mono (prepare_s H hn hu) ?_
    rintro e w ⟨ht, ha, hc, hm, qt, qa, qc, qm, a, c, rfl, H⟩
    refine ⟨_, rfl, (fun h => (nomatch h)), ?_⟩
    refine re_assign rfl rfl rfl rfl rfl ?_
    refine re_nil ?_
    refine qe_thenC ?_
    refine ce_ret ?_
    refine qe_end rfl rfl ?_
    exact ⟨ht, ha, hc, hm, qt, qa, qc, qm, a, c, rfl, H⟩
end Go.Proofs.Ytofaoblfemfkiaa

namespace Go.Proofs.Ytofaoblfemfkiaa
open Go Go.RowKit Go.Fw
set_option linter.unusedSimpArgs false
set_option linter.unusedVariables false
set_option maxRecDepth 4000
set_option maxHeartbeats 2000000
theorem cmp_97 : (Try.prog.info? 97).map (·.comparable) = some true := by kernel_rfl
theorem en_34 : Enterable Try.prog 34 := ⟨Try.f34, Try.func34, rfl, by decide⟩
theorem fk_97 : flatK Try.prog 9 97 = some [] := by kernel_rfl
theorem fo_38_0 : fOff Try.prog 38 0 = some 0 := by kernel_rfl
theorem fo_38_1 : fOff Try.prog 38 1 = some 1 := by kernel_rfl
theorem pl_80 : placesOf Try.prog 80 = some [(0, 1), (1, 1), (2, 4), (6, 1), (7, 9), (16, 1), (17, 1), (18, 1), (19, 1), (20, 1), (21, 1), (22, 1), (23, 1), (24, 1)] := by kernel_rfl
theorem sh_97 : shapeOf Try.prog 97 = some (true, 0) := by kernel_rfl
theorem ze_80 : zeroC Try.prog 80 = some [.int .i64 0, .int .i64 0, .int .i64 0, .int .i64 0, .int .i64 0, .int .i64 0, .slice none 0 0, .int .i64 0, .int .i64 0, .int .i64 0, .string ByteArray.empty, .int .i64 0, .int .i64 0, .int .i64 0, .int .i64 0, .int .i64 0, .int .i64 0, .int .i64 0, .int .i64 0, .bool false, .pointer none, .nilIface, .pointer none, .pointer none, .bool false] := by kernel_rfl

theorem less_s {B w : World} {F : List Ent} {a0 a1 b0 b1 : Int} (H : Own B F w) :
    Calls Try.prog 84 #[.agg #[.int .i64 a0, .int .i64 a1], .agg #[.int .i64 b0, .int .i64 b1]] w fun e w' => e = .returned (.bool (stampLess a0 a1 b0 b1)) ∧ Own B F w' := by
  refine calls_ce (args := [.agg #[.int .i64 a0, .int .i64 a1], .agg #[.int .i64 b0, .int .i64 b1]]) Try.func84 rfl rfl ?_
  change CE _ _ 24 _ _ [(0, .agg #[.int .i64 a0, .int .i64 a1]), (1, .agg #[.int .i64 b0, .int .i64 b1])] _
  refine ce_seq ?_
  refine ce_text (tab := []) (soft := 4) (.op 0 (.op 1 (.op 2 .nil))) rfl rfl ?_
  refine re_box H rfl rfl rfl rfl rfl rfl ?_
  intro g2 w H
  refine ⟨(fun h => (nomatch h)), ?_⟩
  refine re_box H rfl rfl rfl rfl rfl rfl ?_
  intro g3 w H
  refine ⟨(fun h => (nomatch h)), ?_⟩
  refine re_assign rfl rfl rfl rfl rfl ?_
  refine re_nil ?_
  refine qe_thenC ?_
  refine ce_seq ?_
  refine ce_text (tab := []) (soft := 1048575) (.op 0 (.op 1 (.op 2 (.op 3 (.op 4 (.op 5 (.op 6 (.op 7 (.op 8 (.op 9 (.op 10 (.op 11 (.op 12 (.op 13 (.op 14 (.op 15 (.op 16 (.op 17 (.op 18 (.op 19 .nil)))))))))))))))))))) rfl rfl ?_
  first | refine re_field0 rfl rfl rfl rfl rfl fo_38_0 ?_ | refine re_field rfl rfl rfl rfl rfl fo_38_0 ?_ | refine re_fieldA rfl rfl rfl rfl rfl fo_38_0 ?_
  refine re_load H rfl rfl rfl rfl rfl sh_3 rfl ?_
  first | refine re_field0 rfl rfl rfl rfl rfl fo_38_0 ?_ | refine re_field rfl rfl rfl rfl rfl fo_38_0 ?_ | refine re_fieldA rfl rfl rfl rfl rfl fo_38_0 ?_
  refine re_load H rfl rfl rfl rfl rfl sh_3 rfl ?_
  refine re_bin rfl rfl rfl rfl rfl rfl rfl ?_
  refine re_move rfl rfl rfl rfl rfl ?_
  refine re_split (fun hg1_5 => ?_) (fun hg1_5 => ?_)
  ·
    refine re_skip1 rfl rfl rfl ?_
    refine re_skip1 rfl rfl rfl ?_
    refine re_skip1 rfl rfl rfl ?_
    refine re_skip1 rfl rfl rfl ?_
    refine re_skip1 rfl rfl rfl ?_
    refine re_skip1 rfl rfl rfl ?_
    refine re_skip1 rfl rfl rfl ?_
    refine re_skip1 rfl rfl rfl ?_
    refine re_skip1 rfl rfl rfl ?_
    refine re_skip1 rfl rfl rfl ?_
    refine re_skip1 rfl rfl rfl ?_
    refine re_skip1 rfl rfl rfl ?_
    refine re_pickT rfl rfl rfl rfl rfl rfl ?_
    refine re_assign rfl rfl rfl rfl rfl ?_
    refine re_nil ?_
    refine qe_thenC ?_
    refine ce_ret ?_
    refine qe_end rfl rfl ?_
    exact ⟨by simp [stampLess, of_decide_eq_true hg1_5], H.tail.tail⟩
  ·
    first | refine re_field0 rfl rfl rfl rfl rfl fo_38_0 ?_ | refine re_field rfl rfl rfl rfl rfl fo_38_0 ?_ | refine re_fieldA rfl rfl rfl rfl rfl fo_38_0 ?_
    refine re_load H rfl rfl rfl rfl rfl sh_3 rfl ?_
    first | refine re_field0 rfl rfl rfl rfl rfl fo_38_0 ?_ | refine re_field rfl rfl rfl rfl rfl fo_38_0 ?_ | refine re_fieldA rfl rfl rfl rfl rfl fo_38_0 ?_
    refine re_load H rfl rfl rfl rfl rfl sh_3 rfl ?_
    refine re_bin rfl rfl rfl rfl rfl rfl rfl ?_
    refine re_move rfl rfl rfl rfl rfl ?_
    refine re_split (fun hg1_11 => ?_) (fun hg1_11 => ?_)
    ·
      first | refine re_field0 rfl rfl rfl rfl rfl fo_38_1 ?_ | refine re_field rfl rfl rfl rfl rfl fo_38_1 ?_ | refine re_fieldA rfl rfl rfl rfl rfl fo_38_1 ?_
      refine re_load H rfl rfl rfl rfl rfl sh_3 rfl ?_
      first | refine re_field0 rfl rfl rfl rfl rfl fo_38_1 ?_ | refine re_field rfl rfl rfl rfl rfl fo_38_1 ?_ | refine re_fieldA rfl rfl rfl rfl rfl fo_38_1 ?_
      refine re_load H rfl rfl rfl rfl rfl sh_3 rfl ?_
      refine re_bin rfl rfl rfl rfl rfl rfl rfl ?_
      refine re_pickT rfl rfl rfl rfl rfl rfl ?_
      refine re_pickF rfl rfl rfl rfl rfl rfl ?_
      refine re_assign rfl rfl rfl rfl rfl ?_
      refine re_nil ?_
      refine qe_thenC ?_
      refine ce_ret ?_
      refine qe_end rfl rfl ?_
      exact ⟨by simp only [stampLess, hg1_5, hg1_11, Bool.false_or, Bool.true_and], H.tail.tail⟩
    ·
      refine re_skip1 rfl rfl rfl ?_
      refine re_skip1 rfl rfl rfl ?_
      refine re_skip1 rfl rfl rfl ?_
      refine re_skip1 rfl rfl rfl ?_
      refine re_skip1 rfl rfl rfl ?_
      refine re_pickF rfl rfl rfl rfl rfl rfl ?_
      refine re_pickF rfl rfl rfl rfl rfl rfl ?_
      refine re_assign rfl rfl rfl rfl rfl ?_
      refine re_nil ?_
      refine qe_thenC ?_
      refine ce_ret ?_
      refine qe_end rfl rfl ?_
      exact ⟨by simp only [stampLess, hg1_5, hg1_11, Bool.false_or, Bool.false_and], H.tail.tail⟩

theorem tick_quietP {B w : World} {F : List Ent} {g : Nat} {p : PS} {q : Nat} {ht hm hc : Nat} {ha : Option Nat} {hs : List Int} (H : Own B (.cells g 80 p.cells :: .cells ht 109 [slv ha p.gs.length hc, .int .i64 ((p.gs.length : Int) + 1), .map (some hm)] :: .row ha hc 3 1 p.gs.length (ints p.gs) :: .imap hm (heardK hs) :: F) w) (hn : p.gs.length ≤ 1000000) (hh : p.hd = .pointer (some ⟨ht, 0, none⟩)) (hi : p.ph = phP q) (hr : p.rf = false) :
    Calls Try.prog 25 #[.pointer (some ⟨g, 0, none⟩)] w fun e w' => ∃ a c, e = .returned (slv a (p.outP (missing p.gs (heardK hs))).length c) ∧ Own B (.row a c 46 30 (p.outP (missing p.gs (heardK hs))).length (msgs (p.outP (missing p.gs (heardK hs)))) :: .cells g 80 p.cells :: .cells ht 109 [slv ha p.gs.length hc, .int .i64 ((p.gs.length : Int) + 1), .map (some hm)] :: .row ha hc 3 1 p.gs.length (ints p.gs) :: .imap hm (heardK hs) :: F) w' := by
  refine calls_ce (args := [.pointer (some ⟨g, 0, none⟩)]) Try.func25 rfl rfl ?_
  change CE _ _ 64 _ _ [(0, .pointer (some ⟨g, 0, none⟩))] _
  refine ce_seq ?_
  refine ce_text (tab := []) (soft := 1) (.op 0 .nil) rfl rfl ?_
  refine re_assign rfl rfl rfl rfl rfl ?_
  refine re_nil ?_
  refine qe_thenC ?_
  refine ce_seq ?_
  refine ce_seq ?_
  refine ce_text (tab := []) (soft := 65535) (.op 0 (.op 1 (.op 2 (.op 3 (.op 4 (.op 5 (.op 6 (.op 7 (.op 8 (.op 9 (.op 10 (.op 11 (.op 12 (.op 13 (.op 14 (.op 15 .nil)))))))))))))))) rfl rfl ?_
  refine re_move rfl rfl rfl rfl rfl ?_
  refine re_nilc rfl rfl rfl rfl rfl ?_
  first | refine re_field0 rfl rfl rfl rfl rfl fo_80_10 ?_ | refine re_field rfl rfl rfl rfl rfl fo_80_10 ?_ | refine re_fieldA rfl rfl rfl rfl rfl fo_80_10 ?_
  refine re_load H rfl rfl rfl rfl rfl sh_76 rfl ?_
  refine re_build rfl rfl rfl rfl rfl ze_73 pl_73 (by simp only [fillL, setMany, Value.cells, List.getElem?_cons_zero, List.getElem?_cons_succ, List.length_cons, List.length_nil, List.set_cons_zero, List.set_cons_succ, Nat.reduceAdd, Nat.reduceLeDiff, Nat.zero_add, and_self, ↓reduceIte]; rfl) ?_
  refine re_iface rfl rfl rfl rfl rfl nif_73 ?_
  simp only [hi]
  refine re_binW rfl rfl rfl rfl rfl rfl (run_ifNe ifc_76 rfl (.inl ⟨rfl, rfl⟩)) ?_
  refine re_move rfl rfl rfl rfl rfl ?_
  refine re_move rfl rfl rfl rfl rfl ?_
  refine re_nilc rfl rfl rfl rfl rfl ?_
  first | refine re_field0 rfl rfl rfl rfl rfl fo_80_10 ?_ | refine re_field rfl rfl rfl rfl rfl fo_80_10 ?_ | refine re_fieldA rfl rfl rfl rfl rfl fo_80_10 ?_
  refine re_load H rfl rfl rfl rfl rfl sh_76 rfl ?_
  refine re_build rfl rfl rfl rfl rfl ze_97 pl_97 (by simp only [fillL, setMany, Value.cells, List.getElem?_cons_zero, List.getElem?_cons_succ, List.length_cons, List.length_nil, List.set_cons_zero, List.set_cons_succ, Nat.reduceAdd, Nat.reduceLeDiff, Nat.zero_add, and_self, ↓reduceIte]; rfl) ?_
  refine re_iface rfl rfl rfl rfl rfl nif_97 ?_
  simp only [hi]
  refine re_binW rfl rfl rfl rfl rfl rfl (run_ifNe ifc_76 rfl (.inl ⟨rfl, rfl⟩)) ?_
  refine re_pickF rfl rfl rfl rfl rfl rfl ?_
  refine re_nil ?_
  refine qe_thenC ?_
  refine ce_condF rfl ?_
  refine ce_skip ?_
  refine qe_thenC ?_
  refine ce_seq ?_
  refine ce_seq ?_
  refine ce_text (tab := []) (soft := 31) (.op 0 (.op 1 (.op 2 (.op 3 (.op 4 .nil))))) rfl rfl ?_
  refine re_move rfl rfl rfl rfl rfl ?_
  refine re_nilc rfl rfl rfl rfl rfl ?_
  first | refine re_field0 rfl rfl rfl rfl rfl fo_80_8 ?_ | refine re_field rfl rfl rfl rfl rfl fo_80_8 ?_ | refine re_fieldA rfl rfl rfl rfl rfl fo_80_8 ?_
  refine re_load H rfl rfl rfl rfl rfl sh_4 rfl ?_
  simp only [hr]
  refine re_not rfl rfl rfl rfl rfl ?_
  refine re_nil ?_
  refine qe_thenC ?_
  refine ce_condT rfl ?_
  refine ce_seq ?_
  refine ce_open (tab := [0, 0, 2, 6, 14, 0, 62, 0, 128, 384, 896, 2046, 4095, 8191]) (soft := 10175) mixed (.op 0 (.op 1 (.op 2 (.op 3 (.op 4 (.op 5 (.op 7 (.op 8 (.op 9 (.op 10 (.op 6 (.op 11 (.op 12 (.op 13 .nil)))))))))))))) (by kernel_rfl) H ?_
  intro w H
  refine re_move rfl rfl rfl rfl rfl ?_
  refine re_move rfl rfl rfl rfl rfl ?_
  refine re_nilc rfl rfl rfl rfl rfl ?_
  first | refine re_field0 rfl rfl rfl rfl rfl fo_80_10 ?_ | refine re_field rfl rfl rfl rfl rfl fo_80_10 ?_ | refine re_fieldA rfl rfl rfl rfl rfl fo_80_10 ?_
  refine re_load H rfl rfl rfl rfl rfl sh_76 rfl ?_
  refine re_move rfl rfl rfl rfl rfl ?_
  refine re_move rfl rfl rfl rfl rfl ?_
  refine re_nilc rfl rfl rfl rfl rfl ?_
  first | refine re_field0 rfl rfl rfl rfl rfl fo_80_9 ?_ | refine re_field rfl rfl rfl rfl rfl fo_80_9 ?_ | refine re_fieldA rfl rfl rfl rfl rfl fo_80_9 ?_
  refine re_load H rfl rfl rfl rfl rfl sh_74 rfl ?_
  simp only [hi]
  refine re_invoke mth_131_109 en_109 rfl rfl rfl rfl rfl rfl ?_
  refine Calls.mono (msgP H) ?_
  rintro e w ⟨rfl, H⟩
  refine ⟨_, rfl, (fun _ => ⟨fun _ => still_load H sh_74 rfl, ancs (i := 6) (j := 4) rfl, trivial⟩), ?_⟩
  refine re_call en_20 rfl rfl rfl rfl rfl ?_
  simp only [hh]
  have H := Own.arr [3, 3, 3] H
  simp only [arrs, Fw.front, zm1, zm2, zm3, zm4, zm5] at H
  refine Calls.mono (missingB H hn) ?_
  rintro e w ⟨a2, c2, rfl, H⟩
  have H := H.front 4
  simp only [arrs, Fw.front, zm1, zm2, zm3, zm4, zm5] at H
  refine ⟨_, rfl, (fun _ => ⟨ancs (i := 11) (j := 10) rfl, ancs (i := 11) (j := 4) rfl, trivial⟩), ?_⟩
  refine re_call en_54 rfl rfl rfl rfl rfl ?_
  refine Calls.mono (send_s H (H.tail.rsees a2) (Nat.le_trans (missing_length _ _) hn)) ?_
  rintro e w ⟨a, c, rfl, H⟩
  refine ⟨_, rfl, (fun _ => ⟨ancs (i := 12) (j := 10) rfl, ancs (i := 12) (j := 4) rfl, trivial⟩), ?_⟩
  refine re_assign rfl rfl rfl rfl rfl ?_
  refine re_nil ?_
  refine qe_noPanic ?_
  refine qe_thenC ?_
  refine ce_ret ?_
  refine qe_then_ret ?_
  refine qe_end rfl rfl ?_
  have H := Own.arr [5, 5, 5, 4, 4] H
  simp only [arrs, Fw.front, zm1, zm2, zm3, zm4, zm5] at H
  replace H := H.sub (.cons_cons _ (.cons_cons _ (.cons_cons _ (.cons_cons _ (.cons_cons _ (.cons _ (List.Sublist.refl _)))))))
  exact ⟨a, c, rfl, H⟩

theorem tick_wornP {B w : World} {F : List Ent} {g : Nat} {p : PS} {q : Nat} (H : Own B (.cells g 80 p.cells :: F) w) (hi : p.ph = phP q) (hr : p.rf = true) (hw : 1099511627776 ≤ max p.bal p.nt ∨ 1099511627776 ≤ p.rnd) :
    Calls Try.prog 25 #[.pointer (some ⟨g, 0, none⟩)] w fun e w' => e = .returned (slv none 0 0) ∧ Own B (.cells g 80 { p.over with wn := true }.cells :: F) w' := by
  refine calls_ce (args := [.pointer (some ⟨g, 0, none⟩)]) Try.func25 rfl rfl ?_
  change CE _ _ 64 _ _ [(0, .pointer (some ⟨g, 0, none⟩))] _
  refine ce_seq ?_
  refine ce_text (tab := []) (soft := 1) (.op 0 .nil) rfl rfl ?_
  refine re_assign rfl rfl rfl rfl rfl ?_
  refine re_nil ?_
  refine qe_thenC ?_
  refine ce_seq ?_
  refine ce_seq ?_
  refine ce_text (tab := []) (soft := 65535) (.op 0 (.op 1 (.op 2 (.op 3 (.op 4 (.op 5 (.op 6 (.op 7 (.op 8 (.op 9 (.op 10 (.op 11 (.op 12 (.op 13 (.op 14 (.op 15 .nil)))))))))))))))) rfl rfl ?_
  refine re_move rfl rfl rfl rfl rfl ?_
  refine re_nilc rfl rfl rfl rfl rfl ?_
  first | refine re_field0 rfl rfl rfl rfl rfl fo_80_10 ?_ | refine re_field rfl rfl rfl rfl rfl fo_80_10 ?_ | refine re_fieldA rfl rfl rfl rfl rfl fo_80_10 ?_
  refine re_load H rfl rfl rfl rfl rfl sh_76 rfl ?_
  refine re_build rfl rfl rfl rfl rfl ze_73 pl_73 (by simp only [fillL, setMany, Value.cells, List.getElem?_cons_zero, List.getElem?_cons_succ, List.length_cons, List.length_nil, List.set_cons_zero, List.set_cons_succ, Nat.reduceAdd, Nat.reduceLeDiff, Nat.zero_add, and_self, ↓reduceIte]; rfl) ?_
  refine re_iface rfl rfl rfl rfl rfl nif_73 ?_
  simp only [hi]
  refine re_binW rfl rfl rfl rfl rfl rfl (run_ifNe ifc_76 rfl (.inl ⟨rfl, rfl⟩)) ?_
  refine re_move rfl rfl rfl rfl rfl ?_
  refine re_move rfl rfl rfl rfl rfl ?_
  refine re_nilc rfl rfl rfl rfl rfl ?_
  first | refine re_field0 rfl rfl rfl rfl rfl fo_80_10 ?_ | refine re_field rfl rfl rfl rfl rfl fo_80_10 ?_ | refine re_fieldA rfl rfl rfl rfl rfl fo_80_10 ?_
  refine re_load H rfl rfl rfl rfl rfl sh_76 rfl ?_
  refine re_build rfl rfl rfl rfl rfl ze_97 pl_97 (by simp only [fillL, setMany, Value.cells, List.getElem?_cons_zero, List.getElem?_cons_succ, List.length_cons, List.length_nil, List.set_cons_zero, List.set_cons_succ, Nat.reduceAdd, Nat.reduceLeDiff, Nat.zero_add, and_self, ↓reduceIte]; rfl) ?_
  refine re_iface rfl rfl rfl rfl rfl nif_97 ?_
  simp only [hi]
  refine re_binW rfl rfl rfl rfl rfl rfl (run_ifNe ifc_76 rfl (.inl ⟨rfl, rfl⟩)) ?_
  refine re_pickF rfl rfl rfl rfl rfl rfl ?_
  refine re_nil ?_
  refine qe_thenC ?_
  refine ce_condF rfl ?_
  refine ce_skip ?_
  refine qe_thenC ?_
  refine ce_seq ?_
  refine ce_seq ?_
  refine ce_text (tab := []) (soft := 31) (.op 0 (.op 1 (.op 2 (.op 3 (.op 4 .nil))))) rfl rfl ?_
  refine re_move rfl rfl rfl rfl rfl ?_
  refine re_nilc rfl rfl rfl rfl rfl ?_
  first | refine re_field0 rfl rfl rfl rfl rfl fo_80_8 ?_ | refine re_field rfl rfl rfl rfl rfl fo_80_8 ?_ | refine re_fieldA rfl rfl rfl rfl rfl fo_80_8 ?_
  refine re_load H rfl rfl rfl rfl rfl sh_4 rfl ?_
  simp only [hr]
  refine re_not rfl rfl rfl rfl rfl ?_
  refine re_nil ?_
  refine qe_thenC ?_
  refine ce_condF rfl ?_
  refine ce_skip ?_
  refine qe_thenC ?_
  refine ce_seq ?_
  refine ce_seq ?_
  refine ce_text (tab := []) (soft := 1021) (.op 0 (.op 1 (.op 2 (.op 3 (.op 4 (.op 5 (.op 6 (.op 7 (.op 8 (.op 9 .nil)))))))))) rfl rfl ?_
  refine re_move rfl rfl rfl rfl rfl ?_
  refine re_call en_34 rfl rfl rfl rfl rfl ?_
  refine Calls.mono (ballot_s H) ?_
  rintro e w ⟨rfl, H⟩
  refine ⟨_, rfl, (fun h => (nomatch h)), ?_⟩
  refine re_bin rfl rfl rfl rfl rfl rfl rfl ?_
  refine re_move rfl rfl rfl rfl rfl ?_
  refine re_split (fun hg5_3 => ?_) (fun hg5_3 => ?_)
  ·
    refine re_skip1 rfl rfl rfl ?_
    refine re_skip1 rfl rfl rfl ?_
    refine re_skip1 rfl rfl rfl ?_
    refine re_skip1 rfl rfl rfl ?_
    refine re_skip1 rfl rfl rfl ?_
    refine re_pickT rfl rfl rfl rfl rfl rfl ?_
    refine re_nil ?_
    refine qe_thenC ?_
    refine ce_condT rfl ?_
    refine ce_seq ?_
    refine ce_text (tab := []) (soft := 5) (.op 0 (.op 1 (.op 2 .nil))) rfl rfl ?_
    refine re_move rfl rfl rfl rfl rfl ?_
    refine re_call en_41 rfl rfl rfl rfl rfl ?_
    refine Calls.mono (wear_s H) ?_
    rintro e w ⟨rfl, H⟩
    refine ⟨_, rfl, (fun h => (nomatch h)), ?_⟩
    refine re_assign rfl rfl rfl rfl rfl ?_
    refine re_nil ?_
    refine qe_thenC ?_
    refine ce_ret ?_
    refine qe_then_ret ?_
    refine qe_end rfl rfl ?_
    exact ⟨rfl, H⟩
  ·
    refine re_move rfl rfl rfl rfl rfl ?_
    refine re_nilc rfl rfl rfl rfl rfl ?_
    first | refine re_field0 rfl rfl rfl rfl rfl fo_80_6 ?_ | refine re_field rfl rfl rfl rfl rfl fo_80_6 ?_ | refine re_fieldA rfl rfl rfl rfl rfl fo_80_6 ?_
    refine re_load H rfl rfl rfl rfl rfl sh_3 rfl ?_
    refine re_bin rfl rfl rfl rfl rfl rfl rfl ?_
    refine re_pickF rfl rfl rfl rfl rfl rfl ?_
    refine re_nil ?_
    refine qe_thenC ?_
    refine ce_cond rfl (fun h2 => ?_) (fun h2 => ?_)
    · try simp only [zn1, zn2, zn3, zn4, zn5, zn6] at h2
      refine ce_seq ?_
      refine ce_text (tab := []) (soft := 5) (.op 0 (.op 1 (.op 2 .nil))) rfl rfl ?_
      refine re_move rfl rfl rfl rfl rfl ?_
      refine re_call en_41 rfl rfl rfl rfl rfl ?_
      refine Calls.mono (wear_s H) ?_
      rintro e w ⟨rfl, H⟩
      refine ⟨_, rfl, (fun h => (nomatch h)), ?_⟩
      refine re_assign rfl rfl rfl rfl rfl ?_
      refine re_nil ?_
      refine qe_thenC ?_
      refine ce_ret ?_
      refine qe_then_ret ?_
      refine qe_end rfl rfl ?_
      exact ⟨rfl, H⟩
    · try simp only [zn1, zn2, zn3, zn4, zn5, zn6] at h2
      exact absurd hw (by simp at hg5_3; omega)

theorem tick_raiseP {B w : World} {F : List Ent} {g : Nat} {p : PS} {q : Nat} (H : Own B (.cells g 80 p.cells :: .row p.ga p.gc 3 1 p.gs.length (ints p.gs) :: F) w) (hn : p.gs.length ≤ 1000000) (hu : unlike p.gs = p.gs) (hi : p.ph = phP q) (hr : p.rf = true) (hw : ¬ (1099511627776 ≤ max p.bal p.nt ∨ 1099511627776 ≤ p.rnd)) (hlo : -1 ≤ p.rnd ∧ -1 ≤ p.bal) :
    Calls Try.prog 25 #[.pointer (some ⟨g, 0, none⟩)] w fun e w' => ∃ ht ha hc hm qt qa qc qm a c, e = .returned (slv a (p.raise.outP p.gs).length c) ∧ Own B (.row a c 46 30 (p.raise.outP p.gs).length (msgs (p.raise.outP p.gs)) :: .cells g 80 (p.raise.enter (phP qt) ht).cells :: .row p.ga p.gc 3 1 p.gs.length (ints p.gs) :: .cells ht 109 [slv ha p.gs.length hc, .int .i64 ((p.gs.length : Int) + 1), .map (some hm)] :: .row ha hc 3 1 p.gs.length (ints p.gs) :: .imap hm (heardK []) :: .cells qt 145 [slv qa p.gs.length qc, .int .i64 ((p.gs.length : Int) / 2 + 1), .map (some qm)] :: .row qa qc 3 1 p.gs.length (ints p.gs) :: .imap qm (kvM []) :: F) w' := by
  refine calls_ce (args := [.pointer (some ⟨g, 0, none⟩)]) Try.func25 rfl rfl ?_
  change CE _ _ 64 _ _ [(0, .pointer (some ⟨g, 0, none⟩))] _
  refine ce_seq ?_
  refine ce_text (tab := []) (soft := 1) (.op 0 .nil) rfl rfl ?_
  refine re_assign rfl rfl rfl rfl rfl ?_
  refine re_nil ?_
  refine qe_thenC ?_
  refine ce_seq ?_
  refine ce_seq ?_
  refine ce_text (tab := []) (soft := 65535) (.op 0 (.op 1 (.op 2 (.op 3 (.op 4 (.op 5 (.op 6 (.op 7 (.op 8 (.op 9 (.op 10 (.op 11 (.op 12 (.op 13 (.op 14 (.op 15 .nil)))))))))))))))) rfl rfl ?_
  refine re_move rfl rfl rfl rfl rfl ?_
  refine re_nilc rfl rfl rfl rfl rfl ?_
  first | refine re_field0 rfl rfl rfl rfl rfl fo_80_10 ?_ | refine re_field rfl rfl rfl rfl rfl fo_80_10 ?_ | refine re_fieldA rfl rfl rfl rfl rfl fo_80_10 ?_
  refine re_load H rfl rfl rfl rfl rfl sh_76 rfl ?_
  refine re_build rfl rfl rfl rfl rfl ze_73 pl_73 (by simp only [fillL, setMany, Value.cells, List.getElem?_cons_zero, List.getElem?_cons_succ, List.length_cons, List.length_nil, List.set_cons_zero, List.set_cons_succ, Nat.reduceAdd, Nat.reduceLeDiff, Nat.zero_add, and_self, ↓reduceIte]; rfl) ?_
  refine re_iface rfl rfl rfl rfl rfl nif_73 ?_
  simp only [hi]
  refine re_binW rfl rfl rfl rfl rfl rfl (run_ifNe ifc_76 rfl (.inl ⟨rfl, rfl⟩)) ?_
  refine re_move rfl rfl rfl rfl rfl ?_
  refine re_move rfl rfl rfl rfl rfl ?_
  refine re_nilc rfl rfl rfl rfl rfl ?_
  first | refine re_field0 rfl rfl rfl rfl rfl fo_80_10 ?_ | refine re_field rfl rfl rfl rfl rfl fo_80_10 ?_ | refine re_fieldA rfl rfl rfl rfl rfl fo_80_10 ?_
  refine re_load H rfl rfl rfl rfl rfl sh_76 rfl ?_
  refine re_build rfl rfl rfl rfl rfl ze_97 pl_97 (by simp only [fillL, setMany, Value.cells, List.getElem?_cons_zero, List.getElem?_cons_succ, List.length_cons, List.length_nil, List.set_cons_zero, List.set_cons_succ, Nat.reduceAdd, Nat.reduceLeDiff, Nat.zero_add, and_self, ↓reduceIte]; rfl) ?_
  refine re_iface rfl rfl rfl rfl rfl nif_97 ?_
  simp only [hi]
  refine re_binW rfl rfl rfl rfl rfl rfl (run_ifNe ifc_76 rfl (.inl ⟨rfl, rfl⟩)) ?_
  refine re_pickF rfl rfl rfl rfl rfl rfl ?_
  refine re_nil ?_
  refine qe_thenC ?_
  refine ce_condF rfl ?_
  refine ce_skip ?_
  refine qe_thenC ?_
  refine ce_seq ?_
  refine ce_seq ?_
  refine ce_text (tab := []) (soft := 31) (.op 0 (.op 1 (.op 2 (.op 3 (.op 4 .nil))))) rfl rfl ?_
  refine re_move rfl rfl rfl rfl rfl ?_
  refine re_nilc rfl rfl rfl rfl rfl ?_
  first | refine re_field0 rfl rfl rfl rfl rfl fo_80_8 ?_ | refine re_field rfl rfl rfl rfl rfl fo_80_8 ?_ | refine re_fieldA rfl rfl rfl rfl rfl fo_80_8 ?_
  refine re_load H rfl rfl rfl rfl rfl sh_4 rfl ?_
  simp only [hr]
  refine re_not rfl rfl rfl rfl rfl ?_
  refine re_nil ?_
  refine qe_thenC ?_
  refine ce_condF rfl ?_
  refine ce_skip ?_
  refine qe_thenC ?_
  refine ce_seq ?_
  refine ce_seq ?_
  refine ce_text (tab := []) (soft := 1021) (.op 0 (.op 1 (.op 2 (.op 3 (.op 4 (.op 5 (.op 6 (.op 7 (.op 8 (.op 9 .nil)))))))))) rfl rfl ?_
  refine re_move rfl rfl rfl rfl rfl ?_
  refine re_call en_34 rfl rfl rfl rfl rfl ?_
  refine Calls.mono (ballot_s H) ?_
  rintro e w ⟨rfl, H⟩
  refine ⟨_, rfl, (fun h => (nomatch h)), ?_⟩
  refine re_bin rfl rfl rfl rfl rfl rfl rfl ?_
  have hg0 : decide (1099511627776 ≤ max p.bal p.nt) = false := by simp; omega
  simp only [hg0]
  refine re_move rfl rfl rfl rfl rfl ?_
  refine re_move rfl rfl rfl rfl rfl ?_
  refine re_nilc rfl rfl rfl rfl rfl ?_
  first | refine re_field0 rfl rfl rfl rfl rfl fo_80_6 ?_ | refine re_field rfl rfl rfl rfl rfl fo_80_6 ?_ | refine re_fieldA rfl rfl rfl rfl rfl fo_80_6 ?_
  refine re_load H rfl rfl rfl rfl rfl sh_3 rfl ?_
  refine re_bin rfl rfl rfl rfl rfl rfl rfl ?_
  refine re_pickF rfl rfl rfl rfl rfl rfl ?_
  refine re_nil ?_
  refine qe_thenC ?_
  refine ce_cond rfl (fun h2 => ?_) (fun h2 => ?_)
  · try simp only [zn1, zn2, zn3, zn4, zn5, zn6] at h2
    exact absurd (.inr (by simpa using h2)) hw
  · try simp only [zn1, zn2, zn3, zn4, zn5, zn6] at h2
    refine ce_skip ?_
    refine qe_thenC ?_
    refine ce_seq ?_
    refine ce_text (tab := []) (soft := 59) (.op 0 (.op 1 (.op 2 (.op 3 (.op 4 (.op 5 (.op 6 .nil))))))) rfl rfl ?_
    refine re_move rfl rfl rfl rfl rfl ?_
    refine re_move rfl rfl rfl rfl rfl ?_
    refine re_call en_34 rfl rfl rfl rfl rfl ?_
    refine Calls.mono (ballot_s H) ?_
    rintro e w ⟨rfl, H⟩
    refine ⟨_, rfl, (fun h => (nomatch h)), ?_⟩
    first | refine re_add rfl rfl rfl rfl rfl rfl (by omega) ?_ | refine re_bin rfl rfl rfl rfl rfl rfl rfl ?_
    refine re_nilc rfl rfl rfl rfl rfl ?_
    first | refine re_field0 rfl rfl rfl rfl rfl fo_80_5 ?_ | refine re_field rfl rfl rfl rfl rfl fo_80_5 ?_ | refine re_fieldA rfl rfl rfl rfl rfl fo_80_5 ?_
    refine re_store H rfl rfl rfl rfl rfl rfl sh_3 rfl rfl rfl ?_
    intro cs w hcs H
    first | rw [setMany_whole rfl] at hcs | simp only [setMany, List.set_cons_zero, List.set_cons_succ, Nat.reduceAdd, Nat.zero_add, PS.cells, PS.over, GM.cells, Cmd.cells, List.cons_append, List.nil_append] at hcs
    subst hcs
    refine ⟨(fun h => (nomatch h)), ?_⟩
    refine re_nil ?_
    refine qe_thenC ?_
    refine ce_seq ?_
    refine ce_text (tab := []) (soft := 127) (.op 0 (.op 1 (.op 2 (.op 3 (.op 4 (.op 5 (.op 6 (.op 7 .nil)))))))) rfl rfl ?_
    refine re_move rfl rfl rfl rfl rfl ?_
    refine re_nilc rfl rfl rfl rfl rfl ?_
    first | refine re_field0 rfl rfl rfl rfl rfl fo_80_6 ?_ | refine re_field rfl rfl rfl rfl rfl fo_80_6 ?_ | refine re_fieldA rfl rfl rfl rfl rfl fo_80_6 ?_
    refine re_load H rfl rfl rfl rfl rfl sh_3 rfl ?_
    first | refine re_add rfl rfl rfl rfl rfl rfl (by omega) ?_ | refine re_bin rfl rfl rfl rfl rfl rfl rfl ?_
    refine re_nilc rfl rfl rfl rfl rfl ?_
    first | refine re_field0 rfl rfl rfl rfl rfl fo_80_6 ?_ | refine re_field rfl rfl rfl rfl rfl fo_80_6 ?_ | refine re_fieldA rfl rfl rfl rfl rfl fo_80_6 ?_
    refine re_store H rfl rfl rfl rfl rfl rfl sh_3 rfl rfl rfl ?_
    intro cs w hcs H
    first | rw [setMany_whole rfl] at hcs | simp only [setMany, List.set_cons_zero, List.set_cons_succ, Nat.reduceAdd, Nat.zero_add, PS.cells, PS.over, GM.cells, Cmd.cells, List.cons_append, List.nil_append] at hcs
    subst hcs
    refine ⟨(fun h => (nomatch h)), ?_⟩
    refine re_nil ?_
    refine qe_thenC ?_
    refine ce_seq ?_
    refine ce_text (tab := []) (soft := 5) (.op 0 (.op 1 (.op 2 .nil))) rfl rfl ?_
    refine re_move rfl rfl rfl rfl rfl ?_
    refine re_call en_42 rfl rfl rfl rfl rfl ?_
    refine Calls.mono (prepare_s (p := p.raise) H hn hu) ?_
    rintro e w ⟨ht, ha, hc, hm, qt, qa, qc, qm, a, c, rfl, H⟩
    refine ⟨_, rfl, (fun h => (nomatch h)), ?_⟩
    refine re_assign rfl rfl rfl rfl rfl ?_
    refine re_nil ?_
    refine qe_thenC ?_
    refine ce_ret ?_
    refine qe_end rfl rfl ?_
    exact ⟨ht, ha, hc, hm, qt, qa, qc, qm, a, c, rfl, H⟩

theorem tick_quietA {B w : World} {F : List Ent} {g : Nat} {p : PS} {q : Nat} {cm : Cmd} {ht hm hc : Nat} {ha : Option Nat} {hs : List Int} (H : Own B (.cells g 80 p.cells :: .cells ht 109 [slv ha p.gs.length hc, .int .i64 ((p.gs.length : Int) + 1), .map (some hm)] :: .row ha hc 3 1 p.gs.length (ints p.gs) :: .imap hm (heardK hs) :: F) w) (hn : p.gs.length ≤ 1000000) (hh : p.hd = .pointer (some ⟨ht, 0, none⟩)) (hi : p.ph = phA q cm) (hr : p.rf = false) :
    Calls Try.prog 25 #[.pointer (some ⟨g, 0, none⟩)] w fun e w' => ∃ a c, e = .returned (slv a (p.outA cm (missing p.gs (heardK hs))).length c) ∧ Own B (.row a c 46 30 (p.outA cm (missing p.gs (heardK hs))).length (msgs (p.outA cm (missing p.gs (heardK hs)))) :: .cells g 80 p.cells :: .cells ht 109 [slv ha p.gs.length hc, .int .i64 ((p.gs.length : Int) + 1), .map (some hm)] :: .row ha hc 3 1 p.gs.length (ints p.gs) :: .imap hm (heardK hs) :: F) w' := by
  refine calls_ce (args := [.pointer (some ⟨g, 0, none⟩)]) Try.func25 rfl rfl ?_
  change CE _ _ 64 _ _ [(0, .pointer (some ⟨g, 0, none⟩))] _
  refine ce_seq ?_
  refine ce_text (tab := []) (soft := 1) (.op 0 .nil) rfl rfl ?_
  refine re_assign rfl rfl rfl rfl rfl ?_
  refine re_nil ?_
  refine qe_thenC ?_
  refine ce_seq ?_
  refine ce_seq ?_
  refine ce_text (tab := []) (soft := 65535) (.op 0 (.op 1 (.op 2 (.op 3 (.op 4 (.op 5 (.op 6 (.op 7 (.op 8 (.op 9 (.op 10 (.op 11 (.op 12 (.op 13 (.op 14 (.op 15 .nil)))))))))))))))) rfl rfl ?_
  refine re_move rfl rfl rfl rfl rfl ?_
  refine re_nilc rfl rfl rfl rfl rfl ?_
  first | refine re_field0 rfl rfl rfl rfl rfl fo_80_10 ?_ | refine re_field rfl rfl rfl rfl rfl fo_80_10 ?_ | refine re_fieldA rfl rfl rfl rfl rfl fo_80_10 ?_
  refine re_load H rfl rfl rfl rfl rfl sh_76 rfl ?_
  refine re_build rfl rfl rfl rfl rfl ze_73 pl_73 (by simp only [fillL, setMany, Value.cells, List.getElem?_cons_zero, List.getElem?_cons_succ, List.length_cons, List.length_nil, List.set_cons_zero, List.set_cons_succ, Nat.reduceAdd, Nat.reduceLeDiff, Nat.zero_add, and_self, ↓reduceIte]; rfl) ?_
  refine re_iface rfl rfl rfl rfl rfl nif_73 ?_
  simp only [hi]
  refine re_binW rfl rfl rfl rfl rfl rfl (run_ifNe ifc_76 rfl (.inl ⟨rfl, rfl⟩)) ?_
  refine re_move rfl rfl rfl rfl rfl ?_
  refine re_move rfl rfl rfl rfl rfl ?_
  refine re_nilc rfl rfl rfl rfl rfl ?_
  first | refine re_field0 rfl rfl rfl rfl rfl fo_80_10 ?_ | refine re_field rfl rfl rfl rfl rfl fo_80_10 ?_ | refine re_fieldA rfl rfl rfl rfl rfl fo_80_10 ?_
  refine re_load H rfl rfl rfl rfl rfl sh_76 rfl ?_
  refine re_build rfl rfl rfl rfl rfl ze_97 pl_97 (by simp only [fillL, setMany, Value.cells, List.getElem?_cons_zero, List.getElem?_cons_succ, List.length_cons, List.length_nil, List.set_cons_zero, List.set_cons_succ, Nat.reduceAdd, Nat.reduceLeDiff, Nat.zero_add, and_self, ↓reduceIte]; rfl) ?_
  refine re_iface rfl rfl rfl rfl rfl nif_97 ?_
  simp only [hi]
  refine re_binW rfl rfl rfl rfl rfl rfl (run_ifNe ifc_76 rfl (.inl ⟨rfl, rfl⟩)) ?_
  refine re_pickF rfl rfl rfl rfl rfl rfl ?_
  refine re_nil ?_
  refine qe_thenC ?_
  refine ce_condF rfl ?_
  refine ce_skip ?_
  refine qe_thenC ?_
  refine ce_seq ?_
  refine ce_seq ?_
  refine ce_text (tab := []) (soft := 31) (.op 0 (.op 1 (.op 2 (.op 3 (.op 4 .nil))))) rfl rfl ?_
  refine re_move rfl rfl rfl rfl rfl ?_
  refine re_nilc rfl rfl rfl rfl rfl ?_
  first | refine re_field0 rfl rfl rfl rfl rfl fo_80_8 ?_ | refine re_field rfl rfl rfl rfl rfl fo_80_8 ?_ | refine re_fieldA rfl rfl rfl rfl rfl fo_80_8 ?_
  refine re_load H rfl rfl rfl rfl rfl sh_4 rfl ?_
  simp only [hr]
  refine re_not rfl rfl rfl rfl rfl ?_
  refine re_nil ?_
  refine qe_thenC ?_
  refine ce_condT rfl ?_
  refine ce_seq ?_
  refine ce_open (tab := [0, 0, 2, 6, 14, 0, 62, 0, 128, 384, 896, 2046, 4095, 8191]) (soft := 10175) mixed (.op 0 (.op 1 (.op 2 (.op 3 (.op 4 (.op 5 (.op 7 (.op 8 (.op 9 (.op 10 (.op 6 (.op 11 (.op 12 (.op 13 .nil)))))))))))))) (by kernel_rfl) H ?_
  intro w H
  refine re_move rfl rfl rfl rfl rfl ?_
  refine re_move rfl rfl rfl rfl rfl ?_
  refine re_nilc rfl rfl rfl rfl rfl ?_
  first | refine re_field0 rfl rfl rfl rfl rfl fo_80_10 ?_ | refine re_field rfl rfl rfl rfl rfl fo_80_10 ?_ | refine re_fieldA rfl rfl rfl rfl rfl fo_80_10 ?_
  refine re_load H rfl rfl rfl rfl rfl sh_76 rfl ?_
  refine re_move rfl rfl rfl rfl rfl ?_
  refine re_move rfl rfl rfl rfl rfl ?_
  refine re_nilc rfl rfl rfl rfl rfl ?_
  first | refine re_field0 rfl rfl rfl rfl rfl fo_80_9 ?_ | refine re_field rfl rfl rfl rfl rfl fo_80_9 ?_ | refine re_fieldA rfl rfl rfl rfl rfl fo_80_9 ?_
  refine re_load H rfl rfl rfl rfl rfl sh_74 rfl ?_
  simp only [hi]
  refine re_invoke mth_137_110 en_110 rfl rfl rfl rfl rfl rfl ?_
  refine Calls.mono (msgA H) ?_
  rintro e w ⟨rfl, H⟩
  refine ⟨_, rfl, (fun _ => ⟨fun _ => still_load H sh_74 rfl, ancs (i := 6) (j := 4) rfl, trivial⟩), ?_⟩
  refine re_call en_20 rfl rfl rfl rfl rfl ?_
  simp only [hh]
  have H := Own.arr [3, 3, 3] H
  simp only [arrs, Fw.front, zm1, zm2, zm3, zm4, zm5] at H
  refine Calls.mono (missingB H hn) ?_
  rintro e w ⟨a2, c2, rfl, H⟩
  have H := H.front 4
  simp only [arrs, Fw.front, zm1, zm2, zm3, zm4, zm5] at H
  refine ⟨_, rfl, (fun _ => ⟨ancs (i := 11) (j := 10) rfl, ancs (i := 11) (j := 4) rfl, trivial⟩), ?_⟩
  refine re_call en_54 rfl rfl rfl rfl rfl ?_
  refine Calls.mono (send_s H (H.tail.rsees a2) (Nat.le_trans (missing_length _ _) hn)) ?_
  rintro e w ⟨a, c, rfl, H⟩
  refine ⟨_, rfl, (fun _ => ⟨ancs (i := 12) (j := 10) rfl, ancs (i := 12) (j := 4) rfl, trivial⟩), ?_⟩
  refine re_assign rfl rfl rfl rfl rfl ?_
  refine re_nil ?_
  refine qe_noPanic ?_
  refine qe_thenC ?_
  refine ce_ret ?_
  refine qe_then_ret ?_
  refine qe_end rfl rfl ?_
  have H := Own.arr [5, 5, 5, 4, 4] H
  simp only [arrs, Fw.front, zm1, zm2, zm3, zm4, zm5] at H
  replace H := H.sub (.cons_cons _ (.cons_cons _ (.cons_cons _ (.cons_cons _ (.cons_cons _ (.cons _ (List.Sublist.refl _)))))))
  exact ⟨a, c, rfl, H⟩

theorem tick_wornA {B w : World} {F : List Ent} {g : Nat} {p : PS} {q : Nat} {cm : Cmd} (H : Own B (.cells g 80 p.cells :: F) w) (hi : p.ph = phA q cm) (hr : p.rf = true) (hw : 1099511627776 ≤ max p.bal p.nt ∨ 1099511627776 ≤ p.rnd) :
    Calls Try.prog 25 #[.pointer (some ⟨g, 0, none⟩)] w fun e w' => e = .returned (slv none 0 0) ∧ Own B (.cells g 80 { p.over with wn := true }.cells :: F) w' := by
  refine calls_ce (args := [.pointer (some ⟨g, 0, none⟩)]) Try.func25 rfl rfl ?_
  change CE _ _ 64 _ _ [(0, .pointer (some ⟨g, 0, none⟩))] _
  refine ce_seq ?_
  refine ce_text (tab := []) (soft := 1) (.op 0 .nil) rfl rfl ?_
  refine re_assign rfl rfl rfl rfl rfl ?_
  refine re_nil ?_
  refine qe_thenC ?_
  refine ce_seq ?_
  refine ce_seq ?_
  refine ce_text (tab := []) (soft := 65535) (.op 0 (.op 1 (.op 2 (.op 3 (.op 4 (.op 5 (.op 6 (.op 7 (.op 8 (.op 9 (.op 10 (.op 11 (.op 12 (.op 13 (.op 14 (.op 15 .nil)))))))))))))))) rfl rfl ?_
  refine re_move rfl rfl rfl rfl rfl ?_
  refine re_nilc rfl rfl rfl rfl rfl ?_
  first | refine re_field0 rfl rfl rfl rfl rfl fo_80_10 ?_ | refine re_field rfl rfl rfl rfl rfl fo_80_10 ?_ | refine re_fieldA rfl rfl rfl rfl rfl fo_80_10 ?_
  refine re_load H rfl rfl rfl rfl rfl sh_76 rfl ?_
  refine re_build rfl rfl rfl rfl rfl ze_73 pl_73 (by simp only [fillL, setMany, Value.cells, List.getElem?_cons_zero, List.getElem?_cons_succ, List.length_cons, List.length_nil, List.set_cons_zero, List.set_cons_succ, Nat.reduceAdd, Nat.reduceLeDiff, Nat.zero_add, and_self, ↓reduceIte]; rfl) ?_
  refine re_iface rfl rfl rfl rfl rfl nif_73 ?_
  simp only [hi]
  refine re_binW rfl rfl rfl rfl rfl rfl (run_ifNe ifc_76 rfl (.inl ⟨rfl, rfl⟩)) ?_
  refine re_move rfl rfl rfl rfl rfl ?_
  refine re_move rfl rfl rfl rfl rfl ?_
  refine re_nilc rfl rfl rfl rfl rfl ?_
  first | refine re_field0 rfl rfl rfl rfl rfl fo_80_10 ?_ | refine re_field rfl rfl rfl rfl rfl fo_80_10 ?_ | refine re_fieldA rfl rfl rfl rfl rfl fo_80_10 ?_
  refine re_load H rfl rfl rfl rfl rfl sh_76 rfl ?_
  refine re_build rfl rfl rfl rfl rfl ze_97 pl_97 (by simp only [fillL, setMany, Value.cells, List.getElem?_cons_zero, List.getElem?_cons_succ, List.length_cons, List.length_nil, List.set_cons_zero, List.set_cons_succ, Nat.reduceAdd, Nat.reduceLeDiff, Nat.zero_add, and_self, ↓reduceIte]; rfl) ?_
  refine re_iface rfl rfl rfl rfl rfl nif_97 ?_
  simp only [hi]
  refine re_binW rfl rfl rfl rfl rfl rfl (run_ifNe ifc_76 rfl (.inl ⟨rfl, rfl⟩)) ?_
  refine re_pickF rfl rfl rfl rfl rfl rfl ?_
  refine re_nil ?_
  refine qe_thenC ?_
  refine ce_condF rfl ?_
  refine ce_skip ?_
  refine qe_thenC ?_
  refine ce_seq ?_
  refine ce_seq ?_
  refine ce_text (tab := []) (soft := 31) (.op 0 (.op 1 (.op 2 (.op 3 (.op 4 .nil))))) rfl rfl ?_
  refine re_move rfl rfl rfl rfl rfl ?_
  refine re_nilc rfl rfl rfl rfl rfl ?_
  first | refine re_field0 rfl rfl rfl rfl rfl fo_80_8 ?_ | refine re_field rfl rfl rfl rfl rfl fo_80_8 ?_ | refine re_fieldA rfl rfl rfl rfl rfl fo_80_8 ?_
  refine re_load H rfl rfl rfl rfl rfl sh_4 rfl ?_
  simp only [hr]
  refine re_not rfl rfl rfl rfl rfl ?_
  refine re_nil ?_
  refine qe_thenC ?_
  refine ce_condF rfl ?_
  refine ce_skip ?_
  refine qe_thenC ?_
  refine ce_seq ?_
  refine ce_seq ?_
  refine ce_text (tab := []) (soft := 1021) (.op 0 (.op 1 (.op 2 (.op 3 (.op 4 (.op 5 (.op 6 (.op 7 (.op 8 (.op 9 .nil)))))))))) rfl rfl ?_
  refine re_move rfl rfl rfl rfl rfl ?_
  refine re_call en_34 rfl rfl rfl rfl rfl ?_
  refine Calls.mono (ballot_s H) ?_
  rintro e w ⟨rfl, H⟩
  refine ⟨_, rfl, (fun h => (nomatch h)), ?_⟩
  refine re_bin rfl rfl rfl rfl rfl rfl rfl ?_
  refine re_move rfl rfl rfl rfl rfl ?_
  refine re_split (fun hg5_3 => ?_) (fun hg5_3 => ?_)
  ·
    refine re_skip1 rfl rfl rfl ?_
    refine re_skip1 rfl rfl rfl ?_
    refine re_skip1 rfl rfl rfl ?_
    refine re_skip1 rfl rfl rfl ?_
    refine re_skip1 rfl rfl rfl ?_
    refine re_pickT rfl rfl rfl rfl rfl rfl ?_
    refine re_nil ?_
    refine qe_thenC ?_
    refine ce_condT rfl ?_
    refine ce_seq ?_
    refine ce_text (tab := []) (soft := 5) (.op 0 (.op 1 (.op 2 .nil))) rfl rfl ?_
    refine re_move rfl rfl rfl rfl rfl ?_
    refine re_call en_41 rfl rfl rfl rfl rfl ?_
    refine Calls.mono (wear_s H) ?_
    rintro e w ⟨rfl, H⟩
    refine ⟨_, rfl, (fun h => (nomatch h)), ?_⟩
    refine re_assign rfl rfl rfl rfl rfl ?_
    refine re_nil ?_
    refine qe_thenC ?_
    refine ce_ret ?_
    refine qe_then_ret ?_
    refine qe_end rfl rfl ?_
    exact ⟨rfl, H⟩
  ·
    refine re_move rfl rfl rfl rfl rfl ?_
    refine re_nilc rfl rfl rfl rfl rfl ?_
    first | refine re_field0 rfl rfl rfl rfl rfl fo_80_6 ?_ | refine re_field rfl rfl rfl rfl rfl fo_80_6 ?_ | refine re_fieldA rfl rfl rfl rfl rfl fo_80_6 ?_
    refine re_load H rfl rfl rfl rfl rfl sh_3 rfl ?_
    refine re_bin rfl rfl rfl rfl rfl rfl rfl ?_
    refine re_pickF rfl rfl rfl rfl rfl rfl ?_
    refine re_nil ?_
    refine qe_thenC ?_
    refine ce_cond rfl (fun h2 => ?_) (fun h2 => ?_)
    · try simp only [zn1, zn2, zn3, zn4, zn5, zn6] at h2
      refine ce_seq ?_
      refine ce_text (tab := []) (soft := 5) (.op 0 (.op 1 (.op 2 .nil))) rfl rfl ?_
      refine re_move rfl rfl rfl rfl rfl ?_
      refine re_call en_41 rfl rfl rfl rfl rfl ?_
      refine Calls.mono (wear_s H) ?_
      rintro e w ⟨rfl, H⟩
      refine ⟨_, rfl, (fun h => (nomatch h)), ?_⟩
      refine re_assign rfl rfl rfl rfl rfl ?_
      refine re_nil ?_
      refine qe_thenC ?_
      refine ce_ret ?_
      refine qe_then_ret ?_
      refine qe_end rfl rfl ?_
      exact ⟨rfl, H⟩
    · try simp only [zn1, zn2, zn3, zn4, zn5, zn6] at h2
      exact absurd hw (by simp at hg5_3; omega)

theorem tick_raiseA {B w : World} {F : List Ent} {g : Nat} {p : PS} {q : Nat} {cm : Cmd} (H : Own B (.cells g 80 p.cells :: .row p.ga p.gc 3 1 p.gs.length (ints p.gs) :: F) w) (hn : p.gs.length ≤ 1000000) (hu : unlike p.gs = p.gs) (hi : p.ph = phA q cm) (hr : p.rf = true) (hw : ¬ (1099511627776 ≤ max p.bal p.nt ∨ 1099511627776 ≤ p.rnd)) (hlo : -1 ≤ p.rnd ∧ -1 ≤ p.bal) :
    Calls Try.prog 25 #[.pointer (some ⟨g, 0, none⟩)] w fun e w' => ∃ ht ha hc hm qt qa qc qm a c, e = .returned (slv a (p.raise.outP p.gs).length c) ∧ Own B (.row a c 46 30 (p.raise.outP p.gs).length (msgs (p.raise.outP p.gs)) :: .cells g 80 (p.raise.enter (phP qt) ht).cells :: .row p.ga p.gc 3 1 p.gs.length (ints p.gs) :: .cells ht 109 [slv ha p.gs.length hc, .int .i64 ((p.gs.length : Int) + 1), .map (some hm)] :: .row ha hc 3 1 p.gs.length (ints p.gs) :: .imap hm (heardK []) :: .cells qt 145 [slv qa p.gs.length qc, .int .i64 ((p.gs.length : Int) / 2 + 1), .map (some qm)] :: .row qa qc 3 1 p.gs.length (ints p.gs) :: .imap qm (kvM []) :: F) w' := by
  refine calls_ce (args := [.pointer (some ⟨g, 0, none⟩)]) Try.func25 rfl rfl ?_
  change CE _ _ 64 _ _ [(0, .pointer (some ⟨g, 0, none⟩))] _
  refine ce_seq ?_
  refine ce_text (tab := []) (soft := 1) (.op 0 .nil) rfl rfl ?_
  refine re_assign rfl rfl rfl rfl rfl ?_
  refine re_nil ?_
  refine qe_thenC ?_
  refine ce_seq ?_
  refine ce_seq ?_
  refine ce_text (tab := []) (soft := 65535) (.op 0 (.op 1 (.op 2 (.op 3 (.op 4 (.op 5 (.op 6 (.op 7 (.op 8 (.op 9 (.op 10 (.op 11 (.op 12 (.op 13 (.op 14 (.op 15 .nil)))))))))))))))) rfl rfl ?_
  refine re_move rfl rfl rfl rfl rfl ?_
  refine re_nilc rfl rfl rfl rfl rfl ?_
  first | refine re_field0 rfl rfl rfl rfl rfl fo_80_10 ?_ | refine re_field rfl rfl rfl rfl rfl fo_80_10 ?_ | refine re_fieldA rfl rfl rfl rfl rfl fo_80_10 ?_
  refine re_load H rfl rfl rfl rfl rfl sh_76 rfl ?_
  refine re_build rfl rfl rfl rfl rfl ze_73 pl_73 (by simp only [fillL, setMany, Value.cells, List.getElem?_cons_zero, List.getElem?_cons_succ, List.length_cons, List.length_nil, List.set_cons_zero, List.set_cons_succ, Nat.reduceAdd, Nat.reduceLeDiff, Nat.zero_add, and_self, ↓reduceIte]; rfl) ?_
  refine re_iface rfl rfl rfl rfl rfl nif_73 ?_
  simp only [hi]
  refine re_binW rfl rfl rfl rfl rfl rfl (run_ifNe ifc_76 rfl (.inl ⟨rfl, rfl⟩)) ?_
  refine re_move rfl rfl rfl rfl rfl ?_
  refine re_move rfl rfl rfl rfl rfl ?_
  refine re_nilc rfl rfl rfl rfl rfl ?_
  first | refine re_field0 rfl rfl rfl rfl rfl fo_80_10 ?_ | refine re_field rfl rfl rfl rfl rfl fo_80_10 ?_ | refine re_fieldA rfl rfl rfl rfl rfl fo_80_10 ?_
  refine re_load H rfl rfl rfl rfl rfl sh_76 rfl ?_
  refine re_build rfl rfl rfl rfl rfl ze_97 pl_97 (by simp only [fillL, setMany, Value.cells, List.getElem?_cons_zero, List.getElem?_cons_succ, List.length_cons, List.length_nil, List.set_cons_zero, List.set_cons_succ, Nat.reduceAdd, Nat.reduceLeDiff, Nat.zero_add, and_self, ↓reduceIte]; rfl) ?_
  refine re_iface rfl rfl rfl rfl rfl nif_97 ?_
  simp only [hi]
  refine re_binW rfl rfl rfl rfl rfl rfl (run_ifNe ifc_76 rfl (.inl ⟨rfl, rfl⟩)) ?_
  refine re_pickF rfl rfl rfl rfl rfl rfl ?_
  refine re_nil ?_
  refine qe_thenC ?_
  refine ce_condF rfl ?_
  refine ce_skip ?_
  refine qe_thenC ?_
  refine ce_seq ?_
  refine ce_seq ?_
  refine ce_text (tab := []) (soft := 31) (.op 0 (.op 1 (.op 2 (.op 3 (.op 4 .nil))))) rfl rfl ?_
  refine re_move rfl rfl rfl rfl rfl ?_
  refine re_nilc rfl rfl rfl rfl rfl ?_
  first | refine re_field0 rfl rfl rfl rfl rfl fo_80_8 ?_ | refine re_field rfl rfl rfl rfl rfl fo_80_8 ?_ | refine re_fieldA rfl rfl rfl rfl rfl fo_80_8 ?_
  refine re_load H rfl rfl rfl rfl rfl sh_4 rfl ?_
  simp only [hr]
  refine re_not rfl rfl rfl rfl rfl ?_
  refine re_nil ?_
  refine qe_thenC ?_
  refine ce_condF rfl ?_
  refine ce_skip ?_
  refine qe_thenC ?_
  refine ce_seq ?_
  refine ce_seq ?_
  refine ce_text (tab := []) (soft := 1021) (.op 0 (.op 1 (.op 2 (.op 3 (.op 4 (.op 5 (.op 6 (.op 7 (.op 8 (.op 9 .nil)))))))))) rfl rfl ?_
  refine re_move rfl rfl rfl rfl rfl ?_
  refine re_call en_34 rfl rfl rfl rfl rfl ?_
  refine Calls.mono (ballot_s H) ?_
  rintro e w ⟨rfl, H⟩
  refine ⟨_, rfl, (fun h => (nomatch h)), ?_⟩
  refine re_bin rfl rfl rfl rfl rfl rfl rfl ?_
  have hg0 : decide (1099511627776 ≤ max p.bal p.nt) = false := by simp; omega
  simp only [hg0]
  refine re_move rfl rfl rfl rfl rfl ?_
  refine re_move rfl rfl rfl rfl rfl ?_
  refine re_nilc rfl rfl rfl rfl rfl ?_
  first | refine re_field0 rfl rfl rfl rfl rfl fo_80_6 ?_ | refine re_field rfl rfl rfl rfl rfl fo_80_6 ?_ | refine re_fieldA rfl rfl rfl rfl rfl fo_80_6 ?_
  refine re_load H rfl rfl rfl rfl rfl sh_3 rfl ?_
  refine re_bin rfl rfl rfl rfl rfl rfl rfl ?_
  refine re_pickF rfl rfl rfl rfl rfl rfl ?_
  refine re_nil ?_
  refine qe_thenC ?_
  refine ce_cond rfl (fun h2 => ?_) (fun h2 => ?_)
  · try simp only [zn1, zn2, zn3, zn4, zn5, zn6] at h2
    exact absurd (.inr (by simpa using h2)) hw
  · try simp only [zn1, zn2, zn3, zn4, zn5, zn6] at h2
    refine ce_skip ?_
    refine qe_thenC ?_
    refine ce_seq ?_
    refine ce_text (tab := []) (soft := 59) (.op 0 (.op 1 (.op 2 (.op 3 (.op 4 (.op 5 (.op 6 .nil))))))) rfl rfl ?_
    refine re_move rfl rfl rfl rfl rfl ?_
    refine re_move rfl rfl rfl rfl rfl ?_
    refine re_call en_34 rfl rfl rfl rfl rfl ?_
    refine Calls.mono (ballot_s H) ?_
    rintro e w ⟨rfl, H⟩
    refine ⟨_, rfl, (fun h => (nomatch h)), ?_⟩
    first | refine re_add rfl rfl rfl rfl rfl rfl (by omega) ?_ | refine re_bin rfl rfl rfl rfl rfl rfl rfl ?_
    refine re_nilc rfl rfl rfl rfl rfl ?_
    first | refine re_field0 rfl rfl rfl rfl rfl fo_80_5 ?_ | refine re_field rfl rfl rfl rfl rfl fo_80_5 ?_ | refine re_fieldA rfl rfl rfl rfl rfl fo_80_5 ?_
    refine re_store H rfl rfl rfl rfl rfl rfl sh_3 rfl rfl rfl ?_
    intro cs w hcs H
    first | rw [setMany_whole rfl] at hcs | simp only [setMany, List.set_cons_zero, List.set_cons_succ, Nat.reduceAdd, Nat.zero_add, PS.cells, PS.over, GM.cells, Cmd.cells, List.cons_append, List.nil_append] at hcs
    subst hcs
    refine ⟨(fun h => (nomatch h)), ?_⟩
    refine re_nil ?_
    refine qe_thenC ?_
    refine ce_seq ?_
    refine ce_text (tab := []) (soft := 127) (.op 0 (.op 1 (.op 2 (.op 3 (.op 4 (.op 5 (.op 6 (.op 7 .nil)))))))) rfl rfl ?_
    refine re_move rfl rfl rfl rfl rfl ?_
    refine re_nilc rfl rfl rfl rfl rfl ?_
    first | refine re_field0 rfl rfl rfl rfl rfl fo_80_6 ?_ | refine re_field rfl rfl rfl rfl rfl fo_80_6 ?_ | refine re_fieldA rfl rfl rfl rfl rfl fo_80_6 ?_
    refine re_load H rfl rfl rfl rfl rfl sh_3 rfl ?_
    first | refine re_add rfl rfl rfl rfl rfl rfl (by omega) ?_ | refine re_bin rfl rfl rfl rfl rfl rfl rfl ?_
    refine re_nilc rfl rfl rfl rfl rfl ?_
    first | refine re_field0 rfl rfl rfl rfl rfl fo_80_6 ?_ | refine re_field rfl rfl rfl rfl rfl fo_80_6 ?_ | refine re_fieldA rfl rfl rfl rfl rfl fo_80_6 ?_
    refine re_store H rfl rfl rfl rfl rfl rfl sh_3 rfl rfl rfl ?_
    intro cs w hcs H
    first | rw [setMany_whole rfl] at hcs | simp only [setMany, List.set_cons_zero, List.set_cons_succ, Nat.reduceAdd, Nat.zero_add, PS.cells, PS.over, GM.cells, Cmd.cells, List.cons_append, List.nil_append] at hcs
    subst hcs
    refine ⟨(fun h => (nomatch h)), ?_⟩
    refine re_nil ?_
    refine qe_thenC ?_
    refine ce_seq ?_
    refine ce_text (tab := []) (soft := 5) (.op 0 (.op 1 (.op 2 .nil))) rfl rfl ?_
    refine re_move rfl rfl rfl rfl rfl ?_
    refine re_call en_42 rfl rfl rfl rfl rfl ?_
    refine Calls.mono (prepare_s (p := p.raise) H hn hu) ?_
    rintro e w ⟨ht, ha, hc, hm, qt, qa, qc, qm, a, c, rfl, H⟩
    refine ⟨_, rfl, (fun h => (nomatch h)), ?_⟩
    refine re_assign rfl rfl rfl rfl rfl ?_
    refine re_nil ?_
    refine qe_thenC ?_
    refine ce_ret ?_
    refine qe_end rfl rfl ?_
    exact ⟨ht, ha, hc, hm, qt, qa, qc, qm, a, c, rfl, H⟩

theorem tick_over {B w : World} {F : List Ent} {g : Nat} {p : PS} (H : Own B (.cells g 80 p.cells :: F) w) (hi : p.ph = .iface 97 (.agg #[])) :
    Calls Try.prog 25 #[.pointer (some ⟨g, 0, none⟩)] w fun e w' => e = .returned (slv none 0 0) ∧ Own B (.cells g 80 p.cells :: F) w' := by
  refine calls_ce (args := [.pointer (some ⟨g, 0, none⟩)]) Try.func25 rfl rfl ?_
  change CE _ _ 64 _ _ [(0, .pointer (some ⟨g, 0, none⟩))] _
  refine ce_seq ?_
  refine ce_text (tab := []) (soft := 1) (.op 0 .nil) rfl rfl ?_
  refine re_assign rfl rfl rfl rfl rfl ?_
  refine re_nil ?_
  refine qe_thenC ?_
  refine ce_seq ?_
  refine ce_seq ?_
  refine ce_text (tab := []) (soft := 65535) (.op 0 (.op 1 (.op 2 (.op 3 (.op 4 (.op 5 (.op 6 (.op 7 (.op 8 (.op 9 (.op 10 (.op 11 (.op 12 (.op 13 (.op 14 (.op 15 .nil)))))))))))))))) rfl rfl ?_
  refine re_move rfl rfl rfl rfl rfl ?_
  refine re_nilc rfl rfl rfl rfl rfl ?_
  first | refine re_field0 rfl rfl rfl rfl rfl fo_80_10 ?_ | refine re_field rfl rfl rfl rfl rfl fo_80_10 ?_ | refine re_fieldA rfl rfl rfl rfl rfl fo_80_10 ?_
  refine re_load H rfl rfl rfl rfl rfl sh_76 rfl ?_
  refine re_build rfl rfl rfl rfl rfl ze_73 pl_73 (by simp only [fillL, setMany, Value.cells, List.getElem?_cons_zero, List.getElem?_cons_succ, List.length_cons, List.length_nil, List.set_cons_zero, List.set_cons_succ, Nat.reduceAdd, Nat.reduceLeDiff, Nat.zero_add, and_self, ↓reduceIte]; rfl) ?_
  refine re_iface rfl rfl rfl rfl rfl nif_73 ?_
  simp only [hi]
  refine re_binW rfl rfl rfl rfl rfl rfl (run_ifNe ifc_76 rfl (.inl ⟨rfl, rfl⟩)) ?_
  refine re_move rfl rfl rfl rfl rfl ?_
  refine re_move rfl rfl rfl rfl rfl ?_
  refine re_nilc rfl rfl rfl rfl rfl ?_
  first | refine re_field0 rfl rfl rfl rfl rfl fo_80_10 ?_ | refine re_field rfl rfl rfl rfl rfl fo_80_10 ?_ | refine re_fieldA rfl rfl rfl rfl rfl fo_80_10 ?_
  refine re_load H rfl rfl rfl rfl rfl sh_76 rfl ?_
  refine re_build rfl rfl rfl rfl rfl ze_97 pl_97 (by simp only [fillL, setMany, Value.cells, List.getElem?_cons_zero, List.getElem?_cons_succ, List.length_cons, List.length_nil, List.set_cons_zero, List.set_cons_succ, Nat.reduceAdd, Nat.reduceLeDiff, Nat.zero_add, and_self, ↓reduceIte]; rfl) ?_
  refine re_iface rfl rfl rfl rfl rfl nif_97 ?_
  simp only [hi]
  refine re_binW rfl rfl rfl rfl rfl rfl (run_ifEq0 ifc_76 cmp_97 fk_97 sh_97 (.inl ⟨rfl, rfl⟩)) ?_
  refine re_pickF rfl rfl rfl rfl rfl rfl ?_
  refine re_nil ?_
  refine qe_thenC ?_
  refine ce_condT rfl ?_
  refine ce_seq ?_
  refine ce_text (tab := []) (soft := 1) (.op 0 .nil) rfl rfl ?_
  refine re_assign rfl rfl rfl rfl rfl ?_
  refine re_nil ?_
  refine qe_thenC ?_
  refine ce_ret ?_
  refine qe_then_ret ?_
  refine qe_end rfl rfl ?_
  exact ⟨rfl, H⟩

theorem new_s {B w : World} {F : List Ent} {cl op kk ka kb kc bal rnd : Int} {mine : Cmd} {sa : Option Addr} {sc : Nat} {xs : List Int} (H : Own B F w) (hS : Sees B F sa xs.length 1 (ints xs)) (hn : xs.length ≤ 1000000) :
    Calls Try.prog 6 #[.int .i64 cl, .int .i64 op, .agg #[.int .i64 kk, .int .i64 ka, .int .i64 kb, .int .i64 kc], .slice sa xs.length sc, .agg mine.cells.toArray, .int .i64 bal, .int .i64 rnd] w fun e w' => ∃ g a c, e = .returned (.pointer (some ⟨g, 0, none⟩)) ∧ Own B (.cells g 80 (PS.new cl op kk ka kb kc mine bal rnd a c (unlike xs)).cells :: .row a c 3 1 (unlike xs).length (ints (unlike xs)) :: F) w' := by
  refine calls_ce (args := [.int .i64 cl, .int .i64 op, .agg #[.int .i64 kk, .int .i64 ka, .int .i64 kb, .int .i64 kc], .slice sa xs.length sc, .agg mine.cells.toArray, .int .i64 bal, .int .i64 rnd]) Try.func6 rfl rfl ?_
  change CE _ _ 34 _ _ [(0, .int .i64 cl), (1, .int .i64 op), (2, .agg #[.int .i64 kk, .int .i64 ka, .int .i64 kb, .int .i64 kc]), (3, .slice sa xs.length sc), (4, .agg mine.cells.toArray), (5, .int .i64 bal), (6, .int .i64 rnd)] _
  refine ce_seq ?_
  refine ce_text (tab := []) (soft := 4) (.op 0 (.op 1 (.op 2 .nil))) rfl rfl ?_
  refine re_box H rfl rfl rfl rfl rfl rfl ?_
  intro g9 w H
  refine ⟨(fun h => (nomatch h)), ?_⟩
  refine re_box H rfl rfl rfl rfl rfl rfl ?_
  intro g11 w H
  refine ⟨(fun h => (nomatch h)), ?_⟩
  refine re_assign rfl rfl rfl rfl rfl ?_
  refine re_nil ?_
  refine qe_thenC ?_
  refine ce_seq ?_
  refine ce_text (tab := []) (soft := 3071) (.op 0 (.op 1 (.op 2 (.op 3 (.op 4 (.op 5 (.op 6 (.op 7 (.op 8 (.op 9 (.op 10 (.op 11 .nil)))))))))))) rfl rfl ?_
  refine re_move rfl rfl rfl rfl rfl ?_
  refine re_move rfl rfl rfl rfl rfl ?_
  refine re_load H rfl rfl rfl rfl rfl sh_24 (by first | exact rdAt_all rfl | (simp only [rdAt, PS.cells, PS.over, GM.cells, Cmd.cells, List.cons_append, List.nil_append, List.drop_succ_cons, List.drop_zero, List.take_succ_cons, List.take_zero, List.length_cons, List.length_nil, Nat.zero_add, Nat.reduceAdd, Nat.reduceLeDiff, Nat.le_refl, ↓reduceIte] <;> rfl)) ?_
  refine re_load H rfl rfl rfl rfl rfl sh_28 (by first | exact rdAt_all rfl | (simp only [rdAt, PS.cells, PS.over, GM.cells, Cmd.cells, List.cons_append, List.nil_append, List.drop_succ_cons, List.drop_zero, List.take_succ_cons, List.take_zero, List.length_cons, List.length_nil, Nat.zero_add, Nat.reduceAdd, Nat.reduceLeDiff, Nat.le_refl, ↓reduceIte] <;> rfl)) ?_
  refine re_move rfl rfl rfl rfl rfl ?_
  refine re_move rfl rfl rfl rfl rfl ?_
  refine re_move rfl rfl rfl rfl rfl ?_
  refine re_build rfl rfl rfl rfl rfl ze_73 pl_73 (by simp only [fillL, setMany, Value.cells, List.getElem?_cons_zero, List.getElem?_cons_succ, List.length_cons, List.length_nil, List.set_cons_zero, List.set_cons_succ, Nat.reduceAdd, Nat.reduceLeDiff, Nat.zero_add, and_self, ↓reduceIte]; rfl) ?_
  refine re_iface rfl rfl rfl rfl rfl nif_73 ?_
  refine re_build rfl rfl rfl rfl rfl ze_80 pl_80 (by simp only [fillL, setMany, Value.cells, List.getElem?_cons_zero, List.getElem?_cons_succ, List.length_cons, List.length_nil, List.set_cons_zero, List.set_cons_succ, Nat.reduceAdd, Nat.reduceLeDiff, Nat.zero_add, and_self, ↓reduceIte]; rfl) ?_
  refine re_box H rfl rfl rfl rfl rfl rfl ?_
  intro g26 w H
  refine ⟨(fun h => (nomatch h)), ?_⟩
  refine re_assign rfl rfl rfl rfl rfl ?_
  refine re_nil ?_
  refine qe_thenC ?_
  refine ce_seq ?_
  refine ce_text (tab := []) (soft := 51) (.op 0 (.op 1 (.op 2 (.op 3 (.op 4 (.op 5 (.op 6 .nil))))))) rfl rfl ?_
  refine re_move rfl rfl rfl rfl rfl ?_
  refine re_move rfl rfl rfl rfl rfl ?_
  refine re_call en_19 rfl rfl rfl rfl rfl ?_
  refine Calls.mono (tnewB (F := _ :: _ :: _ :: F) hS.to H hn) ?_
  rintro e w ⟨t, ta, tc, tm, rfl, H⟩
  refine ⟨_, rfl, (fun h => (nomatch h)), ?_⟩
  refine re_call en_20 rfl rfl rfl rfl rfl ?_
  refine Calls.mono (missingB H (Nat.le_trans (unlike_length _) hn)) ?_
  rintro e w ⟨a2, c2, rfl, H⟩
  rw [missing_nil] at H
  refine ⟨_, rfl, (fun h => (nomatch h)), ?_⟩
  refine re_nilc rfl rfl rfl rfl rfl ?_
  first | refine re_field0 rfl rfl rfl rfl rfl fo_80_3 ?_ | refine re_field rfl rfl rfl rfl rfl fo_80_3 ?_ | refine re_fieldA rfl rfl rfl rfl rfl fo_80_3 ?_
  refine re_store H rfl rfl rfl rfl rfl rfl sh_31 rfl rfl rfl ?_
  intro cs w hcs H
  first | rw [setMany_whole rfl] at hcs | simp only [setMany, List.set_cons_zero, List.set_cons_succ, Nat.reduceAdd, Nat.zero_add, PS.cells, PS.over, GM.cells, Cmd.cells, List.cons_append, List.nil_append] at hcs
  subst hcs
  refine ⟨(fun h => (nomatch h)), ?_⟩
  refine re_nil ?_
  refine qe_thenC ?_
  refine ce_seq ?_
  refine ce_text (tab := []) (soft := 3) (.op 0 (.op 1 .nil)) rfl rfl ?_
  refine re_move rfl rfl rfl rfl rfl ?_
  refine re_assign rfl rfl rfl rfl rfl ?_
  refine re_nil ?_
  refine qe_thenC ?_
  refine ce_ret ?_
  refine qe_end rfl rfl ?_
  have H := H.front 0
  have H := H.front 4
  simp only [arrs, Fw.front, zm1, zm2, zm3, zm4, zm5] at H
  replace H := H.sub (.cons_cons _ (.cons_cons _ (.cons _ (.cons _ (.cons _ (.cons _ (.cons _ (List.Sublist.refl _))))))))
  rw [show (missing (unlike xs) []).length = (unlike xs).length by rw [missing_nil]] at H
  exact ⟨_, _, _, rfl, H⟩
end Go.Proofs.Ytofaoblfemfkiaa

namespace Go.Proofs.Ytofaoblfemfkiaa
open Go Go.RowKit Go.Fw
set_option linter.unusedSimpArgs false
set_option linter.unusedVariables false
set_option maxRecDepth 4000
set_option maxHeartbeats 2000000
theorem sh_62 : shapeOf Try.prog 62 = some (false, 1) := by kernel_rfl
theorem ze_31 : zeroC Try.prog 31 = some [.slice none 0 0] := by kernel_rfl
theorem ze_62 : zeroC Try.prog 62 = some [.slice none 0 0] := by kernel_rfl

theorem got_s {B w : World} {F : List Ent} {t m : Nat} {a : Option Nat} {c : Nat} {gs : List Int} {need : Int} {ms : List (Int × GM)} (H : Own B (.cells t 145 [slv a gs.length c, .int .i64 need, .map (some m)] :: .row a c 3 1 gs.length (ints gs) :: .imap m (kvM ms) :: F) w) (hn : gs.length ≤ 1000000) :
    Calls Try.prog 83 #[.pointer (some ⟨t, 0, none⟩)] w fun e w' => ∃ s q sa sc ma mc, e = .returned (.func (.func 87) #[] #[.pointer (some ⟨s, 0, none⟩), .pointer (some ⟨q, 0, none⟩)]) ∧ Own B (.cells s 31 [slv sa (gotL gs ms).length sc] :: .row sa sc 3 1 (gotL gs ms).length (ints (gotS gs ms)) :: .cells q 62 [slv ma (gotL gs ms).length mc] :: .row ma mc 46 30 (gotL gs ms).length (msgs (gotM gs ms)) :: .cells t 145 [slv a gs.length c, .int .i64 need, .map (some m)] :: .row a c 3 1 gs.length (ints gs) :: .imap m (kvM ms) :: F) w' := by
  refine calls_ce (args := [.pointer (some ⟨t, 0, none⟩)]) Try.func83 rfl rfl ?_
  change CE _ _ 38 _ _ [(0, .pointer (some ⟨t, 0, none⟩))] _
  refine ce_seq ?_
  refine ce_text (tab := []) (soft := 1) (.op 0 .nil) rfl rfl ?_
  refine re_assign rfl rfl rfl rfl rfl ?_
  refine re_nil ?_
  refine qe_thenC ?_
  refine ce_seq ?_
  refine ce_text (tab := []) (soft := 0) (.op 0 .nil) rfl rfl ?_
  refine re_alloc H rfl rfl rfl rfl ze_31 ?_
  intro g3 w H
  refine ⟨(fun h => (nomatch h)), ?_⟩
  refine re_nil ?_
  refine qe_thenC ?_
  refine ce_seq ?_
  refine ce_text (tab := []) (soft := 0) (.op 0 .nil) rfl rfl ?_
  refine re_alloc H rfl rfl rfl rfl ze_62 ?_
  intro g4 w H
  refine ⟨(fun h => (nomatch h)), ?_⟩
  refine re_nil ?_
  refine qe_thenC ?_
  refine ce_seq ?_
  refine ce_seq ?_
  refine ce_text (tab := []) (soft := 63) (.op 0 (.op 1 (.op 2 (.op 3 (.op 4 (.op 5 .nil)))))) rfl rfl ?_
  refine re_move rfl rfl rfl rfl rfl ?_
  refine re_nilc rfl rfl rfl rfl rfl ?_
  first | refine re_field0 rfl rfl rfl rfl rfl fo_145_0 ?_ | refine re_field rfl rfl rfl rfl rfl fo_145_0 ?_ | refine re_fieldA rfl rfl rfl rfl rfl fo_145_0 ?_
  refine re_load H rfl rfl rfl rfl rfl sh_31 rfl ?_
  refine re_len rfl rfl rfl rfl rfl ul_31 ?_
  refine re_move rfl rfl rfl rfl rfl ?_
  refine re_nil ?_
  refine qe_thenC ?_
  refine ce_block ?_
  have H := (H.nil_row 46 30).nil_row 3 1
  have H := Own.arr [1, 2, 2, 3] H
  simp only [arrs, Fw.front, zm1, zm2, zm3, zm4, zm5] at H
  refine ce_loop (α := Nat × (Option Nat) × Nat × (Option Nat) × Nat) (fun ⟨k, sa, sc, ma, mc⟩ => [(0, .pointer (some ⟨t, 0, none⟩)), (3, .pointer (some ⟨g3, 0, none⟩)), (4, .pointer (some ⟨g4, 0, none⟩)), (12, slv a gs.length c), (13, .int .i64 (gs.length : Int)), (14, .int .i64 (k : Int))]) (fun ⟨k, sa, sc, ma, mc⟩ w => Own B (.cells g3 31 [slv sa (gotL (gs.take k) ms).length sc] :: .row sa sc 3 1 (gotL (gs.take k) ms).length (ints (gotS (gs.take k) ms)) :: .cells g4 62 [slv ma (gotL (gs.take k) ms).length mc] :: .row ma mc 46 30 (gotL (gs.take k) ms).length (msgs (gotM (gs.take k) ms)) :: .cells t 145 [slv a gs.length c, .int .i64 need, .map (some m)] :: .row a c 3 1 gs.length (ints gs) :: .imap m (kvM ms) :: F) w ∧ k ≤ gs.length) (fun ⟨k, sa, sc, ma, mc⟩ => gs.length - k) (0, none, 0, none, 0) (And.intro rfl (And.intro rfl (And.intro rfl (And.intro rfl (And.intro rfl (And.intro rfl trivial)))))) ⟨H, Nat.zero_le _⟩ ?_
  rintro ⟨k, sa, sc, ma, mc⟩ w HW
  obtain ⟨H, hk⟩ := HW
  change CE _ _ _ _ _ [(0, .pointer (some ⟨t, 0, none⟩)), (3, .pointer (some ⟨g3, 0, none⟩)), (4, .pointer (some ⟨g4, 0, none⟩)), (12, slv a gs.length c), (13, .int .i64 (gs.length : Int)), (14, .int .i64 (k : Int))] _
  have hgl := gotL_length (gs.take k) ms
  have htl := List.length_take_le k gs
  refine ce_seq ?_
  refine ce_text (tab := []) (soft := 1) (.op 0 .nil) rfl rfl ?_
  refine re_bin rfl rfl rfl rfl rfl rfl rfl ?_
  refine re_nil ?_
  refine qe_thenC ?_
  refine ce_seq ?_
  refine ce_cond rfl (fun h0 => ?_) (fun h0 => ?_)
  · try simp only [zn1, zn2, zn3, zn4, zn5, zn6] at h0
    refine ce_skip ?_
    refine qe_thenC ?_
    refine ce_seq ?_
    refine ce_block ?_
    refine ce_seq ?_
    refine ce_text (tab := []) (soft := 7) (.op 0 (.op 1 (.op 2 .nil))) rfl rfl ?_
    have hlt : k < gs.length := by omega
    obtain ⟨ga, rfl⟩ := H.rsome a (by omega)
    refine re_index rfl rfl rfl rfl rfl rfl ul_31 ei_31 (by omega) (by omega) ?_
    refine re_loadW rfl rfl rfl rfl rfl (run_loadAt_one sh_3 (H.rint hlt)) ?_
    refine re_assign rfl rfl rfl rfl rfl ?_
    refine re_nil ?_
    refine qe_thenC ?_
    refine ce_seq ?_
    refine ce_text (tab := []) (soft := 2559) (.op 0 (.op 1 (.op 2 (.op 3 (.op 4 (.op 5 (.op 6 (.op 7 (.op 8 (.op 9 (.op 10 (.op 11 .nil)))))))))))) rfl rfl ?_
    refine re_move rfl rfl rfl rfl rfl ?_
    refine re_nilc rfl rfl rfl rfl rfl ?_
    first | refine re_field0 rfl rfl rfl rfl rfl fo_145_2 ?_ | refine re_field rfl rfl rfl rfl rfl fo_145_2 ?_ | refine re_fieldA rfl rfl rfl rfl rfl fo_145_2 ?_
    refine re_load H rfl rfl rfl rfl rfl sh_143 rfl ?_
    refine re_move rfl rfl rfl rfl rfl ?_
    refine re_lookup H rfl rfl rfl rfl rfl rfl ul_143 ul_3 zv_46 ?_
    rw [kvM_look, kvGet_kvM, Option.isSome_map]
    obtain ⟨mm, hmm⟩ : ∃ mm, mm = (msGet ms gs[k]).getD GM.zero := ⟨_, rfl⟩
    rw [← hmm]
    refine re_move rfl rfl rfl rfl rfl ?_
    refine re_extract rfl rfl rfl rfl rfl rfl ?_
    refine re_extract rfl rfl rfl rfl rfl rfl ?_
    refine re_alloc H rfl rfl rfl rfl ze_46 ?_
    intro g7 w H
    refine ⟨(fun h => (nomatch h)), ?_⟩
    refine re_store H rfl rfl rfl rfl rfl rfl sh_46 rfl rfl rfl ?_
    intro cs w hcs H
    first | rw [setMany_whole rfl] at hcs | simp only [setMany, List.set_cons_zero, List.set_cons_succ, Nat.reduceAdd, Nat.zero_add, PS.cells, PS.over, GM.cells, Cmd.cells, List.cons_append, List.nil_append] at hcs
    subst hcs
    refine ⟨(fun h => (nomatch h)), ?_⟩
    refine re_assign rfl rfl rfl rfl rfl ?_
    refine re_nil ?_
    refine qe_thenC ?_
    refine ce_seq ?_
    refine ce_text (tab := []) (soft := 1) (.op 0 .nil) rfl rfl ?_
    refine re_move rfl rfl rfl rfl rfl ?_
    refine re_nil ?_
    refine qe_thenC ?_
    refine ce_cond rfl (fun h1 => ?_) (fun h1 => ?_)
    · try simp only [zn1, zn2, zn3, zn4, zn5, zn6] at h1
      refine ce_open (tab := [0, 0, 2, 7, 0, 0, 32, 127, 255, 511]) (soft := 51) mixed (.op 0 (.op 1 (.op 4 (.op 5 (.alt 2 (.alt 3 (.op 6 (.op 7 (.op 8 (.op 9 .nil)))) (.op 6 (.op 3 (.op 7 (.op 8 (.op 9 .nil)))))) (.op 6 (.op 2 (.op 3 (.op 7 (.op 8 (.op 9 .nil))))))))))) (by kernel_rfl) H ?_
      intro w H
      refine re_load H rfl rfl rfl rfl rfl sh_31 rfl ?_
      refine re_move rfl rfl rfl rfl rfl ?_
      refine re_load H rfl rfl rfl rfl rfl sh_62 rfl ?_
      refine re_load H rfl rfl rfl rfl rfl sh_46 (by first | exact rdAt_all rfl | (simp only [rdAt, PS.cells, PS.over, GM.cells, Cmd.cells, List.cons_append, List.nil_append, List.drop_succ_cons, List.drop_zero, List.take_succ_cons, List.take_zero, List.length_cons, List.length_nil, Nat.zero_add, Nat.reduceAdd, Nat.reduceLeDiff, Nat.le_refl, ↓reduceIte] <;> rfl)) ?_
      refine re_alt ?_ ?_
      ·
        refine re_slice1 H rfl rfl rfl rfl rfl rfl ul_31 ei_31 ze_3 rfl rfl rfl (by decide) ?_
        intro g30 w H
        refine ⟨(fun _ => ⟨fun _ => still_load H sh_46 (by first | exact rdAt_all rfl | (simp only [rdAt, PS.cells, PS.over, GM.cells, Cmd.cells, List.cons_append, List.nil_append, List.drop_succ_cons, List.drop_zero, List.take_succ_cons, List.take_zero, List.length_cons, List.length_nil, Nat.zero_add, Nat.reduceAdd, Nat.reduceLeDiff, Nat.le_refl, ↓reduceIte] <;> rfl)), fun _ => still_load H sh_62 rfl, fun _ => still_load H sh_31 rfl, trivial⟩), ?_⟩
        refine re_alt ?_ ?_
        ·
          refine re_append H rfl rfl rfl rfl rfl rfl ul_31 ei_31 ze_3 rfl (by decide) (src_cells H rfl) rfl (by omega) (by simp only [maxLen]; omega) ?_
          intro a1 c1 w H _
          simp only [List.set_cons_zero, List.set_cons_succ] at H
          refine ⟨(fun _ => ⟨fun _ => still_load H sh_46 (by first | exact rdAt_all rfl | (simp only [rdAt, PS.cells, PS.over, GM.cells, Cmd.cells, List.cons_append, List.nil_append, List.drop_succ_cons, List.drop_zero, List.take_succ_cons, List.take_zero, List.length_cons, List.length_nil, Nat.zero_add, Nat.reduceAdd, Nat.reduceLeDiff, Nat.le_refl, ↓reduceIte] <;> rfl)), fun _ => still_load H sh_62 rfl, ancs (i := 3) (j := 0) rfl, trivial⟩), ?_⟩
          refine re_slice1 H rfl rfl rfl rfl rfl rfl ul_62 ei_62 ze_46 rfl rfl rfl (by decide) ?_
          intro g34 w H
          refine ⟨(fun _ => ⟨ancs (i := 6) (j := 5) rfl, fun _ => still_load H sh_62 rfl, fun _ => still_load H sh_31 rfl, trivial⟩), ?_⟩
          refine re_append H rfl rfl rfl rfl rfl rfl ul_62 ei_62 ze_46 rfl (by decide) (src_cells H rfl) rfl (by omega) (by simp only [maxLen]; omega) ?_
          intro a2 c2 w H _
          simp only [List.set_cons_zero, List.set_cons_succ] at H
          refine ⟨(fun _ => ⟨ancs (i := 7) (j := 5) rfl, ancs (i := 7) (j := 4) rfl, ancs (i := 7) (j := 0) rfl, trivial⟩), ?_⟩
          refine re_store H rfl rfl rfl rfl rfl rfl sh_31 rfl rfl rfl ?_
          intro cs w hcs H
          first | rw [setMany_whole rfl] at hcs | simp only [setMany, List.set_cons_zero, List.set_cons_succ, Nat.reduceAdd, Nat.zero_add, PS.cells, PS.over, GM.cells, Cmd.cells, List.cons_append, List.nil_append] at hcs
          subst hcs
          refine ⟨(fun _ => ⟨ancs (i := 8) (j := 5) rfl, ancs (i := 8) (j := 4) rfl, ancs (i := 8) (j := 0) rfl, trivial⟩), ?_⟩
          refine re_store H rfl rfl rfl rfl rfl rfl sh_62 rfl rfl rfl ?_
          intro cs w hcs H
          first | rw [setMany_whole rfl] at hcs | simp only [setMany, List.set_cons_zero, List.set_cons_succ, Nat.reduceAdd, Nat.zero_add, PS.cells, PS.over, GM.cells, Cmd.cells, List.cons_append, List.nil_append] at hcs
          subst hcs
          refine ⟨(fun _ => ⟨ancs (i := 9) (j := 5) rfl, ancs (i := 9) (j := 4) rfl, ancs (i := 9) (j := 0) rfl, trivial⟩), ?_⟩
          refine re_nil ?_
          refine qe_noPanic ?_
          refine qe_block_norm ?_
          refine qe_thenC ?_
          refine ce_text (tab := []) (soft := 3) (.op 0 (.op 1 .nil)) rfl rfl ?_
          first | refine re_add rfl rfl rfl rfl rfl rfl (by omega) ?_ | refine re_bin rfl rfl rfl rfl rfl rfl rfl ?_
          refine re_move rfl rfl rfl rfl rfl ?_
          refine re_nil ?_
          refine qe_round (x := (k, sa, sc, ma, mc)) (k + 1, a1, c1, a2, c2) ?_ ?_ ?_
          · first | (dsimp only; omega) | omega
          · exact (And.intro rfl (And.intro rfl (And.intro rfl (And.intro rfl (And.intro rfl (And.intro rfl trivial))))))
          ·
            refine ⟨?_, by omega⟩
            have e := gotL_new hlt h1
            rw [← hmm] at e
            have e1 : (gotL (gs.take (k + 1)) ms).length = (gotL (gs.take k) ms).length + 1 := by rw [e]; simp
            have e2 : ints (gotS (gs.take (k + 1)) ms) = ints (gotS (gs.take k) ms) ++ [.int .i64 gs[k]] := by rw [gotS, e]; simp
            have e3 : msgs (gotM (gs.take (k + 1)) ms) = msgs (gotM (gs.take k) ms) ++ mm.cells := by rw [gotM, e, List.map_append]; exact msgs_snoc _ _
            rw [e1, e2, e3]
            exact H.drop 3
        ·
          refine re_slice1 H rfl rfl rfl rfl rfl rfl ul_62 ei_62 ze_46 rfl rfl rfl (by decide) ?_
          intro g34 w H
          refine ⟨(fun _ => ⟨ancs (i := 6) (j := 5) rfl, fun _ => still_load H sh_62 rfl, fun _ => still_load H sh_31 rfl, trivial⟩), ?_⟩
          refine re_append H rfl rfl rfl rfl rfl rfl ul_31 ei_31 ze_3 rfl (by decide) (src_cells H rfl) rfl (by omega) (by simp only [maxLen]; omega) ?_
          intro a1 c1 w H _
          simp only [List.set_cons_zero, List.set_cons_succ] at H
          refine ⟨(fun _ => ⟨fun _ => still_load H sh_46 (by first | exact rdAt_all rfl | (simp only [rdAt, PS.cells, PS.over, GM.cells, Cmd.cells, List.cons_append, List.nil_append, List.drop_succ_cons, List.drop_zero, List.take_succ_cons, List.take_zero, List.length_cons, List.length_nil, Nat.zero_add, Nat.reduceAdd, Nat.reduceLeDiff, Nat.le_refl, ↓reduceIte] <;> rfl)), fun _ => still_load H sh_62 rfl, ancs (i := 3) (j := 0) rfl, trivial⟩), ?_⟩
          refine re_append H rfl rfl rfl rfl rfl rfl ul_62 ei_62 ze_46 rfl (by decide) (src_cells H rfl) rfl (by omega) (by simp only [maxLen]; omega) ?_
          intro a2 c2 w H _
          simp only [List.set_cons_zero, List.set_cons_succ] at H
          refine ⟨(fun _ => ⟨ancs (i := 7) (j := 5) rfl, ancs (i := 7) (j := 4) rfl, ancs (i := 7) (j := 0) rfl, trivial⟩), ?_⟩
          refine re_store H rfl rfl rfl rfl rfl rfl sh_31 rfl rfl rfl ?_
          intro cs w hcs H
          first | rw [setMany_whole rfl] at hcs | simp only [setMany, List.set_cons_zero, List.set_cons_succ, Nat.reduceAdd, Nat.zero_add, PS.cells, PS.over, GM.cells, Cmd.cells, List.cons_append, List.nil_append] at hcs
          subst hcs
          refine ⟨(fun _ => ⟨ancs (i := 8) (j := 5) rfl, ancs (i := 8) (j := 4) rfl, ancs (i := 8) (j := 0) rfl, trivial⟩), ?_⟩
          refine re_store H rfl rfl rfl rfl rfl rfl sh_62 rfl rfl rfl ?_
          intro cs w hcs H
          first | rw [setMany_whole rfl] at hcs | simp only [setMany, List.set_cons_zero, List.set_cons_succ, Nat.reduceAdd, Nat.zero_add, PS.cells, PS.over, GM.cells, Cmd.cells, List.cons_append, List.nil_append] at hcs
          subst hcs
          refine ⟨(fun _ => ⟨ancs (i := 9) (j := 5) rfl, ancs (i := 9) (j := 4) rfl, ancs (i := 9) (j := 0) rfl, trivial⟩), ?_⟩
          refine re_nil ?_
          refine qe_noPanic ?_
          refine qe_block_norm ?_
          refine qe_thenC ?_
          refine ce_text (tab := []) (soft := 3) (.op 0 (.op 1 .nil)) rfl rfl ?_
          first | refine re_add rfl rfl rfl rfl rfl rfl (by omega) ?_ | refine re_bin rfl rfl rfl rfl rfl rfl rfl ?_
          refine re_move rfl rfl rfl rfl rfl ?_
          refine re_nil ?_
          refine qe_round (x := (k, sa, sc, ma, mc)) (k + 1, a1, c1, a2, c2) ?_ ?_ ?_
          · first | (dsimp only; omega) | omega
          · exact (And.intro rfl (And.intro rfl (And.intro rfl (And.intro rfl (And.intro rfl (And.intro rfl trivial))))))
          ·
            refine ⟨?_, by omega⟩
            have e := gotL_new hlt h1
            rw [← hmm] at e
            have e1 : (gotL (gs.take (k + 1)) ms).length = (gotL (gs.take k) ms).length + 1 := by rw [e]; simp
            have e2 : ints (gotS (gs.take (k + 1)) ms) = ints (gotS (gs.take k) ms) ++ [.int .i64 gs[k]] := by rw [gotS, e]; simp
            have e3 : msgs (gotM (gs.take (k + 1)) ms) = msgs (gotM (gs.take k) ms) ++ mm.cells := by rw [gotM, e, List.map_append]; exact msgs_snoc _ _
            rw [e1, e2, e3]
            exact H.drop 3
      ·
        refine re_slice1 H rfl rfl rfl rfl rfl rfl ul_62 ei_62 ze_46 rfl rfl rfl (by decide) ?_
        intro g34 w H
        refine ⟨(fun _ => ⟨ancs (i := 6) (j := 5) rfl, fun _ => still_load H sh_62 rfl, fun _ => still_load H sh_31 rfl, trivial⟩), ?_⟩
        refine re_slice1 H rfl rfl rfl rfl rfl rfl ul_31 ei_31 ze_3 rfl rfl rfl (by decide) ?_
        intro g30 w H
        refine ⟨(fun _ => ⟨fun _ => still_load H sh_46 (by first | exact rdAt_all rfl | (simp only [rdAt, PS.cells, PS.over, GM.cells, Cmd.cells, List.cons_append, List.nil_append, List.drop_succ_cons, List.drop_zero, List.take_succ_cons, List.take_zero, List.length_cons, List.length_nil, Nat.zero_add, Nat.reduceAdd, Nat.reduceLeDiff, Nat.le_refl, ↓reduceIte] <;> rfl)), fun _ => still_load H sh_62 rfl, fun _ => still_load H sh_31 rfl, trivial⟩), ?_⟩
        refine re_append H rfl rfl rfl rfl rfl rfl ul_31 ei_31 ze_3 rfl (by decide) (src_cells H rfl) rfl (by omega) (by simp only [maxLen]; omega) ?_
        intro a1 c1 w H _
        simp only [List.set_cons_zero, List.set_cons_succ] at H
        refine ⟨(fun _ => ⟨fun _ => still_load H sh_46 (by first | exact rdAt_all rfl | (simp only [rdAt, PS.cells, PS.over, GM.cells, Cmd.cells, List.cons_append, List.nil_append, List.drop_succ_cons, List.drop_zero, List.take_succ_cons, List.take_zero, List.length_cons, List.length_nil, Nat.zero_add, Nat.reduceAdd, Nat.reduceLeDiff, Nat.le_refl, ↓reduceIte] <;> rfl)), fun _ => still_load H sh_62 rfl, ancs (i := 3) (j := 0) rfl, trivial⟩), ?_⟩
        refine re_append H rfl rfl rfl rfl rfl rfl ul_62 ei_62 ze_46 rfl (by decide) (src_cells H rfl) rfl (by omega) (by simp only [maxLen]; omega) ?_
        intro a2 c2 w H _
        simp only [List.set_cons_zero, List.set_cons_succ] at H
        refine ⟨(fun _ => ⟨ancs (i := 7) (j := 5) rfl, ancs (i := 7) (j := 4) rfl, ancs (i := 7) (j := 0) rfl, trivial⟩), ?_⟩
        refine re_store H rfl rfl rfl rfl rfl rfl sh_31 rfl rfl rfl ?_
        intro cs w hcs H
        first | rw [setMany_whole rfl] at hcs | simp only [setMany, List.set_cons_zero, List.set_cons_succ, Nat.reduceAdd, Nat.zero_add, PS.cells, PS.over, GM.cells, Cmd.cells, List.cons_append, List.nil_append] at hcs
        subst hcs
        refine ⟨(fun _ => ⟨ancs (i := 8) (j := 5) rfl, ancs (i := 8) (j := 4) rfl, ancs (i := 8) (j := 0) rfl, trivial⟩), ?_⟩
        refine re_store H rfl rfl rfl rfl rfl rfl sh_62 rfl rfl rfl ?_
        intro cs w hcs H
        first | rw [setMany_whole rfl] at hcs | simp only [setMany, List.set_cons_zero, List.set_cons_succ, Nat.reduceAdd, Nat.zero_add, PS.cells, PS.over, GM.cells, Cmd.cells, List.cons_append, List.nil_append] at hcs
        subst hcs
        refine ⟨(fun _ => ⟨ancs (i := 9) (j := 5) rfl, ancs (i := 9) (j := 4) rfl, ancs (i := 9) (j := 0) rfl, trivial⟩), ?_⟩
        refine re_nil ?_
        refine qe_noPanic ?_
        refine qe_block_norm ?_
        refine qe_thenC ?_
        refine ce_text (tab := []) (soft := 3) (.op 0 (.op 1 .nil)) rfl rfl ?_
        first | refine re_add rfl rfl rfl rfl rfl rfl (by omega) ?_ | refine re_bin rfl rfl rfl rfl rfl rfl rfl ?_
        refine re_move rfl rfl rfl rfl rfl ?_
        refine re_nil ?_
        refine qe_round (x := (k, sa, sc, ma, mc)) (k + 1, a1, c1, a2, c2) ?_ ?_ ?_
        · first | (dsimp only; omega) | omega
        · exact (And.intro rfl (And.intro rfl (And.intro rfl (And.intro rfl (And.intro rfl (And.intro rfl trivial))))))
        ·
          refine ⟨?_, by omega⟩
          have e := gotL_new hlt h1
          rw [← hmm] at e
          have e1 : (gotL (gs.take (k + 1)) ms).length = (gotL (gs.take k) ms).length + 1 := by rw [e]; simp
          have e2 : ints (gotS (gs.take (k + 1)) ms) = ints (gotS (gs.take k) ms) ++ [.int .i64 gs[k]] := by rw [gotS, e]; simp
          have e3 : msgs (gotM (gs.take (k + 1)) ms) = msgs (gotM (gs.take k) ms) ++ mm.cells := by rw [gotM, e, List.map_append]; exact msgs_snoc _ _
          rw [e1, e2, e3]
          exact H.drop 3
    · try simp only [zn1, zn2, zn3, zn4, zn5, zn6] at h1
      refine ce_skip ?_
      refine qe_block_norm ?_
      refine qe_thenC ?_
      refine ce_text (tab := []) (soft := 3) (.op 0 (.op 1 .nil)) rfl rfl ?_
      first | refine re_add rfl rfl rfl rfl rfl rfl (by omega) ?_ | refine re_bin rfl rfl rfl rfl rfl rfl rfl ?_
      refine re_move rfl rfl rfl rfl rfl ?_
      refine re_nil ?_
      refine qe_round (x := (k, sa, sc, ma, mc)) (k + 1, sa, sc, ma, mc) ?_ ?_ ?_
      · first | (dsimp only; omega) | omega
      · exact (And.intro rfl (And.intro rfl (And.intro rfl (And.intro rfl (And.intro rfl (And.intro rfl trivial))))))
      ·
        refine ⟨?_, by omega⟩
        simp only [gotS, gotM, gotL_old hlt h1]
        exact H.tail
  · try simp only [zn1, zn2, zn3, zn4, zn5, zn6] at h0
    refine ce_exit ?_
    refine qe_then_exit ?_
    refine qe_then_exit ?_
    refine qe_block_exit ?_
    refine qe_thenC ?_
    refine ce_seq ?_
    refine ce_text (tab := []) (soft := 3) (.op 0 (.op 1 .nil)) rfl rfl ?_
    refine re_makeFunc rfl rfl rfl rfl rfl rfl ?_
    refine re_assign rfl rfl rfl rfl rfl ?_
    refine re_nil ?_
    refine qe_thenC ?_
    refine ce_ret ?_
    refine qe_end rfl rfl ?_
    obtain rfl : k = gs.length := by omega
    rw [List.take_length] at H
    exact ⟨_, _, _, _, _, _, rfl, H⟩

theorem got1_s {B w : World} {l s q : Nat} {sa ma : Option Nat} {sc mc : Nat} {ss : List Int} {ms : List GM} {I : Nat → World → Prop} (hI : ∀ j w, I j w → ∃ L, Own B (.cells s 31 [slv sa ms.length sc] :: .row sa sc 3 1 ms.length (ints ss) :: .cells q 62 [slv ma ms.length mc] :: .row ma mc 46 30 ms.length (msgs ms) ::  L) w) (hss : ss.length = ms.length) (hn : ms.length ≤ 1000000) (hround : ∀ j (hj : j < ms.length) w, I j w → Round Try.prog l #[.int .i64 (ss[j]'(by omega)), .agg (ms[j]).cells.toArray] w fun e w' => e = .returned (.bool true) ∧ I (j + 1) w') (h0 : I 0 w) :
    Calls Try.prog 87 #[.func (.yield l) #[] #[], .pointer (some ⟨s, 0, none⟩), .pointer (some ⟨q, 0, none⟩)] w fun e w' => e = .returned (.tuple #[]) ∧ I ms.length w' := by
  refine calls_ce (args := [.func (.yield l) #[] #[], .pointer (some ⟨s, 0, none⟩), .pointer (some ⟨q, 0, none⟩)]) Try.func87 rfl rfl ?_
  change CE _ _ 22 _ _ [(0, .func (.yield l) #[] #[]), (1, .pointer (some ⟨s, 0, none⟩)), (2, .pointer (some ⟨q, 0, none⟩))] _
  refine ce_seq ?_
  refine ce_text (tab := []) (soft := 7) (.op 0 (.op 1 (.op 2 .nil))) rfl rfl ?_
  obtain ⟨L0, H⟩ := hI _ _ h0
  refine re_load H rfl rfl rfl rfl rfl sh_31 rfl ?_
  refine re_len rfl rfl rfl rfl rfl ul_31 ?_
  refine re_move rfl rfl rfl rfl rfl ?_
  refine re_nil ?_
  refine qe_thenC ?_
  refine ce_block ?_
  refine ce_loop (α := Nat) (fun k => [(0, .func (.yield l) #[] #[]), (1, .pointer (some ⟨s, 0, none⟩)), (2, .pointer (some ⟨q, 0, none⟩)), (6, slv sa ms.length sc), (7, .int .i64 (ms.length : Int)), (8, .int .i64 (k : Int))]) (fun k w => I k w ∧ k ≤ ms.length) (fun k => ms.length - k) 0 (And.intro rfl (And.intro rfl (And.intro rfl (And.intro rfl (And.intro rfl (And.intro rfl trivial)))))) ⟨h0, Nat.zero_le _⟩ ?_
  rintro k w HW
  obtain ⟨HI, hk⟩ := HW
  change CE _ _ _ _ _ [(0, .func (.yield l) #[] #[]), (1, .pointer (some ⟨s, 0, none⟩)), (2, .pointer (some ⟨q, 0, none⟩)), (6, slv sa ms.length sc), (7, .int .i64 (ms.length : Int)), (8, .int .i64 (k : Int))] _
  obtain ⟨L1, H⟩ := hI _ _ HI
  refine ce_seq ?_
  refine ce_text (tab := []) (soft := 1) (.op 0 .nil) rfl rfl ?_
  refine re_bin rfl rfl rfl rfl rfl rfl rfl ?_
  refine re_nil ?_
  refine qe_thenC ?_
  refine ce_seq ?_
  refine ce_cond rfl (fun h0 => ?_) (fun h0 => ?_)
  · try simp only [zn1, zn2, zn3, zn4, zn5, zn6] at h0
    refine ce_skip ?_
    refine qe_thenC ?_
    refine ce_seq ?_
    refine ce_block ?_
    refine ce_seq ?_
    refine ce_text (tab := []) (soft := 31) (.op 0 (.op 1 (.op 2 (.op 3 (.op 4 .nil))))) rfl rfl ?_
    have hlt : k < ms.length := by omega
    obtain ⟨xa, rfl⟩ := H.rsome sa (by omega)
    obtain ⟨ya, rfl⟩ := H.rsome ma (by omega)
    refine re_move rfl rfl rfl rfl rfl ?_
    refine re_index rfl rfl rfl rfl rfl rfl ul_31 ei_31 (by omega) (by omega) ?_
    refine re_loadW rfl rfl rfl rfl rfl (run_loadAt_one sh_3 (H.rint (by omega))) ?_
    refine re_assign rfl rfl rfl rfl rfl ?_
    refine re_assign rfl rfl rfl rfl rfl ?_
    refine re_nil ?_
    refine qe_thenC ?_
    refine ce_seq ?_
    refine ce_text_yield (soft := 191) (.op 0 (.op 1 (.op 2 (.op 3 (.op 4 (.op 5 .nil)))))) rfl 6 [7] rfl (by kernel_rfl) ?_
    refine re_move rfl rfl rfl rfl rfl ?_
    refine re_move rfl rfl rfl rfl rfl ?_
    refine re_load H rfl rfl rfl rfl rfl sh_62 rfl ?_
    refine re_move rfl rfl rfl rfl rfl ?_
    refine re_index rfl rfl rfl rfl rfl rfl ul_62 ei_62 (by omega) (by omega) ?_
    refine re_loadW rfl rfl rfl rfl rfl (run_loadAt_agg (vs := (ms[k]).cells) sh_46 ?_) ?_
    · exact Own.rmsg H hlt
    refine re_nil ?_
    refine qe_yield (pt := .op 7 .nil) (soft := 191) rfl rfl rfl rfl (by kernel_rfl) rfl rfl rfl ?_
    refine Round.mono (hround k hlt _ HI) ?_
    rintro e w ⟨rfl, HI⟩
    refine ⟨_, rfl, ?_⟩
    refine re_not rfl rfl rfl rfl rfl ?_
    refine re_nil ?_
    refine qe_thenC ?_
    refine ce_condF rfl ?_
    refine ce_skip ?_
    refine qe_block_norm ?_
    refine qe_thenC ?_
    refine ce_text (tab := []) (soft := 3) (.op 0 (.op 1 .nil)) rfl rfl ?_
    first | refine re_add rfl rfl rfl rfl rfl rfl (by omega) ?_ | refine re_bin rfl rfl rfl rfl rfl rfl rfl ?_
    refine re_move rfl rfl rfl rfl rfl ?_
    refine re_nil ?_
    refine qe_round (x := k) (k + 1) ?_ ?_ ?_
    · first | (dsimp only; omega) | omega
    · exact (And.intro rfl (And.intro rfl (And.intro rfl (And.intro rfl (And.intro rfl (And.intro rfl trivial))))))
    · exact ⟨HI, by omega⟩
  · try simp only [zn1, zn2, zn3, zn4, zn5, zn6] at h0
    refine ce_exit ?_
    refine qe_then_exit ?_
    refine qe_then_exit ?_
    refine qe_block_exit ?_
    refine qe_end0 rfl ?_
    obtain rfl : k = ms.length := by omega
    exact ⟨rfl, HI⟩
end Go.Proofs.Ytofaoblfemfkiaa

namespace Go.Proofs.Ytofaoblfemfkiaa
open Go Go.RowKit Go.Fw
set_option linter.unusedSimpArgs false
set_option linter.unusedVariables false
set_option maxRecDepth 4000
set_option maxHeartbeats 2000000
theorem en_84 : Enterable Try.prog 84 := ⟨Try.f84, Try.func84, rfl, by decide⟩
theorem en_86 : Enterable Try.prog 86 := ⟨Try.f86, Try.func86, rfl, by decide⟩
theorem fo_46_7 : fOff Try.prog 46 7 = some 13 := by kernel_rfl

theorem lessHeld {B w : World} {F : List Ent} {m1 m2 : GM} (H : Own B F w) :
    Calls Try.prog 86 #[.agg m1.cells.toArray, .agg m2.cells.toArray] w fun e w' => e = .returned (.bool (stampLess m1.h0 m1.h1 m2.h0 m2.h1)) ∧ Own B F w' := by
  refine calls_ce (args := [.agg m1.cells.toArray, .agg m2.cells.toArray]) Try.func86 rfl rfl ?_
  change CE _ _ 10 _ _ [(0, .agg m1.cells.toArray), (1, .agg m2.cells.toArray)] _
  refine ce_seq ?_
  refine ce_text (tab := []) (soft := 4) (.op 0 (.op 1 (.op 2 .nil))) rfl rfl ?_
  refine re_box H rfl rfl rfl rfl rfl rfl ?_
  intro g2 w H
  refine ⟨(fun h => (nomatch h)), ?_⟩
  refine re_box H rfl rfl rfl rfl rfl rfl ?_
  intro g3 w H
  refine ⟨(fun h => (nomatch h)), ?_⟩
  refine re_assign rfl rfl rfl rfl rfl ?_
  refine re_nil ?_
  refine qe_thenC ?_
  refine ce_seq ?_
  refine ce_text (tab := []) (soft := 47) (.op 0 (.op 1 (.op 2 (.op 3 (.op 4 (.op 5 .nil)))))) rfl rfl ?_
  first | refine re_field0 rfl rfl rfl rfl rfl fo_46_7 ?_ | refine re_field rfl rfl rfl rfl rfl fo_46_7 ?_ | refine re_fieldA rfl rfl rfl rfl rfl fo_46_7 ?_
  refine re_load H rfl rfl rfl rfl rfl sh_38 (by first | exact rdAt_all rfl | (simp only [rdAt, PS.cells, PS.over, GM.cells, Cmd.cells, List.cons_append, List.nil_append, List.drop_succ_cons, List.drop_zero, List.take_succ_cons, List.take_zero, List.length_cons, List.length_nil, Nat.zero_add, Nat.reduceAdd, Nat.reduceLeDiff, Nat.le_refl, ↓reduceIte] <;> rfl)) ?_
  first | refine re_field0 rfl rfl rfl rfl rfl fo_46_7 ?_ | refine re_field rfl rfl rfl rfl rfl fo_46_7 ?_ | refine re_fieldA rfl rfl rfl rfl rfl fo_46_7 ?_
  refine re_load H rfl rfl rfl rfl rfl sh_38 (by first | exact rdAt_all rfl | (simp only [rdAt, PS.cells, PS.over, GM.cells, Cmd.cells, List.cons_append, List.nil_append, List.drop_succ_cons, List.drop_zero, List.take_succ_cons, List.take_zero, List.length_cons, List.length_nil, Nat.zero_add, Nat.reduceAdd, Nat.reduceLeDiff, Nat.le_refl, ↓reduceIte] <;> rfl)) ?_
  refine re_call en_84 rfl rfl rfl rfl rfl ?_
  refine Calls.mono (less_s H) ?_
  rintro e w ⟨rfl, H⟩
  refine ⟨_, rfl, (fun h => (nomatch h)), ?_⟩
  refine re_assign rfl rfl rfl rfl rfl ?_
  refine re_nil ?_
  refine qe_thenC ?_
  refine ce_ret ?_
  refine qe_end rfl rfl ?_
  exact ⟨rfl, H.tail.tail⟩

theorem best_s {B w : World} {F : List Ent} {ra : Option Nat} {rc : Nat} {l : List GM} (H : Own B (.row ra rc 46 30 l.length (msgs l) :: F) w) (hn : l.length ≤ 1000000) :
    Calls Try.prog 85 #[.func (.func 86) #[] #[], slv ra l.length rc] w fun e w' => e = .returned (.tuple #[.agg (bestV l).cells.toArray, .bool (decide ((0 : Int) < (l.length : Int)))]) ∧ Own B (.row ra rc 46 30 l.length (msgs l) :: F) w' := by
  refine calls_ce (args := [.func (.func 86) #[] #[], slv ra l.length rc]) Try.func85 rfl rfl ?_
  change CE _ _ 30 _ _ [(0, .func (.func 86) #[] #[]), (1, slv ra l.length rc)] _
  refine ce_seq ?_
  refine ce_text (tab := []) (soft := 2) (.op 0 (.op 1 .nil)) rfl rfl ?_
  refine re_alloc H rfl rfl rfl rfl ze_46 ?_
  intro g4 w H
  refine ⟨(fun h => (nomatch h)), ?_⟩
  refine re_assign rfl rfl rfl rfl rfl ?_
  refine re_nil ?_
  refine qe_thenC ?_
  refine ce_seq ?_
  refine ce_text (tab := []) (soft := 0) (.op 0 .nil) rfl rfl ?_
  refine re_alloc H rfl rfl rfl rfl ze_46 ?_
  intro g6 w H
  refine ⟨(fun h => (nomatch h)), ?_⟩
  refine re_nil ?_
  refine qe_thenC ?_
  refine ce_seq ?_
  refine ce_seq ?_
  refine ce_text (tab := []) (soft := 7) (.op 0 (.op 1 (.op 2 .nil))) rfl rfl ?_
  refine re_move rfl rfl rfl rfl rfl ?_
  refine re_len rfl rfl rfl rfl rfl ul_62 ?_
  refine re_move rfl rfl rfl rfl rfl ?_
  refine re_nil ?_
  refine qe_thenC ?_
  refine ce_block ?_
  refine ce_loop (α := Nat) (fun k => [(0, .func (.func 86) #[] #[]), (1, slv ra l.length rc), (4, .pointer (some ⟨g4, 0, none⟩)), (6, .pointer (some ⟨g6, 0, none⟩)), (9, slv ra l.length rc), (10, .int .i64 (l.length : Int)), (11, .int .i64 (k : Int))]) (fun k w => Own B (.cells g6 46 (bestV (l.take k)).cells :: .cells g4 46 GM.zero.cells :: .row ra rc 46 30 l.length (msgs l) :: F) w ∧ k ≤ l.length) (fun k => l.length - k) 0 (And.intro rfl (And.intro rfl (And.intro rfl (And.intro rfl (And.intro rfl (And.intro rfl (And.intro rfl trivial))))))) ⟨H, Nat.zero_le _⟩ ?_
  rintro k w HW
  obtain ⟨H, hk⟩ := HW
  change CE _ _ _ _ _ [(0, .func (.func 86) #[] #[]), (1, slv ra l.length rc), (4, .pointer (some ⟨g4, 0, none⟩)), (6, .pointer (some ⟨g6, 0, none⟩)), (9, slv ra l.length rc), (10, .int .i64 (l.length : Int)), (11, .int .i64 (k : Int))] _
  refine ce_seq ?_
  refine ce_text (tab := []) (soft := 1) (.op 0 .nil) rfl rfl ?_
  refine re_bin rfl rfl rfl rfl rfl rfl rfl ?_
  refine re_nil ?_
  refine qe_thenC ?_
  refine ce_seq ?_
  refine ce_cond rfl (fun h0 => ?_) (fun h0 => ?_)
  · try simp only [zn1, zn2, zn3, zn4, zn5, zn6] at h0
    refine ce_skip ?_
    refine qe_thenC ?_
    refine ce_seq ?_
    refine ce_block ?_
    refine ce_seq ?_
    refine ce_text (tab := []) (soft := 23) (.op 0 (.op 1 (.op 2 (.op 3 (.op 4 (.op 5 .nil)))))) rfl rfl ?_
    have hlt : k < l.length := by omega
    obtain ⟨ya, rfl⟩ := H.rsome ra (by omega)
    refine re_move rfl rfl rfl rfl rfl ?_
    refine re_index rfl rfl rfl rfl rfl rfl ul_62 ei_62 (by omega) (by omega) ?_
    refine re_loadW rfl rfl rfl rfl rfl (run_loadAt_agg (vs := (l[k]).cells) sh_46 (Own.rmsg H hlt)) ?_
    refine re_alloc H rfl rfl rfl rfl ze_46 ?_
    intro g8 w H
    refine ⟨(fun h => (nomatch h)), ?_⟩
    refine re_assign rfl rfl rfl rfl rfl ?_
    refine re_store H rfl rfl rfl rfl rfl rfl sh_46 rfl rfl rfl ?_
    intro cs w hcs H
    first | rw [setMany_whole rfl] at hcs | simp only [setMany, List.set_cons_zero, List.set_cons_succ, Nat.reduceAdd, Nat.zero_add, PS.cells, PS.over, GM.cells, Cmd.cells, List.cons_append, List.nil_append] at hcs
    subst hcs
    refine ⟨(fun h => (nomatch h)), ?_⟩
    refine re_nil ?_
    refine qe_thenC ?_
    refine ce_seq ?_
    refine ce_text (tab := []) (soft := 191) (.op 0 (.op 1 (.op 2 (.op 3 (.op 4 (.op 5 (.op 6 (.op 7 .nil)))))))) rfl rfl ?_
    refine re_move rfl rfl rfl rfl rfl ?_
    refine re_bin rfl rfl rfl rfl rfl rfl rfl ?_
    refine re_move rfl rfl rfl rfl rfl ?_
    refine re_split (fun hg5_2 => ?_) (fun hg5_2 => ?_)
    ·
      refine re_skip1 rfl rfl rfl ?_
      refine re_skip1 rfl rfl rfl ?_
      refine re_skip1 rfl rfl rfl ?_
      refine re_skip1 rfl rfl rfl ?_
      have hk0 : k = 0 := by have := of_decide_eq_true hg5_2; omega
      refine re_pickT rfl rfl rfl rfl rfl rfl ?_
      refine re_nil ?_
      refine qe_thenC ?_
      refine ce_condT rfl ?_
      refine ce_text (tab := []) (soft := 1) (.op 0 (.op 1 .nil)) rfl rfl ?_
      refine re_load H rfl rfl rfl rfl rfl sh_46 (by first | exact rdAt_all rfl | (simp only [rdAt, PS.cells, PS.over, GM.cells, Cmd.cells, List.cons_append, List.nil_append, List.drop_succ_cons, List.drop_zero, List.take_succ_cons, List.take_zero, List.length_cons, List.length_nil, Nat.zero_add, Nat.reduceAdd, Nat.reduceLeDiff, Nat.le_refl, ↓reduceIte] <;> rfl)) ?_
      refine re_store H rfl rfl rfl rfl rfl rfl sh_46 rfl rfl rfl ?_
      intro cs w hcs H
      first | rw [setMany_whole rfl] at hcs | simp only [setMany, List.set_cons_zero, List.set_cons_succ, Nat.reduceAdd, Nat.zero_add, PS.cells, PS.over, GM.cells, Cmd.cells, List.cons_append, List.nil_append] at hcs
      subst hcs
      refine ⟨(fun h => (nomatch h)), ?_⟩
      refine re_nil ?_
      refine qe_block_norm ?_
      refine qe_thenC ?_
      refine ce_text (tab := []) (soft := 3) (.op 0 (.op 1 .nil)) rfl rfl ?_
      first | refine re_add rfl rfl rfl rfl rfl rfl (by omega) ?_ | refine re_bin rfl rfl rfl rfl rfl rfl rfl ?_
      refine re_move rfl rfl rfl rfl rfl ?_
      refine re_nil ?_
      refine qe_round (x := k) (k + 1) ?_ ?_ ?_
      · first | (dsimp only; omega) | omega
      · exact (And.intro rfl (And.intro rfl (And.intro rfl (And.intro rfl (And.intro rfl (And.intro rfl (And.intro rfl trivial)))))))
      · exact ⟨by rw [bestV_new hlt (.inl hk0)]; exact H.tail, by omega⟩
    ·
      have hk0 : k ≠ 0 := by have := of_decide_eq_false hg5_2; omega
      refine re_move rfl rfl rfl rfl rfl ?_
      refine re_load H rfl rfl rfl rfl rfl sh_46 (by first | exact rdAt_all rfl | (simp only [rdAt, PS.cells, PS.over, GM.cells, Cmd.cells, List.cons_append, List.nil_append, List.drop_succ_cons, List.drop_zero, List.take_succ_cons, List.take_zero, List.length_cons, List.length_nil, Nat.zero_add, Nat.reduceAdd, Nat.reduceLeDiff, Nat.le_refl, ↓reduceIte] <;> rfl)) ?_
      refine re_load H rfl rfl rfl rfl rfl sh_46 (by first | exact rdAt_all rfl | (simp only [rdAt, PS.cells, PS.over, GM.cells, Cmd.cells, List.cons_append, List.nil_append, List.drop_succ_cons, List.drop_zero, List.take_succ_cons, List.take_zero, List.length_cons, List.length_nil, Nat.zero_add, Nat.reduceAdd, Nat.reduceLeDiff, Nat.le_refl, ↓reduceIte] <;> rfl)) ?_
      refine re_callV (cap := []) en_86 rfl rfl rfl rfl rfl rfl ?_
      refine Calls.mono (lessHeld H) ?_
      rintro e w ⟨rfl, H⟩
      refine ⟨_, rfl, (fun h => (nomatch h)), ?_⟩
      refine re_pickF rfl rfl rfl rfl rfl rfl ?_
      refine re_nil ?_
      refine qe_thenC ?_
      refine ce_cond rfl (fun h1 => ?_) (fun h1 => ?_)
      · try simp only [zn1, zn2, zn3, zn4, zn5, zn6] at h1
        refine ce_text (tab := []) (soft := 1) (.op 0 (.op 1 .nil)) rfl rfl ?_
        refine re_load H rfl rfl rfl rfl rfl sh_46 (by first | exact rdAt_all rfl | (simp only [rdAt, PS.cells, PS.over, GM.cells, Cmd.cells, List.cons_append, List.nil_append, List.drop_succ_cons, List.drop_zero, List.take_succ_cons, List.take_zero, List.length_cons, List.length_nil, Nat.zero_add, Nat.reduceAdd, Nat.reduceLeDiff, Nat.le_refl, ↓reduceIte] <;> rfl)) ?_
        refine re_store H rfl rfl rfl rfl rfl rfl sh_46 rfl rfl rfl ?_
        intro cs w hcs H
        first | rw [setMany_whole rfl] at hcs | simp only [setMany, List.set_cons_zero, List.set_cons_succ, Nat.reduceAdd, Nat.zero_add, PS.cells, PS.over, GM.cells, Cmd.cells, List.cons_append, List.nil_append] at hcs
        subst hcs
        refine ⟨(fun h => (nomatch h)), ?_⟩
        refine re_nil ?_
        refine qe_block_norm ?_
        refine qe_thenC ?_
        refine ce_text (tab := []) (soft := 3) (.op 0 (.op 1 .nil)) rfl rfl ?_
        first | refine re_add rfl rfl rfl rfl rfl rfl (by omega) ?_ | refine re_bin rfl rfl rfl rfl rfl rfl rfl ?_
        refine re_move rfl rfl rfl rfl rfl ?_
        refine re_nil ?_
        refine qe_round (x := k) (k + 1) ?_ ?_ ?_
        · first | (dsimp only; omega) | omega
        · exact (And.intro rfl (And.intro rfl (And.intro rfl (And.intro rfl (And.intro rfl (And.intro rfl (And.intro rfl trivial)))))))
        · exact ⟨by rw [bestV_new hlt (.inr h1)]; exact H.tail, by omega⟩
      · try simp only [zn1, zn2, zn3, zn4, zn5, zn6] at h1
        refine ce_skip ?_
        refine qe_block_norm ?_
        refine qe_thenC ?_
        refine ce_text (tab := []) (soft := 3) (.op 0 (.op 1 .nil)) rfl rfl ?_
        first | refine re_add rfl rfl rfl rfl rfl rfl (by omega) ?_ | refine re_bin rfl rfl rfl rfl rfl rfl rfl ?_
        refine re_move rfl rfl rfl rfl rfl ?_
        refine re_nil ?_
        refine qe_round (x := k) (k + 1) ?_ ?_ ?_
        · first | (dsimp only; omega) | omega
        · exact (And.intro rfl (And.intro rfl (And.intro rfl (And.intro rfl (And.intro rfl (And.intro rfl (And.intro rfl trivial)))))))
        · exact ⟨by rw [bestV_old hlt hk0 h1]; exact H.tail, by omega⟩
  · try simp only [zn1, zn2, zn3, zn4, zn5, zn6] at h0
    refine ce_exit ?_
    refine qe_then_exit ?_
    refine qe_then_exit ?_
    refine qe_block_exit ?_
    refine qe_thenC ?_
    refine ce_seq ?_
    refine ce_text (tab := []) (soft := 47) (.op 0 (.op 1 (.op 2 (.op 3 (.op 4 (.op 5 .nil)))))) rfl rfl ?_
    refine re_load H rfl rfl rfl rfl rfl sh_46 (by first | exact rdAt_all rfl | (simp only [rdAt, PS.cells, PS.over, GM.cells, Cmd.cells, List.cons_append, List.nil_append, List.drop_succ_cons, List.drop_zero, List.take_succ_cons, List.take_zero, List.length_cons, List.length_nil, Nat.zero_add, Nat.reduceAdd, Nat.reduceLeDiff, Nat.le_refl, ↓reduceIte] <;> rfl)) ?_
    refine re_move rfl rfl rfl rfl rfl ?_
    refine re_len rfl rfl rfl rfl rfl ul_62 ?_
    refine re_bin rfl rfl rfl rfl rfl rfl rfl ?_
    refine re_store H rfl rfl rfl rfl rfl rfl sh_46 rfl rfl rfl ?_
    intro cs w hcs H
    first | rw [setMany_whole rfl] at hcs | simp only [setMany, List.set_cons_zero, List.set_cons_succ, Nat.reduceAdd, Nat.zero_add, PS.cells, PS.over, GM.cells, Cmd.cells, List.cons_append, List.nil_append] at hcs
    subst hcs
    refine ⟨(fun h => (nomatch h)), ?_⟩
    refine re_assign rfl rfl rfl rfl rfl ?_
    refine re_nil ?_
    refine qe_thenC ?_
    refine ce_ret ?_
    refine qe_endCell2 H rfl rfl rfl sh_46 (by first | exact rdAt_all rfl | (simp only [rdAt, PS.cells, PS.over, GM.cells, Cmd.cells, List.cons_append, List.nil_append, List.drop_succ_cons, List.drop_zero, List.take_succ_cons, List.take_zero, List.length_cons, List.length_nil, Nat.zero_add, Nat.reduceAdd, Nat.reduceLeDiff, Nat.le_refl, ↓reduceIte] <;> rfl)) ?_
    obtain rfl : k = l.length := by omega
    rw [List.take_length] at H
    rw [List.take_length]
    exact ⟨rfl, H.tail.tail⟩
end Go.Proofs.Ytofaoblfemfkiaa
