/- Parts of the proof: K L M R. -/
import Derived.Test.YtofaoblfemfkiaaBd2
set_option linter.unusedVariables false
set_option linter.unusedSimpArgs false
namespace Go.Proofs.Ytofaoblfemfkiaa
open Go Go.RowKit Go.Fw
set_option linter.unusedSimpArgs false
set_option linter.unusedVariables false
set_option maxRecDepth 4000
set_option maxHeartbeats 2000000
theorem en_83 : Enterable Try.prog 83 := ⟨Try.f83, Try.func83, rfl, by decide⟩
theorem en_85 : Enterable Try.prog 85 := ⟨Try.f85, Try.func85, rfl, by decide⟩
theorem en_87 : Enterable Try.prog 87 := ⟨Try.f87, Try.func87, rfl, by decide⟩
theorem fo_46_9 : fOff Try.prog 46 9 = some 16 := by kernel_rfl
theorem fo_80_4 : fOff Try.prog 80 4 = some 7 := by kernel_rfl
theorem nif_137 : notIface Try.prog 137 = true := by kernel_rfl
theorem pl_137 : placesOf Try.prog 137 = some [(0, 1), (1, 9)] := by kernel_rfl
theorem ze_137 : zeroC Try.prog 137 = some [.pointer none, .int .i64 0, .int .i64 0, .int .i64 0, .string ByteArray.empty, .int .i64 0, .int .i64 0, .int .i64 0, .int .i64 0, .int .i64 0] := by kernel_rfl

/-- Those that hold one. -/
def heldOf (l : List GM) : List GM := l.filter fun m => stampLess 0 0 m.h0 m.h1
theorem heldOf_new {l : List GM} {k : Nat} (h : k < l.length) (hb : stampLess 0 0 (l[k]).h0 (l[k]).h1 = true) : heldOf (l.take (k + 1)) = heldOf (l.take k) ++ [l[k]] := by
  unfold heldOf
  rw [List.take_succ_eq_append_getElem h, List.filter_append]
  simp [hb]
theorem heldOf_old {l : List GM} {k : Nat} (h : k < l.length) (hb : stampLess 0 0 (l[k]).h0 (l[k]).h1 = false) : heldOf (l.take (k + 1)) = heldOf (l.take k) := by
  unfold heldOf
  rw [List.take_succ_eq_append_getElem h, List.filter_append]
  simp [hb]
theorem heldOf_length (l : List GM) : (heldOf l).length ≤ l.length := List.length_filter_le _ _
/-- The command that is put forward. -/
def PS.chosen (p : PS) (ms : List (Int × GM)) : Cmd := if 0 < (heldOf (gotM p.gs ms)).length then (bestV (heldOf (gotM p.gs ms))).cmd else p.mine
def PS.next (p : PS) : PS := { p with rnd := p.rnd + 1 }

theorem accept_worn {B w : World} {F : List Ent} {g : Nat} {p : PS} {qt qm qc : Nat} {qa : Option Nat} {ms : List (Int × GM)} (H : Own B (.cells g 80 p.cells :: .row p.ga p.gc 3 1 p.gs.length (ints p.gs) :: .cells qt 145 [slv qa p.gs.length qc, .int .i64 ((p.gs.length : Int) / 2 + 1), .map (some qm)] :: .row qa qc 3 1 p.gs.length (ints p.gs) :: .imap qm (kvM ms) :: F) w) (hn : p.gs.length ≤ 1000000) (hu : unlike p.gs = p.gs) (hw : 1099511627776 ≤ p.rnd) :
    Calls Try.prog 74 #[.pointer (some ⟨g, 0, none⟩), .pointer (some ⟨qt, 0, none⟩)] w fun e w' => e = .returned (slv none 0 0) ∧ Own B (.cells g 80 { p.over with wn := true }.cells :: .row p.ga p.gc 3 1 p.gs.length (ints p.gs) :: F) w' := by
  refine calls_ceM (args := [.pointer (some ⟨g, 0, none⟩), .pointer (some ⟨qt, 0, none⟩)]) Try.func74 rfl rfl ?_
  change CE _ _ 61 _ _ [(0, .pointer (some ⟨g, 0, none⟩)), (1, .pointer (some ⟨qt, 0, none⟩))] _
  refine ce_seq ?_
  refine ce_text (tab := []) (soft := 1) (.op 0 .nil) rfl rfl ?_
  refine re_assign rfl rfl rfl rfl rfl ?_
  refine re_nil ?_
  refine qe_thenC ?_
  refine ce_seq ?_
  refine ce_text (tab := []) (soft := 0) (.op 0 .nil) rfl rfl ?_
  refine re_alloc H rfl rfl rfl rfl ze_62 ?_
  intro g5 w H
  refine ⟨(fun h => (nomatch h)), ?_⟩
  refine re_nil ?_
  refine qe_thenC ?_
  refine ce_seq ?_
  refine ce_seq ?_
  refine ce_text (tab := []) (soft := 1) (.op 0 (.op 1 .nil)) rfl rfl ?_
  refine re_move rfl rfl rfl rfl rfl ?_
  refine re_call en_83 rfl rfl rfl rfl rfl ?_
  have H := Own.arr [5, 5, 5] H
  simp only [arrs, Fw.front, zm1, zm2, zm3, zm4, zm5] at H
  refine Calls.mono (got_s H hn) ?_
  rintro e w ⟨s, q, sa, sc, ma, mc, rfl, H⟩
  refine ⟨_, rfl, (fun h => (nomatch h)), ?_⟩
  refine re_nil ?_
  refine qe_thenC ?_
  refine ce_block ?_
  have H := Own.arr [9, 9, 9, 6, 6, 6, 6] H
  simp only [arrs, Fw.front, zm1, zm2, zm3, zm4, zm5] at H
  replace H := H.sub (.cons_cons _ (.cons_cons _ (.cons_cons _ (.cons_cons _ (.cons_cons _ (.cons_cons _ (.cons_cons _ (.cons _ (.cons _ (.cons _ (List.Sublist.refl _)))))))))))
  replace H := H.nil_row 46 30
  have H := Own.arr [7, 7, 2, 7, 7, 7, 7, 7] H
  simp only [arrs, Fw.front, zm1, zm2, zm3, zm4, zm5] at H
  have hgl := gotL_length p.gs ms
  have eS : (gotS p.gs ms).length = (gotL p.gs ms).length := List.length_map ..
  have eM : (gotM p.gs ms).length = (gotL p.gs ms).length := List.length_map ..
  refine ce_rangeFunc H en_87 rfl ?_
  intro a0 l0 b0 r0 w hrel hr0 H
  refine Calls.mono (got1_s (B := B) (ss := gotS p.gs ms) (ms := gotM p.gs ms) (s := s) (q := q) (sa := sa) (ma := ma) (sc := sc) (mc := mc) (hss := by rw [eS, eM]) (hn := by omega) (l := l0) (I := fun j w => ∃ la lc, Own B (.loop l0 r0 :: .deferred b0 (some []) :: .cells s 31 [slv sa (gotL p.gs ms).length sc] :: .row sa sc 3 1 (gotL p.gs ms).length (ints (gotS p.gs ms)) :: .cells q 62 [slv ma (gotL p.gs ms).length mc] :: .row ma mc 46 30 (gotL p.gs ms).length (msgs (gotM p.gs ms)) :: .cells g5 62 [slv la (heldOf ((gotM p.gs ms).take j)).length lc] :: .row la lc 46 30 (heldOf ((gotM p.gs ms).take j)).length (msgs (heldOf ((gotM p.gs ms).take j))) :: .cells g 80 p.cells :: .row p.ga p.gc 3 1 p.gs.length (ints p.gs) :: F) w) ?_ ?_ ?_) ?_
  ·
    intro j w HI
    obtain ⟨la, lc, H⟩ := HI
    rw [eM]
    have H := Own.arr [1, 1, 5, 5, 5, 5] H
    simp only [arrs, Fw.front, zm1, zm2, zm3, zm4, zm5] at H
    exact ⟨_, H⟩
  ·
    intro j hj w HI
    obtain ⟨la, lc, H⟩ := HI
    refine round_of2 hr0 H (i := 0) rfl hrel rfl rfl ?_
    refine ci_text (tab := []) (soft := 0) (.op 0 (.op 1 .nil)) rfl rfl (by kernel_rfl) ?_
    refine re_alloc H rfl rfl rfl rfl ze_46 ?_
    intro g7 w H
    refine ⟨(fun h => (nomatch h)), ?_⟩
    refine re_store H rfl rfl rfl rfl rfl rfl sh_46 rfl rfl rfl ?_
    intro cs w hcs H
    first | rw [setMany_whole rfl] at hcs | simp only [setMany, List.set_cons_zero, List.set_cons_succ, Nat.reduceAdd, Nat.zero_add, PS.cells, PS.over, GM.cells, Cmd.cells, List.cons_append, List.nil_append] at hcs
    subst hcs
    refine ⟨(fun h => (nomatch h)), ?_⟩
    refine re_nil ?_
    have hhl := heldOf_length ((gotM p.gs ms).take j)
    have htl := List.length_take_le j (gotM p.gs ms)
    refine qe_begin H (i := 1) rfl hr0.state ?_
    intro w H
    simp only [List.set_cons_zero, List.set_cons_succ] at H
    refine ci_block ?_
    refine ci_seq ?_
    refine ci_text (tab := []) (soft := 7) (.op 0 (.op 1 (.op 2 (.op 3 .nil)))) rfl rfl (by kernel_rfl) ?_
    refine re_build rfl rfl rfl rfl rfl ze_38 pl_38 (by simp only [fillL, setMany, Value.cells, List.getElem?_cons_zero, List.getElem?_cons_succ, List.length_cons, List.length_nil, List.set_cons_zero, List.set_cons_succ, Nat.reduceAdd, Nat.reduceLeDiff, Nat.zero_add, and_self, ↓reduceIte]; rfl) ?_
    first | refine re_field0 rfl rfl rfl rfl rfl fo_46_7 ?_ | refine re_field rfl rfl rfl rfl rfl fo_46_7 ?_ | refine re_fieldA rfl rfl rfl rfl rfl fo_46_7 ?_
    refine re_load H rfl rfl rfl rfl rfl sh_38 (by first | exact rdAt_all rfl | (simp only [rdAt, PS.cells, PS.over, GM.cells, Cmd.cells, List.cons_append, List.nil_append, List.drop_succ_cons, List.drop_zero, List.take_succ_cons, List.take_zero, List.length_cons, List.length_nil, Nat.zero_add, Nat.reduceAdd, Nat.reduceLeDiff, Nat.le_refl, ↓reduceIte] <;> rfl)) ?_
    refine re_call en_84 rfl rfl rfl rfl rfl ?_
    refine Calls.mono (less_s (a0 := 0) (a1 := 0) H) ?_
    rintro e w ⟨rfl, H⟩
    refine ⟨_, rfl, (fun h => (nomatch h)), ?_⟩
    refine re_nil ?_
    refine qe_thenI ?_
    refine ci_cond rfl (fun h0 => ?_) (fun h0 => ?_)
    · try simp only [zn1, zn2, zn3, zn4, zn5, zn6] at h0
      refine ci_text (tab := []) (soft := 3) (.op 0 (.op 1 (.op 2 (.op 3 (.op 4 .nil))))) rfl rfl (by kernel_rfl) ?_
      refine re_load H rfl rfl rfl rfl rfl sh_62 rfl ?_
      refine re_load H rfl rfl rfl rfl rfl sh_46 (by first | exact rdAt_all rfl | (simp only [rdAt, PS.cells, PS.over, GM.cells, Cmd.cells, List.cons_append, List.nil_append, List.drop_succ_cons, List.drop_zero, List.take_succ_cons, List.take_zero, List.length_cons, List.length_nil, Nat.zero_add, Nat.reduceAdd, Nat.reduceLeDiff, Nat.le_refl, ↓reduceIte] <;> rfl)) ?_
      refine re_slice1 H rfl rfl rfl rfl rfl rfl ul_62 ei_62 ze_46 rfl rfl rfl (by decide) ?_
      intro g21 w H
      refine ⟨(fun h => (nomatch h)), ?_⟩
      refine re_append H rfl rfl rfl rfl rfl rfl ul_62 ei_62 ze_46 rfl (by decide) (src_cells H rfl) rfl (by omega) (by simp only [maxLen]; omega) ?_
      intro a1 c1 w H _
      simp only [List.set_cons_zero, List.set_cons_succ] at H
      refine ⟨(fun h => (nomatch h)), ?_⟩
      refine re_store H rfl rfl rfl rfl rfl rfl sh_62 rfl rfl rfl ?_
      intro cs w hcs H
      first | rw [setMany_whole rfl] at hcs | simp only [setMany, List.set_cons_zero, List.set_cons_succ, Nat.reduceAdd, Nat.zero_add, PS.cells, PS.over, GM.cells, Cmd.cells, List.cons_append, List.nil_append] at hcs
      subst hcs
      refine ⟨(fun h => (nomatch h)), ?_⟩
      refine re_nil ?_
      refine qe_block_norm ?_
      refine qe_endRound hr0 H (i := 2) rfl ?_
      intro w H
      simp only [List.set_cons_zero, List.set_cons_succ] at H
      have e := heldOf_new hj (by simpa using h0)
      refine ⟨rfl, a1, c1, ?_⟩
      rw [e, List.length_append, msgs_snoc]
      exact H.drop 2
    · try simp only [zn1, zn2, zn3, zn4, zn5, zn6] at h0
      refine ci_skip ?_
      refine qe_block_norm ?_
      refine qe_endRound hr0 H (i := 1) rfl ?_
      intro w H
      simp only [List.set_cons_zero, List.set_cons_succ] at H
      refine ⟨rfl, la, lc, ?_⟩
      rw [heldOf_old hj (by simpa using h0)]
      exact H.tail
  ·
    exact ⟨none, 0, H⟩
  ·
    rintro e w ⟨rfl, HI⟩
    obtain ⟨la, lc, H⟩ := HI
    refine ⟨_, 0, _, rfl, H, rfl, ?_⟩
    intro w H
    simp only [List.set_cons_zero, List.set_cons_succ] at H
    have H := Own.arr [7, 7, 3, 9, 9] H
    simp only [arrs, Fw.front, zm1, zm2, zm3, zm4, zm5] at H
    replace H := H.sub (.cons_cons _ (.cons_cons _ (.cons_cons _ (.cons_cons _ (.cons_cons _ (.cons _ (.cons _ (.cons _ (.cons _ (.cons _ (List.Sublist.refl _)))))))))))
    rw [List.take_length] at H
    have hhl := heldOf_length (gotM p.gs ms)
    refine qe_block_norm ?_
    refine qe_thenC ?_
    refine ce_seq ?_
    refine ce_text (tab := []) (soft := 15) (.op 0 (.op 1 (.op 2 (.op 3 (.op 4 (.op 5 .nil)))))) rfl rfl ?_
    refine re_move rfl rfl rfl rfl rfl ?_
    refine re_nilc rfl rfl rfl rfl rfl ?_
    first | refine re_field0 rfl rfl rfl rfl rfl fo_80_4 ?_ | refine re_field rfl rfl rfl rfl rfl fo_80_4 ?_ | refine re_fieldA rfl rfl rfl rfl rfl fo_80_4 ?_
    refine re_load H rfl rfl rfl rfl rfl sh_28 (by first | exact rdAt_all rfl | (simp only [rdAt, PS.cells, PS.over, GM.cells, Cmd.cells, List.cons_append, List.nil_append, List.drop_succ_cons, List.drop_zero, List.take_succ_cons, List.take_zero, List.length_cons, List.length_nil, Nat.zero_add, Nat.reduceAdd, Nat.reduceLeDiff, Nat.le_refl, ↓reduceIte] <;> rfl)) ?_
    refine re_alloc H rfl rfl rfl rfl ze_28 ?_
    intro g8 w H
    refine ⟨(fun h => (nomatch h)), ?_⟩
    refine re_store H rfl rfl rfl rfl rfl rfl sh_28 rfl rfl rfl ?_
    intro cs w hcs H
    first | rw [setMany_whole rfl] at hcs | simp only [setMany, List.set_cons_zero, List.set_cons_succ, Nat.reduceAdd, Nat.zero_add, PS.cells, PS.over, GM.cells, Cmd.cells, List.cons_append, List.nil_append] at hcs
    subst hcs
    refine ⟨(fun h => (nomatch h)), ?_⟩
    refine re_nil ?_
    refine qe_thenC ?_
    refine ce_seq ?_
    refine ce_seq ?_
    refine ce_text (tab := []) (soft := 157) (.op 0 (.op 1 (.op 2 (.op 3 (.op 4 (.op 5 (.op 6 (.op 7 .nil)))))))) rfl rfl ?_
    refine re_load H rfl rfl rfl rfl rfl sh_62 rfl ?_
    refine re_call en_85 rfl rfl rfl rfl rfl ?_
    have H := H.front 5
    simp only [arrs, Fw.front, zm1, zm2, zm3, zm4, zm5] at H
    refine Calls.mono (best_s H (by omega)) ?_
    rintro e w ⟨rfl, H⟩
    refine ⟨_, rfl, (fun h => (nomatch h)), ?_⟩
    refine re_move rfl rfl rfl rfl rfl ?_
    refine re_extract rfl rfl rfl rfl rfl rfl ?_
    refine re_extract rfl rfl rfl rfl rfl rfl ?_
    refine re_alloc H rfl rfl rfl rfl ze_46 ?_
    intro g9 w H
    refine ⟨(fun h => (nomatch h)), ?_⟩
    refine re_store H rfl rfl rfl rfl rfl rfl sh_46 rfl rfl rfl ?_
    intro cs w hcs H
    first | rw [setMany_whole rfl] at hcs | simp only [setMany, List.set_cons_zero, List.set_cons_succ, Nat.reduceAdd, Nat.zero_add, PS.cells, PS.over, GM.cells, Cmd.cells, List.cons_append, List.nil_append] at hcs
    subst hcs
    refine ⟨(fun h => (nomatch h)), ?_⟩
    refine re_assign rfl rfl rfl rfl rfl ?_
    refine re_nil ?_
    refine qe_thenC ?_
    refine ce_seq ?_
    refine ce_text (tab := []) (soft := 1) (.op 0 .nil) rfl rfl ?_
    refine re_move rfl rfl rfl rfl rfl ?_
    refine re_nil ?_
    refine qe_thenC ?_
    refine ce_cond rfl (fun h1 => ?_) (fun h1 => ?_)
    · try simp only [zn1, zn2, zn3, zn4, zn5, zn6] at h1
      have hch : p.chosen ms = (bestV (heldOf (gotM p.gs ms))).cmd := by rw [PS.chosen, if_pos (by omega)]
      refine ce_text (tab := []) (soft := 3) (.op 0 (.op 1 (.op 2 .nil))) rfl rfl ?_
      first | refine re_field0 rfl rfl rfl rfl rfl fo_46_9 ?_ | refine re_field rfl rfl rfl rfl rfl fo_46_9 ?_ | refine re_fieldA rfl rfl rfl rfl rfl fo_46_9 ?_
      refine re_load H rfl rfl rfl rfl rfl sh_28 (by first | exact rdAt_all rfl | (simp only [rdAt, PS.cells, PS.over, GM.cells, Cmd.cells, List.cons_append, List.nil_append, List.drop_succ_cons, List.drop_zero, List.take_succ_cons, List.take_zero, List.length_cons, List.length_nil, Nat.zero_add, Nat.reduceAdd, Nat.reduceLeDiff, Nat.le_refl, ↓reduceIte] <;> rfl)) ?_
      refine re_store H rfl rfl rfl rfl rfl rfl sh_28 rfl rfl rfl ?_
      intro cs w hcs H
      first | rw [setMany_whole rfl] at hcs | simp only [setMany, List.set_cons_zero, List.set_cons_succ, Nat.reduceAdd, Nat.zero_add, PS.cells, PS.over, GM.cells, Cmd.cells, List.cons_append, List.nil_append] at hcs
      subst hcs
      refine ⟨(fun h => (nomatch h)), ?_⟩
      refine re_nil ?_
      refine qe_thenC ?_
      refine ce_seq ?_
      refine ce_seq ?_
      refine ce_text (tab := []) (soft := 31) (.op 0 (.op 1 (.op 2 (.op 3 (.op 4 .nil))))) rfl rfl ?_
      have H := Own.arr [5, 3, 5, 5] H
      simp only [arrs, Fw.front, zm1, zm2, zm3, zm4, zm5] at H
      replace H := H.sub (.cons_cons _ (.cons_cons _ (.cons_cons _ (.cons_cons _ (.cons _ (.cons _ (.cons _ (List.Sublist.refl _))))))))
      refine re_move rfl rfl rfl rfl rfl ?_
      refine re_nilc rfl rfl rfl rfl rfl ?_
      first | refine re_field0 rfl rfl rfl rfl rfl fo_80_6 ?_ | refine re_field rfl rfl rfl rfl rfl fo_80_6 ?_ | refine re_fieldA rfl rfl rfl rfl rfl fo_80_6 ?_
      refine re_load H rfl rfl rfl rfl rfl sh_3 rfl ?_
      refine re_bin rfl rfl rfl rfl rfl rfl rfl ?_
      refine re_nil ?_
      refine qe_thenC ?_
      refine ce_cond rfl (fun h2 => ?_) (fun h2 => ?_)
      · try simp only [zn1, zn2, zn3, zn4, zn5, zn6] at h2
        refine ce_seq ?_
        refine ce_text (tab := []) (soft := 5) (.op 0 (.op 1 (.op 2 .nil))) rfl rfl ?_
        refine re_move rfl rfl rfl rfl rfl ?_
        refine re_call en_41 rfl rfl rfl rfl rfl ?_
        refine Calls.mono (wear_s H) ?_
        rintro e w ⟨rfl, H⟩
        refine ⟨_, rfl, (fun h => (nomatch h)), ?_⟩
        refine re_assign rfl rfl rfl rfl rfl ?_
        refine re_nil ?_
        refine qe_thenC ?_
        refine ce_ret ?_
        refine qe_then_ret ?_
        refine qe_endM rfl rfl H (i := 3) rfl ?_
        intro w H
        simp only [List.set_cons_zero, List.set_cons_succ] at H
        exact ⟨rfl, H.sub (.cons_cons _ (.cons_cons _ (.cons _ (.cons _ (List.Sublist.refl _)))))⟩
      · try simp only [zn1, zn2, zn3, zn4, zn5, zn6] at h2
        omega
    · try simp only [zn1, zn2, zn3, zn4, zn5, zn6] at h1
      have hch : p.chosen ms = p.mine := by rw [PS.chosen, if_neg (by omega)]
      refine ce_skip ?_
      refine qe_thenC ?_
      refine ce_seq ?_
      refine ce_seq ?_
      refine ce_text (tab := []) (soft := 31) (.op 0 (.op 1 (.op 2 (.op 3 (.op 4 .nil))))) rfl rfl ?_
      have H := Own.arr [5, 3, 5, 5] H
      simp only [arrs, Fw.front, zm1, zm2, zm3, zm4, zm5] at H
      replace H := H.sub (.cons_cons _ (.cons_cons _ (.cons_cons _ (.cons_cons _ (.cons _ (.cons _ (.cons _ (List.Sublist.refl _))))))))
      refine re_move rfl rfl rfl rfl rfl ?_
      refine re_nilc rfl rfl rfl rfl rfl ?_
      first | refine re_field0 rfl rfl rfl rfl rfl fo_80_6 ?_ | refine re_field rfl rfl rfl rfl rfl fo_80_6 ?_ | refine re_fieldA rfl rfl rfl rfl rfl fo_80_6 ?_
      refine re_load H rfl rfl rfl rfl rfl sh_3 rfl ?_
      refine re_bin rfl rfl rfl rfl rfl rfl rfl ?_
      refine re_nil ?_
      refine qe_thenC ?_
      refine ce_cond rfl (fun h2 => ?_) (fun h2 => ?_)
      · try simp only [zn1, zn2, zn3, zn4, zn5, zn6] at h2
        refine ce_seq ?_
        refine ce_text (tab := []) (soft := 5) (.op 0 (.op 1 (.op 2 .nil))) rfl rfl ?_
        refine re_move rfl rfl rfl rfl rfl ?_
        refine re_call en_41 rfl rfl rfl rfl rfl ?_
        refine Calls.mono (wear_s H) ?_
        rintro e w ⟨rfl, H⟩
        refine ⟨_, rfl, (fun h => (nomatch h)), ?_⟩
        refine re_assign rfl rfl rfl rfl rfl ?_
        refine re_nil ?_
        refine qe_thenC ?_
        refine ce_ret ?_
        refine qe_then_ret ?_
        refine qe_endM rfl rfl H (i := 3) rfl ?_
        intro w H
        simp only [List.set_cons_zero, List.set_cons_succ] at H
        exact ⟨rfl, H.sub (.cons_cons _ (.cons_cons _ (.cons _ (.cons _ (List.Sublist.refl _)))))⟩
      · try simp only [zn1, zn2, zn3, zn4, zn5, zn6] at h2
        omega

theorem accept_s {B w : World} {F : List Ent} {g : Nat} {p : PS} {qt qm qc : Nat} {qa : Option Nat} {ms : List (Int × GM)} (H : Own B (.cells g 80 p.cells :: .row p.ga p.gc 3 1 p.gs.length (ints p.gs) :: .cells qt 145 [slv qa p.gs.length qc, .int .i64 ((p.gs.length : Int) / 2 + 1), .map (some qm)] :: .row qa qc 3 1 p.gs.length (ints p.gs) :: .imap qm (kvM ms) :: F) w) (hn : p.gs.length ≤ 1000000) (hu : unlike p.gs = p.gs) (hw : p.rnd < 1099511627776) (hlo : -1 ≤ p.rnd) :
    Calls Try.prog 74 #[.pointer (some ⟨g, 0, none⟩), .pointer (some ⟨qt, 0, none⟩)] w fun e w' => ∃ ht ha hc hm qt qa qc qm a c, e = .returned (slv a (p.next.outA (p.chosen ms) p.gs).length c) ∧ Own B (.row a c 46 30 (p.next.outA (p.chosen ms) p.gs).length (msgs (p.next.outA (p.chosen ms) p.gs)) :: .cells g 80 (p.next.enter (phA qt (p.chosen ms)) ht).cells :: .row p.ga p.gc 3 1 p.gs.length (ints p.gs) :: .cells ht 109 [slv ha p.gs.length hc, .int .i64 ((p.gs.length : Int) + 1), .map (some hm)] :: .row ha hc 3 1 p.gs.length (ints p.gs) :: .imap hm (heardK []) :: .cells qt 145 [slv qa p.gs.length qc, .int .i64 ((p.gs.length : Int) / 2 + 1), .map (some qm)] :: .row qa qc 3 1 p.gs.length (ints p.gs) :: .imap qm (kvM []) :: F) w' := by
  refine calls_ceM (args := [.pointer (some ⟨g, 0, none⟩), .pointer (some ⟨qt, 0, none⟩)]) Try.func74 rfl rfl ?_
  change CE _ _ 61 _ _ [(0, .pointer (some ⟨g, 0, none⟩)), (1, .pointer (some ⟨qt, 0, none⟩))] _
  refine ce_seq ?_
  refine ce_text (tab := []) (soft := 1) (.op 0 .nil) rfl rfl ?_
  refine re_assign rfl rfl rfl rfl rfl ?_
  refine re_nil ?_
  refine qe_thenC ?_
  refine ce_seq ?_
  refine ce_text (tab := []) (soft := 0) (.op 0 .nil) rfl rfl ?_
  refine re_alloc H rfl rfl rfl rfl ze_62 ?_
  intro g5 w H
  refine ⟨(fun h => (nomatch h)), ?_⟩
  refine re_nil ?_
  refine qe_thenC ?_
  refine ce_seq ?_
  refine ce_seq ?_
  refine ce_text (tab := []) (soft := 1) (.op 0 (.op 1 .nil)) rfl rfl ?_
  refine re_move rfl rfl rfl rfl rfl ?_
  refine re_call en_83 rfl rfl rfl rfl rfl ?_
  have H := Own.arr [5, 5, 5] H
  simp only [arrs, Fw.front, zm1, zm2, zm3, zm4, zm5] at H
  refine Calls.mono (got_s H hn) ?_
  rintro e w ⟨s, q, sa, sc, ma, mc, rfl, H⟩
  refine ⟨_, rfl, (fun h => (nomatch h)), ?_⟩
  refine re_nil ?_
  refine qe_thenC ?_
  refine ce_block ?_
  have H := Own.arr [9, 9, 9, 6, 6, 6, 6] H
  simp only [arrs, Fw.front, zm1, zm2, zm3, zm4, zm5] at H
  replace H := H.sub (.cons_cons _ (.cons_cons _ (.cons_cons _ (.cons_cons _ (.cons_cons _ (.cons_cons _ (.cons_cons _ (.cons _ (.cons _ (.cons _ (List.Sublist.refl _)))))))))))
  replace H := H.nil_row 46 30
  have H := Own.arr [7, 7, 2, 7, 7, 7, 7, 7] H
  simp only [arrs, Fw.front, zm1, zm2, zm3, zm4, zm5] at H
  have hgl := gotL_length p.gs ms
  have eS : (gotS p.gs ms).length = (gotL p.gs ms).length := List.length_map ..
  have eM : (gotM p.gs ms).length = (gotL p.gs ms).length := List.length_map ..
  refine ce_rangeFunc H en_87 rfl ?_
  intro a0 l0 b0 r0 w hrel hr0 H
  refine Calls.mono (got1_s (B := B) (ss := gotS p.gs ms) (ms := gotM p.gs ms) (s := s) (q := q) (sa := sa) (ma := ma) (sc := sc) (mc := mc) (hss := by rw [eS, eM]) (hn := by omega) (l := l0) (I := fun j w => ∃ la lc, Own B (.loop l0 r0 :: .deferred b0 (some []) :: .cells s 31 [slv sa (gotL p.gs ms).length sc] :: .row sa sc 3 1 (gotL p.gs ms).length (ints (gotS p.gs ms)) :: .cells q 62 [slv ma (gotL p.gs ms).length mc] :: .row ma mc 46 30 (gotL p.gs ms).length (msgs (gotM p.gs ms)) :: .cells g5 62 [slv la (heldOf ((gotM p.gs ms).take j)).length lc] :: .row la lc 46 30 (heldOf ((gotM p.gs ms).take j)).length (msgs (heldOf ((gotM p.gs ms).take j))) :: .cells g 80 p.cells :: .row p.ga p.gc 3 1 p.gs.length (ints p.gs) :: F) w) ?_ ?_ ?_) ?_
  ·
    intro j w HI
    obtain ⟨la, lc, H⟩ := HI
    rw [eM]
    have H := Own.arr [1, 1, 5, 5, 5, 5] H
    simp only [arrs, Fw.front, zm1, zm2, zm3, zm4, zm5] at H
    exact ⟨_, H⟩
  ·
    intro j hj w HI
    obtain ⟨la, lc, H⟩ := HI
    refine round_of2 hr0 H (i := 0) rfl hrel rfl rfl ?_
    refine ci_text (tab := []) (soft := 0) (.op 0 (.op 1 .nil)) rfl rfl (by kernel_rfl) ?_
    refine re_alloc H rfl rfl rfl rfl ze_46 ?_
    intro g7 w H
    refine ⟨(fun h => (nomatch h)), ?_⟩
    refine re_store H rfl rfl rfl rfl rfl rfl sh_46 rfl rfl rfl ?_
    intro cs w hcs H
    first | rw [setMany_whole rfl] at hcs | simp only [setMany, List.set_cons_zero, List.set_cons_succ, Nat.reduceAdd, Nat.zero_add, PS.cells, PS.over, GM.cells, Cmd.cells, List.cons_append, List.nil_append] at hcs
    subst hcs
    refine ⟨(fun h => (nomatch h)), ?_⟩
    refine re_nil ?_
    have hhl := heldOf_length ((gotM p.gs ms).take j)
    have htl := List.length_take_le j (gotM p.gs ms)
    refine qe_begin H (i := 1) rfl hr0.state ?_
    intro w H
    simp only [List.set_cons_zero, List.set_cons_succ] at H
    refine ci_block ?_
    refine ci_seq ?_
    refine ci_text (tab := []) (soft := 7) (.op 0 (.op 1 (.op 2 (.op 3 .nil)))) rfl rfl (by kernel_rfl) ?_
    refine re_build rfl rfl rfl rfl rfl ze_38 pl_38 (by simp only [fillL, setMany, Value.cells, List.getElem?_cons_zero, List.getElem?_cons_succ, List.length_cons, List.length_nil, List.set_cons_zero, List.set_cons_succ, Nat.reduceAdd, Nat.reduceLeDiff, Nat.zero_add, and_self, ↓reduceIte]; rfl) ?_
    first | refine re_field0 rfl rfl rfl rfl rfl fo_46_7 ?_ | refine re_field rfl rfl rfl rfl rfl fo_46_7 ?_ | refine re_fieldA rfl rfl rfl rfl rfl fo_46_7 ?_
    refine re_load H rfl rfl rfl rfl rfl sh_38 (by first | exact rdAt_all rfl | (simp only [rdAt, PS.cells, PS.over, GM.cells, Cmd.cells, List.cons_append, List.nil_append, List.drop_succ_cons, List.drop_zero, List.take_succ_cons, List.take_zero, List.length_cons, List.length_nil, Nat.zero_add, Nat.reduceAdd, Nat.reduceLeDiff, Nat.le_refl, ↓reduceIte] <;> rfl)) ?_
    refine re_call en_84 rfl rfl rfl rfl rfl ?_
    refine Calls.mono (less_s (a0 := 0) (a1 := 0) H) ?_
    rintro e w ⟨rfl, H⟩
    refine ⟨_, rfl, (fun h => (nomatch h)), ?_⟩
    refine re_nil ?_
    refine qe_thenI ?_
    refine ci_cond rfl (fun h0 => ?_) (fun h0 => ?_)
    · try simp only [zn1, zn2, zn3, zn4, zn5, zn6] at h0
      refine ci_text (tab := []) (soft := 3) (.op 0 (.op 1 (.op 2 (.op 3 (.op 4 .nil))))) rfl rfl (by kernel_rfl) ?_
      refine re_load H rfl rfl rfl rfl rfl sh_62 rfl ?_
      refine re_load H rfl rfl rfl rfl rfl sh_46 (by first | exact rdAt_all rfl | (simp only [rdAt, PS.cells, PS.over, GM.cells, Cmd.cells, List.cons_append, List.nil_append, List.drop_succ_cons, List.drop_zero, List.take_succ_cons, List.take_zero, List.length_cons, List.length_nil, Nat.zero_add, Nat.reduceAdd, Nat.reduceLeDiff, Nat.le_refl, ↓reduceIte] <;> rfl)) ?_
      refine re_slice1 H rfl rfl rfl rfl rfl rfl ul_62 ei_62 ze_46 rfl rfl rfl (by decide) ?_
      intro g21 w H
      refine ⟨(fun h => (nomatch h)), ?_⟩
      refine re_append H rfl rfl rfl rfl rfl rfl ul_62 ei_62 ze_46 rfl (by decide) (src_cells H rfl) rfl (by omega) (by simp only [maxLen]; omega) ?_
      intro a1 c1 w H _
      simp only [List.set_cons_zero, List.set_cons_succ] at H
      refine ⟨(fun h => (nomatch h)), ?_⟩
      refine re_store H rfl rfl rfl rfl rfl rfl sh_62 rfl rfl rfl ?_
      intro cs w hcs H
      first | rw [setMany_whole rfl] at hcs | simp only [setMany, List.set_cons_zero, List.set_cons_succ, Nat.reduceAdd, Nat.zero_add, PS.cells, PS.over, GM.cells, Cmd.cells, List.cons_append, List.nil_append] at hcs
      subst hcs
      refine ⟨(fun h => (nomatch h)), ?_⟩
      refine re_nil ?_
      refine qe_block_norm ?_
      refine qe_endRound hr0 H (i := 2) rfl ?_
      intro w H
      simp only [List.set_cons_zero, List.set_cons_succ] at H
      have e := heldOf_new hj (by simpa using h0)
      refine ⟨rfl, a1, c1, ?_⟩
      rw [e, List.length_append, msgs_snoc]
      exact H.drop 2
    · try simp only [zn1, zn2, zn3, zn4, zn5, zn6] at h0
      refine ci_skip ?_
      refine qe_block_norm ?_
      refine qe_endRound hr0 H (i := 1) rfl ?_
      intro w H
      simp only [List.set_cons_zero, List.set_cons_succ] at H
      refine ⟨rfl, la, lc, ?_⟩
      rw [heldOf_old hj (by simpa using h0)]
      exact H.tail
  ·
    exact ⟨none, 0, H⟩
  ·
    rintro e w ⟨rfl, HI⟩
    obtain ⟨la, lc, H⟩ := HI
    refine ⟨_, 0, _, rfl, H, rfl, ?_⟩
    intro w H
    simp only [List.set_cons_zero, List.set_cons_succ] at H
    have H := Own.arr [7, 7, 3, 9, 9] H
    simp only [arrs, Fw.front, zm1, zm2, zm3, zm4, zm5] at H
    replace H := H.sub (.cons_cons _ (.cons_cons _ (.cons_cons _ (.cons_cons _ (.cons_cons _ (.cons _ (.cons _ (.cons _ (.cons _ (.cons _ (List.Sublist.refl _)))))))))))
    rw [List.take_length] at H
    have hhl := heldOf_length (gotM p.gs ms)
    refine qe_block_norm ?_
    refine qe_thenC ?_
    refine ce_seq ?_
    refine ce_text (tab := []) (soft := 15) (.op 0 (.op 1 (.op 2 (.op 3 (.op 4 (.op 5 .nil)))))) rfl rfl ?_
    refine re_move rfl rfl rfl rfl rfl ?_
    refine re_nilc rfl rfl rfl rfl rfl ?_
    first | refine re_field0 rfl rfl rfl rfl rfl fo_80_4 ?_ | refine re_field rfl rfl rfl rfl rfl fo_80_4 ?_ | refine re_fieldA rfl rfl rfl rfl rfl fo_80_4 ?_
    refine re_load H rfl rfl rfl rfl rfl sh_28 (by first | exact rdAt_all rfl | (simp only [rdAt, PS.cells, PS.over, GM.cells, Cmd.cells, List.cons_append, List.nil_append, List.drop_succ_cons, List.drop_zero, List.take_succ_cons, List.take_zero, List.length_cons, List.length_nil, Nat.zero_add, Nat.reduceAdd, Nat.reduceLeDiff, Nat.le_refl, ↓reduceIte] <;> rfl)) ?_
    refine re_alloc H rfl rfl rfl rfl ze_28 ?_
    intro g8 w H
    refine ⟨(fun h => (nomatch h)), ?_⟩
    refine re_store H rfl rfl rfl rfl rfl rfl sh_28 rfl rfl rfl ?_
    intro cs w hcs H
    first | rw [setMany_whole rfl] at hcs | simp only [setMany, List.set_cons_zero, List.set_cons_succ, Nat.reduceAdd, Nat.zero_add, PS.cells, PS.over, GM.cells, Cmd.cells, List.cons_append, List.nil_append] at hcs
    subst hcs
    refine ⟨(fun h => (nomatch h)), ?_⟩
    refine re_nil ?_
    refine qe_thenC ?_
    refine ce_seq ?_
    refine ce_seq ?_
    refine ce_text (tab := []) (soft := 157) (.op 0 (.op 1 (.op 2 (.op 3 (.op 4 (.op 5 (.op 6 (.op 7 .nil)))))))) rfl rfl ?_
    refine re_load H rfl rfl rfl rfl rfl sh_62 rfl ?_
    refine re_call en_85 rfl rfl rfl rfl rfl ?_
    have H := H.front 5
    simp only [arrs, Fw.front, zm1, zm2, zm3, zm4, zm5] at H
    refine Calls.mono (best_s H (by omega)) ?_
    rintro e w ⟨rfl, H⟩
    refine ⟨_, rfl, (fun h => (nomatch h)), ?_⟩
    refine re_move rfl rfl rfl rfl rfl ?_
    refine re_extract rfl rfl rfl rfl rfl rfl ?_
    refine re_extract rfl rfl rfl rfl rfl rfl ?_
    refine re_alloc H rfl rfl rfl rfl ze_46 ?_
    intro g9 w H
    refine ⟨(fun h => (nomatch h)), ?_⟩
    refine re_store H rfl rfl rfl rfl rfl rfl sh_46 rfl rfl rfl ?_
    intro cs w hcs H
    first | rw [setMany_whole rfl] at hcs | simp only [setMany, List.set_cons_zero, List.set_cons_succ, Nat.reduceAdd, Nat.zero_add, PS.cells, PS.over, GM.cells, Cmd.cells, List.cons_append, List.nil_append] at hcs
    subst hcs
    refine ⟨(fun h => (nomatch h)), ?_⟩
    refine re_assign rfl rfl rfl rfl rfl ?_
    refine re_nil ?_
    refine qe_thenC ?_
    refine ce_seq ?_
    refine ce_text (tab := []) (soft := 1) (.op 0 .nil) rfl rfl ?_
    refine re_move rfl rfl rfl rfl rfl ?_
    refine re_nil ?_
    refine qe_thenC ?_
    refine ce_cond rfl (fun h1 => ?_) (fun h1 => ?_)
    · try simp only [zn1, zn2, zn3, zn4, zn5, zn6] at h1
      have hch : p.chosen ms = (bestV (heldOf (gotM p.gs ms))).cmd := by rw [PS.chosen, if_pos (by omega)]
      refine ce_text (tab := []) (soft := 3) (.op 0 (.op 1 (.op 2 .nil))) rfl rfl ?_
      first | refine re_field0 rfl rfl rfl rfl rfl fo_46_9 ?_ | refine re_field rfl rfl rfl rfl rfl fo_46_9 ?_ | refine re_fieldA rfl rfl rfl rfl rfl fo_46_9 ?_
      refine re_load H rfl rfl rfl rfl rfl sh_28 (by first | exact rdAt_all rfl | (simp only [rdAt, PS.cells, PS.over, GM.cells, Cmd.cells, List.cons_append, List.nil_append, List.drop_succ_cons, List.drop_zero, List.take_succ_cons, List.take_zero, List.length_cons, List.length_nil, Nat.zero_add, Nat.reduceAdd, Nat.reduceLeDiff, Nat.le_refl, ↓reduceIte] <;> rfl)) ?_
      refine re_store H rfl rfl rfl rfl rfl rfl sh_28 rfl rfl rfl ?_
      intro cs w hcs H
      first | rw [setMany_whole rfl] at hcs | simp only [setMany, List.set_cons_zero, List.set_cons_succ, Nat.reduceAdd, Nat.zero_add, PS.cells, PS.over, GM.cells, Cmd.cells, List.cons_append, List.nil_append] at hcs
      subst hcs
      refine ⟨(fun h => (nomatch h)), ?_⟩
      refine re_nil ?_
      refine qe_thenC ?_
      refine ce_seq ?_
      refine ce_seq ?_
      refine ce_text (tab := []) (soft := 31) (.op 0 (.op 1 (.op 2 (.op 3 (.op 4 .nil))))) rfl rfl ?_
      have H := Own.arr [5, 3, 5, 5] H
      simp only [arrs, Fw.front, zm1, zm2, zm3, zm4, zm5] at H
      replace H := H.sub (.cons_cons _ (.cons_cons _ (.cons_cons _ (.cons_cons _ (.cons _ (.cons _ (.cons _ (List.Sublist.refl _))))))))
      refine re_move rfl rfl rfl rfl rfl ?_
      refine re_nilc rfl rfl rfl rfl rfl ?_
      first | refine re_field0 rfl rfl rfl rfl rfl fo_80_6 ?_ | refine re_field rfl rfl rfl rfl rfl fo_80_6 ?_ | refine re_fieldA rfl rfl rfl rfl rfl fo_80_6 ?_
      refine re_load H rfl rfl rfl rfl rfl sh_3 rfl ?_
      refine re_bin rfl rfl rfl rfl rfl rfl rfl ?_
      refine re_nil ?_
      refine qe_thenC ?_
      refine ce_cond rfl (fun h2 => ?_) (fun h2 => ?_)
      · try simp only [zn1, zn2, zn3, zn4, zn5, zn6] at h2
        omega
      · try simp only [zn1, zn2, zn3, zn4, zn5, zn6] at h2
        refine ce_skip ?_
        refine qe_thenC ?_
        refine ce_seq ?_
        refine ce_text (tab := []) (soft := 127) (.op 0 (.op 1 (.op 2 (.op 3 (.op 4 (.op 5 (.op 6 (.op 7 .nil)))))))) rfl rfl ?_
        refine re_move rfl rfl rfl rfl rfl ?_
        refine re_nilc rfl rfl rfl rfl rfl ?_
        first | refine re_field0 rfl rfl rfl rfl rfl fo_80_6 ?_ | refine re_field rfl rfl rfl rfl rfl fo_80_6 ?_ | refine re_fieldA rfl rfl rfl rfl rfl fo_80_6 ?_
        refine re_load H rfl rfl rfl rfl rfl sh_3 rfl ?_
        first | refine re_add rfl rfl rfl rfl rfl rfl (by omega) ?_ | refine re_bin rfl rfl rfl rfl rfl rfl rfl ?_
        refine re_nilc rfl rfl rfl rfl rfl ?_
        first | refine re_field0 rfl rfl rfl rfl rfl fo_80_6 ?_ | refine re_field rfl rfl rfl rfl rfl fo_80_6 ?_ | refine re_fieldA rfl rfl rfl rfl rfl fo_80_6 ?_
        refine re_store H rfl rfl rfl rfl rfl rfl sh_3 rfl rfl rfl ?_
        intro cs w hcs H
        first | rw [setMany_whole rfl] at hcs | simp only [setMany, List.set_cons_zero, List.set_cons_succ, Nat.reduceAdd, Nat.zero_add, PS.cells, PS.over, GM.cells, Cmd.cells, List.cons_append, List.nil_append] at hcs
        subst hcs
        refine ⟨(fun h => (nomatch h)), ?_⟩
        refine re_nil ?_
        refine qe_thenC ?_
        refine ce_seq ?_
        refine ce_open (tab := [0, 0, 2, 6, 14, 0, 32, 126, 0, 510, 1022, 2047, 4095]) (soft := 5951) mixed (.op 0 (.op 1 (.op 2 (.op 3 (.op 4 (.op 5 (.op 8 (.op 6 (.op 7 (.op 9 (.op 10 (.op 11 (.op 12 .nil))))))))))))) (by kernel_rfl) H ?_
        intro w H
        refine re_move rfl rfl rfl rfl rfl ?_
        refine re_move rfl rfl rfl rfl rfl ?_
        refine re_nilc rfl rfl rfl rfl rfl ?_
        first | refine re_field0 rfl rfl rfl rfl rfl fo_80_3 ?_ | refine re_field rfl rfl rfl rfl rfl fo_80_3 ?_ | refine re_fieldA rfl rfl rfl rfl rfl fo_80_3 ?_
        refine re_load H rfl rfl rfl rfl rfl sh_31 rfl ?_
        refine re_move rfl rfl rfl rfl rfl ?_
        refine re_load H rfl rfl rfl rfl rfl sh_28 (by first | exact rdAt_all rfl | (simp only [rdAt, PS.cells, PS.over, GM.cells, Cmd.cells, List.cons_append, List.nil_append, List.drop_succ_cons, List.drop_zero, List.take_succ_cons, List.take_zero, List.length_cons, List.length_nil, Nat.zero_add, Nat.reduceAdd, Nat.reduceLeDiff, Nat.le_refl, ↓reduceIte] <;> rfl)) ?_
        refine re_call en_70 rfl rfl rfl rfl rfl ?_
        refine Calls.mono (need_s (p := p.next) H hn) ?_
        rintro e w ⟨rfl, H⟩
        refine ⟨_, rfl, (fun _ => ⟨fun _ => still_load H sh_28 (by first | exact rdAt_all rfl | (simp only [rdAt, PS.cells, PS.over, GM.cells, Cmd.cells, List.cons_append, List.nil_append, List.drop_succ_cons, List.drop_zero, List.take_succ_cons, List.take_zero, List.length_cons, List.length_nil, Nat.zero_add, Nat.reduceAdd, Nat.reduceLeDiff, Nat.le_refl, ↓reduceIte] <;> rfl)), fun _ => still_load H sh_31 rfl, trivial⟩), ?_⟩
        refine re_call en_69 rfl rfl rfl rfl rfl ?_
        refine Calls.mono (tnewM (H.rsees p.ga) H hn) ?_
        rintro e w ⟨qt, qa, qc, qm, rfl, H⟩
        rw [hu] at H
        have H := H.front 4
        have H := H.front 4
        simp only [arrs, Fw.front, zm1, zm2, zm3, zm4, zm5] at H
        refine ⟨_, rfl, (fun _ => ⟨fun _ => still_load H sh_28 (by first | exact rdAt_all rfl | (simp only [rdAt, PS.cells, PS.over, GM.cells, Cmd.cells, List.cons_append, List.nil_append, List.drop_succ_cons, List.drop_zero, List.take_succ_cons, List.take_zero, List.length_cons, List.length_nil, Nat.zero_add, Nat.reduceAdd, Nat.reduceLeDiff, Nat.le_refl, ↓reduceIte] <;> rfl)), ancs (i := 7) (j := 4) rfl, trivial⟩), ?_⟩
        refine re_build rfl rfl rfl rfl rfl ze_137 pl_137 (by simp only [fillL, setMany, Value.cells, List.getElem?_cons_zero, List.getElem?_cons_succ, List.length_cons, List.length_nil, List.set_cons_zero, List.set_cons_succ, Nat.reduceAdd, Nat.reduceLeDiff, Nat.zero_add, and_self, ↓reduceIte]; rfl) ?_
        refine re_iface rfl rfl rfl rfl rfl nif_137 ?_
        refine re_call en_68 rfl rfl rfl rfl rfl ?_
        refine Calls.mono (enterA (p := p.next) (q := qt) (cm := (bestV (heldOf (gotM p.gs ms))).cmd) H hn hu) ?_
        rintro e w ⟨ht, ha, hc, hm, a, c, rfl, H⟩
        refine ⟨_, rfl, (fun _ => ⟨ancs (i := 11) (j := 8) rfl, ancs (i := 11) (j := 4) rfl, trivial⟩), ?_⟩
        refine re_assign rfl rfl rfl rfl rfl ?_
        refine re_nil ?_
        refine qe_noPanic ?_
        refine qe_thenC ?_
        refine ce_ret ?_
        refine qe_endM rfl rfl H (i := 10) rfl ?_
        intro w H
        simp only [List.set_cons_zero, List.set_cons_succ] at H
        rw [hch]
        refine ⟨ht, ha, hc, hm, qt, qa, qc, qm, a, c, rfl, ?_⟩
        exact H.sub (.cons_cons _ (.cons_cons _ (.cons_cons _ (.cons_cons _ (.cons_cons _ (.cons_cons _ (.cons_cons _ (.cons_cons _ (.cons_cons _ (.cons _ (.cons _ (List.Sublist.refl _))))))))))))
    · try simp only [zn1, zn2, zn3, zn4, zn5, zn6] at h1
      have hch : p.chosen ms = p.mine := by rw [PS.chosen, if_neg (by omega)]
      refine ce_skip ?_
      refine qe_thenC ?_
      refine ce_seq ?_
      refine ce_seq ?_
      refine ce_text (tab := []) (soft := 31) (.op 0 (.op 1 (.op 2 (.op 3 (.op 4 .nil))))) rfl rfl ?_
      have H := Own.arr [5, 3, 5, 5] H
      simp only [arrs, Fw.front, zm1, zm2, zm3, zm4, zm5] at H
      replace H := H.sub (.cons_cons _ (.cons_cons _ (.cons_cons _ (.cons_cons _ (.cons _ (.cons _ (.cons _ (List.Sublist.refl _))))))))
      refine re_move rfl rfl rfl rfl rfl ?_
      refine re_nilc rfl rfl rfl rfl rfl ?_
      first | refine re_field0 rfl rfl rfl rfl rfl fo_80_6 ?_ | refine re_field rfl rfl rfl rfl rfl fo_80_6 ?_ | refine re_fieldA rfl rfl rfl rfl rfl fo_80_6 ?_
      refine re_load H rfl rfl rfl rfl rfl sh_3 rfl ?_
      refine re_bin rfl rfl rfl rfl rfl rfl rfl ?_
      refine re_nil ?_
      refine qe_thenC ?_
      refine ce_cond rfl (fun h2 => ?_) (fun h2 => ?_)
      · try simp only [zn1, zn2, zn3, zn4, zn5, zn6] at h2
        omega
      · try simp only [zn1, zn2, zn3, zn4, zn5, zn6] at h2
        refine ce_skip ?_
        refine qe_thenC ?_
        refine ce_seq ?_
        refine ce_text (tab := []) (soft := 127) (.op 0 (.op 1 (.op 2 (.op 3 (.op 4 (.op 5 (.op 6 (.op 7 .nil)))))))) rfl rfl ?_
        refine re_move rfl rfl rfl rfl rfl ?_
        refine re_nilc rfl rfl rfl rfl rfl ?_
        first | refine re_field0 rfl rfl rfl rfl rfl fo_80_6 ?_ | refine re_field rfl rfl rfl rfl rfl fo_80_6 ?_ | refine re_fieldA rfl rfl rfl rfl rfl fo_80_6 ?_
        refine re_load H rfl rfl rfl rfl rfl sh_3 rfl ?_
        first | refine re_add rfl rfl rfl rfl rfl rfl (by omega) ?_ | refine re_bin rfl rfl rfl rfl rfl rfl rfl ?_
        refine re_nilc rfl rfl rfl rfl rfl ?_
        first | refine re_field0 rfl rfl rfl rfl rfl fo_80_6 ?_ | refine re_field rfl rfl rfl rfl rfl fo_80_6 ?_ | refine re_fieldA rfl rfl rfl rfl rfl fo_80_6 ?_
        refine re_store H rfl rfl rfl rfl rfl rfl sh_3 rfl rfl rfl ?_
        intro cs w hcs H
        first | rw [setMany_whole rfl] at hcs | simp only [setMany, List.set_cons_zero, List.set_cons_succ, Nat.reduceAdd, Nat.zero_add, PS.cells, PS.over, GM.cells, Cmd.cells, List.cons_append, List.nil_append] at hcs
        subst hcs
        refine ⟨(fun h => (nomatch h)), ?_⟩
        refine re_nil ?_
        refine qe_thenC ?_
        refine ce_seq ?_
        refine ce_open (tab := [0, 0, 2, 6, 14, 0, 32, 126, 0, 510, 1022, 2047, 4095]) (soft := 5951) mixed (.op 0 (.op 1 (.op 2 (.op 3 (.op 4 (.op 5 (.op 8 (.op 6 (.op 7 (.op 9 (.op 10 (.op 11 (.op 12 .nil))))))))))))) (by kernel_rfl) H ?_
        intro w H
        refine re_move rfl rfl rfl rfl rfl ?_
        refine re_move rfl rfl rfl rfl rfl ?_
        refine re_nilc rfl rfl rfl rfl rfl ?_
        first | refine re_field0 rfl rfl rfl rfl rfl fo_80_3 ?_ | refine re_field rfl rfl rfl rfl rfl fo_80_3 ?_ | refine re_fieldA rfl rfl rfl rfl rfl fo_80_3 ?_
        refine re_load H rfl rfl rfl rfl rfl sh_31 rfl ?_
        refine re_move rfl rfl rfl rfl rfl ?_
        refine re_load H rfl rfl rfl rfl rfl sh_28 (by first | exact rdAt_all rfl | (simp only [rdAt, PS.cells, PS.over, GM.cells, Cmd.cells, List.cons_append, List.nil_append, List.drop_succ_cons, List.drop_zero, List.take_succ_cons, List.take_zero, List.length_cons, List.length_nil, Nat.zero_add, Nat.reduceAdd, Nat.reduceLeDiff, Nat.le_refl, ↓reduceIte] <;> rfl)) ?_
        refine re_call en_70 rfl rfl rfl rfl rfl ?_
        refine Calls.mono (need_s (p := p.next) H hn) ?_
        rintro e w ⟨rfl, H⟩
        refine ⟨_, rfl, (fun _ => ⟨fun _ => still_load H sh_28 (by first | exact rdAt_all rfl | (simp only [rdAt, PS.cells, PS.over, GM.cells, Cmd.cells, List.cons_append, List.nil_append, List.drop_succ_cons, List.drop_zero, List.take_succ_cons, List.take_zero, List.length_cons, List.length_nil, Nat.zero_add, Nat.reduceAdd, Nat.reduceLeDiff, Nat.le_refl, ↓reduceIte] <;> rfl)), fun _ => still_load H sh_31 rfl, trivial⟩), ?_⟩
        refine re_call en_69 rfl rfl rfl rfl rfl ?_
        refine Calls.mono (tnewM (H.rsees p.ga) H hn) ?_
        rintro e w ⟨qt, qa, qc, qm, rfl, H⟩
        rw [hu] at H
        have H := H.front 4
        have H := H.front 4
        simp only [arrs, Fw.front, zm1, zm2, zm3, zm4, zm5] at H
        refine ⟨_, rfl, (fun _ => ⟨fun _ => still_load H sh_28 (by first | exact rdAt_all rfl | (simp only [rdAt, PS.cells, PS.over, GM.cells, Cmd.cells, List.cons_append, List.nil_append, List.drop_succ_cons, List.drop_zero, List.take_succ_cons, List.take_zero, List.length_cons, List.length_nil, Nat.zero_add, Nat.reduceAdd, Nat.reduceLeDiff, Nat.le_refl, ↓reduceIte] <;> rfl)), ancs (i := 7) (j := 4) rfl, trivial⟩), ?_⟩
        refine re_build rfl rfl rfl rfl rfl ze_137 pl_137 (by simp only [fillL, setMany, Value.cells, List.getElem?_cons_zero, List.getElem?_cons_succ, List.length_cons, List.length_nil, List.set_cons_zero, List.set_cons_succ, Nat.reduceAdd, Nat.reduceLeDiff, Nat.zero_add, and_self, ↓reduceIte]; rfl) ?_
        refine re_iface rfl rfl rfl rfl rfl nif_137 ?_
        refine re_call en_68 rfl rfl rfl rfl rfl ?_
        refine Calls.mono (enterA (p := p.next) (q := qt) (cm := p.mine) H hn hu) ?_
        rintro e w ⟨ht, ha, hc, hm, a, c, rfl, H⟩
        refine ⟨_, rfl, (fun _ => ⟨ancs (i := 11) (j := 8) rfl, ancs (i := 11) (j := 4) rfl, trivial⟩), ?_⟩
        refine re_assign rfl rfl rfl rfl rfl ?_
        refine re_nil ?_
        refine qe_noPanic ?_
        refine qe_thenC ?_
        refine ce_ret ?_
        refine qe_endM rfl rfl H (i := 10) rfl ?_
        intro w H
        simp only [List.set_cons_zero, List.set_cons_succ] at H
        rw [hch]
        refine ⟨ht, ha, hc, hm, qt, qa, qc, qm, a, c, rfl, ?_⟩
        exact H.sub (.cons_cons _ (.cons_cons _ (.cons_cons _ (.cons_cons _ (.cons_cons _ (.cons_cons _ (.cons_cons _ (.cons_cons _ (.cons_cons _ (.cons _ (.cons _ (List.Sublist.refl _))))))))))))
end Go.Proofs.Ytofaoblfemfkiaa

namespace Go.Proofs.Ytofaoblfemfkiaa
open Go Go.RowKit Go.Fw
set_option linter.unusedSimpArgs false
set_option linter.unusedVariables false
set_option maxRecDepth 4000
set_option maxHeartbeats 2000000
theorem en_44 : Enterable Try.prog 44 := ⟨Try.f44, Try.func44, rfl, by decide⟩
theorem en_48 : Enterable Try.prog 48 := ⟨Try.f48, Try.func48, rfl, by decide⟩
theorem en_73 : Enterable Try.prog 73 := ⟨Try.f73, Try.func73, rfl, by decide⟩
theorem en_74 : Enterable Try.prog 74 := ⟨Try.f74, Try.func74, rfl, by decide⟩
theorem fk_38 : flatK Try.prog 9 38 = some [.i, .i] := by kernel_rfl
theorem fo_131_0 : fOff Try.prog 131 0 = some 0 := by kernel_rfl
theorem fo_137_0 : fOff Try.prog 137 0 = some 0 := by kernel_rfl
theorem fo_46_0 : fOff Try.prog 46 0 = some 0 := by kernel_rfl
theorem fo_46_6 : fOff Try.prog 46 6 = some 11 := by kernel_rfl
theorem ng_38 : notGuarded Try.prog 38 = true := by kernel_rfl
theorem sh_128 : shapeOf Try.prog 128 = some (false, 1) := by kernel_rfl
theorem sh_131 : shapeOf Try.prog 131 = some (true, 1) := by kernel_rfl
theorem sh_137 : shapeOf Try.prog 137 = some (true, 10) := by kernel_rfl
theorem zv_131 : zeroV Try.prog 131 = some (.agg #[.pointer none]) := by kernel_rfl

/-- Is the stamp the proposer's? -/
def PS.own (p : PS) (m : GM) : Bool := decide (m.s0 = p.bal) && (decide (m.s1 = p.cl) && true)
def PS.needs (p : PS) : Int := (p.gs.length : Int) / 2 + 1
def PS.counts (p : PS) (ms : List (Int × GM)) (v : Int) : Bool := Ytofaoblfemfkiaa.counts p.gs ((p.gs.length : Int) / 2 + 1) (kvM ms) v
def PS.took (p : PS) (ms : List (Int × GM)) (v : Int) (m : GM) : List (Int × GM) := if p.counts ms v then ms ++ [(v, m)] else ms
def PS.takes (p : PS) (ms : List (Int × GM)) (v : Int) (m : GM) : Bool := Ytofaoblfemfkiaa.takes p.gs ((p.gs.length : Int) / 2 + 1) (kvM ms) v (.agg m.cells.toArray)
theorem took_eq (p : PS) (ms : List (Int × GM)) (v : Int) (m : GM) : takeK p.gs ((p.gs.length : Int) / 2 + 1) (kvM ms) v (.agg m.cells.toArray) = kvM (p.took ms v m) := by
  unfold takeK PS.took PS.counts
  split
  · simp [kvM]
  · rfl
def GM.learned (c : Cmd) : GM := { GM.zero with kind := 5, cmd := c }
def PS.outL (p : PS) (c : Cmd) (xs : List Int) : List GM := xs.map ((GM.learned c).sent p)
def PS.heard (p : PS) (t : Nat) : PS := { p with hd := .pointer (some ⟨t, 0, none⟩) }

theorem count_foreign {B w : World} {F : List Ent} {g : Nat} {p : PS} {m : GM} (H : Own B (.cells g 80 p.cells :: F) w) (hn : p.gs.length ≤ 1000000) (hst : p.own m = false) :
    Calls Try.prog 49 #[.pointer (some ⟨g, 0, none⟩), .agg m.cells.toArray] w fun e w' => e = .returned (slv none 0 0) ∧ Own B (.cells g 80 p.cells :: F) w' := by
  refine calls_ce (args := [.pointer (some ⟨g, 0, none⟩), .agg m.cells.toArray]) Try.func49 rfl rfl ?_
  change CE _ _ 73 _ _ [(0, .pointer (some ⟨g, 0, none⟩)), (1, .agg m.cells.toArray)] _
  refine ce_seq ?_
  refine ce_text (tab := []) (soft := 2) (.op 0 (.op 1 .nil)) rfl rfl ?_
  refine re_box H rfl rfl rfl rfl rfl rfl ?_
  intro g3 w H
  refine ⟨(fun h => (nomatch h)), ?_⟩
  refine re_assign rfl rfl rfl rfl rfl ?_
  refine re_nil ?_
  refine qe_thenC ?_
  refine ce_seq ?_
  refine ce_seq ?_
  refine ce_open (tab := [0, 1, 0, 4, 15]) (soft := 23) mixed (.op 0 (.op 1 (.op 2 (.op 3 (.op 4 .nil))))) (by kernel_rfl) H ?_
  intro w H
  first | refine re_field0 rfl rfl rfl rfl rfl fo_46_6 ?_ | refine re_field rfl rfl rfl rfl rfl fo_46_6 ?_ | refine re_fieldA rfl rfl rfl rfl rfl fo_46_6 ?_
  refine re_load H rfl rfl rfl rfl rfl sh_38 (by first | exact rdAt_all rfl | (simp only [rdAt, PS.cells, PS.over, GM.cells, Cmd.cells, List.cons_append, List.nil_append, List.drop_succ_cons, List.drop_zero, List.take_succ_cons, List.take_zero, List.length_cons, List.length_nil, Nat.zero_add, Nat.reduceAdd, Nat.reduceLeDiff, Nat.le_refl, ↓reduceIte] <;> rfl)) ?_
  refine re_move rfl rfl rfl rfl rfl ?_
  refine re_call en_72 rfl rfl rfl rfl rfl ?_
  have H := H.front 1
  simp only [arrs, Fw.front, zm1, zm2, zm3, zm4, zm5] at H
  refine Calls.mono (stamp_s H) ?_
  rintro e w ⟨rfl, H⟩
  refine ⟨_, rfl, (fun _ => ⟨fun _ => still_load H sh_38 (by first | exact rdAt_all rfl | (simp only [rdAt, PS.cells, PS.over, GM.cells, Cmd.cells, List.cons_append, List.nil_append, List.drop_succ_cons, List.drop_zero, List.take_succ_cons, List.take_zero, List.length_cons, List.length_nil, Nat.zero_add, Nat.reduceAdd, Nat.reduceLeDiff, Nat.le_refl, ↓reduceIte] <;> rfl)), trivial⟩), ?_⟩
  refine re_neAgg rfl rfl rfl rfl rfl rfl fk_38 sh_38 ng_38 (by simp only [eqKs, eqK, ↓reduceIte]; rfl) ?_
  refine re_nil ?_
  refine qe_noPanic ?_
  refine qe_thenC ?_
  refine ce_cond rfl (fun h0 => ?_) (fun h0 => ?_)
  · try simp only [zn1, zn2, zn3, zn4, zn5, zn6] at h0
    refine ce_seq ?_
    refine ce_text (tab := []) (soft := 1) (.op 0 .nil) rfl rfl ?_
    refine re_assign rfl rfl rfl rfl rfl ?_
    refine re_nil ?_
    refine qe_thenC ?_
    refine ce_ret ?_
    refine qe_then_ret ?_
    refine qe_end rfl rfl ?_
    exact ⟨rfl, H.sub (.cons_cons _ (.cons _ (List.Sublist.refl _)))⟩
  · try simp only [zn1, zn2, zn3, zn4, zn5, zn6] at h0
    exact absurd ((show p.own m = true from h0).symm.trans hst) (by simp)

theorem count_otherP {B w : World} {F : List Ent} {g : Nat} {p : PS} {m : GM} {q : Nat} (H : Own B (.cells g 80 p.cells :: F) w) (hn : p.gs.length ≤ 1000000) (hi : p.ph = phP q) (hkd : m.kind ≠ 13) (hst : p.own m = true) :
    Calls Try.prog 49 #[.pointer (some ⟨g, 0, none⟩), .agg m.cells.toArray] w fun e w' => e = .returned (slv none 0 0) ∧ Own B (.cells g 80 p.cells :: F) w' := by
  refine calls_ce (args := [.pointer (some ⟨g, 0, none⟩), .agg m.cells.toArray]) Try.func49 rfl rfl ?_
  change CE _ _ 73 _ _ [(0, .pointer (some ⟨g, 0, none⟩)), (1, .agg m.cells.toArray)] _
  refine ce_seq ?_
  refine ce_text (tab := []) (soft := 2) (.op 0 (.op 1 .nil)) rfl rfl ?_
  refine re_box H rfl rfl rfl rfl rfl rfl ?_
  intro g3 w H
  refine ⟨(fun h => (nomatch h)), ?_⟩
  refine re_assign rfl rfl rfl rfl rfl ?_
  refine re_nil ?_
  refine qe_thenC ?_
  refine ce_seq ?_
  refine ce_seq ?_
  refine ce_open (tab := [0, 1, 0, 4, 15]) (soft := 23) mixed (.op 0 (.op 1 (.op 2 (.op 3 (.op 4 .nil))))) (by kernel_rfl) H ?_
  intro w H
  first | refine re_field0 rfl rfl rfl rfl rfl fo_46_6 ?_ | refine re_field rfl rfl rfl rfl rfl fo_46_6 ?_ | refine re_fieldA rfl rfl rfl rfl rfl fo_46_6 ?_
  refine re_load H rfl rfl rfl rfl rfl sh_38 (by first | exact rdAt_all rfl | (simp only [rdAt, PS.cells, PS.over, GM.cells, Cmd.cells, List.cons_append, List.nil_append, List.drop_succ_cons, List.drop_zero, List.take_succ_cons, List.take_zero, List.length_cons, List.length_nil, Nat.zero_add, Nat.reduceAdd, Nat.reduceLeDiff, Nat.le_refl, ↓reduceIte] <;> rfl)) ?_
  refine re_move rfl rfl rfl rfl rfl ?_
  refine re_call en_72 rfl rfl rfl rfl rfl ?_
  have H := H.front 1
  simp only [arrs, Fw.front, zm1, zm2, zm3, zm4, zm5] at H
  refine Calls.mono (stamp_s H) ?_
  rintro e w ⟨rfl, H⟩
  refine ⟨_, rfl, (fun _ => ⟨fun _ => still_load H sh_38 (by first | exact rdAt_all rfl | (simp only [rdAt, PS.cells, PS.over, GM.cells, Cmd.cells, List.cons_append, List.nil_append, List.drop_succ_cons, List.drop_zero, List.take_succ_cons, List.take_zero, List.length_cons, List.length_nil, Nat.zero_add, Nat.reduceAdd, Nat.reduceLeDiff, Nat.le_refl, ↓reduceIte] <;> rfl)), trivial⟩), ?_⟩
  refine re_neAgg rfl rfl rfl rfl rfl rfl fk_38 sh_38 ng_38 (by simp only [eqKs, eqK, ↓reduceIte]; rfl) ?_
  refine re_nil ?_
  refine qe_noPanic ?_
  refine qe_thenC ?_
  refine ce_cond rfl (fun h0 => ?_) (fun h0 => ?_)
  · try simp only [zn1, zn2, zn3, zn4, zn5, zn6] at h0
    exact absurd ((show p.own m = false from h0).symm.trans hst) (by simp)
  · try simp only [zn1, zn2, zn3, zn4, zn5, zn6] at h0
    refine ce_skip ?_
    refine qe_thenC ?_
    refine ce_seq ?_
    refine ce_seq ?_
    refine ce_text (tab := []) (soft := 15) (.op 0 (.op 1 (.op 2 (.op 3 .nil)))) rfl rfl ?_
    refine re_move rfl rfl rfl rfl rfl ?_
    refine re_nilc rfl rfl rfl rfl rfl ?_
    first | refine re_field0 rfl rfl rfl rfl rfl fo_80_10 ?_ | refine re_field rfl rfl rfl rfl rfl fo_80_10 ?_ | refine re_fieldA rfl rfl rfl rfl rfl fo_80_10 ?_
    refine re_load H rfl rfl rfl rfl rfl sh_76 rfl ?_
    refine re_nil ?_
    refine qe_thenC ?_
    refine ce_block ?_
    refine ce_seq ?_
    refine ce_text (tab := []) (soft := 7) (.op 0 (.op 1 (.op 2 .nil))) rfl rfl ?_
    simp only [hi]
    refine re_isT rfl rfl rfl rfl rfl nif_131 ?_
    refine re_extract rfl rfl rfl rfl rfl rfl ?_
    refine re_extract rfl rfl rfl rfl rfl rfl ?_
    refine re_nil ?_
    refine qe_thenC ?_
    refine ce_condT rfl ?_
    refine ce_seq ?_
    refine ce_text (tab := []) (soft := 0) (.op 0 (.op 1 .nil)) rfl rfl ?_
    refine re_alloc H rfl rfl rfl rfl ze_131 ?_
    intro g5 w H
    refine ⟨(fun h => (nomatch h)), ?_⟩
    refine re_store H rfl rfl rfl rfl rfl rfl sh_131 rfl rfl rfl ?_
    intro cs w hcs H
    first | rw [setMany_whole rfl] at hcs | simp only [setMany, List.set_cons_zero, List.set_cons_succ, Nat.reduceAdd, Nat.zero_add, PS.cells, PS.over, GM.cells, Cmd.cells, List.cons_append, List.nil_append] at hcs
    subst hcs
    refine ⟨(fun h => (nomatch h)), ?_⟩
    refine re_nil ?_
    refine qe_thenC ?_
    refine ce_seq ?_
    refine ce_text (tab := []) (soft := 98239) (.op 0 (.op 1 (.op 2 (.op 3 (.op 4 (.op 5 (.op 6 (.op 7 (.op 8 (.op 9 (.op 10 (.op 11 (.op 12 (.op 13 (.op 14 (.op 15 (.op 16 .nil))))))))))))))))) rfl rfl ?_
    first | refine re_field0 rfl rfl rfl rfl rfl fo_46_0 ?_ | refine re_field rfl rfl rfl rfl rfl fo_46_0 ?_ | refine re_fieldA rfl rfl rfl rfl rfl fo_46_0 ?_
    refine re_load H rfl rfl rfl rfl rfl sh_3 rfl ?_
    refine re_bin rfl rfl rfl rfl rfl rfl rfl ?_
    have hk : decide (m.kind = 13) = false := by simp [hkd]
    simp only [hk]
    refine re_move rfl rfl rfl rfl rfl ?_
    refine re_skip1 rfl rfl rfl ?_
    refine re_skip1 rfl rfl rfl ?_
    refine re_skip1 rfl rfl rfl ?_
    refine re_pickF rfl rfl rfl rfl rfl rfl ?_
    refine re_move rfl rfl rfl rfl rfl ?_
    refine re_skip1 rfl rfl rfl ?_
    refine re_skip1 rfl rfl rfl ?_
    refine re_skip1 rfl rfl rfl ?_
    refine re_skip1 rfl rfl rfl ?_
    refine re_skip1 rfl rfl rfl ?_
    refine re_skip1 rfl rfl rfl ?_
    refine re_skip1 rfl rfl rfl ?_
    refine re_pickF rfl rfl rfl rfl rfl rfl ?_
    refine re_nil ?_
    refine qe_thenC ?_
    refine ce_condF rfl ?_
    refine ce_skip ?_
    refine qe_block_norm ?_
    refine qe_thenC ?_
    refine ce_seq ?_
    refine ce_text (tab := []) (soft := 1) (.op 0 .nil) rfl rfl ?_
    refine re_assign rfl rfl rfl rfl rfl ?_
    refine re_nil ?_
    refine qe_thenC ?_
    refine ce_ret ?_
    refine qe_end rfl rfl ?_
    exact ⟨rfl, H.tail.sub (.cons_cons _ (.cons _ (List.Sublist.refl _)))⟩

theorem count_otherA {B w : World} {F : List Ent} {g : Nat} {p : PS} {m : GM} {q : Nat} {cm : Cmd} (H : Own B (.cells g 80 p.cells :: F) w) (hn : p.gs.length ≤ 1000000) (hi : p.ph = phA q cm) (hkd : m.kind ≠ 15) (hst : p.own m = true) :
    Calls Try.prog 49 #[.pointer (some ⟨g, 0, none⟩), .agg m.cells.toArray] w fun e w' => e = .returned (slv none 0 0) ∧ Own B (.cells g 80 p.cells :: F) w' := by
  refine calls_ce (args := [.pointer (some ⟨g, 0, none⟩), .agg m.cells.toArray]) Try.func49 rfl rfl ?_
  change CE _ _ 73 _ _ [(0, .pointer (some ⟨g, 0, none⟩)), (1, .agg m.cells.toArray)] _
  refine ce_seq ?_
  refine ce_text (tab := []) (soft := 2) (.op 0 (.op 1 .nil)) rfl rfl ?_
  refine re_box H rfl rfl rfl rfl rfl rfl ?_
  intro g3 w H
  refine ⟨(fun h => (nomatch h)), ?_⟩
  refine re_assign rfl rfl rfl rfl rfl ?_
  refine re_nil ?_
  refine qe_thenC ?_
  refine ce_seq ?_
  refine ce_seq ?_
  refine ce_open (tab := [0, 1, 0, 4, 15]) (soft := 23) mixed (.op 0 (.op 1 (.op 2 (.op 3 (.op 4 .nil))))) (by kernel_rfl) H ?_
  intro w H
  first | refine re_field0 rfl rfl rfl rfl rfl fo_46_6 ?_ | refine re_field rfl rfl rfl rfl rfl fo_46_6 ?_ | refine re_fieldA rfl rfl rfl rfl rfl fo_46_6 ?_
  refine re_load H rfl rfl rfl rfl rfl sh_38 (by first | exact rdAt_all rfl | (simp only [rdAt, PS.cells, PS.over, GM.cells, Cmd.cells, List.cons_append, List.nil_append, List.drop_succ_cons, List.drop_zero, List.take_succ_cons, List.take_zero, List.length_cons, List.length_nil, Nat.zero_add, Nat.reduceAdd, Nat.reduceLeDiff, Nat.le_refl, ↓reduceIte] <;> rfl)) ?_
  refine re_move rfl rfl rfl rfl rfl ?_
  refine re_call en_72 rfl rfl rfl rfl rfl ?_
  have H := H.front 1
  simp only [arrs, Fw.front, zm1, zm2, zm3, zm4, zm5] at H
  refine Calls.mono (stamp_s H) ?_
  rintro e w ⟨rfl, H⟩
  refine ⟨_, rfl, (fun _ => ⟨fun _ => still_load H sh_38 (by first | exact rdAt_all rfl | (simp only [rdAt, PS.cells, PS.over, GM.cells, Cmd.cells, List.cons_append, List.nil_append, List.drop_succ_cons, List.drop_zero, List.take_succ_cons, List.take_zero, List.length_cons, List.length_nil, Nat.zero_add, Nat.reduceAdd, Nat.reduceLeDiff, Nat.le_refl, ↓reduceIte] <;> rfl)), trivial⟩), ?_⟩
  refine re_neAgg rfl rfl rfl rfl rfl rfl fk_38 sh_38 ng_38 (by simp only [eqKs, eqK, ↓reduceIte]; rfl) ?_
  refine re_nil ?_
  refine qe_noPanic ?_
  refine qe_thenC ?_
  refine ce_cond rfl (fun h0 => ?_) (fun h0 => ?_)
  · try simp only [zn1, zn2, zn3, zn4, zn5, zn6] at h0
    exact absurd ((show p.own m = false from h0).symm.trans hst) (by simp)
  · try simp only [zn1, zn2, zn3, zn4, zn5, zn6] at h0
    refine ce_skip ?_
    refine qe_thenC ?_
    refine ce_seq ?_
    refine ce_seq ?_
    refine ce_text (tab := []) (soft := 15) (.op 0 (.op 1 (.op 2 (.op 3 .nil)))) rfl rfl ?_
    refine re_move rfl rfl rfl rfl rfl ?_
    refine re_nilc rfl rfl rfl rfl rfl ?_
    first | refine re_field0 rfl rfl rfl rfl rfl fo_80_10 ?_ | refine re_field rfl rfl rfl rfl rfl fo_80_10 ?_ | refine re_fieldA rfl rfl rfl rfl rfl fo_80_10 ?_
    refine re_load H rfl rfl rfl rfl rfl sh_76 rfl ?_
    refine re_nil ?_
    refine qe_thenC ?_
    refine ce_block ?_
    refine ce_seq ?_
    refine ce_text (tab := []) (soft := 7) (.op 0 (.op 1 (.op 2 .nil))) rfl rfl ?_
    simp only [hi]
    refine re_isNotT rfl rfl rfl rfl rfl nif_131 rfl zv_131 ?_
    refine re_extract rfl rfl rfl rfl rfl rfl ?_
    refine re_extract rfl rfl rfl rfl rfl rfl ?_
    refine re_nil ?_
    refine qe_thenC ?_
    refine ce_condF rfl ?_
    refine ce_seq ?_
    refine ce_text (tab := []) (soft := 7) (.op 0 (.op 1 (.op 2 .nil))) rfl rfl ?_
    refine re_isT rfl rfl rfl rfl rfl nif_137 ?_
    refine re_extract rfl rfl rfl rfl rfl rfl ?_
    refine re_extract rfl rfl rfl rfl rfl rfl ?_
    refine re_nil ?_
    refine qe_thenC ?_
    refine ce_condT rfl ?_
    refine ce_seq ?_
    refine ce_text (tab := []) (soft := 0) (.op 0 (.op 1 .nil)) rfl rfl ?_
    refine re_alloc H rfl rfl rfl rfl ze_137 ?_
    intro g6 w H
    refine ⟨(fun h => (nomatch h)), ?_⟩
    refine re_store H rfl rfl rfl rfl rfl rfl sh_137 rfl rfl rfl ?_
    intro cs w hcs H
    first | rw [setMany_whole rfl] at hcs | simp only [setMany, List.set_cons_zero, List.set_cons_succ, Nat.reduceAdd, Nat.zero_add, PS.cells, PS.over, GM.cells, Cmd.cells, List.cons_append, List.nil_append] at hcs
    subst hcs
    refine ⟨(fun h => (nomatch h)), ?_⟩
    refine re_nil ?_
    refine qe_thenC ?_
    refine ce_seq ?_
    refine ce_text (tab := []) (soft := 98239) (.op 0 (.op 1 (.op 2 (.op 3 (.op 4 (.op 5 (.op 6 (.op 7 (.op 8 (.op 9 (.op 10 (.op 11 (.op 12 (.op 13 (.op 14 (.op 15 (.op 16 .nil))))))))))))))))) rfl rfl ?_
    first | refine re_field0 rfl rfl rfl rfl rfl fo_46_0 ?_ | refine re_field rfl rfl rfl rfl rfl fo_46_0 ?_ | refine re_fieldA rfl rfl rfl rfl rfl fo_46_0 ?_
    refine re_load H rfl rfl rfl rfl rfl sh_3 rfl ?_
    refine re_bin rfl rfl rfl rfl rfl rfl rfl ?_
    have hk : decide (m.kind = 15) = false := by simp [hkd]
    simp only [hk]
    refine re_move rfl rfl rfl rfl rfl ?_
    refine re_skip1 rfl rfl rfl ?_
    refine re_skip1 rfl rfl rfl ?_
    refine re_skip1 rfl rfl rfl ?_
    refine re_pickF rfl rfl rfl rfl rfl rfl ?_
    refine re_move rfl rfl rfl rfl rfl ?_
    refine re_skip1 rfl rfl rfl ?_
    refine re_skip1 rfl rfl rfl ?_
    refine re_skip1 rfl rfl rfl ?_
    refine re_skip1 rfl rfl rfl ?_
    refine re_skip1 rfl rfl rfl ?_
    refine re_skip1 rfl rfl rfl ?_
    refine re_skip1 rfl rfl rfl ?_
    refine re_pickF rfl rfl rfl rfl rfl rfl ?_
    refine re_nil ?_
    refine qe_thenC ?_
    refine ce_condF rfl ?_
    refine ce_skip ?_
    refine qe_block_norm ?_
    refine qe_thenC ?_
    refine ce_seq ?_
    refine ce_text (tab := []) (soft := 1) (.op 0 .nil) rfl rfl ?_
    refine re_assign rfl rfl rfl rfl rfl ?_
    refine re_nil ?_
    refine qe_thenC ?_
    refine ce_ret ?_
    refine qe_end rfl rfl ?_
    exact ⟨rfl, H.tail.sub (.cons_cons _ (.cons _ (List.Sublist.refl _)))⟩

theorem count_staleP {B w : World} {F : List Ent} {g : Nat} {p : PS} {m : GM} {ht hm hc : Nat} {ha : Option Nat} {hs : List Int} {qt qm qc : Nat} {qa : Option Nat} {ms : List (Int × GM)} (H : Own B (.cells g 80 p.cells :: .row p.ga p.gc 3 1 p.gs.length (ints p.gs) :: .cells ht 109 [slv ha p.gs.length hc, .int .i64 ((p.gs.length : Int) + 1), .map (some hm)] :: .row ha hc 3 1 p.gs.length (ints p.gs) :: .imap hm (heardK hs) :: .cells qt 145 [slv qa p.gs.length qc, .int .i64 ((p.gs.length : Int) / 2 + 1), .map (some qm)] :: .row qa qc 3 1 p.gs.length (ints p.gs) :: .imap qm (kvM ms) :: F) w) (hn : p.gs.length ≤ 1000000) (hi : p.ph = phP qt) (hkd : m.kind = 13) (hst : p.own m = true) (hh : p.hd = .pointer (some ⟨ht, 0, none⟩)) (hl : hs.length ≤ p.gs.length) (hf : p.fresh hs m.fi = false) :
    Calls Try.prog 49 #[.pointer (some ⟨g, 0, none⟩), .agg m.cells.toArray] w fun e w' => e = .returned (slv none 0 0) ∧ Own B (.cells g 80 p.cells :: .row p.ga p.gc 3 1 p.gs.length (ints p.gs) :: .cells ht 109 [slv ha p.gs.length hc, .int .i64 ((p.gs.length : Int) + 1), .map (some hm)] :: .row ha hc 3 1 p.gs.length (ints p.gs) :: .imap hm (heardK hs) :: .cells qt 145 [slv qa p.gs.length qc, .int .i64 ((p.gs.length : Int) / 2 + 1), .map (some qm)] :: .row qa qc 3 1 p.gs.length (ints p.gs) :: .imap qm (kvM ms) :: F) w' := by
  refine calls_ce (args := [.pointer (some ⟨g, 0, none⟩), .agg m.cells.toArray]) Try.func49 rfl rfl ?_
  change CE _ _ 73 _ _ [(0, .pointer (some ⟨g, 0, none⟩)), (1, .agg m.cells.toArray)] _
  refine ce_seq ?_
  refine ce_text (tab := []) (soft := 2) (.op 0 (.op 1 .nil)) rfl rfl ?_
  refine re_box H rfl rfl rfl rfl rfl rfl ?_
  intro g3 w H
  refine ⟨(fun h => (nomatch h)), ?_⟩
  refine re_assign rfl rfl rfl rfl rfl ?_
  refine re_nil ?_
  refine qe_thenC ?_
  refine ce_seq ?_
  refine ce_seq ?_
  refine ce_open (tab := [0, 1, 0, 4, 15]) (soft := 23) mixed (.op 0 (.op 1 (.op 2 (.op 3 (.op 4 .nil))))) (by kernel_rfl) H ?_
  intro w H
  first | refine re_field0 rfl rfl rfl rfl rfl fo_46_6 ?_ | refine re_field rfl rfl rfl rfl rfl fo_46_6 ?_ | refine re_fieldA rfl rfl rfl rfl rfl fo_46_6 ?_
  refine re_load H rfl rfl rfl rfl rfl sh_38 (by first | exact rdAt_all rfl | (simp only [rdAt, PS.cells, PS.over, GM.cells, Cmd.cells, List.cons_append, List.nil_append, List.drop_succ_cons, List.drop_zero, List.take_succ_cons, List.take_zero, List.length_cons, List.length_nil, Nat.zero_add, Nat.reduceAdd, Nat.reduceLeDiff, Nat.le_refl, ↓reduceIte] <;> rfl)) ?_
  refine re_move rfl rfl rfl rfl rfl ?_
  refine re_call en_72 rfl rfl rfl rfl rfl ?_
  have H := H.front 1
  simp only [arrs, Fw.front, zm1, zm2, zm3, zm4, zm5] at H
  refine Calls.mono (stamp_s H) ?_
  rintro e w ⟨rfl, H⟩
  refine ⟨_, rfl, (fun _ => ⟨fun _ => still_load H sh_38 (by first | exact rdAt_all rfl | (simp only [rdAt, PS.cells, PS.over, GM.cells, Cmd.cells, List.cons_append, List.nil_append, List.drop_succ_cons, List.drop_zero, List.take_succ_cons, List.take_zero, List.length_cons, List.length_nil, Nat.zero_add, Nat.reduceAdd, Nat.reduceLeDiff, Nat.le_refl, ↓reduceIte] <;> rfl)), trivial⟩), ?_⟩
  refine re_neAgg rfl rfl rfl rfl rfl rfl fk_38 sh_38 ng_38 (by simp only [eqKs, eqK, ↓reduceIte]; rfl) ?_
  refine re_nil ?_
  refine qe_noPanic ?_
  refine qe_thenC ?_
  refine ce_cond rfl (fun h0 => ?_) (fun h0 => ?_)
  · try simp only [zn1, zn2, zn3, zn4, zn5, zn6] at h0
    exact absurd ((show p.own m = false from h0).symm.trans hst) (by simp)
  · try simp only [zn1, zn2, zn3, zn4, zn5, zn6] at h0
    refine ce_skip ?_
    refine qe_thenC ?_
    refine ce_seq ?_
    refine ce_seq ?_
    refine ce_text (tab := []) (soft := 15) (.op 0 (.op 1 (.op 2 (.op 3 .nil)))) rfl rfl ?_
    refine re_move rfl rfl rfl rfl rfl ?_
    refine re_nilc rfl rfl rfl rfl rfl ?_
    first | refine re_field0 rfl rfl rfl rfl rfl fo_80_10 ?_ | refine re_field rfl rfl rfl rfl rfl fo_80_10 ?_ | refine re_fieldA rfl rfl rfl rfl rfl fo_80_10 ?_
    refine re_load H rfl rfl rfl rfl rfl sh_76 rfl ?_
    refine re_nil ?_
    refine qe_thenC ?_
    refine ce_block ?_
    refine ce_seq ?_
    refine ce_text (tab := []) (soft := 7) (.op 0 (.op 1 (.op 2 .nil))) rfl rfl ?_
    simp only [hi]
    refine re_isT rfl rfl rfl rfl rfl nif_131 ?_
    refine re_extract rfl rfl rfl rfl rfl rfl ?_
    refine re_extract rfl rfl rfl rfl rfl rfl ?_
    refine re_nil ?_
    refine qe_thenC ?_
    refine ce_condT rfl ?_
    refine ce_seq ?_
    refine ce_text (tab := []) (soft := 0) (.op 0 (.op 1 .nil)) rfl rfl ?_
    refine re_alloc H rfl rfl rfl rfl ze_131 ?_
    intro g5 w H
    refine ⟨(fun h => (nomatch h)), ?_⟩
    refine re_store H rfl rfl rfl rfl rfl rfl sh_131 rfl rfl rfl ?_
    intro cs w hcs H
    first | rw [setMany_whole rfl] at hcs | simp only [setMany, List.set_cons_zero, List.set_cons_succ, Nat.reduceAdd, Nat.zero_add, PS.cells, PS.over, GM.cells, Cmd.cells, List.cons_append, List.nil_append] at hcs
    subst hcs
    refine ⟨(fun h => (nomatch h)), ?_⟩
    refine re_nil ?_
    refine qe_thenC ?_
    refine ce_seq ?_
    refine ce_text (tab := []) (soft := 98239) (.op 0 (.op 1 (.op 2 (.op 3 (.op 4 (.op 5 (.op 6 (.op 7 (.op 8 (.op 9 (.op 10 (.op 11 (.op 12 (.op 13 (.op 14 (.op 15 (.op 16 .nil))))))))))))))))) rfl rfl ?_
    first | refine re_field0 rfl rfl rfl rfl rfl fo_46_0 ?_ | refine re_field rfl rfl rfl rfl rfl fo_46_0 ?_ | refine re_fieldA rfl rfl rfl rfl rfl fo_46_0 ?_
    refine re_load H rfl rfl rfl rfl rfl sh_3 rfl ?_
    refine re_bin rfl rfl rfl rfl rfl rfl rfl ?_
    have hk : decide (m.kind = 13) = true := by simp [hkd]
    simp only [hk]
    refine re_move rfl rfl rfl rfl rfl ?_
    refine re_move rfl rfl rfl rfl rfl ?_
    refine re_load H rfl rfl rfl rfl rfl sh_46 (by first | exact rdAt_all rfl | (simp only [rdAt, PS.cells, PS.over, GM.cells, Cmd.cells, List.cons_append, List.nil_append, List.drop_succ_cons, List.drop_zero, List.take_succ_cons, List.take_zero, List.length_cons, List.length_nil, Nat.zero_add, Nat.reduceAdd, Nat.reduceLeDiff, Nat.le_refl, ↓reduceIte] <;> rfl)) ?_
    refine re_call en_48 rfl rfl rfl rfl rfl ?_
    have H := Own.arr [2, 1, 9, 9, 9, 6, 9, 9, 9, 9] H
    simp only [arrs, Fw.front, zm1, zm2, zm3, zm4, zm5] at H
    refine Calls.mono (fresh_s H hh hn hl) ?_
    rintro e w ⟨rfl, H⟩
    simp only [hf] at H ⊢
    refine ⟨_, rfl, (fun h => (nomatch h)), ?_⟩
    refine re_pickT rfl rfl rfl rfl rfl rfl ?_
    refine re_move rfl rfl rfl rfl rfl ?_
    refine re_skip1 rfl rfl rfl ?_
    refine re_skip1 rfl rfl rfl ?_
    refine re_skip1 rfl rfl rfl ?_
    refine re_skip1 rfl rfl rfl ?_
    refine re_skip1 rfl rfl rfl ?_
    refine re_skip1 rfl rfl rfl ?_
    refine re_skip1 rfl rfl rfl ?_
    refine re_pickF rfl rfl rfl rfl rfl rfl ?_
    refine re_nil ?_
    refine qe_thenC ?_
    refine ce_condF rfl ?_
    refine ce_skip ?_
    refine qe_block_norm ?_
    refine qe_thenC ?_
    refine ce_seq ?_
    refine ce_text (tab := []) (soft := 1) (.op 0 .nil) rfl rfl ?_
    refine re_assign rfl rfl rfl rfl rfl ?_
    refine re_nil ?_
    refine qe_thenC ?_
    refine ce_ret ?_
    refine qe_end rfl rfl ?_
    simp only [Bool.false_eq_true, if_false] at H
    have H := Own.arr [7, 7, 7, 6, 6, 6, 7, 7] H
    simp only [arrs, Fw.front, zm1, zm2, zm3, zm4, zm5] at H
    replace H := H.sub (.cons_cons _ (.cons_cons _ (.cons_cons _ (.cons_cons _ (.cons_cons _ (.cons_cons _ (.cons_cons _ (.cons_cons _ (.cons _ (.cons _ (List.Sublist.refl _)))))))))))
    exact ⟨rfl, H⟩

theorem count_fewP {B w : World} {F : List Ent} {g : Nat} {p : PS} {m : GM} {ht hm hc : Nat} {ha : Option Nat} {hs : List Int} {qt qm qc : Nat} {qa : Option Nat} {ms : List (Int × GM)} (H : Own B (.cells g 80 p.cells :: .row p.ga p.gc 3 1 p.gs.length (ints p.gs) :: .cells ht 109 [slv ha p.gs.length hc, .int .i64 ((p.gs.length : Int) + 1), .map (some hm)] :: .row ha hc 3 1 p.gs.length (ints p.gs) :: .imap hm (heardK hs) :: .cells qt 145 [slv qa p.gs.length qc, .int .i64 ((p.gs.length : Int) / 2 + 1), .map (some qm)] :: .row qa qc 3 1 p.gs.length (ints p.gs) :: .imap qm (kvM ms) :: F) w) (hn : p.gs.length ≤ 1000000) (hi : p.ph = phP qt) (hkd : m.kind = 13) (hst : p.own m = true) (hh : p.hd = .pointer (some ⟨ht, 0, none⟩)) (hl : hs.length ≤ p.gs.length) (hf : p.fresh hs m.fi = true) (hk2 : p.takes ms m.fi m = false) :
    Calls Try.prog 49 #[.pointer (some ⟨g, 0, none⟩), .agg m.cells.toArray] w fun e w' => e = .returned (slv none 0 0) ∧ Own B (.cells g 80 p.cells :: .row p.ga p.gc 3 1 p.gs.length (ints p.gs) :: .cells ht 109 [slv ha p.gs.length hc, .int .i64 ((p.gs.length : Int) + 1), .map (some hm)] :: .row ha hc 3 1 p.gs.length (ints p.gs) :: .imap hm (heardK (hs ++ [m.fi])) :: .cells qt 145 [slv qa p.gs.length qc, .int .i64 ((p.gs.length : Int) / 2 + 1), .map (some qm)] :: .row qa qc 3 1 p.gs.length (ints p.gs) :: .imap qm (kvM (p.took ms m.fi m)) :: F) w' := by
  refine calls_ce (args := [.pointer (some ⟨g, 0, none⟩), .agg m.cells.toArray]) Try.func49 rfl rfl ?_
  change CE _ _ 73 _ _ [(0, .pointer (some ⟨g, 0, none⟩)), (1, .agg m.cells.toArray)] _
  refine ce_seq ?_
  refine ce_text (tab := []) (soft := 2) (.op 0 (.op 1 .nil)) rfl rfl ?_
  refine re_box H rfl rfl rfl rfl rfl rfl ?_
  intro g3 w H
  refine ⟨(fun h => (nomatch h)), ?_⟩
  refine re_assign rfl rfl rfl rfl rfl ?_
  refine re_nil ?_
  refine qe_thenC ?_
  refine ce_seq ?_
  refine ce_seq ?_
  refine ce_open (tab := [0, 1, 0, 4, 15]) (soft := 23) mixed (.op 0 (.op 1 (.op 2 (.op 3 (.op 4 .nil))))) (by kernel_rfl) H ?_
  intro w H
  first | refine re_field0 rfl rfl rfl rfl rfl fo_46_6 ?_ | refine re_field rfl rfl rfl rfl rfl fo_46_6 ?_ | refine re_fieldA rfl rfl rfl rfl rfl fo_46_6 ?_
  refine re_load H rfl rfl rfl rfl rfl sh_38 (by first | exact rdAt_all rfl | (simp only [rdAt, PS.cells, PS.over, GM.cells, Cmd.cells, List.cons_append, List.nil_append, List.drop_succ_cons, List.drop_zero, List.take_succ_cons, List.take_zero, List.length_cons, List.length_nil, Nat.zero_add, Nat.reduceAdd, Nat.reduceLeDiff, Nat.le_refl, ↓reduceIte] <;> rfl)) ?_
  refine re_move rfl rfl rfl rfl rfl ?_
  refine re_call en_72 rfl rfl rfl rfl rfl ?_
  have H := H.front 1
  simp only [arrs, Fw.front, zm1, zm2, zm3, zm4, zm5] at H
  refine Calls.mono (stamp_s H) ?_
  rintro e w ⟨rfl, H⟩
  refine ⟨_, rfl, (fun _ => ⟨fun _ => still_load H sh_38 (by first | exact rdAt_all rfl | (simp only [rdAt, PS.cells, PS.over, GM.cells, Cmd.cells, List.cons_append, List.nil_append, List.drop_succ_cons, List.drop_zero, List.take_succ_cons, List.take_zero, List.length_cons, List.length_nil, Nat.zero_add, Nat.reduceAdd, Nat.reduceLeDiff, Nat.le_refl, ↓reduceIte] <;> rfl)), trivial⟩), ?_⟩
  refine re_neAgg rfl rfl rfl rfl rfl rfl fk_38 sh_38 ng_38 (by simp only [eqKs, eqK, ↓reduceIte]; rfl) ?_
  refine re_nil ?_
  refine qe_noPanic ?_
  refine qe_thenC ?_
  refine ce_cond rfl (fun h0 => ?_) (fun h0 => ?_)
  · try simp only [zn1, zn2, zn3, zn4, zn5, zn6] at h0
    exact absurd ((show p.own m = false from h0).symm.trans hst) (by simp)
  · try simp only [zn1, zn2, zn3, zn4, zn5, zn6] at h0
    refine ce_skip ?_
    refine qe_thenC ?_
    refine ce_seq ?_
    refine ce_seq ?_
    refine ce_text (tab := []) (soft := 15) (.op 0 (.op 1 (.op 2 (.op 3 .nil)))) rfl rfl ?_
    refine re_move rfl rfl rfl rfl rfl ?_
    refine re_nilc rfl rfl rfl rfl rfl ?_
    first | refine re_field0 rfl rfl rfl rfl rfl fo_80_10 ?_ | refine re_field rfl rfl rfl rfl rfl fo_80_10 ?_ | refine re_fieldA rfl rfl rfl rfl rfl fo_80_10 ?_
    refine re_load H rfl rfl rfl rfl rfl sh_76 rfl ?_
    refine re_nil ?_
    refine qe_thenC ?_
    refine ce_block ?_
    refine ce_seq ?_
    refine ce_text (tab := []) (soft := 7) (.op 0 (.op 1 (.op 2 .nil))) rfl rfl ?_
    simp only [hi]
    refine re_isT rfl rfl rfl rfl rfl nif_131 ?_
    refine re_extract rfl rfl rfl rfl rfl rfl ?_
    refine re_extract rfl rfl rfl rfl rfl rfl ?_
    refine re_nil ?_
    refine qe_thenC ?_
    refine ce_condT rfl ?_
    refine ce_seq ?_
    refine ce_text (tab := []) (soft := 0) (.op 0 (.op 1 .nil)) rfl rfl ?_
    refine re_alloc H rfl rfl rfl rfl ze_131 ?_
    intro g5 w H
    refine ⟨(fun h => (nomatch h)), ?_⟩
    refine re_store H rfl rfl rfl rfl rfl rfl sh_131 rfl rfl rfl ?_
    intro cs w hcs H
    first | rw [setMany_whole rfl] at hcs | simp only [setMany, List.set_cons_zero, List.set_cons_succ, Nat.reduceAdd, Nat.zero_add, PS.cells, PS.over, GM.cells, Cmd.cells, List.cons_append, List.nil_append] at hcs
    subst hcs
    refine ⟨(fun h => (nomatch h)), ?_⟩
    refine re_nil ?_
    refine qe_thenC ?_
    refine ce_seq ?_
    refine ce_text (tab := []) (soft := 98239) (.op 0 (.op 1 (.op 2 (.op 3 (.op 4 (.op 5 (.op 6 (.op 7 (.op 8 (.op 9 (.op 10 (.op 11 (.op 12 (.op 13 (.op 14 (.op 15 (.op 16 .nil))))))))))))))))) rfl rfl ?_
    first | refine re_field0 rfl rfl rfl rfl rfl fo_46_0 ?_ | refine re_field rfl rfl rfl rfl rfl fo_46_0 ?_ | refine re_fieldA rfl rfl rfl rfl rfl fo_46_0 ?_
    refine re_load H rfl rfl rfl rfl rfl sh_3 rfl ?_
    refine re_bin rfl rfl rfl rfl rfl rfl rfl ?_
    have hk : decide (m.kind = 13) = true := by simp [hkd]
    simp only [hk]
    refine re_move rfl rfl rfl rfl rfl ?_
    refine re_move rfl rfl rfl rfl rfl ?_
    refine re_load H rfl rfl rfl rfl rfl sh_46 (by first | exact rdAt_all rfl | (simp only [rdAt, PS.cells, PS.over, GM.cells, Cmd.cells, List.cons_append, List.nil_append, List.drop_succ_cons, List.drop_zero, List.take_succ_cons, List.take_zero, List.length_cons, List.length_nil, Nat.zero_add, Nat.reduceAdd, Nat.reduceLeDiff, Nat.le_refl, ↓reduceIte] <;> rfl)) ?_
    refine re_call en_48 rfl rfl rfl rfl rfl ?_
    have H := Own.arr [2, 1, 9, 9, 9, 6, 9, 9, 9, 9] H
    simp only [arrs, Fw.front, zm1, zm2, zm3, zm4, zm5] at H
    refine Calls.mono (fresh_s H hh hn hl) ?_
    rintro e w ⟨rfl, H⟩
    simp only [hf] at H ⊢
    refine ⟨_, rfl, (fun h => (nomatch h)), ?_⟩
    refine re_pickT rfl rfl rfl rfl rfl rfl ?_
    refine re_move rfl rfl rfl rfl rfl ?_
    first | refine re_field0 rfl rfl rfl rfl rfl fo_131_0 ?_ | refine re_field rfl rfl rfl rfl rfl fo_131_0 ?_ | refine re_fieldA rfl rfl rfl rfl rfl fo_131_0 ?_
    refine re_load H rfl rfl rfl rfl rfl sh_128 rfl ?_
    first | refine re_field0 rfl rfl rfl rfl rfl fo_46_1 ?_ | refine re_field rfl rfl rfl rfl rfl fo_46_1 ?_ | refine re_fieldA rfl rfl rfl rfl rfl fo_46_1 ?_
    first | refine re_field0 rfl rfl rfl rfl rfl fo_36_1 ?_ | refine re_field rfl rfl rfl rfl rfl fo_36_1 ?_ | refine re_fieldA rfl rfl rfl rfl rfl fo_36_1 ?_
    refine re_load H rfl rfl rfl rfl rfl sh_3 rfl ?_
    refine re_load H rfl rfl rfl rfl rfl sh_46 (by first | exact rdAt_all rfl | (simp only [rdAt, PS.cells, PS.over, GM.cells, Cmd.cells, List.cons_append, List.nil_append, List.drop_succ_cons, List.drop_zero, List.take_succ_cons, List.take_zero, List.length_cons, List.length_nil, Nat.zero_add, Nat.reduceAdd, Nat.reduceLeDiff, Nat.le_refl, ↓reduceIte] <;> rfl)) ?_
    refine re_call en_73 rfl rfl rfl rfl rfl ?_
    have H := Own.arr [7, 7, 7] H
    simp only [arrs, Fw.front, zm1, zm2, zm3, zm4, zm5] at H
    refine Calls.mono (takeM H hn) ?_
    rintro e w ⟨rfl, H⟩
    rw [took_eq] at H
    rw [show takes _ _ _ _ _ = _ from hk2]
    refine ⟨_, rfl, (fun h => (nomatch h)), ?_⟩
    refine re_pickT rfl rfl rfl rfl rfl rfl ?_
    refine re_nil ?_
    refine qe_thenC ?_
    refine ce_condF rfl ?_
    refine ce_skip ?_
    refine qe_block_norm ?_
    refine qe_thenC ?_
    refine ce_seq ?_
    refine ce_text (tab := []) (soft := 1) (.op 0 .nil) rfl rfl ?_
    refine re_assign rfl rfl rfl rfl rfl ?_
    refine re_nil ?_
    refine qe_thenC ?_
    refine ce_ret ?_
    refine qe_end rfl rfl ?_
    simp only [if_true] at H
    have H := Own.arr [2, 2, 2, 6, 6, 6, 7, 7] H
    simp only [arrs, Fw.front, zm1, zm2, zm3, zm4, zm5] at H
    replace H := H.sub (.cons_cons _ (.cons_cons _ (.cons_cons _ (.cons_cons _ (.cons_cons _ (.cons_cons _ (.cons_cons _ (.cons_cons _ (.cons _ (.cons _ (List.Sublist.refl _)))))))))))
    exact ⟨rfl, H⟩

theorem count_staleA {B w : World} {F : List Ent} {g : Nat} {p : PS} {m : GM} {ht hm hc : Nat} {ha : Option Nat} {hs : List Int} {qt qm qc : Nat} {qa : Option Nat} {ms : List (Int × GM)} {cm : Cmd} (H : Own B (.cells g 80 p.cells :: .row p.ga p.gc 3 1 p.gs.length (ints p.gs) :: .cells ht 109 [slv ha p.gs.length hc, .int .i64 ((p.gs.length : Int) + 1), .map (some hm)] :: .row ha hc 3 1 p.gs.length (ints p.gs) :: .imap hm (heardK hs) :: .cells qt 145 [slv qa p.gs.length qc, .int .i64 ((p.gs.length : Int) / 2 + 1), .map (some qm)] :: .row qa qc 3 1 p.gs.length (ints p.gs) :: .imap qm (kvM ms) :: F) w) (hn : p.gs.length ≤ 1000000) (hi : p.ph = phA qt cm) (hkd : m.kind = 15) (hst : p.own m = true) (hh : p.hd = .pointer (some ⟨ht, 0, none⟩)) (hl : hs.length ≤ p.gs.length) (hf : p.fresh hs m.fi = false) :
    Calls Try.prog 49 #[.pointer (some ⟨g, 0, none⟩), .agg m.cells.toArray] w fun e w' => e = .returned (slv none 0 0) ∧ Own B (.cells g 80 p.cells :: .row p.ga p.gc 3 1 p.gs.length (ints p.gs) :: .cells ht 109 [slv ha p.gs.length hc, .int .i64 ((p.gs.length : Int) + 1), .map (some hm)] :: .row ha hc 3 1 p.gs.length (ints p.gs) :: .imap hm (heardK hs) :: .cells qt 145 [slv qa p.gs.length qc, .int .i64 ((p.gs.length : Int) / 2 + 1), .map (some qm)] :: .row qa qc 3 1 p.gs.length (ints p.gs) :: .imap qm (kvM ms) :: F) w' := by
  refine calls_ce (args := [.pointer (some ⟨g, 0, none⟩), .agg m.cells.toArray]) Try.func49 rfl rfl ?_
  change CE _ _ 73 _ _ [(0, .pointer (some ⟨g, 0, none⟩)), (1, .agg m.cells.toArray)] _
  refine ce_seq ?_
  refine ce_text (tab := []) (soft := 2) (.op 0 (.op 1 .nil)) rfl rfl ?_
  refine re_box H rfl rfl rfl rfl rfl rfl ?_
  intro g3 w H
  refine ⟨(fun h => (nomatch h)), ?_⟩
  refine re_assign rfl rfl rfl rfl rfl ?_
  refine re_nil ?_
  refine qe_thenC ?_
  refine ce_seq ?_
  refine ce_seq ?_
  refine ce_open (tab := [0, 1, 0, 4, 15]) (soft := 23) mixed (.op 0 (.op 1 (.op 2 (.op 3 (.op 4 .nil))))) (by kernel_rfl) H ?_
  intro w H
  first | refine re_field0 rfl rfl rfl rfl rfl fo_46_6 ?_ | refine re_field rfl rfl rfl rfl rfl fo_46_6 ?_ | refine re_fieldA rfl rfl rfl rfl rfl fo_46_6 ?_
  refine re_load H rfl rfl rfl rfl rfl sh_38 (by first | exact rdAt_all rfl | (simp only [rdAt, PS.cells, PS.over, GM.cells, Cmd.cells, List.cons_append, List.nil_append, List.drop_succ_cons, List.drop_zero, List.take_succ_cons, List.take_zero, List.length_cons, List.length_nil, Nat.zero_add, Nat.reduceAdd, Nat.reduceLeDiff, Nat.le_refl, ↓reduceIte] <;> rfl)) ?_
  refine re_move rfl rfl rfl rfl rfl ?_
  refine re_call en_72 rfl rfl rfl rfl rfl ?_
  have H := H.front 1
  simp only [arrs, Fw.front, zm1, zm2, zm3, zm4, zm5] at H
  refine Calls.mono (stamp_s H) ?_
  rintro e w ⟨rfl, H⟩
  refine ⟨_, rfl, (fun _ => ⟨fun _ => still_load H sh_38 (by first | exact rdAt_all rfl | (simp only [rdAt, PS.cells, PS.over, GM.cells, Cmd.cells, List.cons_append, List.nil_append, List.drop_succ_cons, List.drop_zero, List.take_succ_cons, List.take_zero, List.length_cons, List.length_nil, Nat.zero_add, Nat.reduceAdd, Nat.reduceLeDiff, Nat.le_refl, ↓reduceIte] <;> rfl)), trivial⟩), ?_⟩
  refine re_neAgg rfl rfl rfl rfl rfl rfl fk_38 sh_38 ng_38 (by simp only [eqKs, eqK, ↓reduceIte]; rfl) ?_
  refine re_nil ?_
  refine qe_noPanic ?_
  refine qe_thenC ?_
  refine ce_cond rfl (fun h0 => ?_) (fun h0 => ?_)
  · try simp only [zn1, zn2, zn3, zn4, zn5, zn6] at h0
    exact absurd ((show p.own m = false from h0).symm.trans hst) (by simp)
  · try simp only [zn1, zn2, zn3, zn4, zn5, zn6] at h0
    refine ce_skip ?_
    refine qe_thenC ?_
    refine ce_seq ?_
    refine ce_seq ?_
    refine ce_text (tab := []) (soft := 15) (.op 0 (.op 1 (.op 2 (.op 3 .nil)))) rfl rfl ?_
    refine re_move rfl rfl rfl rfl rfl ?_
    refine re_nilc rfl rfl rfl rfl rfl ?_
    first | refine re_field0 rfl rfl rfl rfl rfl fo_80_10 ?_ | refine re_field rfl rfl rfl rfl rfl fo_80_10 ?_ | refine re_fieldA rfl rfl rfl rfl rfl fo_80_10 ?_
    refine re_load H rfl rfl rfl rfl rfl sh_76 rfl ?_
    refine re_nil ?_
    refine qe_thenC ?_
    refine ce_block ?_
    refine ce_seq ?_
    refine ce_text (tab := []) (soft := 7) (.op 0 (.op 1 (.op 2 .nil))) rfl rfl ?_
    simp only [hi]
    refine re_isNotT rfl rfl rfl rfl rfl nif_131 rfl zv_131 ?_
    refine re_extract rfl rfl rfl rfl rfl rfl ?_
    refine re_extract rfl rfl rfl rfl rfl rfl ?_
    refine re_nil ?_
    refine qe_thenC ?_
    refine ce_condF rfl ?_
    refine ce_seq ?_
    refine ce_text (tab := []) (soft := 7) (.op 0 (.op 1 (.op 2 .nil))) rfl rfl ?_
    refine re_isT rfl rfl rfl rfl rfl nif_137 ?_
    refine re_extract rfl rfl rfl rfl rfl rfl ?_
    refine re_extract rfl rfl rfl rfl rfl rfl ?_
    refine re_nil ?_
    refine qe_thenC ?_
    refine ce_condT rfl ?_
    refine ce_seq ?_
    refine ce_text (tab := []) (soft := 0) (.op 0 (.op 1 .nil)) rfl rfl ?_
    refine re_alloc H rfl rfl rfl rfl ze_137 ?_
    intro g6 w H
    refine ⟨(fun h => (nomatch h)), ?_⟩
    refine re_store H rfl rfl rfl rfl rfl rfl sh_137 rfl rfl rfl ?_
    intro cs w hcs H
    first | rw [setMany_whole rfl] at hcs | simp only [setMany, List.set_cons_zero, List.set_cons_succ, Nat.reduceAdd, Nat.zero_add, PS.cells, PS.over, GM.cells, Cmd.cells, List.cons_append, List.nil_append] at hcs
    subst hcs
    refine ⟨(fun h => (nomatch h)), ?_⟩
    refine re_nil ?_
    refine qe_thenC ?_
    refine ce_seq ?_
    refine ce_text (tab := []) (soft := 98239) (.op 0 (.op 1 (.op 2 (.op 3 (.op 4 (.op 5 (.op 6 (.op 7 (.op 8 (.op 9 (.op 10 (.op 11 (.op 12 (.op 13 (.op 14 (.op 15 (.op 16 .nil))))))))))))))))) rfl rfl ?_
    first | refine re_field0 rfl rfl rfl rfl rfl fo_46_0 ?_ | refine re_field rfl rfl rfl rfl rfl fo_46_0 ?_ | refine re_fieldA rfl rfl rfl rfl rfl fo_46_0 ?_
    refine re_load H rfl rfl rfl rfl rfl sh_3 rfl ?_
    refine re_bin rfl rfl rfl rfl rfl rfl rfl ?_
    have hk : decide (m.kind = 15) = true := by simp [hkd]
    simp only [hk]
    refine re_move rfl rfl rfl rfl rfl ?_
    refine re_move rfl rfl rfl rfl rfl ?_
    refine re_load H rfl rfl rfl rfl rfl sh_46 (by first | exact rdAt_all rfl | (simp only [rdAt, PS.cells, PS.over, GM.cells, Cmd.cells, List.cons_append, List.nil_append, List.drop_succ_cons, List.drop_zero, List.take_succ_cons, List.take_zero, List.length_cons, List.length_nil, Nat.zero_add, Nat.reduceAdd, Nat.reduceLeDiff, Nat.le_refl, ↓reduceIte] <;> rfl)) ?_
    refine re_call en_48 rfl rfl rfl rfl rfl ?_
    have H := Own.arr [2, 1, 9, 9, 9, 6, 9, 9, 9, 9] H
    simp only [arrs, Fw.front, zm1, zm2, zm3, zm4, zm5] at H
    refine Calls.mono (fresh_s H hh hn hl) ?_
    rintro e w ⟨rfl, H⟩
    simp only [hf] at H ⊢
    refine ⟨_, rfl, (fun h => (nomatch h)), ?_⟩
    refine re_pickT rfl rfl rfl rfl rfl rfl ?_
    refine re_move rfl rfl rfl rfl rfl ?_
    refine re_skip1 rfl rfl rfl ?_
    refine re_skip1 rfl rfl rfl ?_
    refine re_skip1 rfl rfl rfl ?_
    refine re_skip1 rfl rfl rfl ?_
    refine re_skip1 rfl rfl rfl ?_
    refine re_skip1 rfl rfl rfl ?_
    refine re_skip1 rfl rfl rfl ?_
    refine re_pickF rfl rfl rfl rfl rfl rfl ?_
    refine re_nil ?_
    refine qe_thenC ?_
    refine ce_condF rfl ?_
    refine ce_skip ?_
    refine qe_block_norm ?_
    refine qe_thenC ?_
    refine ce_seq ?_
    refine ce_text (tab := []) (soft := 1) (.op 0 .nil) rfl rfl ?_
    refine re_assign rfl rfl rfl rfl rfl ?_
    refine re_nil ?_
    refine qe_thenC ?_
    refine ce_ret ?_
    refine qe_end rfl rfl ?_
    simp only [Bool.false_eq_true, if_false] at H
    have H := Own.arr [7, 7, 7, 6, 6, 6, 7, 7] H
    simp only [arrs, Fw.front, zm1, zm2, zm3, zm4, zm5] at H
    replace H := H.sub (.cons_cons _ (.cons_cons _ (.cons_cons _ (.cons_cons _ (.cons_cons _ (.cons_cons _ (.cons_cons _ (.cons_cons _ (.cons _ (.cons _ (List.Sublist.refl _)))))))))))
    exact ⟨rfl, H⟩

theorem count_fewA {B w : World} {F : List Ent} {g : Nat} {p : PS} {m : GM} {ht hm hc : Nat} {ha : Option Nat} {hs : List Int} {qt qm qc : Nat} {qa : Option Nat} {ms : List (Int × GM)} {cm : Cmd} (H : Own B (.cells g 80 p.cells :: .row p.ga p.gc 3 1 p.gs.length (ints p.gs) :: .cells ht 109 [slv ha p.gs.length hc, .int .i64 ((p.gs.length : Int) + 1), .map (some hm)] :: .row ha hc 3 1 p.gs.length (ints p.gs) :: .imap hm (heardK hs) :: .cells qt 145 [slv qa p.gs.length qc, .int .i64 ((p.gs.length : Int) / 2 + 1), .map (some qm)] :: .row qa qc 3 1 p.gs.length (ints p.gs) :: .imap qm (kvM ms) :: F) w) (hn : p.gs.length ≤ 1000000) (hi : p.ph = phA qt cm) (hkd : m.kind = 15) (hst : p.own m = true) (hh : p.hd = .pointer (some ⟨ht, 0, none⟩)) (hl : hs.length ≤ p.gs.length) (hf : p.fresh hs m.fi = true) (hk2 : p.takes ms m.fi m = false) :
    Calls Try.prog 49 #[.pointer (some ⟨g, 0, none⟩), .agg m.cells.toArray] w fun e w' => e = .returned (slv none 0 0) ∧ Own B (.cells g 80 p.cells :: .row p.ga p.gc 3 1 p.gs.length (ints p.gs) :: .cells ht 109 [slv ha p.gs.length hc, .int .i64 ((p.gs.length : Int) + 1), .map (some hm)] :: .row ha hc 3 1 p.gs.length (ints p.gs) :: .imap hm (heardK (hs ++ [m.fi])) :: .cells qt 145 [slv qa p.gs.length qc, .int .i64 ((p.gs.length : Int) / 2 + 1), .map (some qm)] :: .row qa qc 3 1 p.gs.length (ints p.gs) :: .imap qm (kvM (p.took ms m.fi m)) :: F) w' := by
  refine calls_ce (args := [.pointer (some ⟨g, 0, none⟩), .agg m.cells.toArray]) Try.func49 rfl rfl ?_
  change CE _ _ 73 _ _ [(0, .pointer (some ⟨g, 0, none⟩)), (1, .agg m.cells.toArray)] _
  refine ce_seq ?_
  refine ce_text (tab := []) (soft := 2) (.op 0 (.op 1 .nil)) rfl rfl ?_
  refine re_box H rfl rfl rfl rfl rfl rfl ?_
  intro g3 w H
  refine ⟨(fun h => (nomatch h)), ?_⟩
  refine re_assign rfl rfl rfl rfl rfl ?_
  refine re_nil ?_
  refine qe_thenC ?_
  refine ce_seq ?_
  refine ce_seq ?_
  refine ce_open (tab := [0, 1, 0, 4, 15]) (soft := 23) mixed (.op 0 (.op 1 (.op 2 (.op 3 (.op 4 .nil))))) (by kernel_rfl) H ?_
  intro w H
  first | refine re_field0 rfl rfl rfl rfl rfl fo_46_6 ?_ | refine re_field rfl rfl rfl rfl rfl fo_46_6 ?_ | refine re_fieldA rfl rfl rfl rfl rfl fo_46_6 ?_
  refine re_load H rfl rfl rfl rfl rfl sh_38 (by first | exact rdAt_all rfl | (simp only [rdAt, PS.cells, PS.over, GM.cells, Cmd.cells, List.cons_append, List.nil_append, List.drop_succ_cons, List.drop_zero, List.take_succ_cons, List.take_zero, List.length_cons, List.length_nil, Nat.zero_add, Nat.reduceAdd, Nat.reduceLeDiff, Nat.le_refl, ↓reduceIte] <;> rfl)) ?_
  refine re_move rfl rfl rfl rfl rfl ?_
  refine re_call en_72 rfl rfl rfl rfl rfl ?_
  have H := H.front 1
  simp only [arrs, Fw.front, zm1, zm2, zm3, zm4, zm5] at H
  refine Calls.mono (stamp_s H) ?_
  rintro e w ⟨rfl, H⟩
  refine ⟨_, rfl, (fun _ => ⟨fun _ => still_load H sh_38 (by first | exact rdAt_all rfl | (simp only [rdAt, PS.cells, PS.over, GM.cells, Cmd.cells, List.cons_append, List.nil_append, List.drop_succ_cons, List.drop_zero, List.take_succ_cons, List.take_zero, List.length_cons, List.length_nil, Nat.zero_add, Nat.reduceAdd, Nat.reduceLeDiff, Nat.le_refl, ↓reduceIte] <;> rfl)), trivial⟩), ?_⟩
  refine re_neAgg rfl rfl rfl rfl rfl rfl fk_38 sh_38 ng_38 (by simp only [eqKs, eqK, ↓reduceIte]; rfl) ?_
  refine re_nil ?_
  refine qe_noPanic ?_
  refine qe_thenC ?_
  refine ce_cond rfl (fun h0 => ?_) (fun h0 => ?_)
  · try simp only [zn1, zn2, zn3, zn4, zn5, zn6] at h0
    exact absurd ((show p.own m = false from h0).symm.trans hst) (by simp)
  · try simp only [zn1, zn2, zn3, zn4, zn5, zn6] at h0
    refine ce_skip ?_
    refine qe_thenC ?_
    refine ce_seq ?_
    refine ce_seq ?_
    refine ce_text (tab := []) (soft := 15) (.op 0 (.op 1 (.op 2 (.op 3 .nil)))) rfl rfl ?_
    refine re_move rfl rfl rfl rfl rfl ?_
    refine re_nilc rfl rfl rfl rfl rfl ?_
    first | refine re_field0 rfl rfl rfl rfl rfl fo_80_10 ?_ | refine re_field rfl rfl rfl rfl rfl fo_80_10 ?_ | refine re_fieldA rfl rfl rfl rfl rfl fo_80_10 ?_
    refine re_load H rfl rfl rfl rfl rfl sh_76 rfl ?_
    refine re_nil ?_
    refine qe_thenC ?_
    refine ce_block ?_
    refine ce_seq ?_
    refine ce_text (tab := []) (soft := 7) (.op 0 (.op 1 (.op 2 .nil))) rfl rfl ?_
    simp only [hi]
    refine re_isNotT rfl rfl rfl rfl rfl nif_131 rfl zv_131 ?_
    refine re_extract rfl rfl rfl rfl rfl rfl ?_
    refine re_extract rfl rfl rfl rfl rfl rfl ?_
    refine re_nil ?_
    refine qe_thenC ?_
    refine ce_condF rfl ?_
    refine ce_seq ?_
    refine ce_text (tab := []) (soft := 7) (.op 0 (.op 1 (.op 2 .nil))) rfl rfl ?_
    refine re_isT rfl rfl rfl rfl rfl nif_137 ?_
    refine re_extract rfl rfl rfl rfl rfl rfl ?_
    refine re_extract rfl rfl rfl rfl rfl rfl ?_
    refine re_nil ?_
    refine qe_thenC ?_
    refine ce_condT rfl ?_
    refine ce_seq ?_
    refine ce_text (tab := []) (soft := 0) (.op 0 (.op 1 .nil)) rfl rfl ?_
    refine re_alloc H rfl rfl rfl rfl ze_137 ?_
    intro g6 w H
    refine ⟨(fun h => (nomatch h)), ?_⟩
    refine re_store H rfl rfl rfl rfl rfl rfl sh_137 rfl rfl rfl ?_
    intro cs w hcs H
    first | rw [setMany_whole rfl] at hcs | simp only [setMany, List.set_cons_zero, List.set_cons_succ, Nat.reduceAdd, Nat.zero_add, PS.cells, PS.over, GM.cells, Cmd.cells, List.cons_append, List.nil_append] at hcs
    subst hcs
    refine ⟨(fun h => (nomatch h)), ?_⟩
    refine re_nil ?_
    refine qe_thenC ?_
    refine ce_seq ?_
    refine ce_text (tab := []) (soft := 98239) (.op 0 (.op 1 (.op 2 (.op 3 (.op 4 (.op 5 (.op 6 (.op 7 (.op 8 (.op 9 (.op 10 (.op 11 (.op 12 (.op 13 (.op 14 (.op 15 (.op 16 .nil))))))))))))))))) rfl rfl ?_
    first | refine re_field0 rfl rfl rfl rfl rfl fo_46_0 ?_ | refine re_field rfl rfl rfl rfl rfl fo_46_0 ?_ | refine re_fieldA rfl rfl rfl rfl rfl fo_46_0 ?_
    refine re_load H rfl rfl rfl rfl rfl sh_3 rfl ?_
    refine re_bin rfl rfl rfl rfl rfl rfl rfl ?_
    have hk : decide (m.kind = 15) = true := by simp [hkd]
    simp only [hk]
    refine re_move rfl rfl rfl rfl rfl ?_
    refine re_move rfl rfl rfl rfl rfl ?_
    refine re_load H rfl rfl rfl rfl rfl sh_46 (by first | exact rdAt_all rfl | (simp only [rdAt, PS.cells, PS.over, GM.cells, Cmd.cells, List.cons_append, List.nil_append, List.drop_succ_cons, List.drop_zero, List.take_succ_cons, List.take_zero, List.length_cons, List.length_nil, Nat.zero_add, Nat.reduceAdd, Nat.reduceLeDiff, Nat.le_refl, ↓reduceIte] <;> rfl)) ?_
    refine re_call en_48 rfl rfl rfl rfl rfl ?_
    have H := Own.arr [2, 1, 9, 9, 9, 6, 9, 9, 9, 9] H
    simp only [arrs, Fw.front, zm1, zm2, zm3, zm4, zm5] at H
    refine Calls.mono (fresh_s H hh hn hl) ?_
    rintro e w ⟨rfl, H⟩
    simp only [hf] at H ⊢
    refine ⟨_, rfl, (fun h => (nomatch h)), ?_⟩
    refine re_pickT rfl rfl rfl rfl rfl rfl ?_
    refine re_move rfl rfl rfl rfl rfl ?_
    first | refine re_field0 rfl rfl rfl rfl rfl fo_137_0 ?_ | refine re_field rfl rfl rfl rfl rfl fo_137_0 ?_ | refine re_fieldA rfl rfl rfl rfl rfl fo_137_0 ?_
    refine re_load H rfl rfl rfl rfl rfl sh_128 rfl ?_
    first | refine re_field0 rfl rfl rfl rfl rfl fo_46_1 ?_ | refine re_field rfl rfl rfl rfl rfl fo_46_1 ?_ | refine re_fieldA rfl rfl rfl rfl rfl fo_46_1 ?_
    first | refine re_field0 rfl rfl rfl rfl rfl fo_36_1 ?_ | refine re_field rfl rfl rfl rfl rfl fo_36_1 ?_ | refine re_fieldA rfl rfl rfl rfl rfl fo_36_1 ?_
    refine re_load H rfl rfl rfl rfl rfl sh_3 rfl ?_
    refine re_load H rfl rfl rfl rfl rfl sh_46 (by first | exact rdAt_all rfl | (simp only [rdAt, PS.cells, PS.over, GM.cells, Cmd.cells, List.cons_append, List.nil_append, List.drop_succ_cons, List.drop_zero, List.take_succ_cons, List.take_zero, List.length_cons, List.length_nil, Nat.zero_add, Nat.reduceAdd, Nat.reduceLeDiff, Nat.le_refl, ↓reduceIte] <;> rfl)) ?_
    refine re_call en_73 rfl rfl rfl rfl rfl ?_
    have H := Own.arr [7, 7, 7] H
    simp only [arrs, Fw.front, zm1, zm2, zm3, zm4, zm5] at H
    refine Calls.mono (takeM H hn) ?_
    rintro e w ⟨rfl, H⟩
    rw [took_eq] at H
    rw [show takes _ _ _ _ _ = _ from hk2]
    refine ⟨_, rfl, (fun h => (nomatch h)), ?_⟩
    refine re_pickT rfl rfl rfl rfl rfl rfl ?_
    refine re_nil ?_
    refine qe_thenC ?_
    refine ce_condF rfl ?_
    refine ce_skip ?_
    refine qe_block_norm ?_
    refine qe_thenC ?_
    refine ce_seq ?_
    refine ce_text (tab := []) (soft := 1) (.op 0 .nil) rfl rfl ?_
    refine re_assign rfl rfl rfl rfl rfl ?_
    refine re_nil ?_
    refine qe_thenC ?_
    refine ce_ret ?_
    refine qe_end rfl rfl ?_
    simp only [if_true] at H
    have H := Own.arr [2, 2, 2, 6, 6, 6, 7, 7] H
    simp only [arrs, Fw.front, zm1, zm2, zm3, zm4, zm5] at H
    replace H := H.sub (.cons_cons _ (.cons_cons _ (.cons_cons _ (.cons_cons _ (.cons_cons _ (.cons_cons _ (.cons_cons _ (.cons_cons _ (.cons _ (.cons _ (List.Sublist.refl _)))))))))))
    exact ⟨rfl, H⟩

theorem count_worn {B w : World} {F : List Ent} {g : Nat} {p : PS} {m : GM} {ht hm hc : Nat} {ha : Option Nat} {hs : List Int} {qt qm qc : Nat} {qa : Option Nat} {ms : List (Int × GM)} (H : Own B (.cells g 80 p.cells :: .row p.ga p.gc 3 1 p.gs.length (ints p.gs) :: .cells ht 109 [slv ha p.gs.length hc, .int .i64 ((p.gs.length : Int) + 1), .map (some hm)] :: .row ha hc 3 1 p.gs.length (ints p.gs) :: .imap hm (heardK hs) :: .cells qt 145 [slv qa p.gs.length qc, .int .i64 ((p.gs.length : Int) / 2 + 1), .map (some qm)] :: .row qa qc 3 1 p.gs.length (ints p.gs) :: .imap qm (kvM ms) :: F) w) (hn : p.gs.length ≤ 1000000) (hi : p.ph = phP qt) (hkd : m.kind = 13) (hst : p.own m = true) (hh : p.hd = .pointer (some ⟨ht, 0, none⟩)) (hl : hs.length ≤ p.gs.length) (hf : p.fresh hs m.fi = true) (hk2 : p.takes ms m.fi m = true) (hu : unlike p.gs = p.gs) (hw : 1099511627776 ≤ p.rnd) :
    Calls Try.prog 49 #[.pointer (some ⟨g, 0, none⟩), .agg m.cells.toArray] w fun e w' => e = .returned (slv none 0 0) ∧ Own B (.cells g 80 { p.over with wn := true }.cells :: .row p.ga p.gc 3 1 p.gs.length (ints p.gs) :: F) w' := by
  refine calls_ce (args := [.pointer (some ⟨g, 0, none⟩), .agg m.cells.toArray]) Try.func49 rfl rfl ?_
  change CE _ _ 73 _ _ [(0, .pointer (some ⟨g, 0, none⟩)), (1, .agg m.cells.toArray)] _
  refine ce_seq ?_
  refine ce_text (tab := []) (soft := 2) (.op 0 (.op 1 .nil)) rfl rfl ?_
  refine re_box H rfl rfl rfl rfl rfl rfl ?_
  intro g3 w H
  refine ⟨(fun h => (nomatch h)), ?_⟩
  refine re_assign rfl rfl rfl rfl rfl ?_
  refine re_nil ?_
  refine qe_thenC ?_
  refine ce_seq ?_
  refine ce_seq ?_
  refine ce_open (tab := [0, 1, 0, 4, 15]) (soft := 23) mixed (.op 0 (.op 1 (.op 2 (.op 3 (.op 4 .nil))))) (by kernel_rfl) H ?_
  intro w H
  first | refine re_field0 rfl rfl rfl rfl rfl fo_46_6 ?_ | refine re_field rfl rfl rfl rfl rfl fo_46_6 ?_ | refine re_fieldA rfl rfl rfl rfl rfl fo_46_6 ?_
  refine re_load H rfl rfl rfl rfl rfl sh_38 (by first | exact rdAt_all rfl | (simp only [rdAt, PS.cells, PS.over, GM.cells, Cmd.cells, List.cons_append, List.nil_append, List.drop_succ_cons, List.drop_zero, List.take_succ_cons, List.take_zero, List.length_cons, List.length_nil, Nat.zero_add, Nat.reduceAdd, Nat.reduceLeDiff, Nat.le_refl, ↓reduceIte] <;> rfl)) ?_
  refine re_move rfl rfl rfl rfl rfl ?_
  refine re_call en_72 rfl rfl rfl rfl rfl ?_
  have H := H.front 1
  simp only [arrs, Fw.front, zm1, zm2, zm3, zm4, zm5] at H
  refine Calls.mono (stamp_s H) ?_
  rintro e w ⟨rfl, H⟩
  refine ⟨_, rfl, (fun _ => ⟨fun _ => still_load H sh_38 (by first | exact rdAt_all rfl | (simp only [rdAt, PS.cells, PS.over, GM.cells, Cmd.cells, List.cons_append, List.nil_append, List.drop_succ_cons, List.drop_zero, List.take_succ_cons, List.take_zero, List.length_cons, List.length_nil, Nat.zero_add, Nat.reduceAdd, Nat.reduceLeDiff, Nat.le_refl, ↓reduceIte] <;> rfl)), trivial⟩), ?_⟩
  refine re_neAgg rfl rfl rfl rfl rfl rfl fk_38 sh_38 ng_38 (by simp only [eqKs, eqK, ↓reduceIte]; rfl) ?_
  refine re_nil ?_
  refine qe_noPanic ?_
  refine qe_thenC ?_
  refine ce_cond rfl (fun h0 => ?_) (fun h0 => ?_)
  · try simp only [zn1, zn2, zn3, zn4, zn5, zn6] at h0
    exact absurd ((show p.own m = false from h0).symm.trans hst) (by simp)
  · try simp only [zn1, zn2, zn3, zn4, zn5, zn6] at h0
    refine ce_skip ?_
    refine qe_thenC ?_
    refine ce_seq ?_
    refine ce_seq ?_
    refine ce_text (tab := []) (soft := 15) (.op 0 (.op 1 (.op 2 (.op 3 .nil)))) rfl rfl ?_
    refine re_move rfl rfl rfl rfl rfl ?_
    refine re_nilc rfl rfl rfl rfl rfl ?_
    first | refine re_field0 rfl rfl rfl rfl rfl fo_80_10 ?_ | refine re_field rfl rfl rfl rfl rfl fo_80_10 ?_ | refine re_fieldA rfl rfl rfl rfl rfl fo_80_10 ?_
    refine re_load H rfl rfl rfl rfl rfl sh_76 rfl ?_
    refine re_nil ?_
    refine qe_thenC ?_
    refine ce_block ?_
    refine ce_seq ?_
    refine ce_text (tab := []) (soft := 7) (.op 0 (.op 1 (.op 2 .nil))) rfl rfl ?_
    simp only [hi]
    refine re_isT rfl rfl rfl rfl rfl nif_131 ?_
    refine re_extract rfl rfl rfl rfl rfl rfl ?_
    refine re_extract rfl rfl rfl rfl rfl rfl ?_
    refine re_nil ?_
    refine qe_thenC ?_
    refine ce_condT rfl ?_
    refine ce_seq ?_
    refine ce_text (tab := []) (soft := 0) (.op 0 (.op 1 .nil)) rfl rfl ?_
    refine re_alloc H rfl rfl rfl rfl ze_131 ?_
    intro g5 w H
    refine ⟨(fun h => (nomatch h)), ?_⟩
    refine re_store H rfl rfl rfl rfl rfl rfl sh_131 rfl rfl rfl ?_
    intro cs w hcs H
    first | rw [setMany_whole rfl] at hcs | simp only [setMany, List.set_cons_zero, List.set_cons_succ, Nat.reduceAdd, Nat.zero_add, PS.cells, PS.over, GM.cells, Cmd.cells, List.cons_append, List.nil_append] at hcs
    subst hcs
    refine ⟨(fun h => (nomatch h)), ?_⟩
    refine re_nil ?_
    refine qe_thenC ?_
    refine ce_seq ?_
    refine ce_text (tab := []) (soft := 98239) (.op 0 (.op 1 (.op 2 (.op 3 (.op 4 (.op 5 (.op 6 (.op 7 (.op 8 (.op 9 (.op 10 (.op 11 (.op 12 (.op 13 (.op 14 (.op 15 (.op 16 .nil))))))))))))))))) rfl rfl ?_
    first | refine re_field0 rfl rfl rfl rfl rfl fo_46_0 ?_ | refine re_field rfl rfl rfl rfl rfl fo_46_0 ?_ | refine re_fieldA rfl rfl rfl rfl rfl fo_46_0 ?_
    refine re_load H rfl rfl rfl rfl rfl sh_3 rfl ?_
    refine re_bin rfl rfl rfl rfl rfl rfl rfl ?_
    have hk : decide (m.kind = 13) = true := by simp [hkd]
    simp only [hk]
    refine re_move rfl rfl rfl rfl rfl ?_
    refine re_move rfl rfl rfl rfl rfl ?_
    refine re_load H rfl rfl rfl rfl rfl sh_46 (by first | exact rdAt_all rfl | (simp only [rdAt, PS.cells, PS.over, GM.cells, Cmd.cells, List.cons_append, List.nil_append, List.drop_succ_cons, List.drop_zero, List.take_succ_cons, List.take_zero, List.length_cons, List.length_nil, Nat.zero_add, Nat.reduceAdd, Nat.reduceLeDiff, Nat.le_refl, ↓reduceIte] <;> rfl)) ?_
    refine re_call en_48 rfl rfl rfl rfl rfl ?_
    have H := Own.arr [2, 1, 9, 9, 9, 6, 9, 9, 9, 9] H
    simp only [arrs, Fw.front, zm1, zm2, zm3, zm4, zm5] at H
    refine Calls.mono (fresh_s H hh hn hl) ?_
    rintro e w ⟨rfl, H⟩
    simp only [hf] at H ⊢
    refine ⟨_, rfl, (fun h => (nomatch h)), ?_⟩
    refine re_pickT rfl rfl rfl rfl rfl rfl ?_
    refine re_move rfl rfl rfl rfl rfl ?_
    first | refine re_field0 rfl rfl rfl rfl rfl fo_131_0 ?_ | refine re_field rfl rfl rfl rfl rfl fo_131_0 ?_ | refine re_fieldA rfl rfl rfl rfl rfl fo_131_0 ?_
    refine re_load H rfl rfl rfl rfl rfl sh_128 rfl ?_
    first | refine re_field0 rfl rfl rfl rfl rfl fo_46_1 ?_ | refine re_field rfl rfl rfl rfl rfl fo_46_1 ?_ | refine re_fieldA rfl rfl rfl rfl rfl fo_46_1 ?_
    first | refine re_field0 rfl rfl rfl rfl rfl fo_36_1 ?_ | refine re_field rfl rfl rfl rfl rfl fo_36_1 ?_ | refine re_fieldA rfl rfl rfl rfl rfl fo_36_1 ?_
    refine re_load H rfl rfl rfl rfl rfl sh_3 rfl ?_
    refine re_load H rfl rfl rfl rfl rfl sh_46 (by first | exact rdAt_all rfl | (simp only [rdAt, PS.cells, PS.over, GM.cells, Cmd.cells, List.cons_append, List.nil_append, List.drop_succ_cons, List.drop_zero, List.take_succ_cons, List.take_zero, List.length_cons, List.length_nil, Nat.zero_add, Nat.reduceAdd, Nat.reduceLeDiff, Nat.le_refl, ↓reduceIte] <;> rfl)) ?_
    refine re_call en_73 rfl rfl rfl rfl rfl ?_
    have H := Own.arr [7, 7, 7] H
    simp only [arrs, Fw.front, zm1, zm2, zm3, zm4, zm5] at H
    refine Calls.mono (takeM H hn) ?_
    rintro e w ⟨rfl, H⟩
    rw [took_eq] at H
    rw [show takes _ _ _ _ _ = _ from hk2]
    refine ⟨_, rfl, (fun h => (nomatch h)), ?_⟩
    refine re_pickT rfl rfl rfl rfl rfl rfl ?_
    refine re_nil ?_
    refine qe_thenC ?_
    refine ce_condT rfl ?_
    refine ce_seq ?_
    refine ce_text (tab := []) (soft := 23) (.op 0 (.op 1 (.op 2 (.op 3 (.op 4 .nil))))) rfl rfl ?_
    refine re_move rfl rfl rfl rfl rfl ?_
    first | refine re_field0 rfl rfl rfl rfl rfl fo_131_0 ?_ | refine re_field rfl rfl rfl rfl rfl fo_131_0 ?_ | refine re_fieldA rfl rfl rfl rfl rfl fo_131_0 ?_
    refine re_load H rfl rfl rfl rfl rfl sh_128 rfl ?_
    refine re_call en_74 rfl rfl rfl rfl rfl ?_
    have H := Own.arr [2, 2, 2, 7, 4] H
    simp only [arrs, Fw.front, zm1, zm2, zm3, zm4, zm5] at H
    replace H := H.sub (.cons_cons _ (.cons_cons _ (.cons_cons _ (.cons_cons _ (.cons_cons _ (.cons _ (.cons _ (.cons _ (.cons _ (.cons _ (List.Sublist.refl _)))))))))))
    refine Calls.mono (accept_worn H hn hu hw) ?_
    rintro e w ⟨rfl, H⟩
    refine ⟨_, rfl, (fun h => (nomatch h)), ?_⟩
    refine re_assign rfl rfl rfl rfl rfl ?_
    refine re_nil ?_
    refine qe_thenC ?_
    refine ce_ret ?_
    refine qe_block_ret ?_
    refine qe_then_ret ?_
    refine qe_end rfl rfl ?_
    exact ⟨rfl, H⟩

theorem count_accept {B w : World} {F : List Ent} {g : Nat} {p : PS} {m : GM} {ht hm hc : Nat} {ha : Option Nat} {hs : List Int} {qt qm qc : Nat} {qa : Option Nat} {ms : List (Int × GM)} (H : Own B (.cells g 80 p.cells :: .row p.ga p.gc 3 1 p.gs.length (ints p.gs) :: .cells ht 109 [slv ha p.gs.length hc, .int .i64 ((p.gs.length : Int) + 1), .map (some hm)] :: .row ha hc 3 1 p.gs.length (ints p.gs) :: .imap hm (heardK hs) :: .cells qt 145 [slv qa p.gs.length qc, .int .i64 ((p.gs.length : Int) / 2 + 1), .map (some qm)] :: .row qa qc 3 1 p.gs.length (ints p.gs) :: .imap qm (kvM ms) :: F) w) (hn : p.gs.length ≤ 1000000) (hi : p.ph = phP qt) (hkd : m.kind = 13) (hst : p.own m = true) (hh : p.hd = .pointer (some ⟨ht, 0, none⟩)) (hl : hs.length ≤ p.gs.length) (hf : p.fresh hs m.fi = true) (hk2 : p.takes ms m.fi m = true) (hu : unlike p.gs = p.gs) (hw : p.rnd < 1099511627776) (hlo : -1 ≤ p.rnd) :
    Calls Try.prog 49 #[.pointer (some ⟨g, 0, none⟩), .agg m.cells.toArray] w fun e w' => ∃ ht ha hc hm qt qa qc qm a c, e = .returned (slv a (p.next.outA (p.chosen (p.took ms m.fi m)) p.gs).length c) ∧ Own B (.row a c 46 30 (p.next.outA (p.chosen (p.took ms m.fi m)) p.gs).length (msgs (p.next.outA (p.chosen (p.took ms m.fi m)) p.gs)) :: .cells g 80 (p.next.enter (phA qt (p.chosen (p.took ms m.fi m))) ht).cells :: .row p.ga p.gc 3 1 p.gs.length (ints p.gs) :: .cells ht 109 [slv ha p.gs.length hc, .int .i64 ((p.gs.length : Int) + 1), .map (some hm)] :: .row ha hc 3 1 p.gs.length (ints p.gs) :: .imap hm (heardK []) :: .cells qt 145 [slv qa p.gs.length qc, .int .i64 ((p.gs.length : Int) / 2 + 1), .map (some qm)] :: .row qa qc 3 1 p.gs.length (ints p.gs) :: .imap qm (kvM []) :: F) w' := by
  refine calls_ce (args := [.pointer (some ⟨g, 0, none⟩), .agg m.cells.toArray]) Try.func49 rfl rfl ?_
  change CE _ _ 73 _ _ [(0, .pointer (some ⟨g, 0, none⟩)), (1, .agg m.cells.toArray)] _
  refine ce_seq ?_
  refine ce_text (tab := []) (soft := 2) (.op 0 (.op 1 .nil)) rfl rfl ?_
  refine re_box H rfl rfl rfl rfl rfl rfl ?_
  intro g3 w H
  refine ⟨(fun h => (nomatch h)), ?_⟩
  refine re_assign rfl rfl rfl rfl rfl ?_
  refine re_nil ?_
  refine qe_thenC ?_
  refine ce_seq ?_
  refine ce_seq ?_
  refine ce_open (tab := [0, 1, 0, 4, 15]) (soft := 23) mixed (.op 0 (.op 1 (.op 2 (.op 3 (.op 4 .nil))))) (by kernel_rfl) H ?_
  intro w H
  first | refine re_field0 rfl rfl rfl rfl rfl fo_46_6 ?_ | refine re_field rfl rfl rfl rfl rfl fo_46_6 ?_ | refine re_fieldA rfl rfl rfl rfl rfl fo_46_6 ?_
  refine re_load H rfl rfl rfl rfl rfl sh_38 (by first | exact rdAt_all rfl | (simp only [rdAt, PS.cells, PS.over, GM.cells, Cmd.cells, List.cons_append, List.nil_append, List.drop_succ_cons, List.drop_zero, List.take_succ_cons, List.take_zero, List.length_cons, List.length_nil, Nat.zero_add, Nat.reduceAdd, Nat.reduceLeDiff, Nat.le_refl, ↓reduceIte] <;> rfl)) ?_
  refine re_move rfl rfl rfl rfl rfl ?_
  refine re_call en_72 rfl rfl rfl rfl rfl ?_
  have H := H.front 1
  simp only [arrs, Fw.front, zm1, zm2, zm3, zm4, zm5] at H
  refine Calls.mono (stamp_s H) ?_
  rintro e w ⟨rfl, H⟩
  refine ⟨_, rfl, (fun _ => ⟨fun _ => still_load H sh_38 (by first | exact rdAt_all rfl | (simp only [rdAt, PS.cells, PS.over, GM.cells, Cmd.cells, List.cons_append, List.nil_append, List.drop_succ_cons, List.drop_zero, List.take_succ_cons, List.take_zero, List.length_cons, List.length_nil, Nat.zero_add, Nat.reduceAdd, Nat.reduceLeDiff, Nat.le_refl, ↓reduceIte] <;> rfl)), trivial⟩), ?_⟩
  refine re_neAgg rfl rfl rfl rfl rfl rfl fk_38 sh_38 ng_38 (by simp only [eqKs, eqK, ↓reduceIte]; rfl) ?_
  refine re_nil ?_
  refine qe_noPanic ?_
  refine qe_thenC ?_
  refine ce_cond rfl (fun h0 => ?_) (fun h0 => ?_)
  · try simp only [zn1, zn2, zn3, zn4, zn5, zn6] at h0
    exact absurd ((show p.own m = false from h0).symm.trans hst) (by simp)
  · try simp only [zn1, zn2, zn3, zn4, zn5, zn6] at h0
    refine ce_skip ?_
    refine qe_thenC ?_
    refine ce_seq ?_
    refine ce_seq ?_
    refine ce_text (tab := []) (soft := 15) (.op 0 (.op 1 (.op 2 (.op 3 .nil)))) rfl rfl ?_
    refine re_move rfl rfl rfl rfl rfl ?_
    refine re_nilc rfl rfl rfl rfl rfl ?_
    first | refine re_field0 rfl rfl rfl rfl rfl fo_80_10 ?_ | refine re_field rfl rfl rfl rfl rfl fo_80_10 ?_ | refine re_fieldA rfl rfl rfl rfl rfl fo_80_10 ?_
    refine re_load H rfl rfl rfl rfl rfl sh_76 rfl ?_
    refine re_nil ?_
    refine qe_thenC ?_
    refine ce_block ?_
    refine ce_seq ?_
    refine ce_text (tab := []) (soft := 7) (.op 0 (.op 1 (.op 2 .nil))) rfl rfl ?_
    simp only [hi]
    refine re_isT rfl rfl rfl rfl rfl nif_131 ?_
    refine re_extract rfl rfl rfl rfl rfl rfl ?_
    refine re_extract rfl rfl rfl rfl rfl rfl ?_
    refine re_nil ?_
    refine qe_thenC ?_
    refine ce_condT rfl ?_
    refine ce_seq ?_
    refine ce_text (tab := []) (soft := 0) (.op 0 (.op 1 .nil)) rfl rfl ?_
    refine re_alloc H rfl rfl rfl rfl ze_131 ?_
    intro g5 w H
    refine ⟨(fun h => (nomatch h)), ?_⟩
    refine re_store H rfl rfl rfl rfl rfl rfl sh_131 rfl rfl rfl ?_
    intro cs w hcs H
    first | rw [setMany_whole rfl] at hcs | simp only [setMany, List.set_cons_zero, List.set_cons_succ, Nat.reduceAdd, Nat.zero_add, PS.cells, PS.over, GM.cells, Cmd.cells, List.cons_append, List.nil_append] at hcs
    subst hcs
    refine ⟨(fun h => (nomatch h)), ?_⟩
    refine re_nil ?_
    refine qe_thenC ?_
    refine ce_seq ?_
    refine ce_text (tab := []) (soft := 98239) (.op 0 (.op 1 (.op 2 (.op 3 (.op 4 (.op 5 (.op 6 (.op 7 (.op 8 (.op 9 (.op 10 (.op 11 (.op 12 (.op 13 (.op 14 (.op 15 (.op 16 .nil))))))))))))))))) rfl rfl ?_
    first | refine re_field0 rfl rfl rfl rfl rfl fo_46_0 ?_ | refine re_field rfl rfl rfl rfl rfl fo_46_0 ?_ | refine re_fieldA rfl rfl rfl rfl rfl fo_46_0 ?_
    refine re_load H rfl rfl rfl rfl rfl sh_3 rfl ?_
    refine re_bin rfl rfl rfl rfl rfl rfl rfl ?_
    have hk : decide (m.kind = 13) = true := by simp [hkd]
    simp only [hk]
    refine re_move rfl rfl rfl rfl rfl ?_
    refine re_move rfl rfl rfl rfl rfl ?_
    refine re_load H rfl rfl rfl rfl rfl sh_46 (by first | exact rdAt_all rfl | (simp only [rdAt, PS.cells, PS.over, GM.cells, Cmd.cells, List.cons_append, List.nil_append, List.drop_succ_cons, List.drop_zero, List.take_succ_cons, List.take_zero, List.length_cons, List.length_nil, Nat.zero_add, Nat.reduceAdd, Nat.reduceLeDiff, Nat.le_refl, ↓reduceIte] <;> rfl)) ?_
    refine re_call en_48 rfl rfl rfl rfl rfl ?_
    have H := Own.arr [2, 1, 9, 9, 9, 6, 9, 9, 9, 9] H
    simp only [arrs, Fw.front, zm1, zm2, zm3, zm4, zm5] at H
    refine Calls.mono (fresh_s H hh hn hl) ?_
    rintro e w ⟨rfl, H⟩
    simp only [hf] at H ⊢
    refine ⟨_, rfl, (fun h => (nomatch h)), ?_⟩
    refine re_pickT rfl rfl rfl rfl rfl rfl ?_
    refine re_move rfl rfl rfl rfl rfl ?_
    first | refine re_field0 rfl rfl rfl rfl rfl fo_131_0 ?_ | refine re_field rfl rfl rfl rfl rfl fo_131_0 ?_ | refine re_fieldA rfl rfl rfl rfl rfl fo_131_0 ?_
    refine re_load H rfl rfl rfl rfl rfl sh_128 rfl ?_
    first | refine re_field0 rfl rfl rfl rfl rfl fo_46_1 ?_ | refine re_field rfl rfl rfl rfl rfl fo_46_1 ?_ | refine re_fieldA rfl rfl rfl rfl rfl fo_46_1 ?_
    first | refine re_field0 rfl rfl rfl rfl rfl fo_36_1 ?_ | refine re_field rfl rfl rfl rfl rfl fo_36_1 ?_ | refine re_fieldA rfl rfl rfl rfl rfl fo_36_1 ?_
    refine re_load H rfl rfl rfl rfl rfl sh_3 rfl ?_
    refine re_load H rfl rfl rfl rfl rfl sh_46 (by first | exact rdAt_all rfl | (simp only [rdAt, PS.cells, PS.over, GM.cells, Cmd.cells, List.cons_append, List.nil_append, List.drop_succ_cons, List.drop_zero, List.take_succ_cons, List.take_zero, List.length_cons, List.length_nil, Nat.zero_add, Nat.reduceAdd, Nat.reduceLeDiff, Nat.le_refl, ↓reduceIte] <;> rfl)) ?_
    refine re_call en_73 rfl rfl rfl rfl rfl ?_
    have H := Own.arr [7, 7, 7] H
    simp only [arrs, Fw.front, zm1, zm2, zm3, zm4, zm5] at H
    refine Calls.mono (takeM H hn) ?_
    rintro e w ⟨rfl, H⟩
    rw [took_eq] at H
    rw [show takes _ _ _ _ _ = _ from hk2]
    refine ⟨_, rfl, (fun h => (nomatch h)), ?_⟩
    refine re_pickT rfl rfl rfl rfl rfl rfl ?_
    refine re_nil ?_
    refine qe_thenC ?_
    refine ce_condT rfl ?_
    refine ce_seq ?_
    refine ce_text (tab := []) (soft := 23) (.op 0 (.op 1 (.op 2 (.op 3 (.op 4 .nil))))) rfl rfl ?_
    refine re_move rfl rfl rfl rfl rfl ?_
    first | refine re_field0 rfl rfl rfl rfl rfl fo_131_0 ?_ | refine re_field rfl rfl rfl rfl rfl fo_131_0 ?_ | refine re_fieldA rfl rfl rfl rfl rfl fo_131_0 ?_
    refine re_load H rfl rfl rfl rfl rfl sh_128 rfl ?_
    refine re_call en_74 rfl rfl rfl rfl rfl ?_
    have H := Own.arr [2, 2, 2, 7, 4] H
    simp only [arrs, Fw.front, zm1, zm2, zm3, zm4, zm5] at H
    replace H := H.sub (.cons_cons _ (.cons_cons _ (.cons_cons _ (.cons_cons _ (.cons_cons _ (.cons _ (.cons _ (.cons _ (.cons _ (.cons _ (List.Sublist.refl _)))))))))))
    refine Calls.mono (accept_s H hn hu hw hlo) ?_
    rintro e w ⟨ht, ha, hc, hm, qt, qa, qc, qm, a, c, rfl, H⟩
    refine ⟨_, rfl, (fun h => (nomatch h)), ?_⟩
    refine re_assign rfl rfl rfl rfl rfl ?_
    refine re_nil ?_
    refine qe_thenC ?_
    refine ce_ret ?_
    refine qe_block_ret ?_
    refine qe_then_ret ?_
    refine qe_end rfl rfl ?_
    exact ⟨ht, ha, hc, hm, qt, qa, qc, qm, a, c, rfl, H⟩

theorem count_decide {B w : World} {F : List Ent} {g : Nat} {p : PS} {m : GM} {ht hm hc : Nat} {ha : Option Nat} {hs : List Int} {qt qm qc : Nat} {qa : Option Nat} {ms : List (Int × GM)} {cm : Cmd} (H : Own B (.cells g 80 p.cells :: .row p.ga p.gc 3 1 p.gs.length (ints p.gs) :: .cells ht 109 [slv ha p.gs.length hc, .int .i64 ((p.gs.length : Int) + 1), .map (some hm)] :: .row ha hc 3 1 p.gs.length (ints p.gs) :: .imap hm (heardK hs) :: .cells qt 145 [slv qa p.gs.length qc, .int .i64 ((p.gs.length : Int) / 2 + 1), .map (some qm)] :: .row qa qc 3 1 p.gs.length (ints p.gs) :: .imap qm (kvM ms) :: F) w) (hn : p.gs.length ≤ 1000000) (hi : p.ph = phA qt cm) (hkd : m.kind = 15) (hst : p.own m = true) (hh : p.hd = .pointer (some ⟨ht, 0, none⟩)) (hl : hs.length ≤ p.gs.length) (hf : p.fresh hs m.fi = true) (hk2 : p.takes ms m.fi m = true) :
    Calls Try.prog 49 #[.pointer (some ⟨g, 0, none⟩), .agg m.cells.toArray] w fun e w' => ∃ d a c, e = .returned (slv a (p.outL cm p.gs).length c) ∧ Own B (.row a c 46 30 (p.outL cm p.gs).length (msgs (p.outL cm p.gs)) :: .cells g 80 { p.over with dc := .pointer (some ⟨d, 0, none⟩) }.cells :: .row p.ga p.gc 3 1 p.gs.length (ints p.gs) :: .cells d 28 cm.cells :: F) w' := by
  refine calls_ce (args := [.pointer (some ⟨g, 0, none⟩), .agg m.cells.toArray]) Try.func49 rfl rfl ?_
  change CE _ _ 73 _ _ [(0, .pointer (some ⟨g, 0, none⟩)), (1, .agg m.cells.toArray)] _
  refine ce_seq ?_
  refine ce_text (tab := []) (soft := 2) (.op 0 (.op 1 .nil)) rfl rfl ?_
  refine re_box H rfl rfl rfl rfl rfl rfl ?_
  intro g3 w H
  refine ⟨(fun h => (nomatch h)), ?_⟩
  refine re_assign rfl rfl rfl rfl rfl ?_
  refine re_nil ?_
  refine qe_thenC ?_
  refine ce_seq ?_
  refine ce_seq ?_
  refine ce_open (tab := [0, 1, 0, 4, 15]) (soft := 23) mixed (.op 0 (.op 1 (.op 2 (.op 3 (.op 4 .nil))))) (by kernel_rfl) H ?_
  intro w H
  first | refine re_field0 rfl rfl rfl rfl rfl fo_46_6 ?_ | refine re_field rfl rfl rfl rfl rfl fo_46_6 ?_ | refine re_fieldA rfl rfl rfl rfl rfl fo_46_6 ?_
  refine re_load H rfl rfl rfl rfl rfl sh_38 (by first | exact rdAt_all rfl | (simp only [rdAt, PS.cells, PS.over, GM.cells, Cmd.cells, List.cons_append, List.nil_append, List.drop_succ_cons, List.drop_zero, List.take_succ_cons, List.take_zero, List.length_cons, List.length_nil, Nat.zero_add, Nat.reduceAdd, Nat.reduceLeDiff, Nat.le_refl, ↓reduceIte] <;> rfl)) ?_
  refine re_move rfl rfl rfl rfl rfl ?_
  refine re_call en_72 rfl rfl rfl rfl rfl ?_
  have H := H.front 1
  simp only [arrs, Fw.front, zm1, zm2, zm3, zm4, zm5] at H
  refine Calls.mono (stamp_s H) ?_
  rintro e w ⟨rfl, H⟩
  refine ⟨_, rfl, (fun _ => ⟨fun _ => still_load H sh_38 (by first | exact rdAt_all rfl | (simp only [rdAt, PS.cells, PS.over, GM.cells, Cmd.cells, List.cons_append, List.nil_append, List.drop_succ_cons, List.drop_zero, List.take_succ_cons, List.take_zero, List.length_cons, List.length_nil, Nat.zero_add, Nat.reduceAdd, Nat.reduceLeDiff, Nat.le_refl, ↓reduceIte] <;> rfl)), trivial⟩), ?_⟩
  refine re_neAgg rfl rfl rfl rfl rfl rfl fk_38 sh_38 ng_38 (by simp only [eqKs, eqK, ↓reduceIte]; rfl) ?_
  refine re_nil ?_
  refine qe_noPanic ?_
  refine qe_thenC ?_
  refine ce_cond rfl (fun h0 => ?_) (fun h0 => ?_)
  · try simp only [zn1, zn2, zn3, zn4, zn5, zn6] at h0
    exact absurd ((show p.own m = false from h0).symm.trans hst) (by simp)
  · try simp only [zn1, zn2, zn3, zn4, zn5, zn6] at h0
    refine ce_skip ?_
    refine qe_thenC ?_
    refine ce_seq ?_
    refine ce_seq ?_
    refine ce_text (tab := []) (soft := 15) (.op 0 (.op 1 (.op 2 (.op 3 .nil)))) rfl rfl ?_
    refine re_move rfl rfl rfl rfl rfl ?_
    refine re_nilc rfl rfl rfl rfl rfl ?_
    first | refine re_field0 rfl rfl rfl rfl rfl fo_80_10 ?_ | refine re_field rfl rfl rfl rfl rfl fo_80_10 ?_ | refine re_fieldA rfl rfl rfl rfl rfl fo_80_10 ?_
    refine re_load H rfl rfl rfl rfl rfl sh_76 rfl ?_
    refine re_nil ?_
    refine qe_thenC ?_
    refine ce_block ?_
    refine ce_seq ?_
    refine ce_text (tab := []) (soft := 7) (.op 0 (.op 1 (.op 2 .nil))) rfl rfl ?_
    simp only [hi]
    refine re_isNotT rfl rfl rfl rfl rfl nif_131 rfl zv_131 ?_
    refine re_extract rfl rfl rfl rfl rfl rfl ?_
    refine re_extract rfl rfl rfl rfl rfl rfl ?_
    refine re_nil ?_
    refine qe_thenC ?_
    refine ce_condF rfl ?_
    refine ce_seq ?_
    refine ce_text (tab := []) (soft := 7) (.op 0 (.op 1 (.op 2 .nil))) rfl rfl ?_
    refine re_isT rfl rfl rfl rfl rfl nif_137 ?_
    refine re_extract rfl rfl rfl rfl rfl rfl ?_
    refine re_extract rfl rfl rfl rfl rfl rfl ?_
    refine re_nil ?_
    refine qe_thenC ?_
    refine ce_condT rfl ?_
    refine ce_seq ?_
    refine ce_text (tab := []) (soft := 0) (.op 0 (.op 1 .nil)) rfl rfl ?_
    refine re_alloc H rfl rfl rfl rfl ze_137 ?_
    intro g6 w H
    refine ⟨(fun h => (nomatch h)), ?_⟩
    refine re_store H rfl rfl rfl rfl rfl rfl sh_137 rfl rfl rfl ?_
    intro cs w hcs H
    first | rw [setMany_whole rfl] at hcs | simp only [setMany, List.set_cons_zero, List.set_cons_succ, Nat.reduceAdd, Nat.zero_add, PS.cells, PS.over, GM.cells, Cmd.cells, List.cons_append, List.nil_append] at hcs
    subst hcs
    refine ⟨(fun h => (nomatch h)), ?_⟩
    refine re_nil ?_
    refine qe_thenC ?_
    refine ce_seq ?_
    refine ce_text (tab := []) (soft := 98239) (.op 0 (.op 1 (.op 2 (.op 3 (.op 4 (.op 5 (.op 6 (.op 7 (.op 8 (.op 9 (.op 10 (.op 11 (.op 12 (.op 13 (.op 14 (.op 15 (.op 16 .nil))))))))))))))))) rfl rfl ?_
    first | refine re_field0 rfl rfl rfl rfl rfl fo_46_0 ?_ | refine re_field rfl rfl rfl rfl rfl fo_46_0 ?_ | refine re_fieldA rfl rfl rfl rfl rfl fo_46_0 ?_
    refine re_load H rfl rfl rfl rfl rfl sh_3 rfl ?_
    refine re_bin rfl rfl rfl rfl rfl rfl rfl ?_
    have hk : decide (m.kind = 15) = true := by simp [hkd]
    simp only [hk]
    refine re_move rfl rfl rfl rfl rfl ?_
    refine re_move rfl rfl rfl rfl rfl ?_
    refine re_load H rfl rfl rfl rfl rfl sh_46 (by first | exact rdAt_all rfl | (simp only [rdAt, PS.cells, PS.over, GM.cells, Cmd.cells, List.cons_append, List.nil_append, List.drop_succ_cons, List.drop_zero, List.take_succ_cons, List.take_zero, List.length_cons, List.length_nil, Nat.zero_add, Nat.reduceAdd, Nat.reduceLeDiff, Nat.le_refl, ↓reduceIte] <;> rfl)) ?_
    refine re_call en_48 rfl rfl rfl rfl rfl ?_
    have H := Own.arr [2, 1, 9, 9, 9, 6, 9, 9, 9, 9] H
    simp only [arrs, Fw.front, zm1, zm2, zm3, zm4, zm5] at H
    refine Calls.mono (fresh_s H hh hn hl) ?_
    rintro e w ⟨rfl, H⟩
    simp only [hf] at H ⊢
    refine ⟨_, rfl, (fun h => (nomatch h)), ?_⟩
    refine re_pickT rfl rfl rfl rfl rfl rfl ?_
    refine re_move rfl rfl rfl rfl rfl ?_
    first | refine re_field0 rfl rfl rfl rfl rfl fo_137_0 ?_ | refine re_field rfl rfl rfl rfl rfl fo_137_0 ?_ | refine re_fieldA rfl rfl rfl rfl rfl fo_137_0 ?_
    refine re_load H rfl rfl rfl rfl rfl sh_128 rfl ?_
    first | refine re_field0 rfl rfl rfl rfl rfl fo_46_1 ?_ | refine re_field rfl rfl rfl rfl rfl fo_46_1 ?_ | refine re_fieldA rfl rfl rfl rfl rfl fo_46_1 ?_
    first | refine re_field0 rfl rfl rfl rfl rfl fo_36_1 ?_ | refine re_field rfl rfl rfl rfl rfl fo_36_1 ?_ | refine re_fieldA rfl rfl rfl rfl rfl fo_36_1 ?_
    refine re_load H rfl rfl rfl rfl rfl sh_3 rfl ?_
    refine re_load H rfl rfl rfl rfl rfl sh_46 (by first | exact rdAt_all rfl | (simp only [rdAt, PS.cells, PS.over, GM.cells, Cmd.cells, List.cons_append, List.nil_append, List.drop_succ_cons, List.drop_zero, List.take_succ_cons, List.take_zero, List.length_cons, List.length_nil, Nat.zero_add, Nat.reduceAdd, Nat.reduceLeDiff, Nat.le_refl, ↓reduceIte] <;> rfl)) ?_
    refine re_call en_73 rfl rfl rfl rfl rfl ?_
    have H := Own.arr [7, 7, 7] H
    simp only [arrs, Fw.front, zm1, zm2, zm3, zm4, zm5] at H
    refine Calls.mono (takeM H hn) ?_
    rintro e w ⟨rfl, H⟩
    rw [took_eq] at H
    rw [show takes _ _ _ _ _ = _ from hk2]
    refine ⟨_, rfl, (fun h => (nomatch h)), ?_⟩
    refine re_pickT rfl rfl rfl rfl rfl rfl ?_
    refine re_nil ?_
    refine qe_thenC ?_
    refine ce_condT rfl ?_
    refine ce_seq ?_
    refine ce_text (tab := []) (soft := 7) (.op 0 (.op 1 (.op 2 (.op 3 .nil)))) rfl rfl ?_
    refine re_move rfl rfl rfl rfl rfl ?_
    first | refine re_field0 rfl rfl rfl rfl rfl fo_137_1 ?_ | refine re_field rfl rfl rfl rfl rfl fo_137_1 ?_ | refine re_fieldA rfl rfl rfl rfl rfl fo_137_1 ?_
    refine re_load H rfl rfl rfl rfl rfl sh_28 (by first | exact rdAt_all rfl | (simp only [rdAt, PS.cells, PS.over, GM.cells, Cmd.cells, List.cons_append, List.nil_append, List.drop_succ_cons, List.drop_zero, List.take_succ_cons, List.take_zero, List.length_cons, List.length_nil, Nat.zero_add, Nat.reduceAdd, Nat.reduceLeDiff, Nat.le_refl, ↓reduceIte] <;> rfl)) ?_
    refine re_call en_44 rfl rfl rfl rfl rfl ?_
    have H := Own.arr [8, 8, 5] H
    simp only [arrs, Fw.front, zm1, zm2, zm3, zm4, zm5] at H
    replace H := H.sub (.cons_cons _ (.cons_cons _ (.cons_cons _ (.cons _ (.cons _ (.cons _ (.cons _ (.cons _ (.cons _ (.cons _ (List.Sublist.refl _)))))))))))
    refine Calls.mono (decide_s (c := cm) H) ?_
    rintro e w ⟨d, rfl, H⟩
    refine ⟨_, rfl, (fun h => (nomatch h)), ?_⟩
    refine re_nil ?_
    refine qe_thenC ?_
    refine ce_seq ?_
    refine ce_open (tab := [0, 0, 2, 6, 0, 16, 48, 112, 255, 511]) (soft := 767) mixed (.op 0 (.op 1 (.op 2 (.op 3 (.op 4 (.op 5 (.op 6 (.op 7 (.op 8 (.op 9 .nil)))))))))) (by kernel_rfl) H ?_
    intro w H
    refine re_move rfl rfl rfl rfl rfl ?_
    first | refine re_field0 rfl rfl rfl rfl rfl fo_137_1 ?_ | refine re_field rfl rfl rfl rfl rfl fo_137_1 ?_ | refine re_fieldA rfl rfl rfl rfl rfl fo_137_1 ?_
    refine re_load H rfl rfl rfl rfl rfl sh_28 (by first | exact rdAt_all rfl | (simp only [rdAt, PS.cells, PS.over, GM.cells, Cmd.cells, List.cons_append, List.nil_append, List.drop_succ_cons, List.drop_zero, List.take_succ_cons, List.take_zero, List.length_cons, List.length_nil, Nat.zero_add, Nat.reduceAdd, Nat.reduceLeDiff, Nat.le_refl, ↓reduceIte] <;> rfl)) ?_
    refine re_build rfl rfl rfl rfl rfl ze_46 pl_46 (by simp only [fillL, setMany, Value.cells, List.getElem?_cons_zero, List.getElem?_cons_succ, List.length_cons, List.length_nil, List.set_cons_zero, List.set_cons_succ, Nat.reduceAdd, Nat.reduceLeDiff, Nat.zero_add, and_self, ↓reduceIte]; rfl) ?_
    refine re_move rfl rfl rfl rfl rfl ?_
    refine re_nilc rfl rfl rfl rfl rfl ?_
    first | refine re_field0 rfl rfl rfl rfl rfl fo_80_3 ?_ | refine re_field rfl rfl rfl rfl rfl fo_80_3 ?_ | refine re_fieldA rfl rfl rfl rfl rfl fo_80_3 ?_
    refine re_load H rfl rfl rfl rfl rfl sh_31 rfl ?_
    refine re_call en_54 rfl rfl rfl rfl rfl ?_
    refine Calls.mono (send_s (p := { p.over with dc := .pointer (some ⟨d, 0, none⟩) }) (m := GM.learned cm) H (H.tail.rsees p.ga) hn) ?_
    rintro e w ⟨a, c, rfl, H⟩
    refine ⟨_, rfl, (fun _ => ⟨ancs (i := 8) (j := 7) rfl, ancs (i := 8) (j := 2) rfl, trivial⟩), ?_⟩
    refine re_assign rfl rfl rfl rfl rfl ?_
    refine re_nil ?_
    refine qe_noPanic ?_
    refine qe_thenC ?_
    refine ce_ret ?_
    refine qe_block_ret ?_
    refine qe_then_ret ?_
    refine qe_end rfl rfl ?_
    have H := Own.arr [2, 3, 3, 3] H
    simp only [arrs, Fw.front, zm1, zm2, zm3, zm4, zm5] at H
    replace H := H.sub (.cons_cons _ (.cons_cons _ (.cons_cons _ (.cons_cons _ (.cons _ (List.Sublist.refl _))))))
    exact ⟨d, a, c, rfl, H⟩
end Go.Proofs.Ytofaoblfemfkiaa

namespace Go.Proofs.Ytofaoblfemfkiaa
open Go Go.RowKit Go.Fw
set_option linter.unusedSimpArgs false
set_option linter.unusedVariables false
set_option maxRecDepth 4000
set_option maxHeartbeats 2000000
theorem en_43 : Enterable Try.prog 43 := ⟨Try.f43, Try.func43, rfl, by decide⟩
theorem en_49 : Enterable Try.prog 49 := ⟨Try.f49, Try.func49, rfl, by decide⟩

def PS.nack (p : PS) (n : Int) : PS := { p with rf := true, nt := max p.nt n }
theorem take_foreignP {B w : World} {F : List Ent} {g : Nat} {p : PS} {m : GM} {q : Nat} (H : Own B (.cells g 80 p.cells :: .row p.ga p.gc 3 1 p.gs.length (ints p.gs) :: F) w) (hn : p.gs.length ≤ 1000000) (hi : p.ph = phP q) (hw : p.wants m = false) :
    Calls Try.prog 18 #[.pointer (some ⟨g, 0, none⟩), .agg m.cells.toArray] w fun e w' => e = .returned (slv none 0 0) ∧ Own B (.cells g 80 p.cells :: .row p.ga p.gc 3 1 p.gs.length (ints p.gs) :: F) w' := by
  refine calls_ce (args := [.pointer (some ⟨g, 0, none⟩), .agg m.cells.toArray]) Try.func18 rfl rfl ?_
  change CE _ _ 80 _ _ [(0, .pointer (some ⟨g, 0, none⟩)), (1, .agg m.cells.toArray)] _
  refine ce_seq ?_
  refine ce_text (tab := []) (soft := 2) (.op 0 (.op 1 .nil)) rfl rfl ?_
  refine re_box H rfl rfl rfl rfl rfl rfl ?_
  intro g3 w H
  refine ⟨(fun h => (nomatch h)), ?_⟩
  refine re_assign rfl rfl rfl rfl rfl ?_
  refine re_nil ?_
  refine qe_thenC ?_
  refine ce_seq ?_
  refine ce_seq ?_
  refine ce_text (tab := []) (soft := 3670015) (.op 0 (.op 1 (.op 2 (.op 3 (.op 4 (.op 5 (.op 6 (.op 7 (.op 8 (.op 9 (.op 10 (.op 11 (.op 12 (.op 13 (.op 14 (.op 15 (.op 16 (.op 17 (.op 18 (.op 19 (.op 20 (.op 21 .nil)))))))))))))))))))))) rfl rfl ?_
  refine re_move rfl rfl rfl rfl rfl ?_
  refine re_nilc rfl rfl rfl rfl rfl ?_
  first | refine re_field0 rfl rfl rfl rfl rfl fo_80_10 ?_ | refine re_field rfl rfl rfl rfl rfl fo_80_10 ?_ | refine re_fieldA rfl rfl rfl rfl rfl fo_80_10 ?_
  refine re_load H rfl rfl rfl rfl rfl sh_76 rfl ?_
  refine re_build rfl rfl rfl rfl rfl ze_73 pl_73 (by simp only [fillL, setMany, Value.cells, List.getElem?_cons_zero, List.getElem?_cons_succ, List.length_cons, List.length_nil, List.set_cons_zero, List.set_cons_succ, Nat.reduceAdd, Nat.reduceLeDiff, Nat.zero_add, and_self, ↓reduceIte]; rfl) ?_
  refine re_iface rfl rfl rfl rfl rfl nif_73 ?_
  simp only [hi]
  refine re_binW rfl rfl rfl rfl rfl rfl (run_ifNe ifc_76 rfl (.inl ⟨rfl, rfl⟩)) ?_
  refine re_move rfl rfl rfl rfl rfl ?_
  refine re_move rfl rfl rfl rfl rfl ?_
  refine re_nilc rfl rfl rfl rfl rfl ?_
  first | refine re_field0 rfl rfl rfl rfl rfl fo_80_10 ?_ | refine re_field rfl rfl rfl rfl rfl fo_80_10 ?_ | refine re_fieldA rfl rfl rfl rfl rfl fo_80_10 ?_
  refine re_load H rfl rfl rfl rfl rfl sh_76 rfl ?_
  refine re_build rfl rfl rfl rfl rfl ze_97 pl_97 (by simp only [fillL, setMany, Value.cells, List.getElem?_cons_zero, List.getElem?_cons_succ, List.length_cons, List.length_nil, List.set_cons_zero, List.set_cons_succ, Nat.reduceAdd, Nat.reduceLeDiff, Nat.zero_add, and_self, ↓reduceIte]; rfl) ?_
  refine re_iface rfl rfl rfl rfl rfl nif_97 ?_
  simp only [hi]
  refine re_binW rfl rfl rfl rfl rfl rfl (run_ifNe ifc_76 rfl (.inl ⟨rfl, rfl⟩)) ?_
  refine re_pickF rfl rfl rfl rfl rfl rfl ?_
  refine re_move rfl rfl rfl rfl rfl ?_
  refine re_move rfl rfl rfl rfl rfl ?_
  refine re_load H rfl rfl rfl rfl rfl sh_46 (by first | exact rdAt_all rfl | (simp only [rdAt, PS.cells, PS.over, GM.cells, Cmd.cells, List.cons_append, List.nil_append, List.drop_succ_cons, List.drop_zero, List.take_succ_cons, List.take_zero, List.length_cons, List.length_nil, Nat.zero_add, Nat.reduceAdd, Nat.reduceLeDiff, Nat.le_refl, ↓reduceIte] <;> rfl)) ?_
  refine re_call en_43 rfl rfl rfl rfl rfl ?_
  have H := H.front 2
  have H := H.front 2
  simp only [arrs, Fw.front, zm1, zm2, zm3, zm4, zm5] at H
  refine Calls.mono (forMe_s H hn) ?_
  rintro e w ⟨rfl, H⟩
  refine ⟨_, rfl, (fun h => (nomatch h)), ?_⟩
  refine re_not rfl rfl rfl rfl rfl ?_
  refine re_pickF rfl rfl rfl rfl rfl rfl ?_
  refine re_nil ?_
  refine qe_thenC ?_
  refine ce_cond rfl (fun h0 => ?_) (fun h0 => ?_)
  · try simp only [zn1, zn2, zn3, zn4, zn5, zn6] at h0
    refine ce_seq ?_
    refine ce_text (tab := []) (soft := 1) (.op 0 .nil) rfl rfl ?_
    refine re_assign rfl rfl rfl rfl rfl ?_
    refine re_nil ?_
    refine qe_thenC ?_
    refine ce_ret ?_
    refine qe_then_ret ?_
    refine qe_end rfl rfl ?_
    exact ⟨rfl, H.sub (.cons_cons _ (.cons_cons _ (.cons _ (List.Sublist.refl _))))⟩
  · try simp only [zn1, zn2, zn3, zn4, zn5, zn6] at h0
    rw [hw] at h0; cases h0

theorem take_knownP {B w : World} {F : List Ent} {g : Nat} {p : PS} {m : GM} {q : Nat} (H : Own B (.cells g 80 p.cells :: .row p.ga p.gc 3 1 p.gs.length (ints p.gs) :: F) w) (hn : p.gs.length ≤ 1000000) (hi : p.ph = phP q) (hkd : m.kind = 16) (hw : p.wants m = true) :
    Calls Try.prog 18 #[.pointer (some ⟨g, 0, none⟩), .agg m.cells.toArray] w fun e w' => ∃ d, e = .returned (slv none 0 0) ∧ Own B (.cells g 80 { p.over with dc := .pointer (some ⟨d, 0, none⟩) }.cells :: .row p.ga p.gc 3 1 p.gs.length (ints p.gs) :: .cells d 28 m.cmd.cells :: F) w' := by
  refine calls_ce (args := [.pointer (some ⟨g, 0, none⟩), .agg m.cells.toArray]) Try.func18 rfl rfl ?_
  change CE _ _ 80 _ _ [(0, .pointer (some ⟨g, 0, none⟩)), (1, .agg m.cells.toArray)] _
  refine ce_seq ?_
  refine ce_text (tab := []) (soft := 2) (.op 0 (.op 1 .nil)) rfl rfl ?_
  refine re_box H rfl rfl rfl rfl rfl rfl ?_
  intro g3 w H
  refine ⟨(fun h => (nomatch h)), ?_⟩
  refine re_assign rfl rfl rfl rfl rfl ?_
  refine re_nil ?_
  refine qe_thenC ?_
  refine ce_seq ?_
  refine ce_seq ?_
  refine ce_text (tab := []) (soft := 3670015) (.op 0 (.op 1 (.op 2 (.op 3 (.op 4 (.op 5 (.op 6 (.op 7 (.op 8 (.op 9 (.op 10 (.op 11 (.op 12 (.op 13 (.op 14 (.op 15 (.op 16 (.op 17 (.op 18 (.op 19 (.op 20 (.op 21 .nil)))))))))))))))))))))) rfl rfl ?_
  refine re_move rfl rfl rfl rfl rfl ?_
  refine re_nilc rfl rfl rfl rfl rfl ?_
  first | refine re_field0 rfl rfl rfl rfl rfl fo_80_10 ?_ | refine re_field rfl rfl rfl rfl rfl fo_80_10 ?_ | refine re_fieldA rfl rfl rfl rfl rfl fo_80_10 ?_
  refine re_load H rfl rfl rfl rfl rfl sh_76 rfl ?_
  refine re_build rfl rfl rfl rfl rfl ze_73 pl_73 (by simp only [fillL, setMany, Value.cells, List.getElem?_cons_zero, List.getElem?_cons_succ, List.length_cons, List.length_nil, List.set_cons_zero, List.set_cons_succ, Nat.reduceAdd, Nat.reduceLeDiff, Nat.zero_add, and_self, ↓reduceIte]; rfl) ?_
  refine re_iface rfl rfl rfl rfl rfl nif_73 ?_
  simp only [hi]
  refine re_binW rfl rfl rfl rfl rfl rfl (run_ifNe ifc_76 rfl (.inl ⟨rfl, rfl⟩)) ?_
  refine re_move rfl rfl rfl rfl rfl ?_
  refine re_move rfl rfl rfl rfl rfl ?_
  refine re_nilc rfl rfl rfl rfl rfl ?_
  first | refine re_field0 rfl rfl rfl rfl rfl fo_80_10 ?_ | refine re_field rfl rfl rfl rfl rfl fo_80_10 ?_ | refine re_fieldA rfl rfl rfl rfl rfl fo_80_10 ?_
  refine re_load H rfl rfl rfl rfl rfl sh_76 rfl ?_
  refine re_build rfl rfl rfl rfl rfl ze_97 pl_97 (by simp only [fillL, setMany, Value.cells, List.getElem?_cons_zero, List.getElem?_cons_succ, List.length_cons, List.length_nil, List.set_cons_zero, List.set_cons_succ, Nat.reduceAdd, Nat.reduceLeDiff, Nat.zero_add, and_self, ↓reduceIte]; rfl) ?_
  refine re_iface rfl rfl rfl rfl rfl nif_97 ?_
  simp only [hi]
  refine re_binW rfl rfl rfl rfl rfl rfl (run_ifNe ifc_76 rfl (.inl ⟨rfl, rfl⟩)) ?_
  refine re_pickF rfl rfl rfl rfl rfl rfl ?_
  refine re_move rfl rfl rfl rfl rfl ?_
  refine re_move rfl rfl rfl rfl rfl ?_
  refine re_load H rfl rfl rfl rfl rfl sh_46 (by first | exact rdAt_all rfl | (simp only [rdAt, PS.cells, PS.over, GM.cells, Cmd.cells, List.cons_append, List.nil_append, List.drop_succ_cons, List.drop_zero, List.take_succ_cons, List.take_zero, List.length_cons, List.length_nil, Nat.zero_add, Nat.reduceAdd, Nat.reduceLeDiff, Nat.le_refl, ↓reduceIte] <;> rfl)) ?_
  refine re_call en_43 rfl rfl rfl rfl rfl ?_
  have H := H.front 2
  have H := H.front 2
  simp only [arrs, Fw.front, zm1, zm2, zm3, zm4, zm5] at H
  refine Calls.mono (forMe_s H hn) ?_
  rintro e w ⟨rfl, H⟩
  refine ⟨_, rfl, (fun h => (nomatch h)), ?_⟩
  refine re_not rfl rfl rfl rfl rfl ?_
  refine re_pickF rfl rfl rfl rfl rfl rfl ?_
  refine re_nil ?_
  refine qe_thenC ?_
  refine ce_cond rfl (fun h0 => ?_) (fun h0 => ?_)
  · try simp only [zn1, zn2, zn3, zn4, zn5, zn6] at h0
    rw [hw] at h0; cases h0
  · try simp only [zn1, zn2, zn3, zn4, zn5, zn6] at h0
    refine ce_skip ?_
    refine qe_thenC ?_
    refine ce_seq ?_
    refine ce_seq ?_
    refine ce_text (tab := []) (soft := 3) (.op 0 (.op 1 .nil)) rfl rfl ?_
    first | refine re_field0 rfl rfl rfl rfl rfl fo_46_0 ?_ | refine re_field rfl rfl rfl rfl rfl fo_46_0 ?_ | refine re_fieldA rfl rfl rfl rfl rfl fo_46_0 ?_
    refine re_load H rfl rfl rfl rfl rfl sh_3 rfl ?_
    refine re_nil ?_
    refine qe_thenC ?_
    refine ce_block ?_
    refine ce_seq ?_
    refine ce_text (tab := []) (soft := 3) (.op 0 (.op 1 .nil)) rfl rfl ?_
    refine re_bin rfl rfl rfl rfl rfl rfl rfl ?_
    refine re_assign rfl rfl rfl rfl rfl ?_
    refine re_nil ?_
    refine qe_thenC ?_
    refine ce_cond rfl (fun h1 => ?_) (fun h1 => ?_)
    · try simp only [zn1, zn2, zn3, zn4, zn5, zn6] at h1
      refine ce_text (tab := []) (soft := 7) (.op 0 (.op 1 (.op 2 (.op 3 .nil)))) rfl rfl ?_
      refine re_move rfl rfl rfl rfl rfl ?_
      first | refine re_field0 rfl rfl rfl rfl rfl fo_46_9 ?_ | refine re_field rfl rfl rfl rfl rfl fo_46_9 ?_ | refine re_fieldA rfl rfl rfl rfl rfl fo_46_9 ?_
      refine re_load H rfl rfl rfl rfl rfl sh_28 (by first | exact rdAt_all rfl | (simp only [rdAt, PS.cells, PS.over, GM.cells, Cmd.cells, List.cons_append, List.nil_append, List.drop_succ_cons, List.drop_zero, List.take_succ_cons, List.take_zero, List.length_cons, List.length_nil, Nat.zero_add, Nat.reduceAdd, Nat.reduceLeDiff, Nat.le_refl, ↓reduceIte] <;> rfl)) ?_
      refine re_call en_44 rfl rfl rfl rfl rfl ?_
      refine Calls.mono (decide_s (c := m.cmd) H) ?_
      rintro e w ⟨d, rfl, H⟩
      refine ⟨_, rfl, (fun h => (nomatch h)), ?_⟩
      refine re_nil ?_
      refine qe_block_norm ?_
      refine qe_thenC ?_
      refine ce_seq ?_
      refine ce_text (tab := []) (soft := 1) (.op 0 .nil) rfl rfl ?_
      refine re_assign rfl rfl rfl rfl rfl ?_
      refine re_nil ?_
      refine qe_thenC ?_
      refine ce_ret ?_
      refine qe_end rfl rfl ?_
      have H := Own.arr [1, 2, 2] H
      simp only [arrs, Fw.front, zm1, zm2, zm3, zm4, zm5] at H
      replace H := H.sub (.cons_cons _ (.cons_cons _ (.cons_cons _ (.cons _ (List.Sublist.refl _)))))
      exact ⟨d, rfl, H⟩
    · try simp only [zn1, zn2, zn3, zn4, zn5, zn6] at h1
      omega

theorem take_nackP {B w : World} {F : List Ent} {g : Nat} {p : PS} {m : GM} {q : Nat} {ht hm hc : Nat} {ha : Option Nat} {hs : List Int} (H : Own B (.cells g 80 p.cells :: .row p.ga p.gc 3 1 p.gs.length (ints p.gs) :: .cells ht 109 [slv ha p.gs.length hc, .int .i64 ((p.gs.length : Int) + 1), .map (some hm)] :: .row ha hc 3 1 p.gs.length (ints p.gs) :: .imap hm (heardK hs) :: F) w) (hn : p.gs.length ≤ 1000000) (hi : p.ph = phP q) (hkd : m.kind = 14) (hw : p.wants m = true) (hh : p.hd = .pointer (some ⟨ht, 0, none⟩)) (hl : hs.length ≤ p.gs.length) (hf : p.fresh hs m.fi = true) :
    Calls Try.prog 18 #[.pointer (some ⟨g, 0, none⟩), .agg m.cells.toArray] w fun e w' => e = .returned (slv none 0 0) ∧ Own B (.cells g 80 (p.nack m.s0).cells :: .row p.ga p.gc 3 1 p.gs.length (ints p.gs) :: .cells ht 109 [slv ha p.gs.length hc, .int .i64 ((p.gs.length : Int) + 1), .map (some hm)] :: .row ha hc 3 1 p.gs.length (ints p.gs) :: .imap hm (heardK (hs ++ [m.fi])) :: F) w' := by
  refine calls_ce (args := [.pointer (some ⟨g, 0, none⟩), .agg m.cells.toArray]) Try.func18 rfl rfl ?_
  change CE _ _ 80 _ _ [(0, .pointer (some ⟨g, 0, none⟩)), (1, .agg m.cells.toArray)] _
  refine ce_seq ?_
  refine ce_text (tab := []) (soft := 2) (.op 0 (.op 1 .nil)) rfl rfl ?_
  refine re_box H rfl rfl rfl rfl rfl rfl ?_
  intro g3 w H
  refine ⟨(fun h => (nomatch h)), ?_⟩
  refine re_assign rfl rfl rfl rfl rfl ?_
  refine re_nil ?_
  refine qe_thenC ?_
  refine ce_seq ?_
  refine ce_seq ?_
  refine ce_text (tab := []) (soft := 3670015) (.op 0 (.op 1 (.op 2 (.op 3 (.op 4 (.op 5 (.op 6 (.op 7 (.op 8 (.op 9 (.op 10 (.op 11 (.op 12 (.op 13 (.op 14 (.op 15 (.op 16 (.op 17 (.op 18 (.op 19 (.op 20 (.op 21 .nil)))))))))))))))))))))) rfl rfl ?_
  refine re_move rfl rfl rfl rfl rfl ?_
  refine re_nilc rfl rfl rfl rfl rfl ?_
  first | refine re_field0 rfl rfl rfl rfl rfl fo_80_10 ?_ | refine re_field rfl rfl rfl rfl rfl fo_80_10 ?_ | refine re_fieldA rfl rfl rfl rfl rfl fo_80_10 ?_
  refine re_load H rfl rfl rfl rfl rfl sh_76 rfl ?_
  refine re_build rfl rfl rfl rfl rfl ze_73 pl_73 (by simp only [fillL, setMany, Value.cells, List.getElem?_cons_zero, List.getElem?_cons_succ, List.length_cons, List.length_nil, List.set_cons_zero, List.set_cons_succ, Nat.reduceAdd, Nat.reduceLeDiff, Nat.zero_add, and_self, ↓reduceIte]; rfl) ?_
  refine re_iface rfl rfl rfl rfl rfl nif_73 ?_
  simp only [hi]
  refine re_binW rfl rfl rfl rfl rfl rfl (run_ifNe ifc_76 rfl (.inl ⟨rfl, rfl⟩)) ?_
  refine re_move rfl rfl rfl rfl rfl ?_
  refine re_move rfl rfl rfl rfl rfl ?_
  refine re_nilc rfl rfl rfl rfl rfl ?_
  first | refine re_field0 rfl rfl rfl rfl rfl fo_80_10 ?_ | refine re_field rfl rfl rfl rfl rfl fo_80_10 ?_ | refine re_fieldA rfl rfl rfl rfl rfl fo_80_10 ?_
  refine re_load H rfl rfl rfl rfl rfl sh_76 rfl ?_
  refine re_build rfl rfl rfl rfl rfl ze_97 pl_97 (by simp only [fillL, setMany, Value.cells, List.getElem?_cons_zero, List.getElem?_cons_succ, List.length_cons, List.length_nil, List.set_cons_zero, List.set_cons_succ, Nat.reduceAdd, Nat.reduceLeDiff, Nat.zero_add, and_self, ↓reduceIte]; rfl) ?_
  refine re_iface rfl rfl rfl rfl rfl nif_97 ?_
  simp only [hi]
  refine re_binW rfl rfl rfl rfl rfl rfl (run_ifNe ifc_76 rfl (.inl ⟨rfl, rfl⟩)) ?_
  refine re_pickF rfl rfl rfl rfl rfl rfl ?_
  refine re_move rfl rfl rfl rfl rfl ?_
  refine re_move rfl rfl rfl rfl rfl ?_
  refine re_load H rfl rfl rfl rfl rfl sh_46 (by first | exact rdAt_all rfl | (simp only [rdAt, PS.cells, PS.over, GM.cells, Cmd.cells, List.cons_append, List.nil_append, List.drop_succ_cons, List.drop_zero, List.take_succ_cons, List.take_zero, List.length_cons, List.length_nil, Nat.zero_add, Nat.reduceAdd, Nat.reduceLeDiff, Nat.le_refl, ↓reduceIte] <;> rfl)) ?_
  refine re_call en_43 rfl rfl rfl rfl rfl ?_
  have H := H.front 2
  have H := H.front 2
  simp only [arrs, Fw.front, zm1, zm2, zm3, zm4, zm5] at H
  refine Calls.mono (forMe_s H hn) ?_
  rintro e w ⟨rfl, H⟩
  refine ⟨_, rfl, (fun h => (nomatch h)), ?_⟩
  refine re_not rfl rfl rfl rfl rfl ?_
  refine re_pickF rfl rfl rfl rfl rfl rfl ?_
  refine re_nil ?_
  refine qe_thenC ?_
  refine ce_cond rfl (fun h0 => ?_) (fun h0 => ?_)
  · try simp only [zn1, zn2, zn3, zn4, zn5, zn6] at h0
    rw [hw] at h0; cases h0
  · try simp only [zn1, zn2, zn3, zn4, zn5, zn6] at h0
    refine ce_skip ?_
    refine qe_thenC ?_
    refine ce_seq ?_
    refine ce_seq ?_
    refine ce_text (tab := []) (soft := 3) (.op 0 (.op 1 .nil)) rfl rfl ?_
    first | refine re_field0 rfl rfl rfl rfl rfl fo_46_0 ?_ | refine re_field rfl rfl rfl rfl rfl fo_46_0 ?_ | refine re_fieldA rfl rfl rfl rfl rfl fo_46_0 ?_
    refine re_load H rfl rfl rfl rfl rfl sh_3 rfl ?_
    refine re_nil ?_
    refine qe_thenC ?_
    refine ce_block ?_
    refine ce_seq ?_
    refine ce_text (tab := []) (soft := 3) (.op 0 (.op 1 .nil)) rfl rfl ?_
    refine re_bin rfl rfl rfl rfl rfl rfl rfl ?_
    refine re_assign rfl rfl rfl rfl rfl ?_
    refine re_nil ?_
    refine qe_thenC ?_
    refine ce_cond rfl (fun h1 => ?_) (fun h1 => ?_)
    · try simp only [zn1, zn2, zn3, zn4, zn5, zn6] at h1
      omega
    · try simp only [zn1, zn2, zn3, zn4, zn5, zn6] at h1
      refine ce_seq ?_
      refine ce_text (tab := []) (soft := 3) (.op 0 (.op 1 .nil)) rfl rfl ?_
      refine re_bin rfl rfl rfl rfl rfl rfl rfl ?_
      refine re_assign rfl rfl rfl rfl rfl ?_
      refine re_nil ?_
      refine qe_thenC ?_
      refine ce_cond rfl (fun h2 => ?_) (fun h2 => ?_)
      · try simp only [zn1, zn2, zn3, zn4, zn5, zn6] at h2
        omega
      · try simp only [zn1, zn2, zn3, zn4, zn5, zn6] at h2
        refine ce_seq ?_
        refine ce_text (tab := []) (soft := 3) (.op 0 (.op 1 .nil)) rfl rfl ?_
        refine re_bin rfl rfl rfl rfl rfl rfl rfl ?_
        refine re_assign rfl rfl rfl rfl rfl ?_
        refine re_nil ?_
        refine qe_thenC ?_
        refine ce_cond rfl (fun h3 => ?_) (fun h3 => ?_)
        · try simp only [zn1, zn2, zn3, zn4, zn5, zn6] at h3
          refine ce_seq ?_
          refine ce_text (tab := []) (soft := 3) (.op 0 (.op 1 (.op 2 .nil))) rfl rfl ?_
          refine re_move rfl rfl rfl rfl rfl ?_
          refine re_load H rfl rfl rfl rfl rfl sh_46 (by first | exact rdAt_all rfl | (simp only [rdAt, PS.cells, PS.over, GM.cells, Cmd.cells, List.cons_append, List.nil_append, List.drop_succ_cons, List.drop_zero, List.take_succ_cons, List.take_zero, List.length_cons, List.length_nil, Nat.zero_add, Nat.reduceAdd, Nat.reduceLeDiff, Nat.le_refl, ↓reduceIte] <;> rfl)) ?_
          refine re_call en_48 rfl rfl rfl rfl rfl ?_
          have H := Own.arr [2, 2, 5, 5, 5, 5] H
          simp only [arrs, Fw.front, zm1, zm2, zm3, zm4, zm5] at H
          refine Calls.mono (fresh_s H hh hn hl) ?_
          rintro e w ⟨rfl, H⟩
          simp only [hf] at H ⊢
          refine ⟨_, rfl, (fun h => (nomatch h)), ?_⟩
          refine re_nil ?_
          refine qe_thenC ?_
          refine ce_condT rfl ?_
          refine ce_open (tab := [0, 0, 0, 4, 12, 28, 0, 64, 192, 508, 61, 1085, 3133, 8191, 16383, 32767]) (soft := 28671) mixed (.op 0 (.op 1 (.op 2 (.op 3 (.op 4 (.op 5 (.op 6 (.op 7 (.op 8 (.op 9 (.op 10 (.op 11 (.op 12 (.op 13 (.op 14 (.op 15 .nil)))))))))))))))) (by kernel_rfl) H ?_
          intro w H
          refine re_move rfl rfl rfl rfl rfl ?_
          refine re_move rfl rfl rfl rfl rfl ?_
          refine re_move rfl rfl rfl rfl rfl ?_
          refine re_nilc rfl rfl rfl rfl rfl ?_
          first | refine re_field0 rfl rfl rfl rfl rfl fo_80_7 ?_ | refine re_field rfl rfl rfl rfl rfl fo_80_7 ?_ | refine re_fieldA rfl rfl rfl rfl rfl fo_80_7 ?_
          refine re_load H rfl rfl rfl rfl rfl sh_3 rfl ?_
          first | refine re_field0 rfl rfl rfl rfl rfl fo_46_6 ?_ | refine re_field rfl rfl rfl rfl rfl fo_46_6 ?_ | refine re_fieldA rfl rfl rfl rfl rfl fo_46_6 ?_
          first | refine re_field0 rfl rfl rfl rfl rfl fo_38_0 ?_ | refine re_field rfl rfl rfl rfl rfl fo_38_0 ?_ | refine re_fieldA rfl rfl rfl rfl rfl fo_38_0 ?_
          refine re_load H rfl rfl rfl rfl rfl sh_3 rfl ?_
          refine re_max rfl rfl rfl rfl rfl rfl ?_
          refine re_nilc rfl rfl rfl rfl rfl ?_
          first | refine re_field0 rfl rfl rfl rfl rfl fo_80_8 ?_ | refine re_field rfl rfl rfl rfl rfl fo_80_8 ?_ | refine re_fieldA rfl rfl rfl rfl rfl fo_80_8 ?_
          refine re_store H rfl rfl rfl rfl rfl rfl sh_4 rfl rfl rfl ?_
          intro cs w hcs H
          first | rw [setMany_whole rfl] at hcs | simp only [setMany, List.set_cons_zero, List.set_cons_succ, Nat.reduceAdd, Nat.zero_add, PS.cells, PS.over, GM.cells, Cmd.cells, List.cons_append, List.nil_append] at hcs
          subst hcs
          refine ⟨(fun _ => ⟨fun _ => still_load H sh_3 rfl, ancs (i := 12) (j := 5) rfl, trivial⟩), ?_⟩
          refine re_nilc rfl rfl rfl rfl rfl ?_
          first | refine re_field0 rfl rfl rfl rfl rfl fo_80_7 ?_ | refine re_field rfl rfl rfl rfl rfl fo_80_7 ?_ | refine re_fieldA rfl rfl rfl rfl rfl fo_80_7 ?_
          refine re_store H rfl rfl rfl rfl rfl rfl sh_3 rfl rfl rfl ?_
          intro cs w hcs H
          first | rw [setMany_whole rfl] at hcs | simp only [setMany, List.set_cons_zero, List.set_cons_succ, Nat.reduceAdd, Nat.zero_add, PS.cells, PS.over, GM.cells, Cmd.cells, List.cons_append, List.nil_append] at hcs
          subst hcs
          refine ⟨(fun _ => ⟨ancs (i := 15) (j := 8) rfl, ancs (i := 15) (j := 5) rfl, trivial⟩), ?_⟩
          refine re_nil ?_
          refine qe_noPanic ?_
          refine qe_block_norm ?_
          refine qe_thenC ?_
          refine ce_seq ?_
          refine ce_text (tab := []) (soft := 1) (.op 0 .nil) rfl rfl ?_
          refine re_assign rfl rfl rfl rfl rfl ?_
          refine re_nil ?_
          refine qe_thenC ?_
          refine ce_ret ?_
          refine qe_end rfl rfl ?_
          simp only [if_true] at H
          have H := Own.arr [3, 3, 3, 4, 4] H
          simp only [arrs, Fw.front, zm1, zm2, zm3, zm4, zm5] at H
          replace H := H.sub (.cons_cons _ (.cons_cons _ (.cons_cons _ (.cons_cons _ (.cons_cons _ (.cons _ (List.Sublist.refl _)))))))
          exact ⟨rfl, H⟩
        · try simp only [zn1, zn2, zn3, zn4, zn5, zn6] at h3
          omega

theorem take_nackOldP {B w : World} {F : List Ent} {g : Nat} {p : PS} {m : GM} {q : Nat} {ht hm hc : Nat} {ha : Option Nat} {hs : List Int} (H : Own B (.cells g 80 p.cells :: .row p.ga p.gc 3 1 p.gs.length (ints p.gs) :: .cells ht 109 [slv ha p.gs.length hc, .int .i64 ((p.gs.length : Int) + 1), .map (some hm)] :: .row ha hc 3 1 p.gs.length (ints p.gs) :: .imap hm (heardK hs) :: F) w) (hn : p.gs.length ≤ 1000000) (hi : p.ph = phP q) (hkd : m.kind = 14) (hw : p.wants m = true) (hh : p.hd = .pointer (some ⟨ht, 0, none⟩)) (hl : hs.length ≤ p.gs.length) (hf : p.fresh hs m.fi = false) :
    Calls Try.prog 18 #[.pointer (some ⟨g, 0, none⟩), .agg m.cells.toArray] w fun e w' => e = .returned (slv none 0 0) ∧ Own B (.cells g 80 p.cells :: .row p.ga p.gc 3 1 p.gs.length (ints p.gs) :: .cells ht 109 [slv ha p.gs.length hc, .int .i64 ((p.gs.length : Int) + 1), .map (some hm)] :: .row ha hc 3 1 p.gs.length (ints p.gs) :: .imap hm (heardK hs) :: F) w' := by
  refine calls_ce (args := [.pointer (some ⟨g, 0, none⟩), .agg m.cells.toArray]) Try.func18 rfl rfl ?_
  change CE _ _ 80 _ _ [(0, .pointer (some ⟨g, 0, none⟩)), (1, .agg m.cells.toArray)] _
  refine ce_seq ?_
  refine ce_text (tab := []) (soft := 2) (.op 0 (.op 1 .nil)) rfl rfl ?_
  refine re_box H rfl rfl rfl rfl rfl rfl ?_
  intro g3 w H
  refine ⟨(fun h => (nomatch h)), ?_⟩
  refine re_assign rfl rfl rfl rfl rfl ?_
  refine re_nil ?_
  refine qe_thenC ?_
  refine ce_seq ?_
  refine ce_seq ?_
  refine ce_text (tab := []) (soft := 3670015) (.op 0 (.op 1 (.op 2 (.op 3 (.op 4 (.op 5 (.op 6 (.op 7 (.op 8 (.op 9 (.op 10 (.op 11 (.op 12 (.op 13 (.op 14 (.op 15 (.op 16 (.op 17 (.op 18 (.op 19 (.op 20 (.op 21 .nil)))))))))))))))))))))) rfl rfl ?_
  refine re_move rfl rfl rfl rfl rfl ?_
  refine re_nilc rfl rfl rfl rfl rfl ?_
  first | refine re_field0 rfl rfl rfl rfl rfl fo_80_10 ?_ | refine re_field rfl rfl rfl rfl rfl fo_80_10 ?_ | refine re_fieldA rfl rfl rfl rfl rfl fo_80_10 ?_
  refine re_load H rfl rfl rfl rfl rfl sh_76 rfl ?_
  refine re_build rfl rfl rfl rfl rfl ze_73 pl_73 (by simp only [fillL, setMany, Value.cells, List.getElem?_cons_zero, List.getElem?_cons_succ, List.length_cons, List.length_nil, List.set_cons_zero, List.set_cons_succ, Nat.reduceAdd, Nat.reduceLeDiff, Nat.zero_add, and_self, ↓reduceIte]; rfl) ?_
  refine re_iface rfl rfl rfl rfl rfl nif_73 ?_
  simp only [hi]
  refine re_binW rfl rfl rfl rfl rfl rfl (run_ifNe ifc_76 rfl (.inl ⟨rfl, rfl⟩)) ?_
  refine re_move rfl rfl rfl rfl rfl ?_
  refine re_move rfl rfl rfl rfl rfl ?_
  refine re_nilc rfl rfl rfl rfl rfl ?_
  first | refine re_field0 rfl rfl rfl rfl rfl fo_80_10 ?_ | refine re_field rfl rfl rfl rfl rfl fo_80_10 ?_ | refine re_fieldA rfl rfl rfl rfl rfl fo_80_10 ?_
  refine re_load H rfl rfl rfl rfl rfl sh_76 rfl ?_
  refine re_build rfl rfl rfl rfl rfl ze_97 pl_97 (by simp only [fillL, setMany, Value.cells, List.getElem?_cons_zero, List.getElem?_cons_succ, List.length_cons, List.length_nil, List.set_cons_zero, List.set_cons_succ, Nat.reduceAdd, Nat.reduceLeDiff, Nat.zero_add, and_self, ↓reduceIte]; rfl) ?_
  refine re_iface rfl rfl rfl rfl rfl nif_97 ?_
  simp only [hi]
  refine re_binW rfl rfl rfl rfl rfl rfl (run_ifNe ifc_76 rfl (.inl ⟨rfl, rfl⟩)) ?_
  refine re_pickF rfl rfl rfl rfl rfl rfl ?_
  refine re_move rfl rfl rfl rfl rfl ?_
  refine re_move rfl rfl rfl rfl rfl ?_
  refine re_load H rfl rfl rfl rfl rfl sh_46 (by first | exact rdAt_all rfl | (simp only [rdAt, PS.cells, PS.over, GM.cells, Cmd.cells, List.cons_append, List.nil_append, List.drop_succ_cons, List.drop_zero, List.take_succ_cons, List.take_zero, List.length_cons, List.length_nil, Nat.zero_add, Nat.reduceAdd, Nat.reduceLeDiff, Nat.le_refl, ↓reduceIte] <;> rfl)) ?_
  refine re_call en_43 rfl rfl rfl rfl rfl ?_
  have H := H.front 2
  have H := H.front 2
  simp only [arrs, Fw.front, zm1, zm2, zm3, zm4, zm5] at H
  refine Calls.mono (forMe_s H hn) ?_
  rintro e w ⟨rfl, H⟩
  refine ⟨_, rfl, (fun h => (nomatch h)), ?_⟩
  refine re_not rfl rfl rfl rfl rfl ?_
  refine re_pickF rfl rfl rfl rfl rfl rfl ?_
  refine re_nil ?_
  refine qe_thenC ?_
  refine ce_cond rfl (fun h0 => ?_) (fun h0 => ?_)
  · try simp only [zn1, zn2, zn3, zn4, zn5, zn6] at h0
    rw [hw] at h0; cases h0
  · try simp only [zn1, zn2, zn3, zn4, zn5, zn6] at h0
    refine ce_skip ?_
    refine qe_thenC ?_
    refine ce_seq ?_
    refine ce_seq ?_
    refine ce_text (tab := []) (soft := 3) (.op 0 (.op 1 .nil)) rfl rfl ?_
    first | refine re_field0 rfl rfl rfl rfl rfl fo_46_0 ?_ | refine re_field rfl rfl rfl rfl rfl fo_46_0 ?_ | refine re_fieldA rfl rfl rfl rfl rfl fo_46_0 ?_
    refine re_load H rfl rfl rfl rfl rfl sh_3 rfl ?_
    refine re_nil ?_
    refine qe_thenC ?_
    refine ce_block ?_
    refine ce_seq ?_
    refine ce_text (tab := []) (soft := 3) (.op 0 (.op 1 .nil)) rfl rfl ?_
    refine re_bin rfl rfl rfl rfl rfl rfl rfl ?_
    refine re_assign rfl rfl rfl rfl rfl ?_
    refine re_nil ?_
    refine qe_thenC ?_
    refine ce_cond rfl (fun h1 => ?_) (fun h1 => ?_)
    · try simp only [zn1, zn2, zn3, zn4, zn5, zn6] at h1
      omega
    · try simp only [zn1, zn2, zn3, zn4, zn5, zn6] at h1
      refine ce_seq ?_
      refine ce_text (tab := []) (soft := 3) (.op 0 (.op 1 .nil)) rfl rfl ?_
      refine re_bin rfl rfl rfl rfl rfl rfl rfl ?_
      refine re_assign rfl rfl rfl rfl rfl ?_
      refine re_nil ?_
      refine qe_thenC ?_
      refine ce_cond rfl (fun h2 => ?_) (fun h2 => ?_)
      · try simp only [zn1, zn2, zn3, zn4, zn5, zn6] at h2
        omega
      · try simp only [zn1, zn2, zn3, zn4, zn5, zn6] at h2
        refine ce_seq ?_
        refine ce_text (tab := []) (soft := 3) (.op 0 (.op 1 .nil)) rfl rfl ?_
        refine re_bin rfl rfl rfl rfl rfl rfl rfl ?_
        refine re_assign rfl rfl rfl rfl rfl ?_
        refine re_nil ?_
        refine qe_thenC ?_
        refine ce_cond rfl (fun h3 => ?_) (fun h3 => ?_)
        · try simp only [zn1, zn2, zn3, zn4, zn5, zn6] at h3
          refine ce_seq ?_
          refine ce_text (tab := []) (soft := 3) (.op 0 (.op 1 (.op 2 .nil))) rfl rfl ?_
          refine re_move rfl rfl rfl rfl rfl ?_
          refine re_load H rfl rfl rfl rfl rfl sh_46 (by first | exact rdAt_all rfl | (simp only [rdAt, PS.cells, PS.over, GM.cells, Cmd.cells, List.cons_append, List.nil_append, List.drop_succ_cons, List.drop_zero, List.take_succ_cons, List.take_zero, List.length_cons, List.length_nil, Nat.zero_add, Nat.reduceAdd, Nat.reduceLeDiff, Nat.le_refl, ↓reduceIte] <;> rfl)) ?_
          refine re_call en_48 rfl rfl rfl rfl rfl ?_
          have H := Own.arr [2, 2, 5, 5, 5, 5] H
          simp only [arrs, Fw.front, zm1, zm2, zm3, zm4, zm5] at H
          refine Calls.mono (fresh_s H hh hn hl) ?_
          rintro e w ⟨rfl, H⟩
          simp only [hf] at H ⊢
          refine ⟨_, rfl, (fun h => (nomatch h)), ?_⟩
          refine re_nil ?_
          refine qe_thenC ?_
          refine ce_condF rfl ?_
          refine ce_skip ?_
          refine qe_block_norm ?_
          refine qe_thenC ?_
          refine ce_seq ?_
          refine ce_text (tab := []) (soft := 1) (.op 0 .nil) rfl rfl ?_
          refine re_assign rfl rfl rfl rfl rfl ?_
          refine re_nil ?_
          refine qe_thenC ?_
          refine ce_ret ?_
          refine qe_end rfl rfl ?_
          simp only [Bool.false_eq_true, if_false] at H
          have H := Own.arr [3, 3, 3, 4, 4] H
          simp only [arrs, Fw.front, zm1, zm2, zm3, zm4, zm5] at H
          replace H := H.sub (.cons_cons _ (.cons_cons _ (.cons_cons _ (.cons_cons _ (.cons_cons _ (.cons _ (List.Sublist.refl _)))))))
          exact ⟨rfl, H⟩
        · try simp only [zn1, zn2, zn3, zn4, zn5, zn6] at h3
          omega

theorem take_countP {B w : World} {F : List Ent} {g : Nat} {p : PS} {m : GM} {q : Nat} {K : Value → World → Prop} (H : Own B (.cells g 80 p.cells :: .row p.ga p.gc 3 1 p.gs.length (ints p.gs) :: F) w) (hn : p.gs.length ≤ 1000000) (hi : p.ph = phP q) (hkd : m.kind = 13 ∨ m.kind = 15) (hw : p.wants m = true) (hK : ∀ b w, Own B (.cells g 80 p.cells :: .row p.ga p.gc 3 1 p.gs.length (ints p.gs) :: .cells b 46 m.cells :: F) w → Calls Try.prog 49 #[.pointer (some ⟨g, 0, none⟩), .agg m.cells.toArray] w fun e w' => ∃ v, e = .returned v ∧ K v w') :
    Calls Try.prog 18 #[.pointer (some ⟨g, 0, none⟩), .agg m.cells.toArray] w fun e w' => ∃ v, e = .returned v ∧ K v w' := by
  refine calls_ce (args := [.pointer (some ⟨g, 0, none⟩), .agg m.cells.toArray]) Try.func18 rfl rfl ?_
  change CE _ _ 80 _ _ [(0, .pointer (some ⟨g, 0, none⟩)), (1, .agg m.cells.toArray)] _
  refine ce_seq ?_
  refine ce_text (tab := []) (soft := 2) (.op 0 (.op 1 .nil)) rfl rfl ?_
  refine re_box H rfl rfl rfl rfl rfl rfl ?_
  intro g3 w H
  refine ⟨(fun h => (nomatch h)), ?_⟩
  refine re_assign rfl rfl rfl rfl rfl ?_
  refine re_nil ?_
  refine qe_thenC ?_
  refine ce_seq ?_
  refine ce_seq ?_
  refine ce_text (tab := []) (soft := 3670015) (.op 0 (.op 1 (.op 2 (.op 3 (.op 4 (.op 5 (.op 6 (.op 7 (.op 8 (.op 9 (.op 10 (.op 11 (.op 12 (.op 13 (.op 14 (.op 15 (.op 16 (.op 17 (.op 18 (.op 19 (.op 20 (.op 21 .nil)))))))))))))))))))))) rfl rfl ?_
  refine re_move rfl rfl rfl rfl rfl ?_
  refine re_nilc rfl rfl rfl rfl rfl ?_
  first | refine re_field0 rfl rfl rfl rfl rfl fo_80_10 ?_ | refine re_field rfl rfl rfl rfl rfl fo_80_10 ?_ | refine re_fieldA rfl rfl rfl rfl rfl fo_80_10 ?_
  refine re_load H rfl rfl rfl rfl rfl sh_76 rfl ?_
  refine re_build rfl rfl rfl rfl rfl ze_73 pl_73 (by simp only [fillL, setMany, Value.cells, List.getElem?_cons_zero, List.getElem?_cons_succ, List.length_cons, List.length_nil, List.set_cons_zero, List.set_cons_succ, Nat.reduceAdd, Nat.reduceLeDiff, Nat.zero_add, and_self, ↓reduceIte]; rfl) ?_
  refine re_iface rfl rfl rfl rfl rfl nif_73 ?_
  simp only [hi]
  refine re_binW rfl rfl rfl rfl rfl rfl (run_ifNe ifc_76 rfl (.inl ⟨rfl, rfl⟩)) ?_
  refine re_move rfl rfl rfl rfl rfl ?_
  refine re_move rfl rfl rfl rfl rfl ?_
  refine re_nilc rfl rfl rfl rfl rfl ?_
  first | refine re_field0 rfl rfl rfl rfl rfl fo_80_10 ?_ | refine re_field rfl rfl rfl rfl rfl fo_80_10 ?_ | refine re_fieldA rfl rfl rfl rfl rfl fo_80_10 ?_
  refine re_load H rfl rfl rfl rfl rfl sh_76 rfl ?_
  refine re_build rfl rfl rfl rfl rfl ze_97 pl_97 (by simp only [fillL, setMany, Value.cells, List.getElem?_cons_zero, List.getElem?_cons_succ, List.length_cons, List.length_nil, List.set_cons_zero, List.set_cons_succ, Nat.reduceAdd, Nat.reduceLeDiff, Nat.zero_add, and_self, ↓reduceIte]; rfl) ?_
  refine re_iface rfl rfl rfl rfl rfl nif_97 ?_
  simp only [hi]
  refine re_binW rfl rfl rfl rfl rfl rfl (run_ifNe ifc_76 rfl (.inl ⟨rfl, rfl⟩)) ?_
  refine re_pickF rfl rfl rfl rfl rfl rfl ?_
  refine re_move rfl rfl rfl rfl rfl ?_
  refine re_move rfl rfl rfl rfl rfl ?_
  refine re_load H rfl rfl rfl rfl rfl sh_46 (by first | exact rdAt_all rfl | (simp only [rdAt, PS.cells, PS.over, GM.cells, Cmd.cells, List.cons_append, List.nil_append, List.drop_succ_cons, List.drop_zero, List.take_succ_cons, List.take_zero, List.length_cons, List.length_nil, Nat.zero_add, Nat.reduceAdd, Nat.reduceLeDiff, Nat.le_refl, ↓reduceIte] <;> rfl)) ?_
  refine re_call en_43 rfl rfl rfl rfl rfl ?_
  have H := H.front 2
  have H := H.front 2
  simp only [arrs, Fw.front, zm1, zm2, zm3, zm4, zm5] at H
  refine Calls.mono (forMe_s H hn) ?_
  rintro e w ⟨rfl, H⟩
  refine ⟨_, rfl, (fun h => (nomatch h)), ?_⟩
  refine re_not rfl rfl rfl rfl rfl ?_
  refine re_pickF rfl rfl rfl rfl rfl rfl ?_
  refine re_nil ?_
  refine qe_thenC ?_
  refine ce_cond rfl (fun h0 => ?_) (fun h0 => ?_)
  · try simp only [zn1, zn2, zn3, zn4, zn5, zn6] at h0
    rw [hw] at h0; cases h0
  · try simp only [zn1, zn2, zn3, zn4, zn5, zn6] at h0
    refine ce_skip ?_
    refine qe_thenC ?_
    refine ce_seq ?_
    refine ce_seq ?_
    refine ce_text (tab := []) (soft := 3) (.op 0 (.op 1 .nil)) rfl rfl ?_
    first | refine re_field0 rfl rfl rfl rfl rfl fo_46_0 ?_ | refine re_field rfl rfl rfl rfl rfl fo_46_0 ?_ | refine re_fieldA rfl rfl rfl rfl rfl fo_46_0 ?_
    refine re_load H rfl rfl rfl rfl rfl sh_3 rfl ?_
    refine re_nil ?_
    refine qe_thenC ?_
    refine ce_block ?_
    refine ce_seq ?_
    refine ce_text (tab := []) (soft := 3) (.op 0 (.op 1 .nil)) rfl rfl ?_
    refine re_bin rfl rfl rfl rfl rfl rfl rfl ?_
    refine re_assign rfl rfl rfl rfl rfl ?_
    refine re_nil ?_
    refine qe_thenC ?_
    refine ce_cond rfl (fun h1 => ?_) (fun h1 => ?_)
    · try simp only [zn1, zn2, zn3, zn4, zn5, zn6] at h1
      omega
    · try simp only [zn1, zn2, zn3, zn4, zn5, zn6] at h1
      refine ce_seq ?_
      refine ce_text (tab := []) (soft := 3) (.op 0 (.op 1 .nil)) rfl rfl ?_
      refine re_bin rfl rfl rfl rfl rfl rfl rfl ?_
      refine re_assign rfl rfl rfl rfl rfl ?_
      refine re_nil ?_
      refine qe_thenC ?_
      refine ce_cond rfl (fun h2 => ?_) (fun h2 => ?_)
      · try simp only [zn1, zn2, zn3, zn4, zn5, zn6] at h2
        omega
      · try simp only [zn1, zn2, zn3, zn4, zn5, zn6] at h2
        refine ce_seq ?_
        refine ce_text (tab := []) (soft := 3) (.op 0 (.op 1 .nil)) rfl rfl ?_
        refine re_bin rfl rfl rfl rfl rfl rfl rfl ?_
        refine re_assign rfl rfl rfl rfl rfl ?_
        refine re_nil ?_
        refine qe_thenC ?_
        refine ce_cond rfl (fun h3 => ?_) (fun h3 => ?_)
        · try simp only [zn1, zn2, zn3, zn4, zn5, zn6] at h3
          omega
        · try simp only [zn1, zn2, zn3, zn4, zn5, zn6] at h3
          refine ce_seq ?_
          refine ce_seq ?_
          refine ce_text (tab := []) (soft := 3) (.op 0 (.op 1 .nil)) rfl rfl ?_
          refine re_bin rfl rfl rfl rfl rfl rfl rfl ?_
          refine re_assign rfl rfl rfl rfl rfl ?_
          refine re_nil ?_
          refine qe_thenC ?_
          refine ce_cond rfl (fun h5 => ?_) (fun h5 => ?_)
          · try simp only [zn1, zn2, zn3, zn4, zn5, zn6] at h5
            refine ce_skip ?_
            refine qe_thenC ?_
            refine ce_cond rfl (fun h6 => ?_) (fun h6 => ?_)
            · try simp only [zn1, zn2, zn3, zn4, zn5, zn6] at h6
              refine ce_seq ?_
              refine ce_text (tab := []) (soft := 11) (.op 0 (.op 1 (.op 2 (.op 3 .nil)))) rfl rfl ?_
              refine re_move rfl rfl rfl rfl rfl ?_
              refine re_load H rfl rfl rfl rfl rfl sh_46 (by first | exact rdAt_all rfl | (simp only [rdAt, PS.cells, PS.over, GM.cells, Cmd.cells, List.cons_append, List.nil_append, List.drop_succ_cons, List.drop_zero, List.take_succ_cons, List.take_zero, List.length_cons, List.length_nil, Nat.zero_add, Nat.reduceAdd, Nat.reduceLeDiff, Nat.le_refl, ↓reduceIte] <;> rfl)) ?_
              refine re_call en_49 rfl rfl rfl rfl rfl ?_
              refine Calls.mono (hK _ _ H) ?_
              rintro e w ⟨v, rfl, HK⟩
              refine ⟨_, rfl, (fun h => (nomatch h)), ?_⟩
              refine re_assign rfl rfl rfl rfl rfl ?_
              refine re_nil ?_
              refine qe_thenC ?_
              refine ce_ret ?_
              refine qe_block_ret ?_
              refine qe_then_ret ?_
              refine qe_end rfl rfl ?_
              exact ⟨v, rfl, HK⟩
            · try simp only [zn1, zn2, zn3, zn4, zn5, zn6] at h6
              omega
          · try simp only [zn1, zn2, zn3, zn4, zn5, zn6] at h5
            refine ce_text (tab := []) (soft := 3) (.op 0 (.op 1 .nil)) rfl rfl ?_
            refine re_bin rfl rfl rfl rfl rfl rfl rfl ?_
            refine re_assign rfl rfl rfl rfl rfl ?_
            refine re_nil ?_
            refine qe_thenC ?_
            refine ce_cond rfl (fun h6 => ?_) (fun h6 => ?_)
            · try simp only [zn1, zn2, zn3, zn4, zn5, zn6] at h6
              refine ce_seq ?_
              refine ce_text (tab := []) (soft := 11) (.op 0 (.op 1 (.op 2 (.op 3 .nil)))) rfl rfl ?_
              refine re_move rfl rfl rfl rfl rfl ?_
              refine re_load H rfl rfl rfl rfl rfl sh_46 (by first | exact rdAt_all rfl | (simp only [rdAt, PS.cells, PS.over, GM.cells, Cmd.cells, List.cons_append, List.nil_append, List.drop_succ_cons, List.drop_zero, List.take_succ_cons, List.take_zero, List.length_cons, List.length_nil, Nat.zero_add, Nat.reduceAdd, Nat.reduceLeDiff, Nat.le_refl, ↓reduceIte] <;> rfl)) ?_
              refine re_call en_49 rfl rfl rfl rfl rfl ?_
              refine Calls.mono (hK _ _ H) ?_
              rintro e w ⟨v, rfl, HK⟩
              refine ⟨_, rfl, (fun h => (nomatch h)), ?_⟩
              refine re_assign rfl rfl rfl rfl rfl ?_
              refine re_nil ?_
              refine qe_thenC ?_
              refine ce_ret ?_
              refine qe_block_ret ?_
              refine qe_then_ret ?_
              refine qe_end rfl rfl ?_
              exact ⟨v, rfl, HK⟩
            · try simp only [zn1, zn2, zn3, zn4, zn5, zn6] at h6
              omega

theorem take_foreignA {B w : World} {F : List Ent} {g : Nat} {p : PS} {m : GM} {q : Nat} {cm : Cmd} (H : Own B (.cells g 80 p.cells :: .row p.ga p.gc 3 1 p.gs.length (ints p.gs) :: F) w) (hn : p.gs.length ≤ 1000000) (hi : p.ph = phA q cm) (hw : p.wants m = false) :
    Calls Try.prog 18 #[.pointer (some ⟨g, 0, none⟩), .agg m.cells.toArray] w fun e w' => e = .returned (slv none 0 0) ∧ Own B (.cells g 80 p.cells :: .row p.ga p.gc 3 1 p.gs.length (ints p.gs) :: F) w' := by
  refine calls_ce (args := [.pointer (some ⟨g, 0, none⟩), .agg m.cells.toArray]) Try.func18 rfl rfl ?_
  change CE _ _ 80 _ _ [(0, .pointer (some ⟨g, 0, none⟩)), (1, .agg m.cells.toArray)] _
  refine ce_seq ?_
  refine ce_text (tab := []) (soft := 2) (.op 0 (.op 1 .nil)) rfl rfl ?_
  refine re_box H rfl rfl rfl rfl rfl rfl ?_
  intro g3 w H
  refine ⟨(fun h => (nomatch h)), ?_⟩
  refine re_assign rfl rfl rfl rfl rfl ?_
  refine re_nil ?_
  refine qe_thenC ?_
  refine ce_seq ?_
  refine ce_seq ?_
  refine ce_text (tab := []) (soft := 3670015) (.op 0 (.op 1 (.op 2 (.op 3 (.op 4 (.op 5 (.op 6 (.op 7 (.op 8 (.op 9 (.op 10 (.op 11 (.op 12 (.op 13 (.op 14 (.op 15 (.op 16 (.op 17 (.op 18 (.op 19 (.op 20 (.op 21 .nil)))))))))))))))))))))) rfl rfl ?_
  refine re_move rfl rfl rfl rfl rfl ?_
  refine re_nilc rfl rfl rfl rfl rfl ?_
  first | refine re_field0 rfl rfl rfl rfl rfl fo_80_10 ?_ | refine re_field rfl rfl rfl rfl rfl fo_80_10 ?_ | refine re_fieldA rfl rfl rfl rfl rfl fo_80_10 ?_
  refine re_load H rfl rfl rfl rfl rfl sh_76 rfl ?_
  refine re_build rfl rfl rfl rfl rfl ze_73 pl_73 (by simp only [fillL, setMany, Value.cells, List.getElem?_cons_zero, List.getElem?_cons_succ, List.length_cons, List.length_nil, List.set_cons_zero, List.set_cons_succ, Nat.reduceAdd, Nat.reduceLeDiff, Nat.zero_add, and_self, ↓reduceIte]; rfl) ?_
  refine re_iface rfl rfl rfl rfl rfl nif_73 ?_
  simp only [hi]
  refine re_binW rfl rfl rfl rfl rfl rfl (run_ifNe ifc_76 rfl (.inl ⟨rfl, rfl⟩)) ?_
  refine re_move rfl rfl rfl rfl rfl ?_
  refine re_move rfl rfl rfl rfl rfl ?_
  refine re_nilc rfl rfl rfl rfl rfl ?_
  first | refine re_field0 rfl rfl rfl rfl rfl fo_80_10 ?_ | refine re_field rfl rfl rfl rfl rfl fo_80_10 ?_ | refine re_fieldA rfl rfl rfl rfl rfl fo_80_10 ?_
  refine re_load H rfl rfl rfl rfl rfl sh_76 rfl ?_
  refine re_build rfl rfl rfl rfl rfl ze_97 pl_97 (by simp only [fillL, setMany, Value.cells, List.getElem?_cons_zero, List.getElem?_cons_succ, List.length_cons, List.length_nil, List.set_cons_zero, List.set_cons_succ, Nat.reduceAdd, Nat.reduceLeDiff, Nat.zero_add, and_self, ↓reduceIte]; rfl) ?_
  refine re_iface rfl rfl rfl rfl rfl nif_97 ?_
  simp only [hi]
  refine re_binW rfl rfl rfl rfl rfl rfl (run_ifNe ifc_76 rfl (.inl ⟨rfl, rfl⟩)) ?_
  refine re_pickF rfl rfl rfl rfl rfl rfl ?_
  refine re_move rfl rfl rfl rfl rfl ?_
  refine re_move rfl rfl rfl rfl rfl ?_
  refine re_load H rfl rfl rfl rfl rfl sh_46 (by first | exact rdAt_all rfl | (simp only [rdAt, PS.cells, PS.over, GM.cells, Cmd.cells, List.cons_append, List.nil_append, List.drop_succ_cons, List.drop_zero, List.take_succ_cons, List.take_zero, List.length_cons, List.length_nil, Nat.zero_add, Nat.reduceAdd, Nat.reduceLeDiff, Nat.le_refl, ↓reduceIte] <;> rfl)) ?_
  refine re_call en_43 rfl rfl rfl rfl rfl ?_
  have H := H.front 2
  have H := H.front 2
  simp only [arrs, Fw.front, zm1, zm2, zm3, zm4, zm5] at H
  refine Calls.mono (forMe_s H hn) ?_
  rintro e w ⟨rfl, H⟩
  refine ⟨_, rfl, (fun h => (nomatch h)), ?_⟩
  refine re_not rfl rfl rfl rfl rfl ?_
  refine re_pickF rfl rfl rfl rfl rfl rfl ?_
  refine re_nil ?_
  refine qe_thenC ?_
  refine ce_cond rfl (fun h0 => ?_) (fun h0 => ?_)
  · try simp only [zn1, zn2, zn3, zn4, zn5, zn6] at h0
    refine ce_seq ?_
    refine ce_text (tab := []) (soft := 1) (.op 0 .nil) rfl rfl ?_
    refine re_assign rfl rfl rfl rfl rfl ?_
    refine re_nil ?_
    refine qe_thenC ?_
    refine ce_ret ?_
    refine qe_then_ret ?_
    refine qe_end rfl rfl ?_
    exact ⟨rfl, H.sub (.cons_cons _ (.cons_cons _ (.cons _ (List.Sublist.refl _))))⟩
  · try simp only [zn1, zn2, zn3, zn4, zn5, zn6] at h0
    rw [hw] at h0; cases h0

theorem take_knownA {B w : World} {F : List Ent} {g : Nat} {p : PS} {m : GM} {q : Nat} {cm : Cmd} (H : Own B (.cells g 80 p.cells :: .row p.ga p.gc 3 1 p.gs.length (ints p.gs) :: F) w) (hn : p.gs.length ≤ 1000000) (hi : p.ph = phA q cm) (hkd : m.kind = 16) (hw : p.wants m = true) :
    Calls Try.prog 18 #[.pointer (some ⟨g, 0, none⟩), .agg m.cells.toArray] w fun e w' => ∃ d, e = .returned (slv none 0 0) ∧ Own B (.cells g 80 { p.over with dc := .pointer (some ⟨d, 0, none⟩) }.cells :: .row p.ga p.gc 3 1 p.gs.length (ints p.gs) :: .cells d 28 m.cmd.cells :: F) w' := by
  refine calls_ce (args := [.pointer (some ⟨g, 0, none⟩), .agg m.cells.toArray]) Try.func18 rfl rfl ?_
  change CE _ _ 80 _ _ [(0, .pointer (some ⟨g, 0, none⟩)), (1, .agg m.cells.toArray)] _
  refine ce_seq ?_
  refine ce_text (tab := []) (soft := 2) (.op 0 (.op 1 .nil)) rfl rfl ?_
  refine re_box H rfl rfl rfl rfl rfl rfl ?_
  intro g3 w H
  refine ⟨(fun h => (nomatch h)), ?_⟩
  refine re_assign rfl rfl rfl rfl rfl ?_
  refine re_nil ?_
  refine qe_thenC ?_
  refine ce_seq ?_
  refine ce_seq ?_
  refine ce_text (tab := []) (soft := 3670015) (.op 0 (.op 1 (.op 2 (.op 3 (.op 4 (.op 5 (.op 6 (.op 7 (.op 8 (.op 9 (.op 10 (.op 11 (.op 12 (.op 13 (.op 14 (.op 15 (.op 16 (.op 17 (.op 18 (.op 19 (.op 20 (.op 21 .nil)))))))))))))))))))))) rfl rfl ?_
  refine re_move rfl rfl rfl rfl rfl ?_
  refine re_nilc rfl rfl rfl rfl rfl ?_
  first | refine re_field0 rfl rfl rfl rfl rfl fo_80_10 ?_ | refine re_field rfl rfl rfl rfl rfl fo_80_10 ?_ | refine re_fieldA rfl rfl rfl rfl rfl fo_80_10 ?_
  refine re_load H rfl rfl rfl rfl rfl sh_76 rfl ?_
  refine re_build rfl rfl rfl rfl rfl ze_73 pl_73 (by simp only [fillL, setMany, Value.cells, List.getElem?_cons_zero, List.getElem?_cons_succ, List.length_cons, List.length_nil, List.set_cons_zero, List.set_cons_succ, Nat.reduceAdd, Nat.reduceLeDiff, Nat.zero_add, and_self, ↓reduceIte]; rfl) ?_
  refine re_iface rfl rfl rfl rfl rfl nif_73 ?_
  simp only [hi]
  refine re_binW rfl rfl rfl rfl rfl rfl (run_ifNe ifc_76 rfl (.inl ⟨rfl, rfl⟩)) ?_
  refine re_move rfl rfl rfl rfl rfl ?_
  refine re_move rfl rfl rfl rfl rfl ?_
  refine re_nilc rfl rfl rfl rfl rfl ?_
  first | refine re_field0 rfl rfl rfl rfl rfl fo_80_10 ?_ | refine re_field rfl rfl rfl rfl rfl fo_80_10 ?_ | refine re_fieldA rfl rfl rfl rfl rfl fo_80_10 ?_
  refine re_load H rfl rfl rfl rfl rfl sh_76 rfl ?_
  refine re_build rfl rfl rfl rfl rfl ze_97 pl_97 (by simp only [fillL, setMany, Value.cells, List.getElem?_cons_zero, List.getElem?_cons_succ, List.length_cons, List.length_nil, List.set_cons_zero, List.set_cons_succ, Nat.reduceAdd, Nat.reduceLeDiff, Nat.zero_add, and_self, ↓reduceIte]; rfl) ?_
  refine re_iface rfl rfl rfl rfl rfl nif_97 ?_
  simp only [hi]
  refine re_binW rfl rfl rfl rfl rfl rfl (run_ifNe ifc_76 rfl (.inl ⟨rfl, rfl⟩)) ?_
  refine re_pickF rfl rfl rfl rfl rfl rfl ?_
  refine re_move rfl rfl rfl rfl rfl ?_
  refine re_move rfl rfl rfl rfl rfl ?_
  refine re_load H rfl rfl rfl rfl rfl sh_46 (by first | exact rdAt_all rfl | (simp only [rdAt, PS.cells, PS.over, GM.cells, Cmd.cells, List.cons_append, List.nil_append, List.drop_succ_cons, List.drop_zero, List.take_succ_cons, List.take_zero, List.length_cons, List.length_nil, Nat.zero_add, Nat.reduceAdd, Nat.reduceLeDiff, Nat.le_refl, ↓reduceIte] <;> rfl)) ?_
  refine re_call en_43 rfl rfl rfl rfl rfl ?_
  have H := H.front 2
  have H := H.front 2
  simp only [arrs, Fw.front, zm1, zm2, zm3, zm4, zm5] at H
  refine Calls.mono (forMe_s H hn) ?_
  rintro e w ⟨rfl, H⟩
  refine ⟨_, rfl, (fun h => (nomatch h)), ?_⟩
  refine re_not rfl rfl rfl rfl rfl ?_
  refine re_pickF rfl rfl rfl rfl rfl rfl ?_
  refine re_nil ?_
  refine qe_thenC ?_
  refine ce_cond rfl (fun h0 => ?_) (fun h0 => ?_)
  · try simp only [zn1, zn2, zn3, zn4, zn5, zn6] at h0
    rw [hw] at h0; cases h0
  · try simp only [zn1, zn2, zn3, zn4, zn5, zn6] at h0
    refine ce_skip ?_
    refine qe_thenC ?_
    refine ce_seq ?_
    refine ce_seq ?_
    refine ce_text (tab := []) (soft := 3) (.op 0 (.op 1 .nil)) rfl rfl ?_
    first | refine re_field0 rfl rfl rfl rfl rfl fo_46_0 ?_ | refine re_field rfl rfl rfl rfl rfl fo_46_0 ?_ | refine re_fieldA rfl rfl rfl rfl rfl fo_46_0 ?_
    refine re_load H rfl rfl rfl rfl rfl sh_3 rfl ?_
    refine re_nil ?_
    refine qe_thenC ?_
    refine ce_block ?_
    refine ce_seq ?_
    refine ce_text (tab := []) (soft := 3) (.op 0 (.op 1 .nil)) rfl rfl ?_
    refine re_bin rfl rfl rfl rfl rfl rfl rfl ?_
    refine re_assign rfl rfl rfl rfl rfl ?_
    refine re_nil ?_
    refine qe_thenC ?_
    refine ce_cond rfl (fun h1 => ?_) (fun h1 => ?_)
    · try simp only [zn1, zn2, zn3, zn4, zn5, zn6] at h1
      refine ce_text (tab := []) (soft := 7) (.op 0 (.op 1 (.op 2 (.op 3 .nil)))) rfl rfl ?_
      refine re_move rfl rfl rfl rfl rfl ?_
      first | refine re_field0 rfl rfl rfl rfl rfl fo_46_9 ?_ | refine re_field rfl rfl rfl rfl rfl fo_46_9 ?_ | refine re_fieldA rfl rfl rfl rfl rfl fo_46_9 ?_
      refine re_load H rfl rfl rfl rfl rfl sh_28 (by first | exact rdAt_all rfl | (simp only [rdAt, PS.cells, PS.over, GM.cells, Cmd.cells, List.cons_append, List.nil_append, List.drop_succ_cons, List.drop_zero, List.take_succ_cons, List.take_zero, List.length_cons, List.length_nil, Nat.zero_add, Nat.reduceAdd, Nat.reduceLeDiff, Nat.le_refl, ↓reduceIte] <;> rfl)) ?_
      refine re_call en_44 rfl rfl rfl rfl rfl ?_
      refine Calls.mono (decide_s (c := m.cmd) H) ?_
      rintro e w ⟨d, rfl, H⟩
      refine ⟨_, rfl, (fun h => (nomatch h)), ?_⟩
      refine re_nil ?_
      refine qe_block_norm ?_
      refine qe_thenC ?_
      refine ce_seq ?_
      refine ce_text (tab := []) (soft := 1) (.op 0 .nil) rfl rfl ?_
      refine re_assign rfl rfl rfl rfl rfl ?_
      refine re_nil ?_
      refine qe_thenC ?_
      refine ce_ret ?_
      refine qe_end rfl rfl ?_
      have H := Own.arr [1, 2, 2] H
      simp only [arrs, Fw.front, zm1, zm2, zm3, zm4, zm5] at H
      replace H := H.sub (.cons_cons _ (.cons_cons _ (.cons_cons _ (.cons _ (List.Sublist.refl _)))))
      exact ⟨d, rfl, H⟩
    · try simp only [zn1, zn2, zn3, zn4, zn5, zn6] at h1
      omega

theorem take_nackA {B w : World} {F : List Ent} {g : Nat} {p : PS} {m : GM} {q : Nat} {cm : Cmd} {ht hm hc : Nat} {ha : Option Nat} {hs : List Int} (H : Own B (.cells g 80 p.cells :: .row p.ga p.gc 3 1 p.gs.length (ints p.gs) :: .cells ht 109 [slv ha p.gs.length hc, .int .i64 ((p.gs.length : Int) + 1), .map (some hm)] :: .row ha hc 3 1 p.gs.length (ints p.gs) :: .imap hm (heardK hs) :: F) w) (hn : p.gs.length ≤ 1000000) (hi : p.ph = phA q cm) (hkd : m.kind = 14) (hw : p.wants m = true) (hh : p.hd = .pointer (some ⟨ht, 0, none⟩)) (hl : hs.length ≤ p.gs.length) (hf : p.fresh hs m.fi = true) :
    Calls Try.prog 18 #[.pointer (some ⟨g, 0, none⟩), .agg m.cells.toArray] w fun e w' => e = .returned (slv none 0 0) ∧ Own B (.cells g 80 (p.nack m.s0).cells :: .row p.ga p.gc 3 1 p.gs.length (ints p.gs) :: .cells ht 109 [slv ha p.gs.length hc, .int .i64 ((p.gs.length : Int) + 1), .map (some hm)] :: .row ha hc 3 1 p.gs.length (ints p.gs) :: .imap hm (heardK (hs ++ [m.fi])) :: F) w' := by
  refine calls_ce (args := [.pointer (some ⟨g, 0, none⟩), .agg m.cells.toArray]) Try.func18 rfl rfl ?_
  change CE _ _ 80 _ _ [(0, .pointer (some ⟨g, 0, none⟩)), (1, .agg m.cells.toArray)] _
  refine ce_seq ?_
  refine ce_text (tab := []) (soft := 2) (.op 0 (.op 1 .nil)) rfl rfl ?_
  refine re_box H rfl rfl rfl rfl rfl rfl ?_
  intro g3 w H
  refine ⟨(fun h => (nomatch h)), ?_⟩
  refine re_assign rfl rfl rfl rfl rfl ?_
  refine re_nil ?_
  refine qe_thenC ?_
  refine ce_seq ?_
  refine ce_seq ?_
  refine ce_text (tab := []) (soft := 3670015) (.op 0 (.op 1 (.op 2 (.op 3 (.op 4 (.op 5 (.op 6 (.op 7 (.op 8 (.op 9 (.op 10 (.op 11 (.op 12 (.op 13 (.op 14 (.op 15 (.op 16 (.op 17 (.op 18 (.op 19 (.op 20 (.op 21 .nil)))))))))))))))))))))) rfl rfl ?_
  refine re_move rfl rfl rfl rfl rfl ?_
  refine re_nilc rfl rfl rfl rfl rfl ?_
  first | refine re_field0 rfl rfl rfl rfl rfl fo_80_10 ?_ | refine re_field rfl rfl rfl rfl rfl fo_80_10 ?_ | refine re_fieldA rfl rfl rfl rfl rfl fo_80_10 ?_
  refine re_load H rfl rfl rfl rfl rfl sh_76 rfl ?_
  refine re_build rfl rfl rfl rfl rfl ze_73 pl_73 (by simp only [fillL, setMany, Value.cells, List.getElem?_cons_zero, List.getElem?_cons_succ, List.length_cons, List.length_nil, List.set_cons_zero, List.set_cons_succ, Nat.reduceAdd, Nat.reduceLeDiff, Nat.zero_add, and_self, ↓reduceIte]; rfl) ?_
  refine re_iface rfl rfl rfl rfl rfl nif_73 ?_
  simp only [hi]
  refine re_binW rfl rfl rfl rfl rfl rfl (run_ifNe ifc_76 rfl (.inl ⟨rfl, rfl⟩)) ?_
  refine re_move rfl rfl rfl rfl rfl ?_
  refine re_move rfl rfl rfl rfl rfl ?_
  refine re_nilc rfl rfl rfl rfl rfl ?_
  first | refine re_field0 rfl rfl rfl rfl rfl fo_80_10 ?_ | refine re_field rfl rfl rfl rfl rfl fo_80_10 ?_ | refine re_fieldA rfl rfl rfl rfl rfl fo_80_10 ?_
  refine re_load H rfl rfl rfl rfl rfl sh_76 rfl ?_
  refine re_build rfl rfl rfl rfl rfl ze_97 pl_97 (by simp only [fillL, setMany, Value.cells, List.getElem?_cons_zero, List.getElem?_cons_succ, List.length_cons, List.length_nil, List.set_cons_zero, List.set_cons_succ, Nat.reduceAdd, Nat.reduceLeDiff, Nat.zero_add, and_self, ↓reduceIte]; rfl) ?_
  refine re_iface rfl rfl rfl rfl rfl nif_97 ?_
  simp only [hi]
  refine re_binW rfl rfl rfl rfl rfl rfl (run_ifNe ifc_76 rfl (.inl ⟨rfl, rfl⟩)) ?_
  refine re_pickF rfl rfl rfl rfl rfl rfl ?_
  refine re_move rfl rfl rfl rfl rfl ?_
  refine re_move rfl rfl rfl rfl rfl ?_
  refine re_load H rfl rfl rfl rfl rfl sh_46 (by first | exact rdAt_all rfl | (simp only [rdAt, PS.cells, PS.over, GM.cells, Cmd.cells, List.cons_append, List.nil_append, List.drop_succ_cons, List.drop_zero, List.take_succ_cons, List.take_zero, List.length_cons, List.length_nil, Nat.zero_add, Nat.reduceAdd, Nat.reduceLeDiff, Nat.le_refl, ↓reduceIte] <;> rfl)) ?_
  refine re_call en_43 rfl rfl rfl rfl rfl ?_
  have H := H.front 2
  have H := H.front 2
  simp only [arrs, Fw.front, zm1, zm2, zm3, zm4, zm5] at H
  refine Calls.mono (forMe_s H hn) ?_
  rintro e w ⟨rfl, H⟩
  refine ⟨_, rfl, (fun h => (nomatch h)), ?_⟩
  refine re_not rfl rfl rfl rfl rfl ?_
  refine re_pickF rfl rfl rfl rfl rfl rfl ?_
  refine re_nil ?_
  refine qe_thenC ?_
  refine ce_cond rfl (fun h0 => ?_) (fun h0 => ?_)
  · try simp only [zn1, zn2, zn3, zn4, zn5, zn6] at h0
    rw [hw] at h0; cases h0
  · try simp only [zn1, zn2, zn3, zn4, zn5, zn6] at h0
    refine ce_skip ?_
    refine qe_thenC ?_
    refine ce_seq ?_
    refine ce_seq ?_
    refine ce_text (tab := []) (soft := 3) (.op 0 (.op 1 .nil)) rfl rfl ?_
    first | refine re_field0 rfl rfl rfl rfl rfl fo_46_0 ?_ | refine re_field rfl rfl rfl rfl rfl fo_46_0 ?_ | refine re_fieldA rfl rfl rfl rfl rfl fo_46_0 ?_
    refine re_load H rfl rfl rfl rfl rfl sh_3 rfl ?_
    refine re_nil ?_
    refine qe_thenC ?_
    refine ce_block ?_
    refine ce_seq ?_
    refine ce_text (tab := []) (soft := 3) (.op 0 (.op 1 .nil)) rfl rfl ?_
    refine re_bin rfl rfl rfl rfl rfl rfl rfl ?_
    refine re_assign rfl rfl rfl rfl rfl ?_
    refine re_nil ?_
    refine qe_thenC ?_
    refine ce_cond rfl (fun h1 => ?_) (fun h1 => ?_)
    · try simp only [zn1, zn2, zn3, zn4, zn5, zn6] at h1
      omega
    · try simp only [zn1, zn2, zn3, zn4, zn5, zn6] at h1
      refine ce_seq ?_
      refine ce_text (tab := []) (soft := 3) (.op 0 (.op 1 .nil)) rfl rfl ?_
      refine re_bin rfl rfl rfl rfl rfl rfl rfl ?_
      refine re_assign rfl rfl rfl rfl rfl ?_
      refine re_nil ?_
      refine qe_thenC ?_
      refine ce_cond rfl (fun h2 => ?_) (fun h2 => ?_)
      · try simp only [zn1, zn2, zn3, zn4, zn5, zn6] at h2
        omega
      · try simp only [zn1, zn2, zn3, zn4, zn5, zn6] at h2
        refine ce_seq ?_
        refine ce_text (tab := []) (soft := 3) (.op 0 (.op 1 .nil)) rfl rfl ?_
        refine re_bin rfl rfl rfl rfl rfl rfl rfl ?_
        refine re_assign rfl rfl rfl rfl rfl ?_
        refine re_nil ?_
        refine qe_thenC ?_
        refine ce_cond rfl (fun h3 => ?_) (fun h3 => ?_)
        · try simp only [zn1, zn2, zn3, zn4, zn5, zn6] at h3
          refine ce_seq ?_
          refine ce_text (tab := []) (soft := 3) (.op 0 (.op 1 (.op 2 .nil))) rfl rfl ?_
          refine re_move rfl rfl rfl rfl rfl ?_
          refine re_load H rfl rfl rfl rfl rfl sh_46 (by first | exact rdAt_all rfl | (simp only [rdAt, PS.cells, PS.over, GM.cells, Cmd.cells, List.cons_append, List.nil_append, List.drop_succ_cons, List.drop_zero, List.take_succ_cons, List.take_zero, List.length_cons, List.length_nil, Nat.zero_add, Nat.reduceAdd, Nat.reduceLeDiff, Nat.le_refl, ↓reduceIte] <;> rfl)) ?_
          refine re_call en_48 rfl rfl rfl rfl rfl ?_
          have H := Own.arr [2, 2, 5, 5, 5, 5] H
          simp only [arrs, Fw.front, zm1, zm2, zm3, zm4, zm5] at H
          refine Calls.mono (fresh_s H hh hn hl) ?_
          rintro e w ⟨rfl, H⟩
          simp only [hf] at H ⊢
          refine ⟨_, rfl, (fun h => (nomatch h)), ?_⟩
          refine re_nil ?_
          refine qe_thenC ?_
          refine ce_condT rfl ?_
          refine ce_open (tab := [0, 0, 0, 4, 12, 28, 0, 64, 192, 508, 61, 1085, 3133, 8191, 16383, 32767]) (soft := 28671) mixed (.op 0 (.op 1 (.op 2 (.op 3 (.op 4 (.op 5 (.op 6 (.op 7 (.op 8 (.op 9 (.op 10 (.op 11 (.op 12 (.op 13 (.op 14 (.op 15 .nil)))))))))))))))) (by kernel_rfl) H ?_
          intro w H
          refine re_move rfl rfl rfl rfl rfl ?_
          refine re_move rfl rfl rfl rfl rfl ?_
          refine re_move rfl rfl rfl rfl rfl ?_
          refine re_nilc rfl rfl rfl rfl rfl ?_
          first | refine re_field0 rfl rfl rfl rfl rfl fo_80_7 ?_ | refine re_field rfl rfl rfl rfl rfl fo_80_7 ?_ | refine re_fieldA rfl rfl rfl rfl rfl fo_80_7 ?_
          refine re_load H rfl rfl rfl rfl rfl sh_3 rfl ?_
          first | refine re_field0 rfl rfl rfl rfl rfl fo_46_6 ?_ | refine re_field rfl rfl rfl rfl rfl fo_46_6 ?_ | refine re_fieldA rfl rfl rfl rfl rfl fo_46_6 ?_
          first | refine re_field0 rfl rfl rfl rfl rfl fo_38_0 ?_ | refine re_field rfl rfl rfl rfl rfl fo_38_0 ?_ | refine re_fieldA rfl rfl rfl rfl rfl fo_38_0 ?_
          refine re_load H rfl rfl rfl rfl rfl sh_3 rfl ?_
          refine re_max rfl rfl rfl rfl rfl rfl ?_
          refine re_nilc rfl rfl rfl rfl rfl ?_
          first | refine re_field0 rfl rfl rfl rfl rfl fo_80_8 ?_ | refine re_field rfl rfl rfl rfl rfl fo_80_8 ?_ | refine re_fieldA rfl rfl rfl rfl rfl fo_80_8 ?_
          refine re_store H rfl rfl rfl rfl rfl rfl sh_4 rfl rfl rfl ?_
          intro cs w hcs H
          first | rw [setMany_whole rfl] at hcs | simp only [setMany, List.set_cons_zero, List.set_cons_succ, Nat.reduceAdd, Nat.zero_add, PS.cells, PS.over, GM.cells, Cmd.cells, List.cons_append, List.nil_append] at hcs
          subst hcs
          refine ⟨(fun _ => ⟨fun _ => still_load H sh_3 rfl, ancs (i := 12) (j := 5) rfl, trivial⟩), ?_⟩
          refine re_nilc rfl rfl rfl rfl rfl ?_
          first | refine re_field0 rfl rfl rfl rfl rfl fo_80_7 ?_ | refine re_field rfl rfl rfl rfl rfl fo_80_7 ?_ | refine re_fieldA rfl rfl rfl rfl rfl fo_80_7 ?_
          refine re_store H rfl rfl rfl rfl rfl rfl sh_3 rfl rfl rfl ?_
          intro cs w hcs H
          first | rw [setMany_whole rfl] at hcs | simp only [setMany, List.set_cons_zero, List.set_cons_succ, Nat.reduceAdd, Nat.zero_add, PS.cells, PS.over, GM.cells, Cmd.cells, List.cons_append, List.nil_append] at hcs
          subst hcs
          refine ⟨(fun _ => ⟨ancs (i := 15) (j := 8) rfl, ancs (i := 15) (j := 5) rfl, trivial⟩), ?_⟩
          refine re_nil ?_
          refine qe_noPanic ?_
          refine qe_block_norm ?_
          refine qe_thenC ?_
          refine ce_seq ?_
          refine ce_text (tab := []) (soft := 1) (.op 0 .nil) rfl rfl ?_
          refine re_assign rfl rfl rfl rfl rfl ?_
          refine re_nil ?_
          refine qe_thenC ?_
          refine ce_ret ?_
          refine qe_end rfl rfl ?_
          simp only [if_true] at H
          have H := Own.arr [3, 3, 3, 4, 4] H
          simp only [arrs, Fw.front, zm1, zm2, zm3, zm4, zm5] at H
          replace H := H.sub (.cons_cons _ (.cons_cons _ (.cons_cons _ (.cons_cons _ (.cons_cons _ (.cons _ (List.Sublist.refl _)))))))
          exact ⟨rfl, H⟩
        · try simp only [zn1, zn2, zn3, zn4, zn5, zn6] at h3
          omega

theorem take_nackOldA {B w : World} {F : List Ent} {g : Nat} {p : PS} {m : GM} {q : Nat} {cm : Cmd} {ht hm hc : Nat} {ha : Option Nat} {hs : List Int} (H : Own B (.cells g 80 p.cells :: .row p.ga p.gc 3 1 p.gs.length (ints p.gs) :: .cells ht 109 [slv ha p.gs.length hc, .int .i64 ((p.gs.length : Int) + 1), .map (some hm)] :: .row ha hc 3 1 p.gs.length (ints p.gs) :: .imap hm (heardK hs) :: F) w) (hn : p.gs.length ≤ 1000000) (hi : p.ph = phA q cm) (hkd : m.kind = 14) (hw : p.wants m = true) (hh : p.hd = .pointer (some ⟨ht, 0, none⟩)) (hl : hs.length ≤ p.gs.length) (hf : p.fresh hs m.fi = false) :
    Calls Try.prog 18 #[.pointer (some ⟨g, 0, none⟩), .agg m.cells.toArray] w fun e w' => e = .returned (slv none 0 0) ∧ Own B (.cells g 80 p.cells :: .row p.ga p.gc 3 1 p.gs.length (ints p.gs) :: .cells ht 109 [slv ha p.gs.length hc, .int .i64 ((p.gs.length : Int) + 1), .map (some hm)] :: .row ha hc 3 1 p.gs.length (ints p.gs) :: .imap hm (heardK hs) :: F) w' := by
  refine calls_ce (args := [.pointer (some ⟨g, 0, none⟩), .agg m.cells.toArray]) Try.func18 rfl rfl ?_
  change CE _ _ 80 _ _ [(0, .pointer (some ⟨g, 0, none⟩)), (1, .agg m.cells.toArray)] _
  refine ce_seq ?_
  refine ce_text (tab := []) (soft := 2) (.op 0 (.op 1 .nil)) rfl rfl ?_
  refine re_box H rfl rfl rfl rfl rfl rfl ?_
  intro g3 w H
  refine ⟨(fun h => (nomatch h)), ?_⟩
  refine re_assign rfl rfl rfl rfl rfl ?_
  refine re_nil ?_
  refine qe_thenC ?_
  refine ce_seq ?_
  refine ce_seq ?_
  refine ce_text (tab := []) (soft := 3670015) (.op 0 (.op 1 (.op 2 (.op 3 (.op 4 (.op 5 (.op 6 (.op 7 (.op 8 (.op 9 (.op 10 (.op 11 (.op 12 (.op 13 (.op 14 (.op 15 (.op 16 (.op 17 (.op 18 (.op 19 (.op 20 (.op 21 .nil)))))))))))))))))))))) rfl rfl ?_
  refine re_move rfl rfl rfl rfl rfl ?_
  refine re_nilc rfl rfl rfl rfl rfl ?_
  first | refine re_field0 rfl rfl rfl rfl rfl fo_80_10 ?_ | refine re_field rfl rfl rfl rfl rfl fo_80_10 ?_ | refine re_fieldA rfl rfl rfl rfl rfl fo_80_10 ?_
  refine re_load H rfl rfl rfl rfl rfl sh_76 rfl ?_
  refine re_build rfl rfl rfl rfl rfl ze_73 pl_73 (by simp only [fillL, setMany, Value.cells, List.getElem?_cons_zero, List.getElem?_cons_succ, List.length_cons, List.length_nil, List.set_cons_zero, List.set_cons_succ, Nat.reduceAdd, Nat.reduceLeDiff, Nat.zero_add, and_self, ↓reduceIte]; rfl) ?_
  refine re_iface rfl rfl rfl rfl rfl nif_73 ?_
  simp only [hi]
  refine re_binW rfl rfl rfl rfl rfl rfl (run_ifNe ifc_76 rfl (.inl ⟨rfl, rfl⟩)) ?_
  refine re_move rfl rfl rfl rfl rfl ?_
  refine re_move rfl rfl rfl rfl rfl ?_
  refine re_nilc rfl rfl rfl rfl rfl ?_
  first | refine re_field0 rfl rfl rfl rfl rfl fo_80_10 ?_ | refine re_field rfl rfl rfl rfl rfl fo_80_10 ?_ | refine re_fieldA rfl rfl rfl rfl rfl fo_80_10 ?_
  refine re_load H rfl rfl rfl rfl rfl sh_76 rfl ?_
  refine re_build rfl rfl rfl rfl rfl ze_97 pl_97 (by simp only [fillL, setMany, Value.cells, List.getElem?_cons_zero, List.getElem?_cons_succ, List.length_cons, List.length_nil, List.set_cons_zero, List.set_cons_succ, Nat.reduceAdd, Nat.reduceLeDiff, Nat.zero_add, and_self, ↓reduceIte]; rfl) ?_
  refine re_iface rfl rfl rfl rfl rfl nif_97 ?_
  simp only [hi]
  refine re_binW rfl rfl rfl rfl rfl rfl (run_ifNe ifc_76 rfl (.inl ⟨rfl, rfl⟩)) ?_
  refine re_pickF rfl rfl rfl rfl rfl rfl ?_
  refine re_move rfl rfl rfl rfl rfl ?_
  refine re_move rfl rfl rfl rfl rfl ?_
  refine re_load H rfl rfl rfl rfl rfl sh_46 (by first | exact rdAt_all rfl | (simp only [rdAt, PS.cells, PS.over, GM.cells, Cmd.cells, List.cons_append, List.nil_append, List.drop_succ_cons, List.drop_zero, List.take_succ_cons, List.take_zero, List.length_cons, List.length_nil, Nat.zero_add, Nat.reduceAdd, Nat.reduceLeDiff, Nat.le_refl, ↓reduceIte] <;> rfl)) ?_
  refine re_call en_43 rfl rfl rfl rfl rfl ?_
  have H := H.front 2
  have H := H.front 2
  simp only [arrs, Fw.front, zm1, zm2, zm3, zm4, zm5] at H
  refine Calls.mono (forMe_s H hn) ?_
  rintro e w ⟨rfl, H⟩
  refine ⟨_, rfl, (fun h => (nomatch h)), ?_⟩
  refine re_not rfl rfl rfl rfl rfl ?_
  refine re_pickF rfl rfl rfl rfl rfl rfl ?_
  refine re_nil ?_
  refine qe_thenC ?_
  refine ce_cond rfl (fun h0 => ?_) (fun h0 => ?_)
  · try simp only [zn1, zn2, zn3, zn4, zn5, zn6] at h0
    rw [hw] at h0; cases h0
  · try simp only [zn1, zn2, zn3, zn4, zn5, zn6] at h0
    refine ce_skip ?_
    refine qe_thenC ?_
    refine ce_seq ?_
    refine ce_seq ?_
    refine ce_text (tab := []) (soft := 3) (.op 0 (.op 1 .nil)) rfl rfl ?_
    first | refine re_field0 rfl rfl rfl rfl rfl fo_46_0 ?_ | refine re_field rfl rfl rfl rfl rfl fo_46_0 ?_ | refine re_fieldA rfl rfl rfl rfl rfl fo_46_0 ?_
    refine re_load H rfl rfl rfl rfl rfl sh_3 rfl ?_
    refine re_nil ?_
    refine qe_thenC ?_
    refine ce_block ?_
    refine ce_seq ?_
    refine ce_text (tab := []) (soft := 3) (.op 0 (.op 1 .nil)) rfl rfl ?_
    refine re_bin rfl rfl rfl rfl rfl rfl rfl ?_
    refine re_assign rfl rfl rfl rfl rfl ?_
    refine re_nil ?_
    refine qe_thenC ?_
    refine ce_cond rfl (fun h1 => ?_) (fun h1 => ?_)
    · try simp only [zn1, zn2, zn3, zn4, zn5, zn6] at h1
      omega
    · try simp only [zn1, zn2, zn3, zn4, zn5, zn6] at h1
      refine ce_seq ?_
      refine ce_text (tab := []) (soft := 3) (.op 0 (.op 1 .nil)) rfl rfl ?_
      refine re_bin rfl rfl rfl rfl rfl rfl rfl ?_
      refine re_assign rfl rfl rfl rfl rfl ?_
      refine re_nil ?_
      refine qe_thenC ?_
      refine ce_cond rfl (fun h2 => ?_) (fun h2 => ?_)
      · try simp only [zn1, zn2, zn3, zn4, zn5, zn6] at h2
        omega
      · try simp only [zn1, zn2, zn3, zn4, zn5, zn6] at h2
        refine ce_seq ?_
        refine ce_text (tab := []) (soft := 3) (.op 0 (.op 1 .nil)) rfl rfl ?_
        refine re_bin rfl rfl rfl rfl rfl rfl rfl ?_
        refine re_assign rfl rfl rfl rfl rfl ?_
        refine re_nil ?_
        refine qe_thenC ?_
        refine ce_cond rfl (fun h3 => ?_) (fun h3 => ?_)
        · try simp only [zn1, zn2, zn3, zn4, zn5, zn6] at h3
          refine ce_seq ?_
          refine ce_text (tab := []) (soft := 3) (.op 0 (.op 1 (.op 2 .nil))) rfl rfl ?_
          refine re_move rfl rfl rfl rfl rfl ?_
          refine re_load H rfl rfl rfl rfl rfl sh_46 (by first | exact rdAt_all rfl | (simp only [rdAt, PS.cells, PS.over, GM.cells, Cmd.cells, List.cons_append, List.nil_append, List.drop_succ_cons, List.drop_zero, List.take_succ_cons, List.take_zero, List.length_cons, List.length_nil, Nat.zero_add, Nat.reduceAdd, Nat.reduceLeDiff, Nat.le_refl, ↓reduceIte] <;> rfl)) ?_
          refine re_call en_48 rfl rfl rfl rfl rfl ?_
          have H := Own.arr [2, 2, 5, 5, 5, 5] H
          simp only [arrs, Fw.front, zm1, zm2, zm3, zm4, zm5] at H
          refine Calls.mono (fresh_s H hh hn hl) ?_
          rintro e w ⟨rfl, H⟩
          simp only [hf] at H ⊢
          refine ⟨_, rfl, (fun h => (nomatch h)), ?_⟩
          refine re_nil ?_
          refine qe_thenC ?_
          refine ce_condF rfl ?_
          refine ce_skip ?_
          refine qe_block_norm ?_
          refine qe_thenC ?_
          refine ce_seq ?_
          refine ce_text (tab := []) (soft := 1) (.op 0 .nil) rfl rfl ?_
          refine re_assign rfl rfl rfl rfl rfl ?_
          refine re_nil ?_
          refine qe_thenC ?_
          refine ce_ret ?_
          refine qe_end rfl rfl ?_
          simp only [Bool.false_eq_true, if_false] at H
          have H := Own.arr [3, 3, 3, 4, 4] H
          simp only [arrs, Fw.front, zm1, zm2, zm3, zm4, zm5] at H
          replace H := H.sub (.cons_cons _ (.cons_cons _ (.cons_cons _ (.cons_cons _ (.cons_cons _ (.cons _ (List.Sublist.refl _)))))))
          exact ⟨rfl, H⟩
        · try simp only [zn1, zn2, zn3, zn4, zn5, zn6] at h3
          omega

theorem take_countA {B w : World} {F : List Ent} {g : Nat} {p : PS} {m : GM} {q : Nat} {cm : Cmd} {K : Value → World → Prop} (H : Own B (.cells g 80 p.cells :: .row p.ga p.gc 3 1 p.gs.length (ints p.gs) :: F) w) (hn : p.gs.length ≤ 1000000) (hi : p.ph = phA q cm) (hkd : m.kind = 13 ∨ m.kind = 15) (hw : p.wants m = true) (hK : ∀ b w, Own B (.cells g 80 p.cells :: .row p.ga p.gc 3 1 p.gs.length (ints p.gs) :: .cells b 46 m.cells :: F) w → Calls Try.prog 49 #[.pointer (some ⟨g, 0, none⟩), .agg m.cells.toArray] w fun e w' => ∃ v, e = .returned v ∧ K v w') :
    Calls Try.prog 18 #[.pointer (some ⟨g, 0, none⟩), .agg m.cells.toArray] w fun e w' => ∃ v, e = .returned v ∧ K v w' := by
  refine calls_ce (args := [.pointer (some ⟨g, 0, none⟩), .agg m.cells.toArray]) Try.func18 rfl rfl ?_
  change CE _ _ 80 _ _ [(0, .pointer (some ⟨g, 0, none⟩)), (1, .agg m.cells.toArray)] _
  refine ce_seq ?_
  refine ce_text (tab := []) (soft := 2) (.op 0 (.op 1 .nil)) rfl rfl ?_
  refine re_box H rfl rfl rfl rfl rfl rfl ?_
  intro g3 w H
  refine ⟨(fun h => (nomatch h)), ?_⟩
  refine re_assign rfl rfl rfl rfl rfl ?_
  refine re_nil ?_
  refine qe_thenC ?_
  refine ce_seq ?_
  refine ce_seq ?_
  refine ce_text (tab := []) (soft := 3670015) (.op 0 (.op 1 (.op 2 (.op 3 (.op 4 (.op 5 (.op 6 (.op 7 (.op 8 (.op 9 (.op 10 (.op 11 (.op 12 (.op 13 (.op 14 (.op 15 (.op 16 (.op 17 (.op 18 (.op 19 (.op 20 (.op 21 .nil)))))))))))))))))))))) rfl rfl ?_
  refine re_move rfl rfl rfl rfl rfl ?_
  refine re_nilc rfl rfl rfl rfl rfl ?_
  first | refine re_field0 rfl rfl rfl rfl rfl fo_80_10 ?_ | refine re_field rfl rfl rfl rfl rfl fo_80_10 ?_ | refine re_fieldA rfl rfl rfl rfl rfl fo_80_10 ?_
  refine re_load H rfl rfl rfl rfl rfl sh_76 rfl ?_
  refine re_build rfl rfl rfl rfl rfl ze_73 pl_73 (by simp only [fillL, setMany, Value.cells, List.getElem?_cons_zero, List.getElem?_cons_succ, List.length_cons, List.length_nil, List.set_cons_zero, List.set_cons_succ, Nat.reduceAdd, Nat.reduceLeDiff, Nat.zero_add, and_self, ↓reduceIte]; rfl) ?_
  refine re_iface rfl rfl rfl rfl rfl nif_73 ?_
  simp only [hi]
  refine re_binW rfl rfl rfl rfl rfl rfl (run_ifNe ifc_76 rfl (.inl ⟨rfl, rfl⟩)) ?_
  refine re_move rfl rfl rfl rfl rfl ?_
  refine re_move rfl rfl rfl rfl rfl ?_
  refine re_nilc rfl rfl rfl rfl rfl ?_
  first | refine re_field0 rfl rfl rfl rfl rfl fo_80_10 ?_ | refine re_field rfl rfl rfl rfl rfl fo_80_10 ?_ | refine re_fieldA rfl rfl rfl rfl rfl fo_80_10 ?_
  refine re_load H rfl rfl rfl rfl rfl sh_76 rfl ?_
  refine re_build rfl rfl rfl rfl rfl ze_97 pl_97 (by simp only [fillL, setMany, Value.cells, List.getElem?_cons_zero, List.getElem?_cons_succ, List.length_cons, List.length_nil, List.set_cons_zero, List.set_cons_succ, Nat.reduceAdd, Nat.reduceLeDiff, Nat.zero_add, and_self, ↓reduceIte]; rfl) ?_
  refine re_iface rfl rfl rfl rfl rfl nif_97 ?_
  simp only [hi]
  refine re_binW rfl rfl rfl rfl rfl rfl (run_ifNe ifc_76 rfl (.inl ⟨rfl, rfl⟩)) ?_
  refine re_pickF rfl rfl rfl rfl rfl rfl ?_
  refine re_move rfl rfl rfl rfl rfl ?_
  refine re_move rfl rfl rfl rfl rfl ?_
  refine re_load H rfl rfl rfl rfl rfl sh_46 (by first | exact rdAt_all rfl | (simp only [rdAt, PS.cells, PS.over, GM.cells, Cmd.cells, List.cons_append, List.nil_append, List.drop_succ_cons, List.drop_zero, List.take_succ_cons, List.take_zero, List.length_cons, List.length_nil, Nat.zero_add, Nat.reduceAdd, Nat.reduceLeDiff, Nat.le_refl, ↓reduceIte] <;> rfl)) ?_
  refine re_call en_43 rfl rfl rfl rfl rfl ?_
  have H := H.front 2
  have H := H.front 2
  simp only [arrs, Fw.front, zm1, zm2, zm3, zm4, zm5] at H
  refine Calls.mono (forMe_s H hn) ?_
  rintro e w ⟨rfl, H⟩
  refine ⟨_, rfl, (fun h => (nomatch h)), ?_⟩
  refine re_not rfl rfl rfl rfl rfl ?_
  refine re_pickF rfl rfl rfl rfl rfl rfl ?_
  refine re_nil ?_
  refine qe_thenC ?_
  refine ce_cond rfl (fun h0 => ?_) (fun h0 => ?_)
  · try simp only [zn1, zn2, zn3, zn4, zn5, zn6] at h0
    rw [hw] at h0; cases h0
  · try simp only [zn1, zn2, zn3, zn4, zn5, zn6] at h0
    refine ce_skip ?_
    refine qe_thenC ?_
    refine ce_seq ?_
    refine ce_seq ?_
    refine ce_text (tab := []) (soft := 3) (.op 0 (.op 1 .nil)) rfl rfl ?_
    first | refine re_field0 rfl rfl rfl rfl rfl fo_46_0 ?_ | refine re_field rfl rfl rfl rfl rfl fo_46_0 ?_ | refine re_fieldA rfl rfl rfl rfl rfl fo_46_0 ?_
    refine re_load H rfl rfl rfl rfl rfl sh_3 rfl ?_
    refine re_nil ?_
    refine qe_thenC ?_
    refine ce_block ?_
    refine ce_seq ?_
    refine ce_text (tab := []) (soft := 3) (.op 0 (.op 1 .nil)) rfl rfl ?_
    refine re_bin rfl rfl rfl rfl rfl rfl rfl ?_
    refine re_assign rfl rfl rfl rfl rfl ?_
    refine re_nil ?_
    refine qe_thenC ?_
    refine ce_cond rfl (fun h1 => ?_) (fun h1 => ?_)
    · try simp only [zn1, zn2, zn3, zn4, zn5, zn6] at h1
      omega
    · try simp only [zn1, zn2, zn3, zn4, zn5, zn6] at h1
      refine ce_seq ?_
      refine ce_text (tab := []) (soft := 3) (.op 0 (.op 1 .nil)) rfl rfl ?_
      refine re_bin rfl rfl rfl rfl rfl rfl rfl ?_
      refine re_assign rfl rfl rfl rfl rfl ?_
      refine re_nil ?_
      refine qe_thenC ?_
      refine ce_cond rfl (fun h2 => ?_) (fun h2 => ?_)
      · try simp only [zn1, zn2, zn3, zn4, zn5, zn6] at h2
        omega
      · try simp only [zn1, zn2, zn3, zn4, zn5, zn6] at h2
        refine ce_seq ?_
        refine ce_text (tab := []) (soft := 3) (.op 0 (.op 1 .nil)) rfl rfl ?_
        refine re_bin rfl rfl rfl rfl rfl rfl rfl ?_
        refine re_assign rfl rfl rfl rfl rfl ?_
        refine re_nil ?_
        refine qe_thenC ?_
        refine ce_cond rfl (fun h3 => ?_) (fun h3 => ?_)
        · try simp only [zn1, zn2, zn3, zn4, zn5, zn6] at h3
          omega
        · try simp only [zn1, zn2, zn3, zn4, zn5, zn6] at h3
          refine ce_seq ?_
          refine ce_seq ?_
          refine ce_text (tab := []) (soft := 3) (.op 0 (.op 1 .nil)) rfl rfl ?_
          refine re_bin rfl rfl rfl rfl rfl rfl rfl ?_
          refine re_assign rfl rfl rfl rfl rfl ?_
          refine re_nil ?_
          refine qe_thenC ?_
          refine ce_cond rfl (fun h5 => ?_) (fun h5 => ?_)
          · try simp only [zn1, zn2, zn3, zn4, zn5, zn6] at h5
            refine ce_skip ?_
            refine qe_thenC ?_
            refine ce_cond rfl (fun h6 => ?_) (fun h6 => ?_)
            · try simp only [zn1, zn2, zn3, zn4, zn5, zn6] at h6
              refine ce_seq ?_
              refine ce_text (tab := []) (soft := 11) (.op 0 (.op 1 (.op 2 (.op 3 .nil)))) rfl rfl ?_
              refine re_move rfl rfl rfl rfl rfl ?_
              refine re_load H rfl rfl rfl rfl rfl sh_46 (by first | exact rdAt_all rfl | (simp only [rdAt, PS.cells, PS.over, GM.cells, Cmd.cells, List.cons_append, List.nil_append, List.drop_succ_cons, List.drop_zero, List.take_succ_cons, List.take_zero, List.length_cons, List.length_nil, Nat.zero_add, Nat.reduceAdd, Nat.reduceLeDiff, Nat.le_refl, ↓reduceIte] <;> rfl)) ?_
              refine re_call en_49 rfl rfl rfl rfl rfl ?_
              refine Calls.mono (hK _ _ H) ?_
              rintro e w ⟨v, rfl, HK⟩
              refine ⟨_, rfl, (fun h => (nomatch h)), ?_⟩
              refine re_assign rfl rfl rfl rfl rfl ?_
              refine re_nil ?_
              refine qe_thenC ?_
              refine ce_ret ?_
              refine qe_block_ret ?_
              refine qe_then_ret ?_
              refine qe_end rfl rfl ?_
              exact ⟨v, rfl, HK⟩
            · try simp only [zn1, zn2, zn3, zn4, zn5, zn6] at h6
              omega
          · try simp only [zn1, zn2, zn3, zn4, zn5, zn6] at h5
            refine ce_text (tab := []) (soft := 3) (.op 0 (.op 1 .nil)) rfl rfl ?_
            refine re_bin rfl rfl rfl rfl rfl rfl rfl ?_
            refine re_assign rfl rfl rfl rfl rfl ?_
            refine re_nil ?_
            refine qe_thenC ?_
            refine ce_cond rfl (fun h6 => ?_) (fun h6 => ?_)
            · try simp only [zn1, zn2, zn3, zn4, zn5, zn6] at h6
              refine ce_seq ?_
              refine ce_text (tab := []) (soft := 11) (.op 0 (.op 1 (.op 2 (.op 3 .nil)))) rfl rfl ?_
              refine re_move rfl rfl rfl rfl rfl ?_
              refine re_load H rfl rfl rfl rfl rfl sh_46 (by first | exact rdAt_all rfl | (simp only [rdAt, PS.cells, PS.over, GM.cells, Cmd.cells, List.cons_append, List.nil_append, List.drop_succ_cons, List.drop_zero, List.take_succ_cons, List.take_zero, List.length_cons, List.length_nil, Nat.zero_add, Nat.reduceAdd, Nat.reduceLeDiff, Nat.le_refl, ↓reduceIte] <;> rfl)) ?_
              refine re_call en_49 rfl rfl rfl rfl rfl ?_
              refine Calls.mono (hK _ _ H) ?_
              rintro e w ⟨v, rfl, HK⟩
              refine ⟨_, rfl, (fun h => (nomatch h)), ?_⟩
              refine re_assign rfl rfl rfl rfl rfl ?_
              refine re_nil ?_
              refine qe_thenC ?_
              refine ce_ret ?_
              refine qe_block_ret ?_
              refine qe_then_ret ?_
              refine qe_end rfl rfl ?_
              exact ⟨v, rfl, HK⟩
            · try simp only [zn1, zn2, zn3, zn4, zn5, zn6] at h6
              omega

theorem take_over {B w : World} {F : List Ent} {g : Nat} {p : PS} {m : GM} (H : Own B (.cells g 80 p.cells :: F) w) (hi : p.ph = .iface 97 (.agg #[])) :
    Calls Try.prog 18 #[.pointer (some ⟨g, 0, none⟩), .agg m.cells.toArray] w fun e w' => e = .returned (slv none 0 0) ∧ Own B (.cells g 80 p.cells :: F) w' := by
  refine calls_ce (args := [.pointer (some ⟨g, 0, none⟩), .agg m.cells.toArray]) Try.func18 rfl rfl ?_
  change CE _ _ 80 _ _ [(0, .pointer (some ⟨g, 0, none⟩)), (1, .agg m.cells.toArray)] _
  refine ce_seq ?_
  refine ce_text (tab := []) (soft := 2) (.op 0 (.op 1 .nil)) rfl rfl ?_
  refine re_box H rfl rfl rfl rfl rfl rfl ?_
  intro g3 w H
  refine ⟨(fun h => (nomatch h)), ?_⟩
  refine re_assign rfl rfl rfl rfl rfl ?_
  refine re_nil ?_
  refine qe_thenC ?_
  refine ce_seq ?_
  refine ce_seq ?_
  refine ce_text (tab := []) (soft := 3670015) (.op 0 (.op 1 (.op 2 (.op 3 (.op 4 (.op 5 (.op 6 (.op 7 (.op 8 (.op 9 (.op 10 (.op 11 (.op 12 (.op 13 (.op 14 (.op 15 (.op 16 (.op 17 (.op 18 (.op 19 (.op 20 (.op 21 .nil)))))))))))))))))))))) rfl rfl ?_
  refine re_move rfl rfl rfl rfl rfl ?_
  refine re_nilc rfl rfl rfl rfl rfl ?_
  first | refine re_field0 rfl rfl rfl rfl rfl fo_80_10 ?_ | refine re_field rfl rfl rfl rfl rfl fo_80_10 ?_ | refine re_fieldA rfl rfl rfl rfl rfl fo_80_10 ?_
  refine re_load H rfl rfl rfl rfl rfl sh_76 rfl ?_
  refine re_build rfl rfl rfl rfl rfl ze_73 pl_73 (by simp only [fillL, setMany, Value.cells, List.getElem?_cons_zero, List.getElem?_cons_succ, List.length_cons, List.length_nil, List.set_cons_zero, List.set_cons_succ, Nat.reduceAdd, Nat.reduceLeDiff, Nat.zero_add, and_self, ↓reduceIte]; rfl) ?_
  refine re_iface rfl rfl rfl rfl rfl nif_73 ?_
  simp only [hi]
  refine re_binW rfl rfl rfl rfl rfl rfl (run_ifNe ifc_76 rfl (.inl ⟨rfl, rfl⟩)) ?_
  refine re_move rfl rfl rfl rfl rfl ?_
  refine re_move rfl rfl rfl rfl rfl ?_
  refine re_nilc rfl rfl rfl rfl rfl ?_
  first | refine re_field0 rfl rfl rfl rfl rfl fo_80_10 ?_ | refine re_field rfl rfl rfl rfl rfl fo_80_10 ?_ | refine re_fieldA rfl rfl rfl rfl rfl fo_80_10 ?_
  refine re_load H rfl rfl rfl rfl rfl sh_76 rfl ?_
  refine re_build rfl rfl rfl rfl rfl ze_97 pl_97 (by simp only [fillL, setMany, Value.cells, List.getElem?_cons_zero, List.getElem?_cons_succ, List.length_cons, List.length_nil, List.set_cons_zero, List.set_cons_succ, Nat.reduceAdd, Nat.reduceLeDiff, Nat.zero_add, and_self, ↓reduceIte]; rfl) ?_
  refine re_iface rfl rfl rfl rfl rfl nif_97 ?_
  simp only [hi]
  refine re_binW rfl rfl rfl rfl rfl rfl (run_ifEq0 ifc_76 cmp_97 fk_97 sh_97 (.inl ⟨rfl, rfl⟩)) ?_
  refine re_pickF rfl rfl rfl rfl rfl rfl ?_
  refine re_move rfl rfl rfl rfl rfl ?_
  refine re_skip1 rfl rfl rfl ?_
  refine re_skip1 rfl rfl rfl ?_
  refine re_skip1 rfl rfl rfl ?_
  refine re_skip1 rfl rfl rfl ?_
  refine re_pickT rfl rfl rfl rfl rfl rfl ?_
  refine re_nil ?_
  refine qe_thenC ?_
  refine ce_condT rfl ?_
  refine ce_seq ?_
  refine ce_text (tab := []) (soft := 1) (.op 0 .nil) rfl rfl ?_
  refine re_assign rfl rfl rfl rfl rfl ?_
  refine re_nil ?_
  refine qe_thenC ?_
  refine ce_ret ?_
  refine qe_then_ret ?_
  refine qe_end rfl rfl ?_
  exact ⟨rfl, H.tail⟩
end Go.Proofs.Ytofaoblfemfkiaa

namespace Go.Proofs.Ytofaoblfemfkiaa
open Go Go.RowKit Go.Fw
set_option linter.unusedSimpArgs false
set_option linter.unusedVariables false
set_option maxRecDepth 4000
set_option maxHeartbeats 2000000
theorem ei_44 : elemInfo Try.prog 44 = some (28, 9, 80) := by kernel_rfl
theorem ei_51 : elemInfo Try.prog 51 = some (4, 1, 1) := by kernel_rfl
theorem ei_52 : elemInfo Try.prog 52 = some (38, 2, 16) := by kernel_rfl
theorem en_51 : Enterable Try.prog 51 := ⟨Try.f51, Try.func51, rfl, by decide⟩
theorem en_76 : Enterable Try.prog 76 := ⟨Try.f76, Try.func76, rfl, by decide⟩
theorem fo_54_10 : fOff Try.prog 54 10 = some 29 := by kernel_rfl
theorem fo_54_11 : fOff Try.prog 54 11 = some 30 := by kernel_rfl
theorem fo_54_12 : fOff Try.prog 54 12 = some 31 := by kernel_rfl
theorem fo_54_13 : fOff Try.prog 54 13 = some 32 := by kernel_rfl
theorem fo_54_14 : fOff Try.prog 54 14 = some 33 := by kernel_rfl
theorem fo_54_3 : fOff Try.prog 54 3 = some 6 := by kernel_rfl
theorem pl_86 : placesOf Try.prog 86 = some [(0, 1), (1, 1), (2, 1), (3, 1)] := by kernel_rfl
theorem sh_44 : shapeOf Try.prog 44 = some (false, 1) := by kernel_rfl
theorem sh_51 : shapeOf Try.prog 51 = some (false, 1) := by kernel_rfl
theorem sh_52 : shapeOf Try.prog 52 = some (false, 1) := by kernel_rfl
theorem ul_44 : Try.prog.underlying 44 = some (.slice 28) := by kernel_rfl
theorem ul_51 : Try.prog.underlying 51 = some (.slice 4) := by kernel_rfl
theorem ul_52 : Try.prog.underlying 52 = some (.slice 38) := by kernel_rfl
theorem ze_4 : zeroC Try.prog 4 = some [.bool false] := by kernel_rfl
theorem ze_86 : zeroC Try.prog 86 = some [.slice none 0 0, .slice none 0 0, .slice none 0 0, .int .i64 0] := by kernel_rfl

abbrev bools (l : List Bool) : List Value := l.map Value.bool
def stC (x : Int × Int) : List Value := [.int .i64 x.1, .int .i64 x.2]
abbrev stamps (l : List (Int × Int)) : List Value := l.flatMap stC
abbrev cmdsC (l : List Cmd) : List Value := l.flatMap Cmd.cells
/-- The reference's proposer. -/
structure RS where
  (cl op kk ka kb kc : Int)
  ga : Option Nat
  gc : Nat
  gs : List Int
  (mine chosen : Cmd)
  (n rnd nt ph : Int)
  (nk dc tr wn : Bool)
  dec : Cmd
  bu : Int
  (be bl : Sl)
  (ans cnt : List Bool)
  held : List (Int × Int)
  cms : List Cmd
def RS.cellsV (r : RS) (v1 v2 v3 v4 : Value) : List Value := [.int .i64 r.cl, .int .i64 r.op, .int .i64 r.kk, .int .i64 r.ka, .int .i64 r.kb, .int .i64 r.kc, slv r.ga r.gs.length r.gc] ++ r.mine.cells ++ r.chosen.cells ++ [.int .i64 r.n, .int .i64 r.rnd, .int .i64 r.nt, .int .i64 r.ph, v1, v2, v3, v4, .bool r.nk, .bool r.dc, .bool r.tr, .bool r.wn] ++ r.dec.cells ++ [.int .i64 r.bu, r.be.v, r.bl.v]
def RS.base (r : RS) (x : Int) : GM := { GM.zero with kind := 3, fc := true, fi := r.cl, tc := false, ti := x, op := r.op, rnd := r.rnd, k0 := r.kk, k1 := r.ka, k2 := r.kb, k3 := r.kc, s0 := r.n, s1 := r.cl }
def RS.msgOf (r : RS) (x : Int) : GM := if r.ph = 2 then { r.base x with kind := 4, cmd := r.chosen } else r.base x
def RS.clear (r : RS) : RS := { r with nk := false, ans := List.replicate r.gs.length false, cnt := List.replicate r.gs.length false, held := List.replicate r.gs.length (0, 0), cms := List.replicate r.gs.length Cmd.zero }
theorem rep_flat {α : Type} (f : α → List Value) (x : α) (c : Nat) : (List.replicate c (f x)).flatten = (List.replicate c x).flatMap f := by simp [List.flatMap, List.map_replicate]
theorem rep_bools (c : Nat) : (List.replicate c [Value.bool false]).flatten = bools (List.replicate c false) := by
  induction c with
  | zero => rfl
  | succ c ih => simp only [List.replicate_succ, List.flatten_cons, ih]; rfl
theorem idxOf_neg {v : Int} {xs : List Int} : idxOf v xs < 0 ↔ v ∉ xs := by
  have h := @idxOf_mem xs v
  have h2 : (0 ≤ idxOf v xs) ↔ (v ∈ xs) := by simpa using h
  rw [← h2]; omega
/-- To whom it is sent: those who have not answered. -/
def restOf : List Int → List Bool → List Int
  | g :: gs, b :: bs => if b then restOf gs bs else g :: restOf gs bs
  | _, _ => []
theorem restOf_snoc : ∀ (gs : List Int) (bs : List Bool) (k : Nat) (h1 : k < gs.length) (h2 : k < bs.length), restOf (gs.take (k + 1)) (bs.take (k + 1)) = restOf (gs.take k) (bs.take k) ++ (if bs[k] then [] else [gs[k]])
  | g :: gs, b :: bs, 0, _, _ => by cases b <;> rfl
  | g :: gs, b :: bs, k + 1, h1, h2 => by
    have := restOf_snoc gs bs k (by simpa using h1) (by simpa using h2)
    simp only [List.take_succ_cons, restOf, List.getElem_cons_succ] at this ⊢
    rw [this]
    split <;> simp
  | [], _, k, h1, _ => by simp at h1
  | _ :: _, [], k, _, h2 => by simp at h2
theorem restOf_length : ∀ (gs : List Int) (bs : List Bool), (restOf gs bs).length ≤ gs.length
  | [], bs => by cases bs <;> simp [restOf]
  | g :: gs, [] => by simp [restOf]
  | g :: gs, b :: bs => by
    have := restOf_length gs bs
    simp only [restOf]
    split <;> simp <;> omega

theorem place_s {B w : World} {F : List Ent} {sa : Option Addr} {sc : Nat} {xs : List Int} {v : Int} (hS : Sees B F sa xs.length 1 (ints xs)) (H : Own B F w) (hn : xs.length ≤ 1000000) :
    Calls Try.prog 76 #[.slice sa xs.length sc, .int .i64 v] w fun e w' => e = .returned (.int .i64 (idxOf v xs)) ∧ Own B F w' := by
  refine calls_ce (args := [.slice sa xs.length sc, .int .i64 v]) Try.func76 rfl rfl ?_
  change CE _ _ 19 _ _ [(0, .slice sa xs.length sc), (1, .int .i64 v)] _
  refine ce_seq ?_
  refine ce_text (tab := []) (soft := 1) (.op 0 .nil) rfl rfl ?_
  refine re_assign rfl rfl rfl rfl rfl ?_
  refine re_nil ?_
  refine qe_thenC ?_
  refine ce_seq ?_
  refine ce_seq ?_
  refine ce_text (tab := []) (soft := 1) (.op 0 .nil) rfl rfl ?_
  refine re_assign rfl rfl rfl rfl rfl ?_
  refine re_nil ?_
  refine qe_thenC ?_
  refine ce_block ?_
  refine ce_loop (α := Nat) (fun k => [(0, .slice sa xs.length sc), (1, .int .i64 v), (5, .int .i64 (k : Int))]) (fun k w => Own B F w ∧ k ≤ xs.length ∧ ∀ j, j < k → xs[j]? ≠ some v) (fun k => xs.length - k) 0 (And.intro rfl (And.intro rfl (And.intro rfl trivial))) ⟨H, Nat.zero_le _, fun j hj => by omega⟩ ?_
  rintro k w HW
  obtain ⟨H, hk, hno⟩ := HW
  change CE _ _ _ _ _ [(0, .slice sa xs.length sc), (1, .int .i64 v), (5, .int .i64 (k : Int))] _
  refine ce_seq ?_
  refine ce_seq ?_
  refine ce_text (tab := []) (soft := 15) (.op 0 (.op 1 (.op 2 (.op 3 .nil)))) rfl rfl ?_
  refine re_move rfl rfl rfl rfl rfl ?_
  refine re_move rfl rfl rfl rfl rfl ?_
  refine re_len rfl rfl rfl rfl rfl ul_31 ?_
  refine re_bin rfl rfl rfl rfl rfl rfl rfl ?_
  refine re_nil ?_
  refine qe_thenC ?_
  refine ce_cond rfl (fun h0 => ?_) (fun h0 => ?_)
  · try simp only [zn1, zn2, zn3, zn4, zn5, zn6] at h0
    refine ce_skip ?_
    refine qe_thenC ?_
    refine ce_seq ?_
    refine ce_block ?_
    refine ce_seq ?_
    refine ce_text (tab := []) (soft := 63) (.op 0 (.op 1 (.op 2 (.op 3 (.op 4 (.op 5 .nil)))))) rfl rfl ?_
    refine re_move rfl rfl rfl rfl rfl ?_
    refine re_move rfl rfl rfl rfl rfl ?_
    have hlt : k < xs.length := by omega
    obtain ⟨ad, rfl, hA⟩ := hS.open_ H.to (by omega)
    refine re_index rfl rfl rfl rfl rfl rfl ul_31 ei_31 (by omega) (by omega) ?_
    refine re_loadW rfl rfl rfl rfl rfl (run_loadAt_one sh_3 (hA.int H hlt)) ?_
    refine re_move rfl rfl rfl rfl rfl ?_
    refine re_bin rfl rfl rfl rfl rfl rfl rfl ?_
    refine re_nil ?_
    refine qe_thenC ?_
    refine ce_cond rfl (fun h1 => ?_) (fun h1 => ?_)
    · try simp only [zn1, zn2, zn3, zn4, zn5, zn6] at h1
      refine ce_seq ?_
      refine ce_text (tab := []) (soft := 3) (.op 0 (.op 1 .nil)) rfl rfl ?_
      refine re_move rfl rfl rfl rfl rfl ?_
      refine re_assign rfl rfl rfl rfl rfl ?_
      refine re_nil ?_
      refine qe_thenC ?_
      refine ce_ret ?_
      refine qe_block_ret ?_
      refine qe_then_ret ?_
      refine qe_then_ret ?_
      refine qe_block_ret ?_
      refine qe_then_ret ?_
      refine qe_end rfl rfl ?_
      exact ⟨by rw [idxOf_found hlt h1 hno], H⟩
    · try simp only [zn1, zn2, zn3, zn4, zn5, zn6] at h1
      refine ce_skip ?_
      refine qe_block_norm ?_
      refine qe_thenC ?_
      refine ce_text (tab := []) (soft := 7) (.op 0 (.op 1 (.op 2 .nil))) rfl rfl ?_
      refine re_move rfl rfl rfl rfl rfl ?_
      first | refine re_add rfl rfl rfl rfl rfl rfl (by omega) ?_ | refine re_bin rfl rfl rfl rfl rfl rfl rfl ?_
      refine re_assign rfl rfl rfl rfl rfl ?_
      refine re_nil ?_
      refine qe_round (x := k) (k + 1) ?_ ?_ ?_
      · first | (dsimp only; omega) | omega
      · exact (And.intro rfl (And.intro rfl (And.intro rfl trivial)))
      · exact ⟨H, by omega, fun j hj => by
          rcases Nat.lt_succ_iff_lt_or_eq.1 hj with h | rfl
          · exact hno j h
          · simpa [List.getElem?_eq_getElem hlt] using fun e => h1 e⟩
  · try simp only [zn1, zn2, zn3, zn4, zn5, zn6] at h0
    refine ce_exit ?_
    refine qe_then_exit ?_
    refine qe_then_exit ?_
    refine qe_block_exit ?_
    refine qe_thenC ?_
    refine ce_seq ?_
    refine ce_text (tab := []) (soft := 1) (.op 0 .nil) rfl rfl ?_
    refine re_assign rfl rfl rfl rfl rfl ?_
    refine re_nil ?_
    refine qe_thenC ?_
    refine ce_ret ?_
    refine qe_end rfl rfl ?_
    obtain rfl : k = xs.length := by omega
    exact ⟨by rw [idxOf_none hno], H⟩

theorem place_n {B w : World} {F : List Ent} {sa : Option Addr} {sc m : Nat} {xs : List Int} {v : Int} (hm : xs.length = m) (hS : Sees B F sa m 1 (ints xs)) (H : Own B F w) (hn : m ≤ 1000000) :
    Calls Try.prog 76 #[.slice sa m sc, .int .i64 v] w fun e w' => e = .returned (.int .i64 (idxOf v xs)) ∧ Own B F w' := by
  subst hm
  exact place_s hS H hn

theorem unlike_s {B w : World} {F : List Ent} {sa : Option Addr} {sc : Nat} {xs : List Int} (hS : Sees B F sa xs.length 1 (ints xs)) (H : Own B F w) (hn : xs.length ≤ 1000000) :
    Calls Try.prog 51 #[.slice sa xs.length sc] w fun e w' => ∃ a c, e = .returned (slv a (unlike xs).length c) ∧ Own B (.row a c 3 1 (unlike xs).length (ints (unlike xs)) :: F) w' := by
  refine calls_ce (args := [.slice sa xs.length sc]) Try.func51 rfl rfl ?_
  change CE _ _ 26 _ _ [(0, .slice sa xs.length sc)] _
  refine ce_seq ?_
  refine ce_text (tab := []) (soft := 1) (.op 0 .nil) rfl rfl ?_
  refine re_assign rfl rfl rfl rfl rfl ?_
  refine re_nil ?_
  refine qe_thenC ?_
  refine ce_seq ?_
  refine ce_text (tab := []) (soft := 1) (.op 0 .nil) rfl rfl ?_
  refine re_assign rfl rfl rfl rfl rfl ?_
  refine re_nil ?_
  refine qe_thenC ?_
  refine ce_seq ?_
  refine ce_seq ?_
  refine ce_text (tab := []) (soft := 1) (.op 0 .nil) rfl rfl ?_
  refine re_assign rfl rfl rfl rfl rfl ?_
  refine re_nil ?_
  refine qe_thenC ?_
  refine ce_block ?_
  refine ce_loop (α := Nat × (Option Nat) × Nat × Nat) (fun ⟨k, a, c, nn⟩ => [(0, .slice sa xs.length sc), (3, slv a nn c), (4, .int .i64 (k : Int))]) (fun ⟨k, a, c, nn⟩ w => Own B (.row a c 3 1 nn (ints (unlike (xs.take k))) :: F) w ∧ k ≤ xs.length) (fun ⟨k, a, c, nn⟩ => xs.length - k) (0, none, 0, 0) (And.intro rfl (And.intro rfl (And.intro rfl trivial))) ⟨H.nil_row 3 1, Nat.zero_le _⟩ ?_
  rintro ⟨k, a, c, nn⟩ w HW
  obtain ⟨H, hk⟩ := HW
  change CE _ _ _ _ _ [(0, .slice sa xs.length sc), (3, slv a nn c), (4, .int .i64 (k : Int))] _
  have hul := unlike_length (xs.take k)
  have htl := List.length_take_le k xs
  have hrl := H.row_len (List.mem_cons_self ..)
  simp only [List.length_map, Nat.mul_one] at hrl
  refine ce_seq ?_
  refine ce_seq ?_
  refine ce_text (tab := []) (soft := 15) (.op 0 (.op 1 (.op 2 (.op 3 .nil)))) rfl rfl ?_
  refine re_move rfl rfl rfl rfl rfl ?_
  refine re_move rfl rfl rfl rfl rfl ?_
  refine re_len rfl rfl rfl rfl rfl ul_31 ?_
  refine re_bin rfl rfl rfl rfl rfl rfl rfl ?_
  refine re_nil ?_
  refine qe_thenC ?_
  refine ce_cond rfl (fun h0 => ?_) (fun h0 => ?_)
  · try simp only [zn1, zn2, zn3, zn4, zn5, zn6] at h0
    refine ce_skip ?_
    refine qe_thenC ?_
    refine ce_seq ?_
    refine ce_block ?_
    refine ce_seq ?_
    refine ce_text (tab := []) (soft := 95) (.op 0 (.op 1 (.op 2 (.op 3 (.op 4 (.op 5 (.op 6 .nil))))))) rfl rfl ?_
    refine re_move rfl rfl rfl rfl rfl ?_
    refine re_move rfl rfl rfl rfl rfl ?_
    refine re_move rfl rfl rfl rfl rfl ?_
    have hlt : k < xs.length := by omega
    obtain ⟨ad, rfl, hA⟩ := hS.open_ H.to (by omega)
    refine re_index rfl rfl rfl rfl rfl rfl ul_31 ei_31 (by omega) (by omega) ?_
    refine re_loadW rfl rfl rfl rfl rfl (run_loadAt_one sh_3 (hA.int H hlt)) ?_
    refine re_call en_76 rfl rfl rfl rfl rfl ?_
    refine Calls.mono (place_n hrl (H.rsees a) H (by omega)) ?_
    rintro e w ⟨rfl, H⟩
    refine ⟨_, rfl, (fun h => (nomatch h)), ?_⟩
    refine re_bin rfl rfl rfl rfl rfl rfl rfl ?_
    refine re_nil ?_
    refine qe_thenC ?_
    refine ce_cond rfl (fun h1 => ?_) (fun h1 => ?_)
    · try simp only [zn1, zn2, zn3, zn4, zn5, zn6] at h1
      refine ce_text (tab := []) (soft := 159) (.op 0 (.op 1 (.op 2 (.op 3 (.op 4 (.op 5 (.op 6 (.op 7 .nil)))))))) rfl rfl ?_
      refine re_move rfl rfl rfl rfl rfl ?_
      refine re_move rfl rfl rfl rfl rfl ?_
      refine re_move rfl rfl rfl rfl rfl ?_
      refine re_index rfl rfl rfl rfl rfl rfl ul_31 ei_31 (by omega) (by omega) ?_
      refine re_loadW rfl rfl rfl rfl rfl (run_loadAt_one sh_3 (hA.int H hlt)) ?_
      refine re_slice1 H rfl rfl rfl rfl rfl rfl ul_31 ei_31 ze_3 rfl rfl rfl (by decide) ?_
      intro g23 w H
      refine ⟨(fun h => (nomatch h)), ?_⟩
      refine re_append H rfl rfl rfl rfl rfl rfl ul_31 ei_31 ze_3 rfl (by decide) (src_cells H rfl) rfl (by omega) (by simp only [maxLen]; omega) ?_
      intro a' c' w H _
      simp only [List.set_cons_zero, List.set_cons_succ] at H
      refine ⟨(fun h => (nomatch h)), ?_⟩
      refine re_assign rfl rfl rfl rfl rfl ?_
      refine re_nil ?_
      refine qe_block_norm ?_
      refine qe_thenC ?_
      refine ce_text (tab := []) (soft := 7) (.op 0 (.op 1 (.op 2 .nil))) rfl rfl ?_
      refine re_move rfl rfl rfl rfl rfl ?_
      first | refine re_add rfl rfl rfl rfl rfl rfl (by omega) ?_ | refine re_bin rfl rfl rfl rfl rfl rfl rfl ?_
      refine re_assign rfl rfl rfl rfl rfl ?_
      refine re_nil ?_
      refine qe_round (x := (k, a, c, nn)) (k + 1, a', c', nn + 1) ?_ ?_ ?_
      · first | (dsimp only; omega) | omega
      · exact (And.intro rfl (And.intro rfl (And.intro rfl trivial)))
      ·
        refine ⟨?_, by omega⟩
        have H2 := H.tail
        rw [unlike_new hlt (idxOf_neg.1 h1)]
        simpa using H2
    · try simp only [zn1, zn2, zn3, zn4, zn5, zn6] at h1
      refine ce_skip ?_
      refine qe_block_norm ?_
      refine qe_thenC ?_
      refine ce_text (tab := []) (soft := 7) (.op 0 (.op 1 (.op 2 .nil))) rfl rfl ?_
      refine re_move rfl rfl rfl rfl rfl ?_
      first | refine re_add rfl rfl rfl rfl rfl rfl (by omega) ?_ | refine re_bin rfl rfl rfl rfl rfl rfl rfl ?_
      refine re_assign rfl rfl rfl rfl rfl ?_
      refine re_nil ?_
      refine qe_round (x := (k, a, c, nn)) (k + 1, a, c, nn) ?_ ?_ ?_
      · first | (dsimp only; omega) | omega
      · exact (And.intro rfl (And.intro rfl (And.intro rfl trivial)))
      ·
        refine ⟨?_, by omega⟩
        rw [unlike_old hlt (by have := mt (idxOf_neg (v := xs[k]) (xs := unlike (xs.take k))).2 (by omega); simpa using this)]
        exact H
  · try simp only [zn1, zn2, zn3, zn4, zn5, zn6] at h0
    refine ce_exit ?_
    refine qe_then_exit ?_
    refine qe_then_exit ?_
    refine qe_block_exit ?_
    refine qe_thenC ?_
    refine ce_seq ?_
    refine ce_text (tab := []) (soft := 3) (.op 0 (.op 1 .nil)) rfl rfl ?_
    refine re_move rfl rfl rfl rfl rfl ?_
    refine re_assign rfl rfl rfl rfl rfl ?_
    refine re_nil ?_
    refine qe_thenC ?_
    refine ce_ret ?_
    refine qe_end rfl rfl ?_
    obtain rfl : k = xs.length := by omega
    rw [List.take_length] at H hrl
    subst hrl
    exact ⟨_, _, rfl, H⟩

theorem new6_s {B w : World} {F : List Ent} {need : Int} {sa : Option Addr} {sc : Nat} {xs : List Int} (hS : Sees B F sa xs.length 1 (ints xs)) (H : Own B F w) (hn : xs.length ≤ 1000000) :
    Calls Try.prog 21 #[.slice sa xs.length sc, .int .i64 need] w fun e w' => ∃ q a c v1 v2, e = .returned (.pointer (some ⟨q, 0, none⟩)) ∧ Own B (.cells q 86 [slv a (unlike xs).length c, v1, v2, .int .i64 need] :: .row a c 3 1 (unlike xs).length (ints (unlike xs)) :: F) w' := by
  refine calls_ce (args := [.slice sa xs.length sc, .int .i64 need]) Try.func21 rfl rfl ?_
  change CE _ _ 18 _ _ [(0, .slice sa xs.length sc), (1, .int .i64 need)] _
  refine ce_seq ?_
  refine ce_text (tab := []) (soft := 1) (.op 0 .nil) rfl rfl ?_
  refine re_assign rfl rfl rfl rfl rfl ?_
  refine re_nil ?_
  refine qe_thenC ?_
  refine ce_seq ?_
  refine ce_text (tab := []) (soft := 5) (.op 0 (.op 1 (.op 2 .nil))) rfl rfl ?_
  refine re_move rfl rfl rfl rfl rfl ?_
  refine re_call en_51 rfl rfl rfl rfl rfl ?_
  refine Calls.mono (unlike_s hS H hn) ?_
  rintro e w ⟨a, c, rfl, H⟩
  have hul := unlike_length xs
  refine ⟨_, rfl, (fun h => (nomatch h)), ?_⟩
  refine re_assign rfl rfl rfl rfl rfl ?_
  refine re_nil ?_
  refine qe_thenC ?_
  refine ce_seq ?_
  refine ce_open (tab := [0, 0, 2, 6, 0, 16, 48, 0, 255, 511, 1023]) (soft := 1463) mixed (.op 0 (.op 1 (.op 2 (.op 4 (.op 5 (.op 7 (.alt 3 (.op 6 (.op 8 (.op 9 (.op 10 .nil)))) (.op 6 (.op 3 (.op 8 (.op 9 (.op 10 .nil)))))))))))) (by kernel_rfl) H ?_
  intro w H
  refine re_move rfl rfl rfl rfl rfl ?_
  refine re_move rfl rfl rfl rfl rfl ?_
  refine re_len rfl rfl rfl rfl rfl ul_31 ?_
  refine re_move rfl rfl rfl rfl rfl ?_
  refine re_len rfl rfl rfl rfl rfl ul_31 ?_
  refine re_move rfl rfl rfl rfl rfl ?_
  refine re_alt ?_ ?_
  ·
    refine re_makeSliceC H rfl rfl rfl rfl rfl rfl ul_31 ei_31 ze_3 rfl (by decide) (by first | omega | decide) (by first | (simp only [maxLen]; omega) | decide) ?_
    intro g11 w H
    refine ⟨(fun _ => trivial), ?_⟩
    refine re_makeSliceC H rfl rfl rfl rfl rfl rfl ul_51 ei_51 ze_4 rfl (by decide) (by first | omega | decide) (by first | (simp only [maxLen]; omega) | decide) ?_
    intro g14 w H
    refine ⟨(fun _ => trivial), ?_⟩
    refine re_build rfl rfl rfl rfl rfl ze_86 pl_86 (by simp only [fillL, setMany, Value.cells, List.getElem?_cons_zero, List.getElem?_cons_succ, List.length_cons, List.length_nil, List.set_cons_zero, List.set_cons_succ, Nat.reduceAdd, Nat.reduceLeDiff, Nat.zero_add, and_self, ↓reduceIte]; rfl) ?_
    refine re_box H rfl rfl rfl rfl rfl rfl ?_
    intro g17 w H
    refine ⟨(fun _ => trivial), ?_⟩
    refine re_assign rfl rfl rfl rfl rfl ?_
    refine re_nil ?_
    refine qe_noPanic ?_
    refine qe_thenC ?_
    refine ce_ret ?_
    refine qe_end rfl rfl ?_
    exact ⟨_, _, _, _, _, rfl, H.sub (.cons_cons _ (.cons _ (.cons _ (List.Sublist.refl _))))⟩
  ·
    refine re_makeSliceC H rfl rfl rfl rfl rfl rfl ul_51 ei_51 ze_4 rfl (by decide) (by first | omega | decide) (by first | (simp only [maxLen]; omega) | decide) ?_
    intro g14 w H
    refine ⟨(fun _ => trivial), ?_⟩
    refine re_makeSliceC H rfl rfl rfl rfl rfl rfl ul_31 ei_31 ze_3 rfl (by decide) (by first | omega | decide) (by first | (simp only [maxLen]; omega) | decide) ?_
    intro g11 w H
    refine ⟨(fun _ => trivial), ?_⟩
    refine re_build rfl rfl rfl rfl rfl ze_86 pl_86 (by simp only [fillL, setMany, Value.cells, List.getElem?_cons_zero, List.getElem?_cons_succ, List.length_cons, List.length_nil, List.set_cons_zero, List.set_cons_succ, Nat.reduceAdd, Nat.reduceLeDiff, Nat.zero_add, and_self, ↓reduceIte]; rfl) ?_
    refine re_box H rfl rfl rfl rfl rfl rfl ?_
    intro g17 w H
    refine ⟨(fun _ => trivial), ?_⟩
    refine re_assign rfl rfl rfl rfl rfl ?_
    refine re_nil ?_
    refine qe_noPanic ?_
    refine qe_thenC ?_
    refine ce_ret ?_
    refine qe_end rfl rfl ?_
    exact ⟨_, _, _, _, _, rfl, H.sub (.cons_cons _ (.cons _ (.cons _ (List.Sublist.refl _))))⟩

theorem clear_s {B w : World} {F : List Ent} {h : Nat} {v1 v2 v3 v4 : Value} {r : RS} (H : Own B (.cells h 54 (r.cellsV v1 v2 v3 v4) :: F) w) (hn : r.gs.length ≤ 1000000) :
    Calls Try.prog 22 #[.pointer (some ⟨h, 0, none⟩)] w fun e w' => ∃ a1 a2 a3 a4, e = .returned (.tuple #[]) ∧ Own B (.cells h 54 (r.clear.cellsV (slv (some a1) r.clear.gs.length r.clear.gs.length) (slv (some a2) r.clear.gs.length r.clear.gs.length) (slv (some a3) r.clear.gs.length r.clear.gs.length) (slv (some a4) r.clear.gs.length r.clear.gs.length)) :: .cells a1 4 (bools r.clear.ans) :: .cells a2 4 (bools r.clear.cnt) :: .cells a3 38 (stamps r.clear.held) :: .cells a4 28 (cmdsC r.clear.cms) :: F) w' := by
  refine calls_ce (args := [.pointer (some ⟨h, 0, none⟩)]) Try.func22 rfl rfl ?_
  change CE _ _ 41 _ _ [(0, .pointer (some ⟨h, 0, none⟩))] _
  refine ce_seq ?_
  refine ce_text (tab := []) (soft := 447) (.op 0 (.op 1 (.op 2 (.op 3 (.op 4 (.op 5 (.op 6 (.op 7 (.op 8 (.op 9 .nil)))))))))) rfl rfl ?_
  refine re_move rfl rfl rfl rfl rfl ?_
  refine re_move rfl rfl rfl rfl rfl ?_
  refine re_nilc rfl rfl rfl rfl rfl ?_
  first | refine re_field0 rfl rfl rfl rfl rfl fo_54_3 ?_ | refine re_field rfl rfl rfl rfl rfl fo_54_3 ?_ | refine re_fieldA rfl rfl rfl rfl rfl fo_54_3 ?_
  refine re_load H rfl rfl rfl rfl rfl sh_31 rfl ?_
  refine re_len rfl rfl rfl rfl rfl ul_31 ?_
  refine re_makeSliceC H rfl rfl rfl rfl rfl rfl ul_51 ei_51 ze_4 rfl (by decide) (by first | omega | decide) (by first | (simp only [maxLen]; omega) | decide) ?_
  intro g8 w H
  refine ⟨(fun h => (nomatch h)), ?_⟩
  refine re_nilc rfl rfl rfl rfl rfl ?_
  first | refine re_field0 rfl rfl rfl rfl rfl fo_54_10 ?_ | refine re_field rfl rfl rfl rfl rfl fo_54_10 ?_ | refine re_fieldA rfl rfl rfl rfl rfl fo_54_10 ?_
  refine re_store H rfl rfl rfl rfl rfl rfl sh_51 rfl rfl rfl ?_
  intro cs w hcs H
  first | rw [setMany_whole rfl] at hcs | simp only [setMany, List.set_cons_zero, List.set_cons_succ, Nat.reduceAdd, Nat.zero_add, PS.cells, PS.over, GM.cells, Cmd.cells, List.cons_append, List.nil_append, RS.cellsV] at hcs
  subst hcs
  refine ⟨(fun h => (nomatch h)), ?_⟩
  refine re_nil ?_
  refine qe_thenC ?_
  refine ce_seq ?_
  refine ce_text (tab := []) (soft := 447) (.op 0 (.op 1 (.op 2 (.op 3 (.op 4 (.op 5 (.op 6 (.op 7 (.op 8 (.op 9 .nil)))))))))) rfl rfl ?_
  refine re_move rfl rfl rfl rfl rfl ?_
  refine re_move rfl rfl rfl rfl rfl ?_
  refine re_nilc rfl rfl rfl rfl rfl ?_
  first | refine re_field0 rfl rfl rfl rfl rfl fo_54_3 ?_ | refine re_field rfl rfl rfl rfl rfl fo_54_3 ?_ | refine re_fieldA rfl rfl rfl rfl rfl fo_54_3 ?_
  refine re_load H rfl rfl rfl rfl rfl sh_31 rfl ?_
  refine re_len rfl rfl rfl rfl rfl ul_31 ?_
  refine re_makeSliceC H rfl rfl rfl rfl rfl rfl ul_51 ei_51 ze_4 rfl (by decide) (by first | omega | decide) (by first | (simp only [maxLen]; omega) | decide) ?_
  intro g17 w H
  refine ⟨(fun h => (nomatch h)), ?_⟩
  refine re_nilc rfl rfl rfl rfl rfl ?_
  first | refine re_field0 rfl rfl rfl rfl rfl fo_54_11 ?_ | refine re_field rfl rfl rfl rfl rfl fo_54_11 ?_ | refine re_fieldA rfl rfl rfl rfl rfl fo_54_11 ?_
  refine re_store H rfl rfl rfl rfl rfl rfl sh_51 rfl rfl rfl ?_
  intro cs w hcs H
  first | rw [setMany_whole rfl] at hcs | simp only [setMany, List.set_cons_zero, List.set_cons_succ, Nat.reduceAdd, Nat.zero_add, PS.cells, PS.over, GM.cells, Cmd.cells, List.cons_append, List.nil_append, RS.cellsV] at hcs
  subst hcs
  refine ⟨(fun h => (nomatch h)), ?_⟩
  refine re_nil ?_
  refine qe_thenC ?_
  refine ce_seq ?_
  refine ce_text (tab := []) (soft := 447) (.op 0 (.op 1 (.op 2 (.op 3 (.op 4 (.op 5 (.op 6 (.op 7 (.op 8 (.op 9 .nil)))))))))) rfl rfl ?_
  refine re_move rfl rfl rfl rfl rfl ?_
  refine re_move rfl rfl rfl rfl rfl ?_
  refine re_nilc rfl rfl rfl rfl rfl ?_
  first | refine re_field0 rfl rfl rfl rfl rfl fo_54_3 ?_ | refine re_field rfl rfl rfl rfl rfl fo_54_3 ?_ | refine re_fieldA rfl rfl rfl rfl rfl fo_54_3 ?_
  refine re_load H rfl rfl rfl rfl rfl sh_31 rfl ?_
  refine re_len rfl rfl rfl rfl rfl ul_31 ?_
  refine re_makeSliceC H rfl rfl rfl rfl rfl rfl ul_52 ei_52 ze_38 rfl (by decide) (by first | omega | decide) (by first | (simp only [maxLen]; omega) | decide) ?_
  intro g26 w H
  refine ⟨(fun h => (nomatch h)), ?_⟩
  refine re_nilc rfl rfl rfl rfl rfl ?_
  first | refine re_field0 rfl rfl rfl rfl rfl fo_54_12 ?_ | refine re_field rfl rfl rfl rfl rfl fo_54_12 ?_ | refine re_fieldA rfl rfl rfl rfl rfl fo_54_12 ?_
  refine re_store H rfl rfl rfl rfl rfl rfl sh_52 rfl rfl rfl ?_
  intro cs w hcs H
  first | rw [setMany_whole rfl] at hcs | simp only [setMany, List.set_cons_zero, List.set_cons_succ, Nat.reduceAdd, Nat.zero_add, PS.cells, PS.over, GM.cells, Cmd.cells, List.cons_append, List.nil_append, RS.cellsV] at hcs
  subst hcs
  refine ⟨(fun h => (nomatch h)), ?_⟩
  refine re_nil ?_
  refine qe_thenC ?_
  refine ce_seq ?_
  refine ce_text (tab := []) (soft := 447) (.op 0 (.op 1 (.op 2 (.op 3 (.op 4 (.op 5 (.op 6 (.op 7 (.op 8 (.op 9 .nil)))))))))) rfl rfl ?_
  refine re_move rfl rfl rfl rfl rfl ?_
  refine re_move rfl rfl rfl rfl rfl ?_
  refine re_nilc rfl rfl rfl rfl rfl ?_
  first | refine re_field0 rfl rfl rfl rfl rfl fo_54_3 ?_ | refine re_field rfl rfl rfl rfl rfl fo_54_3 ?_ | refine re_fieldA rfl rfl rfl rfl rfl fo_54_3 ?_
  refine re_load H rfl rfl rfl rfl rfl sh_31 rfl ?_
  refine re_len rfl rfl rfl rfl rfl ul_31 ?_
  refine re_makeSliceC H rfl rfl rfl rfl rfl rfl ul_44 ei_44 ze_28 rfl (by decide) (by first | omega | decide) (by first | (simp only [maxLen]; omega) | decide) ?_
  intro g35 w H
  refine ⟨(fun h => (nomatch h)), ?_⟩
  refine re_nilc rfl rfl rfl rfl rfl ?_
  first | refine re_field0 rfl rfl rfl rfl rfl fo_54_13 ?_ | refine re_field rfl rfl rfl rfl rfl fo_54_13 ?_ | refine re_fieldA rfl rfl rfl rfl rfl fo_54_13 ?_
  refine re_store H rfl rfl rfl rfl rfl rfl sh_44 rfl rfl rfl ?_
  intro cs w hcs H
  first | rw [setMany_whole rfl] at hcs | simp only [setMany, List.set_cons_zero, List.set_cons_succ, Nat.reduceAdd, Nat.zero_add, PS.cells, PS.over, GM.cells, Cmd.cells, List.cons_append, List.nil_append, RS.cellsV] at hcs
  subst hcs
  refine ⟨(fun h => (nomatch h)), ?_⟩
  refine re_nil ?_
  refine qe_thenC ?_
  refine ce_text (tab := []) (soft := 7) (.op 0 (.op 1 (.op 2 (.op 3 .nil)))) rfl rfl ?_
  refine re_move rfl rfl rfl rfl rfl ?_
  refine re_nilc rfl rfl rfl rfl rfl ?_
  first | refine re_field0 rfl rfl rfl rfl rfl fo_54_14 ?_ | refine re_field rfl rfl rfl rfl rfl fo_54_14 ?_ | refine re_fieldA rfl rfl rfl rfl rfl fo_54_14 ?_
  refine re_store H rfl rfl rfl rfl rfl rfl sh_4 rfl rfl rfl ?_
  intro cs w hcs H
  first | rw [setMany_whole rfl] at hcs | simp only [setMany, List.set_cons_zero, List.set_cons_succ, Nat.reduceAdd, Nat.zero_add, PS.cells, PS.over, GM.cells, Cmd.cells, List.cons_append, List.nil_append, RS.cellsV] at hcs
  subst hcs
  refine ⟨(fun h => (nomatch h)), ?_⟩
  refine re_nil ?_
  refine qe_end0 rfl ?_
  have H := Own.arr [0, 1, 2, 3, 4] H
  simp only [arrs, Fw.front, zm1, zm2, zm3, zm4, zm5] at H
  have e1 := rep_bools r.gs.length
  have e2 := rep_flat stC (0, 0) r.gs.length
  have e3 := rep_flat Cmd.cells Cmd.zero r.gs.length
  simp only [stC, Cmd.cells, Cmd.zero] at e2 e3
  rw [e1, e2, e3] at H
  exact ⟨_, _, _, _, rfl, H⟩
end Go.Proofs.Ytofaoblfemfkiaa
