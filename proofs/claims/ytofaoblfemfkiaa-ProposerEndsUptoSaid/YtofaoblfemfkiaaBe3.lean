/- Parts of the proof: K L M FwT FwU FwV. -/
import Derived.OpenShut
import Derived.Laws.Slices
import Derived.Laws.BytesString
import Derived.ArgAppend
import Derived.Test.YtofaoblfemfkiaaBe2
set_option linter.unusedVariables false
set_option linter.unusedSimpArgs false
namespace Go.Proofs.Ytofaoblfemfkiaa
open Go Go.RowKit Go.Fw
set_option linter.unusedSimpArgs false
set_option linter.unusedVariables false
set_option maxRecDepth 4000
set_option maxHeartbeats 2000000
theorem en_83 : Enterable Try.prog 83 := ⟨Try.f83, Try.func83, rfl, by decide⟩
theorem en_85 : Enterable Try.prog 85 := ⟨Try.f85, Try.func85, rfl, by decide⟩
theorem en_87 : Enterable Try.prog 87 := ⟨Try.f87, Try.func87, rfl, by decide⟩
theorem fo_46_9 : fOff Try.prog 46 9 = some 16 := by kernel_rfl
theorem fo_80_4 : fOff Try.prog 80 4 = some 7 := by kernel_rfl
theorem nif_137 : notIface Try.prog 137 = true := by kernel_rfl
theorem pl_137 : placesOf Try.prog 137 = some [(0, 1), (1, 9)] := by kernel_rfl
theorem ze_137 : zeroC Try.prog 137 = some [.pointer none, .int .i64 0, .int .i64 0, .int .i64 0, .string ByteArray.empty, .int .i64 0, .int .i64 0, .int .i64 0, .int .i64 0, .int .i64 0] := by kernel_rfl

/-- Those that hold one. -/
def heldOf (l : List GM) : List GM := l.filter fun m => stampLess 0 0 m.h0 m.h1
theorem heldOf_new {l : List GM} {k : Nat} (h : k < l.length) (hb : stampLess 0 0 (l[k]).h0 (l[k]).h1 = true) : heldOf (l.take (k + 1)) = heldOf (l.take k) ++ [l[k]] := by
  unfold heldOf
  rw [List.take_succ_eq_append_getElem h, List.filter_append]
  simp [hb]
theorem heldOf_old {l : List GM} {k : Nat} (h : k < l.length) (hb : stampLess 0 0 (l[k]).h0 (l[k]).h1 = false) : heldOf (l.take (k + 1)) = heldOf (l.take k) := by
  unfold heldOf
  rw [List.take_succ_eq_append_getElem h, List.filter_append]
  simp [hb]
theorem heldOf_length (l : List GM) : (heldOf l).length ≤ l.length := List.length_filter_le _ _
/-- The command that is put forward. -/
def PS.chosen (p : PS) (ms : List (Int × GM)) : Cmd := if 0 < (heldOf (gotM p.gs ms)).length then (bestV (heldOf (gotM p.gs ms))).cmd else p.mine
def PS.next (p : PS) : PS := { p with rnd := p.rnd + 1 }

theorem accept_worn {B w : World} {F : List Ent} {g : Nat} {p : PS} {qt qm qc : Nat} {qa : Option Nat} {ms : List (Int × GM)} (H : Own B (.cells g 80 p.cells :: .row p.ga p.gc 3 1 p.gs.length (ints p.gs) :: .cells qt 145 [slv qa p.gs.length qc, .int .i64 ((p.gs.length : Int) / 2 + 1), .map (some qm)] :: .row qa qc 3 1 p.gs.length (ints p.gs) :: .imap qm (kvM ms) :: F) w) (hn : p.gs.length ≤ 1000000) (hu : unlike p.gs = p.gs) (hw : 1099511627776 ≤ p.rnd) :
    Calls Try.prog 74 #[.pointer (some ⟨g, 0, none⟩), .pointer (some ⟨qt, 0, none⟩)] w fun e w' => e = .returned (slv none 0 0) ∧ Own B (.cells g 80 { p.over with wn := true }.cells :: .row p.ga p.gc 3 1 p.gs.length (ints p.gs) :: F) w' := by
  refine calls_ceM (args := [.pointer (some ⟨g, 0, none⟩), .pointer (some ⟨qt, 0, none⟩)]) Try.func74 rfl rfl ?_
  change CE _ _ 61 _ _ [(0, .pointer (some ⟨g, 0, none⟩)), (1, .pointer (some ⟨qt, 0, none⟩))] _
  refine ce_seq ?_
  refine ce_text (tab := []) (soft := 1) (.op 0 .nil) rfl rfl ?_
  refine re_assign rfl rfl rfl rfl rfl ?_
  refine re_nil ?_
  refine qe_thenC ?_
  refine ce_seq ?_
  refine ce_text (tab := []) (soft := 0) (.op 0 .nil) rfl rfl ?_
  refine re_alloc H rfl rfl rfl rfl ze_62 ?_
  intro g5 w H
  refine ⟨(fun h => (nomatch h)), ?_⟩
  refine re_nil ?_
  refine qe_thenC ?_
  refine ce_seq ?_
  refine ce_seq ?_
  refine ce_text (tab := []) (soft := 1) (.op 0 (.op 1 .nil)) rfl rfl ?_
  refine re_move rfl rfl rfl rfl rfl ?_
  refine re_call en_83 rfl rfl rfl rfl rfl ?_
  have H := Own.arr [5, 5, 5] H
  simp only [arrs, Fw.front, zm1, zm2, zm3, zm4, zm5] at H
  refine Calls.mono (got_s H hn) ?_
  rintro e w ⟨s, q, sa, sc, ma, mc, rfl, H⟩
  refine ⟨_, rfl, (fun h => (nomatch h)), ?_⟩
  refine re_nil ?_
  refine qe_thenC ?_
  refine ce_block ?_
  have H := Own.arr [9, 9, 9, 6, 6, 6, 6] H
  simp only [arrs, Fw.front, zm1, zm2, zm3, zm4, zm5] at H
  replace H := H.sub (.cons_cons _ (.cons_cons _ (.cons_cons _ (.cons_cons _ (.cons_cons _ (.cons_cons _ (.cons_cons _ (.cons _ (.cons _ (.cons _ (List.Sublist.refl _)))))))))))
  replace H := H.nil_row 46 30
  have H := Own.arr [7, 7, 2, 7, 7, 7, 7, 7] H
  simp only [arrs, Fw.front, zm1, zm2, zm3, zm4, zm5] at H
  have hgl := gotL_length p.gs ms
  have eS : (gotS p.gs ms).length = (gotL p.gs ms).length := List.length_map ..
  have eM : (gotM p.gs ms).length = (gotL p.gs ms).length := List.length_map ..
  refine ce_rangeFunc H en_87 rfl ?_
  intro a0 l0 b0 r0 w hrel hr0 H
  refine Calls.mono (got1_s (B := B) (ss := gotS p.gs ms) (ms := gotM p.gs ms) (s := s) (q := q) (sa := sa) (ma := ma) (sc := sc) (mc := mc) (hss := by rw [eS, eM]) (hn := by omega) (l := l0) (I := fun j w => ∃ la lc, Own B (.loop l0 r0 :: .deferred b0 (some []) :: .cells s 31 [slv sa (gotL p.gs ms).length sc] :: .row sa sc 3 1 (gotL p.gs ms).length (ints (gotS p.gs ms)) :: .cells q 62 [slv ma (gotL p.gs ms).length mc] :: .row ma mc 46 30 (gotL p.gs ms).length (msgs (gotM p.gs ms)) :: .cells g5 62 [slv la (heldOf ((gotM p.gs ms).take j)).length lc] :: .row la lc 46 30 (heldOf ((gotM p.gs ms).take j)).length (msgs (heldOf ((gotM p.gs ms).take j))) :: .cells g 80 p.cells :: .row p.ga p.gc 3 1 p.gs.length (ints p.gs) :: F) w) ?_ ?_ ?_) ?_
  ·
    intro j w HI
    obtain ⟨la, lc, H⟩ := HI
    rw [eM]
    have H := Own.arr [1, 1, 5, 5, 5, 5] H
    simp only [arrs, Fw.front, zm1, zm2, zm3, zm4, zm5] at H
    exact ⟨_, H⟩
  ·
    intro j hj w HI
    obtain ⟨la, lc, H⟩ := HI
    refine round_of2 hr0 H (i := 0) rfl hrel rfl rfl ?_
    refine ci_text (tab := []) (soft := 0) (.op 0 (.op 1 .nil)) rfl rfl (by kernel_rfl) ?_
    refine re_alloc H rfl rfl rfl rfl ze_46 ?_
    intro g7 w H
    refine ⟨(fun h => (nomatch h)), ?_⟩
    refine re_store H rfl rfl rfl rfl rfl rfl sh_46 rfl rfl rfl ?_
    intro cs w hcs H
    first | rw [setMany_whole rfl] at hcs | simp only [setMany, List.set_cons_zero, List.set_cons_succ, Nat.reduceAdd, Nat.zero_add, PS.cells, PS.over, GM.cells, Cmd.cells, List.cons_append, List.nil_append] at hcs
    subst hcs
    refine ⟨(fun h => (nomatch h)), ?_⟩
    refine re_nil ?_
    have hhl := heldOf_length ((gotM p.gs ms).take j)
    have htl := List.length_take_le j (gotM p.gs ms)
    refine qe_begin H (i := 1) rfl hr0.state ?_
    intro w H
    simp only [List.set_cons_zero, List.set_cons_succ] at H
    refine ci_block ?_
    refine ci_seq ?_
    refine ci_text (tab := []) (soft := 7) (.op 0 (.op 1 (.op 2 (.op 3 .nil)))) rfl rfl (by kernel_rfl) ?_
    refine re_build rfl rfl rfl rfl rfl ze_38 pl_38 (by simp only [fillL, setMany, Value.cells, List.getElem?_cons_zero, List.getElem?_cons_succ, List.length_cons, List.length_nil, List.set_cons_zero, List.set_cons_succ, Nat.reduceAdd, Nat.reduceLeDiff, Nat.zero_add, and_self, ↓reduceIte]; rfl) ?_
    first | refine re_field0 rfl rfl rfl rfl rfl fo_46_7 ?_ | refine re_field rfl rfl rfl rfl rfl fo_46_7 ?_ | refine re_fieldA rfl rfl rfl rfl rfl fo_46_7 ?_
    refine re_load H rfl rfl rfl rfl rfl sh_38 (by first | exact rdAt_all rfl | (simp only [rdAt, PS.cells, PS.over, GM.cells, Cmd.cells, List.cons_append, List.nil_append, List.drop_succ_cons, List.drop_zero, List.take_succ_cons, List.take_zero, List.length_cons, List.length_nil, Nat.zero_add, Nat.reduceAdd, Nat.reduceLeDiff, Nat.le_refl, ↓reduceIte] <;> rfl)) ?_
    refine re_call en_84 rfl rfl rfl rfl rfl ?_
    refine Calls.mono (less_s (a0 := 0) (a1 := 0) H) ?_
    rintro e w ⟨rfl, H⟩
    refine ⟨_, rfl, (fun h => (nomatch h)), ?_⟩
    refine re_nil ?_
    refine qe_thenI ?_
    refine ci_cond rfl (fun h0 => ?_) (fun h0 => ?_)
    · try simp only [zn1, zn2, zn3, zn4, zn5, zn6] at h0
      refine ci_text (tab := []) (soft := 3) (.op 0 (.op 1 (.op 2 (.op 3 (.op 4 .nil))))) rfl rfl (by kernel_rfl) ?_
      refine re_load H rfl rfl rfl rfl rfl sh_62 rfl ?_
      refine re_load H rfl rfl rfl rfl rfl sh_46 (by first | exact rdAt_all rfl | (simp only [rdAt, PS.cells, PS.over, GM.cells, Cmd.cells, List.cons_append, List.nil_append, List.drop_succ_cons, List.drop_zero, List.take_succ_cons, List.take_zero, List.length_cons, List.length_nil, Nat.zero_add, Nat.reduceAdd, Nat.reduceLeDiff, Nat.le_refl, ↓reduceIte] <;> rfl)) ?_
      refine re_slice1 H rfl rfl rfl rfl rfl rfl ul_62 ei_62 ze_46 rfl rfl rfl (by decide) ?_
      intro g21 w H
      refine ⟨(fun h => (nomatch h)), ?_⟩
      refine re_append H rfl rfl rfl rfl rfl rfl ul_62 ei_62 ze_46 rfl (by decide) (src_cells H rfl) rfl (by omega) (by simp only [maxLen]; omega) ?_
      intro a1 c1 w H _
      simp only [List.set_cons_zero, List.set_cons_succ] at H
      refine ⟨(fun h => (nomatch h)), ?_⟩
      refine re_store H rfl rfl rfl rfl rfl rfl sh_62 rfl rfl rfl ?_
      intro cs w hcs H
      first | rw [setMany_whole rfl] at hcs | simp only [setMany, List.set_cons_zero, List.set_cons_succ, Nat.reduceAdd, Nat.zero_add, PS.cells, PS.over, GM.cells, Cmd.cells, List.cons_append, List.nil_append] at hcs
      subst hcs
      refine ⟨(fun h => (nomatch h)), ?_⟩
      refine re_nil ?_
      refine qe_block_norm ?_
      refine qe_endRound hr0 H (i := 2) rfl ?_
      intro w H
      simp only [List.set_cons_zero, List.set_cons_succ] at H
      have e := heldOf_new hj (by simpa using h0)
      refine ⟨rfl, a1, c1, ?_⟩
      rw [e, List.length_append, msgs_snoc]
      exact H.drop 2
    · try simp only [zn1, zn2, zn3, zn4, zn5, zn6] at h0
      refine ci_skip ?_
      refine qe_block_norm ?_
      refine qe_endRound hr0 H (i := 1) rfl ?_
      intro w H
      simp only [List.set_cons_zero, List.set_cons_succ] at H
      refine ⟨rfl, la, lc, ?_⟩
      rw [heldOf_old hj (by simpa using h0)]
      exact H.tail
  ·
    exact ⟨none, 0, H⟩
  ·
    rintro e w ⟨rfl, HI⟩
    obtain ⟨la, lc, H⟩ := HI
    refine ⟨_, 0, _, rfl, H, rfl, ?_⟩
    intro w H
    simp only [List.set_cons_zero, List.set_cons_succ] at H
    have H := Own.arr [7, 7, 3, 9, 9] H
    simp only [arrs, Fw.front, zm1, zm2, zm3, zm4, zm5] at H
    replace H := H.sub (.cons_cons _ (.cons_cons _ (.cons_cons _ (.cons_cons _ (.cons_cons _ (.cons _ (.cons _ (.cons _ (.cons _ (.cons _ (List.Sublist.refl _)))))))))))
    rw [List.take_length] at H
    have hhl := heldOf_length (gotM p.gs ms)
    refine qe_block_norm ?_
    refine qe_thenC ?_
    refine ce_seq ?_
    refine ce_text (tab := []) (soft := 15) (.op 0 (.op 1 (.op 2 (.op 3 (.op 4 (.op 5 .nil)))))) rfl rfl ?_
    refine re_move rfl rfl rfl rfl rfl ?_
    refine re_nilc rfl rfl rfl rfl rfl ?_
    first | refine re_field0 rfl rfl rfl rfl rfl fo_80_4 ?_ | refine re_field rfl rfl rfl rfl rfl fo_80_4 ?_ | refine re_fieldA rfl rfl rfl rfl rfl fo_80_4 ?_
    refine re_load H rfl rfl rfl rfl rfl sh_28 (by first | exact rdAt_all rfl | (simp only [rdAt, PS.cells, PS.over, GM.cells, Cmd.cells, List.cons_append, List.nil_append, List.drop_succ_cons, List.drop_zero, List.take_succ_cons, List.take_zero, List.length_cons, List.length_nil, Nat.zero_add, Nat.reduceAdd, Nat.reduceLeDiff, Nat.le_refl, ↓reduceIte] <;> rfl)) ?_
    refine re_alloc H rfl rfl rfl rfl ze_28 ?_
    intro g8 w H
    refine ⟨(fun h => (nomatch h)), ?_⟩
    refine re_store H rfl rfl rfl rfl rfl rfl sh_28 rfl rfl rfl ?_
    intro cs w hcs H
    first | rw [setMany_whole rfl] at hcs | simp only [setMany, List.set_cons_zero, List.set_cons_succ, Nat.reduceAdd, Nat.zero_add, PS.cells, PS.over, GM.cells, Cmd.cells, List.cons_append, List.nil_append] at hcs
    subst hcs
    refine ⟨(fun h => (nomatch h)), ?_⟩
    refine re_nil ?_
    refine qe_thenC ?_
    refine ce_seq ?_
    refine ce_seq ?_
    refine ce_text (tab := []) (soft := 157) (.op 0 (.op 1 (.op 2 (.op 3 (.op 4 (.op 5 (.op 6 (.op 7 .nil)))))))) rfl rfl ?_
    refine re_load H rfl rfl rfl rfl rfl sh_62 rfl ?_
    refine re_call en_85 rfl rfl rfl rfl rfl ?_
    have H := H.front 5
    simp only [arrs, Fw.front, zm1, zm2, zm3, zm4, zm5] at H
    refine Calls.mono (best_s H (by omega)) ?_
    rintro e w ⟨rfl, H⟩
    refine ⟨_, rfl, (fun h => (nomatch h)), ?_⟩
    refine re_move rfl rfl rfl rfl rfl ?_
    refine re_extract rfl rfl rfl rfl rfl rfl ?_
    refine re_extract rfl rfl rfl rfl rfl rfl ?_
    refine re_alloc H rfl rfl rfl rfl ze_46 ?_
    intro g9 w H
    refine ⟨(fun h => (nomatch h)), ?_⟩
    refine re_store H rfl rfl rfl rfl rfl rfl sh_46 rfl rfl rfl ?_
    intro cs w hcs H
    first | rw [setMany_whole rfl] at hcs | simp only [setMany, List.set_cons_zero, List.set_cons_succ, Nat.reduceAdd, Nat.zero_add, PS.cells, PS.over, GM.cells, Cmd.cells, List.cons_append, List.nil_append] at hcs
    subst hcs
    refine ⟨(fun h => (nomatch h)), ?_⟩
    refine re_assign rfl rfl rfl rfl rfl ?_
    refine re_nil ?_
    refine qe_thenC ?_
    refine ce_seq ?_
    refine ce_text (tab := []) (soft := 1) (.op 0 .nil) rfl rfl ?_
    refine re_move rfl rfl rfl rfl rfl ?_
    refine re_nil ?_
    refine qe_thenC ?_
    refine ce_cond rfl (fun h1 => ?_) (fun h1 => ?_)
    · try simp only [zn1, zn2, zn3, zn4, zn5, zn6] at h1
      have hch : p.chosen ms = (bestV (heldOf (gotM p.gs ms))).cmd := by rw [PS.chosen, if_pos (by omega)]
      refine ce_text (tab := []) (soft := 3) (.op 0 (.op 1 (.op 2 .nil))) rfl rfl ?_
      first | refine re_field0 rfl rfl rfl rfl rfl fo_46_9 ?_ | refine re_field rfl rfl rfl rfl rfl fo_46_9 ?_ | refine re_fieldA rfl rfl rfl rfl rfl fo_46_9 ?_
      refine re_load H rfl rfl rfl rfl rfl sh_28 (by first | exact rdAt_all rfl | (simp only [rdAt, PS.cells, PS.over, GM.cells, Cmd.cells, List.cons_append, List.nil_append, List.drop_succ_cons, List.drop_zero, List.take_succ_cons, List.take_zero, List.length_cons, List.length_nil, Nat.zero_add, Nat.reduceAdd, Nat.reduceLeDiff, Nat.le_refl, ↓reduceIte] <;> rfl)) ?_
      refine re_store H rfl rfl rfl rfl rfl rfl sh_28 rfl rfl rfl ?_
      intro cs w hcs H
      first | rw [setMany_whole rfl] at hcs | simp only [setMany, List.set_cons_zero, List.set_cons_succ, Nat.reduceAdd, Nat.zero_add, PS.cells, PS.over, GM.cells, Cmd.cells, List.cons_append, List.nil_append] at hcs
      subst hcs
      refine ⟨(fun h => (nomatch h)), ?_⟩
      refine re_nil ?_
      refine qe_thenC ?_
      refine ce_seq ?_
      refine ce_seq ?_
      refine ce_text (tab := []) (soft := 31) (.op 0 (.op 1 (.op 2 (.op 3 (.op 4 .nil))))) rfl rfl ?_
      have H := Own.arr [5, 3, 5, 5] H
      simp only [arrs, Fw.front, zm1, zm2, zm3, zm4, zm5] at H
      replace H := H.sub (.cons_cons _ (.cons_cons _ (.cons_cons _ (.cons_cons _ (.cons _ (.cons _ (.cons _ (List.Sublist.refl _))))))))
      refine re_move rfl rfl rfl rfl rfl ?_
      refine re_nilc rfl rfl rfl rfl rfl ?_
      first | refine re_field0 rfl rfl rfl rfl rfl fo_80_6 ?_ | refine re_field rfl rfl rfl rfl rfl fo_80_6 ?_ | refine re_fieldA rfl rfl rfl rfl rfl fo_80_6 ?_
      refine re_load H rfl rfl rfl rfl rfl sh_3 rfl ?_
      refine re_bin rfl rfl rfl rfl rfl rfl rfl ?_
      refine re_nil ?_
      refine qe_thenC ?_
      refine ce_cond rfl (fun h2 => ?_) (fun h2 => ?_)
      · try simp only [zn1, zn2, zn3, zn4, zn5, zn6] at h2
        refine ce_seq ?_
        refine ce_text (tab := []) (soft := 5) (.op 0 (.op 1 (.op 2 .nil))) rfl rfl ?_
        refine re_move rfl rfl rfl rfl rfl ?_
        refine re_call en_41 rfl rfl rfl rfl rfl ?_
        refine Calls.mono (wear_s H) ?_
        rintro e w ⟨rfl, H⟩
        refine ⟨_, rfl, (fun h => (nomatch h)), ?_⟩
        refine re_assign rfl rfl rfl rfl rfl ?_
        refine re_nil ?_
        refine qe_thenC ?_
        refine ce_ret ?_
        refine qe_then_ret ?_
        refine qe_endM rfl rfl H (i := 3) rfl ?_
        intro w H
        simp only [List.set_cons_zero, List.set_cons_succ] at H
        exact ⟨rfl, H.sub (.cons_cons _ (.cons_cons _ (.cons _ (.cons _ (List.Sublist.refl _)))))⟩
      · try simp only [zn1, zn2, zn3, zn4, zn5, zn6] at h2
        omega
    · try simp only [zn1, zn2, zn3, zn4, zn5, zn6] at h1
      have hch : p.chosen ms = p.mine := by rw [PS.chosen, if_neg (by omega)]
      refine ce_skip ?_
      refine qe_thenC ?_
      refine ce_seq ?_
      refine ce_seq ?_
      refine ce_text (tab := []) (soft := 31) (.op 0 (.op 1 (.op 2 (.op 3 (.op 4 .nil))))) rfl rfl ?_
      have H := Own.arr [5, 3, 5, 5] H
      simp only [arrs, Fw.front, zm1, zm2, zm3, zm4, zm5] at H
      replace H := H.sub (.cons_cons _ (.cons_cons _ (.cons_cons _ (.cons_cons _ (.cons _ (.cons _ (.cons _ (List.Sublist.refl _))))))))
      refine re_move rfl rfl rfl rfl rfl ?_
      refine re_nilc rfl rfl rfl rfl rfl ?_
      first | refine re_field0 rfl rfl rfl rfl rfl fo_80_6 ?_ | refine re_field rfl rfl rfl rfl rfl fo_80_6 ?_ | refine re_fieldA rfl rfl rfl rfl rfl fo_80_6 ?_
      refine re_load H rfl rfl rfl rfl rfl sh_3 rfl ?_
      refine re_bin rfl rfl rfl rfl rfl rfl rfl ?_
      refine re_nil ?_
      refine qe_thenC ?_
      refine ce_cond rfl (fun h2 => ?_) (fun h2 => ?_)
      · try simp only [zn1, zn2, zn3, zn4, zn5, zn6] at h2
        refine ce_seq ?_
        refine ce_text (tab := []) (soft := 5) (.op 0 (.op 1 (.op 2 .nil))) rfl rfl ?_
        refine re_move rfl rfl rfl rfl rfl ?_
        refine re_call en_41 rfl rfl rfl rfl rfl ?_
        refine Calls.mono (wear_s H) ?_
        rintro e w ⟨rfl, H⟩
        refine ⟨_, rfl, (fun h => (nomatch h)), ?_⟩
        refine re_assign rfl rfl rfl rfl rfl ?_
        refine re_nil ?_
        refine qe_thenC ?_
        refine ce_ret ?_
        refine qe_then_ret ?_
        refine qe_endM rfl rfl H (i := 3) rfl ?_
        intro w H
        simp only [List.set_cons_zero, List.set_cons_succ] at H
        exact ⟨rfl, H.sub (.cons_cons _ (.cons_cons _ (.cons _ (.cons _ (List.Sublist.refl _)))))⟩
      · try simp only [zn1, zn2, zn3, zn4, zn5, zn6] at h2
        omega

theorem accept_s {B w : World} {F : List Ent} {g : Nat} {p : PS} {qt qm qc : Nat} {qa : Option Nat} {ms : List (Int × GM)} (H : Own B (.cells g 80 p.cells :: .row p.ga p.gc 3 1 p.gs.length (ints p.gs) :: .cells qt 145 [slv qa p.gs.length qc, .int .i64 ((p.gs.length : Int) / 2 + 1), .map (some qm)] :: .row qa qc 3 1 p.gs.length (ints p.gs) :: .imap qm (kvM ms) :: F) w) (hn : p.gs.length ≤ 1000000) (hu : unlike p.gs = p.gs) (hw : p.rnd < 1099511627776) (hlo : -1 ≤ p.rnd) :
    Calls Try.prog 74 #[.pointer (some ⟨g, 0, none⟩), .pointer (some ⟨qt, 0, none⟩)] w fun e w' => ∃ ht ha hc hm qt qa qc qm a c, e = .returned (slv a (p.next.outA (p.chosen ms) p.gs).length c) ∧ Own B (.row a c 46 30 (p.next.outA (p.chosen ms) p.gs).length (msgs (p.next.outA (p.chosen ms) p.gs)) :: .cells g 80 (p.next.enter (phA qt (p.chosen ms)) ht).cells :: .row p.ga p.gc 3 1 p.gs.length (ints p.gs) :: .cells ht 109 [slv ha p.gs.length hc, .int .i64 ((p.gs.length : Int) + 1), .map (some hm)] :: .row ha hc 3 1 p.gs.length (ints p.gs) :: .imap hm (heardK []) :: .cells qt 145 [slv qa p.gs.length qc, .int .i64 ((p.gs.length : Int) / 2 + 1), .map (some qm)] :: .row qa qc 3 1 p.gs.length (ints p.gs) :: .imap qm (kvM []) :: F) w' := by
  refine calls_ceM (args := [.pointer (some ⟨g, 0, none⟩), .pointer (some ⟨qt, 0, none⟩)]) Try.func74 rfl rfl ?_
  change CE _ _ 61 _ _ [(0, .pointer (some ⟨g, 0, none⟩)), (1, .pointer (some ⟨qt, 0, none⟩))] _
  refine ce_seq ?_
  refine ce_text (tab := []) (soft := 1) (.op 0 .nil) rfl rfl ?_
  refine re_assign rfl rfl rfl rfl rfl ?_
  refine re_nil ?_
  refine qe_thenC ?_
  refine ce_seq ?_
  refine ce_text (tab := []) (soft := 0) (.op 0 .nil) rfl rfl ?_
  refine re_alloc H rfl rfl rfl rfl ze_62 ?_
  intro g5 w H
  refine ⟨(fun h => (nomatch h)), ?_⟩
  refine re_nil ?_
  refine qe_thenC ?_
  refine ce_seq ?_
  refine ce_seq ?_
  refine ce_text (tab := []) (soft := 1) (.op 0 (.op 1 .nil)) rfl rfl ?_
  refine re_move rfl rfl rfl rfl rfl ?_
  refine re_call en_83 rfl rfl rfl rfl rfl ?_
  have H := Own.arr [5, 5, 5] H
  simp only [arrs, Fw.front, zm1, zm2, zm3, zm4, zm5] at H
  refine Calls.mono (got_s H hn) ?_
  rintro e w ⟨s, q, sa, sc, ma, mc, rfl, H⟩
  refine ⟨_, rfl, (fun h => (nomatch h)), ?_⟩
  refine re_nil ?_
  refine qe_thenC ?_
  refine ce_block ?_
  have H := Own.arr [9, 9, 9, 6, 6, 6, 6] H
  simp only [arrs, Fw.front, zm1, zm2, zm3, zm4, zm5] at H
  replace H := H.sub (.cons_cons _ (.cons_cons _ (.cons_cons _ (.cons_cons _ (.cons_cons _ (.cons_cons _ (.cons_cons _ (.cons _ (.cons _ (.cons _ (List.Sublist.refl _)))))))))))
  replace H := H.nil_row 46 30
  have H := Own.arr [7, 7, 2, 7, 7, 7, 7, 7] H
  simp only [arrs, Fw.front, zm1, zm2, zm3, zm4, zm5] at H
  have hgl := gotL_length p.gs ms
  have eS : (gotS p.gs ms).length = (gotL p.gs ms).length := List.length_map ..
  have eM : (gotM p.gs ms).length = (gotL p.gs ms).length := List.length_map ..
  refine ce_rangeFunc H en_87 rfl ?_
  intro a0 l0 b0 r0 w hrel hr0 H
  refine Calls.mono (got1_s (B := B) (ss := gotS p.gs ms) (ms := gotM p.gs ms) (s := s) (q := q) (sa := sa) (ma := ma) (sc := sc) (mc := mc) (hss := by rw [eS, eM]) (hn := by omega) (l := l0) (I := fun j w => ∃ la lc, Own B (.loop l0 r0 :: .deferred b0 (some []) :: .cells s 31 [slv sa (gotL p.gs ms).length sc] :: .row sa sc 3 1 (gotL p.gs ms).length (ints (gotS p.gs ms)) :: .cells q 62 [slv ma (gotL p.gs ms).length mc] :: .row ma mc 46 30 (gotL p.gs ms).length (msgs (gotM p.gs ms)) :: .cells g5 62 [slv la (heldOf ((gotM p.gs ms).take j)).length lc] :: .row la lc 46 30 (heldOf ((gotM p.gs ms).take j)).length (msgs (heldOf ((gotM p.gs ms).take j))) :: .cells g 80 p.cells :: .row p.ga p.gc 3 1 p.gs.length (ints p.gs) :: F) w) ?_ ?_ ?_) ?_
  ·
    intro j w HI
    obtain ⟨la, lc, H⟩ := HI
    rw [eM]
    have H := Own.arr [1, 1, 5, 5, 5, 5] H
    simp only [arrs, Fw.front, zm1, zm2, zm3, zm4, zm5] at H
    exact ⟨_, H⟩
  ·
    intro j hj w HI
    obtain ⟨la, lc, H⟩ := HI
    refine round_of2 hr0 H (i := 0) rfl hrel rfl rfl ?_
    refine ci_text (tab := []) (soft := 0) (.op 0 (.op 1 .nil)) rfl rfl (by kernel_rfl) ?_
    refine re_alloc H rfl rfl rfl rfl ze_46 ?_
    intro g7 w H
    refine ⟨(fun h => (nomatch h)), ?_⟩
    refine re_store H rfl rfl rfl rfl rfl rfl sh_46 rfl rfl rfl ?_
    intro cs w hcs H
    first | rw [setMany_whole rfl] at hcs | simp only [setMany, List.set_cons_zero, List.set_cons_succ, Nat.reduceAdd, Nat.zero_add, PS.cells, PS.over, GM.cells, Cmd.cells, List.cons_append, List.nil_append] at hcs
    subst hcs
    refine ⟨(fun h => (nomatch h)), ?_⟩
    refine re_nil ?_
    have hhl := heldOf_length ((gotM p.gs ms).take j)
    have htl := List.length_take_le j (gotM p.gs ms)
    refine qe_begin H (i := 1) rfl hr0.state ?_
    intro w H
    simp only [List.set_cons_zero, List.set_cons_succ] at H
    refine ci_block ?_
    refine ci_seq ?_
    refine ci_text (tab := []) (soft := 7) (.op 0 (.op 1 (.op 2 (.op 3 .nil)))) rfl rfl (by kernel_rfl) ?_
    refine re_build rfl rfl rfl rfl rfl ze_38 pl_38 (by simp only [fillL, setMany, Value.cells, List.getElem?_cons_zero, List.getElem?_cons_succ, List.length_cons, List.length_nil, List.set_cons_zero, List.set_cons_succ, Nat.reduceAdd, Nat.reduceLeDiff, Nat.zero_add, and_self, ↓reduceIte]; rfl) ?_
    first | refine re_field0 rfl rfl rfl rfl rfl fo_46_7 ?_ | refine re_field rfl rfl rfl rfl rfl fo_46_7 ?_ | refine re_fieldA rfl rfl rfl rfl rfl fo_46_7 ?_
    refine re_load H rfl rfl rfl rfl rfl sh_38 (by first | exact rdAt_all rfl | (simp only [rdAt, PS.cells, PS.over, GM.cells, Cmd.cells, List.cons_append, List.nil_append, List.drop_succ_cons, List.drop_zero, List.take_succ_cons, List.take_zero, List.length_cons, List.length_nil, Nat.zero_add, Nat.reduceAdd, Nat.reduceLeDiff, Nat.le_refl, ↓reduceIte] <;> rfl)) ?_
    refine re_call en_84 rfl rfl rfl rfl rfl ?_
    refine Calls.mono (less_s (a0 := 0) (a1 := 0) H) ?_
    rintro e w ⟨rfl, H⟩
    refine ⟨_, rfl, (fun h => (nomatch h)), ?_⟩
    refine re_nil ?_
    refine qe_thenI ?_
    refine ci_cond rfl (fun h0 => ?_) (fun h0 => ?_)
    · try simp only [zn1, zn2, zn3, zn4, zn5, zn6] at h0
      refine ci_text (tab := []) (soft := 3) (.op 0 (.op 1 (.op 2 (.op 3 (.op 4 .nil))))) rfl rfl (by kernel_rfl) ?_
      refine re_load H rfl rfl rfl rfl rfl sh_62 rfl ?_
      refine re_load H rfl rfl rfl rfl rfl sh_46 (by first | exact rdAt_all rfl | (simp only [rdAt, PS.cells, PS.over, GM.cells, Cmd.cells, List.cons_append, List.nil_append, List.drop_succ_cons, List.drop_zero, List.take_succ_cons, List.take_zero, List.length_cons, List.length_nil, Nat.zero_add, Nat.reduceAdd, Nat.reduceLeDiff, Nat.le_refl, ↓reduceIte] <;> rfl)) ?_
      refine re_slice1 H rfl rfl rfl rfl rfl rfl ul_62 ei_62 ze_46 rfl rfl rfl (by decide) ?_
      intro g21 w H
      refine ⟨(fun h => (nomatch h)), ?_⟩
      refine re_append H rfl rfl rfl rfl rfl rfl ul_62 ei_62 ze_46 rfl (by decide) (src_cells H rfl) rfl (by omega) (by simp only [maxLen]; omega) ?_
      intro a1 c1 w H _
      simp only [List.set_cons_zero, List.set_cons_succ] at H
      refine ⟨(fun h => (nomatch h)), ?_⟩
      refine re_store H rfl rfl rfl rfl rfl rfl sh_62 rfl rfl rfl ?_
      intro cs w hcs H
      first | rw [setMany_whole rfl] at hcs | simp only [setMany, List.set_cons_zero, List.set_cons_succ, Nat.reduceAdd, Nat.zero_add, PS.cells, PS.over, GM.cells, Cmd.cells, List.cons_append, List.nil_append] at hcs
      subst hcs
      refine ⟨(fun h => (nomatch h)), ?_⟩
      refine re_nil ?_
      refine qe_block_norm ?_
      refine qe_endRound hr0 H (i := 2) rfl ?_
      intro w H
      simp only [List.set_cons_zero, List.set_cons_succ] at H
      have e := heldOf_new hj (by simpa using h0)
      refine ⟨rfl, a1, c1, ?_⟩
      rw [e, List.length_append, msgs_snoc]
      exact H.drop 2
    · try simp only [zn1, zn2, zn3, zn4, zn5, zn6] at h0
      refine ci_skip ?_
      refine qe_block_norm ?_
      refine qe_endRound hr0 H (i := 1) rfl ?_
      intro w H
      simp only [List.set_cons_zero, List.set_cons_succ] at H
      refine ⟨rfl, la, lc, ?_⟩
      rw [heldOf_old hj (by simpa using h0)]
      exact H.tail
  ·
    exact ⟨none, 0, H⟩
  ·
    rintro e w ⟨rfl, HI⟩
    obtain ⟨la, lc, H⟩ := HI
    refine ⟨_, 0, _, rfl, H, rfl, ?_⟩
    intro w H
    simp only [List.set_cons_zero, List.set_cons_succ] at H
    have H := Own.arr [7, 7, 3, 9, 9] H
    simp only [arrs, Fw.front, zm1, zm2, zm3, zm4, zm5] at H
    replace H := H.sub (.cons_cons _ (.cons_cons _ (.cons_cons _ (.cons_cons _ (.cons_cons _ (.cons _ (.cons _ (.cons _ (.cons _ (.cons _ (List.Sublist.refl _)))))))))))
    rw [List.take_length] at H
    have hhl := heldOf_length (gotM p.gs ms)
    refine qe_block_norm ?_
    refine qe_thenC ?_
    refine ce_seq ?_
    refine ce_text (tab := []) (soft := 15) (.op 0 (.op 1 (.op 2 (.op 3 (.op 4 (.op 5 .nil)))))) rfl rfl ?_
    refine re_move rfl rfl rfl rfl rfl ?_
    refine re_nilc rfl rfl rfl rfl rfl ?_
    first | refine re_field0 rfl rfl rfl rfl rfl fo_80_4 ?_ | refine re_field rfl rfl rfl rfl rfl fo_80_4 ?_ | refine re_fieldA rfl rfl rfl rfl rfl fo_80_4 ?_
    refine re_load H rfl rfl rfl rfl rfl sh_28 (by first | exact rdAt_all rfl | (simp only [rdAt, PS.cells, PS.over, GM.cells, Cmd.cells, List.cons_append, List.nil_append, List.drop_succ_cons, List.drop_zero, List.take_succ_cons, List.take_zero, List.length_cons, List.length_nil, Nat.zero_add, Nat.reduceAdd, Nat.reduceLeDiff, Nat.le_refl, ↓reduceIte] <;> rfl)) ?_
    refine re_alloc H rfl rfl rfl rfl ze_28 ?_
    intro g8 w H
    refine ⟨(fun h => (nomatch h)), ?_⟩
    refine re_store H rfl rfl rfl rfl rfl rfl sh_28 rfl rfl rfl ?_
    intro cs w hcs H
    first | rw [setMany_whole rfl] at hcs | simp only [setMany, List.set_cons_zero, List.set_cons_succ, Nat.reduceAdd, Nat.zero_add, PS.cells, PS.over, GM.cells, Cmd.cells, List.cons_append, List.nil_append] at hcs
    subst hcs
    refine ⟨(fun h => (nomatch h)), ?_⟩
    refine re_nil ?_
    refine qe_thenC ?_
    refine ce_seq ?_
    refine ce_seq ?_
    refine ce_text (tab := []) (soft := 157) (.op 0 (.op 1 (.op 2 (.op 3 (.op 4 (.op 5 (.op 6 (.op 7 .nil)))))))) rfl rfl ?_
    refine re_load H rfl rfl rfl rfl rfl sh_62 rfl ?_
    refine re_call en_85 rfl rfl rfl rfl rfl ?_
    have H := H.front 5
    simp only [arrs, Fw.front, zm1, zm2, zm3, zm4, zm5] at H
    refine Calls.mono (best_s H (by omega)) ?_
    rintro e w ⟨rfl, H⟩
    refine ⟨_, rfl, (fun h => (nomatch h)), ?_⟩
    refine re_move rfl rfl rfl rfl rfl ?_
    refine re_extract rfl rfl rfl rfl rfl rfl ?_
    refine re_extract rfl rfl rfl rfl rfl rfl ?_
    refine re_alloc H rfl rfl rfl rfl ze_46 ?_
    intro g9 w H
    refine ⟨(fun h => (nomatch h)), ?_⟩
    refine re_store H rfl rfl rfl rfl rfl rfl sh_46 rfl rfl rfl ?_
    intro cs w hcs H
    first | rw [setMany_whole rfl] at hcs | simp only [setMany, List.set_cons_zero, List.set_cons_succ, Nat.reduceAdd, Nat.zero_add, PS.cells, PS.over, GM.cells, Cmd.cells, List.cons_append, List.nil_append] at hcs
    subst hcs
    refine ⟨(fun h => (nomatch h)), ?_⟩
    refine re_assign rfl rfl rfl rfl rfl ?_
    refine re_nil ?_
    refine qe_thenC ?_
    refine ce_seq ?_
    refine ce_text (tab := []) (soft := 1) (.op 0 .nil) rfl rfl ?_
    refine re_move rfl rfl rfl rfl rfl ?_
    refine re_nil ?_
    refine qe_thenC ?_
    refine ce_cond rfl (fun h1 => ?_) (fun h1 => ?_)
    · try simp only [zn1, zn2, zn3, zn4, zn5, zn6] at h1
      have hch : p.chosen ms = (bestV (heldOf (gotM p.gs ms))).cmd := by rw [PS.chosen, if_pos (by omega)]
      refine ce_text (tab := []) (soft := 3) (.op 0 (.op 1 (.op 2 .nil))) rfl rfl ?_
      first | refine re_field0 rfl rfl rfl rfl rfl fo_46_9 ?_ | refine re_field rfl rfl rfl rfl rfl fo_46_9 ?_ | refine re_fieldA rfl rfl rfl rfl rfl fo_46_9 ?_
      refine re_load H rfl rfl rfl rfl rfl sh_28 (by first | exact rdAt_all rfl | (simp only [rdAt, PS.cells, PS.over, GM.cells, Cmd.cells, List.cons_append, List.nil_append, List.drop_succ_cons, List.drop_zero, List.take_succ_cons, List.take_zero, List.length_cons, List.length_nil, Nat.zero_add, Nat.reduceAdd, Nat.reduceLeDiff, Nat.le_refl, ↓reduceIte] <;> rfl)) ?_
      refine re_store H rfl rfl rfl rfl rfl rfl sh_28 rfl rfl rfl ?_
      intro cs w hcs H
      first | rw [setMany_whole rfl] at hcs | simp only [setMany, List.set_cons_zero, List.set_cons_succ, Nat.reduceAdd, Nat.zero_add, PS.cells, PS.over, GM.cells, Cmd.cells, List.cons_append, List.nil_append] at hcs
      subst hcs
      refine ⟨(fun h => (nomatch h)), ?_⟩
      refine re_nil ?_
      refine qe_thenC ?_
      refine ce_seq ?_
      refine ce_seq ?_
      refine ce_text (tab := []) (soft := 31) (.op 0 (.op 1 (.op 2 (.op 3 (.op 4 .nil))))) rfl rfl ?_
      have H := Own.arr [5, 3, 5, 5] H
      simp only [arrs, Fw.front, zm1, zm2, zm3, zm4, zm5] at H
      replace H := H.sub (.cons_cons _ (.cons_cons _ (.cons_cons _ (.cons_cons _ (.cons _ (.cons _ (.cons _ (List.Sublist.refl _))))))))
      refine re_move rfl rfl rfl rfl rfl ?_
      refine re_nilc rfl rfl rfl rfl rfl ?_
      first | refine re_field0 rfl rfl rfl rfl rfl fo_80_6 ?_ | refine re_field rfl rfl rfl rfl rfl fo_80_6 ?_ | refine re_fieldA rfl rfl rfl rfl rfl fo_80_6 ?_
      refine re_load H rfl rfl rfl rfl rfl sh_3 rfl ?_
      refine re_bin rfl rfl rfl rfl rfl rfl rfl ?_
      refine re_nil ?_
      refine qe_thenC ?_
      refine ce_cond rfl (fun h2 => ?_) (fun h2 => ?_)
      · try simp only [zn1, zn2, zn3, zn4, zn5, zn6] at h2
        omega
      · try simp only [zn1, zn2, zn3, zn4, zn5, zn6] at h2
        refine ce_skip ?_
        refine qe_thenC ?_
        refine ce_seq ?_
        refine ce_text (tab := []) (soft := 127) (.op 0 (.op 1 (.op 2 (.op 3 (.op 4 (.op 5 (.op 6 (.op 7 .nil)))))))) rfl rfl ?_
        refine re_move rfl rfl rfl rfl rfl ?_
        refine re_nilc rfl rfl rfl rfl rfl ?_
        first | refine re_field0 rfl rfl rfl rfl rfl fo_80_6 ?_ | refine re_field rfl rfl rfl rfl rfl fo_80_6 ?_ | refine re_fieldA rfl rfl rfl rfl rfl fo_80_6 ?_
        refine re_load H rfl rfl rfl rfl rfl sh_3 rfl ?_
        first | refine re_add rfl rfl rfl rfl rfl rfl (by omega) ?_ | refine re_bin rfl rfl rfl rfl rfl rfl rfl ?_
        refine re_nilc rfl rfl rfl rfl rfl ?_
        first | refine re_field0 rfl rfl rfl rfl rfl fo_80_6 ?_ | refine re_field rfl rfl rfl rfl rfl fo_80_6 ?_ | refine re_fieldA rfl rfl rfl rfl rfl fo_80_6 ?_
        refine re_store H rfl rfl rfl rfl rfl rfl sh_3 rfl rfl rfl ?_
        intro cs w hcs H
        first | rw [setMany_whole rfl] at hcs | simp only [setMany, List.set_cons_zero, List.set_cons_succ, Nat.reduceAdd, Nat.zero_add, PS.cells, PS.over, GM.cells, Cmd.cells, List.cons_append, List.nil_append] at hcs
        subst hcs
        refine ⟨(fun h => (nomatch h)), ?_⟩
        refine re_nil ?_
        refine qe_thenC ?_
        refine ce_seq ?_
        refine ce_open (tab := [0, 0, 2, 6, 14, 0, 32, 126, 0, 510, 1022, 2047, 4095]) (soft := 5951) mixed (.op 0 (.op 1 (.op 2 (.op 3 (.op 4 (.op 5 (.op 8 (.op 6 (.op 7 (.op 9 (.op 10 (.op 11 (.op 12 .nil))))))))))))) (by kernel_rfl) H ?_
        intro w H
        refine re_move rfl rfl rfl rfl rfl ?_
        refine re_move rfl rfl rfl rfl rfl ?_
        refine re_nilc rfl rfl rfl rfl rfl ?_
        first | refine re_field0 rfl rfl rfl rfl rfl fo_80_3 ?_ | refine re_field rfl rfl rfl rfl rfl fo_80_3 ?_ | refine re_fieldA rfl rfl rfl rfl rfl fo_80_3 ?_
        refine re_load H rfl rfl rfl rfl rfl sh_31 rfl ?_
        refine re_move rfl rfl rfl rfl rfl ?_
        refine re_load H rfl rfl rfl rfl rfl sh_28 (by first | exact rdAt_all rfl | (simp only [rdAt, PS.cells, PS.over, GM.cells, Cmd.cells, List.cons_append, List.nil_append, List.drop_succ_cons, List.drop_zero, List.take_succ_cons, List.take_zero, List.length_cons, List.length_nil, Nat.zero_add, Nat.reduceAdd, Nat.reduceLeDiff, Nat.le_refl, ↓reduceIte] <;> rfl)) ?_
        refine re_call en_70 rfl rfl rfl rfl rfl ?_
        refine Calls.mono (need_s (p := p.next) H hn) ?_
        rintro e w ⟨rfl, H⟩
        refine ⟨_, rfl, (fun _ => ⟨fun _ => still_load H sh_28 (by first | exact rdAt_all rfl | (simp only [rdAt, PS.cells, PS.over, GM.cells, Cmd.cells, List.cons_append, List.nil_append, List.drop_succ_cons, List.drop_zero, List.take_succ_cons, List.take_zero, List.length_cons, List.length_nil, Nat.zero_add, Nat.reduceAdd, Nat.reduceLeDiff, Nat.le_refl, ↓reduceIte] <;> rfl)), fun _ => still_load H sh_31 rfl, trivial⟩), ?_⟩
        refine re_call en_69 rfl rfl rfl rfl rfl ?_
        refine Calls.mono (tnewM (H.rsees p.ga) H hn) ?_
        rintro e w ⟨qt, qa, qc, qm, rfl, H⟩
        rw [hu] at H
        have H := H.front 4
        have H := H.front 4
        simp only [arrs, Fw.front, zm1, zm2, zm3, zm4, zm5] at H
        refine ⟨_, rfl, (fun _ => ⟨fun _ => still_load H sh_28 (by first | exact rdAt_all rfl | (simp only [rdAt, PS.cells, PS.over, GM.cells, Cmd.cells, List.cons_append, List.nil_append, List.drop_succ_cons, List.drop_zero, List.take_succ_cons, List.take_zero, List.length_cons, List.length_nil, Nat.zero_add, Nat.reduceAdd, Nat.reduceLeDiff, Nat.le_refl, ↓reduceIte] <;> rfl)), ancs (i := 7) (j := 4) rfl, trivial⟩), ?_⟩
        refine re_build rfl rfl rfl rfl rfl ze_137 pl_137 (by simp only [fillL, setMany, Value.cells, List.getElem?_cons_zero, List.getElem?_cons_succ, List.length_cons, List.length_nil, List.set_cons_zero, List.set_cons_succ, Nat.reduceAdd, Nat.reduceLeDiff, Nat.zero_add, and_self, ↓reduceIte]; rfl) ?_
        refine re_iface rfl rfl rfl rfl rfl nif_137 ?_
        refine re_call en_68 rfl rfl rfl rfl rfl ?_
        refine Calls.mono (enterA (p := p.next) (q := qt) (cm := (bestV (heldOf (gotM p.gs ms))).cmd) H hn hu) ?_
        rintro e w ⟨ht, ha, hc, hm, a, c, rfl, H⟩
        refine ⟨_, rfl, (fun _ => ⟨ancs (i := 11) (j := 8) rfl, ancs (i := 11) (j := 4) rfl, trivial⟩), ?_⟩
        refine re_assign rfl rfl rfl rfl rfl ?_
        refine re_nil ?_
        refine qe_noPanic ?_
        refine qe_thenC ?_
        refine ce_ret ?_
        refine qe_endM rfl rfl H (i := 10) rfl ?_
        intro w H
        simp only [List.set_cons_zero, List.set_cons_succ] at H
        rw [hch]
        refine ⟨ht, ha, hc, hm, qt, qa, qc, qm, a, c, rfl, ?_⟩
        exact H.sub (.cons_cons _ (.cons_cons _ (.cons_cons _ (.cons_cons _ (.cons_cons _ (.cons_cons _ (.cons_cons _ (.cons_cons _ (.cons_cons _ (.cons _ (.cons _ (List.Sublist.refl _))))))))))))
    · try simp only [zn1, zn2, zn3, zn4, zn5, zn6] at h1
      have hch : p.chosen ms = p.mine := by rw [PS.chosen, if_neg (by omega)]
      refine ce_skip ?_
      refine qe_thenC ?_
      refine ce_seq ?_
      refine ce_seq ?_
      refine ce_text (tab := []) (soft := 31) (.op 0 (.op 1 (.op 2 (.op 3 (.op 4 .nil))))) rfl rfl ?_
      have H := Own.arr [5, 3, 5, 5] H
      simp only [arrs, Fw.front, zm1, zm2, zm3, zm4, zm5] at H
      replace H := H.sub (.cons_cons _ (.cons_cons _ (.cons_cons _ (.cons_cons _ (.cons _ (.cons _ (.cons _ (List.Sublist.refl _))))))))
      refine re_move rfl rfl rfl rfl rfl ?_
      refine re_nilc rfl rfl rfl rfl rfl ?_
      first | refine re_field0 rfl rfl rfl rfl rfl fo_80_6 ?_ | refine re_field rfl rfl rfl rfl rfl fo_80_6 ?_ | refine re_fieldA rfl rfl rfl rfl rfl fo_80_6 ?_
      refine re_load H rfl rfl rfl rfl rfl sh_3 rfl ?_
      refine re_bin rfl rfl rfl rfl rfl rfl rfl ?_
      refine re_nil ?_
      refine qe_thenC ?_
      refine ce_cond rfl (fun h2 => ?_) (fun h2 => ?_)
      · try simp only [zn1, zn2, zn3, zn4, zn5, zn6] at h2
        omega
      · try simp only [zn1, zn2, zn3, zn4, zn5, zn6] at h2
        refine ce_skip ?_
        refine qe_thenC ?_
        refine ce_seq ?_
        refine ce_text (tab := []) (soft := 127) (.op 0 (.op 1 (.op 2 (.op 3 (.op 4 (.op 5 (.op 6 (.op 7 .nil)))))))) rfl rfl ?_
        refine re_move rfl rfl rfl rfl rfl ?_
        refine re_nilc rfl rfl rfl rfl rfl ?_
        first | refine re_field0 rfl rfl rfl rfl rfl fo_80_6 ?_ | refine re_field rfl rfl rfl rfl rfl fo_80_6 ?_ | refine re_fieldA rfl rfl rfl rfl rfl fo_80_6 ?_
        refine re_load H rfl rfl rfl rfl rfl sh_3 rfl ?_
        first | refine re_add rfl rfl rfl rfl rfl rfl (by omega) ?_ | refine re_bin rfl rfl rfl rfl rfl rfl rfl ?_
        refine re_nilc rfl rfl rfl rfl rfl ?_
        first | refine re_field0 rfl rfl rfl rfl rfl fo_80_6 ?_ | refine re_field rfl rfl rfl rfl rfl fo_80_6 ?_ | refine re_fieldA rfl rfl rfl rfl rfl fo_80_6 ?_
        refine re_store H rfl rfl rfl rfl rfl rfl sh_3 rfl rfl rfl ?_
        intro cs w hcs H
        first | rw [setMany_whole rfl] at hcs | simp only [setMany, List.set_cons_zero, List.set_cons_succ, Nat.reduceAdd, Nat.zero_add, PS.cells, PS.over, GM.cells, Cmd.cells, List.cons_append, List.nil_append] at hcs
        subst hcs
        refine ⟨(fun h => (nomatch h)), ?_⟩
        refine re_nil ?_
        refine qe_thenC ?_
        refine ce_seq ?_
        refine ce_open (tab := [0, 0, 2, 6, 14, 0, 32, 126, 0, 510, 1022, 2047, 4095]) (soft := 5951) mixed (.op 0 (.op 1 (.op 2 (.op 3 (.op 4 (.op 5 (.op 8 (.op 6 (.op 7 (.op 9 (.op 10 (.op 11 (.op 12 .nil))))))))))))) (by kernel_rfl) H ?_
        intro w H
        refine re_move rfl rfl rfl rfl rfl ?_
        refine re_move rfl rfl rfl rfl rfl ?_
        refine re_nilc rfl rfl rfl rfl rfl ?_
        first | refine re_field0 rfl rfl rfl rfl rfl fo_80_3 ?_ | refine re_field rfl rfl rfl rfl rfl fo_80_3 ?_ | refine re_fieldA rfl rfl rfl rfl rfl fo_80_3 ?_
        refine re_load H rfl rfl rfl rfl rfl sh_31 rfl ?_
        refine re_move rfl rfl rfl rfl rfl ?_
        refine re_load H rfl rfl rfl rfl rfl sh_28 (by first | exact rdAt_all rfl | (simp only [rdAt, PS.cells, PS.over, GM.cells, Cmd.cells, List.cons_append, List.nil_append, List.drop_succ_cons, List.drop_zero, List.take_succ_cons, List.take_zero, List.length_cons, List.length_nil, Nat.zero_add, Nat.reduceAdd, Nat.reduceLeDiff, Nat.le_refl, ↓reduceIte] <;> rfl)) ?_
        refine re_call en_70 rfl rfl rfl rfl rfl ?_
        refine Calls.mono (need_s (p := p.next) H hn) ?_
        rintro e w ⟨rfl, H⟩
        refine ⟨_, rfl, (fun _ => ⟨fun _ => still_load H sh_28 (by first | exact rdAt_all rfl | (simp only [rdAt, PS.cells, PS.over, GM.cells, Cmd.cells, List.cons_append, List.nil_append, List.drop_succ_cons, List.drop_zero, List.take_succ_cons, List.take_zero, List.length_cons, List.length_nil, Nat.zero_add, Nat.reduceAdd, Nat.reduceLeDiff, Nat.le_refl, ↓reduceIte] <;> rfl)), fun _ => still_load H sh_31 rfl, trivial⟩), ?_⟩
        refine re_call en_69 rfl rfl rfl rfl rfl ?_
        refine Calls.mono (tnewM (H.rsees p.ga) H hn) ?_
        rintro e w ⟨qt, qa, qc, qm, rfl, H⟩
        rw [hu] at H
        have H := H.front 4
        have H := H.front 4
        simp only [arrs, Fw.front, zm1, zm2, zm3, zm4, zm5] at H
        refine ⟨_, rfl, (fun _ => ⟨fun _ => still_load H sh_28 (by first | exact rdAt_all rfl | (simp only [rdAt, PS.cells, PS.over, GM.cells, Cmd.cells, List.cons_append, List.nil_append, List.drop_succ_cons, List.drop_zero, List.take_succ_cons, List.take_zero, List.length_cons, List.length_nil, Nat.zero_add, Nat.reduceAdd, Nat.reduceLeDiff, Nat.le_refl, ↓reduceIte] <;> rfl)), ancs (i := 7) (j := 4) rfl, trivial⟩), ?_⟩
        refine re_build rfl rfl rfl rfl rfl ze_137 pl_137 (by simp only [fillL, setMany, Value.cells, List.getElem?_cons_zero, List.getElem?_cons_succ, List.length_cons, List.length_nil, List.set_cons_zero, List.set_cons_succ, Nat.reduceAdd, Nat.reduceLeDiff, Nat.zero_add, and_self, ↓reduceIte]; rfl) ?_
        refine re_iface rfl rfl rfl rfl rfl nif_137 ?_
        refine re_call en_68 rfl rfl rfl rfl rfl ?_
        refine Calls.mono (enterA (p := p.next) (q := qt) (cm := p.mine) H hn hu) ?_
        rintro e w ⟨ht, ha, hc, hm, a, c, rfl, H⟩
        refine ⟨_, rfl, (fun _ => ⟨ancs (i := 11) (j := 8) rfl, ancs (i := 11) (j := 4) rfl, trivial⟩), ?_⟩
        refine re_assign rfl rfl rfl rfl rfl ?_
        refine re_nil ?_
        refine qe_noPanic ?_
        refine qe_thenC ?_
        refine ce_ret ?_
        refine qe_endM rfl rfl H (i := 10) rfl ?_
        intro w H
        simp only [List.set_cons_zero, List.set_cons_succ] at H
        rw [hch]
        refine ⟨ht, ha, hc, hm, qt, qa, qc, qm, a, c, rfl, ?_⟩
        exact H.sub (.cons_cons _ (.cons_cons _ (.cons_cons _ (.cons_cons _ (.cons_cons _ (.cons_cons _ (.cons_cons _ (.cons_cons _ (.cons_cons _ (.cons _ (.cons _ (List.Sublist.refl _))))))))))))
end Go.Proofs.Ytofaoblfemfkiaa

namespace Go.Proofs.Ytofaoblfemfkiaa
open Go Go.RowKit Go.Fw
set_option linter.unusedSimpArgs false
set_option linter.unusedVariables false
set_option maxRecDepth 4000
set_option maxHeartbeats 2000000
theorem en_44 : Enterable Try.prog 44 := ⟨Try.f44, Try.func44, rfl, by decide⟩
theorem en_48 : Enterable Try.prog 48 := ⟨Try.f48, Try.func48, rfl, by decide⟩
theorem en_73 : Enterable Try.prog 73 := ⟨Try.f73, Try.func73, rfl, by decide⟩
theorem en_74 : Enterable Try.prog 74 := ⟨Try.f74, Try.func74, rfl, by decide⟩
theorem fk_38 : flatK Try.prog 9 38 = some [.i, .i] := by kernel_rfl
theorem fo_131_0 : fOff Try.prog 131 0 = some 0 := by kernel_rfl
theorem fo_137_0 : fOff Try.prog 137 0 = some 0 := by kernel_rfl
theorem fo_46_0 : fOff Try.prog 46 0 = some 0 := by kernel_rfl
theorem fo_46_6 : fOff Try.prog 46 6 = some 11 := by kernel_rfl
theorem ng_38 : notGuarded Try.prog 38 = true := by kernel_rfl
theorem sh_128 : shapeOf Try.prog 128 = some (false, 1) := by kernel_rfl
theorem sh_131 : shapeOf Try.prog 131 = some (true, 1) := by kernel_rfl
theorem sh_137 : shapeOf Try.prog 137 = some (true, 10) := by kernel_rfl
theorem zv_131 : zeroV Try.prog 131 = some (.agg #[.pointer none]) := by kernel_rfl

/-- Is the stamp the proposer's? -/
def PS.own (p : PS) (m : GM) : Bool := decide (m.s0 = p.bal) && (decide (m.s1 = p.cl) && true)
def PS.needs (p : PS) : Int := (p.gs.length : Int) / 2 + 1
def PS.counts (p : PS) (ms : List (Int × GM)) (v : Int) : Bool := Ytofaoblfemfkiaa.counts p.gs ((p.gs.length : Int) / 2 + 1) (kvM ms) v
def PS.took (p : PS) (ms : List (Int × GM)) (v : Int) (m : GM) : List (Int × GM) := if p.counts ms v then ms ++ [(v, m)] else ms
def PS.takes (p : PS) (ms : List (Int × GM)) (v : Int) (m : GM) : Bool := Ytofaoblfemfkiaa.takes p.gs ((p.gs.length : Int) / 2 + 1) (kvM ms) v (.agg m.cells.toArray)
theorem took_eq (p : PS) (ms : List (Int × GM)) (v : Int) (m : GM) : takeK p.gs ((p.gs.length : Int) / 2 + 1) (kvM ms) v (.agg m.cells.toArray) = kvM (p.took ms v m) := by
  unfold takeK PS.took PS.counts
  split
  · simp [kvM]
  · rfl
def GM.learned (c : Cmd) : GM := { GM.zero with kind := 5, cmd := c }
def PS.outL (p : PS) (c : Cmd) (xs : List Int) : List GM := xs.map ((GM.learned c).sent p)
def PS.heard (p : PS) (t : Nat) : PS := { p with hd := .pointer (some ⟨t, 0, none⟩) }

theorem count_foreign {B w : World} {F : List Ent} {g : Nat} {p : PS} {m : GM} (H : Own B (.cells g 80 p.cells :: F) w) (hn : p.gs.length ≤ 1000000) (hst : p.own m = false) :
    Calls Try.prog 49 #[.pointer (some ⟨g, 0, none⟩), .agg m.cells.toArray] w fun e w' => e = .returned (slv none 0 0) ∧ Own B (.cells g 80 p.cells :: F) w' := by
  refine calls_ce (args := [.pointer (some ⟨g, 0, none⟩), .agg m.cells.toArray]) Try.func49 rfl rfl ?_
  change CE _ _ 73 _ _ [(0, .pointer (some ⟨g, 0, none⟩)), (1, .agg m.cells.toArray)] _
  refine ce_seq ?_
  refine ce_text (tab := []) (soft := 2) (.op 0 (.op 1 .nil)) rfl rfl ?_
  refine re_box H rfl rfl rfl rfl rfl rfl ?_
  intro g3 w H
  refine ⟨(fun h => (nomatch h)), ?_⟩
  refine re_assign rfl rfl rfl rfl rfl ?_
  refine re_nil ?_
  refine qe_thenC ?_
  refine ce_seq ?_
  refine ce_seq ?_
  refine ce_open (tab := [0, 1, 0, 4, 15]) (soft := 23) mixed (.op 0 (.op 1 (.op 2 (.op 3 (.op 4 .nil))))) (by kernel_rfl) H ?_
  intro w H
  first | refine re_field0 rfl rfl rfl rfl rfl fo_46_6 ?_ | refine re_field rfl rfl rfl rfl rfl fo_46_6 ?_ | refine re_fieldA rfl rfl rfl rfl rfl fo_46_6 ?_
  refine re_load H rfl rfl rfl rfl rfl sh_38 (by first | exact rdAt_all rfl | (simp only [rdAt, PS.cells, PS.over, GM.cells, Cmd.cells, List.cons_append, List.nil_append, List.drop_succ_cons, List.drop_zero, List.take_succ_cons, List.take_zero, List.length_cons, List.length_nil, Nat.zero_add, Nat.reduceAdd, Nat.reduceLeDiff, Nat.le_refl, ↓reduceIte] <;> rfl)) ?_
  refine re_move rfl rfl rfl rfl rfl ?_
  refine re_call en_72 rfl rfl rfl rfl rfl ?_
  have H := H.front 1
  simp only [arrs, Fw.front, zm1, zm2, zm3, zm4, zm5] at H
  refine Calls.mono (stamp_s H) ?_
  rintro e w ⟨rfl, H⟩
  refine ⟨_, rfl, (fun _ => ⟨fun _ => still_load H sh_38 (by first | exact rdAt_all rfl | (simp only [rdAt, PS.cells, PS.over, GM.cells, Cmd.cells, List.cons_append, List.nil_append, List.drop_succ_cons, List.drop_zero, List.take_succ_cons, List.take_zero, List.length_cons, List.length_nil, Nat.zero_add, Nat.reduceAdd, Nat.reduceLeDiff, Nat.le_refl, ↓reduceIte] <;> rfl)), trivial⟩), ?_⟩
  refine re_neAgg rfl rfl rfl rfl rfl rfl fk_38 sh_38 ng_38 (by simp only [eqKs, eqK, ↓reduceIte]; rfl) ?_
  refine re_nil ?_
  refine qe_noPanic ?_
  refine qe_thenC ?_
  refine ce_cond rfl (fun h0 => ?_) (fun h0 => ?_)
  · try simp only [zn1, zn2, zn3, zn4, zn5, zn6] at h0
    refine ce_seq ?_
    refine ce_text (tab := []) (soft := 1) (.op 0 .nil) rfl rfl ?_
    refine re_assign rfl rfl rfl rfl rfl ?_
    refine re_nil ?_
    refine qe_thenC ?_
    refine ce_ret ?_
    refine qe_then_ret ?_
    refine qe_end rfl rfl ?_
    exact ⟨rfl, H.sub (.cons_cons _ (.cons _ (List.Sublist.refl _)))⟩
  · try simp only [zn1, zn2, zn3, zn4, zn5, zn6] at h0
    exact absurd ((show p.own m = true from h0).symm.trans hst) (by simp)

theorem count_otherP {B w : World} {F : List Ent} {g : Nat} {p : PS} {m : GM} {q : Nat} (H : Own B (.cells g 80 p.cells :: F) w) (hn : p.gs.length ≤ 1000000) (hi : p.ph = phP q) (hkd : m.kind ≠ 13) (hst : p.own m = true) :
    Calls Try.prog 49 #[.pointer (some ⟨g, 0, none⟩), .agg m.cells.toArray] w fun e w' => e = .returned (slv none 0 0) ∧ Own B (.cells g 80 p.cells :: F) w' := by
  refine calls_ce (args := [.pointer (some ⟨g, 0, none⟩), .agg m.cells.toArray]) Try.func49 rfl rfl ?_
  change CE _ _ 73 _ _ [(0, .pointer (some ⟨g, 0, none⟩)), (1, .agg m.cells.toArray)] _
  refine ce_seq ?_
  refine ce_text (tab := []) (soft := 2) (.op 0 (.op 1 .nil)) rfl rfl ?_
  refine re_box H rfl rfl rfl rfl rfl rfl ?_
  intro g3 w H
  refine ⟨(fun h => (nomatch h)), ?_⟩
  refine re_assign rfl rfl rfl rfl rfl ?_
  refine re_nil ?_
  refine qe_thenC ?_
  refine ce_seq ?_
  refine ce_seq ?_
  refine ce_open (tab := [0, 1, 0, 4, 15]) (soft := 23) mixed (.op 0 (.op 1 (.op 2 (.op 3 (.op 4 .nil))))) (by kernel_rfl) H ?_
  intro w H
  first | refine re_field0 rfl rfl rfl rfl rfl fo_46_6 ?_ | refine re_field rfl rfl rfl rfl rfl fo_46_6 ?_ | refine re_fieldA rfl rfl rfl rfl rfl fo_46_6 ?_
  refine re_load H rfl rfl rfl rfl rfl sh_38 (by first | exact rdAt_all rfl | (simp only [rdAt, PS.cells, PS.over, GM.cells, Cmd.cells, List.cons_append, List.nil_append, List.drop_succ_cons, List.drop_zero, List.take_succ_cons, List.take_zero, List.length_cons, List.length_nil, Nat.zero_add, Nat.reduceAdd, Nat.reduceLeDiff, Nat.le_refl, ↓reduceIte] <;> rfl)) ?_
  refine re_move rfl rfl rfl rfl rfl ?_
  refine re_call en_72 rfl rfl rfl rfl rfl ?_
  have H := H.front 1
  simp only [arrs, Fw.front, zm1, zm2, zm3, zm4, zm5] at H
  refine Calls.mono (stamp_s H) ?_
  rintro e w ⟨rfl, H⟩
  refine ⟨_, rfl, (fun _ => ⟨fun _ => still_load H sh_38 (by first | exact rdAt_all rfl | (simp only [rdAt, PS.cells, PS.over, GM.cells, Cmd.cells, List.cons_append, List.nil_append, List.drop_succ_cons, List.drop_zero, List.take_succ_cons, List.take_zero, List.length_cons, List.length_nil, Nat.zero_add, Nat.reduceAdd, Nat.reduceLeDiff, Nat.le_refl, ↓reduceIte] <;> rfl)), trivial⟩), ?_⟩
  refine re_neAgg rfl rfl rfl rfl rfl rfl fk_38 sh_38 ng_38 (by simp only [eqKs, eqK, ↓reduceIte]; rfl) ?_
  refine re_nil ?_
  refine qe_noPanic ?_
  refine qe_thenC ?_
  refine ce_cond rfl (fun h0 => ?_) (fun h0 => ?_)
  · try simp only [zn1, zn2, zn3, zn4, zn5, zn6] at h0
    exact absurd ((show p.own m = false from h0).symm.trans hst) (by simp)
  · try simp only [zn1, zn2, zn3, zn4, zn5, zn6] at h0
    refine ce_skip ?_
    refine qe_thenC ?_
    refine ce_seq ?_
    refine ce_seq ?_
    refine ce_text (tab := []) (soft := 15) (.op 0 (.op 1 (.op 2 (.op 3 .nil)))) rfl rfl ?_
    refine re_move rfl rfl rfl rfl rfl ?_
    refine re_nilc rfl rfl rfl rfl rfl ?_
    first | refine re_field0 rfl rfl rfl rfl rfl fo_80_10 ?_ | refine re_field rfl rfl rfl rfl rfl fo_80_10 ?_ | refine re_fieldA rfl rfl rfl rfl rfl fo_80_10 ?_
    refine re_load H rfl rfl rfl rfl rfl sh_76 rfl ?_
    refine re_nil ?_
    refine qe_thenC ?_
    refine ce_block ?_
    refine ce_seq ?_
    refine ce_text (tab := []) (soft := 7) (.op 0 (.op 1 (.op 2 .nil))) rfl rfl ?_
    simp only [hi]
    refine re_isT rfl rfl rfl rfl rfl nif_131 ?_
    refine re_extract rfl rfl rfl rfl rfl rfl ?_
    refine re_extract rfl rfl rfl rfl rfl rfl ?_
    refine re_nil ?_
    refine qe_thenC ?_
    refine ce_condT rfl ?_
    refine ce_seq ?_
    refine ce_text (tab := []) (soft := 0) (.op 0 (.op 1 .nil)) rfl rfl ?_
    refine re_alloc H rfl rfl rfl rfl ze_131 ?_
    intro g5 w H
    refine ⟨(fun h => (nomatch h)), ?_⟩
    refine re_store H rfl rfl rfl rfl rfl rfl sh_131 rfl rfl rfl ?_
    intro cs w hcs H
    first | rw [setMany_whole rfl] at hcs | simp only [setMany, List.set_cons_zero, List.set_cons_succ, Nat.reduceAdd, Nat.zero_add, PS.cells, PS.over, GM.cells, Cmd.cells, List.cons_append, List.nil_append] at hcs
    subst hcs
    refine ⟨(fun h => (nomatch h)), ?_⟩
    refine re_nil ?_
    refine qe_thenC ?_
    refine ce_seq ?_
    refine ce_text (tab := []) (soft := 98239) (.op 0 (.op 1 (.op 2 (.op 3 (.op 4 (.op 5 (.op 6 (.op 7 (.op 8 (.op 9 (.op 10 (.op 11 (.op 12 (.op 13 (.op 14 (.op 15 (.op 16 .nil))))))))))))))))) rfl rfl ?_
    first | refine re_field0 rfl rfl rfl rfl rfl fo_46_0 ?_ | refine re_field rfl rfl rfl rfl rfl fo_46_0 ?_ | refine re_fieldA rfl rfl rfl rfl rfl fo_46_0 ?_
    refine re_load H rfl rfl rfl rfl rfl sh_3 rfl ?_
    refine re_bin rfl rfl rfl rfl rfl rfl rfl ?_
    have hk : decide (m.kind = 13) = false := by simp [hkd]
    simp only [hk]
    refine re_move rfl rfl rfl rfl rfl ?_
    refine re_skip1 rfl rfl rfl ?_
    refine re_skip1 rfl rfl rfl ?_
    refine re_skip1 rfl rfl rfl ?_
    refine re_pickF rfl rfl rfl rfl rfl rfl ?_
    refine re_move rfl rfl rfl rfl rfl ?_
    refine re_skip1 rfl rfl rfl ?_
    refine re_skip1 rfl rfl rfl ?_
    refine re_skip1 rfl rfl rfl ?_
    refine re_skip1 rfl rfl rfl ?_
    refine re_skip1 rfl rfl rfl ?_
    refine re_skip1 rfl rfl rfl ?_
    refine re_skip1 rfl rfl rfl ?_
    refine re_pickF rfl rfl rfl rfl rfl rfl ?_
    refine re_nil ?_
    refine qe_thenC ?_
    refine ce_condF rfl ?_
    refine ce_skip ?_
    refine qe_block_norm ?_
    refine qe_thenC ?_
    refine ce_seq ?_
    refine ce_text (tab := []) (soft := 1) (.op 0 .nil) rfl rfl ?_
    refine re_assign rfl rfl rfl rfl rfl ?_
    refine re_nil ?_
    refine qe_thenC ?_
    refine ce_ret ?_
    refine qe_end rfl rfl ?_
    exact ⟨rfl, H.tail.sub (.cons_cons _ (.cons _ (List.Sublist.refl _)))⟩

theorem count_otherA {B w : World} {F : List Ent} {g : Nat} {p : PS} {m : GM} {q : Nat} {cm : Cmd} (H : Own B (.cells g 80 p.cells :: F) w) (hn : p.gs.length ≤ 1000000) (hi : p.ph = phA q cm) (hkd : m.kind ≠ 15) (hst : p.own m = true) :
    Calls Try.prog 49 #[.pointer (some ⟨g, 0, none⟩), .agg m.cells.toArray] w fun e w' => e = .returned (slv none 0 0) ∧ Own B (.cells g 80 p.cells :: F) w' := by
  refine calls_ce (args := [.pointer (some ⟨g, 0, none⟩), .agg m.cells.toArray]) Try.func49 rfl rfl ?_
  change CE _ _ 73 _ _ [(0, .pointer (some ⟨g, 0, none⟩)), (1, .agg m.cells.toArray)] _
  refine ce_seq ?_
  refine ce_text (tab := []) (soft := 2) (.op 0 (.op 1 .nil)) rfl rfl ?_
  refine re_box H rfl rfl rfl rfl rfl rfl ?_
  intro g3 w H
  refine ⟨(fun h => (nomatch h)), ?_⟩
  refine re_assign rfl rfl rfl rfl rfl ?_
  refine re_nil ?_
  refine qe_thenC ?_
  refine ce_seq ?_
  refine ce_seq ?_
  refine ce_open (tab := [0, 1, 0, 4, 15]) (soft := 23) mixed (.op 0 (.op 1 (.op 2 (.op 3 (.op 4 .nil))))) (by kernel_rfl) H ?_
  intro w H
  first | refine re_field0 rfl rfl rfl rfl rfl fo_46_6 ?_ | refine re_field rfl rfl rfl rfl rfl fo_46_6 ?_ | refine re_fieldA rfl rfl rfl rfl rfl fo_46_6 ?_
  refine re_load H rfl rfl rfl rfl rfl sh_38 (by first | exact rdAt_all rfl | (simp only [rdAt, PS.cells, PS.over, GM.cells, Cmd.cells, List.cons_append, List.nil_append, List.drop_succ_cons, List.drop_zero, List.take_succ_cons, List.take_zero, List.length_cons, List.length_nil, Nat.zero_add, Nat.reduceAdd, Nat.reduceLeDiff, Nat.le_refl, ↓reduceIte] <;> rfl)) ?_
  refine re_move rfl rfl rfl rfl rfl ?_
  refine re_call en_72 rfl rfl rfl rfl rfl ?_
  have H := H.front 1
  simp only [arrs, Fw.front, zm1, zm2, zm3, zm4, zm5] at H
  refine Calls.mono (stamp_s H) ?_
  rintro e w ⟨rfl, H⟩
  refine ⟨_, rfl, (fun _ => ⟨fun _ => still_load H sh_38 (by first | exact rdAt_all rfl | (simp only [rdAt, PS.cells, PS.over, GM.cells, Cmd.cells, List.cons_append, List.nil_append, List.drop_succ_cons, List.drop_zero, List.take_succ_cons, List.take_zero, List.length_cons, List.length_nil, Nat.zero_add, Nat.reduceAdd, Nat.reduceLeDiff, Nat.le_refl, ↓reduceIte] <;> rfl)), trivial⟩), ?_⟩
  refine re_neAgg rfl rfl rfl rfl rfl rfl fk_38 sh_38 ng_38 (by simp only [eqKs, eqK, ↓reduceIte]; rfl) ?_
  refine re_nil ?_
  refine qe_noPanic ?_
  refine qe_thenC ?_
  refine ce_cond rfl (fun h0 => ?_) (fun h0 => ?_)
  · try simp only [zn1, zn2, zn3, zn4, zn5, zn6] at h0
    exact absurd ((show p.own m = false from h0).symm.trans hst) (by simp)
  · try simp only [zn1, zn2, zn3, zn4, zn5, zn6] at h0
    refine ce_skip ?_
    refine qe_thenC ?_
    refine ce_seq ?_
    refine ce_seq ?_
    refine ce_text (tab := []) (soft := 15) (.op 0 (.op 1 (.op 2 (.op 3 .nil)))) rfl rfl ?_
    refine re_move rfl rfl rfl rfl rfl ?_
    refine re_nilc rfl rfl rfl rfl rfl ?_
    first | refine re_field0 rfl rfl rfl rfl rfl fo_80_10 ?_ | refine re_field rfl rfl rfl rfl rfl fo_80_10 ?_ | refine re_fieldA rfl rfl rfl rfl rfl fo_80_10 ?_
    refine re_load H rfl rfl rfl rfl rfl sh_76 rfl ?_
    refine re_nil ?_
    refine qe_thenC ?_
    refine ce_block ?_
    refine ce_seq ?_
    refine ce_text (tab := []) (soft := 7) (.op 0 (.op 1 (.op 2 .nil))) rfl rfl ?_
    simp only [hi]
    refine re_isNotT rfl rfl rfl rfl rfl nif_131 rfl zv_131 ?_
    refine re_extract rfl rfl rfl rfl rfl rfl ?_
    refine re_extract rfl rfl rfl rfl rfl rfl ?_
    refine re_nil ?_
    refine qe_thenC ?_
    refine ce_condF rfl ?_
    refine ce_seq ?_
    refine ce_text (tab := []) (soft := 7) (.op 0 (.op 1 (.op 2 .nil))) rfl rfl ?_
    refine re_isT rfl rfl rfl rfl rfl nif_137 ?_
    refine re_extract rfl rfl rfl rfl rfl rfl ?_
    refine re_extract rfl rfl rfl rfl rfl rfl ?_
    refine re_nil ?_
    refine qe_thenC ?_
    refine ce_condT rfl ?_
    refine ce_seq ?_
    refine ce_text (tab := []) (soft := 0) (.op 0 (.op 1 .nil)) rfl rfl ?_
    refine re_alloc H rfl rfl rfl rfl ze_137 ?_
    intro g6 w H
    refine ⟨(fun h => (nomatch h)), ?_⟩
    refine re_store H rfl rfl rfl rfl rfl rfl sh_137 rfl rfl rfl ?_
    intro cs w hcs H
    first | rw [setMany_whole rfl] at hcs | simp only [setMany, List.set_cons_zero, List.set_cons_succ, Nat.reduceAdd, Nat.zero_add, PS.cells, PS.over, GM.cells, Cmd.cells, List.cons_append, List.nil_append] at hcs
    subst hcs
    refine ⟨(fun h => (nomatch h)), ?_⟩
    refine re_nil ?_
    refine qe_thenC ?_
    refine ce_seq ?_
    refine ce_text (tab := []) (soft := 98239) (.op 0 (.op 1 (.op 2 (.op 3 (.op 4 (.op 5 (.op 6 (.op 7 (.op 8 (.op 9 (.op 10 (.op 11 (.op 12 (.op 13 (.op 14 (.op 15 (.op 16 .nil))))))))))))))))) rfl rfl ?_
    first | refine re_field0 rfl rfl rfl rfl rfl fo_46_0 ?_ | refine re_field rfl rfl rfl rfl rfl fo_46_0 ?_ | refine re_fieldA rfl rfl rfl rfl rfl fo_46_0 ?_
    refine re_load H rfl rfl rfl rfl rfl sh_3 rfl ?_
    refine re_bin rfl rfl rfl rfl rfl rfl rfl ?_
    have hk : decide (m.kind = 15) = false := by simp [hkd]
    simp only [hk]
    refine re_move rfl rfl rfl rfl rfl ?_
    refine re_skip1 rfl rfl rfl ?_
    refine re_skip1 rfl rfl rfl ?_
    refine re_skip1 rfl rfl rfl ?_
    refine re_pickF rfl rfl rfl rfl rfl rfl ?_
    refine re_move rfl rfl rfl rfl rfl ?_
    refine re_skip1 rfl rfl rfl ?_
    refine re_skip1 rfl rfl rfl ?_
    refine re_skip1 rfl rfl rfl ?_
    refine re_skip1 rfl rfl rfl ?_
    refine re_skip1 rfl rfl rfl ?_
    refine re_skip1 rfl rfl rfl ?_
    refine re_skip1 rfl rfl rfl ?_
    refine re_pickF rfl rfl rfl rfl rfl rfl ?_
    refine re_nil ?_
    refine qe_thenC ?_
    refine ce_condF rfl ?_
    refine ce_skip ?_
    refine qe_block_norm ?_
    refine qe_thenC ?_
    refine ce_seq ?_
    refine ce_text (tab := []) (soft := 1) (.op 0 .nil) rfl rfl ?_
    refine re_assign rfl rfl rfl rfl rfl ?_
    refine re_nil ?_
    refine qe_thenC ?_
    refine ce_ret ?_
    refine qe_end rfl rfl ?_
    exact ⟨rfl, H.tail.sub (.cons_cons _ (.cons _ (List.Sublist.refl _)))⟩

theorem count_staleP {B w : World} {F : List Ent} {g : Nat} {p : PS} {m : GM} {ht hm hc : Nat} {ha : Option Nat} {hs : List Int} {qt qm qc : Nat} {qa : Option Nat} {ms : List (Int × GM)} (H : Own B (.cells g 80 p.cells :: .row p.ga p.gc 3 1 p.gs.length (ints p.gs) :: .cells ht 109 [slv ha p.gs.length hc, .int .i64 ((p.gs.length : Int) + 1), .map (some hm)] :: .row ha hc 3 1 p.gs.length (ints p.gs) :: .imap hm (heardK hs) :: .cells qt 145 [slv qa p.gs.length qc, .int .i64 ((p.gs.length : Int) / 2 + 1), .map (some qm)] :: .row qa qc 3 1 p.gs.length (ints p.gs) :: .imap qm (kvM ms) :: F) w) (hn : p.gs.length ≤ 1000000) (hi : p.ph = phP qt) (hkd : m.kind = 13) (hst : p.own m = true) (hh : p.hd = .pointer (some ⟨ht, 0, none⟩)) (hl : hs.length ≤ p.gs.length) (hf : p.fresh hs m.fi = false) :
    Calls Try.prog 49 #[.pointer (some ⟨g, 0, none⟩), .agg m.cells.toArray] w fun e w' => e = .returned (slv none 0 0) ∧ Own B (.cells g 80 p.cells :: .row p.ga p.gc 3 1 p.gs.length (ints p.gs) :: .cells ht 109 [slv ha p.gs.length hc, .int .i64 ((p.gs.length : Int) + 1), .map (some hm)] :: .row ha hc 3 1 p.gs.length (ints p.gs) :: .imap hm (heardK hs) :: .cells qt 145 [slv qa p.gs.length qc, .int .i64 ((p.gs.length : Int) / 2 + 1), .map (some qm)] :: .row qa qc 3 1 p.gs.length (ints p.gs) :: .imap qm (kvM ms) :: F) w' := by
  refine calls_ce (args := [.pointer (some ⟨g, 0, none⟩), .agg m.cells.toArray]) Try.func49 rfl rfl ?_
  change CE _ _ 73 _ _ [(0, .pointer (some ⟨g, 0, none⟩)), (1, .agg m.cells.toArray)] _
  refine ce_seq ?_
  refine ce_text (tab := []) (soft := 2) (.op 0 (.op 1 .nil)) rfl rfl ?_
  refine re_box H rfl rfl rfl rfl rfl rfl ?_
  intro g3 w H
  refine ⟨(fun h => (nomatch h)), ?_⟩
  refine re_assign rfl rfl rfl rfl rfl ?_
  refine re_nil ?_
  refine qe_thenC ?_
  refine ce_seq ?_
  refine ce_seq ?_
  refine ce_open (tab := [0, 1, 0, 4, 15]) (soft := 23) mixed (.op 0 (.op 1 (.op 2 (.op 3 (.op 4 .nil))))) (by kernel_rfl) H ?_
  intro w H
  first | refine re_field0 rfl rfl rfl rfl rfl fo_46_6 ?_ | refine re_field rfl rfl rfl rfl rfl fo_46_6 ?_ | refine re_fieldA rfl rfl rfl rfl rfl fo_46_6 ?_
  refine re_load H rfl rfl rfl rfl rfl sh_38 (by first | exact rdAt_all rfl | (simp only [rdAt, PS.cells, PS.over, GM.cells, Cmd.cells, List.cons_append, List.nil_append, List.drop_succ_cons, List.drop_zero, List.take_succ_cons, List.take_zero, List.length_cons, List.length_nil, Nat.zero_add, Nat.reduceAdd, Nat.reduceLeDiff, Nat.le_refl, ↓reduceIte] <;> rfl)) ?_
  refine re_move rfl rfl rfl rfl rfl ?_
  refine re_call en_72 rfl rfl rfl rfl rfl ?_
  have H := H.front 1
  simp only [arrs, Fw.front, zm1, zm2, zm3, zm4, zm5] at H
  refine Calls.mono (stamp_s H) ?_
  rintro e w ⟨rfl, H⟩
  refine ⟨_, rfl, (fun _ => ⟨fun _ => still_load H sh_38 (by first | exact rdAt_all rfl | (simp only [rdAt, PS.cells, PS.over, GM.cells, Cmd.cells, List.cons_append, List.nil_append, List.drop_succ_cons, List.drop_zero, List.take_succ_cons, List.take_zero, List.length_cons, List.length_nil, Nat.zero_add, Nat.reduceAdd, Nat.reduceLeDiff, Nat.le_refl, ↓reduceIte] <;> rfl)), trivial⟩), ?_⟩
  refine re_neAgg rfl rfl rfl rfl rfl rfl fk_38 sh_38 ng_38 (by simp only [eqKs, eqK, ↓reduceIte]; rfl) ?_
  refine re_nil ?_
  refine qe_noPanic ?_
  refine qe_thenC ?_
  refine ce_cond rfl (fun h0 => ?_) (fun h0 => ?_)
  · try simp only [zn1, zn2, zn3, zn4, zn5, zn6] at h0
    exact absurd ((show p.own m = false from h0).symm.trans hst) (by simp)
  · try simp only [zn1, zn2, zn3, zn4, zn5, zn6] at h0
    refine ce_skip ?_
    refine qe_thenC ?_
    refine ce_seq ?_
    refine ce_seq ?_
    refine ce_text (tab := []) (soft := 15) (.op 0 (.op 1 (.op 2 (.op 3 .nil)))) rfl rfl ?_
    refine re_move rfl rfl rfl rfl rfl ?_
    refine re_nilc rfl rfl rfl rfl rfl ?_
    first | refine re_field0 rfl rfl rfl rfl rfl fo_80_10 ?_ | refine re_field rfl rfl rfl rfl rfl fo_80_10 ?_ | refine re_fieldA rfl rfl rfl rfl rfl fo_80_10 ?_
    refine re_load H rfl rfl rfl rfl rfl sh_76 rfl ?_
    refine re_nil ?_
    refine qe_thenC ?_
    refine ce_block ?_
    refine ce_seq ?_
    refine ce_text (tab := []) (soft := 7) (.op 0 (.op 1 (.op 2 .nil))) rfl rfl ?_
    simp only [hi]
    refine re_isT rfl rfl rfl rfl rfl nif_131 ?_
    refine re_extract rfl rfl rfl rfl rfl rfl ?_
    refine re_extract rfl rfl rfl rfl rfl rfl ?_
    refine re_nil ?_
    refine qe_thenC ?_
    refine ce_condT rfl ?_
    refine ce_seq ?_
    refine ce_text (tab := []) (soft := 0) (.op 0 (.op 1 .nil)) rfl rfl ?_
    refine re_alloc H rfl rfl rfl rfl ze_131 ?_
    intro g5 w H
    refine ⟨(fun h => (nomatch h)), ?_⟩
    refine re_store H rfl rfl rfl rfl rfl rfl sh_131 rfl rfl rfl ?_
    intro cs w hcs H
    first | rw [setMany_whole rfl] at hcs | simp only [setMany, List.set_cons_zero, List.set_cons_succ, Nat.reduceAdd, Nat.zero_add, PS.cells, PS.over, GM.cells, Cmd.cells, List.cons_append, List.nil_append] at hcs
    subst hcs
    refine ⟨(fun h => (nomatch h)), ?_⟩
    refine re_nil ?_
    refine qe_thenC ?_
    refine ce_seq ?_
    refine ce_text (tab := []) (soft := 98239) (.op 0 (.op 1 (.op 2 (.op 3 (.op 4 (.op 5 (.op 6 (.op 7 (.op 8 (.op 9 (.op 10 (.op 11 (.op 12 (.op 13 (.op 14 (.op 15 (.op 16 .nil))))))))))))))))) rfl rfl ?_
    first | refine re_field0 rfl rfl rfl rfl rfl fo_46_0 ?_ | refine re_field rfl rfl rfl rfl rfl fo_46_0 ?_ | refine re_fieldA rfl rfl rfl rfl rfl fo_46_0 ?_
    refine re_load H rfl rfl rfl rfl rfl sh_3 rfl ?_
    refine re_bin rfl rfl rfl rfl rfl rfl rfl ?_
    have hk : decide (m.kind = 13) = true := by simp [hkd]
    simp only [hk]
    refine re_move rfl rfl rfl rfl rfl ?_
    refine re_move rfl rfl rfl rfl rfl ?_
    refine re_load H rfl rfl rfl rfl rfl sh_46 (by first | exact rdAt_all rfl | (simp only [rdAt, PS.cells, PS.over, GM.cells, Cmd.cells, List.cons_append, List.nil_append, List.drop_succ_cons, List.drop_zero, List.take_succ_cons, List.take_zero, List.length_cons, List.length_nil, Nat.zero_add, Nat.reduceAdd, Nat.reduceLeDiff, Nat.le_refl, ↓reduceIte] <;> rfl)) ?_
    refine re_call en_48 rfl rfl rfl rfl rfl ?_
    have H := Own.arr [2, 1, 9, 9, 9, 6, 9, 9, 9, 9] H
    simp only [arrs, Fw.front, zm1, zm2, zm3, zm4, zm5] at H
    refine Calls.mono (fresh_s H hh hn hl) ?_
    rintro e w ⟨rfl, H⟩
    simp only [hf] at H ⊢
    refine ⟨_, rfl, (fun h => (nomatch h)), ?_⟩
    refine re_pickT rfl rfl rfl rfl rfl rfl ?_
    refine re_move rfl rfl rfl rfl rfl ?_
    refine re_skip1 rfl rfl rfl ?_
    refine re_skip1 rfl rfl rfl ?_
    refine re_skip1 rfl rfl rfl ?_
    refine re_skip1 rfl rfl rfl ?_
    refine re_skip1 rfl rfl rfl ?_
    refine re_skip1 rfl rfl rfl ?_
    refine re_skip1 rfl rfl rfl ?_
    refine re_pickF rfl rfl rfl rfl rfl rfl ?_
    refine re_nil ?_
    refine qe_thenC ?_
    refine ce_condF rfl ?_
    refine ce_skip ?_
    refine qe_block_norm ?_
    refine qe_thenC ?_
    refine ce_seq ?_
    refine ce_text (tab := []) (soft := 1) (.op 0 .nil) rfl rfl ?_
    refine re_assign rfl rfl rfl rfl rfl ?_
    refine re_nil ?_
    refine qe_thenC ?_
    refine ce_ret ?_
    refine qe_end rfl rfl ?_
    simp only [Bool.false_eq_true, if_false] at H
    have H := Own.arr [7, 7, 7, 6, 6, 6, 7, 7] H
    simp only [arrs, Fw.front, zm1, zm2, zm3, zm4, zm5] at H
    replace H := H.sub (.cons_cons _ (.cons_cons _ (.cons_cons _ (.cons_cons _ (.cons_cons _ (.cons_cons _ (.cons_cons _ (.cons_cons _ (.cons _ (.cons _ (List.Sublist.refl _)))))))))))
    exact ⟨rfl, H⟩

theorem count_fewP {B w : World} {F : List Ent} {g : Nat} {p : PS} {m : GM} {ht hm hc : Nat} {ha : Option Nat} {hs : List Int} {qt qm qc : Nat} {qa : Option Nat} {ms : List (Int × GM)} (H : Own B (.cells g 80 p.cells :: .row p.ga p.gc 3 1 p.gs.length (ints p.gs) :: .cells ht 109 [slv ha p.gs.length hc, .int .i64 ((p.gs.length : Int) + 1), .map (some hm)] :: .row ha hc 3 1 p.gs.length (ints p.gs) :: .imap hm (heardK hs) :: .cells qt 145 [slv qa p.gs.length qc, .int .i64 ((p.gs.length : Int) / 2 + 1), .map (some qm)] :: .row qa qc 3 1 p.gs.length (ints p.gs) :: .imap qm (kvM ms) :: F) w) (hn : p.gs.length ≤ 1000000) (hi : p.ph = phP qt) (hkd : m.kind = 13) (hst : p.own m = true) (hh : p.hd = .pointer (some ⟨ht, 0, none⟩)) (hl : hs.length ≤ p.gs.length) (hf : p.fresh hs m.fi = true) (hk2 : p.takes ms m.fi m = false) :
    Calls Try.prog 49 #[.pointer (some ⟨g, 0, none⟩), .agg m.cells.toArray] w fun e w' => e = .returned (slv none 0 0) ∧ Own B (.cells g 80 p.cells :: .row p.ga p.gc 3 1 p.gs.length (ints p.gs) :: .cells ht 109 [slv ha p.gs.length hc, .int .i64 ((p.gs.length : Int) + 1), .map (some hm)] :: .row ha hc 3 1 p.gs.length (ints p.gs) :: .imap hm (heardK (hs ++ [m.fi])) :: .cells qt 145 [slv qa p.gs.length qc, .int .i64 ((p.gs.length : Int) / 2 + 1), .map (some qm)] :: .row qa qc 3 1 p.gs.length (ints p.gs) :: .imap qm (kvM (p.took ms m.fi m)) :: F) w' := by
  refine calls_ce (args := [.pointer (some ⟨g, 0, none⟩), .agg m.cells.toArray]) Try.func49 rfl rfl ?_
  change CE _ _ 73 _ _ [(0, .pointer (some ⟨g, 0, none⟩)), (1, .agg m.cells.toArray)] _
  refine ce_seq ?_
  refine ce_text (tab := []) (soft := 2) (.op 0 (.op 1 .nil)) rfl rfl ?_
  refine re_box H rfl rfl rfl rfl rfl rfl ?_
  intro g3 w H
  refine ⟨(fun h => (nomatch h)), ?_⟩
  refine re_assign rfl rfl rfl rfl rfl ?_
  refine re_nil ?_
  refine qe_thenC ?_
  refine ce_seq ?_
  refine ce_seq ?_
  refine ce_open (tab := [0, 1, 0, 4, 15]) (soft := 23) mixed (.op 0 (.op 1 (.op 2 (.op 3 (.op 4 .nil))))) (by kernel_rfl) H ?_
  intro w H
  first | refine re_field0 rfl rfl rfl rfl rfl fo_46_6 ?_ | refine re_field rfl rfl rfl rfl rfl fo_46_6 ?_ | refine re_fieldA rfl rfl rfl rfl rfl fo_46_6 ?_
  refine re_load H rfl rfl rfl rfl rfl sh_38 (by first | exact rdAt_all rfl | (simp only [rdAt, PS.cells, PS.over, GM.cells, Cmd.cells, List.cons_append, List.nil_append, List.drop_succ_cons, List.drop_zero, List.take_succ_cons, List.take_zero, List.length_cons, List.length_nil, Nat.zero_add, Nat.reduceAdd, Nat.reduceLeDiff, Nat.le_refl, ↓reduceIte] <;> rfl)) ?_
  refine re_move rfl rfl rfl rfl rfl ?_
  refine re_call en_72 rfl rfl rfl rfl rfl ?_
  have H := H.front 1
  simp only [arrs, Fw.front, zm1, zm2, zm3, zm4, zm5] at H
  refine Calls.mono (stamp_s H) ?_
  rintro e w ⟨rfl, H⟩
  refine ⟨_, rfl, (fun _ => ⟨fun _ => still_load H sh_38 (by first | exact rdAt_all rfl | (simp only [rdAt, PS.cells, PS.over, GM.cells, Cmd.cells, List.cons_append, List.nil_append, List.drop_succ_cons, List.drop_zero, List.take_succ_cons, List.take_zero, List.length_cons, List.length_nil, Nat.zero_add, Nat.reduceAdd, Nat.reduceLeDiff, Nat.le_refl, ↓reduceIte] <;> rfl)), trivial⟩), ?_⟩
  refine re_neAgg rfl rfl rfl rfl rfl rfl fk_38 sh_38 ng_38 (by simp only [eqKs, eqK, ↓reduceIte]; rfl) ?_
  refine re_nil ?_
  refine qe_noPanic ?_
  refine qe_thenC ?_
  refine ce_cond rfl (fun h0 => ?_) (fun h0 => ?_)
  · try simp only [zn1, zn2, zn3, zn4, zn5, zn6] at h0
    exact absurd ((show p.own m = false from h0).symm.trans hst) (by simp)
  · try simp only [zn1, zn2, zn3, zn4, zn5, zn6] at h0
    refine ce_skip ?_
    refine qe_thenC ?_
    refine ce_seq ?_
    refine ce_seq ?_
    refine ce_text (tab := []) (soft := 15) (.op 0 (.op 1 (.op 2 (.op 3 .nil)))) rfl rfl ?_
    refine re_move rfl rfl rfl rfl rfl ?_
    refine re_nilc rfl rfl rfl rfl rfl ?_
    first | refine re_field0 rfl rfl rfl rfl rfl fo_80_10 ?_ | refine re_field rfl rfl rfl rfl rfl fo_80_10 ?_ | refine re_fieldA rfl rfl rfl rfl rfl fo_80_10 ?_
    refine re_load H rfl rfl rfl rfl rfl sh_76 rfl ?_
    refine re_nil ?_
    refine qe_thenC ?_
    refine ce_block ?_
    refine ce_seq ?_
    refine ce_text (tab := []) (soft := 7) (.op 0 (.op 1 (.op 2 .nil))) rfl rfl ?_
    simp only [hi]
    refine re_isT rfl rfl rfl rfl rfl nif_131 ?_
    refine re_extract rfl rfl rfl rfl rfl rfl ?_
    refine re_extract rfl rfl rfl rfl rfl rfl ?_
    refine re_nil ?_
    refine qe_thenC ?_
    refine ce_condT rfl ?_
    refine ce_seq ?_
    refine ce_text (tab := []) (soft := 0) (.op 0 (.op 1 .nil)) rfl rfl ?_
    refine re_alloc H rfl rfl rfl rfl ze_131 ?_
    intro g5 w H
    refine ⟨(fun h => (nomatch h)), ?_⟩
    refine re_store H rfl rfl rfl rfl rfl rfl sh_131 rfl rfl rfl ?_
    intro cs w hcs H
    first | rw [setMany_whole rfl] at hcs | simp only [setMany, List.set_cons_zero, List.set_cons_succ, Nat.reduceAdd, Nat.zero_add, PS.cells, PS.over, GM.cells, Cmd.cells, List.cons_append, List.nil_append] at hcs
    subst hcs
    refine ⟨(fun h => (nomatch h)), ?_⟩
    refine re_nil ?_
    refine qe_thenC ?_
    refine ce_seq ?_
    refine ce_text (tab := []) (soft := 98239) (.op 0 (.op 1 (.op 2 (.op 3 (.op 4 (.op 5 (.op 6 (.op 7 (.op 8 (.op 9 (.op 10 (.op 11 (.op 12 (.op 13 (.op 14 (.op 15 (.op 16 .nil))))))))))))))))) rfl rfl ?_
    first | refine re_field0 rfl rfl rfl rfl rfl fo_46_0 ?_ | refine re_field rfl rfl rfl rfl rfl fo_46_0 ?_ | refine re_fieldA rfl rfl rfl rfl rfl fo_46_0 ?_
    refine re_load H rfl rfl rfl rfl rfl sh_3 rfl ?_
    refine re_bin rfl rfl rfl rfl rfl rfl rfl ?_
    have hk : decide (m.kind = 13) = true := by simp [hkd]
    simp only [hk]
    refine re_move rfl rfl rfl rfl rfl ?_
    refine re_move rfl rfl rfl rfl rfl ?_
    refine re_load H rfl rfl rfl rfl rfl sh_46 (by first | exact rdAt_all rfl | (simp only [rdAt, PS.cells, PS.over, GM.cells, Cmd.cells, List.cons_append, List.nil_append, List.drop_succ_cons, List.drop_zero, List.take_succ_cons, List.take_zero, List.length_cons, List.length_nil, Nat.zero_add, Nat.reduceAdd, Nat.reduceLeDiff, Nat.le_refl, ↓reduceIte] <;> rfl)) ?_
    refine re_call en_48 rfl rfl rfl rfl rfl ?_
    have H := Own.arr [2, 1, 9, 9, 9, 6, 9, 9, 9, 9] H
    simp only [arrs, Fw.front, zm1, zm2, zm3, zm4, zm5] at H
    refine Calls.mono (fresh_s H hh hn hl) ?_
    rintro e w ⟨rfl, H⟩
    simp only [hf] at H ⊢
    refine ⟨_, rfl, (fun h => (nomatch h)), ?_⟩
    refine re_pickT rfl rfl rfl rfl rfl rfl ?_
    refine re_move rfl rfl rfl rfl rfl ?_
    first | refine re_field0 rfl rfl rfl rfl rfl fo_131_0 ?_ | refine re_field rfl rfl rfl rfl rfl fo_131_0 ?_ | refine re_fieldA rfl rfl rfl rfl rfl fo_131_0 ?_
    refine re_load H rfl rfl rfl rfl rfl sh_128 rfl ?_
    first | refine re_field0 rfl rfl rfl rfl rfl fo_46_1 ?_ | refine re_field rfl rfl rfl rfl rfl fo_46_1 ?_ | refine re_fieldA rfl rfl rfl rfl rfl fo_46_1 ?_
    first | refine re_field0 rfl rfl rfl rfl rfl fo_36_1 ?_ | refine re_field rfl rfl rfl rfl rfl fo_36_1 ?_ | refine re_fieldA rfl rfl rfl rfl rfl fo_36_1 ?_
    refine re_load H rfl rfl rfl rfl rfl sh_3 rfl ?_
    refine re_load H rfl rfl rfl rfl rfl sh_46 (by first | exact rdAt_all rfl | (simp only [rdAt, PS.cells, PS.over, GM.cells, Cmd.cells, List.cons_append, List.nil_append, List.drop_succ_cons, List.drop_zero, List.take_succ_cons, List.take_zero, List.length_cons, List.length_nil, Nat.zero_add, Nat.reduceAdd, Nat.reduceLeDiff, Nat.le_refl, ↓reduceIte] <;> rfl)) ?_
    refine re_call en_73 rfl rfl rfl rfl rfl ?_
    have H := Own.arr [7, 7, 7] H
    simp only [arrs, Fw.front, zm1, zm2, zm3, zm4, zm5] at H
    refine Calls.mono (takeM H hn) ?_
    rintro e w ⟨rfl, H⟩
    rw [took_eq] at H
    rw [show takes _ _ _ _ _ = _ from hk2]
    refine ⟨_, rfl, (fun h => (nomatch h)), ?_⟩
    refine re_pickT rfl rfl rfl rfl rfl rfl ?_
    refine re_nil ?_
    refine qe_thenC ?_
    refine ce_condF rfl ?_
    refine ce_skip ?_
    refine qe_block_norm ?_
    refine qe_thenC ?_
    refine ce_seq ?_
    refine ce_text (tab := []) (soft := 1) (.op 0 .nil) rfl rfl ?_
    refine re_assign rfl rfl rfl rfl rfl ?_
    refine re_nil ?_
    refine qe_thenC ?_
    refine ce_ret ?_
    refine qe_end rfl rfl ?_
    simp only [if_true] at H
    have H := Own.arr [2, 2, 2, 6, 6, 6, 7, 7] H
    simp only [arrs, Fw.front, zm1, zm2, zm3, zm4, zm5] at H
    replace H := H.sub (.cons_cons _ (.cons_cons _ (.cons_cons _ (.cons_cons _ (.cons_cons _ (.cons_cons _ (.cons_cons _ (.cons_cons _ (.cons _ (.cons _ (List.Sublist.refl _)))))))))))
    exact ⟨rfl, H⟩

theorem count_staleA {B w : World} {F : List Ent} {g : Nat} {p : PS} {m : GM} {ht hm hc : Nat} {ha : Option Nat} {hs : List Int} {qt qm qc : Nat} {qa : Option Nat} {ms : List (Int × GM)} {cm : Cmd} (H : Own B (.cells g 80 p.cells :: .row p.ga p.gc 3 1 p.gs.length (ints p.gs) :: .cells ht 109 [slv ha p.gs.length hc, .int .i64 ((p.gs.length : Int) + 1), .map (some hm)] :: .row ha hc 3 1 p.gs.length (ints p.gs) :: .imap hm (heardK hs) :: .cells qt 145 [slv qa p.gs.length qc, .int .i64 ((p.gs.length : Int) / 2 + 1), .map (some qm)] :: .row qa qc 3 1 p.gs.length (ints p.gs) :: .imap qm (kvM ms) :: F) w) (hn : p.gs.length ≤ 1000000) (hi : p.ph = phA qt cm) (hkd : m.kind = 15) (hst : p.own m = true) (hh : p.hd = .pointer (some ⟨ht, 0, none⟩)) (hl : hs.length ≤ p.gs.length) (hf : p.fresh hs m.fi = false) :
    Calls Try.prog 49 #[.pointer (some ⟨g, 0, none⟩), .agg m.cells.toArray] w fun e w' => e = .returned (slv none 0 0) ∧ Own B (.cells g 80 p.cells :: .row p.ga p.gc 3 1 p.gs.length (ints p.gs) :: .cells ht 109 [slv ha p.gs.length hc, .int .i64 ((p.gs.length : Int) + 1), .map (some hm)] :: .row ha hc 3 1 p.gs.length (ints p.gs) :: .imap hm (heardK hs) :: .cells qt 145 [slv qa p.gs.length qc, .int .i64 ((p.gs.length : Int) / 2 + 1), .map (some qm)] :: .row qa qc 3 1 p.gs.length (ints p.gs) :: .imap qm (kvM ms) :: F) w' := by
  refine calls_ce (args := [.pointer (some ⟨g, 0, none⟩), .agg m.cells.toArray]) Try.func49 rfl rfl ?_
  change CE _ _ 73 _ _ [(0, .pointer (some ⟨g, 0, none⟩)), (1, .agg m.cells.toArray)] _
  refine ce_seq ?_
  refine ce_text (tab := []) (soft := 2) (.op 0 (.op 1 .nil)) rfl rfl ?_
  refine re_box H rfl rfl rfl rfl rfl rfl ?_
  intro g3 w H
  refine ⟨(fun h => (nomatch h)), ?_⟩
  refine re_assign rfl rfl rfl rfl rfl ?_
  refine re_nil ?_
  refine qe_thenC ?_
  refine ce_seq ?_
  refine ce_seq ?_
  refine ce_open (tab := [0, 1, 0, 4, 15]) (soft := 23) mixed (.op 0 (.op 1 (.op 2 (.op 3 (.op 4 .nil))))) (by kernel_rfl) H ?_
  intro w H
  first | refine re_field0 rfl rfl rfl rfl rfl fo_46_6 ?_ | refine re_field rfl rfl rfl rfl rfl fo_46_6 ?_ | refine re_fieldA rfl rfl rfl rfl rfl fo_46_6 ?_
  refine re_load H rfl rfl rfl rfl rfl sh_38 (by first | exact rdAt_all rfl | (simp only [rdAt, PS.cells, PS.over, GM.cells, Cmd.cells, List.cons_append, List.nil_append, List.drop_succ_cons, List.drop_zero, List.take_succ_cons, List.take_zero, List.length_cons, List.length_nil, Nat.zero_add, Nat.reduceAdd, Nat.reduceLeDiff, Nat.le_refl, ↓reduceIte] <;> rfl)) ?_
  refine re_move rfl rfl rfl rfl rfl ?_
  refine re_call en_72 rfl rfl rfl rfl rfl ?_
  have H := H.front 1
  simp only [arrs, Fw.front, zm1, zm2, zm3, zm4, zm5] at H
  refine Calls.mono (stamp_s H) ?_
  rintro e w ⟨rfl, H⟩
  refine ⟨_, rfl, (fun _ => ⟨fun _ => still_load H sh_38 (by first | exact rdAt_all rfl | (simp only [rdAt, PS.cells, PS.over, GM.cells, Cmd.cells, List.cons_append, List.nil_append, List.drop_succ_cons, List.drop_zero, List.take_succ_cons, List.take_zero, List.length_cons, List.length_nil, Nat.zero_add, Nat.reduceAdd, Nat.reduceLeDiff, Nat.le_refl, ↓reduceIte] <;> rfl)), trivial⟩), ?_⟩
  refine re_neAgg rfl rfl rfl rfl rfl rfl fk_38 sh_38 ng_38 (by simp only [eqKs, eqK, ↓reduceIte]; rfl) ?_
  refine re_nil ?_
  refine qe_noPanic ?_
  refine qe_thenC ?_
  refine ce_cond rfl (fun h0 => ?_) (fun h0 => ?_)
  · try simp only [zn1, zn2, zn3, zn4, zn5, zn6] at h0
    exact absurd ((show p.own m = false from h0).symm.trans hst) (by simp)
  · try simp only [zn1, zn2, zn3, zn4, zn5, zn6] at h0
    refine ce_skip ?_
    refine qe_thenC ?_
    refine ce_seq ?_
    refine ce_seq ?_
    refine ce_text (tab := []) (soft := 15) (.op 0 (.op 1 (.op 2 (.op 3 .nil)))) rfl rfl ?_
    refine re_move rfl rfl rfl rfl rfl ?_
    refine re_nilc rfl rfl rfl rfl rfl ?_
    first | refine re_field0 rfl rfl rfl rfl rfl fo_80_10 ?_ | refine re_field rfl rfl rfl rfl rfl fo_80_10 ?_ | refine re_fieldA rfl rfl rfl rfl rfl fo_80_10 ?_
    refine re_load H rfl rfl rfl rfl rfl sh_76 rfl ?_
    refine re_nil ?_
    refine qe_thenC ?_
    refine ce_block ?_
    refine ce_seq ?_
    refine ce_text (tab := []) (soft := 7) (.op 0 (.op 1 (.op 2 .nil))) rfl rfl ?_
    simp only [hi]
    refine re_isNotT rfl rfl rfl rfl rfl nif_131 rfl zv_131 ?_
    refine re_extract rfl rfl rfl rfl rfl rfl ?_
    refine re_extract rfl rfl rfl rfl rfl rfl ?_
    refine re_nil ?_
    refine qe_thenC ?_
    refine ce_condF rfl ?_
    refine ce_seq ?_
    refine ce_text (tab := []) (soft := 7) (.op 0 (.op 1 (.op 2 .nil))) rfl rfl ?_
    refine re_isT rfl rfl rfl rfl rfl nif_137 ?_
    refine re_extract rfl rfl rfl rfl rfl rfl ?_
    refine re_extract rfl rfl rfl rfl rfl rfl ?_
    refine re_nil ?_
    refine qe_thenC ?_
    refine ce_condT rfl ?_
    refine ce_seq ?_
    refine ce_text (tab := []) (soft := 0) (.op 0 (.op 1 .nil)) rfl rfl ?_
    refine re_alloc H rfl rfl rfl rfl ze_137 ?_
    intro g6 w H
    refine ⟨(fun h => (nomatch h)), ?_⟩
    refine re_store H rfl rfl rfl rfl rfl rfl sh_137 rfl rfl rfl ?_
    intro cs w hcs H
    first | rw [setMany_whole rfl] at hcs | simp only [setMany, List.set_cons_zero, List.set_cons_succ, Nat.reduceAdd, Nat.zero_add, PS.cells, PS.over, GM.cells, Cmd.cells, List.cons_append, List.nil_append] at hcs
    subst hcs
    refine ⟨(fun h => (nomatch h)), ?_⟩
    refine re_nil ?_
    refine qe_thenC ?_
    refine ce_seq ?_
    refine ce_text (tab := []) (soft := 98239) (.op 0 (.op 1 (.op 2 (.op 3 (.op 4 (.op 5 (.op 6 (.op 7 (.op 8 (.op 9 (.op 10 (.op 11 (.op 12 (.op 13 (.op 14 (.op 15 (.op 16 .nil))))))))))))))))) rfl rfl ?_
    first | refine re_field0 rfl rfl rfl rfl rfl fo_46_0 ?_ | refine re_field rfl rfl rfl rfl rfl fo_46_0 ?_ | refine re_fieldA rfl rfl rfl rfl rfl fo_46_0 ?_
    refine re_load H rfl rfl rfl rfl rfl sh_3 rfl ?_
    refine re_bin rfl rfl rfl rfl rfl rfl rfl ?_
    have hk : decide (m.kind = 15) = true := by simp [hkd]
    simp only [hk]
    refine re_move rfl rfl rfl rfl rfl ?_
    refine re_move rfl rfl rfl rfl rfl ?_
    refine re_load H rfl rfl rfl rfl rfl sh_46 (by first | exact rdAt_all rfl | (simp only [rdAt, PS.cells, PS.over, GM.cells, Cmd.cells, List.cons_append, List.nil_append, List.drop_succ_cons, List.drop_zero, List.take_succ_cons, List.take_zero, List.length_cons, List.length_nil, Nat.zero_add, Nat.reduceAdd, Nat.reduceLeDiff, Nat.le_refl, ↓reduceIte] <;> rfl)) ?_
    refine re_call en_48 rfl rfl rfl rfl rfl ?_
    have H := Own.arr [2, 1, 9, 9, 9, 6, 9, 9, 9, 9] H
    simp only [arrs, Fw.front, zm1, zm2, zm3, zm4, zm5] at H
    refine Calls.mono (fresh_s H hh hn hl) ?_
    rintro e w ⟨rfl, H⟩
    simp only [hf] at H ⊢
    refine ⟨_, rfl, (fun h => (nomatch h)), ?_⟩
    refine re_pickT rfl rfl rfl rfl rfl rfl ?_
    refine re_move rfl rfl rfl rfl rfl ?_
    refine re_skip1 rfl rfl rfl ?_
    refine re_skip1 rfl rfl rfl ?_
    refine re_skip1 rfl rfl rfl ?_
    refine re_skip1 rfl rfl rfl ?_
    refine re_skip1 rfl rfl rfl ?_
    refine re_skip1 rfl rfl rfl ?_
    refine re_skip1 rfl rfl rfl ?_
    refine re_pickF rfl rfl rfl rfl rfl rfl ?_
    refine re_nil ?_
    refine qe_thenC ?_
    refine ce_condF rfl ?_
    refine ce_skip ?_
    refine qe_block_norm ?_
    refine qe_thenC ?_
    refine ce_seq ?_
    refine ce_text (tab := []) (soft := 1) (.op 0 .nil) rfl rfl ?_
    refine re_assign rfl rfl rfl rfl rfl ?_
    refine re_nil ?_
    refine qe_thenC ?_
    refine ce_ret ?_
    refine qe_end rfl rfl ?_
    simp only [Bool.false_eq_true, if_false] at H
    have H := Own.arr [7, 7, 7, 6, 6, 6, 7, 7] H
    simp only [arrs, Fw.front, zm1, zm2, zm3, zm4, zm5] at H
    replace H := H.sub (.cons_cons _ (.cons_cons _ (.cons_cons _ (.cons_cons _ (.cons_cons _ (.cons_cons _ (.cons_cons _ (.cons_cons _ (.cons _ (.cons _ (List.Sublist.refl _)))))))))))
    exact ⟨rfl, H⟩

theorem count_fewA {B w : World} {F : List Ent} {g : Nat} {p : PS} {m : GM} {ht hm hc : Nat} {ha : Option Nat} {hs : List Int} {qt qm qc : Nat} {qa : Option Nat} {ms : List (Int × GM)} {cm : Cmd} (H : Own B (.cells g 80 p.cells :: .row p.ga p.gc 3 1 p.gs.length (ints p.gs) :: .cells ht 109 [slv ha p.gs.length hc, .int .i64 ((p.gs.length : Int) + 1), .map (some hm)] :: .row ha hc 3 1 p.gs.length (ints p.gs) :: .imap hm (heardK hs) :: .cells qt 145 [slv qa p.gs.length qc, .int .i64 ((p.gs.length : Int) / 2 + 1), .map (some qm)] :: .row qa qc 3 1 p.gs.length (ints p.gs) :: .imap qm (kvM ms) :: F) w) (hn : p.gs.length ≤ 1000000) (hi : p.ph = phA qt cm) (hkd : m.kind = 15) (hst : p.own m = true) (hh : p.hd = .pointer (some ⟨ht, 0, none⟩)) (hl : hs.length ≤ p.gs.length) (hf : p.fresh hs m.fi = true) (hk2 : p.takes ms m.fi m = false) :
    Calls Try.prog 49 #[.pointer (some ⟨g, 0, none⟩), .agg m.cells.toArray] w fun e w' => e = .returned (slv none 0 0) ∧ Own B (.cells g 80 p.cells :: .row p.ga p.gc 3 1 p.gs.length (ints p.gs) :: .cells ht 109 [slv ha p.gs.length hc, .int .i64 ((p.gs.length : Int) + 1), .map (some hm)] :: .row ha hc 3 1 p.gs.length (ints p.gs) :: .imap hm (heardK (hs ++ [m.fi])) :: .cells qt 145 [slv qa p.gs.length qc, .int .i64 ((p.gs.length : Int) / 2 + 1), .map (some qm)] :: .row qa qc 3 1 p.gs.length (ints p.gs) :: .imap qm (kvM (p.took ms m.fi m)) :: F) w' := by
  refine calls_ce (args := [.pointer (some ⟨g, 0, none⟩), .agg m.cells.toArray]) Try.func49 rfl rfl ?_
  change CE _ _ 73 _ _ [(0, .pointer (some ⟨g, 0, none⟩)), (1, .agg m.cells.toArray)] _
  refine ce_seq ?_
  refine ce_text (tab := []) (soft := 2) (.op 0 (.op 1 .nil)) rfl rfl ?_
  refine re_box H rfl rfl rfl rfl rfl rfl ?_
  intro g3 w H
  refine ⟨(fun h => (nomatch h)), ?_⟩
  refine re_assign rfl rfl rfl rfl rfl ?_
  refine re_nil ?_
  refine qe_thenC ?_
  refine ce_seq ?_
  refine ce_seq ?_
  refine ce_open (tab := [0, 1, 0, 4, 15]) (soft := 23) mixed (.op 0 (.op 1 (.op 2 (.op 3 (.op 4 .nil))))) (by kernel_rfl) H ?_
  intro w H
  first | refine re_field0 rfl rfl rfl rfl rfl fo_46_6 ?_ | refine re_field rfl rfl rfl rfl rfl fo_46_6 ?_ | refine re_fieldA rfl rfl rfl rfl rfl fo_46_6 ?_
  refine re_load H rfl rfl rfl rfl rfl sh_38 (by first | exact rdAt_all rfl | (simp only [rdAt, PS.cells, PS.over, GM.cells, Cmd.cells, List.cons_append, List.nil_append, List.drop_succ_cons, List.drop_zero, List.take_succ_cons, List.take_zero, List.length_cons, List.length_nil, Nat.zero_add, Nat.reduceAdd, Nat.reduceLeDiff, Nat.le_refl, ↓reduceIte] <;> rfl)) ?_
  refine re_move rfl rfl rfl rfl rfl ?_
  refine re_call en_72 rfl rfl rfl rfl rfl ?_
  have H := H.front 1
  simp only [arrs, Fw.front, zm1, zm2, zm3, zm4, zm5] at H
  refine Calls.mono (stamp_s H) ?_
  rintro e w ⟨rfl, H⟩
  refine ⟨_, rfl, (fun _ => ⟨fun _ => still_load H sh_38 (by first | exact rdAt_all rfl | (simp only [rdAt, PS.cells, PS.over, GM.cells, Cmd.cells, List.cons_append, List.nil_append, List.drop_succ_cons, List.drop_zero, List.take_succ_cons, List.take_zero, List.length_cons, List.length_nil, Nat.zero_add, Nat.reduceAdd, Nat.reduceLeDiff, Nat.le_refl, ↓reduceIte] <;> rfl)), trivial⟩), ?_⟩
  refine re_neAgg rfl rfl rfl rfl rfl rfl fk_38 sh_38 ng_38 (by simp only [eqKs, eqK, ↓reduceIte]; rfl) ?_
  refine re_nil ?_
  refine qe_noPanic ?_
  refine qe_thenC ?_
  refine ce_cond rfl (fun h0 => ?_) (fun h0 => ?_)
  · try simp only [zn1, zn2, zn3, zn4, zn5, zn6] at h0
    exact absurd ((show p.own m = false from h0).symm.trans hst) (by simp)
  · try simp only [zn1, zn2, zn3, zn4, zn5, zn6] at h0
    refine ce_skip ?_
    refine qe_thenC ?_
    refine ce_seq ?_
    refine ce_seq ?_
    refine ce_text (tab := []) (soft := 15) (.op 0 (.op 1 (.op 2 (.op 3 .nil)))) rfl rfl ?_
    refine re_move rfl rfl rfl rfl rfl ?_
    refine re_nilc rfl rfl rfl rfl rfl ?_
    first | refine re_field0 rfl rfl rfl rfl rfl fo_80_10 ?_ | refine re_field rfl rfl rfl rfl rfl fo_80_10 ?_ | refine re_fieldA rfl rfl rfl rfl rfl fo_80_10 ?_
    refine re_load H rfl rfl rfl rfl rfl sh_76 rfl ?_
    refine re_nil ?_
    refine qe_thenC ?_
    refine ce_block ?_
    refine ce_seq ?_
    refine ce_text (tab := []) (soft := 7) (.op 0 (.op 1 (.op 2 .nil))) rfl rfl ?_
    simp only [hi]
    refine re_isNotT rfl rfl rfl rfl rfl nif_131 rfl zv_131 ?_
    refine re_extract rfl rfl rfl rfl rfl rfl ?_
    refine re_extract rfl rfl rfl rfl rfl rfl ?_
    refine re_nil ?_
    refine qe_thenC ?_
    refine ce_condF rfl ?_
    refine ce_seq ?_
    refine ce_text (tab := []) (soft := 7) (.op 0 (.op 1 (.op 2 .nil))) rfl rfl ?_
    refine re_isT rfl rfl rfl rfl rfl nif_137 ?_
    refine re_extract rfl rfl rfl rfl rfl rfl ?_
    refine re_extract rfl rfl rfl rfl rfl rfl ?_
    refine re_nil ?_
    refine qe_thenC ?_
    refine ce_condT rfl ?_
    refine ce_seq ?_
    refine ce_text (tab := []) (soft := 0) (.op 0 (.op 1 .nil)) rfl rfl ?_
    refine re_alloc H rfl rfl rfl rfl ze_137 ?_
    intro g6 w H
    refine ⟨(fun h => (nomatch h)), ?_⟩
    refine re_store H rfl rfl rfl rfl rfl rfl sh_137 rfl rfl rfl ?_
    intro cs w hcs H
    first | rw [setMany_whole rfl] at hcs | simp only [setMany, List.set_cons_zero, List.set_cons_succ, Nat.reduceAdd, Nat.zero_add, PS.cells, PS.over, GM.cells, Cmd.cells, List.cons_append, List.nil_append] at hcs
    subst hcs
    refine ⟨(fun h => (nomatch h)), ?_⟩
    refine re_nil ?_
    refine qe_thenC ?_
    refine ce_seq ?_
    refine ce_text (tab := []) (soft := 98239) (.op 0 (.op 1 (.op 2 (.op 3 (.op 4 (.op 5 (.op 6 (.op 7 (.op 8 (.op 9 (.op 10 (.op 11 (.op 12 (.op 13 (.op 14 (.op 15 (.op 16 .nil))))))))))))))))) rfl rfl ?_
    first | refine re_field0 rfl rfl rfl rfl rfl fo_46_0 ?_ | refine re_field rfl rfl rfl rfl rfl fo_46_0 ?_ | refine re_fieldA rfl rfl rfl rfl rfl fo_46_0 ?_
    refine re_load H rfl rfl rfl rfl rfl sh_3 rfl ?_
    refine re_bin rfl rfl rfl rfl rfl rfl rfl ?_
    have hk : decide (m.kind = 15) = true := by simp [hkd]
    simp only [hk]
    refine re_move rfl rfl rfl rfl rfl ?_
    refine re_move rfl rfl rfl rfl rfl ?_
    refine re_load H rfl rfl rfl rfl rfl sh_46 (by first | exact rdAt_all rfl | (simp only [rdAt, PS.cells, PS.over, GM.cells, Cmd.cells, List.cons_append, List.nil_append, List.drop_succ_cons, List.drop_zero, List.take_succ_cons, List.take_zero, List.length_cons, List.length_nil, Nat.zero_add, Nat.reduceAdd, Nat.reduceLeDiff, Nat.le_refl, ↓reduceIte] <;> rfl)) ?_
    refine re_call en_48 rfl rfl rfl rfl rfl ?_
    have H := Own.arr [2, 1, 9, 9, 9, 6, 9, 9, 9, 9] H
    simp only [arrs, Fw.front, zm1, zm2, zm3, zm4, zm5] at H
    refine Calls.mono (fresh_s H hh hn hl) ?_
    rintro e w ⟨rfl, H⟩
    simp only [hf] at H ⊢
    refine ⟨_, rfl, (fun h => (nomatch h)), ?_⟩
    refine re_pickT rfl rfl rfl rfl rfl rfl ?_
    refine re_move rfl rfl rfl rfl rfl ?_
    first | refine re_field0 rfl rfl rfl rfl rfl fo_137_0 ?_ | refine re_field rfl rfl rfl rfl rfl fo_137_0 ?_ | refine re_fieldA rfl rfl rfl rfl rfl fo_137_0 ?_
    refine re_load H rfl rfl rfl rfl rfl sh_128 rfl ?_
    first | refine re_field0 rfl rfl rfl rfl rfl fo_46_1 ?_ | refine re_field rfl rfl rfl rfl rfl fo_46_1 ?_ | refine re_fieldA rfl rfl rfl rfl rfl fo_46_1 ?_
    first | refine re_field0 rfl rfl rfl rfl rfl fo_36_1 ?_ | refine re_field rfl rfl rfl rfl rfl fo_36_1 ?_ | refine re_fieldA rfl rfl rfl rfl rfl fo_36_1 ?_
    refine re_load H rfl rfl rfl rfl rfl sh_3 rfl ?_
    refine re_load H rfl rfl rfl rfl rfl sh_46 (by first | exact rdAt_all rfl | (simp only [rdAt, PS.cells, PS.over, GM.cells, Cmd.cells, List.cons_append, List.nil_append, List.drop_succ_cons, List.drop_zero, List.take_succ_cons, List.take_zero, List.length_cons, List.length_nil, Nat.zero_add, Nat.reduceAdd, Nat.reduceLeDiff, Nat.le_refl, ↓reduceIte] <;> rfl)) ?_
    refine re_call en_73 rfl rfl rfl rfl rfl ?_
    have H := Own.arr [7, 7, 7] H
    simp only [arrs, Fw.front, zm1, zm2, zm3, zm4, zm5] at H
    refine Calls.mono (takeM H hn) ?_
    rintro e w ⟨rfl, H⟩
    rw [took_eq] at H
    rw [show takes _ _ _ _ _ = _ from hk2]
    refine ⟨_, rfl, (fun h => (nomatch h)), ?_⟩
    refine re_pickT rfl rfl rfl rfl rfl rfl ?_
    refine re_nil ?_
    refine qe_thenC ?_
    refine ce_condF rfl ?_
    refine ce_skip ?_
    refine qe_block_norm ?_
    refine qe_thenC ?_
    refine ce_seq ?_
    refine ce_text (tab := []) (soft := 1) (.op 0 .nil) rfl rfl ?_
    refine re_assign rfl rfl rfl rfl rfl ?_
    refine re_nil ?_
    refine qe_thenC ?_
    refine ce_ret ?_
    refine qe_end rfl rfl ?_
    simp only [if_true] at H
    have H := Own.arr [2, 2, 2, 6, 6, 6, 7, 7] H
    simp only [arrs, Fw.front, zm1, zm2, zm3, zm4, zm5] at H
    replace H := H.sub (.cons_cons _ (.cons_cons _ (.cons_cons _ (.cons_cons _ (.cons_cons _ (.cons_cons _ (.cons_cons _ (.cons_cons _ (.cons _ (.cons _ (List.Sublist.refl _)))))))))))
    exact ⟨rfl, H⟩

theorem count_worn {B w : World} {F : List Ent} {g : Nat} {p : PS} {m : GM} {ht hm hc : Nat} {ha : Option Nat} {hs : List Int} {qt qm qc : Nat} {qa : Option Nat} {ms : List (Int × GM)} (H : Own B (.cells g 80 p.cells :: .row p.ga p.gc 3 1 p.gs.length (ints p.gs) :: .cells ht 109 [slv ha p.gs.length hc, .int .i64 ((p.gs.length : Int) + 1), .map (some hm)] :: .row ha hc 3 1 p.gs.length (ints p.gs) :: .imap hm (heardK hs) :: .cells qt 145 [slv qa p.gs.length qc, .int .i64 ((p.gs.length : Int) / 2 + 1), .map (some qm)] :: .row qa qc 3 1 p.gs.length (ints p.gs) :: .imap qm (kvM ms) :: F) w) (hn : p.gs.length ≤ 1000000) (hi : p.ph = phP qt) (hkd : m.kind = 13) (hst : p.own m = true) (hh : p.hd = .pointer (some ⟨ht, 0, none⟩)) (hl : hs.length ≤ p.gs.length) (hf : p.fresh hs m.fi = true) (hk2 : p.takes ms m.fi m = true) (hu : unlike p.gs = p.gs) (hw : 1099511627776 ≤ p.rnd) :
    Calls Try.prog 49 #[.pointer (some ⟨g, 0, none⟩), .agg m.cells.toArray] w fun e w' => e = .returned (slv none 0 0) ∧ Own B (.cells g 80 { p.over with wn := true }.cells :: .row p.ga p.gc 3 1 p.gs.length (ints p.gs) :: F) w' := by
  refine calls_ce (args := [.pointer (some ⟨g, 0, none⟩), .agg m.cells.toArray]) Try.func49 rfl rfl ?_
  change CE _ _ 73 _ _ [(0, .pointer (some ⟨g, 0, none⟩)), (1, .agg m.cells.toArray)] _
  refine ce_seq ?_
  refine ce_text (tab := []) (soft := 2) (.op 0 (.op 1 .nil)) rfl rfl ?_
  refine re_box H rfl rfl rfl rfl rfl rfl ?_
  intro g3 w H
  refine ⟨(fun h => (nomatch h)), ?_⟩
  refine re_assign rfl rfl rfl rfl rfl ?_
  refine re_nil ?_
  refine qe_thenC ?_
  refine ce_seq ?_
  refine ce_seq ?_
  refine ce_open (tab := [0, 1, 0, 4, 15]) (soft := 23) mixed (.op 0 (.op 1 (.op 2 (.op 3 (.op 4 .nil))))) (by kernel_rfl) H ?_
  intro w H
  first | refine re_field0 rfl rfl rfl rfl rfl fo_46_6 ?_ | refine re_field rfl rfl rfl rfl rfl fo_46_6 ?_ | refine re_fieldA rfl rfl rfl rfl rfl fo_46_6 ?_
  refine re_load H rfl rfl rfl rfl rfl sh_38 (by first | exact rdAt_all rfl | (simp only [rdAt, PS.cells, PS.over, GM.cells, Cmd.cells, List.cons_append, List.nil_append, List.drop_succ_cons, List.drop_zero, List.take_succ_cons, List.take_zero, List.length_cons, List.length_nil, Nat.zero_add, Nat.reduceAdd, Nat.reduceLeDiff, Nat.le_refl, ↓reduceIte] <;> rfl)) ?_
  refine re_move rfl rfl rfl rfl rfl ?_
  refine re_call en_72 rfl rfl rfl rfl rfl ?_
  have H := H.front 1
  simp only [arrs, Fw.front, zm1, zm2, zm3, zm4, zm5] at H
  refine Calls.mono (stamp_s H) ?_
  rintro e w ⟨rfl, H⟩
  refine ⟨_, rfl, (fun _ => ⟨fun _ => still_load H sh_38 (by first | exact rdAt_all rfl | (simp only [rdAt, PS.cells, PS.over, GM.cells, Cmd.cells, List.cons_append, List.nil_append, List.drop_succ_cons, List.drop_zero, List.take_succ_cons, List.take_zero, List.length_cons, List.length_nil, Nat.zero_add, Nat.reduceAdd, Nat.reduceLeDiff, Nat.le_refl, ↓reduceIte] <;> rfl)), trivial⟩), ?_⟩
  refine re_neAgg rfl rfl rfl rfl rfl rfl fk_38 sh_38 ng_38 (by simp only [eqKs, eqK, ↓reduceIte]; rfl) ?_
  refine re_nil ?_
  refine qe_noPanic ?_
  refine qe_thenC ?_
  refine ce_cond rfl (fun h0 => ?_) (fun h0 => ?_)
  · try simp only [zn1, zn2, zn3, zn4, zn5, zn6] at h0
    exact absurd ((show p.own m = false from h0).symm.trans hst) (by simp)
  · try simp only [zn1, zn2, zn3, zn4, zn5, zn6] at h0
    refine ce_skip ?_
    refine qe_thenC ?_
    refine ce_seq ?_
    refine ce_seq ?_
    refine ce_text (tab := []) (soft := 15) (.op 0 (.op 1 (.op 2 (.op 3 .nil)))) rfl rfl ?_
    refine re_move rfl rfl rfl rfl rfl ?_
    refine re_nilc rfl rfl rfl rfl rfl ?_
    first | refine re_field0 rfl rfl rfl rfl rfl fo_80_10 ?_ | refine re_field rfl rfl rfl rfl rfl fo_80_10 ?_ | refine re_fieldA rfl rfl rfl rfl rfl fo_80_10 ?_
    refine re_load H rfl rfl rfl rfl rfl sh_76 rfl ?_
    refine re_nil ?_
    refine qe_thenC ?_
    refine ce_block ?_
    refine ce_seq ?_
    refine ce_text (tab := []) (soft := 7) (.op 0 (.op 1 (.op 2 .nil))) rfl rfl ?_
    simp only [hi]
    refine re_isT rfl rfl rfl rfl rfl nif_131 ?_
    refine re_extract rfl rfl rfl rfl rfl rfl ?_
    refine re_extract rfl rfl rfl rfl rfl rfl ?_
    refine re_nil ?_
    refine qe_thenC ?_
    refine ce_condT rfl ?_
    refine ce_seq ?_
    refine ce_text (tab := []) (soft := 0) (.op 0 (.op 1 .nil)) rfl rfl ?_
    refine re_alloc H rfl rfl rfl rfl ze_131 ?_
    intro g5 w H
    refine ⟨(fun h => (nomatch h)), ?_⟩
    refine re_store H rfl rfl rfl rfl rfl rfl sh_131 rfl rfl rfl ?_
    intro cs w hcs H
    first | rw [setMany_whole rfl] at hcs | simp only [setMany, List.set_cons_zero, List.set_cons_succ, Nat.reduceAdd, Nat.zero_add, PS.cells, PS.over, GM.cells, Cmd.cells, List.cons_append, List.nil_append] at hcs
    subst hcs
    refine ⟨(fun h => (nomatch h)), ?_⟩
    refine re_nil ?_
    refine qe_thenC ?_
    refine ce_seq ?_
    refine ce_text (tab := []) (soft := 98239) (.op 0 (.op 1 (.op 2 (.op 3 (.op 4 (.op 5 (.op 6 (.op 7 (.op 8 (.op 9 (.op 10 (.op 11 (.op 12 (.op 13 (.op 14 (.op 15 (.op 16 .nil))))))))))))))))) rfl rfl ?_
    first | refine re_field0 rfl rfl rfl rfl rfl fo_46_0 ?_ | refine re_field rfl rfl rfl rfl rfl fo_46_0 ?_ | refine re_fieldA rfl rfl rfl rfl rfl fo_46_0 ?_
    refine re_load H rfl rfl rfl rfl rfl sh_3 rfl ?_
    refine re_bin rfl rfl rfl rfl rfl rfl rfl ?_
    have hk : decide (m.kind = 13) = true := by simp [hkd]
    simp only [hk]
    refine re_move rfl rfl rfl rfl rfl ?_
    refine re_move rfl rfl rfl rfl rfl ?_
    refine re_load H rfl rfl rfl rfl rfl sh_46 (by first | exact rdAt_all rfl | (simp only [rdAt, PS.cells, PS.over, GM.cells, Cmd.cells, List.cons_append, List.nil_append, List.drop_succ_cons, List.drop_zero, List.take_succ_cons, List.take_zero, List.length_cons, List.length_nil, Nat.zero_add, Nat.reduceAdd, Nat.reduceLeDiff, Nat.le_refl, ↓reduceIte] <;> rfl)) ?_
    refine re_call en_48 rfl rfl rfl rfl rfl ?_
    have H := Own.arr [2, 1, 9, 9, 9, 6, 9, 9, 9, 9] H
    simp only [arrs, Fw.front, zm1, zm2, zm3, zm4, zm5] at H
    refine Calls.mono (fresh_s H hh hn hl) ?_
    rintro e w ⟨rfl, H⟩
    simp only [hf] at H ⊢
    refine ⟨_, rfl, (fun h => (nomatch h)), ?_⟩
    refine re_pickT rfl rfl rfl rfl rfl rfl ?_
    refine re_move rfl rfl rfl rfl rfl ?_
    first | refine re_field0 rfl rfl rfl rfl rfl fo_131_0 ?_ | refine re_field rfl rfl rfl rfl rfl fo_131_0 ?_ | refine re_fieldA rfl rfl rfl rfl rfl fo_131_0 ?_
    refine re_load H rfl rfl rfl rfl rfl sh_128 rfl ?_
    first | refine re_field0 rfl rfl rfl rfl rfl fo_46_1 ?_ | refine re_field rfl rfl rfl rfl rfl fo_46_1 ?_ | refine re_fieldA rfl rfl rfl rfl rfl fo_46_1 ?_
    first | refine re_field0 rfl rfl rfl rfl rfl fo_36_1 ?_ | refine re_field rfl rfl rfl rfl rfl fo_36_1 ?_ | refine re_fieldA rfl rfl rfl rfl rfl fo_36_1 ?_
    refine re_load H rfl rfl rfl rfl rfl sh_3 rfl ?_
    refine re_load H rfl rfl rfl rfl rfl sh_46 (by first | exact rdAt_all rfl | (simp only [rdAt, PS.cells, PS.over, GM.cells, Cmd.cells, List.cons_append, List.nil_append, List.drop_succ_cons, List.drop_zero, List.take_succ_cons, List.take_zero, List.length_cons, List.length_nil, Nat.zero_add, Nat.reduceAdd, Nat.reduceLeDiff, Nat.le_refl, ↓reduceIte] <;> rfl)) ?_
    refine re_call en_73 rfl rfl rfl rfl rfl ?_
    have H := Own.arr [7, 7, 7] H
    simp only [arrs, Fw.front, zm1, zm2, zm3, zm4, zm5] at H
    refine Calls.mono (takeM H hn) ?_
    rintro e w ⟨rfl, H⟩
    rw [took_eq] at H
    rw [show takes _ _ _ _ _ = _ from hk2]
    refine ⟨_, rfl, (fun h => (nomatch h)), ?_⟩
    refine re_pickT rfl rfl rfl rfl rfl rfl ?_
    refine re_nil ?_
    refine qe_thenC ?_
    refine ce_condT rfl ?_
    refine ce_seq ?_
    refine ce_text (tab := []) (soft := 23) (.op 0 (.op 1 (.op 2 (.op 3 (.op 4 .nil))))) rfl rfl ?_
    refine re_move rfl rfl rfl rfl rfl ?_
    first | refine re_field0 rfl rfl rfl rfl rfl fo_131_0 ?_ | refine re_field rfl rfl rfl rfl rfl fo_131_0 ?_ | refine re_fieldA rfl rfl rfl rfl rfl fo_131_0 ?_
    refine re_load H rfl rfl rfl rfl rfl sh_128 rfl ?_
    refine re_call en_74 rfl rfl rfl rfl rfl ?_
    have H := Own.arr [2, 2, 2, 7, 4] H
    simp only [arrs, Fw.front, zm1, zm2, zm3, zm4, zm5] at H
    replace H := H.sub (.cons_cons _ (.cons_cons _ (.cons_cons _ (.cons_cons _ (.cons_cons _ (.cons _ (.cons _ (.cons _ (.cons _ (.cons _ (List.Sublist.refl _)))))))))))
    refine Calls.mono (accept_worn H hn hu hw) ?_
    rintro e w ⟨rfl, H⟩
    refine ⟨_, rfl, (fun h => (nomatch h)), ?_⟩
    refine re_assign rfl rfl rfl rfl rfl ?_
    refine re_nil ?_
    refine qe_thenC ?_
    refine ce_ret ?_
    refine qe_block_ret ?_
    refine qe_then_ret ?_
    refine qe_end rfl rfl ?_
    exact ⟨rfl, H⟩

theorem count_accept {B w : World} {F : List Ent} {g : Nat} {p : PS} {m : GM} {ht hm hc : Nat} {ha : Option Nat} {hs : List Int} {qt qm qc : Nat} {qa : Option Nat} {ms : List (Int × GM)} (H : Own B (.cells g 80 p.cells :: .row p.ga p.gc 3 1 p.gs.length (ints p.gs) :: .cells ht 109 [slv ha p.gs.length hc, .int .i64 ((p.gs.length : Int) + 1), .map (some hm)] :: .row ha hc 3 1 p.gs.length (ints p.gs) :: .imap hm (heardK hs) :: .cells qt 145 [slv qa p.gs.length qc, .int .i64 ((p.gs.length : Int) / 2 + 1), .map (some qm)] :: .row qa qc 3 1 p.gs.length (ints p.gs) :: .imap qm (kvM ms) :: F) w) (hn : p.gs.length ≤ 1000000) (hi : p.ph = phP qt) (hkd : m.kind = 13) (hst : p.own m = true) (hh : p.hd = .pointer (some ⟨ht, 0, none⟩)) (hl : hs.length ≤ p.gs.length) (hf : p.fresh hs m.fi = true) (hk2 : p.takes ms m.fi m = true) (hu : unlike p.gs = p.gs) (hw : p.rnd < 1099511627776) (hlo : -1 ≤ p.rnd) :
    Calls Try.prog 49 #[.pointer (some ⟨g, 0, none⟩), .agg m.cells.toArray] w fun e w' => ∃ ht ha hc hm qt qa qc qm a c, e = .returned (slv a (p.next.outA (p.chosen (p.took ms m.fi m)) p.gs).length c) ∧ Own B (.row a c 46 30 (p.next.outA (p.chosen (p.took ms m.fi m)) p.gs).length (msgs (p.next.outA (p.chosen (p.took ms m.fi m)) p.gs)) :: .cells g 80 (p.next.enter (phA qt (p.chosen (p.took ms m.fi m))) ht).cells :: .row p.ga p.gc 3 1 p.gs.length (ints p.gs) :: .cells ht 109 [slv ha p.gs.length hc, .int .i64 ((p.gs.length : Int) + 1), .map (some hm)] :: .row ha hc 3 1 p.gs.length (ints p.gs) :: .imap hm (heardK []) :: .cells qt 145 [slv qa p.gs.length qc, .int .i64 ((p.gs.length : Int) / 2 + 1), .map (some qm)] :: .row qa qc 3 1 p.gs.length (ints p.gs) :: .imap qm (kvM []) :: F) w' := by
  refine calls_ce (args := [.pointer (some ⟨g, 0, none⟩), .agg m.cells.toArray]) Try.func49 rfl rfl ?_
  change CE _ _ 73 _ _ [(0, .pointer (some ⟨g, 0, none⟩)), (1, .agg m.cells.toArray)] _
  refine ce_seq ?_
  refine ce_text (tab := []) (soft := 2) (.op 0 (.op 1 .nil)) rfl rfl ?_
  refine re_box H rfl rfl rfl rfl rfl rfl ?_
  intro g3 w H
  refine ⟨(fun h => (nomatch h)), ?_⟩
  refine re_assign rfl rfl rfl rfl rfl ?_
  refine re_nil ?_
  refine qe_thenC ?_
  refine ce_seq ?_
  refine ce_seq ?_
  refine ce_open (tab := [0, 1, 0, 4, 15]) (soft := 23) mixed (.op 0 (.op 1 (.op 2 (.op 3 (.op 4 .nil))))) (by kernel_rfl) H ?_
  intro w H
  first | refine re_field0 rfl rfl rfl rfl rfl fo_46_6 ?_ | refine re_field rfl rfl rfl rfl rfl fo_46_6 ?_ | refine re_fieldA rfl rfl rfl rfl rfl fo_46_6 ?_
  refine re_load H rfl rfl rfl rfl rfl sh_38 (by first | exact rdAt_all rfl | (simp only [rdAt, PS.cells, PS.over, GM.cells, Cmd.cells, List.cons_append, List.nil_append, List.drop_succ_cons, List.drop_zero, List.take_succ_cons, List.take_zero, List.length_cons, List.length_nil, Nat.zero_add, Nat.reduceAdd, Nat.reduceLeDiff, Nat.le_refl, ↓reduceIte] <;> rfl)) ?_
  refine re_move rfl rfl rfl rfl rfl ?_
  refine re_call en_72 rfl rfl rfl rfl rfl ?_
  have H := H.front 1
  simp only [arrs, Fw.front, zm1, zm2, zm3, zm4, zm5] at H
  refine Calls.mono (stamp_s H) ?_
  rintro e w ⟨rfl, H⟩
  refine ⟨_, rfl, (fun _ => ⟨fun _ => still_load H sh_38 (by first | exact rdAt_all rfl | (simp only [rdAt, PS.cells, PS.over, GM.cells, Cmd.cells, List.cons_append, List.nil_append, List.drop_succ_cons, List.drop_zero, List.take_succ_cons, List.take_zero, List.length_cons, List.length_nil, Nat.zero_add, Nat.reduceAdd, Nat.reduceLeDiff, Nat.le_refl, ↓reduceIte] <;> rfl)), trivial⟩), ?_⟩
  refine re_neAgg rfl rfl rfl rfl rfl rfl fk_38 sh_38 ng_38 (by simp only [eqKs, eqK, ↓reduceIte]; rfl) ?_
  refine re_nil ?_
  refine qe_noPanic ?_
  refine qe_thenC ?_
  refine ce_cond rfl (fun h0 => ?_) (fun h0 => ?_)
  · try simp only [zn1, zn2, zn3, zn4, zn5, zn6] at h0
    exact absurd ((show p.own m = false from h0).symm.trans hst) (by simp)
  · try simp only [zn1, zn2, zn3, zn4, zn5, zn6] at h0
    refine ce_skip ?_
    refine qe_thenC ?_
    refine ce_seq ?_
    refine ce_seq ?_
    refine ce_text (tab := []) (soft := 15) (.op 0 (.op 1 (.op 2 (.op 3 .nil)))) rfl rfl ?_
    refine re_move rfl rfl rfl rfl rfl ?_
    refine re_nilc rfl rfl rfl rfl rfl ?_
    first | refine re_field0 rfl rfl rfl rfl rfl fo_80_10 ?_ | refine re_field rfl rfl rfl rfl rfl fo_80_10 ?_ | refine re_fieldA rfl rfl rfl rfl rfl fo_80_10 ?_
    refine re_load H rfl rfl rfl rfl rfl sh_76 rfl ?_
    refine re_nil ?_
    refine qe_thenC ?_
    refine ce_block ?_
    refine ce_seq ?_
    refine ce_text (tab := []) (soft := 7) (.op 0 (.op 1 (.op 2 .nil))) rfl rfl ?_
    simp only [hi]
    refine re_isT rfl rfl rfl rfl rfl nif_131 ?_
    refine re_extract rfl rfl rfl rfl rfl rfl ?_
    refine re_extract rfl rfl rfl rfl rfl rfl ?_
    refine re_nil ?_
    refine qe_thenC ?_
    refine ce_condT rfl ?_
    refine ce_seq ?_
    refine ce_text (tab := []) (soft := 0) (.op 0 (.op 1 .nil)) rfl rfl ?_
    refine re_alloc H rfl rfl rfl rfl ze_131 ?_
    intro g5 w H
    refine ⟨(fun h => (nomatch h)), ?_⟩
    refine re_store H rfl rfl rfl rfl rfl rfl sh_131 rfl rfl rfl ?_
    intro cs w hcs H
    first | rw [setMany_whole rfl] at hcs | simp only [setMany, List.set_cons_zero, List.set_cons_succ, Nat.reduceAdd, Nat.zero_add, PS.cells, PS.over, GM.cells, Cmd.cells, List.cons_append, List.nil_append] at hcs
    subst hcs
    refine ⟨(fun h => (nomatch h)), ?_⟩
    refine re_nil ?_
    refine qe_thenC ?_
    refine ce_seq ?_
    refine ce_text (tab := []) (soft := 98239) (.op 0 (.op 1 (.op 2 (.op 3 (.op 4 (.op 5 (.op 6 (.op 7 (.op 8 (.op 9 (.op 10 (.op 11 (.op 12 (.op 13 (.op 14 (.op 15 (.op 16 .nil))))))))))))))))) rfl rfl ?_
    first | refine re_field0 rfl rfl rfl rfl rfl fo_46_0 ?_ | refine re_field rfl rfl rfl rfl rfl fo_46_0 ?_ | refine re_fieldA rfl rfl rfl rfl rfl fo_46_0 ?_
    refine re_load H rfl rfl rfl rfl rfl sh_3 rfl ?_
    refine re_bin rfl rfl rfl rfl rfl rfl rfl ?_
    have hk : decide (m.kind = 13) = true := by simp [hkd]
    simp only [hk]
    refine re_move rfl rfl rfl rfl rfl ?_
    refine re_move rfl rfl rfl rfl rfl ?_
    refine re_load H rfl rfl rfl rfl rfl sh_46 (by first | exact rdAt_all rfl | (simp only [rdAt, PS.cells, PS.over, GM.cells, Cmd.cells, List.cons_append, List.nil_append, List.drop_succ_cons, List.drop_zero, List.take_succ_cons, List.take_zero, List.length_cons, List.length_nil, Nat.zero_add, Nat.reduceAdd, Nat.reduceLeDiff, Nat.le_refl, ↓reduceIte] <;> rfl)) ?_
    refine re_call en_48 rfl rfl rfl rfl rfl ?_
    have H := Own.arr [2, 1, 9, 9, 9, 6, 9, 9, 9, 9] H
    simp only [arrs, Fw.front, zm1, zm2, zm3, zm4, zm5] at H
    refine Calls.mono (fresh_s H hh hn hl) ?_
    rintro e w ⟨rfl, H⟩
    simp only [hf] at H ⊢
    refine ⟨_, rfl, (fun h => (nomatch h)), ?_⟩
    refine re_pickT rfl rfl rfl rfl rfl rfl ?_
    refine re_move rfl rfl rfl rfl rfl ?_
    first | refine re_field0 rfl rfl rfl rfl rfl fo_131_0 ?_ | refine re_field rfl rfl rfl rfl rfl fo_131_0 ?_ | refine re_fieldA rfl rfl rfl rfl rfl fo_131_0 ?_
    refine re_load H rfl rfl rfl rfl rfl sh_128 rfl ?_
    first | refine re_field0 rfl rfl rfl rfl rfl fo_46_1 ?_ | refine re_field rfl rfl rfl rfl rfl fo_46_1 ?_ | refine re_fieldA rfl rfl rfl rfl rfl fo_46_1 ?_
    first | refine re_field0 rfl rfl rfl rfl rfl fo_36_1 ?_ | refine re_field rfl rfl rfl rfl rfl fo_36_1 ?_ | refine re_fieldA rfl rfl rfl rfl rfl fo_36_1 ?_
    refine re_load H rfl rfl rfl rfl rfl sh_3 rfl ?_
    refine re_load H rfl rfl rfl rfl rfl sh_46 (by first | exact rdAt_all rfl | (simp only [rdAt, PS.cells, PS.over, GM.cells, Cmd.cells, List.cons_append, List.nil_append, List.drop_succ_cons, List.drop_zero, List.take_succ_cons, List.take_zero, List.length_cons, List.length_nil, Nat.zero_add, Nat.reduceAdd, Nat.reduceLeDiff, Nat.le_refl, ↓reduceIte] <;> rfl)) ?_
    refine re_call en_73 rfl rfl rfl rfl rfl ?_
    have H := Own.arr [7, 7, 7] H
    simp only [arrs, Fw.front, zm1, zm2, zm3, zm4, zm5] at H
    refine Calls.mono (takeM H hn) ?_
    rintro e w ⟨rfl, H⟩
    rw [took_eq] at H
    rw [show takes _ _ _ _ _ = _ from hk2]
    refine ⟨_, rfl, (fun h => (nomatch h)), ?_⟩
    refine re_pickT rfl rfl rfl rfl rfl rfl ?_
    refine re_nil ?_
    refine qe_thenC ?_
    refine ce_condT rfl ?_
    refine ce_seq ?_
    refine ce_text (tab := []) (soft := 23) (.op 0 (.op 1 (.op 2 (.op 3 (.op 4 .nil))))) rfl rfl ?_
    refine re_move rfl rfl rfl rfl rfl ?_
    first | refine re_field0 rfl rfl rfl rfl rfl fo_131_0 ?_ | refine re_field rfl rfl rfl rfl rfl fo_131_0 ?_ | refine re_fieldA rfl rfl rfl rfl rfl fo_131_0 ?_
    refine re_load H rfl rfl rfl rfl rfl sh_128 rfl ?_
    refine re_call en_74 rfl rfl rfl rfl rfl ?_
    have H := Own.arr [2, 2, 2, 7, 4] H
    simp only [arrs, Fw.front, zm1, zm2, zm3, zm4, zm5] at H
    replace H := H.sub (.cons_cons _ (.cons_cons _ (.cons_cons _ (.cons_cons _ (.cons_cons _ (.cons _ (.cons _ (.cons _ (.cons _ (.cons _ (List.Sublist.refl _)))))))))))
    refine Calls.mono (accept_s H hn hu hw hlo) ?_
    rintro e w ⟨ht, ha, hc, hm, qt, qa, qc, qm, a, c, rfl, H⟩
    refine ⟨_, rfl, (fun h => (nomatch h)), ?_⟩
    refine re_assign rfl rfl rfl rfl rfl ?_
    refine re_nil ?_
    refine qe_thenC ?_
    refine ce_ret ?_
    refine qe_block_ret ?_
    refine qe_then_ret ?_
    refine qe_end rfl rfl ?_
    exact ⟨ht, ha, hc, hm, qt, qa, qc, qm, a, c, rfl, H⟩

theorem count_decide {B w : World} {F : List Ent} {g : Nat} {p : PS} {m : GM} {ht hm hc : Nat} {ha : Option Nat} {hs : List Int} {qt qm qc : Nat} {qa : Option Nat} {ms : List (Int × GM)} {cm : Cmd} (H : Own B (.cells g 80 p.cells :: .row p.ga p.gc 3 1 p.gs.length (ints p.gs) :: .cells ht 109 [slv ha p.gs.length hc, .int .i64 ((p.gs.length : Int) + 1), .map (some hm)] :: .row ha hc 3 1 p.gs.length (ints p.gs) :: .imap hm (heardK hs) :: .cells qt 145 [slv qa p.gs.length qc, .int .i64 ((p.gs.length : Int) / 2 + 1), .map (some qm)] :: .row qa qc 3 1 p.gs.length (ints p.gs) :: .imap qm (kvM ms) :: F) w) (hn : p.gs.length ≤ 1000000) (hi : p.ph = phA qt cm) (hkd : m.kind = 15) (hst : p.own m = true) (hh : p.hd = .pointer (some ⟨ht, 0, none⟩)) (hl : hs.length ≤ p.gs.length) (hf : p.fresh hs m.fi = true) (hk2 : p.takes ms m.fi m = true) :
    Calls Try.prog 49 #[.pointer (some ⟨g, 0, none⟩), .agg m.cells.toArray] w fun e w' => ∃ d a c, e = .returned (slv a (p.outL cm p.gs).length c) ∧ Own B (.row a c 46 30 (p.outL cm p.gs).length (msgs (p.outL cm p.gs)) :: .cells g 80 { p.over with dc := .pointer (some ⟨d, 0, none⟩) }.cells :: .row p.ga p.gc 3 1 p.gs.length (ints p.gs) :: .cells d 28 cm.cells :: F) w' := by
  refine calls_ce (args := [.pointer (some ⟨g, 0, none⟩), .agg m.cells.toArray]) Try.func49 rfl rfl ?_
  change CE _ _ 73 _ _ [(0, .pointer (some ⟨g, 0, none⟩)), (1, .agg m.cells.toArray)] _
  refine ce_seq ?_
  refine ce_text (tab := []) (soft := 2) (.op 0 (.op 1 .nil)) rfl rfl ?_
  refine re_box H rfl rfl rfl rfl rfl rfl ?_
  intro g3 w H
  refine ⟨(fun h => (nomatch h)), ?_⟩
  refine re_assign rfl rfl rfl rfl rfl ?_
  refine re_nil ?_
  refine qe_thenC ?_
  refine ce_seq ?_
  refine ce_seq ?_
  refine ce_open (tab := [0, 1, 0, 4, 15]) (soft := 23) mixed (.op 0 (.op 1 (.op 2 (.op 3 (.op 4 .nil))))) (by kernel_rfl) H ?_
  intro w H
  first | refine re_field0 rfl rfl rfl rfl rfl fo_46_6 ?_ | refine re_field rfl rfl rfl rfl rfl fo_46_6 ?_ | refine re_fieldA rfl rfl rfl rfl rfl fo_46_6 ?_
  refine re_load H rfl rfl rfl rfl rfl sh_38 (by first | exact rdAt_all rfl | (simp only [rdAt, PS.cells, PS.over, GM.cells, Cmd.cells, List.cons_append, List.nil_append, List.drop_succ_cons, List.drop_zero, List.take_succ_cons, List.take_zero, List.length_cons, List.length_nil, Nat.zero_add, Nat.reduceAdd, Nat.reduceLeDiff, Nat.le_refl, ↓reduceIte] <;> rfl)) ?_
  refine re_move rfl rfl rfl rfl rfl ?_
  refine re_call en_72 rfl rfl rfl rfl rfl ?_
  have H := H.front 1
  simp only [arrs, Fw.front, zm1, zm2, zm3, zm4, zm5] at H
  refine Calls.mono (stamp_s H) ?_
  rintro e w ⟨rfl, H⟩
  refine ⟨_, rfl, (fun _ => ⟨fun _ => still_load H sh_38 (by first | exact rdAt_all rfl | (simp only [rdAt, PS.cells, PS.over, GM.cells, Cmd.cells, List.cons_append, List.nil_append, List.drop_succ_cons, List.drop_zero, List.take_succ_cons, List.take_zero, List.length_cons, List.length_nil, Nat.zero_add, Nat.reduceAdd, Nat.reduceLeDiff, Nat.le_refl, ↓reduceIte] <;> rfl)), trivial⟩), ?_⟩
  refine re_neAgg rfl rfl rfl rfl rfl rfl fk_38 sh_38 ng_38 (by simp only [eqKs, eqK, ↓reduceIte]; rfl) ?_
  refine re_nil ?_
  refine qe_noPanic ?_
  refine qe_thenC ?_
  refine ce_cond rfl (fun h0 => ?_) (fun h0 => ?_)
  · try simp only [zn1, zn2, zn3, zn4, zn5, zn6] at h0
    exact absurd ((show p.own m = false from h0).symm.trans hst) (by simp)
  · try simp only [zn1, zn2, zn3, zn4, zn5, zn6] at h0
    refine ce_skip ?_
    refine qe_thenC ?_
    refine ce_seq ?_
    refine ce_seq ?_
    refine ce_text (tab := []) (soft := 15) (.op 0 (.op 1 (.op 2 (.op 3 .nil)))) rfl rfl ?_
    refine re_move rfl rfl rfl rfl rfl ?_
    refine re_nilc rfl rfl rfl rfl rfl ?_
    first | refine re_field0 rfl rfl rfl rfl rfl fo_80_10 ?_ | refine re_field rfl rfl rfl rfl rfl fo_80_10 ?_ | refine re_fieldA rfl rfl rfl rfl rfl fo_80_10 ?_
    refine re_load H rfl rfl rfl rfl rfl sh_76 rfl ?_
    refine re_nil ?_
    refine qe_thenC ?_
    refine ce_block ?_
    refine ce_seq ?_
    refine ce_text (tab := []) (soft := 7) (.op 0 (.op 1 (.op 2 .nil))) rfl rfl ?_
    simp only [hi]
    refine re_isNotT rfl rfl rfl rfl rfl nif_131 rfl zv_131 ?_
    refine re_extract rfl rfl rfl rfl rfl rfl ?_
    refine re_extract rfl rfl rfl rfl rfl rfl ?_
    refine re_nil ?_
    refine qe_thenC ?_
    refine ce_condF rfl ?_
    refine ce_seq ?_
    refine ce_text (tab := []) (soft := 7) (.op 0 (.op 1 (.op 2 .nil))) rfl rfl ?_
    refine re_isT rfl rfl rfl rfl rfl nif_137 ?_
    refine re_extract rfl rfl rfl rfl rfl rfl ?_
    refine re_extract rfl rfl rfl rfl rfl rfl ?_
    refine re_nil ?_
    refine qe_thenC ?_
    refine ce_condT rfl ?_
    refine ce_seq ?_
    refine ce_text (tab := []) (soft := 0) (.op 0 (.op 1 .nil)) rfl rfl ?_
    refine re_alloc H rfl rfl rfl rfl ze_137 ?_
    intro g6 w H
    refine ⟨(fun h => (nomatch h)), ?_⟩
    refine re_store H rfl rfl rfl rfl rfl rfl sh_137 rfl rfl rfl ?_
    intro cs w hcs H
    first | rw [setMany_whole rfl] at hcs | simp only [setMany, List.set_cons_zero, List.set_cons_succ, Nat.reduceAdd, Nat.zero_add, PS.cells, PS.over, GM.cells, Cmd.cells, List.cons_append, List.nil_append] at hcs
    subst hcs
    refine ⟨(fun h => (nomatch h)), ?_⟩
    refine re_nil ?_
    refine qe_thenC ?_
    refine ce_seq ?_
    refine ce_text (tab := []) (soft := 98239) (.op 0 (.op 1 (.op 2 (.op 3 (.op 4 (.op 5 (.op 6 (.op 7 (.op 8 (.op 9 (.op 10 (.op 11 (.op 12 (.op 13 (.op 14 (.op 15 (.op 16 .nil))))))))))))))))) rfl rfl ?_
    first | refine re_field0 rfl rfl rfl rfl rfl fo_46_0 ?_ | refine re_field rfl rfl rfl rfl rfl fo_46_0 ?_ | refine re_fieldA rfl rfl rfl rfl rfl fo_46_0 ?_
    refine re_load H rfl rfl rfl rfl rfl sh_3 rfl ?_
    refine re_bin rfl rfl rfl rfl rfl rfl rfl ?_
    have hk : decide (m.kind = 15) = true := by simp [hkd]
    simp only [hk]
    refine re_move rfl rfl rfl rfl rfl ?_
    refine re_move rfl rfl rfl rfl rfl ?_
    refine re_load H rfl rfl rfl rfl rfl sh_46 (by first | exact rdAt_all rfl | (simp only [rdAt, PS.cells, PS.over, GM.cells, Cmd.cells, List.cons_append, List.nil_append, List.drop_succ_cons, List.drop_zero, List.take_succ_cons, List.take_zero, List.length_cons, List.length_nil, Nat.zero_add, Nat.reduceAdd, Nat.reduceLeDiff, Nat.le_refl, ↓reduceIte] <;> rfl)) ?_
    refine re_call en_48 rfl rfl rfl rfl rfl ?_
    have H := Own.arr [2, 1, 9, 9, 9, 6, 9, 9, 9, 9] H
    simp only [arrs, Fw.front, zm1, zm2, zm3, zm4, zm5] at H
    refine Calls.mono (fresh_s H hh hn hl) ?_
    rintro e w ⟨rfl, H⟩
    simp only [hf] at H ⊢
    refine ⟨_, rfl, (fun h => (nomatch h)), ?_⟩
    refine re_pickT rfl rfl rfl rfl rfl rfl ?_
    refine re_move rfl rfl rfl rfl rfl ?_
    first | refine re_field0 rfl rfl rfl rfl rfl fo_137_0 ?_ | refine re_field rfl rfl rfl rfl rfl fo_137_0 ?_ | refine re_fieldA rfl rfl rfl rfl rfl fo_137_0 ?_
    refine re_load H rfl rfl rfl rfl rfl sh_128 rfl ?_
    first | refine re_field0 rfl rfl rfl rfl rfl fo_46_1 ?_ | refine re_field rfl rfl rfl rfl rfl fo_46_1 ?_ | refine re_fieldA rfl rfl rfl rfl rfl fo_46_1 ?_
    first | refine re_field0 rfl rfl rfl rfl rfl fo_36_1 ?_ | refine re_field rfl rfl rfl rfl rfl fo_36_1 ?_ | refine re_fieldA rfl rfl rfl rfl rfl fo_36_1 ?_
    refine re_load H rfl rfl rfl rfl rfl sh_3 rfl ?_
    refine re_load H rfl rfl rfl rfl rfl sh_46 (by first | exact rdAt_all rfl | (simp only [rdAt, PS.cells, PS.over, GM.cells, Cmd.cells, List.cons_append, List.nil_append, List.drop_succ_cons, List.drop_zero, List.take_succ_cons, List.take_zero, List.length_cons, List.length_nil, Nat.zero_add, Nat.reduceAdd, Nat.reduceLeDiff, Nat.le_refl, ↓reduceIte] <;> rfl)) ?_
    refine re_call en_73 rfl rfl rfl rfl rfl ?_
    have H := Own.arr [7, 7, 7] H
    simp only [arrs, Fw.front, zm1, zm2, zm3, zm4, zm5] at H
    refine Calls.mono (takeM H hn) ?_
    rintro e w ⟨rfl, H⟩
    rw [took_eq] at H
    rw [show takes _ _ _ _ _ = _ from hk2]
    refine ⟨_, rfl, (fun h => (nomatch h)), ?_⟩
    refine re_pickT rfl rfl rfl rfl rfl rfl ?_
    refine re_nil ?_
    refine qe_thenC ?_
    refine ce_condT rfl ?_
    refine ce_seq ?_
    refine ce_text (tab := []) (soft := 7) (.op 0 (.op 1 (.op 2 (.op 3 .nil)))) rfl rfl ?_
    refine re_move rfl rfl rfl rfl rfl ?_
    first | refine re_field0 rfl rfl rfl rfl rfl fo_137_1 ?_ | refine re_field rfl rfl rfl rfl rfl fo_137_1 ?_ | refine re_fieldA rfl rfl rfl rfl rfl fo_137_1 ?_
    refine re_load H rfl rfl rfl rfl rfl sh_28 (by first | exact rdAt_all rfl | (simp only [rdAt, PS.cells, PS.over, GM.cells, Cmd.cells, List.cons_append, List.nil_append, List.drop_succ_cons, List.drop_zero, List.take_succ_cons, List.take_zero, List.length_cons, List.length_nil, Nat.zero_add, Nat.reduceAdd, Nat.reduceLeDiff, Nat.le_refl, ↓reduceIte] <;> rfl)) ?_
    refine re_call en_44 rfl rfl rfl rfl rfl ?_
    have H := Own.arr [8, 8, 5] H
    simp only [arrs, Fw.front, zm1, zm2, zm3, zm4, zm5] at H
    replace H := H.sub (.cons_cons _ (.cons_cons _ (.cons_cons _ (.cons _ (.cons _ (.cons _ (.cons _ (.cons _ (.cons _ (.cons _ (List.Sublist.refl _)))))))))))
    refine Calls.mono (decide_s (c := cm) H) ?_
    rintro e w ⟨d, rfl, H⟩
    refine ⟨_, rfl, (fun h => (nomatch h)), ?_⟩
    refine re_nil ?_
    refine qe_thenC ?_
    refine ce_seq ?_
    refine ce_open (tab := [0, 0, 2, 6, 0, 16, 48, 112, 255, 511]) (soft := 767) mixed (.op 0 (.op 1 (.op 2 (.op 3 (.op 4 (.op 5 (.op 6 (.op 7 (.op 8 (.op 9 .nil)))))))))) (by kernel_rfl) H ?_
    intro w H
    refine re_move rfl rfl rfl rfl rfl ?_
    first | refine re_field0 rfl rfl rfl rfl rfl fo_137_1 ?_ | refine re_field rfl rfl rfl rfl rfl fo_137_1 ?_ | refine re_fieldA rfl rfl rfl rfl rfl fo_137_1 ?_
    refine re_load H rfl rfl rfl rfl rfl sh_28 (by first | exact rdAt_all rfl | (simp only [rdAt, PS.cells, PS.over, GM.cells, Cmd.cells, List.cons_append, List.nil_append, List.drop_succ_cons, List.drop_zero, List.take_succ_cons, List.take_zero, List.length_cons, List.length_nil, Nat.zero_add, Nat.reduceAdd, Nat.reduceLeDiff, Nat.le_refl, ↓reduceIte] <;> rfl)) ?_
    refine re_build rfl rfl rfl rfl rfl ze_46 pl_46 (by simp only [fillL, setMany, Value.cells, List.getElem?_cons_zero, List.getElem?_cons_succ, List.length_cons, List.length_nil, List.set_cons_zero, List.set_cons_succ, Nat.reduceAdd, Nat.reduceLeDiff, Nat.zero_add, and_self, ↓reduceIte]; rfl) ?_
    refine re_move rfl rfl rfl rfl rfl ?_
    refine re_nilc rfl rfl rfl rfl rfl ?_
    first | refine re_field0 rfl rfl rfl rfl rfl fo_80_3 ?_ | refine re_field rfl rfl rfl rfl rfl fo_80_3 ?_ | refine re_fieldA rfl rfl rfl rfl rfl fo_80_3 ?_
    refine re_load H rfl rfl rfl rfl rfl sh_31 rfl ?_
    refine re_call en_54 rfl rfl rfl rfl rfl ?_
    refine Calls.mono (send_s (p := { p.over with dc := .pointer (some ⟨d, 0, none⟩) }) (m := GM.learned cm) H (H.tail.rsees p.ga) hn) ?_
    rintro e w ⟨a, c, rfl, H⟩
    refine ⟨_, rfl, (fun _ => ⟨ancs (i := 8) (j := 7) rfl, ancs (i := 8) (j := 2) rfl, trivial⟩), ?_⟩
    refine re_assign rfl rfl rfl rfl rfl ?_
    refine re_nil ?_
    refine qe_noPanic ?_
    refine qe_thenC ?_
    refine ce_ret ?_
    refine qe_block_ret ?_
    refine qe_then_ret ?_
    refine qe_end rfl rfl ?_
    have H := Own.arr [2, 3, 3, 3] H
    simp only [arrs, Fw.front, zm1, zm2, zm3, zm4, zm5] at H
    replace H := H.sub (.cons_cons _ (.cons_cons _ (.cons_cons _ (.cons_cons _ (.cons _ (List.Sublist.refl _))))))
    exact ⟨d, a, c, rfl, H⟩
end Go.Proofs.Ytofaoblfemfkiaa

namespace Go.Proofs.Ytofaoblfemfkiaa
open Go Go.RowKit Go.Fw
set_option linter.unusedSimpArgs false
set_option linter.unusedVariables false
set_option maxRecDepth 4000
set_option maxHeartbeats 2000000
theorem en_43 : Enterable Try.prog 43 := ⟨Try.f43, Try.func43, rfl, by decide⟩
theorem en_49 : Enterable Try.prog 49 := ⟨Try.f49, Try.func49, rfl, by decide⟩

def PS.nack (p : PS) (n : Int) : PS := { p with rf := true, nt := max p.nt n }
theorem take_foreignP {B w : World} {F : List Ent} {g : Nat} {p : PS} {m : GM} {q : Nat} (H : Own B (.cells g 80 p.cells :: .row p.ga p.gc 3 1 p.gs.length (ints p.gs) :: F) w) (hn : p.gs.length ≤ 1000000) (hi : p.ph = phP q) (hw : p.wants m = false) :
    Calls Try.prog 18 #[.pointer (some ⟨g, 0, none⟩), .agg m.cells.toArray] w fun e w' => e = .returned (slv none 0 0) ∧ Own B (.cells g 80 p.cells :: .row p.ga p.gc 3 1 p.gs.length (ints p.gs) :: F) w' := by
  refine calls_ce (args := [.pointer (some ⟨g, 0, none⟩), .agg m.cells.toArray]) Try.func18 rfl rfl ?_
  change CE _ _ 80 _ _ [(0, .pointer (some ⟨g, 0, none⟩)), (1, .agg m.cells.toArray)] _
  refine ce_seq ?_
  refine ce_text (tab := []) (soft := 2) (.op 0 (.op 1 .nil)) rfl rfl ?_
  refine re_box H rfl rfl rfl rfl rfl rfl ?_
  intro g3 w H
  refine ⟨(fun h => (nomatch h)), ?_⟩
  refine re_assign rfl rfl rfl rfl rfl ?_
  refine re_nil ?_
  refine qe_thenC ?_
  refine ce_seq ?_
  refine ce_seq ?_
  refine ce_text (tab := []) (soft := 3670015) (.op 0 (.op 1 (.op 2 (.op 3 (.op 4 (.op 5 (.op 6 (.op 7 (.op 8 (.op 9 (.op 10 (.op 11 (.op 12 (.op 13 (.op 14 (.op 15 (.op 16 (.op 17 (.op 18 (.op 19 (.op 20 (.op 21 .nil)))))))))))))))))))))) rfl rfl ?_
  refine re_move rfl rfl rfl rfl rfl ?_
  refine re_nilc rfl rfl rfl rfl rfl ?_
  first | refine re_field0 rfl rfl rfl rfl rfl fo_80_10 ?_ | refine re_field rfl rfl rfl rfl rfl fo_80_10 ?_ | refine re_fieldA rfl rfl rfl rfl rfl fo_80_10 ?_
  refine re_load H rfl rfl rfl rfl rfl sh_76 rfl ?_
  refine re_build rfl rfl rfl rfl rfl ze_73 pl_73 (by simp only [fillL, setMany, Value.cells, List.getElem?_cons_zero, List.getElem?_cons_succ, List.length_cons, List.length_nil, List.set_cons_zero, List.set_cons_succ, Nat.reduceAdd, Nat.reduceLeDiff, Nat.zero_add, and_self, ↓reduceIte]; rfl) ?_
  refine re_iface rfl rfl rfl rfl rfl nif_73 ?_
  simp only [hi]
  refine re_binW rfl rfl rfl rfl rfl rfl (run_ifNe ifc_76 rfl (.inl ⟨rfl, rfl⟩)) ?_
  refine re_move rfl rfl rfl rfl rfl ?_
  refine re_move rfl rfl rfl rfl rfl ?_
  refine re_nilc rfl rfl rfl rfl rfl ?_
  first | refine re_field0 rfl rfl rfl rfl rfl fo_80_10 ?_ | refine re_field rfl rfl rfl rfl rfl fo_80_10 ?_ | refine re_fieldA rfl rfl rfl rfl rfl fo_80_10 ?_
  refine re_load H rfl rfl rfl rfl rfl sh_76 rfl ?_
  refine re_build rfl rfl rfl rfl rfl ze_97 pl_97 (by simp only [fillL, setMany, Value.cells, List.getElem?_cons_zero, List.getElem?_cons_succ, List.length_cons, List.length_nil, List.set_cons_zero, List.set_cons_succ, Nat.reduceAdd, Nat.reduceLeDiff, Nat.zero_add, and_self, ↓reduceIte]; rfl) ?_
  refine re_iface rfl rfl rfl rfl rfl nif_97 ?_
  simp only [hi]
  refine re_binW rfl rfl rfl rfl rfl rfl (run_ifNe ifc_76 rfl (.inl ⟨rfl, rfl⟩)) ?_
  refine re_pickF rfl rfl rfl rfl rfl rfl ?_
  refine re_move rfl rfl rfl rfl rfl ?_
  refine re_move rfl rfl rfl rfl rfl ?_
  refine re_load H rfl rfl rfl rfl rfl sh_46 (by first | exact rdAt_all rfl | (simp only [rdAt, PS.cells, PS.over, GM.cells, Cmd.cells, List.cons_append, List.nil_append, List.drop_succ_cons, List.drop_zero, List.take_succ_cons, List.take_zero, List.length_cons, List.length_nil, Nat.zero_add, Nat.reduceAdd, Nat.reduceLeDiff, Nat.le_refl, ↓reduceIte] <;> rfl)) ?_
  refine re_call en_43 rfl rfl rfl rfl rfl ?_
  have H := H.front 2
  have H := H.front 2
  simp only [arrs, Fw.front, zm1, zm2, zm3, zm4, zm5] at H
  refine Calls.mono (forMe_s H hn) ?_
  rintro e w ⟨rfl, H⟩
  refine ⟨_, rfl, (fun h => (nomatch h)), ?_⟩
  refine re_not rfl rfl rfl rfl rfl ?_
  refine re_pickF rfl rfl rfl rfl rfl rfl ?_
  refine re_nil ?_
  refine qe_thenC ?_
  refine ce_cond rfl (fun h0 => ?_) (fun h0 => ?_)
  · try simp only [zn1, zn2, zn3, zn4, zn5, zn6] at h0
    refine ce_seq ?_
    refine ce_text (tab := []) (soft := 1) (.op 0 .nil) rfl rfl ?_
    refine re_assign rfl rfl rfl rfl rfl ?_
    refine re_nil ?_
    refine qe_thenC ?_
    refine ce_ret ?_
    refine qe_then_ret ?_
    refine qe_end rfl rfl ?_
    exact ⟨rfl, H.sub (.cons_cons _ (.cons_cons _ (.cons _ (List.Sublist.refl _))))⟩
  · try simp only [zn1, zn2, zn3, zn4, zn5, zn6] at h0
    rw [hw] at h0; cases h0

theorem take_knownP {B w : World} {F : List Ent} {g : Nat} {p : PS} {m : GM} {q : Nat} (H : Own B (.cells g 80 p.cells :: .row p.ga p.gc 3 1 p.gs.length (ints p.gs) :: F) w) (hn : p.gs.length ≤ 1000000) (hi : p.ph = phP q) (hkd : m.kind = 16) (hw : p.wants m = true) :
    Calls Try.prog 18 #[.pointer (some ⟨g, 0, none⟩), .agg m.cells.toArray] w fun e w' => ∃ d, e = .returned (slv none 0 0) ∧ Own B (.cells g 80 { p.over with dc := .pointer (some ⟨d, 0, none⟩) }.cells :: .row p.ga p.gc 3 1 p.gs.length (ints p.gs) :: .cells d 28 m.cmd.cells :: F) w' := by
  refine calls_ce (args := [.pointer (some ⟨g, 0, none⟩), .agg m.cells.toArray]) Try.func18 rfl rfl ?_
  change CE _ _ 80 _ _ [(0, .pointer (some ⟨g, 0, none⟩)), (1, .agg m.cells.toArray)] _
  refine ce_seq ?_
  refine ce_text (tab := []) (soft := 2) (.op 0 (.op 1 .nil)) rfl rfl ?_
  refine re_box H rfl rfl rfl rfl rfl rfl ?_
  intro g3 w H
  refine ⟨(fun h => (nomatch h)), ?_⟩
  refine re_assign rfl rfl rfl rfl rfl ?_
  refine re_nil ?_
  refine qe_thenC ?_
  refine ce_seq ?_
  refine ce_seq ?_
  refine ce_text (tab := []) (soft := 3670015) (.op 0 (.op 1 (.op 2 (.op 3 (.op 4 (.op 5 (.op 6 (.op 7 (.op 8 (.op 9 (.op 10 (.op 11 (.op 12 (.op 13 (.op 14 (.op 15 (.op 16 (.op 17 (.op 18 (.op 19 (.op 20 (.op 21 .nil)))))))))))))))))))))) rfl rfl ?_
  refine re_move rfl rfl rfl rfl rfl ?_
  refine re_nilc rfl rfl rfl rfl rfl ?_
  first | refine re_field0 rfl rfl rfl rfl rfl fo_80_10 ?_ | refine re_field rfl rfl rfl rfl rfl fo_80_10 ?_ | refine re_fieldA rfl rfl rfl rfl rfl fo_80_10 ?_
  refine re_load H rfl rfl rfl rfl rfl sh_76 rfl ?_
  refine re_build rfl rfl rfl rfl rfl ze_73 pl_73 (by simp only [fillL, setMany, Value.cells, List.getElem?_cons_zero, List.getElem?_cons_succ, List.length_cons, List.length_nil, List.set_cons_zero, List.set_cons_succ, Nat.reduceAdd, Nat.reduceLeDiff, Nat.zero_add, and_self, ↓reduceIte]; rfl) ?_
  refine re_iface rfl rfl rfl rfl rfl nif_73 ?_
  simp only [hi]
  refine re_binW rfl rfl rfl rfl rfl rfl (run_ifNe ifc_76 rfl (.inl ⟨rfl, rfl⟩)) ?_
  refine re_move rfl rfl rfl rfl rfl ?_
  refine re_move rfl rfl rfl rfl rfl ?_
  refine re_nilc rfl rfl rfl rfl rfl ?_
  first | refine re_field0 rfl rfl rfl rfl rfl fo_80_10 ?_ | refine re_field rfl rfl rfl rfl rfl fo_80_10 ?_ | refine re_fieldA rfl rfl rfl rfl rfl fo_80_10 ?_
  refine re_load H rfl rfl rfl rfl rfl sh_76 rfl ?_
  refine re_build rfl rfl rfl rfl rfl ze_97 pl_97 (by simp only [fillL, setMany, Value.cells, List.getElem?_cons_zero, List.getElem?_cons_succ, List.length_cons, List.length_nil, List.set_cons_zero, List.set_cons_succ, Nat.reduceAdd, Nat.reduceLeDiff, Nat.zero_add, and_self, ↓reduceIte]; rfl) ?_
  refine re_iface rfl rfl rfl rfl rfl nif_97 ?_
  simp only [hi]
  refine re_binW rfl rfl rfl rfl rfl rfl (run_ifNe ifc_76 rfl (.inl ⟨rfl, rfl⟩)) ?_
  refine re_pickF rfl rfl rfl rfl rfl rfl ?_
  refine re_move rfl rfl rfl rfl rfl ?_
  refine re_move rfl rfl rfl rfl rfl ?_
  refine re_load H rfl rfl rfl rfl rfl sh_46 (by first | exact rdAt_all rfl | (simp only [rdAt, PS.cells, PS.over, GM.cells, Cmd.cells, List.cons_append, List.nil_append, List.drop_succ_cons, List.drop_zero, List.take_succ_cons, List.take_zero, List.length_cons, List.length_nil, Nat.zero_add, Nat.reduceAdd, Nat.reduceLeDiff, Nat.le_refl, ↓reduceIte] <;> rfl)) ?_
  refine re_call en_43 rfl rfl rfl rfl rfl ?_
  have H := H.front 2
  have H := H.front 2
  simp only [arrs, Fw.front, zm1, zm2, zm3, zm4, zm5] at H
  refine Calls.mono (forMe_s H hn) ?_
  rintro e w ⟨rfl, H⟩
  refine ⟨_, rfl, (fun h => (nomatch h)), ?_⟩
  refine re_not rfl rfl rfl rfl rfl ?_
  refine re_pickF rfl rfl rfl rfl rfl rfl ?_
  refine re_nil ?_
  refine qe_thenC ?_
  refine ce_cond rfl (fun h0 => ?_) (fun h0 => ?_)
  · try simp only [zn1, zn2, zn3, zn4, zn5, zn6] at h0
    rw [hw] at h0; cases h0
  · try simp only [zn1, zn2, zn3, zn4, zn5, zn6] at h0
    refine ce_skip ?_
    refine qe_thenC ?_
    refine ce_seq ?_
    refine ce_seq ?_
    refine ce_text (tab := []) (soft := 3) (.op 0 (.op 1 .nil)) rfl rfl ?_
    first | refine re_field0 rfl rfl rfl rfl rfl fo_46_0 ?_ | refine re_field rfl rfl rfl rfl rfl fo_46_0 ?_ | refine re_fieldA rfl rfl rfl rfl rfl fo_46_0 ?_
    refine re_load H rfl rfl rfl rfl rfl sh_3 rfl ?_
    refine re_nil ?_
    refine qe_thenC ?_
    refine ce_block ?_
    refine ce_seq ?_
    refine ce_text (tab := []) (soft := 3) (.op 0 (.op 1 .nil)) rfl rfl ?_
    refine re_bin rfl rfl rfl rfl rfl rfl rfl ?_
    refine re_assign rfl rfl rfl rfl rfl ?_
    refine re_nil ?_
    refine qe_thenC ?_
    refine ce_cond rfl (fun h1 => ?_) (fun h1 => ?_)
    · try simp only [zn1, zn2, zn3, zn4, zn5, zn6] at h1
      refine ce_text (tab := []) (soft := 7) (.op 0 (.op 1 (.op 2 (.op 3 .nil)))) rfl rfl ?_
      refine re_move rfl rfl rfl rfl rfl ?_
      first | refine re_field0 rfl rfl rfl rfl rfl fo_46_9 ?_ | refine re_field rfl rfl rfl rfl rfl fo_46_9 ?_ | refine re_fieldA rfl rfl rfl rfl rfl fo_46_9 ?_
      refine re_load H rfl rfl rfl rfl rfl sh_28 (by first | exact rdAt_all rfl | (simp only [rdAt, PS.cells, PS.over, GM.cells, Cmd.cells, List.cons_append, List.nil_append, List.drop_succ_cons, List.drop_zero, List.take_succ_cons, List.take_zero, List.length_cons, List.length_nil, Nat.zero_add, Nat.reduceAdd, Nat.reduceLeDiff, Nat.le_refl, ↓reduceIte] <;> rfl)) ?_
      refine re_call en_44 rfl rfl rfl rfl rfl ?_
      refine Calls.mono (decide_s (c := m.cmd) H) ?_
      rintro e w ⟨d, rfl, H⟩
      refine ⟨_, rfl, (fun h => (nomatch h)), ?_⟩
      refine re_nil ?_
      refine qe_block_norm ?_
      refine qe_thenC ?_
      refine ce_seq ?_
      refine ce_text (tab := []) (soft := 1) (.op 0 .nil) rfl rfl ?_
      refine re_assign rfl rfl rfl rfl rfl ?_
      refine re_nil ?_
      refine qe_thenC ?_
      refine ce_ret ?_
      refine qe_end rfl rfl ?_
      have H := Own.arr [1, 2, 2] H
      simp only [arrs, Fw.front, zm1, zm2, zm3, zm4, zm5] at H
      replace H := H.sub (.cons_cons _ (.cons_cons _ (.cons_cons _ (.cons _ (List.Sublist.refl _)))))
      exact ⟨d, rfl, H⟩
    · try simp only [zn1, zn2, zn3, zn4, zn5, zn6] at h1
      omega

theorem take_nackP {B w : World} {F : List Ent} {g : Nat} {p : PS} {m : GM} {q : Nat} {ht hm hc : Nat} {ha : Option Nat} {hs : List Int} (H : Own B (.cells g 80 p.cells :: .row p.ga p.gc 3 1 p.gs.length (ints p.gs) :: .cells ht 109 [slv ha p.gs.length hc, .int .i64 ((p.gs.length : Int) + 1), .map (some hm)] :: .row ha hc 3 1 p.gs.length (ints p.gs) :: .imap hm (heardK hs) :: F) w) (hn : p.gs.length ≤ 1000000) (hi : p.ph = phP q) (hkd : m.kind = 14) (hw : p.wants m = true) (hh : p.hd = .pointer (some ⟨ht, 0, none⟩)) (hl : hs.length ≤ p.gs.length) (hf : p.fresh hs m.fi = true) :
    Calls Try.prog 18 #[.pointer (some ⟨g, 0, none⟩), .agg m.cells.toArray] w fun e w' => e = .returned (slv none 0 0) ∧ Own B (.cells g 80 (p.nack m.s0).cells :: .row p.ga p.gc 3 1 p.gs.length (ints p.gs) :: .cells ht 109 [slv ha p.gs.length hc, .int .i64 ((p.gs.length : Int) + 1), .map (some hm)] :: .row ha hc 3 1 p.gs.length (ints p.gs) :: .imap hm (heardK (hs ++ [m.fi])) :: F) w' := by
  refine calls_ce (args := [.pointer (some ⟨g, 0, none⟩), .agg m.cells.toArray]) Try.func18 rfl rfl ?_
  change CE _ _ 80 _ _ [(0, .pointer (some ⟨g, 0, none⟩)), (1, .agg m.cells.toArray)] _
  refine ce_seq ?_
  refine ce_text (tab := []) (soft := 2) (.op 0 (.op 1 .nil)) rfl rfl ?_
  refine re_box H rfl rfl rfl rfl rfl rfl ?_
  intro g3 w H
  refine ⟨(fun h => (nomatch h)), ?_⟩
  refine re_assign rfl rfl rfl rfl rfl ?_
  refine re_nil ?_
  refine qe_thenC ?_
  refine ce_seq ?_
  refine ce_seq ?_
  refine ce_text (tab := []) (soft := 3670015) (.op 0 (.op 1 (.op 2 (.op 3 (.op 4 (.op 5 (.op 6 (.op 7 (.op 8 (.op 9 (.op 10 (.op 11 (.op 12 (.op 13 (.op 14 (.op 15 (.op 16 (.op 17 (.op 18 (.op 19 (.op 20 (.op 21 .nil)))))))))))))))))))))) rfl rfl ?_
  refine re_move rfl rfl rfl rfl rfl ?_
  refine re_nilc rfl rfl rfl rfl rfl ?_
  first | refine re_field0 rfl rfl rfl rfl rfl fo_80_10 ?_ | refine re_field rfl rfl rfl rfl rfl fo_80_10 ?_ | refine re_fieldA rfl rfl rfl rfl rfl fo_80_10 ?_
  refine re_load H rfl rfl rfl rfl rfl sh_76 rfl ?_
  refine re_build rfl rfl rfl rfl rfl ze_73 pl_73 (by simp only [fillL, setMany, Value.cells, List.getElem?_cons_zero, List.getElem?_cons_succ, List.length_cons, List.length_nil, List.set_cons_zero, List.set_cons_succ, Nat.reduceAdd, Nat.reduceLeDiff, Nat.zero_add, and_self, ↓reduceIte]; rfl) ?_
  refine re_iface rfl rfl rfl rfl rfl nif_73 ?_
  simp only [hi]
  refine re_binW rfl rfl rfl rfl rfl rfl (run_ifNe ifc_76 rfl (.inl ⟨rfl, rfl⟩)) ?_
  refine re_move rfl rfl rfl rfl rfl ?_
  refine re_move rfl rfl rfl rfl rfl ?_
  refine re_nilc rfl rfl rfl rfl rfl ?_
  first | refine re_field0 rfl rfl rfl rfl rfl fo_80_10 ?_ | refine re_field rfl rfl rfl rfl rfl fo_80_10 ?_ | refine re_fieldA rfl rfl rfl rfl rfl fo_80_10 ?_
  refine re_load H rfl rfl rfl rfl rfl sh_76 rfl ?_
  refine re_build rfl rfl rfl rfl rfl ze_97 pl_97 (by simp only [fillL, setMany, Value.cells, List.getElem?_cons_zero, List.getElem?_cons_succ, List.length_cons, List.length_nil, List.set_cons_zero, List.set_cons_succ, Nat.reduceAdd, Nat.reduceLeDiff, Nat.zero_add, and_self, ↓reduceIte]; rfl) ?_
  refine re_iface rfl rfl rfl rfl rfl nif_97 ?_
  simp only [hi]
  refine re_binW rfl rfl rfl rfl rfl rfl (run_ifNe ifc_76 rfl (.inl ⟨rfl, rfl⟩)) ?_
  refine re_pickF rfl rfl rfl rfl rfl rfl ?_
  refine re_move rfl rfl rfl rfl rfl ?_
  refine re_move rfl rfl rfl rfl rfl ?_
  refine re_load H rfl rfl rfl rfl rfl sh_46 (by first | exact rdAt_all rfl | (simp only [rdAt, PS.cells, PS.over, GM.cells, Cmd.cells, List.cons_append, List.nil_append, List.drop_succ_cons, List.drop_zero, List.take_succ_cons, List.take_zero, List.length_cons, List.length_nil, Nat.zero_add, Nat.reduceAdd, Nat.reduceLeDiff, Nat.le_refl, ↓reduceIte] <;> rfl)) ?_
  refine re_call en_43 rfl rfl rfl rfl rfl ?_
  have H := H.front 2
  have H := H.front 2
  simp only [arrs, Fw.front, zm1, zm2, zm3, zm4, zm5] at H
  refine Calls.mono (forMe_s H hn) ?_
  rintro e w ⟨rfl, H⟩
  refine ⟨_, rfl, (fun h => (nomatch h)), ?_⟩
  refine re_not rfl rfl rfl rfl rfl ?_
  refine re_pickF rfl rfl rfl rfl rfl rfl ?_
  refine re_nil ?_
  refine qe_thenC ?_
  refine ce_cond rfl (fun h0 => ?_) (fun h0 => ?_)
  · try simp only [zn1, zn2, zn3, zn4, zn5, zn6] at h0
    rw [hw] at h0; cases h0
  · try simp only [zn1, zn2, zn3, zn4, zn5, zn6] at h0
    refine ce_skip ?_
    refine qe_thenC ?_
    refine ce_seq ?_
    refine ce_seq ?_
    refine ce_text (tab := []) (soft := 3) (.op 0 (.op 1 .nil)) rfl rfl ?_
    first | refine re_field0 rfl rfl rfl rfl rfl fo_46_0 ?_ | refine re_field rfl rfl rfl rfl rfl fo_46_0 ?_ | refine re_fieldA rfl rfl rfl rfl rfl fo_46_0 ?_
    refine re_load H rfl rfl rfl rfl rfl sh_3 rfl ?_
    refine re_nil ?_
    refine qe_thenC ?_
    refine ce_block ?_
    refine ce_seq ?_
    refine ce_text (tab := []) (soft := 3) (.op 0 (.op 1 .nil)) rfl rfl ?_
    refine re_bin rfl rfl rfl rfl rfl rfl rfl ?_
    refine re_assign rfl rfl rfl rfl rfl ?_
    refine re_nil ?_
    refine qe_thenC ?_
    refine ce_cond rfl (fun h1 => ?_) (fun h1 => ?_)
    · try simp only [zn1, zn2, zn3, zn4, zn5, zn6] at h1
      omega
    · try simp only [zn1, zn2, zn3, zn4, zn5, zn6] at h1
      refine ce_seq ?_
      refine ce_text (tab := []) (soft := 3) (.op 0 (.op 1 .nil)) rfl rfl ?_
      refine re_bin rfl rfl rfl rfl rfl rfl rfl ?_
      refine re_assign rfl rfl rfl rfl rfl ?_
      refine re_nil ?_
      refine qe_thenC ?_
      refine ce_cond rfl (fun h2 => ?_) (fun h2 => ?_)
      · try simp only [zn1, zn2, zn3, zn4, zn5, zn6] at h2
        omega
      · try simp only [zn1, zn2, zn3, zn4, zn5, zn6] at h2
        refine ce_seq ?_
        refine ce_text (tab := []) (soft := 3) (.op 0 (.op 1 .nil)) rfl rfl ?_
        refine re_bin rfl rfl rfl rfl rfl rfl rfl ?_
        refine re_assign rfl rfl rfl rfl rfl ?_
        refine re_nil ?_
        refine qe_thenC ?_
        refine ce_cond rfl (fun h3 => ?_) (fun h3 => ?_)
        · try simp only [zn1, zn2, zn3, zn4, zn5, zn6] at h3
          refine ce_seq ?_
          refine ce_text (tab := []) (soft := 3) (.op 0 (.op 1 (.op 2 .nil))) rfl rfl ?_
          refine re_move rfl rfl rfl rfl rfl ?_
          refine re_load H rfl rfl rfl rfl rfl sh_46 (by first | exact rdAt_all rfl | (simp only [rdAt, PS.cells, PS.over, GM.cells, Cmd.cells, List.cons_append, List.nil_append, List.drop_succ_cons, List.drop_zero, List.take_succ_cons, List.take_zero, List.length_cons, List.length_nil, Nat.zero_add, Nat.reduceAdd, Nat.reduceLeDiff, Nat.le_refl, ↓reduceIte] <;> rfl)) ?_
          refine re_call en_48 rfl rfl rfl rfl rfl ?_
          have H := Own.arr [2, 2, 5, 5, 5, 5] H
          simp only [arrs, Fw.front, zm1, zm2, zm3, zm4, zm5] at H
          refine Calls.mono (fresh_s H hh hn hl) ?_
          rintro e w ⟨rfl, H⟩
          simp only [hf] at H ⊢
          refine ⟨_, rfl, (fun h => (nomatch h)), ?_⟩
          refine re_nil ?_
          refine qe_thenC ?_
          refine ce_condT rfl ?_
          refine ce_open (tab := [0, 0, 0, 4, 12, 28, 0, 64, 192, 508, 61, 1085, 3133, 8191, 16383, 32767]) (soft := 28671) mixed (.op 0 (.op 1 (.op 2 (.op 3 (.op 4 (.op 5 (.op 6 (.op 7 (.op 8 (.op 9 (.op 10 (.op 11 (.op 12 (.op 13 (.op 14 (.op 15 .nil)))))))))))))))) (by kernel_rfl) H ?_
          intro w H
          refine re_move rfl rfl rfl rfl rfl ?_
          refine re_move rfl rfl rfl rfl rfl ?_
          refine re_move rfl rfl rfl rfl rfl ?_
          refine re_nilc rfl rfl rfl rfl rfl ?_
          first | refine re_field0 rfl rfl rfl rfl rfl fo_80_7 ?_ | refine re_field rfl rfl rfl rfl rfl fo_80_7 ?_ | refine re_fieldA rfl rfl rfl rfl rfl fo_80_7 ?_
          refine re_load H rfl rfl rfl rfl rfl sh_3 rfl ?_
          first | refine re_field0 rfl rfl rfl rfl rfl fo_46_6 ?_ | refine re_field rfl rfl rfl rfl rfl fo_46_6 ?_ | refine re_fieldA rfl rfl rfl rfl rfl fo_46_6 ?_
          first | refine re_field0 rfl rfl rfl rfl rfl fo_38_0 ?_ | refine re_field rfl rfl rfl rfl rfl fo_38_0 ?_ | refine re_fieldA rfl rfl rfl rfl rfl fo_38_0 ?_
          refine re_load H rfl rfl rfl rfl rfl sh_3 rfl ?_
          refine re_max rfl rfl rfl rfl rfl rfl ?_
          refine re_nilc rfl rfl rfl rfl rfl ?_
          first | refine re_field0 rfl rfl rfl rfl rfl fo_80_8 ?_ | refine re_field rfl rfl rfl rfl rfl fo_80_8 ?_ | refine re_fieldA rfl rfl rfl rfl rfl fo_80_8 ?_
          refine re_store H rfl rfl rfl rfl rfl rfl sh_4 rfl rfl rfl ?_
          intro cs w hcs H
          first | rw [setMany_whole rfl] at hcs | simp only [setMany, List.set_cons_zero, List.set_cons_succ, Nat.reduceAdd, Nat.zero_add, PS.cells, PS.over, GM.cells, Cmd.cells, List.cons_append, List.nil_append] at hcs
          subst hcs
          refine ⟨(fun _ => ⟨fun _ => still_load H sh_3 rfl, ancs (i := 12) (j := 5) rfl, trivial⟩), ?_⟩
          refine re_nilc rfl rfl rfl rfl rfl ?_
          first | refine re_field0 rfl rfl rfl rfl rfl fo_80_7 ?_ | refine re_field rfl rfl rfl rfl rfl fo_80_7 ?_ | refine re_fieldA rfl rfl rfl rfl rfl fo_80_7 ?_
          refine re_store H rfl rfl rfl rfl rfl rfl sh_3 rfl rfl rfl ?_
          intro cs w hcs H
          first | rw [setMany_whole rfl] at hcs | simp only [setMany, List.set_cons_zero, List.set_cons_succ, Nat.reduceAdd, Nat.zero_add, PS.cells, PS.over, GM.cells, Cmd.cells, List.cons_append, List.nil_append] at hcs
          subst hcs
          refine ⟨(fun _ => ⟨ancs (i := 15) (j := 8) rfl, ancs (i := 15) (j := 5) rfl, trivial⟩), ?_⟩
          refine re_nil ?_
          refine qe_noPanic ?_
          refine qe_block_norm ?_
          refine qe_thenC ?_
          refine ce_seq ?_
          refine ce_text (tab := []) (soft := 1) (.op 0 .nil) rfl rfl ?_
          refine re_assign rfl rfl rfl rfl rfl ?_
          refine re_nil ?_
          refine qe_thenC ?_
          refine ce_ret ?_
          refine qe_end rfl rfl ?_
          simp only [if_true] at H
          have H := Own.arr [3, 3, 3, 4, 4] H
          simp only [arrs, Fw.front, zm1, zm2, zm3, zm4, zm5] at H
          replace H := H.sub (.cons_cons _ (.cons_cons _ (.cons_cons _ (.cons_cons _ (.cons_cons _ (.cons _ (List.Sublist.refl _)))))))
          exact ⟨rfl, H⟩
        · try simp only [zn1, zn2, zn3, zn4, zn5, zn6] at h3
          omega

theorem take_nackOldP {B w : World} {F : List Ent} {g : Nat} {p : PS} {m : GM} {q : Nat} {ht hm hc : Nat} {ha : Option Nat} {hs : List Int} (H : Own B (.cells g 80 p.cells :: .row p.ga p.gc 3 1 p.gs.length (ints p.gs) :: .cells ht 109 [slv ha p.gs.length hc, .int .i64 ((p.gs.length : Int) + 1), .map (some hm)] :: .row ha hc 3 1 p.gs.length (ints p.gs) :: .imap hm (heardK hs) :: F) w) (hn : p.gs.length ≤ 1000000) (hi : p.ph = phP q) (hkd : m.kind = 14) (hw : p.wants m = true) (hh : p.hd = .pointer (some ⟨ht, 0, none⟩)) (hl : hs.length ≤ p.gs.length) (hf : p.fresh hs m.fi = false) :
    Calls Try.prog 18 #[.pointer (some ⟨g, 0, none⟩), .agg m.cells.toArray] w fun e w' => e = .returned (slv none 0 0) ∧ Own B (.cells g 80 p.cells :: .row p.ga p.gc 3 1 p.gs.length (ints p.gs) :: .cells ht 109 [slv ha p.gs.length hc, .int .i64 ((p.gs.length : Int) + 1), .map (some hm)] :: .row ha hc 3 1 p.gs.length (ints p.gs) :: .imap hm (heardK hs) :: F) w' := by
  refine calls_ce (args := [.pointer (some ⟨g, 0, none⟩), .agg m.cells.toArray]) Try.func18 rfl rfl ?_
  change CE _ _ 80 _ _ [(0, .pointer (some ⟨g, 0, none⟩)), (1, .agg m.cells.toArray)] _
  refine ce_seq ?_
  refine ce_text (tab := []) (soft := 2) (.op 0 (.op 1 .nil)) rfl rfl ?_
  refine re_box H rfl rfl rfl rfl rfl rfl ?_
  intro g3 w H
  refine ⟨(fun h => (nomatch h)), ?_⟩
  refine re_assign rfl rfl rfl rfl rfl ?_
  refine re_nil ?_
  refine qe_thenC ?_
  refine ce_seq ?_
  refine ce_seq ?_
  refine ce_text (tab := []) (soft := 3670015) (.op 0 (.op 1 (.op 2 (.op 3 (.op 4 (.op 5 (.op 6 (.op 7 (.op 8 (.op 9 (.op 10 (.op 11 (.op 12 (.op 13 (.op 14 (.op 15 (.op 16 (.op 17 (.op 18 (.op 19 (.op 20 (.op 21 .nil)))))))))))))))))))))) rfl rfl ?_
  refine re_move rfl rfl rfl rfl rfl ?_
  refine re_nilc rfl rfl rfl rfl rfl ?_
  first | refine re_field0 rfl rfl rfl rfl rfl fo_80_10 ?_ | refine re_field rfl rfl rfl rfl rfl fo_80_10 ?_ | refine re_fieldA rfl rfl rfl rfl rfl fo_80_10 ?_
  refine re_load H rfl rfl rfl rfl rfl sh_76 rfl ?_
  refine re_build rfl rfl rfl rfl rfl ze_73 pl_73 (by simp only [fillL, setMany, Value.cells, List.getElem?_cons_zero, List.getElem?_cons_succ, List.length_cons, List.length_nil, List.set_cons_zero, List.set_cons_succ, Nat.reduceAdd, Nat.reduceLeDiff, Nat.zero_add, and_self, ↓reduceIte]; rfl) ?_
  refine re_iface rfl rfl rfl rfl rfl nif_73 ?_
  simp only [hi]
  refine re_binW rfl rfl rfl rfl rfl rfl (run_ifNe ifc_76 rfl (.inl ⟨rfl, rfl⟩)) ?_
  refine re_move rfl rfl rfl rfl rfl ?_
  refine re_move rfl rfl rfl rfl rfl ?_
  refine re_nilc rfl rfl rfl rfl rfl ?_
  first | refine re_field0 rfl rfl rfl rfl rfl fo_80_10 ?_ | refine re_field rfl rfl rfl rfl rfl fo_80_10 ?_ | refine re_fieldA rfl rfl rfl rfl rfl fo_80_10 ?_
  refine re_load H rfl rfl rfl rfl rfl sh_76 rfl ?_
  refine re_build rfl rfl rfl rfl rfl ze_97 pl_97 (by simp only [fillL, setMany, Value.cells, List.getElem?_cons_zero, List.getElem?_cons_succ, List.length_cons, List.length_nil, List.set_cons_zero, List.set_cons_succ, Nat.reduceAdd, Nat.reduceLeDiff, Nat.zero_add, and_self, ↓reduceIte]; rfl) ?_
  refine re_iface rfl rfl rfl rfl rfl nif_97 ?_
  simp only [hi]
  refine re_binW rfl rfl rfl rfl rfl rfl (run_ifNe ifc_76 rfl (.inl ⟨rfl, rfl⟩)) ?_
  refine re_pickF rfl rfl rfl rfl rfl rfl ?_
  refine re_move rfl rfl rfl rfl rfl ?_
  refine re_move rfl rfl rfl rfl rfl ?_
  refine re_load H rfl rfl rfl rfl rfl sh_46 (by first | exact rdAt_all rfl | (simp only [rdAt, PS.cells, PS.over, GM.cells, Cmd.cells, List.cons_append, List.nil_append, List.drop_succ_cons, List.drop_zero, List.take_succ_cons, List.take_zero, List.length_cons, List.length_nil, Nat.zero_add, Nat.reduceAdd, Nat.reduceLeDiff, Nat.le_refl, ↓reduceIte] <;> rfl)) ?_
  refine re_call en_43 rfl rfl rfl rfl rfl ?_
  have H := H.front 2
  have H := H.front 2
  simp only [arrs, Fw.front, zm1, zm2, zm3, zm4, zm5] at H
  refine Calls.mono (forMe_s H hn) ?_
  rintro e w ⟨rfl, H⟩
  refine ⟨_, rfl, (fun h => (nomatch h)), ?_⟩
  refine re_not rfl rfl rfl rfl rfl ?_
  refine re_pickF rfl rfl rfl rfl rfl rfl ?_
  refine re_nil ?_
  refine qe_thenC ?_
  refine ce_cond rfl (fun h0 => ?_) (fun h0 => ?_)
  · try simp only [zn1, zn2, zn3, zn4, zn5, zn6] at h0
    rw [hw] at h0; cases h0
  · try simp only [zn1, zn2, zn3, zn4, zn5, zn6] at h0
    refine ce_skip ?_
    refine qe_thenC ?_
    refine ce_seq ?_
    refine ce_seq ?_
    refine ce_text (tab := []) (soft := 3) (.op 0 (.op 1 .nil)) rfl rfl ?_
    first | refine re_field0 rfl rfl rfl rfl rfl fo_46_0 ?_ | refine re_field rfl rfl rfl rfl rfl fo_46_0 ?_ | refine re_fieldA rfl rfl rfl rfl rfl fo_46_0 ?_
    refine re_load H rfl rfl rfl rfl rfl sh_3 rfl ?_
    refine re_nil ?_
    refine qe_thenC ?_
    refine ce_block ?_
    refine ce_seq ?_
    refine ce_text (tab := []) (soft := 3) (.op 0 (.op 1 .nil)) rfl rfl ?_
    refine re_bin rfl rfl rfl rfl rfl rfl rfl ?_
    refine re_assign rfl rfl rfl rfl rfl ?_
    refine re_nil ?_
    refine qe_thenC ?_
    refine ce_cond rfl (fun h1 => ?_) (fun h1 => ?_)
    · try simp only [zn1, zn2, zn3, zn4, zn5, zn6] at h1
      omega
    · try simp only [zn1, zn2, zn3, zn4, zn5, zn6] at h1
      refine ce_seq ?_
      refine ce_text (tab := []) (soft := 3) (.op 0 (.op 1 .nil)) rfl rfl ?_
      refine re_bin rfl rfl rfl rfl rfl rfl rfl ?_
      refine re_assign rfl rfl rfl rfl rfl ?_
      refine re_nil ?_
      refine qe_thenC ?_
      refine ce_cond rfl (fun h2 => ?_) (fun h2 => ?_)
      · try simp only [zn1, zn2, zn3, zn4, zn5, zn6] at h2
        omega
      · try simp only [zn1, zn2, zn3, zn4, zn5, zn6] at h2
        refine ce_seq ?_
        refine ce_text (tab := []) (soft := 3) (.op 0 (.op 1 .nil)) rfl rfl ?_
        refine re_bin rfl rfl rfl rfl rfl rfl rfl ?_
        refine re_assign rfl rfl rfl rfl rfl ?_
        refine re_nil ?_
        refine qe_thenC ?_
        refine ce_cond rfl (fun h3 => ?_) (fun h3 => ?_)
        · try simp only [zn1, zn2, zn3, zn4, zn5, zn6] at h3
          refine ce_seq ?_
          refine ce_text (tab := []) (soft := 3) (.op 0 (.op 1 (.op 2 .nil))) rfl rfl ?_
          refine re_move rfl rfl rfl rfl rfl ?_
          refine re_load H rfl rfl rfl rfl rfl sh_46 (by first | exact rdAt_all rfl | (simp only [rdAt, PS.cells, PS.over, GM.cells, Cmd.cells, List.cons_append, List.nil_append, List.drop_succ_cons, List.drop_zero, List.take_succ_cons, List.take_zero, List.length_cons, List.length_nil, Nat.zero_add, Nat.reduceAdd, Nat.reduceLeDiff, Nat.le_refl, ↓reduceIte] <;> rfl)) ?_
          refine re_call en_48 rfl rfl rfl rfl rfl ?_
          have H := Own.arr [2, 2, 5, 5, 5, 5] H
          simp only [arrs, Fw.front, zm1, zm2, zm3, zm4, zm5] at H
          refine Calls.mono (fresh_s H hh hn hl) ?_
          rintro e w ⟨rfl, H⟩
          simp only [hf] at H ⊢
          refine ⟨_, rfl, (fun h => (nomatch h)), ?_⟩
          refine re_nil ?_
          refine qe_thenC ?_
          refine ce_condF rfl ?_
          refine ce_skip ?_
          refine qe_block_norm ?_
          refine qe_thenC ?_
          refine ce_seq ?_
          refine ce_text (tab := []) (soft := 1) (.op 0 .nil) rfl rfl ?_
          refine re_assign rfl rfl rfl rfl rfl ?_
          refine re_nil ?_
          refine qe_thenC ?_
          refine ce_ret ?_
          refine qe_end rfl rfl ?_
          simp only [Bool.false_eq_true, if_false] at H
          have H := Own.arr [3, 3, 3, 4, 4] H
          simp only [arrs, Fw.front, zm1, zm2, zm3, zm4, zm5] at H
          replace H := H.sub (.cons_cons _ (.cons_cons _ (.cons_cons _ (.cons_cons _ (.cons_cons _ (.cons _ (List.Sublist.refl _)))))))
          exact ⟨rfl, H⟩
        · try simp only [zn1, zn2, zn3, zn4, zn5, zn6] at h3
          omega

theorem take_countP {B w : World} {F : List Ent} {g : Nat} {p : PS} {m : GM} {q : Nat} {K : Value → World → Prop} (H : Own B (.cells g 80 p.cells :: .row p.ga p.gc 3 1 p.gs.length (ints p.gs) :: F) w) (hn : p.gs.length ≤ 1000000) (hi : p.ph = phP q) (hkd : m.kind = 13 ∨ m.kind = 15) (hw : p.wants m = true) (hK : ∀ b w, Own B (.cells g 80 p.cells :: .row p.ga p.gc 3 1 p.gs.length (ints p.gs) :: .cells b 46 m.cells :: F) w → Calls Try.prog 49 #[.pointer (some ⟨g, 0, none⟩), .agg m.cells.toArray] w fun e w' => ∃ v, e = .returned v ∧ K v w') :
    Calls Try.prog 18 #[.pointer (some ⟨g, 0, none⟩), .agg m.cells.toArray] w fun e w' => ∃ v, e = .returned v ∧ K v w' := by
  refine calls_ce (args := [.pointer (some ⟨g, 0, none⟩), .agg m.cells.toArray]) Try.func18 rfl rfl ?_
  change CE _ _ 80 _ _ [(0, .pointer (some ⟨g, 0, none⟩)), (1, .agg m.cells.toArray)] _
  refine ce_seq ?_
  refine ce_text (tab := []) (soft := 2) (.op 0 (.op 1 .nil)) rfl rfl ?_
  refine re_box H rfl rfl rfl rfl rfl rfl ?_
  intro g3 w H
  refine ⟨(fun h => (nomatch h)), ?_⟩
  refine re_assign rfl rfl rfl rfl rfl ?_
  refine re_nil ?_
  refine qe_thenC ?_
  refine ce_seq ?_
  refine ce_seq ?_
  refine ce_text (tab := []) (soft := 3670015) (.op 0 (.op 1 (.op 2 (.op 3 (.op 4 (.op 5 (.op 6 (.op 7 (.op 8 (.op 9 (.op 10 (.op 11 (.op 12 (.op 13 (.op 14 (.op 15 (.op 16 (.op 17 (.op 18 (.op 19 (.op 20 (.op 21 .nil)))))))))))))))))))))) rfl rfl ?_
  refine re_move rfl rfl rfl rfl rfl ?_
  refine re_nilc rfl rfl rfl rfl rfl ?_
  first | refine re_field0 rfl rfl rfl rfl rfl fo_80_10 ?_ | refine re_field rfl rfl rfl rfl rfl fo_80_10 ?_ | refine re_fieldA rfl rfl rfl rfl rfl fo_80_10 ?_
  refine re_load H rfl rfl rfl rfl rfl sh_76 rfl ?_
  refine re_build rfl rfl rfl rfl rfl ze_73 pl_73 (by simp only [fillL, setMany, Value.cells, List.getElem?_cons_zero, List.getElem?_cons_succ, List.length_cons, List.length_nil, List.set_cons_zero, List.set_cons_succ, Nat.reduceAdd, Nat.reduceLeDiff, Nat.zero_add, and_self, ↓reduceIte]; rfl) ?_
  refine re_iface rfl rfl rfl rfl rfl nif_73 ?_
  simp only [hi]
  refine re_binW rfl rfl rfl rfl rfl rfl (run_ifNe ifc_76 rfl (.inl ⟨rfl, rfl⟩)) ?_
  refine re_move rfl rfl rfl rfl rfl ?_
  refine re_move rfl rfl rfl rfl rfl ?_
  refine re_nilc rfl rfl rfl rfl rfl ?_
  first | refine re_field0 rfl rfl rfl rfl rfl fo_80_10 ?_ | refine re_field rfl rfl rfl rfl rfl fo_80_10 ?_ | refine re_fieldA rfl rfl rfl rfl rfl fo_80_10 ?_
  refine re_load H rfl rfl rfl rfl rfl sh_76 rfl ?_
  refine re_build rfl rfl rfl rfl rfl ze_97 pl_97 (by simp only [fillL, setMany, Value.cells, List.getElem?_cons_zero, List.getElem?_cons_succ, List.length_cons, List.length_nil, List.set_cons_zero, List.set_cons_succ, Nat.reduceAdd, Nat.reduceLeDiff, Nat.zero_add, and_self, ↓reduceIte]; rfl) ?_
  refine re_iface rfl rfl rfl rfl rfl nif_97 ?_
  simp only [hi]
  refine re_binW rfl rfl rfl rfl rfl rfl (run_ifNe ifc_76 rfl (.inl ⟨rfl, rfl⟩)) ?_
  refine re_pickF rfl rfl rfl rfl rfl rfl ?_
  refine re_move rfl rfl rfl rfl rfl ?_
  refine re_move rfl rfl rfl rfl rfl ?_
  refine re_load H rfl rfl rfl rfl rfl sh_46 (by first | exact rdAt_all rfl | (simp only [rdAt, PS.cells, PS.over, GM.cells, Cmd.cells, List.cons_append, List.nil_append, List.drop_succ_cons, List.drop_zero, List.take_succ_cons, List.take_zero, List.length_cons, List.length_nil, Nat.zero_add, Nat.reduceAdd, Nat.reduceLeDiff, Nat.le_refl, ↓reduceIte] <;> rfl)) ?_
  refine re_call en_43 rfl rfl rfl rfl rfl ?_
  have H := H.front 2
  have H := H.front 2
  simp only [arrs, Fw.front, zm1, zm2, zm3, zm4, zm5] at H
  refine Calls.mono (forMe_s H hn) ?_
  rintro e w ⟨rfl, H⟩
  refine ⟨_, rfl, (fun h => (nomatch h)), ?_⟩
  refine re_not rfl rfl rfl rfl rfl ?_
  refine re_pickF rfl rfl rfl rfl rfl rfl ?_
  refine re_nil ?_
  refine qe_thenC ?_
  refine ce_cond rfl (fun h0 => ?_) (fun h0 => ?_)
  · try simp only [zn1, zn2, zn3, zn4, zn5, zn6] at h0
    rw [hw] at h0; cases h0
  · try simp only [zn1, zn2, zn3, zn4, zn5, zn6] at h0
    refine ce_skip ?_
    refine qe_thenC ?_
    refine ce_seq ?_
    refine ce_seq ?_
    refine ce_text (tab := []) (soft := 3) (.op 0 (.op 1 .nil)) rfl rfl ?_
    first | refine re_field0 rfl rfl rfl rfl rfl fo_46_0 ?_ | refine re_field rfl rfl rfl rfl rfl fo_46_0 ?_ | refine re_fieldA rfl rfl rfl rfl rfl fo_46_0 ?_
    refine re_load H rfl rfl rfl rfl rfl sh_3 rfl ?_
    refine re_nil ?_
    refine qe_thenC ?_
    refine ce_block ?_
    refine ce_seq ?_
    refine ce_text (tab := []) (soft := 3) (.op 0 (.op 1 .nil)) rfl rfl ?_
    refine re_bin rfl rfl rfl rfl rfl rfl rfl ?_
    refine re_assign rfl rfl rfl rfl rfl ?_
    refine re_nil ?_
    refine qe_thenC ?_
    refine ce_cond rfl (fun h1 => ?_) (fun h1 => ?_)
    · try simp only [zn1, zn2, zn3, zn4, zn5, zn6] at h1
      omega
    · try simp only [zn1, zn2, zn3, zn4, zn5, zn6] at h1
      refine ce_seq ?_
      refine ce_text (tab := []) (soft := 3) (.op 0 (.op 1 .nil)) rfl rfl ?_
      refine re_bin rfl rfl rfl rfl rfl rfl rfl ?_
      refine re_assign rfl rfl rfl rfl rfl ?_
      refine re_nil ?_
      refine qe_thenC ?_
      refine ce_cond rfl (fun h2 => ?_) (fun h2 => ?_)
      · try simp only [zn1, zn2, zn3, zn4, zn5, zn6] at h2
        omega
      · try simp only [zn1, zn2, zn3, zn4, zn5, zn6] at h2
        refine ce_seq ?_
        refine ce_text (tab := []) (soft := 3) (.op 0 (.op 1 .nil)) rfl rfl ?_
        refine re_bin rfl rfl rfl rfl rfl rfl rfl ?_
        refine re_assign rfl rfl rfl rfl rfl ?_
        refine re_nil ?_
        refine qe_thenC ?_
        refine ce_cond rfl (fun h3 => ?_) (fun h3 => ?_)
        · try simp only [zn1, zn2, zn3, zn4, zn5, zn6] at h3
          omega
        · try simp only [zn1, zn2, zn3, zn4, zn5, zn6] at h3
          refine ce_seq ?_
          refine ce_seq ?_
          refine ce_text (tab := []) (soft := 3) (.op 0 (.op 1 .nil)) rfl rfl ?_
          refine re_bin rfl rfl rfl rfl rfl rfl rfl ?_
          refine re_assign rfl rfl rfl rfl rfl ?_
          refine re_nil ?_
          refine qe_thenC ?_
          refine ce_cond rfl (fun h5 => ?_) (fun h5 => ?_)
          · try simp only [zn1, zn2, zn3, zn4, zn5, zn6] at h5
            refine ce_skip ?_
            refine qe_thenC ?_
            refine ce_cond rfl (fun h6 => ?_) (fun h6 => ?_)
            · try simp only [zn1, zn2, zn3, zn4, zn5, zn6] at h6
              refine ce_seq ?_
              refine ce_text (tab := []) (soft := 11) (.op 0 (.op 1 (.op 2 (.op 3 .nil)))) rfl rfl ?_
              refine re_move rfl rfl rfl rfl rfl ?_
              refine re_load H rfl rfl rfl rfl rfl sh_46 (by first | exact rdAt_all rfl | (simp only [rdAt, PS.cells, PS.over, GM.cells, Cmd.cells, List.cons_append, List.nil_append, List.drop_succ_cons, List.drop_zero, List.take_succ_cons, List.take_zero, List.length_cons, List.length_nil, Nat.zero_add, Nat.reduceAdd, Nat.reduceLeDiff, Nat.le_refl, ↓reduceIte] <;> rfl)) ?_
              refine re_call en_49 rfl rfl rfl rfl rfl ?_
              refine Calls.mono (hK _ _ H) ?_
              rintro e w ⟨v, rfl, HK⟩
              refine ⟨_, rfl, (fun h => (nomatch h)), ?_⟩
              refine re_assign rfl rfl rfl rfl rfl ?_
              refine re_nil ?_
              refine qe_thenC ?_
              refine ce_ret ?_
              refine qe_block_ret ?_
              refine qe_then_ret ?_
              refine qe_end rfl rfl ?_
              exact ⟨v, rfl, HK⟩
            · try simp only [zn1, zn2, zn3, zn4, zn5, zn6] at h6
              omega
          · try simp only [zn1, zn2, zn3, zn4, zn5, zn6] at h5
            refine ce_text (tab := []) (soft := 3) (.op 0 (.op 1 .nil)) rfl rfl ?_
            refine re_bin rfl rfl rfl rfl rfl rfl rfl ?_
            refine re_assign rfl rfl rfl rfl rfl ?_
            refine re_nil ?_
            refine qe_thenC ?_
            refine ce_cond rfl (fun h6 => ?_) (fun h6 => ?_)
            · try simp only [zn1, zn2, zn3, zn4, zn5, zn6] at h6
              refine ce_seq ?_
              refine ce_text (tab := []) (soft := 11) (.op 0 (.op 1 (.op 2 (.op 3 .nil)))) rfl rfl ?_
              refine re_move rfl rfl rfl rfl rfl ?_
              refine re_load H rfl rfl rfl rfl rfl sh_46 (by first | exact rdAt_all rfl | (simp only [rdAt, PS.cells, PS.over, GM.cells, Cmd.cells, List.cons_append, List.nil_append, List.drop_succ_cons, List.drop_zero, List.take_succ_cons, List.take_zero, List.length_cons, List.length_nil, Nat.zero_add, Nat.reduceAdd, Nat.reduceLeDiff, Nat.le_refl, ↓reduceIte] <;> rfl)) ?_
              refine re_call en_49 rfl rfl rfl rfl rfl ?_
              refine Calls.mono (hK _ _ H) ?_
              rintro e w ⟨v, rfl, HK⟩
              refine ⟨_, rfl, (fun h => (nomatch h)), ?_⟩
              refine re_assign rfl rfl rfl rfl rfl ?_
              refine re_nil ?_
              refine qe_thenC ?_
              refine ce_ret ?_
              refine qe_block_ret ?_
              refine qe_then_ret ?_
              refine qe_end rfl rfl ?_
              exact ⟨v, rfl, HK⟩
            · try simp only [zn1, zn2, zn3, zn4, zn5, zn6] at h6
              omega

theorem take_foreignA {B w : World} {F : List Ent} {g : Nat} {p : PS} {m : GM} {q : Nat} {cm : Cmd} (H : Own B (.cells g 80 p.cells :: .row p.ga p.gc 3 1 p.gs.length (ints p.gs) :: F) w) (hn : p.gs.length ≤ 1000000) (hi : p.ph = phA q cm) (hw : p.wants m = false) :
    Calls Try.prog 18 #[.pointer (some ⟨g, 0, none⟩), .agg m.cells.toArray] w fun e w' => e = .returned (slv none 0 0) ∧ Own B (.cells g 80 p.cells :: .row p.ga p.gc 3 1 p.gs.length (ints p.gs) :: F) w' := by
  refine calls_ce (args := [.pointer (some ⟨g, 0, none⟩), .agg m.cells.toArray]) Try.func18 rfl rfl ?_
  change CE _ _ 80 _ _ [(0, .pointer (some ⟨g, 0, none⟩)), (1, .agg m.cells.toArray)] _
  refine ce_seq ?_
  refine ce_text (tab := []) (soft := 2) (.op 0 (.op 1 .nil)) rfl rfl ?_
  refine re_box H rfl rfl rfl rfl rfl rfl ?_
  intro g3 w H
  refine ⟨(fun h => (nomatch h)), ?_⟩
  refine re_assign rfl rfl rfl rfl rfl ?_
  refine re_nil ?_
  refine qe_thenC ?_
  refine ce_seq ?_
  refine ce_seq ?_
  refine ce_text (tab := []) (soft := 3670015) (.op 0 (.op 1 (.op 2 (.op 3 (.op 4 (.op 5 (.op 6 (.op 7 (.op 8 (.op 9 (.op 10 (.op 11 (.op 12 (.op 13 (.op 14 (.op 15 (.op 16 (.op 17 (.op 18 (.op 19 (.op 20 (.op 21 .nil)))))))))))))))))))))) rfl rfl ?_
  refine re_move rfl rfl rfl rfl rfl ?_
  refine re_nilc rfl rfl rfl rfl rfl ?_
  first | refine re_field0 rfl rfl rfl rfl rfl fo_80_10 ?_ | refine re_field rfl rfl rfl rfl rfl fo_80_10 ?_ | refine re_fieldA rfl rfl rfl rfl rfl fo_80_10 ?_
  refine re_load H rfl rfl rfl rfl rfl sh_76 rfl ?_
  refine re_build rfl rfl rfl rfl rfl ze_73 pl_73 (by simp only [fillL, setMany, Value.cells, List.getElem?_cons_zero, List.getElem?_cons_succ, List.length_cons, List.length_nil, List.set_cons_zero, List.set_cons_succ, Nat.reduceAdd, Nat.reduceLeDiff, Nat.zero_add, and_self, ↓reduceIte]; rfl) ?_
  refine re_iface rfl rfl rfl rfl rfl nif_73 ?_
  simp only [hi]
  refine re_binW rfl rfl rfl rfl rfl rfl (run_ifNe ifc_76 rfl (.inl ⟨rfl, rfl⟩)) ?_
  refine re_move rfl rfl rfl rfl rfl ?_
  refine re_move rfl rfl rfl rfl rfl ?_
  refine re_nilc rfl rfl rfl rfl rfl ?_
  first | refine re_field0 rfl rfl rfl rfl rfl fo_80_10 ?_ | refine re_field rfl rfl rfl rfl rfl fo_80_10 ?_ | refine re_fieldA rfl rfl rfl rfl rfl fo_80_10 ?_
  refine re_load H rfl rfl rfl rfl rfl sh_76 rfl ?_
  refine re_build rfl rfl rfl rfl rfl ze_97 pl_97 (by simp only [fillL, setMany, Value.cells, List.getElem?_cons_zero, List.getElem?_cons_succ, List.length_cons, List.length_nil, List.set_cons_zero, List.set_cons_succ, Nat.reduceAdd, Nat.reduceLeDiff, Nat.zero_add, and_self, ↓reduceIte]; rfl) ?_
  refine re_iface rfl rfl rfl rfl rfl nif_97 ?_
  simp only [hi]
  refine re_binW rfl rfl rfl rfl rfl rfl (run_ifNe ifc_76 rfl (.inl ⟨rfl, rfl⟩)) ?_
  refine re_pickF rfl rfl rfl rfl rfl rfl ?_
  refine re_move rfl rfl rfl rfl rfl ?_
  refine re_move rfl rfl rfl rfl rfl ?_
  refine re_load H rfl rfl rfl rfl rfl sh_46 (by first | exact rdAt_all rfl | (simp only [rdAt, PS.cells, PS.over, GM.cells, Cmd.cells, List.cons_append, List.nil_append, List.drop_succ_cons, List.drop_zero, List.take_succ_cons, List.take_zero, List.length_cons, List.length_nil, Nat.zero_add, Nat.reduceAdd, Nat.reduceLeDiff, Nat.le_refl, ↓reduceIte] <;> rfl)) ?_
  refine re_call en_43 rfl rfl rfl rfl rfl ?_
  have H := H.front 2
  have H := H.front 2
  simp only [arrs, Fw.front, zm1, zm2, zm3, zm4, zm5] at H
  refine Calls.mono (forMe_s H hn) ?_
  rintro e w ⟨rfl, H⟩
  refine ⟨_, rfl, (fun h => (nomatch h)), ?_⟩
  refine re_not rfl rfl rfl rfl rfl ?_
  refine re_pickF rfl rfl rfl rfl rfl rfl ?_
  refine re_nil ?_
  refine qe_thenC ?_
  refine ce_cond rfl (fun h0 => ?_) (fun h0 => ?_)
  · try simp only [zn1, zn2, zn3, zn4, zn5, zn6] at h0
    refine ce_seq ?_
    refine ce_text (tab := []) (soft := 1) (.op 0 .nil) rfl rfl ?_
    refine re_assign rfl rfl rfl rfl rfl ?_
    refine re_nil ?_
    refine qe_thenC ?_
    refine ce_ret ?_
    refine qe_then_ret ?_
    refine qe_end rfl rfl ?_
    exact ⟨rfl, H.sub (.cons_cons _ (.cons_cons _ (.cons _ (List.Sublist.refl _))))⟩
  · try simp only [zn1, zn2, zn3, zn4, zn5, zn6] at h0
    rw [hw] at h0; cases h0

theorem take_knownA {B w : World} {F : List Ent} {g : Nat} {p : PS} {m : GM} {q : Nat} {cm : Cmd} (H : Own B (.cells g 80 p.cells :: .row p.ga p.gc 3 1 p.gs.length (ints p.gs) :: F) w) (hn : p.gs.length ≤ 1000000) (hi : p.ph = phA q cm) (hkd : m.kind = 16) (hw : p.wants m = true) :
    Calls Try.prog 18 #[.pointer (some ⟨g, 0, none⟩), .agg m.cells.toArray] w fun e w' => ∃ d, e = .returned (slv none 0 0) ∧ Own B (.cells g 80 { p.over with dc := .pointer (some ⟨d, 0, none⟩) }.cells :: .row p.ga p.gc 3 1 p.gs.length (ints p.gs) :: .cells d 28 m.cmd.cells :: F) w' := by
  refine calls_ce (args := [.pointer (some ⟨g, 0, none⟩), .agg m.cells.toArray]) Try.func18 rfl rfl ?_
  change CE _ _ 80 _ _ [(0, .pointer (some ⟨g, 0, none⟩)), (1, .agg m.cells.toArray)] _
  refine ce_seq ?_
  refine ce_text (tab := []) (soft := 2) (.op 0 (.op 1 .nil)) rfl rfl ?_
  refine re_box H rfl rfl rfl rfl rfl rfl ?_
  intro g3 w H
  refine ⟨(fun h => (nomatch h)), ?_⟩
  refine re_assign rfl rfl rfl rfl rfl ?_
  refine re_nil ?_
  refine qe_thenC ?_
  refine ce_seq ?_
  refine ce_seq ?_
  refine ce_text (tab := []) (soft := 3670015) (.op 0 (.op 1 (.op 2 (.op 3 (.op 4 (.op 5 (.op 6 (.op 7 (.op 8 (.op 9 (.op 10 (.op 11 (.op 12 (.op 13 (.op 14 (.op 15 (.op 16 (.op 17 (.op 18 (.op 19 (.op 20 (.op 21 .nil)))))))))))))))))))))) rfl rfl ?_
  refine re_move rfl rfl rfl rfl rfl ?_
  refine re_nilc rfl rfl rfl rfl rfl ?_
  first | refine re_field0 rfl rfl rfl rfl rfl fo_80_10 ?_ | refine re_field rfl rfl rfl rfl rfl fo_80_10 ?_ | refine re_fieldA rfl rfl rfl rfl rfl fo_80_10 ?_
  refine re_load H rfl rfl rfl rfl rfl sh_76 rfl ?_
  refine re_build rfl rfl rfl rfl rfl ze_73 pl_73 (by simp only [fillL, setMany, Value.cells, List.getElem?_cons_zero, List.getElem?_cons_succ, List.length_cons, List.length_nil, List.set_cons_zero, List.set_cons_succ, Nat.reduceAdd, Nat.reduceLeDiff, Nat.zero_add, and_self, ↓reduceIte]; rfl) ?_
  refine re_iface rfl rfl rfl rfl rfl nif_73 ?_
  simp only [hi]
  refine re_binW rfl rfl rfl rfl rfl rfl (run_ifNe ifc_76 rfl (.inl ⟨rfl, rfl⟩)) ?_
  refine re_move rfl rfl rfl rfl rfl ?_
  refine re_move rfl rfl rfl rfl rfl ?_
  refine re_nilc rfl rfl rfl rfl rfl ?_
  first | refine re_field0 rfl rfl rfl rfl rfl fo_80_10 ?_ | refine re_field rfl rfl rfl rfl rfl fo_80_10 ?_ | refine re_fieldA rfl rfl rfl rfl rfl fo_80_10 ?_
  refine re_load H rfl rfl rfl rfl rfl sh_76 rfl ?_
  refine re_build rfl rfl rfl rfl rfl ze_97 pl_97 (by simp only [fillL, setMany, Value.cells, List.getElem?_cons_zero, List.getElem?_cons_succ, List.length_cons, List.length_nil, List.set_cons_zero, List.set_cons_succ, Nat.reduceAdd, Nat.reduceLeDiff, Nat.zero_add, and_self, ↓reduceIte]; rfl) ?_
  refine re_iface rfl rfl rfl rfl rfl nif_97 ?_
  simp only [hi]
  refine re_binW rfl rfl rfl rfl rfl rfl (run_ifNe ifc_76 rfl (.inl ⟨rfl, rfl⟩)) ?_
  refine re_pickF rfl rfl rfl rfl rfl rfl ?_
  refine re_move rfl rfl rfl rfl rfl ?_
  refine re_move rfl rfl rfl rfl rfl ?_
  refine re_load H rfl rfl rfl rfl rfl sh_46 (by first | exact rdAt_all rfl | (simp only [rdAt, PS.cells, PS.over, GM.cells, Cmd.cells, List.cons_append, List.nil_append, List.drop_succ_cons, List.drop_zero, List.take_succ_cons, List.take_zero, List.length_cons, List.length_nil, Nat.zero_add, Nat.reduceAdd, Nat.reduceLeDiff, Nat.le_refl, ↓reduceIte] <;> rfl)) ?_
  refine re_call en_43 rfl rfl rfl rfl rfl ?_
  have H := H.front 2
  have H := H.front 2
  simp only [arrs, Fw.front, zm1, zm2, zm3, zm4, zm5] at H
  refine Calls.mono (forMe_s H hn) ?_
  rintro e w ⟨rfl, H⟩
  refine ⟨_, rfl, (fun h => (nomatch h)), ?_⟩
  refine re_not rfl rfl rfl rfl rfl ?_
  refine re_pickF rfl rfl rfl rfl rfl rfl ?_
  refine re_nil ?_
  refine qe_thenC ?_
  refine ce_cond rfl (fun h0 => ?_) (fun h0 => ?_)
  · try simp only [zn1, zn2, zn3, zn4, zn5, zn6] at h0
    rw [hw] at h0; cases h0
  · try simp only [zn1, zn2, zn3, zn4, zn5, zn6] at h0
    refine ce_skip ?_
    refine qe_thenC ?_
    refine ce_seq ?_
    refine ce_seq ?_
    refine ce_text (tab := []) (soft := 3) (.op 0 (.op 1 .nil)) rfl rfl ?_
    first | refine re_field0 rfl rfl rfl rfl rfl fo_46_0 ?_ | refine re_field rfl rfl rfl rfl rfl fo_46_0 ?_ | refine re_fieldA rfl rfl rfl rfl rfl fo_46_0 ?_
    refine re_load H rfl rfl rfl rfl rfl sh_3 rfl ?_
    refine re_nil ?_
    refine qe_thenC ?_
    refine ce_block ?_
    refine ce_seq ?_
    refine ce_text (tab := []) (soft := 3) (.op 0 (.op 1 .nil)) rfl rfl ?_
    refine re_bin rfl rfl rfl rfl rfl rfl rfl ?_
    refine re_assign rfl rfl rfl rfl rfl ?_
    refine re_nil ?_
    refine qe_thenC ?_
    refine ce_cond rfl (fun h1 => ?_) (fun h1 => ?_)
    · try simp only [zn1, zn2, zn3, zn4, zn5, zn6] at h1
      refine ce_text (tab := []) (soft := 7) (.op 0 (.op 1 (.op 2 (.op 3 .nil)))) rfl rfl ?_
      refine re_move rfl rfl rfl rfl rfl ?_
      first | refine re_field0 rfl rfl rfl rfl rfl fo_46_9 ?_ | refine re_field rfl rfl rfl rfl rfl fo_46_9 ?_ | refine re_fieldA rfl rfl rfl rfl rfl fo_46_9 ?_
      refine re_load H rfl rfl rfl rfl rfl sh_28 (by first | exact rdAt_all rfl | (simp only [rdAt, PS.cells, PS.over, GM.cells, Cmd.cells, List.cons_append, List.nil_append, List.drop_succ_cons, List.drop_zero, List.take_succ_cons, List.take_zero, List.length_cons, List.length_nil, Nat.zero_add, Nat.reduceAdd, Nat.reduceLeDiff, Nat.le_refl, ↓reduceIte] <;> rfl)) ?_
      refine re_call en_44 rfl rfl rfl rfl rfl ?_
      refine Calls.mono (decide_s (c := m.cmd) H) ?_
      rintro e w ⟨d, rfl, H⟩
      refine ⟨_, rfl, (fun h => (nomatch h)), ?_⟩
      refine re_nil ?_
      refine qe_block_norm ?_
      refine qe_thenC ?_
      refine ce_seq ?_
      refine ce_text (tab := []) (soft := 1) (.op 0 .nil) rfl rfl ?_
      refine re_assign rfl rfl rfl rfl rfl ?_
      refine re_nil ?_
      refine qe_thenC ?_
      refine ce_ret ?_
      refine qe_end rfl rfl ?_
      have H := Own.arr [1, 2, 2] H
      simp only [arrs, Fw.front, zm1, zm2, zm3, zm4, zm5] at H
      replace H := H.sub (.cons_cons _ (.cons_cons _ (.cons_cons _ (.cons _ (List.Sublist.refl _)))))
      exact ⟨d, rfl, H⟩
    · try simp only [zn1, zn2, zn3, zn4, zn5, zn6] at h1
      omega

theorem take_nackA {B w : World} {F : List Ent} {g : Nat} {p : PS} {m : GM} {q : Nat} {cm : Cmd} {ht hm hc : Nat} {ha : Option Nat} {hs : List Int} (H : Own B (.cells g 80 p.cells :: .row p.ga p.gc 3 1 p.gs.length (ints p.gs) :: .cells ht 109 [slv ha p.gs.length hc, .int .i64 ((p.gs.length : Int) + 1), .map (some hm)] :: .row ha hc 3 1 p.gs.length (ints p.gs) :: .imap hm (heardK hs) :: F) w) (hn : p.gs.length ≤ 1000000) (hi : p.ph = phA q cm) (hkd : m.kind = 14) (hw : p.wants m = true) (hh : p.hd = .pointer (some ⟨ht, 0, none⟩)) (hl : hs.length ≤ p.gs.length) (hf : p.fresh hs m.fi = true) :
    Calls Try.prog 18 #[.pointer (some ⟨g, 0, none⟩), .agg m.cells.toArray] w fun e w' => e = .returned (slv none 0 0) ∧ Own B (.cells g 80 (p.nack m.s0).cells :: .row p.ga p.gc 3 1 p.gs.length (ints p.gs) :: .cells ht 109 [slv ha p.gs.length hc, .int .i64 ((p.gs.length : Int) + 1), .map (some hm)] :: .row ha hc 3 1 p.gs.length (ints p.gs) :: .imap hm (heardK (hs ++ [m.fi])) :: F) w' := by
  refine calls_ce (args := [.pointer (some ⟨g, 0, none⟩), .agg m.cells.toArray]) Try.func18 rfl rfl ?_
  change CE _ _ 80 _ _ [(0, .pointer (some ⟨g, 0, none⟩)), (1, .agg m.cells.toArray)] _
  refine ce_seq ?_
  refine ce_text (tab := []) (soft := 2) (.op 0 (.op 1 .nil)) rfl rfl ?_
  refine re_box H rfl rfl rfl rfl rfl rfl ?_
  intro g3 w H
  refine ⟨(fun h => (nomatch h)), ?_⟩
  refine re_assign rfl rfl rfl rfl rfl ?_
  refine re_nil ?_
  refine qe_thenC ?_
  refine ce_seq ?_
  refine ce_seq ?_
  refine ce_text (tab := []) (soft := 3670015) (.op 0 (.op 1 (.op 2 (.op 3 (.op 4 (.op 5 (.op 6 (.op 7 (.op 8 (.op 9 (.op 10 (.op 11 (.op 12 (.op 13 (.op 14 (.op 15 (.op 16 (.op 17 (.op 18 (.op 19 (.op 20 (.op 21 .nil)))))))))))))))))))))) rfl rfl ?_
  refine re_move rfl rfl rfl rfl rfl ?_
  refine re_nilc rfl rfl rfl rfl rfl ?_
  first | refine re_field0 rfl rfl rfl rfl rfl fo_80_10 ?_ | refine re_field rfl rfl rfl rfl rfl fo_80_10 ?_ | refine re_fieldA rfl rfl rfl rfl rfl fo_80_10 ?_
  refine re_load H rfl rfl rfl rfl rfl sh_76 rfl ?_
  refine re_build rfl rfl rfl rfl rfl ze_73 pl_73 (by simp only [fillL, setMany, Value.cells, List.getElem?_cons_zero, List.getElem?_cons_succ, List.length_cons, List.length_nil, List.set_cons_zero, List.set_cons_succ, Nat.reduceAdd, Nat.reduceLeDiff, Nat.zero_add, and_self, ↓reduceIte]; rfl) ?_
  refine re_iface rfl rfl rfl rfl rfl nif_73 ?_
  simp only [hi]
  refine re_binW rfl rfl rfl rfl rfl rfl (run_ifNe ifc_76 rfl (.inl ⟨rfl, rfl⟩)) ?_
  refine re_move rfl rfl rfl rfl rfl ?_
  refine re_move rfl rfl rfl rfl rfl ?_
  refine re_nilc rfl rfl rfl rfl rfl ?_
  first | refine re_field0 rfl rfl rfl rfl rfl fo_80_10 ?_ | refine re_field rfl rfl rfl rfl rfl fo_80_10 ?_ | refine re_fieldA rfl rfl rfl rfl rfl fo_80_10 ?_
  refine re_load H rfl rfl rfl rfl rfl sh_76 rfl ?_
  refine re_build rfl rfl rfl rfl rfl ze_97 pl_97 (by simp only [fillL, setMany, Value.cells, List.getElem?_cons_zero, List.getElem?_cons_succ, List.length_cons, List.length_nil, List.set_cons_zero, List.set_cons_succ, Nat.reduceAdd, Nat.reduceLeDiff, Nat.zero_add, and_self, ↓reduceIte]; rfl) ?_
  refine re_iface rfl rfl rfl rfl rfl nif_97 ?_
  simp only [hi]
  refine re_binW rfl rfl rfl rfl rfl rfl (run_ifNe ifc_76 rfl (.inl ⟨rfl, rfl⟩)) ?_
  refine re_pickF rfl rfl rfl rfl rfl rfl ?_
  refine re_move rfl rfl rfl rfl rfl ?_
  refine re_move rfl rfl rfl rfl rfl ?_
  refine re_load H rfl rfl rfl rfl rfl sh_46 (by first | exact rdAt_all rfl | (simp only [rdAt, PS.cells, PS.over, GM.cells, Cmd.cells, List.cons_append, List.nil_append, List.drop_succ_cons, List.drop_zero, List.take_succ_cons, List.take_zero, List.length_cons, List.length_nil, Nat.zero_add, Nat.reduceAdd, Nat.reduceLeDiff, Nat.le_refl, ↓reduceIte] <;> rfl)) ?_
  refine re_call en_43 rfl rfl rfl rfl rfl ?_
  have H := H.front 2
  have H := H.front 2
  simp only [arrs, Fw.front, zm1, zm2, zm3, zm4, zm5] at H
  refine Calls.mono (forMe_s H hn) ?_
  rintro e w ⟨rfl, H⟩
  refine ⟨_, rfl, (fun h => (nomatch h)), ?_⟩
  refine re_not rfl rfl rfl rfl rfl ?_
  refine re_pickF rfl rfl rfl rfl rfl rfl ?_
  refine re_nil ?_
  refine qe_thenC ?_
  refine ce_cond rfl (fun h0 => ?_) (fun h0 => ?_)
  · try simp only [zn1, zn2, zn3, zn4, zn5, zn6] at h0
    rw [hw] at h0; cases h0
  · try simp only [zn1, zn2, zn3, zn4, zn5, zn6] at h0
    refine ce_skip ?_
    refine qe_thenC ?_
    refine ce_seq ?_
    refine ce_seq ?_
    refine ce_text (tab := []) (soft := 3) (.op 0 (.op 1 .nil)) rfl rfl ?_
    first | refine re_field0 rfl rfl rfl rfl rfl fo_46_0 ?_ | refine re_field rfl rfl rfl rfl rfl fo_46_0 ?_ | refine re_fieldA rfl rfl rfl rfl rfl fo_46_0 ?_
    refine re_load H rfl rfl rfl rfl rfl sh_3 rfl ?_
    refine re_nil ?_
    refine qe_thenC ?_
    refine ce_block ?_
    refine ce_seq ?_
    refine ce_text (tab := []) (soft := 3) (.op 0 (.op 1 .nil)) rfl rfl ?_
    refine re_bin rfl rfl rfl rfl rfl rfl rfl ?_
    refine re_assign rfl rfl rfl rfl rfl ?_
    refine re_nil ?_
    refine qe_thenC ?_
    refine ce_cond rfl (fun h1 => ?_) (fun h1 => ?_)
    · try simp only [zn1, zn2, zn3, zn4, zn5, zn6] at h1
      omega
    · try simp only [zn1, zn2, zn3, zn4, zn5, zn6] at h1
      refine ce_seq ?_
      refine ce_text (tab := []) (soft := 3) (.op 0 (.op 1 .nil)) rfl rfl ?_
      refine re_bin rfl rfl rfl rfl rfl rfl rfl ?_
      refine re_assign rfl rfl rfl rfl rfl ?_
      refine re_nil ?_
      refine qe_thenC ?_
      refine ce_cond rfl (fun h2 => ?_) (fun h2 => ?_)
      · try simp only [zn1, zn2, zn3, zn4, zn5, zn6] at h2
        omega
      · try simp only [zn1, zn2, zn3, zn4, zn5, zn6] at h2
        refine ce_seq ?_
        refine ce_text (tab := []) (soft := 3) (.op 0 (.op 1 .nil)) rfl rfl ?_
        refine re_bin rfl rfl rfl rfl rfl rfl rfl ?_
        refine re_assign rfl rfl rfl rfl rfl ?_
        refine re_nil ?_
        refine qe_thenC ?_
        refine ce_cond rfl (fun h3 => ?_) (fun h3 => ?_)
        · try simp only [zn1, zn2, zn3, zn4, zn5, zn6] at h3
          refine ce_seq ?_
          refine ce_text (tab := []) (soft := 3) (.op 0 (.op 1 (.op 2 .nil))) rfl rfl ?_
          refine re_move rfl rfl rfl rfl rfl ?_
          refine re_load H rfl rfl rfl rfl rfl sh_46 (by first | exact rdAt_all rfl | (simp only [rdAt, PS.cells, PS.over, GM.cells, Cmd.cells, List.cons_append, List.nil_append, List.drop_succ_cons, List.drop_zero, List.take_succ_cons, List.take_zero, List.length_cons, List.length_nil, Nat.zero_add, Nat.reduceAdd, Nat.reduceLeDiff, Nat.le_refl, ↓reduceIte] <;> rfl)) ?_
          refine re_call en_48 rfl rfl rfl rfl rfl ?_
          have H := Own.arr [2, 2, 5, 5, 5, 5] H
          simp only [arrs, Fw.front, zm1, zm2, zm3, zm4, zm5] at H
          refine Calls.mono (fresh_s H hh hn hl) ?_
          rintro e w ⟨rfl, H⟩
          simp only [hf] at H ⊢
          refine ⟨_, rfl, (fun h => (nomatch h)), ?_⟩
          refine re_nil ?_
          refine qe_thenC ?_
          refine ce_condT rfl ?_
          refine ce_open (tab := [0, 0, 0, 4, 12, 28, 0, 64, 192, 508, 61, 1085, 3133, 8191, 16383, 32767]) (soft := 28671) mixed (.op 0 (.op 1 (.op 2 (.op 3 (.op 4 (.op 5 (.op 6 (.op 7 (.op 8 (.op 9 (.op 10 (.op 11 (.op 12 (.op 13 (.op 14 (.op 15 .nil)))))))))))))))) (by kernel_rfl) H ?_
          intro w H
          refine re_move rfl rfl rfl rfl rfl ?_
          refine re_move rfl rfl rfl rfl rfl ?_
          refine re_move rfl rfl rfl rfl rfl ?_
          refine re_nilc rfl rfl rfl rfl rfl ?_
          first | refine re_field0 rfl rfl rfl rfl rfl fo_80_7 ?_ | refine re_field rfl rfl rfl rfl rfl fo_80_7 ?_ | refine re_fieldA rfl rfl rfl rfl rfl fo_80_7 ?_
          refine re_load H rfl rfl rfl rfl rfl sh_3 rfl ?_
          first | refine re_field0 rfl rfl rfl rfl rfl fo_46_6 ?_ | refine re_field rfl rfl rfl rfl rfl fo_46_6 ?_ | refine re_fieldA rfl rfl rfl rfl rfl fo_46_6 ?_
          first | refine re_field0 rfl rfl rfl rfl rfl fo_38_0 ?_ | refine re_field rfl rfl rfl rfl rfl fo_38_0 ?_ | refine re_fieldA rfl rfl rfl rfl rfl fo_38_0 ?_
          refine re_load H rfl rfl rfl rfl rfl sh_3 rfl ?_
          refine re_max rfl rfl rfl rfl rfl rfl ?_
          refine re_nilc rfl rfl rfl rfl rfl ?_
          first | refine re_field0 rfl rfl rfl rfl rfl fo_80_8 ?_ | refine re_field rfl rfl rfl rfl rfl fo_80_8 ?_ | refine re_fieldA rfl rfl rfl rfl rfl fo_80_8 ?_
          refine re_store H rfl rfl rfl rfl rfl rfl sh_4 rfl rfl rfl ?_
          intro cs w hcs H
          first | rw [setMany_whole rfl] at hcs | simp only [setMany, List.set_cons_zero, List.set_cons_succ, Nat.reduceAdd, Nat.zero_add, PS.cells, PS.over, GM.cells, Cmd.cells, List.cons_append, List.nil_append] at hcs
          subst hcs
          refine ⟨(fun _ => ⟨fun _ => still_load H sh_3 rfl, ancs (i := 12) (j := 5) rfl, trivial⟩), ?_⟩
          refine re_nilc rfl rfl rfl rfl rfl ?_
          first | refine re_field0 rfl rfl rfl rfl rfl fo_80_7 ?_ | refine re_field rfl rfl rfl rfl rfl fo_80_7 ?_ | refine re_fieldA rfl rfl rfl rfl rfl fo_80_7 ?_
          refine re_store H rfl rfl rfl rfl rfl rfl sh_3 rfl rfl rfl ?_
          intro cs w hcs H
          first | rw [setMany_whole rfl] at hcs | simp only [setMany, List.set_cons_zero, List.set_cons_succ, Nat.reduceAdd, Nat.zero_add, PS.cells, PS.over, GM.cells, Cmd.cells, List.cons_append, List.nil_append] at hcs
          subst hcs
          refine ⟨(fun _ => ⟨ancs (i := 15) (j := 8) rfl, ancs (i := 15) (j := 5) rfl, trivial⟩), ?_⟩
          refine re_nil ?_
          refine qe_noPanic ?_
          refine qe_block_norm ?_
          refine qe_thenC ?_
          refine ce_seq ?_
          refine ce_text (tab := []) (soft := 1) (.op 0 .nil) rfl rfl ?_
          refine re_assign rfl rfl rfl rfl rfl ?_
          refine re_nil ?_
          refine qe_thenC ?_
          refine ce_ret ?_
          refine qe_end rfl rfl ?_
          simp only [if_true] at H
          have H := Own.arr [3, 3, 3, 4, 4] H
          simp only [arrs, Fw.front, zm1, zm2, zm3, zm4, zm5] at H
          replace H := H.sub (.cons_cons _ (.cons_cons _ (.cons_cons _ (.cons_cons _ (.cons_cons _ (.cons _ (List.Sublist.refl _)))))))
          exact ⟨rfl, H⟩
        · try simp only [zn1, zn2, zn3, zn4, zn5, zn6] at h3
          omega

theorem take_nackOldA {B w : World} {F : List Ent} {g : Nat} {p : PS} {m : GM} {q : Nat} {cm : Cmd} {ht hm hc : Nat} {ha : Option Nat} {hs : List Int} (H : Own B (.cells g 80 p.cells :: .row p.ga p.gc 3 1 p.gs.length (ints p.gs) :: .cells ht 109 [slv ha p.gs.length hc, .int .i64 ((p.gs.length : Int) + 1), .map (some hm)] :: .row ha hc 3 1 p.gs.length (ints p.gs) :: .imap hm (heardK hs) :: F) w) (hn : p.gs.length ≤ 1000000) (hi : p.ph = phA q cm) (hkd : m.kind = 14) (hw : p.wants m = true) (hh : p.hd = .pointer (some ⟨ht, 0, none⟩)) (hl : hs.length ≤ p.gs.length) (hf : p.fresh hs m.fi = false) :
    Calls Try.prog 18 #[.pointer (some ⟨g, 0, none⟩), .agg m.cells.toArray] w fun e w' => e = .returned (slv none 0 0) ∧ Own B (.cells g 80 p.cells :: .row p.ga p.gc 3 1 p.gs.length (ints p.gs) :: .cells ht 109 [slv ha p.gs.length hc, .int .i64 ((p.gs.length : Int) + 1), .map (some hm)] :: .row ha hc 3 1 p.gs.length (ints p.gs) :: .imap hm (heardK hs) :: F) w' := by
  refine calls_ce (args := [.pointer (some ⟨g, 0, none⟩), .agg m.cells.toArray]) Try.func18 rfl rfl ?_
  change CE _ _ 80 _ _ [(0, .pointer (some ⟨g, 0, none⟩)), (1, .agg m.cells.toArray)] _
  refine ce_seq ?_
  refine ce_text (tab := []) (soft := 2) (.op 0 (.op 1 .nil)) rfl rfl ?_
  refine re_box H rfl rfl rfl rfl rfl rfl ?_
  intro g3 w H
  refine ⟨(fun h => (nomatch h)), ?_⟩
  refine re_assign rfl rfl rfl rfl rfl ?_
  refine re_nil ?_
  refine qe_thenC ?_
  refine ce_seq ?_
  refine ce_seq ?_
  refine ce_text (tab := []) (soft := 3670015) (.op 0 (.op 1 (.op 2 (.op 3 (.op 4 (.op 5 (.op 6 (.op 7 (.op 8 (.op 9 (.op 10 (.op 11 (.op 12 (.op 13 (.op 14 (.op 15 (.op 16 (.op 17 (.op 18 (.op 19 (.op 20 (.op 21 .nil)))))))))))))))))))))) rfl rfl ?_
  refine re_move rfl rfl rfl rfl rfl ?_
  refine re_nilc rfl rfl rfl rfl rfl ?_
  first | refine re_field0 rfl rfl rfl rfl rfl fo_80_10 ?_ | refine re_field rfl rfl rfl rfl rfl fo_80_10 ?_ | refine re_fieldA rfl rfl rfl rfl rfl fo_80_10 ?_
  refine re_load H rfl rfl rfl rfl rfl sh_76 rfl ?_
  refine re_build rfl rfl rfl rfl rfl ze_73 pl_73 (by simp only [fillL, setMany, Value.cells, List.getElem?_cons_zero, List.getElem?_cons_succ, List.length_cons, List.length_nil, List.set_cons_zero, List.set_cons_succ, Nat.reduceAdd, Nat.reduceLeDiff, Nat.zero_add, and_self, ↓reduceIte]; rfl) ?_
  refine re_iface rfl rfl rfl rfl rfl nif_73 ?_
  simp only [hi]
  refine re_binW rfl rfl rfl rfl rfl rfl (run_ifNe ifc_76 rfl (.inl ⟨rfl, rfl⟩)) ?_
  refine re_move rfl rfl rfl rfl rfl ?_
  refine re_move rfl rfl rfl rfl rfl ?_
  refine re_nilc rfl rfl rfl rfl rfl ?_
  first | refine re_field0 rfl rfl rfl rfl rfl fo_80_10 ?_ | refine re_field rfl rfl rfl rfl rfl fo_80_10 ?_ | refine re_fieldA rfl rfl rfl rfl rfl fo_80_10 ?_
  refine re_load H rfl rfl rfl rfl rfl sh_76 rfl ?_
  refine re_build rfl rfl rfl rfl rfl ze_97 pl_97 (by simp only [fillL, setMany, Value.cells, List.getElem?_cons_zero, List.getElem?_cons_succ, List.length_cons, List.length_nil, List.set_cons_zero, List.set_cons_succ, Nat.reduceAdd, Nat.reduceLeDiff, Nat.zero_add, and_self, ↓reduceIte]; rfl) ?_
  refine re_iface rfl rfl rfl rfl rfl nif_97 ?_
  simp only [hi]
  refine re_binW rfl rfl rfl rfl rfl rfl (run_ifNe ifc_76 rfl (.inl ⟨rfl, rfl⟩)) ?_
  refine re_pickF rfl rfl rfl rfl rfl rfl ?_
  refine re_move rfl rfl rfl rfl rfl ?_
  refine re_move rfl rfl rfl rfl rfl ?_
  refine re_load H rfl rfl rfl rfl rfl sh_46 (by first | exact rdAt_all rfl | (simp only [rdAt, PS.cells, PS.over, GM.cells, Cmd.cells, List.cons_append, List.nil_append, List.drop_succ_cons, List.drop_zero, List.take_succ_cons, List.take_zero, List.length_cons, List.length_nil, Nat.zero_add, Nat.reduceAdd, Nat.reduceLeDiff, Nat.le_refl, ↓reduceIte] <;> rfl)) ?_
  refine re_call en_43 rfl rfl rfl rfl rfl ?_
  have H := H.front 2
  have H := H.front 2
  simp only [arrs, Fw.front, zm1, zm2, zm3, zm4, zm5] at H
  refine Calls.mono (forMe_s H hn) ?_
  rintro e w ⟨rfl, H⟩
  refine ⟨_, rfl, (fun h => (nomatch h)), ?_⟩
  refine re_not rfl rfl rfl rfl rfl ?_
  refine re_pickF rfl rfl rfl rfl rfl rfl ?_
  refine re_nil ?_
  refine qe_thenC ?_
  refine ce_cond rfl (fun h0 => ?_) (fun h0 => ?_)
  · try simp only [zn1, zn2, zn3, zn4, zn5, zn6] at h0
    rw [hw] at h0; cases h0
  · try simp only [zn1, zn2, zn3, zn4, zn5, zn6] at h0
    refine ce_skip ?_
    refine qe_thenC ?_
    refine ce_seq ?_
    refine ce_seq ?_
    refine ce_text (tab := []) (soft := 3) (.op 0 (.op 1 .nil)) rfl rfl ?_
    first | refine re_field0 rfl rfl rfl rfl rfl fo_46_0 ?_ | refine re_field rfl rfl rfl rfl rfl fo_46_0 ?_ | refine re_fieldA rfl rfl rfl rfl rfl fo_46_0 ?_
    refine re_load H rfl rfl rfl rfl rfl sh_3 rfl ?_
    refine re_nil ?_
    refine qe_thenC ?_
    refine ce_block ?_
    refine ce_seq ?_
    refine ce_text (tab := []) (soft := 3) (.op 0 (.op 1 .nil)) rfl rfl ?_
    refine re_bin rfl rfl rfl rfl rfl rfl rfl ?_
    refine re_assign rfl rfl rfl rfl rfl ?_
    refine re_nil ?_
    refine qe_thenC ?_
    refine ce_cond rfl (fun h1 => ?_) (fun h1 => ?_)
    · try simp only [zn1, zn2, zn3, zn4, zn5, zn6] at h1
      omega
    · try simp only [zn1, zn2, zn3, zn4, zn5, zn6] at h1
      refine ce_seq ?_
      refine ce_text (tab := []) (soft := 3) (.op 0 (.op 1 .nil)) rfl rfl ?_
      refine re_bin rfl rfl rfl rfl rfl rfl rfl ?_
      refine re_assign rfl rfl rfl rfl rfl ?_
      refine re_nil ?_
      refine qe_thenC ?_
      refine ce_cond rfl (fun h2 => ?_) (fun h2 => ?_)
      · try simp only [zn1, zn2, zn3, zn4, zn5, zn6] at h2
        omega
      · try simp only [zn1, zn2, zn3, zn4, zn5, zn6] at h2
        refine ce_seq ?_
        refine ce_text (tab := []) (soft := 3) (.op 0 (.op 1 .nil)) rfl rfl ?_
        refine re_bin rfl rfl rfl rfl rfl rfl rfl ?_
        refine re_assign rfl rfl rfl rfl rfl ?_
        refine re_nil ?_
        refine qe_thenC ?_
        refine ce_cond rfl (fun h3 => ?_) (fun h3 => ?_)
        · try simp only [zn1, zn2, zn3, zn4, zn5, zn6] at h3
          refine ce_seq ?_
          refine ce_text (tab := []) (soft := 3) (.op 0 (.op 1 (.op 2 .nil))) rfl rfl ?_
          refine re_move rfl rfl rfl rfl rfl ?_
          refine re_load H rfl rfl rfl rfl rfl sh_46 (by first | exact rdAt_all rfl | (simp only [rdAt, PS.cells, PS.over, GM.cells, Cmd.cells, List.cons_append, List.nil_append, List.drop_succ_cons, List.drop_zero, List.take_succ_cons, List.take_zero, List.length_cons, List.length_nil, Nat.zero_add, Nat.reduceAdd, Nat.reduceLeDiff, Nat.le_refl, ↓reduceIte] <;> rfl)) ?_
          refine re_call en_48 rfl rfl rfl rfl rfl ?_
          have H := Own.arr [2, 2, 5, 5, 5, 5] H
          simp only [arrs, Fw.front, zm1, zm2, zm3, zm4, zm5] at H
          refine Calls.mono (fresh_s H hh hn hl) ?_
          rintro e w ⟨rfl, H⟩
          simp only [hf] at H ⊢
          refine ⟨_, rfl, (fun h => (nomatch h)), ?_⟩
          refine re_nil ?_
          refine qe_thenC ?_
          refine ce_condF rfl ?_
          refine ce_skip ?_
          refine qe_block_norm ?_
          refine qe_thenC ?_
          refine ce_seq ?_
          refine ce_text (tab := []) (soft := 1) (.op 0 .nil) rfl rfl ?_
          refine re_assign rfl rfl rfl rfl rfl ?_
          refine re_nil ?_
          refine qe_thenC ?_
          refine ce_ret ?_
          refine qe_end rfl rfl ?_
          simp only [Bool.false_eq_true, if_false] at H
          have H := Own.arr [3, 3, 3, 4, 4] H
          simp only [arrs, Fw.front, zm1, zm2, zm3, zm4, zm5] at H
          replace H := H.sub (.cons_cons _ (.cons_cons _ (.cons_cons _ (.cons_cons _ (.cons_cons _ (.cons _ (List.Sublist.refl _)))))))
          exact ⟨rfl, H⟩
        · try simp only [zn1, zn2, zn3, zn4, zn5, zn6] at h3
          omega

theorem take_countA {B w : World} {F : List Ent} {g : Nat} {p : PS} {m : GM} {q : Nat} {cm : Cmd} {K : Value → World → Prop} (H : Own B (.cells g 80 p.cells :: .row p.ga p.gc 3 1 p.gs.length (ints p.gs) :: F) w) (hn : p.gs.length ≤ 1000000) (hi : p.ph = phA q cm) (hkd : m.kind = 13 ∨ m.kind = 15) (hw : p.wants m = true) (hK : ∀ b w, Own B (.cells g 80 p.cells :: .row p.ga p.gc 3 1 p.gs.length (ints p.gs) :: .cells b 46 m.cells :: F) w → Calls Try.prog 49 #[.pointer (some ⟨g, 0, none⟩), .agg m.cells.toArray] w fun e w' => ∃ v, e = .returned v ∧ K v w') :
    Calls Try.prog 18 #[.pointer (some ⟨g, 0, none⟩), .agg m.cells.toArray] w fun e w' => ∃ v, e = .returned v ∧ K v w' := by
  refine calls_ce (args := [.pointer (some ⟨g, 0, none⟩), .agg m.cells.toArray]) Try.func18 rfl rfl ?_
  change CE _ _ 80 _ _ [(0, .pointer (some ⟨g, 0, none⟩)), (1, .agg m.cells.toArray)] _
  refine ce_seq ?_
  refine ce_text (tab := []) (soft := 2) (.op 0 (.op 1 .nil)) rfl rfl ?_
  refine re_box H rfl rfl rfl rfl rfl rfl ?_
  intro g3 w H
  refine ⟨(fun h => (nomatch h)), ?_⟩
  refine re_assign rfl rfl rfl rfl rfl ?_
  refine re_nil ?_
  refine qe_thenC ?_
  refine ce_seq ?_
  refine ce_seq ?_
  refine ce_text (tab := []) (soft := 3670015) (.op 0 (.op 1 (.op 2 (.op 3 (.op 4 (.op 5 (.op 6 (.op 7 (.op 8 (.op 9 (.op 10 (.op 11 (.op 12 (.op 13 (.op 14 (.op 15 (.op 16 (.op 17 (.op 18 (.op 19 (.op 20 (.op 21 .nil)))))))))))))))))))))) rfl rfl ?_
  refine re_move rfl rfl rfl rfl rfl ?_
  refine re_nilc rfl rfl rfl rfl rfl ?_
  first | refine re_field0 rfl rfl rfl rfl rfl fo_80_10 ?_ | refine re_field rfl rfl rfl rfl rfl fo_80_10 ?_ | refine re_fieldA rfl rfl rfl rfl rfl fo_80_10 ?_
  refine re_load H rfl rfl rfl rfl rfl sh_76 rfl ?_
  refine re_build rfl rfl rfl rfl rfl ze_73 pl_73 (by simp only [fillL, setMany, Value.cells, List.getElem?_cons_zero, List.getElem?_cons_succ, List.length_cons, List.length_nil, List.set_cons_zero, List.set_cons_succ, Nat.reduceAdd, Nat.reduceLeDiff, Nat.zero_add, and_self, ↓reduceIte]; rfl) ?_
  refine re_iface rfl rfl rfl rfl rfl nif_73 ?_
  simp only [hi]
  refine re_binW rfl rfl rfl rfl rfl rfl (run_ifNe ifc_76 rfl (.inl ⟨rfl, rfl⟩)) ?_
  refine re_move rfl rfl rfl rfl rfl ?_
  refine re_move rfl rfl rfl rfl rfl ?_
  refine re_nilc rfl rfl rfl rfl rfl ?_
  first | refine re_field0 rfl rfl rfl rfl rfl fo_80_10 ?_ | refine re_field rfl rfl rfl rfl rfl fo_80_10 ?_ | refine re_fieldA rfl rfl rfl rfl rfl fo_80_10 ?_
  refine re_load H rfl rfl rfl rfl rfl sh_76 rfl ?_
  refine re_build rfl rfl rfl rfl rfl ze_97 pl_97 (by simp only [fillL, setMany, Value.cells, List.getElem?_cons_zero, List.getElem?_cons_succ, List.length_cons, List.length_nil, List.set_cons_zero, List.set_cons_succ, Nat.reduceAdd, Nat.reduceLeDiff, Nat.zero_add, and_self, ↓reduceIte]; rfl) ?_
  refine re_iface rfl rfl rfl rfl rfl nif_97 ?_
  simp only [hi]
  refine re_binW rfl rfl rfl rfl rfl rfl (run_ifNe ifc_76 rfl (.inl ⟨rfl, rfl⟩)) ?_
  refine re_pickF rfl rfl rfl rfl rfl rfl ?_
  refine re_move rfl rfl rfl rfl rfl ?_
  refine re_move rfl rfl rfl rfl rfl ?_
  refine re_load H rfl rfl rfl rfl rfl sh_46 (by first | exact rdAt_all rfl | (simp only [rdAt, PS.cells, PS.over, GM.cells, Cmd.cells, List.cons_append, List.nil_append, List.drop_succ_cons, List.drop_zero, List.take_succ_cons, List.take_zero, List.length_cons, List.length_nil, Nat.zero_add, Nat.reduceAdd, Nat.reduceLeDiff, Nat.le_refl, ↓reduceIte] <;> rfl)) ?_
  refine re_call en_43 rfl rfl rfl rfl rfl ?_
  have H := H.front 2
  have H := H.front 2
  simp only [arrs, Fw.front, zm1, zm2, zm3, zm4, zm5] at H
  refine Calls.mono (forMe_s H hn) ?_
  rintro e w ⟨rfl, H⟩
  refine ⟨_, rfl, (fun h => (nomatch h)), ?_⟩
  refine re_not rfl rfl rfl rfl rfl ?_
  refine re_pickF rfl rfl rfl rfl rfl rfl ?_
  refine re_nil ?_
  refine qe_thenC ?_
  refine ce_cond rfl (fun h0 => ?_) (fun h0 => ?_)
  · try simp only [zn1, zn2, zn3, zn4, zn5, zn6] at h0
    rw [hw] at h0; cases h0
  · try simp only [zn1, zn2, zn3, zn4, zn5, zn6] at h0
    refine ce_skip ?_
    refine qe_thenC ?_
    refine ce_seq ?_
    refine ce_seq ?_
    refine ce_text (tab := []) (soft := 3) (.op 0 (.op 1 .nil)) rfl rfl ?_
    first | refine re_field0 rfl rfl rfl rfl rfl fo_46_0 ?_ | refine re_field rfl rfl rfl rfl rfl fo_46_0 ?_ | refine re_fieldA rfl rfl rfl rfl rfl fo_46_0 ?_
    refine re_load H rfl rfl rfl rfl rfl sh_3 rfl ?_
    refine re_nil ?_
    refine qe_thenC ?_
    refine ce_block ?_
    refine ce_seq ?_
    refine ce_text (tab := []) (soft := 3) (.op 0 (.op 1 .nil)) rfl rfl ?_
    refine re_bin rfl rfl rfl rfl rfl rfl rfl ?_
    refine re_assign rfl rfl rfl rfl rfl ?_
    refine re_nil ?_
    refine qe_thenC ?_
    refine ce_cond rfl (fun h1 => ?_) (fun h1 => ?_)
    · try simp only [zn1, zn2, zn3, zn4, zn5, zn6] at h1
      omega
    · try simp only [zn1, zn2, zn3, zn4, zn5, zn6] at h1
      refine ce_seq ?_
      refine ce_text (tab := []) (soft := 3) (.op 0 (.op 1 .nil)) rfl rfl ?_
      refine re_bin rfl rfl rfl rfl rfl rfl rfl ?_
      refine re_assign rfl rfl rfl rfl rfl ?_
      refine re_nil ?_
      refine qe_thenC ?_
      refine ce_cond rfl (fun h2 => ?_) (fun h2 => ?_)
      · try simp only [zn1, zn2, zn3, zn4, zn5, zn6] at h2
        omega
      · try simp only [zn1, zn2, zn3, zn4, zn5, zn6] at h2
        refine ce_seq ?_
        refine ce_text (tab := []) (soft := 3) (.op 0 (.op 1 .nil)) rfl rfl ?_
        refine re_bin rfl rfl rfl rfl rfl rfl rfl ?_
        refine re_assign rfl rfl rfl rfl rfl ?_
        refine re_nil ?_
        refine qe_thenC ?_
        refine ce_cond rfl (fun h3 => ?_) (fun h3 => ?_)
        · try simp only [zn1, zn2, zn3, zn4, zn5, zn6] at h3
          omega
        · try simp only [zn1, zn2, zn3, zn4, zn5, zn6] at h3
          refine ce_seq ?_
          refine ce_seq ?_
          refine ce_text (tab := []) (soft := 3) (.op 0 (.op 1 .nil)) rfl rfl ?_
          refine re_bin rfl rfl rfl rfl rfl rfl rfl ?_
          refine re_assign rfl rfl rfl rfl rfl ?_
          refine re_nil ?_
          refine qe_thenC ?_
          refine ce_cond rfl (fun h5 => ?_) (fun h5 => ?_)
          · try simp only [zn1, zn2, zn3, zn4, zn5, zn6] at h5
            refine ce_skip ?_
            refine qe_thenC ?_
            refine ce_cond rfl (fun h6 => ?_) (fun h6 => ?_)
            · try simp only [zn1, zn2, zn3, zn4, zn5, zn6] at h6
              refine ce_seq ?_
              refine ce_text (tab := []) (soft := 11) (.op 0 (.op 1 (.op 2 (.op 3 .nil)))) rfl rfl ?_
              refine re_move rfl rfl rfl rfl rfl ?_
              refine re_load H rfl rfl rfl rfl rfl sh_46 (by first | exact rdAt_all rfl | (simp only [rdAt, PS.cells, PS.over, GM.cells, Cmd.cells, List.cons_append, List.nil_append, List.drop_succ_cons, List.drop_zero, List.take_succ_cons, List.take_zero, List.length_cons, List.length_nil, Nat.zero_add, Nat.reduceAdd, Nat.reduceLeDiff, Nat.le_refl, ↓reduceIte] <;> rfl)) ?_
              refine re_call en_49 rfl rfl rfl rfl rfl ?_
              refine Calls.mono (hK _ _ H) ?_
              rintro e w ⟨v, rfl, HK⟩
              refine ⟨_, rfl, (fun h => (nomatch h)), ?_⟩
              refine re_assign rfl rfl rfl rfl rfl ?_
              refine re_nil ?_
              refine qe_thenC ?_
              refine ce_ret ?_
              refine qe_block_ret ?_
              refine qe_then_ret ?_
              refine qe_end rfl rfl ?_
              exact ⟨v, rfl, HK⟩
            · try simp only [zn1, zn2, zn3, zn4, zn5, zn6] at h6
              omega
          · try simp only [zn1, zn2, zn3, zn4, zn5, zn6] at h5
            refine ce_text (tab := []) (soft := 3) (.op 0 (.op 1 .nil)) rfl rfl ?_
            refine re_bin rfl rfl rfl rfl rfl rfl rfl ?_
            refine re_assign rfl rfl rfl rfl rfl ?_
            refine re_nil ?_
            refine qe_thenC ?_
            refine ce_cond rfl (fun h6 => ?_) (fun h6 => ?_)
            · try simp only [zn1, zn2, zn3, zn4, zn5, zn6] at h6
              refine ce_seq ?_
              refine ce_text (tab := []) (soft := 11) (.op 0 (.op 1 (.op 2 (.op 3 .nil)))) rfl rfl ?_
              refine re_move rfl rfl rfl rfl rfl ?_
              refine re_load H rfl rfl rfl rfl rfl sh_46 (by first | exact rdAt_all rfl | (simp only [rdAt, PS.cells, PS.over, GM.cells, Cmd.cells, List.cons_append, List.nil_append, List.drop_succ_cons, List.drop_zero, List.take_succ_cons, List.take_zero, List.length_cons, List.length_nil, Nat.zero_add, Nat.reduceAdd, Nat.reduceLeDiff, Nat.le_refl, ↓reduceIte] <;> rfl)) ?_
              refine re_call en_49 rfl rfl rfl rfl rfl ?_
              refine Calls.mono (hK _ _ H) ?_
              rintro e w ⟨v, rfl, HK⟩
              refine ⟨_, rfl, (fun h => (nomatch h)), ?_⟩
              refine re_assign rfl rfl rfl rfl rfl ?_
              refine re_nil ?_
              refine qe_thenC ?_
              refine ce_ret ?_
              refine qe_block_ret ?_
              refine qe_then_ret ?_
              refine qe_end rfl rfl ?_
              exact ⟨v, rfl, HK⟩
            · try simp only [zn1, zn2, zn3, zn4, zn5, zn6] at h6
              omega

theorem take_over {B w : World} {F : List Ent} {g : Nat} {p : PS} {m : GM} (H : Own B (.cells g 80 p.cells :: F) w) (hi : p.ph = .iface 97 (.agg #[])) :
    Calls Try.prog 18 #[.pointer (some ⟨g, 0, none⟩), .agg m.cells.toArray] w fun e w' => e = .returned (slv none 0 0) ∧ Own B (.cells g 80 p.cells :: F) w' := by
  refine calls_ce (args := [.pointer (some ⟨g, 0, none⟩), .agg m.cells.toArray]) Try.func18 rfl rfl ?_
  change CE _ _ 80 _ _ [(0, .pointer (some ⟨g, 0, none⟩)), (1, .agg m.cells.toArray)] _
  refine ce_seq ?_
  refine ce_text (tab := []) (soft := 2) (.op 0 (.op 1 .nil)) rfl rfl ?_
  refine re_box H rfl rfl rfl rfl rfl rfl ?_
  intro g3 w H
  refine ⟨(fun h => (nomatch h)), ?_⟩
  refine re_assign rfl rfl rfl rfl rfl ?_
  refine re_nil ?_
  refine qe_thenC ?_
  refine ce_seq ?_
  refine ce_seq ?_
  refine ce_text (tab := []) (soft := 3670015) (.op 0 (.op 1 (.op 2 (.op 3 (.op 4 (.op 5 (.op 6 (.op 7 (.op 8 (.op 9 (.op 10 (.op 11 (.op 12 (.op 13 (.op 14 (.op 15 (.op 16 (.op 17 (.op 18 (.op 19 (.op 20 (.op 21 .nil)))))))))))))))))))))) rfl rfl ?_
  refine re_move rfl rfl rfl rfl rfl ?_
  refine re_nilc rfl rfl rfl rfl rfl ?_
  first | refine re_field0 rfl rfl rfl rfl rfl fo_80_10 ?_ | refine re_field rfl rfl rfl rfl rfl fo_80_10 ?_ | refine re_fieldA rfl rfl rfl rfl rfl fo_80_10 ?_
  refine re_load H rfl rfl rfl rfl rfl sh_76 rfl ?_
  refine re_build rfl rfl rfl rfl rfl ze_73 pl_73 (by simp only [fillL, setMany, Value.cells, List.getElem?_cons_zero, List.getElem?_cons_succ, List.length_cons, List.length_nil, List.set_cons_zero, List.set_cons_succ, Nat.reduceAdd, Nat.reduceLeDiff, Nat.zero_add, and_self, ↓reduceIte]; rfl) ?_
  refine re_iface rfl rfl rfl rfl rfl nif_73 ?_
  simp only [hi]
  refine re_binW rfl rfl rfl rfl rfl rfl (run_ifNe ifc_76 rfl (.inl ⟨rfl, rfl⟩)) ?_
  refine re_move rfl rfl rfl rfl rfl ?_
  refine re_move rfl rfl rfl rfl rfl ?_
  refine re_nilc rfl rfl rfl rfl rfl ?_
  first | refine re_field0 rfl rfl rfl rfl rfl fo_80_10 ?_ | refine re_field rfl rfl rfl rfl rfl fo_80_10 ?_ | refine re_fieldA rfl rfl rfl rfl rfl fo_80_10 ?_
  refine re_load H rfl rfl rfl rfl rfl sh_76 rfl ?_
  refine re_build rfl rfl rfl rfl rfl ze_97 pl_97 (by simp only [fillL, setMany, Value.cells, List.getElem?_cons_zero, List.getElem?_cons_succ, List.length_cons, List.length_nil, List.set_cons_zero, List.set_cons_succ, Nat.reduceAdd, Nat.reduceLeDiff, Nat.zero_add, and_self, ↓reduceIte]; rfl) ?_
  refine re_iface rfl rfl rfl rfl rfl nif_97 ?_
  simp only [hi]
  refine re_binW rfl rfl rfl rfl rfl rfl (run_ifEq0 ifc_76 cmp_97 fk_97 sh_97 (.inl ⟨rfl, rfl⟩)) ?_
  refine re_pickF rfl rfl rfl rfl rfl rfl ?_
  refine re_move rfl rfl rfl rfl rfl ?_
  refine re_skip1 rfl rfl rfl ?_
  refine re_skip1 rfl rfl rfl ?_
  refine re_skip1 rfl rfl rfl ?_
  refine re_skip1 rfl rfl rfl ?_
  refine re_pickT rfl rfl rfl rfl rfl rfl ?_
  refine re_nil ?_
  refine qe_thenC ?_
  refine ce_condT rfl ?_
  refine ce_seq ?_
  refine ce_text (tab := []) (soft := 1) (.op 0 .nil) rfl rfl ?_
  refine re_assign rfl rfl rfl rfl rfl ?_
  refine re_nil ?_
  refine qe_thenC ?_
  refine ce_ret ?_
  refine qe_then_ret ?_
  refine qe_end rfl rfl ?_
  exact ⟨rfl, H.tail⟩
end Go.Proofs.Ytofaoblfemfkiaa

/- '[]T{v0, v1, ..}', any number of elements. No program in sight. -/
namespace Go.Fw
open Go Go.RowKit
section
variable {P : Program} {ops : Array Oper} {tab : List Nat} {soft : Nat} {d : Bool} {Q : Exit → Act → World → Prop} {n : Nat} {ds : List Deferred}
variable {rest : OT} {pend : List Pend} {ρ : Env} {w : World} {i : Nat} {t : Tmp} {ty : TypeId} {pos : String} {aft : Array Edge} {g : Option (Nat × Bool)}
def rowPlaces (m size : Nat) : List (Nat × Nat) := (List.range m).map fun i => (i * size, size)
theorem rep_get {zs : List Value} (hz : 0 < zs.length) : ∀ (m j : Nat) (h : j < m * zs.length), (List.replicate m zs).flatten[j]? = zs[j % zs.length]?
  | 0, j, h => by simp at h
  | m + 1, j, h => by
    rw [List.replicate_succ, List.flatten_cons, List.getElem?_append]
    by_cases hj : j < zs.length
    · rw [if_pos hj, Nat.mod_eq_of_lt hj]
    · rw [if_neg hj, rep_get hz m (j - zs.length) (by rw [Nat.succ_mul] at h; omega)]
      congr 1
      exact (Nat.mod_eq_sub_mod (by omega)).symm
theorem rep_len (zs : List Value) : ∀ m, (List.replicate m zs).flatten.length = m * zs.length
  | 0 => by simp
  | m + 1 => by rw [List.replicate_succ, List.flatten_cons, List.length_append, rep_len zs m, Nat.succ_mul]; omega
theorem fillL_len {pl : List (Nat × Nat)} : ∀ (pv : List (Nat × Value)) (cs out : List Value), fillL pl cs pv = some out → out.length = cs.length
  | [], cs, out, h => by simp [fillL] at h; rw [h]
  | (i, v) :: r, cs, out, h => by
    simp only [fillL] at h
    cases hp : pl[i]? with
    | none => rw [hp] at h; simp at h
    | some x =>
      rw [hp] at h
      simp only at h
      split at h
      · rw [fillL_len r _ _ h, setMany_length]
      · cases h
/-- '[]T{v0, v1, ..}' -/
theorem re_sliceN {B : World} {L : List Ent} (H : Own B L w) {st e : TypeId} {size bytes m : Nat} {parts : List (Nat × Operand)} {pv : List (Nat × Value)} {cs zs : List Value}
    (ho : ops[i]? = some ⟨some t, .buildSlice st m parts.toArray, ty, pos, aft, g⟩) (hw : wantE ops ρ ⟨some t, .buildSlice st m parts.toArray, ty, pos, aft, g⟩ = some true) (hs : isSoft soft i = false) (hd : Nat.blt t n = true) (hx : evParts ρ parts = some pv)
    (hu : P.underlying st = some (.slice e)) (he : elemInfo P st = some (e, size, bytes)) (hz : zeroC P e = some zs) (hzl : zs.length = size) (hpos : Nat.blt 0 size = true) (hm : Nat.blt 0 m = true) (hsz : Nat.ble (m * size) 16777216 = true) (hf : fillL (rowPlaces m size) (List.replicate m zs).flatten pv = some cs)
    (k : ∀ b w', Own B (.row (some b) m e size m cs :: L) w' → (d = true → Still P tab i w' pend) ∧ RE P ops tab soft d Q n ds rest pend ((t, slv (some b) m m) :: ρ) w') : RE P ops tab soft d Q n ds (.op i rest) pend ρ w := by
  have hpos : 0 < size := by simpa using hpos
  have hm : 0 < m := by simpa using hm
  obtain ⟨inf, hinf, hsize⟩ : ∃ inf, P.info? e = some inf ∧ inf.size = size := by
    simp only [elemInfo, hu, Option.map_eq_some_iff, Prod.mk.injEq] at he
    obtain ⟨i, h1, _, h2, _⟩ := he
    exact ⟨i, h1, h2⟩
  obtain ⟨z, hz1, hz2⟩ : ∃ z, inf.zero = some z ∧ z.cells = zs.toArray := by
    simp only [zeroC, hinf, Option.bind_some, Option.map_eq_some_iff] at hz
    obtain ⟨z, h1, h2⟩ := hz
    exact ⟨z, h1, by rw [← h2]⟩
  have hle := Nat.le_of_ble_eq_true hsz
  have hcl : cs.length = m * size := by rw [fillL_len pv _ _ hf, rep_len, hzl]
  refine re_effv (s := Instr.buildSlice st m pv.toArray) (w' := { w with heap := w.heap.push (.cells cs.toArray e) }) ho hw hs hd (fun a ha => by
    have := evParts_spec ha parts pv hx
    simp only [execOp]
    have h2 : (parts.toArray.map fun (x : Nat × Operand) => (x.1, a.eval x.2)) = pv.toArray := by simp [this]
    rw [h2]; rfl) ?_ (k w.heap.size _ ((H.alloc e cs).as_row hcl (Nat.le_refl _) (by have : m ≤ m * size := Nat.le_mul_of_pos_right m hpos; simp only [maxLen]; omega) (List.take_of_length_le (by omega))))
  have hzero : ((Array.range (m * size)).map (zs.toArray[· % zs.toArray.size]!)) = (List.replicate m zs).flatten.toArray := by
    apply Array.ext
    · simp only [Array.size_map, Array.size_range, List.size_toArray, rep_len, hzl]
    · intro j h1 h2
      have hj : j < m * zs.length := by simpa [rep_len] using h2
      have h3 := rep_get (by omega) m j hj
      have hmod : j % zs.length < zs.length := Nat.mod_lt _ (by omega)
      rw [List.getElem?_eq_getElem hmod, List.getElem?_eq_getElem (by rw [rep_len]; exact hj)] at h3
      have h4 := Option.some.inj h3
      simp only [Array.getElem_map, Array.getElem_range, List.getElem_toArray, List.size_toArray]
      rw [h4]
      simp [hmod]
  have hfill : Instr.fill (fun i => some (i * size, size)) (List.replicate m zs).flatten.toArray pv = some cs.toArray :=
    fill_eq _ (rowPlaces m size) (fun i x h => by
      simp only [rowPlaces, List.getElem?_map, Option.map_eq_some_iff] at h
      obtain ⟨a, h1, h2⟩ := h
      obtain ⟨h3, h4⟩ := List.getElem?_eq_some_iff.1 h1
      simp only [List.getElem_range] at h4
      subst h4
      rw [← h2]) pv _ cs hf
  have hne : ¬ (m * size = 0) := by have := Nat.mul_pos hm hpos; omega
  simp only [Instr.buildSlice, Sem.run_bind, run_underlying hu, Result.andThen_ok, sizeOf, typeInfo, run_program, hinf, Sem.run_pure, hsize]
  rw [if_neg (by omega), if_neg hne]
  simp only [Sem.run_bind, Sem.run_pure, Result.andThen_ok, zeroValue, typeInfo, run_program, hinf, hz1, hz2, hzero, hfill, newRow, newObj, Sem.run]
  rfl
/-- A value of a row, read at its place. -/
theorem run_loadAt_row {B : World} {L : List Ent} (H : Own B L w) {τ : TypeId} {agg : Bool} {k : Nat} (hs : shapeOf P τ = some (agg, k)) {b c : Nat} {e : TypeId} {size m : Nat} {xs : List Value} [hm : InRow (some b) L c e size m xs] {off : Nat} {v : Value}
    (hv : rdAt agg k xs off = some v) : (Instr.loadAt τ (.pointer (some ⟨b, off, none⟩))).run P w = .ok v w := by
  cases agg with
  | false => exact run_loadAt_one hs (H.row_cell hm.mem hv)
  | true =>
    simp only [rdAt] at hv
    split at hv
    · rename_i hle
      injection hv with hv
      subst hv
      have hl : ((xs.drop off).take k).length = k := by simp; omega
      refine run_loadAt_agg (by rw [hl]; exact hs) fun j u hu => ?_
      rw [add_lit]
      refine H.row_cell hm.mem ?_
      rw [List.getElem?_take] at hu
      split at hu
      · rw [List.getElem?_drop] at hu; exact hu
      · cases hu
    · cases hv
end
end Go.Fw

/- The row's end, where nothing old has turned ('Below'): what is known of the old blocks is enough. No program in sight. -/
namespace Go.Fw
open Go Go.RowKit Go.ChangeShapes
theorem Own.below_ {B w : World} {L : List Ent} (h : Own B L w) : Below B.heap.size B w := ⟨h.os, h.tape, h.output, h.size, h.old⟩
section
variable {H : Type} {enc : TypeId × Value → H} {P : Program}
theorem post_below {f : Func} {s : ChangeSpec} {apart fresh handsOn again : Bool} {W W' : World} {args : Array Value} {v : Value} {ds gs : List (DataW H)} {before pa pv : List MemPlace}
    (hW : DataW.Whole enc P f.params.toList s.vars apart W args.toList ds gs before)
    (hres : ∀ (b : Nat) (sp : Nat → Bool) (hd : Bool), DataW.TrodAll enc P W' b sp hd f.resultTypes.toList (v.resultList f.resultTypes.size) (s.fn H (ds ++ gs)).results [])
    (hargs : ∀ sp : Nat → Bool, (∀ p ∈ before, sp p.block = true) → DataW.TrodAll enc P W' 0 sp true f.params.toList args.toList (s.fn H (ds ++ gs)).args pa)
    (hvars : ∀ sp : Nat → Bool, (∀ p ∈ before, sp p.block = true) → DataW.TrodVars enc P W' sp s.vars (s.fn H (ds ++ gs)).vars pv)
    (hps : before = pa ++ pv) (hb : Below W.heap.size W W')
    (hok : ∀ (j : Nat) (t : TypeId) (r : Value), f.resultTypes[j]? = some t → (v.resultList f.resultTypes.size)[j]? = some r → Value.okWide P W' .any 0 t r) :
    s.post enc P f apart fresh handsOn again W args v W' := by
  have hlt : ∀ p ∈ before, p.block < W.heap.size := fun p hp => by simpa using hW.lt p hp
  have hold : ∀ p ∈ before, (fun b => decide (b < W.heap.size)) p.block = true := fun p hp => by simpa using hW.lt p hp
  refine ⟨ds, gs, before, [], pa, pv, hW, hres _ _ _, hargs _ hold, hvars _ hold, World.keptBut_mono (fun p hp => ⟨hp, ?_⟩) (hb.frame (· ∈ before)), fun _ => ?_⟩
  · rw [hps, List.mem_append] at hp
    exact Or.inr hp
  · obtain ⟨_, _, _, _, _, hz, hn⟩ := hW
    refine ⟨hok, _, _, ([] ++ pa) ++ pv, ⟨[] ++ pa, pv, trodAll_append (hargs _ (fun _ _ => rfl)) (hres _ _ _), hvars _ (fun _ _ => rfl), rfl, ?_, ?_⟩, ?_⟩
    · intro b off hp
      have hm : MemPlace.cell b off ∈ before := by rw [hps]; simpa using hp
      rw [hb.frozen (hlt _ hm)]
      exact hz b off hm
    · intro ha
      have := hn ha
      rw [hps] at this
      simpa using this
    · intro p hp _
      rw [hps]
      simpa using hp
end
end Go.Fw

/- Slices that begin within a row, of which only the form is known; sub-slices; bits; texts out of bytes; three results. No program in sight. -/
namespace Go.Fw
open Go Go.RowKit
def lsv (a : Option Nat) (off n c : Nat) : Value := .slice (a.map fun g => ⟨g, off, none⟩) n c
/-- The slice 'lsv a off n c' may be appended to; what is in it is not told. -/
def Ent.loose (a : Option Nat) (off n c : Nat) (e : TypeId) (size : Nat) : Ent :=
  ⟨a, fun o => match a with
    | none => n = 0 ∧ c = 0
    | some _ => ∃ cur : Array Value, o = some (.cells cur e (0, 0)) ∧ off + c * size ≤ cur.size ∧ n ≤ c ∧ c ≤ maxLen⟩
section
variable {B w w' : World} {L : List Ent}
theorem setCells_block (b : Nat) : ∀ (vs : List Value) (o : Nat) (w : World) (cur : Array Value) (e : TypeId), w.heap[b]? = some (.cells cur e (0, 0)) →
    ∃ cur' : Array Value, cur'.size = cur.size ∧ (w.setCells b o vs).heap[b]? = some (.cells cur' e (0, 0)) ∧ (w.setCells b o vs).heap.size = w.heap.size ∧ (w.setCells b o vs).os = w.os ∧ (w.setCells b o vs).tape = w.tape ∧ (w.setCells b o vs).output = w.output ∧ ∀ k, k ≠ b → (w.setCells b o vs).heap[k]? = w.heap[k]?
  | [], o, w, cur, e, h => ⟨cur, rfl, h, rfl, rfl, rfl, rfl, fun _ _ => rfl⟩
  | v :: vs, o, w, cur, e, h => by
    have h1 : (w.setCell ⟨b, o, none⟩ v).heap[b]? = some (.cells (cur.setIfInBounds o v) e (0, 0)) := by
      simp [World.setCell, Array.getElem?_modify, h]
    obtain ⟨cur', hs, h2, h3, h4, h5, h6, h7⟩ := setCells_block b vs (o + 1) (w.setCell ⟨b, o, none⟩ v) _ e h1
    refine ⟨cur', by simpa using hs, h2, by rw [show (w.setCells b o (v :: vs)) = (w.setCell ⟨b, o, none⟩ v).setCells b (o + 1) vs from rfl, h3]; simp [World.setCell], h4, h5, h6, fun k hk => ?_⟩
    exact (h7 k hk).trans (Below.heap_setCell w _ v k hk)
theorem Own.set_new (H : Own B L w) {i : Nat} {x : Ent} (hi : L[i]? = some x) {e : Ent} {b : Nat} (hb : Below w.heap.size w w') (he : e.blk = some b) (h1 : w.heap.size ≤ b) (h2 : b < w'.heap.size) (h3 : e.ok w'.heap[b]?) : Own B (L.set i e) w' := by
  obtain ⟨L1, L2, hL, hset⟩ := split_at hi
  rw [hset]
  have h0 : Own B (L1 ++ L2) w := H.sub (by rw [hL]; exact (List.Sublist.refl L1).append (List.sublist_cons_self x L2))
  refine Own.perm (h0.below_add (e := e) hb ?_) List.perm_middle.symm
  rw [he]
  exact ⟨h1, h2, h3⟩
/-- One element more. -/
theorem Own.append_loose {P : Program} (H : Own B L w) {i : Nat} {a : Option Nat} {off n c : Nat} {e : TypeId} {size bytes : Nat} (hi : L[i]? = some (.loose a off n c e size)) {t ty : TypeId} (hu : P.underlying t = some (.slice e)) (he : elemInfo P t = some (e, size, bytes)) {zs : List Value} (hz : zeroC P e = some zs) (hzl : zs.length = size) (hsz : 0 < size)
    {ad : Addr} {cs : Nat} {news : List Value} (hl : news.length = size) (hnews : ∀ j u, news[j]? = some u → w.cell? (ad.add j) = some u) (h1 : news.all oneB = true) (hb : (n + 1) * bytes ≤ 140737488355328) (h63 : n + 1 ≤ maxLen) :
    ∃ a' off' c' w', (Builtin.append_ #[t, t] ty #[lsv a off n c, .slice (some ad) 1 cs]).run P w = .ok (lsv a' off' (n + 1) c') w' ∧ Own B (L.set i (.loose a' off' (n + 1) c' e size)) w' := by
  have hm := List.mem_of_getElem? hi
  obtain ⟨inf, hinf, hsize, hbytes⟩ : ∃ inf, P.info? e = some inf ∧ inf.size = size ∧ inf.bytes = bytes := by
    simp only [elemInfo, hu, Option.map_eq_some_iff, Prod.mk.injEq] at he
    obtain ⟨i, h1, _, h2, h3⟩ := he
    exact ⟨i, h1, h2, h3⟩
  obtain ⟨z, hz1, hz2⟩ : ∃ z, inf.zero = some z ∧ z.cells.size = size := by
    simp only [zeroC, hinf, Option.bind_some, Option.map_eq_some_iff] at hz
    obtain ⟨z, h1, h2⟩ := hz
    exact ⟨z, h1, by rw [← hzl, ← h2]; simp⟩
  have hl1 : news.length = 1 * inf.size := by rw [hsize]; omega
  have hmx : n + 1 ≤ 9223372036854775807 := by simp only [maxLen] at h63; omega
  subst hbytes
  have hone : ∀ u ∈ news, u.oneCell' = true := fun u hu => oneB_cell (List.all_eq_true.1 h1 u hu)
  have fresh : ∀ (old : Nat) (olds : List Value), olds.length = n * size → old < n + 1 →
      Own B (L.set i (.loose (some w.heap.size) 0 (n + 1) (grownCap w (n + 1) old e) e size)) (w.drew.alloc (.cells (olds.toArray ++ news.toArray ++ Builtin.zeroCells z.cells (grownCap w (n + 1) old e - (n + 1))) e)) := by
    intro old olds hol ho
    have hge := grownCap_ge w (n + 1) old e
    have hcm := grownCap_le_maxLen w (n + 1) old e h63
    refine H.set_new hi (b := w.heap.size) ⟨rfl, rfl, rfl, by simp, fun k hk => heap_alloc_old w.drew _ hk⟩ rfl (Nat.le_refl _) (by simp) ⟨_, heap_alloc_new w.drew _, ?_, hge, hcm⟩
    simp only [Array.size_append, List.size_toArray, size_zeroCells, hz2, hol, hl, Nat.zero_add]
    have : grownCap w (n + 1) old e * size = n * size + size + (grownCap w (n + 1) old e - (n + 1)) * size := by
      rw [show grownCap w (n + 1) old e = (n + 1) + (grownCap w (n + 1) old e - (n + 1)) by omega, Nat.add_mul, Nat.succ_mul]
      congr 2
      omega
    omega
  cases a with
  | none =>
    have h0 := H.pure_ hm rfl
    obtain ⟨rfl, rfl⟩ := h0
    have hr := run_append_nil (P := P) w t ty e inf z hu hinf hz1 ad 1 cs news hl1 hnews (by omega) (by omega) (by omega)
    refine ⟨some w.heap.size, 0, grownCap w 1 0 e, _, hr, ?_⟩
    simpa using fresh 0 [] (by simp) (by omega)
  | some g =>
    obtain ⟨hg1, hg2, cur, hcur, hc1, hc2, hc3⟩ := H.at_ hm rfl
    by_cases hroom : n + 1 ≤ c
    · have hfit : off + n * size + size ≤ cur.size := by
        have : (n + 1) * size ≤ c * size := Nat.mul_le_mul_right _ hroom
        rw [Nat.succ_mul] at this
        omega
      have hcell : ∀ j, j < news.length → (w.cell? ⟨g, off + n * inf.size + j, none⟩).isSome = true := fun j hj => by
        rw [hsize]
        simp only [World.cell?, hcur]
        rw [Array.getElem?_eq_getElem (by omega)]
        rfl
      have hfro : ∀ j, j < news.length → w.frozen? ⟨g, off + n * inf.size + j, none⟩ = false := fun j _ => by simp [World.frozen?, hcur]
      have hr := run_append_room_cells (P := P) w t ty e inf hu hinf g off n c ad 1 cs news hl1 hnews hone hroom hcell hfro
      refine ⟨some g, off, c, _, hr, ?_⟩
      obtain ⟨cur', k1, k2, k3, k4, k5, k6, k7⟩ := setCells_block g news (off + n * inf.size) w cur e hcur
      exact H.turn hi rfl rfl ⟨k4, k5, k6, k3⟩ k7 ⟨cur', k2, by omega, hroom, hc3⟩
    · have hlo : n * size ≤ cur.size - off := by have := Nat.mul_le_mul_right size hc2; omega
      have hol : ((cur.toList.drop off).take (n * size)).length = n * size := by simp; omega
      have hr := run_append_grow (P := P) w t ty e inf z hu hinf hz1 ⟨g, off, none⟩ n c ((cur.toList.drop off).take (n * size)) (by rw [hsize]; exact hol) (fun j u hu => by
        rw [add_lit]
        rw [List.getElem?_take] at hu
        split at hu
        · rw [List.getElem?_drop] at hu
          simp only [World.cell?, hcur]
          simpa using hu
        · cases hu) ad 1 cs news hl1 hnews (by omega) (by omega) (growslice_fits (by omega) hb)
      exact ⟨some w.heap.size, 0, _, _, hr, fresh c _ hol (by omega)⟩
theorem Own.nil_loose (h : Own B L w) (e : TypeId) (size : Nat) : Own B (.loose none 0 0 0 e size :: L) w := h.add (e := .loose none 0 0 0 e size) ⟨rfl, rfl⟩
theorem Own.loose_some (H : Own B L w) {a : Option Nat} {off n c : Nat} {e : TypeId} {size : Nat} (hm : Ent.loose a off n c e size ∈ L) (h0 : 0 < n) : ∃ g, a = some g := by
  cases a with
  | none => have := (H.pure_ hm rfl).1; omega
  | some g => exact ⟨g, rfl⟩
theorem Own.loose_le (H : Own B L w) {a : Option Nat} {off n c : Nat} {e : TypeId} {size : Nat} (hm : Ent.loose a off n c e size ∈ L) : n ≤ c := by
  cases a with
  | none =>
    obtain ⟨h1, h2⟩ := H.pure_ hm rfl
    omega
  | some g => obtain ⟨_, _, cur, _, _, h, _⟩ := H.at_ hm rfl; exact h
/-- The rest of such a slice. -/
theorem Own.loose_drop (H : Own B L w) {i : Nat} {a : Option Nat} {off n c : Nat} {e : TypeId} {size : Nat} (hi : L[i]? = some (.loose a off n c e size)) {k : Nat} (hk : k ≤ n) (h0 : 0 < n) : Own B (L.set i (.loose a (off + k * size) (n - k) (c - k) e size)) w := by
  have hm := List.mem_of_getElem? hi
  cases a with
  | none => have := (H.pure_ hm rfl).1; omega
  | some g =>
    obtain ⟨hg1, hg2, cur, hcur, hc1, hc2, hc3⟩ := H.at_ hm rfl
    refine H.turn hi rfl rfl ⟨rfl, rfl, rfl, rfl⟩ (fun _ _ => rfl) ⟨cur, hcur, ?_, by omega, by omega⟩
    have : k * size + (c - k) * size = c * size := by rw [← Nat.add_mul]; congr 1; omega
    omega
end
class SwapLoose (a : Option Nat) (L : List Ent) (off c : outParam Nat) (e : outParam TypeId) (size n : outParam Nat) (i : outParam Nat) : Prop where
  out : L[i]? = some (Ent.loose a off n c e size)
instance SwapLoose.here {a : Option Nat} {off c : Nat} {e : TypeId} {size n : Nat} {L : List Ent} : SwapLoose a (Ent.loose a off n c e size :: L) off c e size n 0 := ⟨rfl⟩
instance (priority := low) SwapLoose.there {a : Option Nat} {off c : Nat} {e : TypeId} {size n i : Nat} {x : Ent} {L : List Ent} [h : SwapLoose a L off c e size n i] : SwapLoose a (x :: L) off c e size n (i + 1) := ⟨by simpa using h.out⟩
section
variable {P : Program} {ops : Array Oper} {tab : List Nat} {soft : Nat} {d : Bool} {Q : Exit → Act → World → Prop} {n : Nat} {ds : List Deferred}
variable {rest : OT} {pend : List Pend} {ρ : Env} {w : World} {i : Nat} {t : Tmp} {ty : TypeId} {pos : String} {aft : Array Edge} {g : Option (Nat × Bool)}
/-- 'append(x, v)', x a loose slice. -/
theorem re_appendL {B : World} {L : List Ent} (H : Own B L w) {x y : Operand} {st e : TypeId} {a : Option Nat} {off c : Nat} {size bytes li k1 cs : Nat} {src : Addr} {news zs : List Value}
    (ho : ops[i]? = some ⟨some t, .call { callee := .builtin .append, args := #[x, y], argTypes := #[st, st] }, ty, pos, aft, g⟩) (hw : wantE ops ρ ⟨some t, .call { callee := .builtin .append, args := #[x, y], argTypes := #[st, st] }, ty, pos, aft, g⟩ = some true) (hs : isSoft soft i = false) (hd : Nat.blt t n = true)
    (hx : ev ρ x = some (lsv a off k1 c)) (hy : ev ρ y = some (.slice (some src) 1 cs)) (hu : P.underlying st = some (.slice e)) (he : elemInfo P st = some (e, size, bytes)) (hz : zeroC P e = some zs) (hzl : zs.length = size) (hsz : 0 < size)
    [hi : SwapLoose a L off c e size k1 li] (hsrc : news.length = 1 * size ∧ (0 < 1 → ∃ ad, some src = some ad ∧ ∀ j u, news[j]? = some u → w.cell? (ad.add j) = some u)) (h1 : news.all oneB = true) (hb : (k1 + 1) * bytes ≤ 140737488355328) (h63 : k1 + 1 ≤ maxLen)
    (k : ∀ a' off' c' w', Own B (L.set li (.loose a' off' (k1 + 1) c' e size)) w' → (d = true → Still P tab i w' pend) ∧ RE P ops tab soft d Q n ds rest pend ((t, lsv a' off' (k1 + 1) c') :: ρ) w') : RE P ops tab soft d Q n ds (.op i rest) pend ρ w := by
  obtain ⟨ad, had, hcell⟩ := hsrc.2 (by omega)
  injection had with had
  subst had
  obtain ⟨a', off', c', w', hr, H'⟩ := H.append_loose (P := P) (t := st) (ty := ty) hi.out hu he hz hzl hsz (by have := hsrc.1; omega) hcell h1 hb h63 (cs := cs)
  exact re_effv (s := Builtin.append_ #[st, st] ty #[lsv a off k1 c, .slice (some src) 1 cs]) ho hw hs hd (fun a' ha => by
    simp only [execOp, resolve, invoke, builtin, List.map_toArray, List.map_cons, List.map_nil, ha.eval hx, ha.eval hy]; rfl) hr (k a' off' c' w' H')
/-- 'x[l:]' -/
theorem re_sliceLo {st e : TypeId} {size bytes : Nat} {x y : Operand} {ad : Addr} {m c : Nat} {kd : IntKind} {l : Int} (ho : ops[i]? = some ⟨some t, .slice st x (some y) none none, ty, pos, aft, g⟩) (hw : wantE ops ρ ⟨some t, .slice st x (some y) none none, ty, pos, aft, g⟩ = some true) (hs : isSoft soft i = true) (hd : Nat.blt t n = true)
    (hx : ev ρ x = some (.slice (some ad) m c)) (hy : ev ρ y = some (.int kd l)) (hu : P.underlying st = some (.slice e)) (he : elemInfo P st = some (e, size, bytes)) (h0 : 0 ≤ l) (h1 : l ≤ m)
    (k : ∀ ad' : Addr, (l < c → ad' = ad.add (l.toNat * size)) → RE P ops tab soft d Q n ds rest pend ((t, .slice (some ad') (m - l.toNat) (c - l.toNat)) :: ρ) w) : RE P ops tab soft d Q n ds (.op i rest) pend ρ w :=
  re_soft (s := Instr.sliceAt st (.slice (some ad) m c) (some (.int kd l)) none none) (v := .slice (some (if c = l.toNat then ad else ad.add (l.toNat * size))) (m - l.toNat) (c - l.toNat)) ho hw hs hd (fun b ha => by simp only [execOp, ha.eval hx, Option.map_none, Option.map_some, ha.eval hy]; rfl) (fun w => by
    have hue := elem_of hu
    obtain ⟨inf, hinf, hsize⟩ : ∃ inf, P.info? (P.elem st) = some inf ∧ inf.size = size := by
      have h2 : P.elem st = e := by simp [Program.elem, hu]
      simp only [elemInfo, hu, Option.map_eq_some_iff, Prod.mk.injEq] at he
      obtain ⟨i, h1, _, h3, _⟩ := he
      exact ⟨i, by rw [h2]; exact h1, h3⟩
    have hsz : (sizeOf (P.elem st)).run P w = .ok size w := by simp [sizeOf, typeInfo, hinf, hsize]
    rw [run_sliceAt_slice w st _ _ _ _ hue, run_slice_l w st (some ad) m c hue kd l h0 h1, hsz]
    simp only [Result.andThen_ok, sliced]
    split <;> rfl) (k _ (fun hc => by rw [if_neg (by omega)]))
/-- Bits. -/
def bitsI (op : BinOp) (a b : Int) : Int := match op with
  | .and => IntKind.i64.wrap (((BitVec.ofInt IntKind.i64.bits a) &&& (BitVec.ofInt IntKind.i64.bits b)).toNat : Int)
  | .or => IntKind.i64.wrap (((BitVec.ofInt IntKind.i64.bits a) ||| (BitVec.ofInt IntKind.i64.bits b)).toNat : Int)
  | .shl => IntKind.i64.wrap (a * 2 ^ (min b.toNat IntKind.i64.bits))
  | _ => 0
theorem re_bits {op : BinOp} {xt yt : TypeId} {x y : Operand} {a b : Int}
    (ho : ops[i]? = some ⟨some t, .binOp op xt x y yt, ty, pos, aft, g⟩) (hw : wantE ops ρ ⟨some t, .binOp op xt x y yt, ty, pos, aft, g⟩ = some true) (hs : isSoft soft i = true) (hd : Nat.blt t n = true)
    (hx : ev ρ x = some (.int .i64 a)) (hy : ev ρ y = some (.int .i64 b)) (hop : op = .and ∨ op = .or ∨ op = .shl ∧ 0 ≤ b) (k : RE P ops tab soft d Q n ds rest pend ((t, .int .i64 (bitsI op a b)) :: ρ) w) : RE P ops tab soft d Q n ds (.op i rest) pend ρ w :=
  re_soft (s := do eqGuard op xt x y (.int .i64 a) (.int .i64 b); binOp op xt (.int .i64 a) (.int .i64 b)) ho hw hs hd (fun a' ha => by simp only [execOp, ha.eval hx, ha.eval hy]; rfl) (fun w => run_bin_int (by
    rcases hop with rfl | rfl | ⟨rfl, h0⟩
    · simp [binOp, Op.intBits, bitsI]
    · simp [binOp, Op.intBits, bitsI]
    · have : ¬ b < 0 := by omega
      simp [binOp, Op.shift, bitsI, this])) k
/-- Three results, the first two in memory. -/
theorem qe_endCell3 {B : World} {L : List Ent} {w : World} (H : Own B L w) {fn : Func} {R : Ending → World → Prop} {ρ : Env} {t u s : Tmp} {τ σ : TypeId} {agg agg' : Bool} {kk kk' b b' off off' : Nat} {e e' : TypeId} {cs cs' : List Value} {v v' x : Value} (hf : fn.results = #[.cell t τ, .cell s σ, .tmp u]) (hx : look ρ t = some (.pointer (some ⟨b, off, none⟩))) (hy : look ρ s = some (.pointer (some ⟨b', off', none⟩))) (hu : look ρ u = some x)
    (hk : shapeOf P τ = some (agg, kk)) (hk' : shapeOf P σ = some (agg', kk')) [hm : InCells b L e cs] [hm' : InCells b' L e' cs'] (hv : rdAt agg kk cs off = some v) (hv' : rdAt agg' kk' cs' off' = some v') (h : R (.returned (.tuple #[v, v', x])) w) : QE (bodyPost P fn R) n [] .ret ρ w := fun a ha => by
  refine bodyPost_ret (v := .tuple #[v, v', x]) ?_ ha.defers h
  have h1 := ha.get t _ hx
  have h5 := ha.get s _ hy
  have h3 := ha.get u _ hu
  have h2 := run_loadAt_own (P := P) H hk hm.mem hv
  have h4 := run_loadAt_own (P := P) H hk' hm'.mem hv'
  simp only [Instr.loadAt, Instr.sureAddr, Sem.run_bind, Sem.run_pure, Result.andThen_ok] at h2 h4
  simp [results, hf, h1, h3, h5, asAddr, h2, h4]
/-- '[]T{}' -/
theorem re_slice0 {B : World} {L : List Ent} (H : Own B L w) {st e : TypeId} {size bytes : Nat}
    (ho : ops[i]? = some ⟨some t, .buildSlice st 0 #[], ty, pos, aft, g⟩) (hw : wantE ops ρ ⟨some t, .buildSlice st 0 #[], ty, pos, aft, g⟩ = some true) (hs : isSoft soft i = false) (hd : Nat.blt t n = true)
    (hu : P.underlying st = some (.slice e)) (he : elemInfo P st = some (e, size, bytes))
    (k : ∀ b w', Own B (.row (some b) 0 e size 0 [] :: L) w' → (d = true → Still P tab i w' pend) ∧ RE P ops tab soft d Q n ds rest pend ((t, slv (some b) 0 0) :: ρ) w') : RE P ops tab soft d Q n ds (.op i rest) pend ρ w := by
  obtain ⟨inf, hinf, hsize⟩ : ∃ inf, P.info? e = some inf ∧ inf.size = size := by
    simp only [elemInfo, hu, Option.map_eq_some_iff, Prod.mk.injEq] at he
    obtain ⟨i, h1, _, h2, _⟩ := he
    exact ⟨i, h1, h2⟩
  refine re_effv (s := Instr.buildSlice st 0 #[]) (w' := { w with heap := w.heap.push (.cells #[] e) }) ho hw hs hd (fun a ha => by simp only [execOp, List.map_toArray, List.map_nil]; rfl) ?_
    (k w.heap.size _ ((H.alloc e []).as_row (c := 0) (by simp) (Nat.le_refl _) (by decide) (by simp)))
  simp only [Instr.buildSlice, Sem.run_bind, run_underlying hu, Result.andThen_ok, sizeOf, typeInfo, run_program, hinf, Sem.run_pure, hsize, Nat.zero_mul]
  have h0 : (Array.range 0) = #[] := rfl
  simp [Instr.fill, newRow, newObj, Sem.run, h0]
/-- A whole number, as another kind. -/
theorem re_convI {src dst : TypeId} {x : Operand} {k1 k2 : IntKind} {a : Int} (ho : ops[i]? = some ⟨some t, .convert src dst x, ty, pos, aft, g⟩) (hw : wantE ops ρ ⟨some t, .convert src dst x, ty, pos, aft, g⟩ = some true) (hs : isSoft soft i = true) (hd : Nat.blt t n = true)
    (hx : ev ρ x = some (.int k1 a)) (h1 : P.underlying src = some (.int k1)) (h2 : P.underlying dst = some (.int k2))
    (k : RE P ops tab soft d Q n ds rest pend ((t, .int k2 (k2.wrap a)) :: ρ) w) : RE P ops tab soft d Q n ds (.op i rest) pend ρ w :=
  re_soft (s := convert src dst (.int k1 a)) ho hw hs hd (fun b ha => by simp only [execOp, ha.eval hx]; rfl) (fun w => by
    simp [convert, run_underlying h1, run_underlying h2, Conv.intToInt]) k
/-- Bytes as a text. -/
theorem re_convB {B : World} {L : List Ent} (H : Own B L w) {src dst e e' : TypeId} {x : Operand} {b c m : Nat} {ns : List Int} (ho : ops[i]? = some ⟨some t, .convert src dst x, ty, pos, aft, g⟩) (hw : wantE ops ρ ⟨some t, .convert src dst x, ty, pos, aft, g⟩ = some true) (hs : isSoft soft i = true) (hd : Nat.blt t n = true)
    (hx : ev ρ x = some (.slice (some ⟨b, 0, none⟩) m c)) [hm : InCells b L e' (ns.map (Value.int .u8))] (hl : ns.length = m) (h1 : P.underlying src = some (.slice e)) (h2 : P.underlying e = some (.int .u8)) (h3 : P.underlying dst = some .string)
    (k : RE P ops tab soft d Q n ds rest (⟨i, convert src dst (.slice (some ⟨b, 0, none⟩) m c), .string (ns.foldl (fun r n => r.push (UInt8.ofNat n.toNat)) ByteArray.empty)⟩ :: pend) ((t, .string (ns.foldl (fun r n => r.push (UInt8.ofNat n.toNat)) ByteArray.empty)) :: ρ) w) : RE P ops tab soft d Q n ds (.op i rest) pend ρ w :=
  re_read (s := convert src dst (.slice (some ⟨b, 0, none⟩) m c)) ho hw hs hd (fun b ha => by simp only [execOp, ha.eval hx]; rfl) (by
    rw [run_convert_bytes_string w src dst e _ m c h1 h2 h3]
    refine run_bytesToString w ⟨b, 0, none⟩ m c ns ?_
    have := run_loadCellsFrom (P := P) (w := w) (a := ⟨b, 0, none⟩) (ns.map (Value.int .u8)) 0 #[] (fun j u hu => by rw [Nat.zero_add, add_lit, H.cell hm.mem, Nat.zero_add]; exact hu)
    rw [List.length_map, hl] at this
    simpa [loadCells] using this) k
end
end Go.Fw
