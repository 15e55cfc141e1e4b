/- Parts of the proof: S T U. -/
import Derived.Test.YtofaoblfemfkiaaBd3
set_option linter.unusedVariables false
set_option linter.unusedSimpArgs false
namespace Go.Proofs.Ytofaoblfemfkiaa
open Go Go.RowKit Go.Fw
set_option linter.unusedSimpArgs false
set_option linter.unusedVariables false
set_option maxRecDepth 4000
set_option maxHeartbeats 2000000
theorem en_21 : Enterable Try.prog 21 := ⟨Try.f21, Try.func21, rfl, by decide⟩
theorem en_22 : Enterable Try.prog 22 := ⟨Try.f22, Try.func22, rfl, by decide⟩
theorem en_78 : Enterable Try.prog 78 := ⟨Try.f78, Try.func78, rfl, by decide⟩
theorem fo_54_0 : fOff Try.prog 54 0 = some 0 := by kernel_rfl
theorem fo_54_1 : fOff Try.prog 54 1 = some 1 := by kernel_rfl
theorem fo_54_2 : fOff Try.prog 54 2 = some 2 := by kernel_rfl
theorem fo_54_5 : fOff Try.prog 54 5 = some 16 := by kernel_rfl
theorem fo_54_6 : fOff Try.prog 54 6 = some 25 := by kernel_rfl
theorem fo_54_7 : fOff Try.prog 54 7 = some 26 := by kernel_rfl
theorem fo_54_8 : fOff Try.prog 54 8 = some 27 := by kernel_rfl
theorem fo_54_9 : fOff Try.prog 54 9 = some 28 := by kernel_rfl
theorem fo_86_0 : fOff Try.prog 86 0 = some 0 := by kernel_rfl
theorem pl_54 : placesOf Try.prog 54 = some [(0, 1), (1, 1), (2, 4), (6, 1), (7, 9), (16, 9), (25, 1), (26, 1), (27, 1), (28, 1), (29, 1), (30, 1), (31, 1), (32, 1), (33, 1), (34, 1), (35, 1), (36, 1), (37, 9), (46, 3)] := by kernel_rfl
theorem sh_54 : shapeOf Try.prog 54 = some (true, 49) := by kernel_rfl
theorem ze_54 : zeroC Try.prog 54 = some [.int .i64 0, .int .i64 0, .int .i64 0, .int .i64 0, .int .i64 0, .int .i64 0, .slice none 0 0, .int .i64 0, .int .i64 0, .int .i64 0, .string ByteArray.empty, .int .i64 0, .int .i64 0, .int .i64 0, .int .i64 0, .int .i64 0, .int .i64 0, .int .i64 0, .int .i64 0, .string ByteArray.empty, .int .i64 0, .int .i64 0, .int .i64 0, .int .i64 0, .int .i64 0, .int .i64 0, .int .i64 0, .int .i64 0, .int .i64 0, .slice none 0 0, .slice none 0 0, .slice none 0 0, .slice none 0 0, .bool false, .bool false, .bool false, .bool false, .int .i64 0, .int .i64 0, .int .i64 0, .string ByteArray.empty, .int .i64 0, .int .i64 0, .int .i64 0, .int .i64 0, .int .i64 0, .int .i64 0, .slice none 0 0, .slice none 0 0] := by kernel_rfl

def RS.new (cl op kk ka kb kc : Int) (mine : Cmd) (bal rnd : Int) (a : Option Nat) (c : Nat) (gs : List Int) : RS := ⟨cl, op, kk, ka, kb, kc, a, c, gs, mine, Cmd.zero, bal, rnd, bal, 0, false, false, false, false, Cmd.zero, 0, ⟨none, 0, 0⟩, ⟨none, 0, 0⟩, [], [], [], []⟩
def RS.out (r : RS) : List GM := (restOf r.gs r.ans).map r.msgOf
def RS.worn (r : RS) : RS := { r with wn := true, ph := 3 }
def RS.phase (r : RS) (n : Int) : RS := { r with ph := n }
def RS.foreign (r : RS) (m : GM) : Bool := (!decide (r.ph = 1) && !decide (r.ph = 2)) || m.fc || !m.tc || !decide (m.ti = r.cl) || !decide (m.op = r.op) || !decide (m.rnd = r.rnd) || !(decide (m.k0 = r.kk) && (decide (m.k1 = r.ka) && (decide (m.k2 = r.kb) && (decide (m.k3 = r.kc) && true))))

theorem ballot_r {B w : World} {F : List Ent} {h a1 a2 a3 a4 : Nat} {r : RS} (H : Own B (.cells h 54 (r.cellsV (slv (some a1) r.gs.length r.gs.length) (slv (some a2) r.gs.length r.gs.length) (slv (some a3) r.gs.length r.gs.length) (slv (some a4) r.gs.length r.gs.length)) :: F) w) :
    Calls Try.prog 35 #[.pointer (some ⟨h, 0, none⟩)] w fun e w' => e = .returned (.int .i64 r.nt) ∧ Own B (.cells h 54 (r.cellsV (slv (some a1) r.gs.length r.gs.length) (slv (some a2) r.gs.length r.gs.length) (slv (some a3) r.gs.length r.gs.length) (slv (some a4) r.gs.length r.gs.length)) :: F) w' := by
  refine calls_ce (args := [.pointer (some ⟨h, 0, none⟩)]) Try.func35 rfl rfl ?_
  change CE _ _ 7 _ _ [(0, .pointer (some ⟨h, 0, none⟩))] _
  refine ce_seq ?_
  refine ce_text (tab := []) (soft := 1) (.op 0 .nil) rfl rfl ?_
  refine re_assign rfl rfl rfl rfl rfl ?_
  refine re_nil ?_
  refine qe_thenC ?_
  refine ce_seq ?_
  refine ce_text (tab := []) (soft := 31) (.op 0 (.op 1 (.op 2 (.op 3 (.op 4 .nil))))) rfl rfl ?_
  refine re_move rfl rfl rfl rfl rfl ?_
  refine re_nilc rfl rfl rfl rfl rfl ?_
  first | refine re_field0 rfl rfl rfl rfl rfl fo_54_8 ?_ | refine re_field rfl rfl rfl rfl rfl fo_54_8 ?_ | refine re_fieldA rfl rfl rfl rfl rfl fo_54_8 ?_
  refine re_load H rfl rfl rfl rfl rfl sh_3 rfl ?_
  refine re_assign rfl rfl rfl rfl rfl ?_
  refine re_nil ?_
  refine qe_thenC ?_
  refine ce_ret ?_
  refine qe_end rfl rfl ?_
  exact ⟨rfl, H⟩

theorem round_r {B w : World} {F : List Ent} {h a1 a2 a3 a4 : Nat} {r : RS} (H : Own B (.cells h 54 (r.cellsV (slv (some a1) r.gs.length r.gs.length) (slv (some a2) r.gs.length r.gs.length) (slv (some a3) r.gs.length r.gs.length) (slv (some a4) r.gs.length r.gs.length)) :: F) w) :
    Calls Try.prog 36 #[.pointer (some ⟨h, 0, none⟩)] w fun e w' => e = .returned (.int .i64 r.rnd) ∧ Own B (.cells h 54 (r.cellsV (slv (some a1) r.gs.length r.gs.length) (slv (some a2) r.gs.length r.gs.length) (slv (some a3) r.gs.length r.gs.length) (slv (some a4) r.gs.length r.gs.length)) :: F) w' := by
  refine calls_ce (args := [.pointer (some ⟨h, 0, none⟩)]) Try.func36 rfl rfl ?_
  change CE _ _ 7 _ _ [(0, .pointer (some ⟨h, 0, none⟩))] _
  refine ce_seq ?_
  refine ce_text (tab := []) (soft := 1) (.op 0 .nil) rfl rfl ?_
  refine re_assign rfl rfl rfl rfl rfl ?_
  refine re_nil ?_
  refine qe_thenC ?_
  refine ce_seq ?_
  refine ce_text (tab := []) (soft := 31) (.op 0 (.op 1 (.op 2 (.op 3 (.op 4 .nil))))) rfl rfl ?_
  refine re_move rfl rfl rfl rfl rfl ?_
  refine re_nilc rfl rfl rfl rfl rfl ?_
  first | refine re_field0 rfl rfl rfl rfl rfl fo_54_7 ?_ | refine re_field rfl rfl rfl rfl rfl fo_54_7 ?_ | refine re_fieldA rfl rfl rfl rfl rfl fo_54_7 ?_
  refine re_load H rfl rfl rfl rfl rfl sh_3 rfl ?_
  refine re_assign rfl rfl rfl rfl rfl ?_
  refine re_nil ?_
  refine qe_thenC ?_
  refine ce_ret ?_
  refine qe_end rfl rfl ?_
  exact ⟨rfl, H⟩

theorem need_r {B w : World} {F : List Ent} {h a1 a2 a3 a4 : Nat} {r : RS} (H : Own B (.cells h 54 (r.cellsV (slv (some a1) r.gs.length r.gs.length) (slv (some a2) r.gs.length r.gs.length) (slv (some a3) r.gs.length r.gs.length) (slv (some a4) r.gs.length r.gs.length)) :: F) w) (hn : r.gs.length ≤ 1000000) :
    Calls Try.prog 60 #[.pointer (some ⟨h, 0, none⟩)] w fun e w' => e = .returned (.int .i64 ((r.gs.length : Int) / 2 + 1)) ∧ Own B (.cells h 54 (r.cellsV (slv (some a1) r.gs.length r.gs.length) (slv (some a2) r.gs.length r.gs.length) (slv (some a3) r.gs.length r.gs.length) (slv (some a4) r.gs.length r.gs.length)) :: F) w' := by
  refine calls_ce (args := [.pointer (some ⟨h, 0, none⟩)]) Try.func60 rfl rfl ?_
  change CE _ _ 10 _ _ [(0, .pointer (some ⟨h, 0, none⟩))] _
  refine ce_seq ?_
  refine ce_text (tab := []) (soft := 1) (.op 0 .nil) rfl rfl ?_
  refine re_assign rfl rfl rfl rfl rfl ?_
  refine re_nil ?_
  refine qe_thenC ?_
  refine ce_seq ?_
  refine ce_text (tab := []) (soft := 255) (.op 0 (.op 1 (.op 2 (.op 3 (.op 4 (.op 5 (.op 6 (.op 7 .nil)))))))) rfl rfl ?_
  refine re_move rfl rfl rfl rfl rfl ?_
  refine re_nilc rfl rfl rfl rfl rfl ?_
  first | refine re_field0 rfl rfl rfl rfl rfl fo_54_3 ?_ | refine re_field rfl rfl rfl rfl rfl fo_54_3 ?_ | refine re_fieldA rfl rfl rfl rfl rfl fo_54_3 ?_
  refine re_load H rfl rfl rfl rfl rfl sh_31 rfl ?_
  refine re_len rfl rfl rfl rfl rfl ul_31 ?_
  refine re_quo rfl rfl rfl rfl rfl rfl (by omega) (by omega) (by omega) ?_
  first | refine re_add rfl rfl rfl rfl rfl rfl (by omega) ?_ | refine re_bin rfl rfl rfl rfl rfl rfl rfl ?_
  refine re_assign rfl rfl rfl rfl rfl ?_
  refine re_nil ?_
  refine qe_thenC ?_
  refine ce_ret ?_
  refine qe_end rfl rfl ?_
  exact ⟨rfl, H⟩

theorem new_r {B w : World} {F : List Ent} {cl op kk ka kb kc bal rnd : Int} {mine : Cmd} {sa : Option Addr} {sc : Nat} {xs : List Int} (H : Own B F w) (hS : Sees B F sa xs.length 1 (ints xs)) (hn : xs.length ≤ 1000000) :
    Calls Try.prog 7 #[.int .i64 cl, .int .i64 op, .agg #[.int .i64 kk, .int .i64 ka, .int .i64 kb, .int .i64 kc], .slice sa xs.length sc, .agg mine.cells.toArray, .int .i64 bal, .int .i64 rnd] w fun e w' => ∃ h a1 a2 a3 a4 r a c, r = (RS.new cl op kk ka kb kc mine bal rnd a c (unlike xs)).clear ∧ e = .returned (.pointer (some ⟨h, 0, none⟩)) ∧ Own B (.cells h 54 (r.cellsV (slv (some a1) r.gs.length r.gs.length) (slv (some a2) r.gs.length r.gs.length) (slv (some a3) r.gs.length r.gs.length) (slv (some a4) r.gs.length r.gs.length)) :: .row r.ga r.gc 3 1 r.gs.length (ints r.gs) :: .cells a1 4 (bools r.ans) :: .cells a2 4 (bools r.cnt) :: .cells a3 38 (stamps r.held) :: .cells a4 28 (cmdsC r.cms) :: F) w' := by
  refine calls_ce (args := [.int .i64 cl, .int .i64 op, .agg #[.int .i64 kk, .int .i64 ka, .int .i64 kb, .int .i64 kc], .slice sa xs.length sc, .agg mine.cells.toArray, .int .i64 bal, .int .i64 rnd]) Try.func7 rfl rfl ?_
  change CE _ _ 32 _ _ [(0, .int .i64 cl), (1, .int .i64 op), (2, .agg #[.int .i64 kk, .int .i64 ka, .int .i64 kb, .int .i64 kc]), (3, .slice sa xs.length sc), (4, .agg mine.cells.toArray), (5, .int .i64 bal), (6, .int .i64 rnd)] _
  refine ce_seq ?_
  refine ce_text (tab := []) (soft := 4) (.op 0 (.op 1 (.op 2 .nil))) rfl rfl ?_
  refine re_box H rfl rfl rfl rfl rfl rfl ?_
  intro g9 w H
  refine ⟨(fun h => (nomatch h)), ?_⟩
  refine re_box H rfl rfl rfl rfl rfl rfl ?_
  intro g11 w H
  refine ⟨(fun h => (nomatch h)), ?_⟩
  refine re_assign rfl rfl rfl rfl rfl ?_
  refine re_nil ?_
  refine qe_thenC ?_
  refine ce_seq ?_
  refine ce_text (tab := []) (soft := 5) (.op 0 (.op 1 (.op 2 .nil))) rfl rfl ?_
  refine re_move rfl rfl rfl rfl rfl ?_
  refine re_call en_21 rfl rfl rfl rfl rfl ?_
  refine Calls.mono (new6_s (F := _ :: _ :: F) hS.to H hn) ?_
  rintro e w ⟨q, a, c, v1, v2, rfl, H⟩
  have hul := unlike_length xs
  refine ⟨_, rfl, (fun h => (nomatch h)), ?_⟩
  refine re_assign rfl rfl rfl rfl rfl ?_
  refine re_nil ?_
  refine qe_thenC ?_
  refine ce_seq ?_
  refine ce_open (tab := [0, 0, 0, 0, 8, 24, 56, 0, 0, 0, 0, 2047, 0, 8191]) (soft := 4095) mixed (.op 0 (.op 1 (.op 2 (.op 3 (.op 4 (.op 5 (.op 6 (.op 7 (.op 8 (.op 9 (.op 10 (.op 11 (.op 12 (.op 13 .nil)))))))))))))) (by kernel_rfl) H ?_
  intro w H
  refine re_move rfl rfl rfl rfl rfl ?_
  refine re_move rfl rfl rfl rfl rfl ?_
  refine re_load H rfl rfl rfl rfl rfl sh_24 (by first | exact rdAt_all rfl | (simp only [rdAt, PS.cells, PS.over, GM.cells, Cmd.cells, List.cons_append, List.nil_append, RS.cellsV, List.drop_succ_cons, List.drop_zero, List.take_succ_cons, List.take_zero, List.length_cons, List.length_nil, Nat.zero_add, Nat.reduceAdd, Nat.reduceLeDiff, Nat.le_refl, ↓reduceIte] <;> rfl)) ?_
  refine re_move rfl rfl rfl rfl rfl ?_
  refine re_nilc rfl rfl rfl rfl rfl ?_
  first | refine re_field0 rfl rfl rfl rfl rfl fo_86_0 ?_ | refine re_field rfl rfl rfl rfl rfl fo_86_0 ?_ | refine re_fieldA rfl rfl rfl rfl rfl fo_86_0 ?_
  refine re_load H rfl rfl rfl rfl rfl sh_31 rfl ?_
  refine re_load H rfl rfl rfl rfl rfl sh_28 (by first | exact rdAt_all rfl | (simp only [rdAt, PS.cells, PS.over, GM.cells, Cmd.cells, List.cons_append, List.nil_append, RS.cellsV, List.drop_succ_cons, List.drop_zero, List.take_succ_cons, List.take_zero, List.length_cons, List.length_nil, Nat.zero_add, Nat.reduceAdd, Nat.reduceLeDiff, Nat.le_refl, ↓reduceIte] <;> rfl)) ?_
  refine re_move rfl rfl rfl rfl rfl ?_
  refine re_move rfl rfl rfl rfl rfl ?_
  refine re_move rfl rfl rfl rfl rfl ?_
  refine re_build rfl rfl rfl rfl rfl ze_54 pl_54 (by simp only [fillL, setMany, Value.cells, List.getElem?_cons_zero, List.getElem?_cons_succ, List.length_cons, List.length_nil, List.set_cons_zero, List.set_cons_succ, Nat.reduceAdd, Nat.reduceLeDiff, Nat.zero_add, and_self, ↓reduceIte]; rfl) ?_
  refine re_alloc H rfl rfl rfl rfl ze_54 ?_
  intro g16 w H
  refine ⟨(fun _ => ⟨fun _ => still_load H sh_28 (by first | exact rdAt_all rfl | (simp only [rdAt, PS.cells, PS.over, GM.cells, Cmd.cells, List.cons_append, List.nil_append, RS.cellsV, List.drop_succ_cons, List.drop_zero, List.take_succ_cons, List.take_zero, List.length_cons, List.length_nil, Nat.zero_add, Nat.reduceAdd, Nat.reduceLeDiff, Nat.le_refl, ↓reduceIte] <;> rfl)), fun _ => still_load H sh_31 rfl, fun _ => still_load H sh_24 (by first | exact rdAt_all rfl | (simp only [rdAt, PS.cells, PS.over, GM.cells, Cmd.cells, List.cons_append, List.nil_append, RS.cellsV, List.drop_succ_cons, List.drop_zero, List.take_succ_cons, List.take_zero, List.length_cons, List.length_nil, Nat.zero_add, Nat.reduceAdd, Nat.reduceLeDiff, Nat.le_refl, ↓reduceIte] <;> rfl)), trivial⟩), ?_⟩
  refine re_store H rfl rfl rfl rfl rfl rfl sh_54 rfl rfl rfl ?_
  intro cs w hcs H
  first | rw [setMany_whole rfl] at hcs | simp only [setMany, List.set_cons_zero, List.set_cons_succ, Nat.reduceAdd, Nat.zero_add, PS.cells, PS.over, GM.cells, Cmd.cells, List.cons_append, List.nil_append, RS.cellsV] at hcs
  subst hcs
  refine ⟨(fun _ => ⟨ancs (i := 13) (j := 7) rfl, ancs (i := 13) (j := 6) rfl, ancs (i := 13) (j := 2) rfl, trivial⟩), ?_⟩
  refine re_nil ?_
  refine qe_noPanic ?_
  refine qe_thenC ?_
  refine ce_seq ?_
  refine ce_text (tab := []) (soft := 0) (.op 0 .nil) rfl rfl ?_
  refine re_call en_22 rfl rfl rfl rfl rfl ?_
  refine Calls.mono (clear_s (r := RS.new cl op kk ka kb kc mine bal rnd a c (unlike xs)) H (by show (unlike xs).length ≤ _; omega)) ?_
  rintro e w ⟨a1, a2, a3, a4, rfl, H⟩
  refine ⟨_, rfl, (fun h => (nomatch h)), ?_⟩
  refine re_nil ?_
  refine qe_thenC ?_
  refine ce_seq ?_
  refine ce_text (tab := []) (soft := 1) (.op 0 .nil) rfl rfl ?_
  refine re_assign rfl rfl rfl rfl rfl ?_
  refine re_nil ?_
  refine qe_thenC ?_
  refine ce_ret ?_
  refine qe_end rfl rfl ?_
  have H := Own.arr [4, 4, 4, 4, 6, 5] H
  simp only [arrs, Fw.front, zm1, zm2, zm3, zm4, zm5] at H
  replace H := H.sub (.cons_cons _ (.cons_cons _ (.cons_cons _ (.cons_cons _ (.cons_cons _ (.cons_cons _ (.cons _ (.cons _ (.cons _ (List.Sublist.refl _))))))))))
  refine ⟨_, a1, a2, a3, a4, _, a, c, rfl, rfl, H⟩

theorem message_r {B w : World} {F : List Ent} {h a1 a2 a3 a4 : Nat} {r : RS} {x : Int} (H : Own B (.cells h 54 (r.cellsV (slv (some a1) r.gs.length r.gs.length) (slv (some a2) r.gs.length r.gs.length) (slv (some a3) r.gs.length r.gs.length) (slv (some a4) r.gs.length r.gs.length)) :: F) w) :
    Calls Try.prog 78 #[.pointer (some ⟨h, 0, none⟩), .int .i64 x] w fun e w' => e = .returned (.agg (r.msgOf x).cells.toArray) ∧ Own B (.cells h 54 (r.cellsV (slv (some a1) r.gs.length r.gs.length) (slv (some a2) r.gs.length r.gs.length) (slv (some a3) r.gs.length r.gs.length) (slv (some a4) r.gs.length r.gs.length)) :: F) w' := by
  refine calls_ce (args := [.pointer (some ⟨h, 0, none⟩), .int .i64 x]) Try.func78 rfl rfl ?_
  change CE _ _ 47 _ _ [(0, .pointer (some ⟨h, 0, none⟩)), (1, .int .i64 x)] _
  refine ce_seq ?_
  refine ce_text (tab := []) (soft := 0) (.op 0 .nil) rfl rfl ?_
  refine re_alloc H rfl rfl rfl rfl ze_46 ?_
  intro g4 w H
  refine ⟨(fun h => (nomatch h)), ?_⟩
  refine re_nil ?_
  refine qe_thenC ?_
  refine ce_seq ?_
  refine ce_open (tab := [0, 1, 3, 7, 15, 0, 32, 0, 128, 384, 896, 0, 2048, 6144, 14336, 0, 32768, 98304, 229376, 0, 524288, 1572864, 3670016, 0, 8388608, 25165824, 58720256, 133693440, 268435455, 0, 1073741823]) (soft := 536870911) mixed (.op 0 (.op 1 (.op 2 (.op 3 (.op 4 (.op 5 (.op 6 (.op 7 (.op 8 (.op 9 (.op 10 (.op 11 (.op 12 (.op 13 (.op 14 (.op 15 (.op 16 (.op 17 (.op 18 (.op 19 (.op 20 (.op 21 (.op 22 (.op 23 (.op 24 (.op 25 (.op 26 (.op 27 (.op 28 (.op 29 (.op 30 .nil))))))))))))))))))))))))))))))) (by kernel_rfl) H ?_
  intro w H
  refine re_move rfl rfl rfl rfl rfl ?_
  refine re_nilc rfl rfl rfl rfl rfl ?_
  first | refine re_field0 rfl rfl rfl rfl rfl fo_54_0 ?_ | refine re_field rfl rfl rfl rfl rfl fo_54_0 ?_ | refine re_fieldA rfl rfl rfl rfl rfl fo_54_0 ?_
  refine re_load H rfl rfl rfl rfl rfl sh_3 rfl ?_
  refine re_build rfl rfl rfl rfl rfl ze_36 pl_36 (by simp only [fillL, setMany, Value.cells, List.getElem?_cons_zero, List.getElem?_cons_succ, List.length_cons, List.length_nil, List.set_cons_zero, List.set_cons_succ, Nat.reduceAdd, Nat.reduceLeDiff, Nat.zero_add, and_self, ↓reduceIte]; rfl) ?_
  refine re_move rfl rfl rfl rfl rfl ?_
  refine re_build rfl rfl rfl rfl rfl ze_36 pl_36 (by simp only [fillL, setMany, Value.cells, List.getElem?_cons_zero, List.getElem?_cons_succ, List.length_cons, List.length_nil, List.set_cons_zero, List.set_cons_succ, Nat.reduceAdd, Nat.reduceLeDiff, Nat.zero_add, and_self, ↓reduceIte]; rfl) ?_
  refine re_move rfl rfl rfl rfl rfl ?_
  refine re_nilc rfl rfl rfl rfl rfl ?_
  first | refine re_field0 rfl rfl rfl rfl rfl fo_54_1 ?_ | refine re_field rfl rfl rfl rfl rfl fo_54_1 ?_ | refine re_fieldA rfl rfl rfl rfl rfl fo_54_1 ?_
  refine re_load H rfl rfl rfl rfl rfl sh_3 rfl ?_
  refine re_move rfl rfl rfl rfl rfl ?_
  refine re_nilc rfl rfl rfl rfl rfl ?_
  first | refine re_field0 rfl rfl rfl rfl rfl fo_54_7 ?_ | refine re_field rfl rfl rfl rfl rfl fo_54_7 ?_ | refine re_fieldA rfl rfl rfl rfl rfl fo_54_7 ?_
  refine re_load H rfl rfl rfl rfl rfl sh_3 rfl ?_
  refine re_move rfl rfl rfl rfl rfl ?_
  refine re_nilc rfl rfl rfl rfl rfl ?_
  first | refine re_field0 rfl rfl rfl rfl rfl fo_54_2 ?_ | refine re_field rfl rfl rfl rfl rfl fo_54_2 ?_ | refine re_fieldA rfl rfl rfl rfl rfl fo_54_2 ?_
  refine re_load H rfl rfl rfl rfl rfl sh_24 (by first | exact rdAt_all rfl | (simp only [rdAt, PS.cells, PS.over, GM.cells, Cmd.cells, List.cons_append, List.nil_append, RS.cellsV, List.drop_succ_cons, List.drop_zero, List.take_succ_cons, List.take_zero, List.length_cons, List.length_nil, Nat.zero_add, Nat.reduceAdd, Nat.reduceLeDiff, Nat.le_refl, ↓reduceIte] <;> rfl)) ?_
  refine re_move rfl rfl rfl rfl rfl ?_
  refine re_nilc rfl rfl rfl rfl rfl ?_
  first | refine re_field0 rfl rfl rfl rfl rfl fo_54_6 ?_ | refine re_field rfl rfl rfl rfl rfl fo_54_6 ?_ | refine re_fieldA rfl rfl rfl rfl rfl fo_54_6 ?_
  refine re_load H rfl rfl rfl rfl rfl sh_3 rfl ?_
  refine re_move rfl rfl rfl rfl rfl ?_
  refine re_nilc rfl rfl rfl rfl rfl ?_
  first | refine re_field0 rfl rfl rfl rfl rfl fo_54_0 ?_ | refine re_field rfl rfl rfl rfl rfl fo_54_0 ?_ | refine re_fieldA rfl rfl rfl rfl rfl fo_54_0 ?_
  refine re_load H rfl rfl rfl rfl rfl sh_3 rfl ?_
  refine re_build rfl rfl rfl rfl rfl ze_38 pl_38 (by simp only [fillL, setMany, Value.cells, List.getElem?_cons_zero, List.getElem?_cons_succ, List.length_cons, List.length_nil, List.set_cons_zero, List.set_cons_succ, Nat.reduceAdd, Nat.reduceLeDiff, Nat.zero_add, and_self, ↓reduceIte]; rfl) ?_
  refine re_build rfl rfl rfl rfl rfl ze_46 pl_46 (by simp only [fillL, setMany, Value.cells, List.getElem?_cons_zero, List.getElem?_cons_succ, List.length_cons, List.length_nil, List.set_cons_zero, List.set_cons_succ, Nat.reduceAdd, Nat.reduceLeDiff, Nat.zero_add, and_self, ↓reduceIte]; rfl) ?_
  refine re_alloc H rfl rfl rfl rfl ze_46 ?_
  intro g5 w H
  refine ⟨(fun _ => ⟨fun _ => still_load H sh_3 rfl, fun _ => still_load H sh_3 rfl, fun _ => still_load H sh_24 (by first | exact rdAt_all rfl | (simp only [rdAt, PS.cells, PS.over, GM.cells, Cmd.cells, List.cons_append, List.nil_append, RS.cellsV, List.drop_succ_cons, List.drop_zero, List.take_succ_cons, List.take_zero, List.length_cons, List.length_nil, Nat.zero_add, Nat.reduceAdd, Nat.reduceLeDiff, Nat.le_refl, ↓reduceIte] <;> rfl)), fun _ => still_load H sh_3 rfl, fun _ => still_load H sh_3 rfl, fun _ => still_load H sh_3 rfl, trivial⟩), ?_⟩
  refine re_store H rfl rfl rfl rfl rfl rfl sh_46 rfl rfl rfl ?_
  intro cs w hcs H
  first | rw [setMany_whole rfl] at hcs | simp only [setMany, List.set_cons_zero, List.set_cons_succ, Nat.reduceAdd, Nat.zero_add, PS.cells, PS.over, GM.cells, Cmd.cells, List.cons_append, List.nil_append, RS.cellsV] at hcs
  subst hcs
  refine ⟨(fun _ => ⟨ancs (i := 30) (j := 26) rfl, ancs (i := 30) (j := 22) rfl, ancs (i := 30) (j := 18) rfl, ancs (i := 30) (j := 14) rfl, ancs (i := 30) (j := 10) rfl, ancs (i := 30) (j := 3) rfl, trivial⟩), ?_⟩
  refine re_nil ?_
  refine qe_noPanic ?_
  refine qe_thenC ?_
  refine ce_seq ?_
  refine ce_seq ?_
  refine ce_text (tab := []) (soft := 31) (.op 0 (.op 1 (.op 2 (.op 3 (.op 4 .nil))))) rfl rfl ?_
  refine re_move rfl rfl rfl rfl rfl ?_
  refine re_nilc rfl rfl rfl rfl rfl ?_
  first | refine re_field0 rfl rfl rfl rfl rfl fo_54_9 ?_ | refine re_field rfl rfl rfl rfl rfl fo_54_9 ?_ | refine re_fieldA rfl rfl rfl rfl rfl fo_54_9 ?_
  refine re_load H rfl rfl rfl rfl rfl sh_3 rfl ?_
  refine re_bin rfl rfl rfl rfl rfl rfl rfl ?_
  refine re_nil ?_
  refine qe_thenC ?_
  refine ce_cond rfl (fun h0 => ?_) (fun h0 => ?_)
  · try simp only [zn1, zn2, zn3, zn4, zn5, zn6] at h0
    refine ce_seq ?_
    refine ce_text (tab := []) (soft := 1) (.op 0 (.op 1 .nil)) rfl rfl ?_
    first | refine re_field0 rfl rfl rfl rfl rfl fo_46_0 ?_ | refine re_field rfl rfl rfl rfl rfl fo_46_0 ?_ | refine re_fieldA rfl rfl rfl rfl rfl fo_46_0 ?_
    refine re_store H rfl rfl rfl rfl rfl rfl sh_3 rfl rfl rfl ?_
    intro cs w hcs H
    first | rw [setMany_whole rfl] at hcs | simp only [setMany, List.set_cons_zero, List.set_cons_succ, Nat.reduceAdd, Nat.zero_add, PS.cells, PS.over, GM.cells, Cmd.cells, List.cons_append, List.nil_append, RS.cellsV] at hcs
    subst hcs
    refine ⟨(fun h => (nomatch h)), ?_⟩
    refine re_nil ?_
    refine qe_thenC ?_
    refine ce_text (tab := []) (soft := 31) (.op 0 (.op 1 (.op 2 (.op 3 (.op 4 (.op 5 .nil)))))) rfl rfl ?_
    refine re_move rfl rfl rfl rfl rfl ?_
    refine re_nilc rfl rfl rfl rfl rfl ?_
    first | refine re_field0 rfl rfl rfl rfl rfl fo_54_5 ?_ | refine re_field rfl rfl rfl rfl rfl fo_54_5 ?_ | refine re_fieldA rfl rfl rfl rfl rfl fo_54_5 ?_
    refine re_load H rfl rfl rfl rfl rfl sh_28 (by first | exact rdAt_all rfl | (simp only [rdAt, PS.cells, PS.over, GM.cells, Cmd.cells, List.cons_append, List.nil_append, RS.cellsV, List.drop_succ_cons, List.drop_zero, List.take_succ_cons, List.take_zero, List.length_cons, List.length_nil, Nat.zero_add, Nat.reduceAdd, Nat.reduceLeDiff, Nat.le_refl, ↓reduceIte] <;> rfl)) ?_
    first | refine re_field0 rfl rfl rfl rfl rfl fo_46_9 ?_ | refine re_field rfl rfl rfl rfl rfl fo_46_9 ?_ | refine re_fieldA rfl rfl rfl rfl rfl fo_46_9 ?_
    refine re_store H rfl rfl rfl rfl rfl rfl sh_28 rfl rfl rfl ?_
    intro cs w hcs H
    first | rw [setMany_whole rfl] at hcs | simp only [setMany, List.set_cons_zero, List.set_cons_succ, Nat.reduceAdd, Nat.zero_add, PS.cells, PS.over, GM.cells, Cmd.cells, List.cons_append, List.nil_append, RS.cellsV] at hcs
    subst hcs
    refine ⟨(fun h => (nomatch h)), ?_⟩
    refine re_nil ?_
    refine qe_thenC ?_
    refine ce_seq ?_
    refine ce_text (tab := []) (soft := 1) (.op 0 (.op 1 .nil)) rfl rfl ?_
    refine re_load H rfl rfl rfl rfl rfl sh_46 (by first | exact rdAt_all rfl | (simp only [rdAt, PS.cells, PS.over, GM.cells, Cmd.cells, List.cons_append, List.nil_append, RS.cellsV, List.drop_succ_cons, List.drop_zero, List.take_succ_cons, List.take_zero, List.length_cons, List.length_nil, Nat.zero_add, Nat.reduceAdd, Nat.reduceLeDiff, Nat.le_refl, ↓reduceIte] <;> rfl)) ?_
    refine re_store H rfl rfl rfl rfl rfl rfl sh_46 rfl rfl rfl ?_
    intro cs w hcs H
    first | rw [setMany_whole rfl] at hcs | simp only [setMany, List.set_cons_zero, List.set_cons_succ, Nat.reduceAdd, Nat.zero_add, PS.cells, PS.over, GM.cells, Cmd.cells, List.cons_append, List.nil_append, RS.cellsV] at hcs
    subst hcs
    refine ⟨(fun h => (nomatch h)), ?_⟩
    refine re_nil ?_
    refine qe_thenC ?_
    refine ce_ret ?_
    refine qe_endCell H rfl rfl sh_46 (by first | exact rdAt_all rfl | (simp only [rdAt, PS.cells, PS.over, GM.cells, Cmd.cells, List.cons_append, List.nil_append, RS.cellsV, List.drop_succ_cons, List.drop_zero, List.take_succ_cons, List.take_zero, List.length_cons, List.length_nil, Nat.zero_add, Nat.reduceAdd, Nat.reduceLeDiff, Nat.le_refl, ↓reduceIte] <;> rfl)) ?_
    rw [RS.msgOf, if_pos (by simpa using h0)]
    exact ⟨rfl, H.tail.tail⟩
  · try simp only [zn1, zn2, zn3, zn4, zn5, zn6] at h0
    refine ce_skip ?_
    refine qe_thenC ?_
    refine ce_seq ?_
    refine ce_text (tab := []) (soft := 1) (.op 0 (.op 1 .nil)) rfl rfl ?_
    refine re_load H rfl rfl rfl rfl rfl sh_46 (by first | exact rdAt_all rfl | (simp only [rdAt, PS.cells, PS.over, GM.cells, Cmd.cells, List.cons_append, List.nil_append, RS.cellsV, List.drop_succ_cons, List.drop_zero, List.take_succ_cons, List.take_zero, List.length_cons, List.length_nil, Nat.zero_add, Nat.reduceAdd, Nat.reduceLeDiff, Nat.le_refl, ↓reduceIte] <;> rfl)) ?_
    refine re_store H rfl rfl rfl rfl rfl rfl sh_46 rfl rfl rfl ?_
    intro cs w hcs H
    first | rw [setMany_whole rfl] at hcs | simp only [setMany, List.set_cons_zero, List.set_cons_succ, Nat.reduceAdd, Nat.zero_add, PS.cells, PS.over, GM.cells, Cmd.cells, List.cons_append, List.nil_append, RS.cellsV] at hcs
    subst hcs
    refine ⟨(fun h => (nomatch h)), ?_⟩
    refine re_nil ?_
    refine qe_thenC ?_
    refine ce_ret ?_
    refine qe_endCell H rfl rfl sh_46 (by first | exact rdAt_all rfl | (simp only [rdAt, PS.cells, PS.over, GM.cells, Cmd.cells, List.cons_append, List.nil_append, RS.cellsV, List.drop_succ_cons, List.drop_zero, List.take_succ_cons, List.take_zero, List.length_cons, List.length_nil, Nat.zero_add, Nat.reduceAdd, Nat.reduceLeDiff, Nat.le_refl, ↓reduceIte] <;> rfl)) ?_
    rw [RS.msgOf, if_neg (by simpa using h0)]
    exact ⟨rfl, H.tail.tail⟩

theorem send_r {B w : World} {F : List Ent} {h a1 a2 a3 a4 : Nat} {r : RS} (H : Own B (.cells h 54 (r.cellsV (slv (some a1) r.gs.length r.gs.length) (slv (some a2) r.gs.length r.gs.length) (slv (some a3) r.gs.length r.gs.length) (slv (some a4) r.gs.length r.gs.length)) :: .row r.ga r.gc 3 1 r.gs.length (ints r.gs) :: .cells a1 4 (bools r.ans) :: .cells a2 4 (bools r.cnt) :: .cells a3 38 (stamps r.held) :: .cells a4 28 (cmdsC r.cms) :: F) w) (hn : r.gs.length ≤ 1000000) (ha : r.ans.length = r.gs.length) :
    Calls Try.prog 53 #[.pointer (some ⟨h, 0, none⟩)] w fun e w' => ∃ a c, e = .returned (slv a r.out.length c) ∧ Own B (.row a c 46 30 r.out.length (msgs r.out) :: .cells h 54 (r.cellsV (slv (some a1) r.gs.length r.gs.length) (slv (some a2) r.gs.length r.gs.length) (slv (some a3) r.gs.length r.gs.length) (slv (some a4) r.gs.length r.gs.length)) :: .row r.ga r.gc 3 1 r.gs.length (ints r.gs) :: .cells a1 4 (bools r.ans) :: .cells a2 4 (bools r.cnt) :: .cells a3 38 (stamps r.held) :: .cells a4 28 (cmdsC r.cms) :: F) w' := by
  refine calls_ce (args := [.pointer (some ⟨h, 0, none⟩)]) Try.func53 rfl rfl ?_
  change CE _ _ 35 _ _ [(0, .pointer (some ⟨h, 0, none⟩))] _
  refine ce_seq ?_
  refine ce_text (tab := []) (soft := 1) (.op 0 .nil) rfl rfl ?_
  refine re_assign rfl rfl rfl rfl rfl ?_
  refine re_nil ?_
  refine qe_thenC ?_
  refine ce_seq ?_
  refine ce_text (tab := []) (soft := 1) (.op 0 .nil) rfl rfl ?_
  refine re_assign rfl rfl rfl rfl rfl ?_
  refine re_nil ?_
  refine qe_thenC ?_
  refine ce_seq ?_
  refine ce_seq ?_
  refine ce_text (tab := []) (soft := 1) (.op 0 .nil) rfl rfl ?_
  refine re_assign rfl rfl rfl rfl rfl ?_
  refine re_nil ?_
  refine qe_thenC ?_
  refine ce_block ?_
  refine ce_loop (α := Nat × (Option Nat) × Nat × Nat) (fun ⟨k, a, c, nn⟩ => [(0, .pointer (some ⟨h, 0, none⟩)), (3, slv a nn c), (4, .int .i64 (k : Int))]) (fun ⟨k, a, c, nn⟩ w => Own B (.row a c 46 30 nn (msgs ((restOf (r.gs.take k) (r.ans.take k)).map r.msgOf)) :: .cells h 54 (r.cellsV (slv (some a1) r.gs.length r.gs.length) (slv (some a2) r.gs.length r.gs.length) (slv (some a3) r.gs.length r.gs.length) (slv (some a4) r.gs.length r.gs.length)) :: .row r.ga r.gc 3 1 r.gs.length (ints r.gs) :: .cells a1 4 (bools r.ans) :: .cells a2 4 (bools r.cnt) :: .cells a3 38 (stamps r.held) :: .cells a4 28 (cmdsC r.cms) :: F) w ∧ k ≤ r.gs.length) (fun ⟨k, a, c, nn⟩ => r.gs.length - k) (0, none, 0, 0) (And.intro rfl (And.intro rfl (And.intro rfl trivial))) ⟨H.nil_row 46 30, Nat.zero_le _⟩ ?_
  rintro ⟨k, a, c, nn⟩ w HW
  obtain ⟨H, hk⟩ := HW
  change CE _ _ _ _ _ [(0, .pointer (some ⟨h, 0, none⟩)), (3, slv a nn c), (4, .int .i64 (k : Int))] _
  have htl := List.length_take_le k r.gs
  have hrl := H.row_len (List.mem_cons_self ..)
  rw [msgs_length, List.length_map] at hrl
  have hrr := restOf_length (r.gs.take k) (r.ans.take k)
  refine ce_seq ?_
  refine ce_seq ?_
  refine ce_text (tab := []) (soft := 127) (.op 0 (.op 1 (.op 2 (.op 3 (.op 4 (.op 5 (.op 6 .nil))))))) rfl rfl ?_
  refine re_move rfl rfl rfl rfl rfl ?_
  refine re_move rfl rfl rfl rfl rfl ?_
  refine re_nilc rfl rfl rfl rfl rfl ?_
  first | refine re_field0 rfl rfl rfl rfl rfl fo_54_3 ?_ | refine re_field rfl rfl rfl rfl rfl fo_54_3 ?_ | refine re_fieldA rfl rfl rfl rfl rfl fo_54_3 ?_
  refine re_load H rfl rfl rfl rfl rfl sh_31 rfl ?_
  refine re_len rfl rfl rfl rfl rfl ul_31 ?_
  refine re_bin rfl rfl rfl rfl rfl rfl rfl ?_
  refine re_nil ?_
  refine qe_thenC ?_
  refine ce_cond rfl (fun h0 => ?_) (fun h0 => ?_)
  · try simp only [zn1, zn2, zn3, zn4, zn5, zn6] at h0
    refine ce_skip ?_
    refine qe_thenC ?_
    refine ce_seq ?_
    refine ce_block ?_
    refine ce_seq ?_
    refine ce_text (tab := []) (soft := 255) (.op 0 (.op 1 (.op 2 (.op 3 (.op 4 (.op 5 (.op 6 (.op 7 .nil)))))))) rfl rfl ?_
    have hlt : k < r.gs.length := by omega
    refine re_move rfl rfl rfl rfl rfl ?_
    refine re_nilc rfl rfl rfl rfl rfl ?_
    first | refine re_field0 rfl rfl rfl rfl rfl fo_54_10 ?_ | refine re_field rfl rfl rfl rfl rfl fo_54_10 ?_ | refine re_fieldA rfl rfl rfl rfl rfl fo_54_10 ?_
    refine re_load H rfl rfl rfl rfl rfl sh_51 rfl ?_
    refine re_move rfl rfl rfl rfl rfl ?_
    refine re_indexL rfl rfl rfl rfl rfl rfl ul_51 ei_51 (by omega) (by omega) ?_
    refine re_load H rfl rfl rfl rfl rfl sh_4 (rd_one Value.bool (by omega)) ?_
    refine re_not rfl rfl rfl rfl rfl ?_
    refine re_nil ?_
    refine qe_thenC ?_
    refine ce_cond rfl (fun h1 => ?_) (fun h1 => ?_)
    · try simp only [zn1, zn2, zn3, zn4, zn5, zn6] at h1
      refine ce_text (tab := []) (soft := 4607) (.op 0 (.op 1 (.op 2 (.op 3 (.op 4 (.op 5 (.op 6 (.op 7 (.op 8 (.op 9 (.op 10 (.op 11 (.op 12 .nil))))))))))))) rfl rfl ?_
      refine re_move rfl rfl rfl rfl rfl ?_
      refine re_move rfl rfl rfl rfl rfl ?_
      refine re_move rfl rfl rfl rfl rfl ?_
      refine re_nilc rfl rfl rfl rfl rfl ?_
      first | refine re_field0 rfl rfl rfl rfl rfl fo_54_3 ?_ | refine re_field rfl rfl rfl rfl rfl fo_54_3 ?_ | refine re_fieldA rfl rfl rfl rfl rfl fo_54_3 ?_
      refine re_load H rfl rfl rfl rfl rfl sh_31 rfl ?_
      refine re_move rfl rfl rfl rfl rfl ?_
      obtain ⟨ad, had, hA⟩ := (H.rsees r.ga).open_ H (by omega)
      have hsl : slv r.ga r.gs.length r.gc = .slice (some ad) r.gs.length r.gc := by rw [slv, had]
      simp only [hsl]
      refine re_index rfl rfl rfl rfl rfl rfl ul_31 ei_31 (by omega) (by omega) ?_
      refine re_loadW rfl rfl rfl rfl rfl (run_loadAt_one sh_3 (hA.int H hlt)) ?_
      refine re_call en_78 rfl rfl rfl rfl rfl ?_
      have H := H.front 1
      simp only [arrs, Fw.front, zm1, zm2, zm3, zm4, zm5] at H
      refine Calls.mono (message_r H) ?_
      rintro e w ⟨rfl, H⟩
      replace H := H.front 1
      simp only [arrs, Fw.front, zm1, zm2, zm3, zm4, zm5] at H
      refine ⟨_, rfl, (fun h => (nomatch h)), ?_⟩
      refine re_slice1 H rfl rfl rfl rfl rfl rfl ul_62 ei_62 ze_46 rfl rfl rfl (by decide) ?_
      intro g32 w H
      refine ⟨(fun h => (nomatch h)), ?_⟩
      refine re_append H rfl rfl rfl rfl rfl rfl ul_62 ei_62 ze_46 rfl (by decide) (src_cells H rfl) rfl (by omega) (by simp only [maxLen]; omega) ?_
      intro a' c' w H _
      simp only [List.set_cons_zero, List.set_cons_succ] at H
      refine ⟨(fun h => (nomatch h)), ?_⟩
      refine re_assign rfl rfl rfl rfl rfl ?_
      refine re_nil ?_
      refine qe_block_norm ?_
      refine qe_thenC ?_
      refine ce_text (tab := []) (soft := 7) (.op 0 (.op 1 (.op 2 .nil))) rfl rfl ?_
      refine re_move rfl rfl rfl rfl rfl ?_
      first | refine re_add rfl rfl rfl rfl rfl rfl (by omega) ?_ | refine re_bin rfl rfl rfl rfl rfl rfl rfl ?_
      refine re_assign rfl rfl rfl rfl rfl ?_
      refine re_nil ?_
      refine qe_round (x := (k, a, c, nn)) (k + 1, a', c', nn + 1) ?_ ?_ ?_
      · first | (dsimp only; omega) | omega
      · exact (And.intro rfl (And.intro rfl (And.intro rfl trivial)))
      ·
        refine ⟨?_, by omega⟩
        rw [restOf_snoc _ _ _ hlt (by omega), if_neg (by simpa using h1), List.map_append, List.map_singleton, msgs_snoc]
        exact H.sub (.cons _ (List.Sublist.refl _))
    · try simp only [zn1, zn2, zn3, zn4, zn5, zn6] at h1
      refine ce_skip ?_
      refine qe_block_norm ?_
      refine qe_thenC ?_
      refine ce_text (tab := []) (soft := 7) (.op 0 (.op 1 (.op 2 .nil))) rfl rfl ?_
      refine re_move rfl rfl rfl rfl rfl ?_
      first | refine re_add rfl rfl rfl rfl rfl rfl (by omega) ?_ | refine re_bin rfl rfl rfl rfl rfl rfl rfl ?_
      refine re_assign rfl rfl rfl rfl rfl ?_
      refine re_nil ?_
      refine qe_round (x := (k, a, c, nn)) (k + 1, a, c, nn) ?_ ?_ ?_
      · first | (dsimp only; omega) | omega
      · exact (And.intro rfl (And.intro rfl (And.intro rfl trivial)))
      ·
        refine ⟨?_, by omega⟩
        rw [restOf_snoc _ _ _ hlt (by omega), if_pos (by simpa using h1), List.append_nil]
        exact H
  · try simp only [zn1, zn2, zn3, zn4, zn5, zn6] at h0
    refine ce_exit ?_
    refine qe_then_exit ?_
    refine qe_then_exit ?_
    refine qe_block_exit ?_
    refine qe_thenC ?_
    refine ce_seq ?_
    refine ce_text (tab := []) (soft := 3) (.op 0 (.op 1 .nil)) rfl rfl ?_
    refine re_move rfl rfl rfl rfl rfl ?_
    refine re_assign rfl rfl rfl rfl rfl ?_
    refine re_nil ?_
    refine qe_thenC ?_
    refine ce_ret ?_
    refine qe_end rfl rfl ?_
    obtain rfl : k = r.gs.length := by omega
    have e : r.ans.take r.gs.length = r.ans := List.take_of_length_le (by omega)
    rw [List.take_length, e] at H hrl
    have hnn : nn = r.out.length := by rw [RS.out, List.length_map]; omega
    subst hnn
    exact ⟨a, c, rfl, H⟩
end Go.Proofs.Ytofaoblfemfkiaa

namespace Go.Proofs.Ytofaoblfemfkiaa
open Go Go.RowKit Go.Fw
set_option linter.unusedSimpArgs false
set_option linter.unusedVariables false
set_option maxRecDepth 4000
set_option maxHeartbeats 2000000
theorem en_53 : Enterable Try.prog 53 := ⟨Try.f53, Try.func53, rfl, by decide⟩
theorem fo_54_17 : fOff Try.prog 54 17 = some 36 := by kernel_rfl

def cntN (l : List Bool) : Nat := (l.filter id).length
theorem cntN_snoc {l : List Bool} {k : Nat} (h : k < l.length) : cntN (l.take (k + 1)) = cntN (l.take k) + (if l[k] then 1 else 0) := by
  unfold cntN
  rw [List.take_succ_eq_append_getElem h, List.filter_append]
  cases l[k] <;> simp
theorem cntN_le (l : List Bool) : cntN l ≤ l.length := List.length_filter_le _ _
def chStep (acc : (Int × Int) × Cmd) (x : Bool × (Int × Int) × Cmd) : (Int × Int) × Cmd := if x.1 && stampLess acc.1.1 acc.1.2 x.2.1.1 x.2.1.2 then (x.2.1, x.2.2) else acc
def RS.best (r : RS) (k : Nat) : (Int × Int) × Cmd := ((r.cnt.zip (r.held.zip r.cms)).take k).foldl chStep ((0, 0), r.mine)
theorem best_snoc (r : RS) (k : Nat) (h1 : k < r.cnt.length) (h2 : k < r.held.length) (h3 : k < r.cms.length) : r.best (k + 1) = chStep (r.best k) (r.cnt[k], r.held[k], r.cms[k]) := by
  unfold RS.best
  rw [List.take_succ_eq_append_getElem (by simp; omega), List.foldl_append]
  simp
def RS.pick (r : RS) (k : Nat) : RS := { r with chosen := (r.best k).2 }
def RS.bump (r : RS) : RS := { r with rnd := r.rnd + 1 }
def RS.far (r : RS) : Prop := r.n < 1 ∨ 1099511627776 < r.n ∨ r.rnd < 1 ∨ 1099511627776 < r.rnd
def RS.raise (r : RS) : RS := { r with n := r.nt + 1, nt := r.nt + 1, ph := 1 }

theorem lessr_s {B w : World} {F : List Ent} {a0 a1 b0 b1 : Int} (H : Own B F w) :
    Calls Try.prog 79 #[.agg #[.int .i64 a0, .int .i64 a1], .agg #[.int .i64 b0, .int .i64 b1]] w fun e w' => e = .returned (.bool (stampLess a0 a1 b0 b1)) ∧ Own B F w' := by
  refine calls_ce (args := [.agg #[.int .i64 a0, .int .i64 a1], .agg #[.int .i64 b0, .int .i64 b1]]) Try.func79 rfl rfl ?_
  change CE _ _ 24 _ _ [(0, .agg #[.int .i64 a0, .int .i64 a1]), (1, .agg #[.int .i64 b0, .int .i64 b1])] _
  refine ce_seq ?_
  refine ce_text (tab := []) (soft := 4) (.op 0 (.op 1 (.op 2 .nil))) rfl rfl ?_
  refine re_box H rfl rfl rfl rfl rfl rfl ?_
  intro g2 w H
  refine ⟨(fun h => (nomatch h)), ?_⟩
  refine re_box H rfl rfl rfl rfl rfl rfl ?_
  intro g3 w H
  refine ⟨(fun h => (nomatch h)), ?_⟩
  refine re_assign rfl rfl rfl rfl rfl ?_
  refine re_nil ?_
  refine qe_thenC ?_
  refine ce_seq ?_
  refine ce_text (tab := []) (soft := 1048575) (.op 0 (.op 1 (.op 2 (.op 3 (.op 4 (.op 5 (.op 6 (.op 7 (.op 8 (.op 9 (.op 10 (.op 11 (.op 12 (.op 13 (.op 14 (.op 15 (.op 16 (.op 17 (.op 18 (.op 19 .nil)))))))))))))))))))) rfl rfl ?_
  first | refine re_field0 rfl rfl rfl rfl rfl fo_38_0 ?_ | refine re_field rfl rfl rfl rfl rfl fo_38_0 ?_ | refine re_fieldA rfl rfl rfl rfl rfl fo_38_0 ?_
  refine re_load H rfl rfl rfl rfl rfl sh_3 rfl ?_
  first | refine re_field0 rfl rfl rfl rfl rfl fo_38_0 ?_ | refine re_field rfl rfl rfl rfl rfl fo_38_0 ?_ | refine re_fieldA rfl rfl rfl rfl rfl fo_38_0 ?_
  refine re_load H rfl rfl rfl rfl rfl sh_3 rfl ?_
  refine re_bin rfl rfl rfl rfl rfl rfl rfl ?_
  refine re_move rfl rfl rfl rfl rfl ?_
  refine re_split (fun hg1_5 => ?_) (fun hg1_5 => ?_)
  ·
    refine re_skip1 rfl rfl rfl ?_
    refine re_skip1 rfl rfl rfl ?_
    refine re_skip1 rfl rfl rfl ?_
    refine re_skip1 rfl rfl rfl ?_
    refine re_skip1 rfl rfl rfl ?_
    refine re_skip1 rfl rfl rfl ?_
    refine re_skip1 rfl rfl rfl ?_
    refine re_skip1 rfl rfl rfl ?_
    refine re_skip1 rfl rfl rfl ?_
    refine re_skip1 rfl rfl rfl ?_
    refine re_skip1 rfl rfl rfl ?_
    refine re_skip1 rfl rfl rfl ?_
    refine re_pickT rfl rfl rfl rfl rfl rfl ?_
    refine re_assign rfl rfl rfl rfl rfl ?_
    refine re_nil ?_
    refine qe_thenC ?_
    refine ce_ret ?_
    refine qe_end rfl rfl ?_
    exact ⟨by simp [stampLess, of_decide_eq_true hg1_5], H.tail.tail⟩
  ·
    first | refine re_field0 rfl rfl rfl rfl rfl fo_38_0 ?_ | refine re_field rfl rfl rfl rfl rfl fo_38_0 ?_ | refine re_fieldA rfl rfl rfl rfl rfl fo_38_0 ?_
    refine re_load H rfl rfl rfl rfl rfl sh_3 rfl ?_
    first | refine re_field0 rfl rfl rfl rfl rfl fo_38_0 ?_ | refine re_field rfl rfl rfl rfl rfl fo_38_0 ?_ | refine re_fieldA rfl rfl rfl rfl rfl fo_38_0 ?_
    refine re_load H rfl rfl rfl rfl rfl sh_3 rfl ?_
    refine re_bin rfl rfl rfl rfl rfl rfl rfl ?_
    refine re_move rfl rfl rfl rfl rfl ?_
    refine re_split (fun hg1_11 => ?_) (fun hg1_11 => ?_)
    ·
      first | refine re_field0 rfl rfl rfl rfl rfl fo_38_1 ?_ | refine re_field rfl rfl rfl rfl rfl fo_38_1 ?_ | refine re_fieldA rfl rfl rfl rfl rfl fo_38_1 ?_
      refine re_load H rfl rfl rfl rfl rfl sh_3 rfl ?_
      first | refine re_field0 rfl rfl rfl rfl rfl fo_38_1 ?_ | refine re_field rfl rfl rfl rfl rfl fo_38_1 ?_ | refine re_fieldA rfl rfl rfl rfl rfl fo_38_1 ?_
      refine re_load H rfl rfl rfl rfl rfl sh_3 rfl ?_
      refine re_bin rfl rfl rfl rfl rfl rfl rfl ?_
      refine re_pickT rfl rfl rfl rfl rfl rfl ?_
      refine re_pickF rfl rfl rfl rfl rfl rfl ?_
      refine re_assign rfl rfl rfl rfl rfl ?_
      refine re_nil ?_
      refine qe_thenC ?_
      refine ce_ret ?_
      refine qe_end rfl rfl ?_
      exact ⟨by simp only [stampLess, hg1_5, hg1_11, Bool.false_or, Bool.true_and], H.tail.tail⟩
    ·
      refine re_skip1 rfl rfl rfl ?_
      refine re_skip1 rfl rfl rfl ?_
      refine re_skip1 rfl rfl rfl ?_
      refine re_skip1 rfl rfl rfl ?_
      refine re_skip1 rfl rfl rfl ?_
      refine re_pickF rfl rfl rfl rfl rfl rfl ?_
      refine re_pickF rfl rfl rfl rfl rfl rfl ?_
      refine re_assign rfl rfl rfl rfl rfl ?_
      refine re_nil ?_
      refine qe_thenC ?_
      refine ce_ret ?_
      refine qe_end rfl rfl ?_
      exact ⟨by simp only [stampLess, hg1_5, hg1_11, Bool.false_or, Bool.false_and], H.tail.tail⟩

theorem count_r {B w : World} {F : List Ent} {h a1 a2 a3 a4 : Nat} {r : RS} (H : Own B (.cells h 54 (r.cellsV (slv (some a1) r.gs.length r.gs.length) (slv (some a2) r.gs.length r.gs.length) (slv (some a3) r.gs.length r.gs.length) (slv (some a4) r.gs.length r.gs.length)) :: .row r.ga r.gc 3 1 r.gs.length (ints r.gs) :: .cells a1 4 (bools r.ans) :: .cells a2 4 (bools r.cnt) :: .cells a3 38 (stamps r.held) :: .cells a4 28 (cmdsC r.cms) :: F) w) (hn : r.gs.length ≤ 1000000) (hc : r.cnt.length = r.gs.length) :
    Calls Try.prog 59 #[.pointer (some ⟨h, 0, none⟩)] w fun e w' => e = .returned (.int .i64 (cntN r.cnt : Int)) ∧ Own B (.cells h 54 (r.cellsV (slv (some a1) r.gs.length r.gs.length) (slv (some a2) r.gs.length r.gs.length) (slv (some a3) r.gs.length r.gs.length) (slv (some a4) r.gs.length r.gs.length)) :: .row r.ga r.gc 3 1 r.gs.length (ints r.gs) :: .cells a1 4 (bools r.ans) :: .cells a2 4 (bools r.cnt) :: .cells a3 38 (stamps r.held) :: .cells a4 28 (cmdsC r.cms) :: F) w' := by
  refine calls_ce (args := [.pointer (some ⟨h, 0, none⟩)]) Try.func59 rfl rfl ?_
  change CE _ _ 24 _ _ [(0, .pointer (some ⟨h, 0, none⟩))] _
  refine ce_seq ?_
  refine ce_text (tab := []) (soft := 1) (.op 0 .nil) rfl rfl ?_
  refine re_assign rfl rfl rfl rfl rfl ?_
  refine re_nil ?_
  refine qe_thenC ?_
  refine ce_seq ?_
  refine ce_text (tab := []) (soft := 1) (.op 0 .nil) rfl rfl ?_
  refine re_assign rfl rfl rfl rfl rfl ?_
  refine re_nil ?_
  refine qe_thenC ?_
  refine ce_seq ?_
  refine ce_seq ?_
  refine ce_text (tab := []) (soft := 1) (.op 0 .nil) rfl rfl ?_
  refine re_assign rfl rfl rfl rfl rfl ?_
  refine re_nil ?_
  refine qe_thenC ?_
  refine ce_block ?_
  refine ce_loop (α := Nat × Nat) (fun ⟨k, cc⟩ => [(0, .pointer (some ⟨h, 0, none⟩)), (3, .int .i64 (cc : Int)), (4, .int .i64 (k : Int))]) (fun ⟨k, cc⟩ w => Own B (.cells h 54 (r.cellsV (slv (some a1) r.gs.length r.gs.length) (slv (some a2) r.gs.length r.gs.length) (slv (some a3) r.gs.length r.gs.length) (slv (some a4) r.gs.length r.gs.length)) :: .row r.ga r.gc 3 1 r.gs.length (ints r.gs) :: .cells a1 4 (bools r.ans) :: .cells a2 4 (bools r.cnt) :: .cells a3 38 (stamps r.held) :: .cells a4 28 (cmdsC r.cms) :: F) w ∧ k ≤ r.gs.length ∧ cc = cntN (r.cnt.take k)) (fun ⟨k, cc⟩ => r.gs.length - k) (0, 0) (And.intro rfl (And.intro rfl (And.intro rfl trivial))) ⟨H, Nat.zero_le _, rfl⟩ ?_
  rintro ⟨k, cc⟩ w HW
  obtain ⟨H, hk, hcc⟩ := HW
  change CE _ _ _ _ _ [(0, .pointer (some ⟨h, 0, none⟩)), (3, .int .i64 (cc : Int)), (4, .int .i64 (k : Int))] _
  have hcl := cntN_le (r.cnt.take k)
  have htl := List.length_take_le k r.cnt
  refine ce_seq ?_
  refine ce_seq ?_
  refine ce_text (tab := []) (soft := 127) (.op 0 (.op 1 (.op 2 (.op 3 (.op 4 (.op 5 (.op 6 .nil))))))) rfl rfl ?_
  refine re_move rfl rfl rfl rfl rfl ?_
  refine re_move rfl rfl rfl rfl rfl ?_
  refine re_nilc rfl rfl rfl rfl rfl ?_
  first | refine re_field0 rfl rfl rfl rfl rfl fo_54_11 ?_ | refine re_field rfl rfl rfl rfl rfl fo_54_11 ?_ | refine re_fieldA rfl rfl rfl rfl rfl fo_54_11 ?_
  refine re_load H rfl rfl rfl rfl rfl sh_51 rfl ?_
  refine re_len rfl rfl rfl rfl rfl ul_51 ?_
  refine re_bin rfl rfl rfl rfl rfl rfl rfl ?_
  refine re_nil ?_
  refine qe_thenC ?_
  refine ce_cond rfl (fun h0 => ?_) (fun h0 => ?_)
  · try simp only [zn1, zn2, zn3, zn4, zn5, zn6] at h0
    refine ce_skip ?_
    refine qe_thenC ?_
    refine ce_seq ?_
    refine ce_block ?_
    refine ce_seq ?_
    refine ce_text (tab := []) (soft := 127) (.op 0 (.op 1 (.op 2 (.op 3 (.op 4 (.op 5 (.op 6 .nil))))))) rfl rfl ?_
    have hlt : k < r.gs.length := by omega
    have hsn := cntN_snoc (l := r.cnt) (k := k) (by omega)
    refine re_move rfl rfl rfl rfl rfl ?_
    refine re_nilc rfl rfl rfl rfl rfl ?_
    first | refine re_field0 rfl rfl rfl rfl rfl fo_54_11 ?_ | refine re_field rfl rfl rfl rfl rfl fo_54_11 ?_ | refine re_fieldA rfl rfl rfl rfl rfl fo_54_11 ?_
    refine re_load H rfl rfl rfl rfl rfl sh_51 rfl ?_
    refine re_move rfl rfl rfl rfl rfl ?_
    refine re_indexL rfl rfl rfl rfl rfl rfl ul_51 ei_51 (by omega) (by omega) ?_
    refine re_load H rfl rfl rfl rfl rfl sh_4 (rd_one Value.bool (by omega)) ?_
    refine re_nil ?_
    refine qe_thenC ?_
    refine ce_cond rfl (fun h1 => ?_) (fun h1 => ?_)
    · try simp only [zn1, zn2, zn3, zn4, zn5, zn6] at h1
      refine ce_text (tab := []) (soft := 7) (.op 0 (.op 1 (.op 2 .nil))) rfl rfl ?_
      refine re_move rfl rfl rfl rfl rfl ?_
      first | refine re_add rfl rfl rfl rfl rfl rfl (by omega) ?_ | refine re_bin rfl rfl rfl rfl rfl rfl rfl ?_
      refine re_assign rfl rfl rfl rfl rfl ?_
      refine re_nil ?_
      refine qe_block_norm ?_
      refine qe_thenC ?_
      refine ce_text (tab := []) (soft := 7) (.op 0 (.op 1 (.op 2 .nil))) rfl rfl ?_
      refine re_move rfl rfl rfl rfl rfl ?_
      first | refine re_add rfl rfl rfl rfl rfl rfl (by omega) ?_ | refine re_bin rfl rfl rfl rfl rfl rfl rfl ?_
      refine re_assign rfl rfl rfl rfl rfl ?_
      refine re_nil ?_
      refine qe_round (x := (k, cc)) (k + 1, cc + 1) ?_ ?_ ?_
      · first | (dsimp only; omega) | omega
      · exact (And.intro rfl (And.intro rfl (And.intro rfl trivial)))
      · exact ⟨H, by omega, by rw [hsn, h1, ← hcc]; rfl⟩
    · try simp only [zn1, zn2, zn3, zn4, zn5, zn6] at h1
      refine ce_skip ?_
      refine qe_block_norm ?_
      refine qe_thenC ?_
      refine ce_text (tab := []) (soft := 7) (.op 0 (.op 1 (.op 2 .nil))) rfl rfl ?_
      refine re_move rfl rfl rfl rfl rfl ?_
      first | refine re_add rfl rfl rfl rfl rfl rfl (by omega) ?_ | refine re_bin rfl rfl rfl rfl rfl rfl rfl ?_
      refine re_assign rfl rfl rfl rfl rfl ?_
      refine re_nil ?_
      refine qe_round (x := (k, cc)) (k + 1, cc) ?_ ?_ ?_
      · first | (dsimp only; omega) | omega
      · exact (And.intro rfl (And.intro rfl (And.intro rfl trivial)))
      · exact ⟨H, by omega, by rw [hsn, h1, ← hcc]; rfl⟩
  · try simp only [zn1, zn2, zn3, zn4, zn5, zn6] at h0
    refine ce_exit ?_
    refine qe_then_exit ?_
    refine qe_then_exit ?_
    refine qe_block_exit ?_
    refine qe_thenC ?_
    refine ce_seq ?_
    refine ce_text (tab := []) (soft := 3) (.op 0 (.op 1 .nil)) rfl rfl ?_
    refine re_move rfl rfl rfl rfl rfl ?_
    refine re_assign rfl rfl rfl rfl rfl ?_
    refine re_nil ?_
    refine qe_thenC ?_
    refine ce_ret ?_
    refine qe_end rfl rfl ?_
    obtain rfl : k = r.gs.length := by omega
    rw [List.take_of_length_le (by omega)] at hcc
    exact ⟨by rw [hcc], H⟩

theorem next_worn {B w : World} {F : List Ent} {h a1 a2 a3 a4 : Nat} {r : RS} (H : Own B (.cells h 54 (r.cellsV (slv (some a1) r.gs.length r.gs.length) (slv (some a2) r.gs.length r.gs.length) (slv (some a3) r.gs.length r.gs.length) (slv (some a4) r.gs.length r.gs.length)) :: F) w) (hw : 1099511627776 ≤ r.rnd) :
    Calls Try.prog 55 #[.pointer (some ⟨h, 0, none⟩)] w fun e w' => e = .returned (slv none 0 0) ∧ Own B (.cells h 54 (r.worn.cellsV (slv (some a1) r.worn.gs.length r.worn.gs.length) (slv (some a2) r.worn.gs.length r.worn.gs.length) (slv (some a3) r.worn.gs.length r.worn.gs.length) (slv (some a4) r.worn.gs.length r.worn.gs.length)) :: F) w' := by
  refine calls_ce (args := [.pointer (some ⟨h, 0, none⟩)]) Try.func55 rfl rfl ?_
  change CE _ _ 25 _ _ [(0, .pointer (some ⟨h, 0, none⟩))] _
  refine ce_seq ?_
  refine ce_text (tab := []) (soft := 1) (.op 0 .nil) rfl rfl ?_
  refine re_assign rfl rfl rfl rfl rfl ?_
  refine re_nil ?_
  refine qe_thenC ?_
  refine ce_seq ?_
  refine ce_seq ?_
  refine ce_text (tab := []) (soft := 31) (.op 0 (.op 1 (.op 2 (.op 3 (.op 4 .nil))))) rfl rfl ?_
  refine re_move rfl rfl rfl rfl rfl ?_
  refine re_nilc rfl rfl rfl rfl rfl ?_
  first | refine re_field0 rfl rfl rfl rfl rfl fo_54_7 ?_ | refine re_field rfl rfl rfl rfl rfl fo_54_7 ?_ | refine re_fieldA rfl rfl rfl rfl rfl fo_54_7 ?_
  refine re_load H rfl rfl rfl rfl rfl sh_3 rfl ?_
  refine re_bin rfl rfl rfl rfl rfl rfl rfl ?_
  refine re_nil ?_
  refine qe_thenC ?_
  refine ce_cond rfl (fun h0 => ?_) (fun h0 => ?_)
  · try simp only [zn1, zn2, zn3, zn4, zn5, zn6] at h0
    refine ce_seq ?_
    refine ce_text (tab := []) (soft := 7) (.op 0 (.op 1 (.op 2 (.op 3 .nil)))) rfl rfl ?_
    refine re_move rfl rfl rfl rfl rfl ?_
    refine re_nilc rfl rfl rfl rfl rfl ?_
    first | refine re_field0 rfl rfl rfl rfl rfl fo_54_17 ?_ | refine re_field rfl rfl rfl rfl rfl fo_54_17 ?_ | refine re_fieldA rfl rfl rfl rfl rfl fo_54_17 ?_
    refine re_store H rfl rfl rfl rfl rfl rfl sh_4 rfl rfl rfl ?_
    intro cs w hcs H
    first | rw [setMany_whole rfl] at hcs | simp only [setMany, List.set_cons_zero, List.set_cons_succ, Nat.reduceAdd, Nat.zero_add, PS.cells, PS.over, GM.cells, Cmd.cells, List.cons_append, List.nil_append, RS.cellsV] at hcs
    subst hcs
    refine ⟨(fun h => (nomatch h)), ?_⟩
    refine re_nil ?_
    refine qe_thenC ?_
    refine ce_seq ?_
    refine ce_text (tab := []) (soft := 7) (.op 0 (.op 1 (.op 2 (.op 3 .nil)))) rfl rfl ?_
    refine re_move rfl rfl rfl rfl rfl ?_
    refine re_nilc rfl rfl rfl rfl rfl ?_
    first | refine re_field0 rfl rfl rfl rfl rfl fo_54_9 ?_ | refine re_field rfl rfl rfl rfl rfl fo_54_9 ?_ | refine re_fieldA rfl rfl rfl rfl rfl fo_54_9 ?_
    refine re_store H rfl rfl rfl rfl rfl rfl sh_3 rfl rfl rfl ?_
    intro cs w hcs H
    first | rw [setMany_whole rfl] at hcs | simp only [setMany, List.set_cons_zero, List.set_cons_succ, Nat.reduceAdd, Nat.zero_add, PS.cells, PS.over, GM.cells, Cmd.cells, List.cons_append, List.nil_append, RS.cellsV] at hcs
    subst hcs
    refine ⟨(fun h => (nomatch h)), ?_⟩
    refine re_nil ?_
    refine qe_thenC ?_
    refine ce_seq ?_
    refine ce_text (tab := []) (soft := 1) (.op 0 .nil) rfl rfl ?_
    refine re_assign rfl rfl rfl rfl rfl ?_
    refine re_nil ?_
    refine qe_thenC ?_
    refine ce_ret ?_
    refine qe_then_ret ?_
    refine qe_end rfl rfl ?_
    exact ⟨rfl, H⟩
  · try simp only [zn1, zn2, zn3, zn4, zn5, zn6] at h0
    omega

theorem next_r {B w : World} {F : List Ent} {h a1 a2 a3 a4 : Nat} {r : RS} (H : Own B (.cells h 54 (r.cellsV (slv (some a1) r.gs.length r.gs.length) (slv (some a2) r.gs.length r.gs.length) (slv (some a3) r.gs.length r.gs.length) (slv (some a4) r.gs.length r.gs.length)) :: .row r.ga r.gc 3 1 r.gs.length (ints r.gs) :: F) w) (hn : r.gs.length ≤ 1000000) (hw : r.rnd < 1099511627776) (hlo : -1 ≤ r.rnd) :
    Calls Try.prog 55 #[.pointer (some ⟨h, 0, none⟩)] w fun e w' => ∃ a1 a2 a3 a4 a c, e = .returned (slv a (r.bump.clear).out.length c) ∧ Own B (.row a c 46 30 (r.bump.clear).out.length (msgs (r.bump.clear).out) :: .cells h 54 ((r.bump.clear).cellsV (slv (some a1) (r.bump.clear).gs.length (r.bump.clear).gs.length) (slv (some a2) (r.bump.clear).gs.length (r.bump.clear).gs.length) (slv (some a3) (r.bump.clear).gs.length (r.bump.clear).gs.length) (slv (some a4) (r.bump.clear).gs.length (r.bump.clear).gs.length)) :: .row r.ga r.gc 3 1 r.gs.length (ints r.gs) :: .cells a1 4 (bools (r.bump.clear).ans) :: .cells a2 4 (bools (r.bump.clear).cnt) :: .cells a3 38 (stamps (r.bump.clear).held) :: .cells a4 28 (cmdsC (r.bump.clear).cms) :: F) w' := by
  refine calls_ce (args := [.pointer (some ⟨h, 0, none⟩)]) Try.func55 rfl rfl ?_
  change CE _ _ 25 _ _ [(0, .pointer (some ⟨h, 0, none⟩))] _
  refine ce_seq ?_
  refine ce_text (tab := []) (soft := 1) (.op 0 .nil) rfl rfl ?_
  refine re_assign rfl rfl rfl rfl rfl ?_
  refine re_nil ?_
  refine qe_thenC ?_
  refine ce_seq ?_
  refine ce_seq ?_
  refine ce_text (tab := []) (soft := 31) (.op 0 (.op 1 (.op 2 (.op 3 (.op 4 .nil))))) rfl rfl ?_
  refine re_move rfl rfl rfl rfl rfl ?_
  refine re_nilc rfl rfl rfl rfl rfl ?_
  first | refine re_field0 rfl rfl rfl rfl rfl fo_54_7 ?_ | refine re_field rfl rfl rfl rfl rfl fo_54_7 ?_ | refine re_fieldA rfl rfl rfl rfl rfl fo_54_7 ?_
  refine re_load H rfl rfl rfl rfl rfl sh_3 rfl ?_
  refine re_bin rfl rfl rfl rfl rfl rfl rfl ?_
  refine re_nil ?_
  refine qe_thenC ?_
  refine ce_cond rfl (fun h0 => ?_) (fun h0 => ?_)
  · try simp only [zn1, zn2, zn3, zn4, zn5, zn6] at h0
    omega
  · try simp only [zn1, zn2, zn3, zn4, zn5, zn6] at h0
    refine ce_skip ?_
    refine qe_thenC ?_
    refine ce_seq ?_
    refine ce_text (tab := []) (soft := 127) (.op 0 (.op 1 (.op 2 (.op 3 (.op 4 (.op 5 (.op 6 (.op 7 .nil)))))))) rfl rfl ?_
    refine re_move rfl rfl rfl rfl rfl ?_
    refine re_nilc rfl rfl rfl rfl rfl ?_
    first | refine re_field0 rfl rfl rfl rfl rfl fo_54_7 ?_ | refine re_field rfl rfl rfl rfl rfl fo_54_7 ?_ | refine re_fieldA rfl rfl rfl rfl rfl fo_54_7 ?_
    refine re_load H rfl rfl rfl rfl rfl sh_3 rfl ?_
    first | refine re_add rfl rfl rfl rfl rfl rfl (by omega) ?_ | refine re_bin rfl rfl rfl rfl rfl rfl rfl ?_
    refine re_nilc rfl rfl rfl rfl rfl ?_
    first | refine re_field0 rfl rfl rfl rfl rfl fo_54_7 ?_ | refine re_field rfl rfl rfl rfl rfl fo_54_7 ?_ | refine re_fieldA rfl rfl rfl rfl rfl fo_54_7 ?_
    refine re_store H rfl rfl rfl rfl rfl rfl sh_3 rfl rfl rfl ?_
    intro cs w hcs H
    first | rw [setMany_whole rfl] at hcs | simp only [setMany, List.set_cons_zero, List.set_cons_succ, Nat.reduceAdd, Nat.zero_add, PS.cells, PS.over, GM.cells, Cmd.cells, List.cons_append, List.nil_append, RS.cellsV] at hcs
    subst hcs
    refine ⟨(fun h => (nomatch h)), ?_⟩
    refine re_nil ?_
    refine qe_thenC ?_
    refine ce_seq ?_
    refine ce_text (tab := []) (soft := 1) (.op 0 (.op 1 .nil)) rfl rfl ?_
    refine re_move rfl rfl rfl rfl rfl ?_
    refine re_call en_22 rfl rfl rfl rfl rfl ?_
    refine Calls.mono (clear_s (r := r.bump) H hn) ?_
    rintro e w ⟨b1, b2, b3, b4, rfl, H⟩
    have H := Own.arr [4, 4, 4, 4, 5, 5] H
    simp only [arrs, Fw.front, zm1, zm2, zm3, zm4, zm5] at H
    refine ⟨_, rfl, (fun h => (nomatch h)), ?_⟩
    refine re_nil ?_
    refine qe_thenC ?_
    refine ce_seq ?_
    refine ce_text (tab := []) (soft := 5) (.op 0 (.op 1 (.op 2 .nil))) rfl rfl ?_
    refine re_move rfl rfl rfl rfl rfl ?_
    refine re_call en_53 rfl rfl rfl rfl rfl ?_
    refine Calls.mono (send_r (r := r.bump.clear) H hn (by simp [RS.clear, RS.bump])) ?_
    rintro e w ⟨a, c, rfl, H⟩
    refine ⟨_, rfl, (fun h => (nomatch h)), ?_⟩
    refine re_assign rfl rfl rfl rfl rfl ?_
    refine re_nil ?_
    refine qe_thenC ?_
    refine ce_ret ?_
    refine qe_end rfl rfl ?_
    exact ⟨b1, b2, b3, b4, a, c, rfl, H⟩

theorem begin_wr {B w : World} {F : List Ent} {h a1 a2 a3 a4 : Nat} {r : RS} (H : Own B (.cells h 54 (r.cellsV (slv (some a1) r.gs.length r.gs.length) (slv (some a2) r.gs.length r.gs.length) (slv (some a3) r.gs.length r.gs.length) (slv (some a4) r.gs.length r.gs.length)) :: F) w) (h0 : r.ph = 0) (hw : r.far) :
    Calls Try.prog 24 #[.pointer (some ⟨h, 0, none⟩)] w fun e w' => e = .returned (slv none 0 0) ∧ Own B (.cells h 54 (r.worn.cellsV (slv (some a1) r.worn.gs.length r.worn.gs.length) (slv (some a2) r.worn.gs.length r.worn.gs.length) (slv (some a3) r.worn.gs.length r.worn.gs.length) (slv (some a4) r.worn.gs.length r.worn.gs.length)) :: F) w' := by
  refine calls_ce (args := [.pointer (some ⟨h, 0, none⟩)]) Try.func24 rfl rfl ?_
  change CE _ _ 45 _ _ [(0, .pointer (some ⟨h, 0, none⟩))] _
  refine ce_seq ?_
  refine ce_text (tab := []) (soft := 1) (.op 0 .nil) rfl rfl ?_
  refine re_assign rfl rfl rfl rfl rfl ?_
  refine re_nil ?_
  refine qe_thenC ?_
  refine ce_seq ?_
  refine ce_seq ?_
  refine ce_text (tab := []) (soft := 31) (.op 0 (.op 1 (.op 2 (.op 3 (.op 4 .nil))))) rfl rfl ?_
  refine re_move rfl rfl rfl rfl rfl ?_
  refine re_nilc rfl rfl rfl rfl rfl ?_
  first | refine re_field0 rfl rfl rfl rfl rfl fo_54_9 ?_ | refine re_field rfl rfl rfl rfl rfl fo_54_9 ?_ | refine re_fieldA rfl rfl rfl rfl rfl fo_54_9 ?_
  refine re_load H rfl rfl rfl rfl rfl sh_3 rfl ?_
  refine re_bin rfl rfl rfl rfl rfl rfl rfl ?_
  refine re_nil ?_
  refine qe_thenC ?_
  refine ce_cond rfl (fun h0 => ?_) (fun h0 => ?_)
  · try simp only [zn1, zn2, zn3, zn4, zn5, zn6] at h0
    omega
  · try simp only [zn1, zn2, zn3, zn4, zn5, zn6] at h0
    refine ce_skip ?_
    refine qe_thenC ?_
    refine ce_seq ?_
    refine ce_seq ?_
    refine ce_text (tab := []) (soft := 67108863) (.op 0 (.op 1 (.op 2 (.op 3 (.op 4 (.op 5 (.op 6 (.op 7 (.op 8 (.op 9 (.op 10 (.op 11 (.op 12 (.op 13 (.op 14 (.op 15 (.op 16 (.op 17 (.op 18 (.op 19 (.op 20 (.op 21 (.op 22 (.op 23 (.op 24 (.op 25 .nil)))))))))))))))))))))))))) rfl rfl ?_
    refine re_move rfl rfl rfl rfl rfl ?_
    refine re_nilc rfl rfl rfl rfl rfl ?_
    first | refine re_field0 rfl rfl rfl rfl rfl fo_54_6 ?_ | refine re_field rfl rfl rfl rfl rfl fo_54_6 ?_ | refine re_fieldA rfl rfl rfl rfl rfl fo_54_6 ?_
    refine re_load H rfl rfl rfl rfl rfl sh_3 rfl ?_
    refine re_bin rfl rfl rfl rfl rfl rfl rfl ?_
    refine re_move rfl rfl rfl rfl rfl ?_
    refine re_split (fun hg3_5 => ?_) (fun hg3_5 => ?_)
    ·
      refine re_skip1 rfl rfl rfl ?_
      refine re_skip1 rfl rfl rfl ?_
      refine re_skip1 rfl rfl rfl ?_
      refine re_skip1 rfl rfl rfl ?_
      refine re_skip1 rfl rfl rfl ?_
      refine re_pickT rfl rfl rfl rfl rfl rfl ?_
      refine re_move rfl rfl rfl rfl rfl ?_
      refine re_skip1 rfl rfl rfl ?_
      refine re_skip1 rfl rfl rfl ?_
      refine re_skip1 rfl rfl rfl ?_
      refine re_skip1 rfl rfl rfl ?_
      refine re_skip1 rfl rfl rfl ?_
      refine re_pickT rfl rfl rfl rfl rfl rfl ?_
      refine re_move rfl rfl rfl rfl rfl ?_
      refine re_skip1 rfl rfl rfl ?_
      refine re_skip1 rfl rfl rfl ?_
      refine re_skip1 rfl rfl rfl ?_
      refine re_skip1 rfl rfl rfl ?_
      refine re_skip1 rfl rfl rfl ?_
      refine re_pickT rfl rfl rfl rfl rfl rfl ?_
      refine re_nil ?_
      refine qe_thenC ?_
      refine ce_cond rfl (fun h1 => ?_) (fun h1 => ?_)
      · try simp only [zn1, zn2, zn3, zn4, zn5, zn6] at h1
        refine ce_seq ?_
        refine ce_text (tab := []) (soft := 7) (.op 0 (.op 1 (.op 2 (.op 3 .nil)))) rfl rfl ?_
        refine re_move rfl rfl rfl rfl rfl ?_
        refine re_nilc rfl rfl rfl rfl rfl ?_
        first | refine re_field0 rfl rfl rfl rfl rfl fo_54_17 ?_ | refine re_field rfl rfl rfl rfl rfl fo_54_17 ?_ | refine re_fieldA rfl rfl rfl rfl rfl fo_54_17 ?_
        refine re_store H rfl rfl rfl rfl rfl rfl sh_4 rfl rfl rfl ?_
        intro cs w hcs H
        first | rw [setMany_whole rfl] at hcs | simp only [setMany, List.set_cons_zero, List.set_cons_succ, Nat.reduceAdd, Nat.zero_add, PS.cells, PS.over, GM.cells, Cmd.cells, List.cons_append, List.nil_append, RS.cellsV] at hcs
        subst hcs
        refine ⟨(fun h => (nomatch h)), ?_⟩
        refine re_nil ?_
        refine qe_thenC ?_
        refine ce_seq ?_
        refine ce_text (tab := []) (soft := 7) (.op 0 (.op 1 (.op 2 (.op 3 .nil)))) rfl rfl ?_
        refine re_move rfl rfl rfl rfl rfl ?_
        refine re_nilc rfl rfl rfl rfl rfl ?_
        first | refine re_field0 rfl rfl rfl rfl rfl fo_54_9 ?_ | refine re_field rfl rfl rfl rfl rfl fo_54_9 ?_ | refine re_fieldA rfl rfl rfl rfl rfl fo_54_9 ?_
        refine re_store H rfl rfl rfl rfl rfl rfl sh_3 rfl rfl rfl ?_
        intro cs w hcs H
        first | rw [setMany_whole rfl] at hcs | simp only [setMany, List.set_cons_zero, List.set_cons_succ, Nat.reduceAdd, Nat.zero_add, PS.cells, PS.over, GM.cells, Cmd.cells, List.cons_append, List.nil_append, RS.cellsV] at hcs
        subst hcs
        refine ⟨(fun h => (nomatch h)), ?_⟩
        refine re_nil ?_
        refine qe_thenC ?_
        refine ce_seq ?_
        refine ce_text (tab := []) (soft := 1) (.op 0 .nil) rfl rfl ?_
        refine re_assign rfl rfl rfl rfl rfl ?_
        refine re_nil ?_
        refine qe_thenC ?_
        refine ce_ret ?_
        refine qe_then_ret ?_
        refine qe_end rfl rfl ?_
        exact ⟨rfl, H⟩
      · try simp only [zn1, zn2, zn3, zn4, zn5, zn6] at h1
        unfold RS.far at hw; simp_all <;> omega
    ·
      refine re_move rfl rfl rfl rfl rfl ?_
      refine re_nilc rfl rfl rfl rfl rfl ?_
      first | refine re_field0 rfl rfl rfl rfl rfl fo_54_6 ?_ | refine re_field rfl rfl rfl rfl rfl fo_54_6 ?_ | refine re_fieldA rfl rfl rfl rfl rfl fo_54_6 ?_
      refine re_load H rfl rfl rfl rfl rfl sh_3 rfl ?_
      refine re_bin rfl rfl rfl rfl rfl rfl rfl ?_
      refine re_pickF rfl rfl rfl rfl rfl rfl ?_
      refine re_move rfl rfl rfl rfl rfl ?_
      refine re_split (fun hg3_12 => ?_) (fun hg3_12 => ?_)
      ·
        refine re_skip1 rfl rfl rfl ?_
        refine re_skip1 rfl rfl rfl ?_
        refine re_skip1 rfl rfl rfl ?_
        refine re_skip1 rfl rfl rfl ?_
        refine re_skip1 rfl rfl rfl ?_
        refine re_pickT rfl rfl rfl rfl rfl rfl ?_
        refine re_move rfl rfl rfl rfl rfl ?_
        refine re_skip1 rfl rfl rfl ?_
        refine re_skip1 rfl rfl rfl ?_
        refine re_skip1 rfl rfl rfl ?_
        refine re_skip1 rfl rfl rfl ?_
        refine re_skip1 rfl rfl rfl ?_
        refine re_pickT rfl rfl rfl rfl rfl rfl ?_
        refine re_nil ?_
        refine qe_thenC ?_
        refine ce_cond rfl (fun h1 => ?_) (fun h1 => ?_)
        · try simp only [zn1, zn2, zn3, zn4, zn5, zn6] at h1
          refine ce_seq ?_
          refine ce_text (tab := []) (soft := 7) (.op 0 (.op 1 (.op 2 (.op 3 .nil)))) rfl rfl ?_
          refine re_move rfl rfl rfl rfl rfl ?_
          refine re_nilc rfl rfl rfl rfl rfl ?_
          first | refine re_field0 rfl rfl rfl rfl rfl fo_54_17 ?_ | refine re_field rfl rfl rfl rfl rfl fo_54_17 ?_ | refine re_fieldA rfl rfl rfl rfl rfl fo_54_17 ?_
          refine re_store H rfl rfl rfl rfl rfl rfl sh_4 rfl rfl rfl ?_
          intro cs w hcs H
          first | rw [setMany_whole rfl] at hcs | simp only [setMany, List.set_cons_zero, List.set_cons_succ, Nat.reduceAdd, Nat.zero_add, PS.cells, PS.over, GM.cells, Cmd.cells, List.cons_append, List.nil_append, RS.cellsV] at hcs
          subst hcs
          refine ⟨(fun h => (nomatch h)), ?_⟩
          refine re_nil ?_
          refine qe_thenC ?_
          refine ce_seq ?_
          refine ce_text (tab := []) (soft := 7) (.op 0 (.op 1 (.op 2 (.op 3 .nil)))) rfl rfl ?_
          refine re_move rfl rfl rfl rfl rfl ?_
          refine re_nilc rfl rfl rfl rfl rfl ?_
          first | refine re_field0 rfl rfl rfl rfl rfl fo_54_9 ?_ | refine re_field rfl rfl rfl rfl rfl fo_54_9 ?_ | refine re_fieldA rfl rfl rfl rfl rfl fo_54_9 ?_
          refine re_store H rfl rfl rfl rfl rfl rfl sh_3 rfl rfl rfl ?_
          intro cs w hcs H
          first | rw [setMany_whole rfl] at hcs | simp only [setMany, List.set_cons_zero, List.set_cons_succ, Nat.reduceAdd, Nat.zero_add, PS.cells, PS.over, GM.cells, Cmd.cells, List.cons_append, List.nil_append, RS.cellsV] at hcs
          subst hcs
          refine ⟨(fun h => (nomatch h)), ?_⟩
          refine re_nil ?_
          refine qe_thenC ?_
          refine ce_seq ?_
          refine ce_text (tab := []) (soft := 1) (.op 0 .nil) rfl rfl ?_
          refine re_assign rfl rfl rfl rfl rfl ?_
          refine re_nil ?_
          refine qe_thenC ?_
          refine ce_ret ?_
          refine qe_then_ret ?_
          refine qe_end rfl rfl ?_
          exact ⟨rfl, H⟩
        · try simp only [zn1, zn2, zn3, zn4, zn5, zn6] at h1
          unfold RS.far at hw; simp_all <;> omega
      ·
        refine re_move rfl rfl rfl rfl rfl ?_
        refine re_nilc rfl rfl rfl rfl rfl ?_
        first | refine re_field0 rfl rfl rfl rfl rfl fo_54_7 ?_ | refine re_field rfl rfl rfl rfl rfl fo_54_7 ?_ | refine re_fieldA rfl rfl rfl rfl rfl fo_54_7 ?_
        refine re_load H rfl rfl rfl rfl rfl sh_3 rfl ?_
        refine re_bin rfl rfl rfl rfl rfl rfl rfl ?_
        refine re_pickF rfl rfl rfl rfl rfl rfl ?_
        refine re_move rfl rfl rfl rfl rfl ?_
        refine re_split (fun hg3_19 => ?_) (fun hg3_19 => ?_)
        ·
          refine re_skip1 rfl rfl rfl ?_
          refine re_skip1 rfl rfl rfl ?_
          refine re_skip1 rfl rfl rfl ?_
          refine re_skip1 rfl rfl rfl ?_
          refine re_skip1 rfl rfl rfl ?_
          refine re_pickT rfl rfl rfl rfl rfl rfl ?_
          refine re_nil ?_
          refine qe_thenC ?_
          refine ce_cond rfl (fun h1 => ?_) (fun h1 => ?_)
          · try simp only [zn1, zn2, zn3, zn4, zn5, zn6] at h1
            refine ce_seq ?_
            refine ce_text (tab := []) (soft := 7) (.op 0 (.op 1 (.op 2 (.op 3 .nil)))) rfl rfl ?_
            refine re_move rfl rfl rfl rfl rfl ?_
            refine re_nilc rfl rfl rfl rfl rfl ?_
            first | refine re_field0 rfl rfl rfl rfl rfl fo_54_17 ?_ | refine re_field rfl rfl rfl rfl rfl fo_54_17 ?_ | refine re_fieldA rfl rfl rfl rfl rfl fo_54_17 ?_
            refine re_store H rfl rfl rfl rfl rfl rfl sh_4 rfl rfl rfl ?_
            intro cs w hcs H
            first | rw [setMany_whole rfl] at hcs | simp only [setMany, List.set_cons_zero, List.set_cons_succ, Nat.reduceAdd, Nat.zero_add, PS.cells, PS.over, GM.cells, Cmd.cells, List.cons_append, List.nil_append, RS.cellsV] at hcs
            subst hcs
            refine ⟨(fun h => (nomatch h)), ?_⟩
            refine re_nil ?_
            refine qe_thenC ?_
            refine ce_seq ?_
            refine ce_text (tab := []) (soft := 7) (.op 0 (.op 1 (.op 2 (.op 3 .nil)))) rfl rfl ?_
            refine re_move rfl rfl rfl rfl rfl ?_
            refine re_nilc rfl rfl rfl rfl rfl ?_
            first | refine re_field0 rfl rfl rfl rfl rfl fo_54_9 ?_ | refine re_field rfl rfl rfl rfl rfl fo_54_9 ?_ | refine re_fieldA rfl rfl rfl rfl rfl fo_54_9 ?_
            refine re_store H rfl rfl rfl rfl rfl rfl sh_3 rfl rfl rfl ?_
            intro cs w hcs H
            first | rw [setMany_whole rfl] at hcs | simp only [setMany, List.set_cons_zero, List.set_cons_succ, Nat.reduceAdd, Nat.zero_add, PS.cells, PS.over, GM.cells, Cmd.cells, List.cons_append, List.nil_append, RS.cellsV] at hcs
            subst hcs
            refine ⟨(fun h => (nomatch h)), ?_⟩
            refine re_nil ?_
            refine qe_thenC ?_
            refine ce_seq ?_
            refine ce_text (tab := []) (soft := 1) (.op 0 .nil) rfl rfl ?_
            refine re_assign rfl rfl rfl rfl rfl ?_
            refine re_nil ?_
            refine qe_thenC ?_
            refine ce_ret ?_
            refine qe_then_ret ?_
            refine qe_end rfl rfl ?_
            exact ⟨rfl, H⟩
          · try simp only [zn1, zn2, zn3, zn4, zn5, zn6] at h1
            unfold RS.far at hw; simp_all <;> omega
        ·
          refine re_move rfl rfl rfl rfl rfl ?_
          refine re_nilc rfl rfl rfl rfl rfl ?_
          first | refine re_field0 rfl rfl rfl rfl rfl fo_54_7 ?_ | refine re_field rfl rfl rfl rfl rfl fo_54_7 ?_ | refine re_fieldA rfl rfl rfl rfl rfl fo_54_7 ?_
          refine re_load H rfl rfl rfl rfl rfl sh_3 rfl ?_
          refine re_bin rfl rfl rfl rfl rfl rfl rfl ?_
          refine re_pickF rfl rfl rfl rfl rfl rfl ?_
          refine re_nil ?_
          refine qe_thenC ?_
          refine ce_cond rfl (fun h1 => ?_) (fun h1 => ?_)
          · try simp only [zn1, zn2, zn3, zn4, zn5, zn6] at h1
            refine ce_seq ?_
            refine ce_text (tab := []) (soft := 7) (.op 0 (.op 1 (.op 2 (.op 3 .nil)))) rfl rfl ?_
            refine re_move rfl rfl rfl rfl rfl ?_
            refine re_nilc rfl rfl rfl rfl rfl ?_
            first | refine re_field0 rfl rfl rfl rfl rfl fo_54_17 ?_ | refine re_field rfl rfl rfl rfl rfl fo_54_17 ?_ | refine re_fieldA rfl rfl rfl rfl rfl fo_54_17 ?_
            refine re_store H rfl rfl rfl rfl rfl rfl sh_4 rfl rfl rfl ?_
            intro cs w hcs H
            first | rw [setMany_whole rfl] at hcs | simp only [setMany, List.set_cons_zero, List.set_cons_succ, Nat.reduceAdd, Nat.zero_add, PS.cells, PS.over, GM.cells, Cmd.cells, List.cons_append, List.nil_append, RS.cellsV] at hcs
            subst hcs
            refine ⟨(fun h => (nomatch h)), ?_⟩
            refine re_nil ?_
            refine qe_thenC ?_
            refine ce_seq ?_
            refine ce_text (tab := []) (soft := 7) (.op 0 (.op 1 (.op 2 (.op 3 .nil)))) rfl rfl ?_
            refine re_move rfl rfl rfl rfl rfl ?_
            refine re_nilc rfl rfl rfl rfl rfl ?_
            first | refine re_field0 rfl rfl rfl rfl rfl fo_54_9 ?_ | refine re_field rfl rfl rfl rfl rfl fo_54_9 ?_ | refine re_fieldA rfl rfl rfl rfl rfl fo_54_9 ?_
            refine re_store H rfl rfl rfl rfl rfl rfl sh_3 rfl rfl rfl ?_
            intro cs w hcs H
            first | rw [setMany_whole rfl] at hcs | simp only [setMany, List.set_cons_zero, List.set_cons_succ, Nat.reduceAdd, Nat.zero_add, PS.cells, PS.over, GM.cells, Cmd.cells, List.cons_append, List.nil_append, RS.cellsV] at hcs
            subst hcs
            refine ⟨(fun h => (nomatch h)), ?_⟩
            refine re_nil ?_
            refine qe_thenC ?_
            refine ce_seq ?_
            refine ce_text (tab := []) (soft := 1) (.op 0 .nil) rfl rfl ?_
            refine re_assign rfl rfl rfl rfl rfl ?_
            refine re_nil ?_
            refine qe_thenC ?_
            refine ce_ret ?_
            refine qe_then_ret ?_
            refine qe_end rfl rfl ?_
            exact ⟨rfl, H⟩
          · try simp only [zn1, zn2, zn3, zn4, zn5, zn6] at h1
            unfold RS.far at hw; simp_all <;> omega

theorem begin_r {B w : World} {F : List Ent} {h a1 a2 a3 a4 : Nat} {r : RS} (H : Own B (.cells h 54 (r.cellsV (slv (some a1) r.gs.length r.gs.length) (slv (some a2) r.gs.length r.gs.length) (slv (some a3) r.gs.length r.gs.length) (slv (some a4) r.gs.length r.gs.length)) :: .row r.ga r.gc 3 1 r.gs.length (ints r.gs) :: .cells a1 4 (bools r.ans) :: .cells a2 4 (bools r.cnt) :: .cells a3 38 (stamps r.held) :: .cells a4 28 (cmdsC r.cms) :: F) w) (hn : r.gs.length ≤ 1000000) (ha : r.ans.length = r.gs.length) (h0 : r.ph = 0) (hw : ¬ r.far) :
    Calls Try.prog 24 #[.pointer (some ⟨h, 0, none⟩)] w fun e w' => ∃ a c, e = .returned (slv a (r.phase 1).out.length c) ∧ Own B (.row a c 46 30 (r.phase 1).out.length (msgs (r.phase 1).out) :: .cells h 54 ((r.phase 1).cellsV (slv (some a1) (r.phase 1).gs.length (r.phase 1).gs.length) (slv (some a2) (r.phase 1).gs.length (r.phase 1).gs.length) (slv (some a3) (r.phase 1).gs.length (r.phase 1).gs.length) (slv (some a4) (r.phase 1).gs.length (r.phase 1).gs.length)) :: .row r.ga r.gc 3 1 r.gs.length (ints r.gs) :: .cells a1 4 (bools (r.phase 1).ans) :: .cells a2 4 (bools (r.phase 1).cnt) :: .cells a3 38 (stamps (r.phase 1).held) :: .cells a4 28 (cmdsC (r.phase 1).cms) :: F) w' := by
  refine calls_ce (args := [.pointer (some ⟨h, 0, none⟩)]) Try.func24 rfl rfl ?_
  change CE _ _ 45 _ _ [(0, .pointer (some ⟨h, 0, none⟩))] _
  refine ce_seq ?_
  refine ce_text (tab := []) (soft := 1) (.op 0 .nil) rfl rfl ?_
  refine re_assign rfl rfl rfl rfl rfl ?_
  refine re_nil ?_
  refine qe_thenC ?_
  refine ce_seq ?_
  refine ce_seq ?_
  refine ce_text (tab := []) (soft := 31) (.op 0 (.op 1 (.op 2 (.op 3 (.op 4 .nil))))) rfl rfl ?_
  refine re_move rfl rfl rfl rfl rfl ?_
  refine re_nilc rfl rfl rfl rfl rfl ?_
  first | refine re_field0 rfl rfl rfl rfl rfl fo_54_9 ?_ | refine re_field rfl rfl rfl rfl rfl fo_54_9 ?_ | refine re_fieldA rfl rfl rfl rfl rfl fo_54_9 ?_
  refine re_load H rfl rfl rfl rfl rfl sh_3 rfl ?_
  refine re_bin rfl rfl rfl rfl rfl rfl rfl ?_
  refine re_nil ?_
  refine qe_thenC ?_
  refine ce_cond rfl (fun h0 => ?_) (fun h0 => ?_)
  · try simp only [zn1, zn2, zn3, zn4, zn5, zn6] at h0
    omega
  · try simp only [zn1, zn2, zn3, zn4, zn5, zn6] at h0
    refine ce_skip ?_
    refine qe_thenC ?_
    refine ce_seq ?_
    refine ce_seq ?_
    refine ce_text (tab := []) (soft := 67108863) (.op 0 (.op 1 (.op 2 (.op 3 (.op 4 (.op 5 (.op 6 (.op 7 (.op 8 (.op 9 (.op 10 (.op 11 (.op 12 (.op 13 (.op 14 (.op 15 (.op 16 (.op 17 (.op 18 (.op 19 (.op 20 (.op 21 (.op 22 (.op 23 (.op 24 (.op 25 .nil)))))))))))))))))))))))))) rfl rfl ?_
    refine re_move rfl rfl rfl rfl rfl ?_
    refine re_nilc rfl rfl rfl rfl rfl ?_
    first | refine re_field0 rfl rfl rfl rfl rfl fo_54_6 ?_ | refine re_field rfl rfl rfl rfl rfl fo_54_6 ?_ | refine re_fieldA rfl rfl rfl rfl rfl fo_54_6 ?_
    refine re_load H rfl rfl rfl rfl rfl sh_3 rfl ?_
    refine re_bin rfl rfl rfl rfl rfl rfl rfl ?_
    refine re_move rfl rfl rfl rfl rfl ?_
    refine re_split (fun hg3_5 => ?_) (fun hg3_5 => ?_)
    ·
      refine re_skip1 rfl rfl rfl ?_
      refine re_skip1 rfl rfl rfl ?_
      refine re_skip1 rfl rfl rfl ?_
      refine re_skip1 rfl rfl rfl ?_
      refine re_skip1 rfl rfl rfl ?_
      refine re_pickT rfl rfl rfl rfl rfl rfl ?_
      refine re_move rfl rfl rfl rfl rfl ?_
      refine re_skip1 rfl rfl rfl ?_
      refine re_skip1 rfl rfl rfl ?_
      refine re_skip1 rfl rfl rfl ?_
      refine re_skip1 rfl rfl rfl ?_
      refine re_skip1 rfl rfl rfl ?_
      refine re_pickT rfl rfl rfl rfl rfl rfl ?_
      refine re_move rfl rfl rfl rfl rfl ?_
      refine re_skip1 rfl rfl rfl ?_
      refine re_skip1 rfl rfl rfl ?_
      refine re_skip1 rfl rfl rfl ?_
      refine re_skip1 rfl rfl rfl ?_
      refine re_skip1 rfl rfl rfl ?_
      refine re_pickT rfl rfl rfl rfl rfl rfl ?_
      refine re_nil ?_
      refine qe_thenC ?_
      refine ce_cond rfl (fun h1 => ?_) (fun h1 => ?_)
      · try simp only [zn1, zn2, zn3, zn4, zn5, zn6] at h1
        unfold RS.far at hw; simp_all <;> omega
      · try simp only [zn1, zn2, zn3, zn4, zn5, zn6] at h1
        refine ce_skip ?_
        refine qe_thenC ?_
        refine ce_seq ?_
        refine ce_text (tab := []) (soft := 7) (.op 0 (.op 1 (.op 2 (.op 3 .nil)))) rfl rfl ?_
        refine re_move rfl rfl rfl rfl rfl ?_
        refine re_nilc rfl rfl rfl rfl rfl ?_
        first | refine re_field0 rfl rfl rfl rfl rfl fo_54_9 ?_ | refine re_field rfl rfl rfl rfl rfl fo_54_9 ?_ | refine re_fieldA rfl rfl rfl rfl rfl fo_54_9 ?_
        refine re_store H rfl rfl rfl rfl rfl rfl sh_3 rfl rfl rfl ?_
        intro cs w hcs H
        first | rw [setMany_whole rfl] at hcs | simp only [setMany, List.set_cons_zero, List.set_cons_succ, Nat.reduceAdd, Nat.zero_add, PS.cells, PS.over, GM.cells, Cmd.cells, List.cons_append, List.nil_append, RS.cellsV] at hcs
        subst hcs
        refine ⟨(fun h => (nomatch h)), ?_⟩
        refine re_nil ?_
        refine qe_thenC ?_
        refine ce_seq ?_
        refine ce_text (tab := []) (soft := 5) (.op 0 (.op 1 (.op 2 .nil))) rfl rfl ?_
        refine re_move rfl rfl rfl rfl rfl ?_
        refine re_call en_53 rfl rfl rfl rfl rfl ?_
        refine Calls.mono (send_r (r := r.phase 1) H hn ha) ?_
        rintro e w ⟨a, c, rfl, H⟩
        refine ⟨_, rfl, (fun h => (nomatch h)), ?_⟩
        refine re_assign rfl rfl rfl rfl rfl ?_
        refine re_nil ?_
        refine qe_thenC ?_
        refine ce_ret ?_
        refine qe_end rfl rfl ?_
        exact ⟨a, c, rfl, H⟩
    ·
      refine re_move rfl rfl rfl rfl rfl ?_
      refine re_nilc rfl rfl rfl rfl rfl ?_
      first | refine re_field0 rfl rfl rfl rfl rfl fo_54_6 ?_ | refine re_field rfl rfl rfl rfl rfl fo_54_6 ?_ | refine re_fieldA rfl rfl rfl rfl rfl fo_54_6 ?_
      refine re_load H rfl rfl rfl rfl rfl sh_3 rfl ?_
      refine re_bin rfl rfl rfl rfl rfl rfl rfl ?_
      refine re_pickF rfl rfl rfl rfl rfl rfl ?_
      refine re_move rfl rfl rfl rfl rfl ?_
      refine re_split (fun hg3_12 => ?_) (fun hg3_12 => ?_)
      ·
        refine re_skip1 rfl rfl rfl ?_
        refine re_skip1 rfl rfl rfl ?_
        refine re_skip1 rfl rfl rfl ?_
        refine re_skip1 rfl rfl rfl ?_
        refine re_skip1 rfl rfl rfl ?_
        refine re_pickT rfl rfl rfl rfl rfl rfl ?_
        refine re_move rfl rfl rfl rfl rfl ?_
        refine re_skip1 rfl rfl rfl ?_
        refine re_skip1 rfl rfl rfl ?_
        refine re_skip1 rfl rfl rfl ?_
        refine re_skip1 rfl rfl rfl ?_
        refine re_skip1 rfl rfl rfl ?_
        refine re_pickT rfl rfl rfl rfl rfl rfl ?_
        refine re_nil ?_
        refine qe_thenC ?_
        refine ce_cond rfl (fun h1 => ?_) (fun h1 => ?_)
        · try simp only [zn1, zn2, zn3, zn4, zn5, zn6] at h1
          unfold RS.far at hw; simp_all <;> omega
        · try simp only [zn1, zn2, zn3, zn4, zn5, zn6] at h1
          refine ce_skip ?_
          refine qe_thenC ?_
          refine ce_seq ?_
          refine ce_text (tab := []) (soft := 7) (.op 0 (.op 1 (.op 2 (.op 3 .nil)))) rfl rfl ?_
          refine re_move rfl rfl rfl rfl rfl ?_
          refine re_nilc rfl rfl rfl rfl rfl ?_
          first | refine re_field0 rfl rfl rfl rfl rfl fo_54_9 ?_ | refine re_field rfl rfl rfl rfl rfl fo_54_9 ?_ | refine re_fieldA rfl rfl rfl rfl rfl fo_54_9 ?_
          refine re_store H rfl rfl rfl rfl rfl rfl sh_3 rfl rfl rfl ?_
          intro cs w hcs H
          first | rw [setMany_whole rfl] at hcs | simp only [setMany, List.set_cons_zero, List.set_cons_succ, Nat.reduceAdd, Nat.zero_add, PS.cells, PS.over, GM.cells, Cmd.cells, List.cons_append, List.nil_append, RS.cellsV] at hcs
          subst hcs
          refine ⟨(fun h => (nomatch h)), ?_⟩
          refine re_nil ?_
          refine qe_thenC ?_
          refine ce_seq ?_
          refine ce_text (tab := []) (soft := 5) (.op 0 (.op 1 (.op 2 .nil))) rfl rfl ?_
          refine re_move rfl rfl rfl rfl rfl ?_
          refine re_call en_53 rfl rfl rfl rfl rfl ?_
          refine Calls.mono (send_r (r := r.phase 1) H hn ha) ?_
          rintro e w ⟨a, c, rfl, H⟩
          refine ⟨_, rfl, (fun h => (nomatch h)), ?_⟩
          refine re_assign rfl rfl rfl rfl rfl ?_
          refine re_nil ?_
          refine qe_thenC ?_
          refine ce_ret ?_
          refine qe_end rfl rfl ?_
          exact ⟨a, c, rfl, H⟩
      ·
        refine re_move rfl rfl rfl rfl rfl ?_
        refine re_nilc rfl rfl rfl rfl rfl ?_
        first | refine re_field0 rfl rfl rfl rfl rfl fo_54_7 ?_ | refine re_field rfl rfl rfl rfl rfl fo_54_7 ?_ | refine re_fieldA rfl rfl rfl rfl rfl fo_54_7 ?_
        refine re_load H rfl rfl rfl rfl rfl sh_3 rfl ?_
        refine re_bin rfl rfl rfl rfl rfl rfl rfl ?_
        refine re_pickF rfl rfl rfl rfl rfl rfl ?_
        refine re_move rfl rfl rfl rfl rfl ?_
        refine re_split (fun hg3_19 => ?_) (fun hg3_19 => ?_)
        ·
          refine re_skip1 rfl rfl rfl ?_
          refine re_skip1 rfl rfl rfl ?_
          refine re_skip1 rfl rfl rfl ?_
          refine re_skip1 rfl rfl rfl ?_
          refine re_skip1 rfl rfl rfl ?_
          refine re_pickT rfl rfl rfl rfl rfl rfl ?_
          refine re_nil ?_
          refine qe_thenC ?_
          refine ce_cond rfl (fun h1 => ?_) (fun h1 => ?_)
          · try simp only [zn1, zn2, zn3, zn4, zn5, zn6] at h1
            unfold RS.far at hw; simp_all <;> omega
          · try simp only [zn1, zn2, zn3, zn4, zn5, zn6] at h1
            refine ce_skip ?_
            refine qe_thenC ?_
            refine ce_seq ?_
            refine ce_text (tab := []) (soft := 7) (.op 0 (.op 1 (.op 2 (.op 3 .nil)))) rfl rfl ?_
            refine re_move rfl rfl rfl rfl rfl ?_
            refine re_nilc rfl rfl rfl rfl rfl ?_
            first | refine re_field0 rfl rfl rfl rfl rfl fo_54_9 ?_ | refine re_field rfl rfl rfl rfl rfl fo_54_9 ?_ | refine re_fieldA rfl rfl rfl rfl rfl fo_54_9 ?_
            refine re_store H rfl rfl rfl rfl rfl rfl sh_3 rfl rfl rfl ?_
            intro cs w hcs H
            first | rw [setMany_whole rfl] at hcs | simp only [setMany, List.set_cons_zero, List.set_cons_succ, Nat.reduceAdd, Nat.zero_add, PS.cells, PS.over, GM.cells, Cmd.cells, List.cons_append, List.nil_append, RS.cellsV] at hcs
            subst hcs
            refine ⟨(fun h => (nomatch h)), ?_⟩
            refine re_nil ?_
            refine qe_thenC ?_
            refine ce_seq ?_
            refine ce_text (tab := []) (soft := 5) (.op 0 (.op 1 (.op 2 .nil))) rfl rfl ?_
            refine re_move rfl rfl rfl rfl rfl ?_
            refine re_call en_53 rfl rfl rfl rfl rfl ?_
            refine Calls.mono (send_r (r := r.phase 1) H hn ha) ?_
            rintro e w ⟨a, c, rfl, H⟩
            refine ⟨_, rfl, (fun h => (nomatch h)), ?_⟩
            refine re_assign rfl rfl rfl rfl rfl ?_
            refine re_nil ?_
            refine qe_thenC ?_
            refine ce_ret ?_
            refine qe_end rfl rfl ?_
            exact ⟨a, c, rfl, H⟩
        ·
          refine re_move rfl rfl rfl rfl rfl ?_
          refine re_nilc rfl rfl rfl rfl rfl ?_
          first | refine re_field0 rfl rfl rfl rfl rfl fo_54_7 ?_ | refine re_field rfl rfl rfl rfl rfl fo_54_7 ?_ | refine re_fieldA rfl rfl rfl rfl rfl fo_54_7 ?_
          refine re_load H rfl rfl rfl rfl rfl sh_3 rfl ?_
          refine re_bin rfl rfl rfl rfl rfl rfl rfl ?_
          refine re_pickF rfl rfl rfl rfl rfl rfl ?_
          refine re_nil ?_
          refine qe_thenC ?_
          refine ce_cond rfl (fun h1 => ?_) (fun h1 => ?_)
          · try simp only [zn1, zn2, zn3, zn4, zn5, zn6] at h1
            unfold RS.far at hw; simp_all <;> omega
          · try simp only [zn1, zn2, zn3, zn4, zn5, zn6] at h1
            refine ce_skip ?_
            refine qe_thenC ?_
            refine ce_seq ?_
            refine ce_text (tab := []) (soft := 7) (.op 0 (.op 1 (.op 2 (.op 3 .nil)))) rfl rfl ?_
            refine re_move rfl rfl rfl rfl rfl ?_
            refine re_nilc rfl rfl rfl rfl rfl ?_
            first | refine re_field0 rfl rfl rfl rfl rfl fo_54_9 ?_ | refine re_field rfl rfl rfl rfl rfl fo_54_9 ?_ | refine re_fieldA rfl rfl rfl rfl rfl fo_54_9 ?_
            refine re_store H rfl rfl rfl rfl rfl rfl sh_3 rfl rfl rfl ?_
            intro cs w hcs H
            first | rw [setMany_whole rfl] at hcs | simp only [setMany, List.set_cons_zero, List.set_cons_succ, Nat.reduceAdd, Nat.zero_add, PS.cells, PS.over, GM.cells, Cmd.cells, List.cons_append, List.nil_append, RS.cellsV] at hcs
            subst hcs
            refine ⟨(fun h => (nomatch h)), ?_⟩
            refine re_nil ?_
            refine qe_thenC ?_
            refine ce_seq ?_
            refine ce_text (tab := []) (soft := 5) (.op 0 (.op 1 (.op 2 .nil))) rfl rfl ?_
            refine re_move rfl rfl rfl rfl rfl ?_
            refine re_call en_53 rfl rfl rfl rfl rfl ?_
            refine Calls.mono (send_r (r := r.phase 1) H hn ha) ?_
            rintro e w ⟨a, c, rfl, H⟩
            refine ⟨_, rfl, (fun h => (nomatch h)), ?_⟩
            refine re_assign rfl rfl rfl rfl rfl ?_
            refine re_nil ?_
            refine qe_thenC ?_
            refine ce_ret ?_
            refine qe_end rfl rfl ?_
            exact ⟨a, c, rfl, H⟩
end Go.Proofs.Ytofaoblfemfkiaa

namespace Go.Proofs.Ytofaoblfemfkiaa
open Go Go.RowKit Go.Fw
set_option linter.unusedSimpArgs false
set_option linter.unusedVariables false
set_option maxRecDepth 4000
set_option maxHeartbeats 2000000
theorem en_55 : Enterable Try.prog 55 := ⟨Try.f55, Try.func55, rfl, by decide⟩
theorem en_79 : Enterable Try.prog 79 := ⟨Try.f79, Try.func79, rfl, by decide⟩
theorem fo_54_4 : fOff Try.prog 54 4 = some 7 := by kernel_rfl

theorem tick_offR {B w : World} {F : List Ent} {h a1 a2 a3 a4 : Nat} {r : RS} (H : Own B (.cells h 54 (r.cellsV (slv (some a1) r.gs.length r.gs.length) (slv (some a2) r.gs.length r.gs.length) (slv (some a3) r.gs.length r.gs.length) (slv (some a4) r.gs.length r.gs.length)) :: F) w) (h1 : r.ph ≠ 1) (h2 : r.ph ≠ 2) :
    Calls Try.prog 26 #[.pointer (some ⟨h, 0, none⟩)] w fun e w' => e = .returned (slv none 0 0) ∧ Own B (.cells h 54 (r.cellsV (slv (some a1) r.gs.length r.gs.length) (slv (some a2) r.gs.length r.gs.length) (slv (some a3) r.gs.length r.gs.length) (slv (some a4) r.gs.length r.gs.length)) :: F) w' := by
  refine calls_ce (args := [.pointer (some ⟨h, 0, none⟩)]) Try.func26 rfl rfl ?_
  change CE _ _ 60 _ _ [(0, .pointer (some ⟨h, 0, none⟩))] _
  refine ce_seq ?_
  refine ce_text (tab := []) (soft := 1) (.op 0 .nil) rfl rfl ?_
  refine re_assign rfl rfl rfl rfl rfl ?_
  refine re_nil ?_
  refine qe_thenC ?_
  refine ce_seq ?_
  refine ce_seq ?_
  refine ce_text (tab := []) (soft := 4095) (.op 0 (.op 1 (.op 2 (.op 3 (.op 4 (.op 5 (.op 6 (.op 7 (.op 8 (.op 9 (.op 10 (.op 11 .nil)))))))))))) rfl rfl ?_
  refine re_move rfl rfl rfl rfl rfl ?_
  refine re_nilc rfl rfl rfl rfl rfl ?_
  first | refine re_field0 rfl rfl rfl rfl rfl fo_54_9 ?_ | refine re_field rfl rfl rfl rfl rfl fo_54_9 ?_ | refine re_fieldA rfl rfl rfl rfl rfl fo_54_9 ?_
  refine re_load H rfl rfl rfl rfl rfl sh_3 rfl ?_
  refine re_bin rfl rfl rfl rfl rfl rfl rfl ?_
  have hg1 : decide (¬ r.ph = 1) = true := by simp [h1]
  refine re_move rfl rfl rfl rfl rfl ?_
  refine re_split (fun hg1_5 => ?_) (fun hg1_5 => ?_)
  ·
    refine re_move rfl rfl rfl rfl rfl ?_
    refine re_nilc rfl rfl rfl rfl rfl ?_
    first | refine re_field0 rfl rfl rfl rfl rfl fo_54_9 ?_ | refine re_field rfl rfl rfl rfl rfl fo_54_9 ?_ | refine re_fieldA rfl rfl rfl rfl rfl fo_54_9 ?_
    refine re_load H rfl rfl rfl rfl rfl sh_3 rfl ?_
    refine re_bin rfl rfl rfl rfl rfl rfl rfl ?_
    refine re_pickT rfl rfl rfl rfl rfl rfl ?_
    refine re_nil ?_
    refine qe_thenC ?_
    refine ce_cond rfl (fun h0 => ?_) (fun h0 => ?_)
    · try simp only [zn1, zn2, zn3, zn4, zn5, zn6] at h0
      refine ce_seq ?_
      refine ce_text (tab := []) (soft := 1) (.op 0 .nil) rfl rfl ?_
      refine re_assign rfl rfl rfl rfl rfl ?_
      refine re_nil ?_
      refine qe_thenC ?_
      refine ce_ret ?_
      refine qe_then_ret ?_
      refine qe_end rfl rfl ?_
      exact ⟨rfl, H⟩
    · try simp only [zn1, zn2, zn3, zn4, zn5, zn6] at h0
      simp_all
  ·
    refine re_skip1 rfl rfl rfl ?_
    refine re_skip1 rfl rfl rfl ?_
    refine re_skip1 rfl rfl rfl ?_
    refine re_skip1 rfl rfl rfl ?_
    refine re_skip1 rfl rfl rfl ?_
    refine re_pickF rfl rfl rfl rfl rfl rfl ?_
    refine re_nil ?_
    refine qe_thenC ?_
    refine ce_cond rfl (fun h0 => ?_) (fun h0 => ?_)
    · try simp only [zn1, zn2, zn3, zn4, zn5, zn6] at h0
      refine ce_seq ?_
      refine ce_text (tab := []) (soft := 1) (.op 0 .nil) rfl rfl ?_
      refine re_assign rfl rfl rfl rfl rfl ?_
      refine re_nil ?_
      refine qe_thenC ?_
      refine ce_ret ?_
      refine qe_then_ret ?_
      refine qe_end rfl rfl ?_
      exact ⟨rfl, H⟩
    · try simp only [zn1, zn2, zn3, zn4, zn5, zn6] at h0
      simp_all

theorem tick_quietR {B w : World} {F : List Ent} {h a1 a2 a3 a4 : Nat} {r : RS} (H : Own B (.cells h 54 (r.cellsV (slv (some a1) r.gs.length r.gs.length) (slv (some a2) r.gs.length r.gs.length) (slv (some a3) r.gs.length r.gs.length) (slv (some a4) r.gs.length r.gs.length)) :: .row r.ga r.gc 3 1 r.gs.length (ints r.gs) :: .cells a1 4 (bools r.ans) :: .cells a2 4 (bools r.cnt) :: .cells a3 38 (stamps r.held) :: .cells a4 28 (cmdsC r.cms) :: F) w) (hn : r.gs.length ≤ 1000000) (ha : r.ans.length = r.gs.length) (hp : r.ph = 1 ∨ r.ph = 2) (hk : r.nk = false) :
    Calls Try.prog 26 #[.pointer (some ⟨h, 0, none⟩)] w fun e w' => ∃ a c, e = .returned (slv a r.out.length c) ∧ Own B (.row a c 46 30 r.out.length (msgs r.out) :: .cells h 54 (r.cellsV (slv (some a1) r.gs.length r.gs.length) (slv (some a2) r.gs.length r.gs.length) (slv (some a3) r.gs.length r.gs.length) (slv (some a4) r.gs.length r.gs.length)) :: .row r.ga r.gc 3 1 r.gs.length (ints r.gs) :: .cells a1 4 (bools r.ans) :: .cells a2 4 (bools r.cnt) :: .cells a3 38 (stamps r.held) :: .cells a4 28 (cmdsC r.cms) :: F) w' := by
  refine calls_ce (args := [.pointer (some ⟨h, 0, none⟩)]) Try.func26 rfl rfl ?_
  change CE _ _ 60 _ _ [(0, .pointer (some ⟨h, 0, none⟩))] _
  refine ce_seq ?_
  refine ce_text (tab := []) (soft := 1) (.op 0 .nil) rfl rfl ?_
  refine re_assign rfl rfl rfl rfl rfl ?_
  refine re_nil ?_
  refine qe_thenC ?_
  refine ce_seq ?_
  refine ce_seq ?_
  refine ce_text (tab := []) (soft := 4095) (.op 0 (.op 1 (.op 2 (.op 3 (.op 4 (.op 5 (.op 6 (.op 7 (.op 8 (.op 9 (.op 10 (.op 11 .nil)))))))))))) rfl rfl ?_
  refine re_move rfl rfl rfl rfl rfl ?_
  refine re_nilc rfl rfl rfl rfl rfl ?_
  first | refine re_field0 rfl rfl rfl rfl rfl fo_54_9 ?_ | refine re_field rfl rfl rfl rfl rfl fo_54_9 ?_ | refine re_fieldA rfl rfl rfl rfl rfl fo_54_9 ?_
  refine re_load H rfl rfl rfl rfl rfl sh_3 rfl ?_
  refine re_bin rfl rfl rfl rfl rfl rfl rfl ?_
  refine re_move rfl rfl rfl rfl rfl ?_
  refine re_split (fun hg1_5 => ?_) (fun hg1_5 => ?_)
  ·
    refine re_move rfl rfl rfl rfl rfl ?_
    refine re_nilc rfl rfl rfl rfl rfl ?_
    first | refine re_field0 rfl rfl rfl rfl rfl fo_54_9 ?_ | refine re_field rfl rfl rfl rfl rfl fo_54_9 ?_ | refine re_fieldA rfl rfl rfl rfl rfl fo_54_9 ?_
    refine re_load H rfl rfl rfl rfl rfl sh_3 rfl ?_
    refine re_bin rfl rfl rfl rfl rfl rfl rfl ?_
    refine re_pickT rfl rfl rfl rfl rfl rfl ?_
    refine re_nil ?_
    refine qe_thenC ?_
    refine ce_cond rfl (fun h0 => ?_) (fun h0 => ?_)
    · try simp only [zn1, zn2, zn3, zn4, zn5, zn6] at h0
      simp_all <;> omega
    · try simp only [zn1, zn2, zn3, zn4, zn5, zn6] at h0
      refine ce_skip ?_
      refine qe_thenC ?_
      refine ce_seq ?_
      refine ce_seq ?_
      refine ce_text (tab := []) (soft := 31) (.op 0 (.op 1 (.op 2 (.op 3 (.op 4 .nil))))) rfl rfl ?_
      refine re_move rfl rfl rfl rfl rfl ?_
      refine re_nilc rfl rfl rfl rfl rfl ?_
      first | refine re_field0 rfl rfl rfl rfl rfl fo_54_14 ?_ | refine re_field rfl rfl rfl rfl rfl fo_54_14 ?_ | refine re_fieldA rfl rfl rfl rfl rfl fo_54_14 ?_
      refine re_load H rfl rfl rfl rfl rfl sh_4 rfl ?_
      simp only [hk]
      refine re_not rfl rfl rfl rfl rfl ?_
      refine re_nil ?_
      refine qe_thenC ?_
      refine ce_condT rfl ?_
      refine ce_seq ?_
      refine ce_text (tab := []) (soft := 5) (.op 0 (.op 1 (.op 2 .nil))) rfl rfl ?_
      refine re_move rfl rfl rfl rfl rfl ?_
      refine re_call en_53 rfl rfl rfl rfl rfl ?_
      refine Calls.mono (send_r H hn ha) ?_
      rintro e w ⟨a, c, rfl, H⟩
      refine ⟨_, rfl, (fun h => (nomatch h)), ?_⟩
      refine re_assign rfl rfl rfl rfl rfl ?_
      refine re_nil ?_
      refine qe_thenC ?_
      refine ce_ret ?_
      refine qe_then_ret ?_
      refine qe_end rfl rfl ?_
      exact ⟨a, c, rfl, H⟩
  ·
    refine re_skip1 rfl rfl rfl ?_
    refine re_skip1 rfl rfl rfl ?_
    refine re_skip1 rfl rfl rfl ?_
    refine re_skip1 rfl rfl rfl ?_
    refine re_skip1 rfl rfl rfl ?_
    refine re_pickF rfl rfl rfl rfl rfl rfl ?_
    refine re_nil ?_
    refine qe_thenC ?_
    refine ce_cond rfl (fun h0 => ?_) (fun h0 => ?_)
    · try simp only [zn1, zn2, zn3, zn4, zn5, zn6] at h0
      simp_all <;> omega
    · try simp only [zn1, zn2, zn3, zn4, zn5, zn6] at h0
      refine ce_skip ?_
      refine qe_thenC ?_
      refine ce_seq ?_
      refine ce_seq ?_
      refine ce_text (tab := []) (soft := 31) (.op 0 (.op 1 (.op 2 (.op 3 (.op 4 .nil))))) rfl rfl ?_
      refine re_move rfl rfl rfl rfl rfl ?_
      refine re_nilc rfl rfl rfl rfl rfl ?_
      first | refine re_field0 rfl rfl rfl rfl rfl fo_54_14 ?_ | refine re_field rfl rfl rfl rfl rfl fo_54_14 ?_ | refine re_fieldA rfl rfl rfl rfl rfl fo_54_14 ?_
      refine re_load H rfl rfl rfl rfl rfl sh_4 rfl ?_
      simp only [hk]
      refine re_not rfl rfl rfl rfl rfl ?_
      refine re_nil ?_
      refine qe_thenC ?_
      refine ce_condT rfl ?_
      refine ce_seq ?_
      refine ce_text (tab := []) (soft := 5) (.op 0 (.op 1 (.op 2 .nil))) rfl rfl ?_
      refine re_move rfl rfl rfl rfl rfl ?_
      refine re_call en_53 rfl rfl rfl rfl rfl ?_
      refine Calls.mono (send_r H hn ha) ?_
      rintro e w ⟨a, c, rfl, H⟩
      refine ⟨_, rfl, (fun h => (nomatch h)), ?_⟩
      refine re_assign rfl rfl rfl rfl rfl ?_
      refine re_nil ?_
      refine qe_thenC ?_
      refine ce_ret ?_
      refine qe_then_ret ?_
      refine qe_end rfl rfl ?_
      exact ⟨a, c, rfl, H⟩

theorem tick_wornR {B w : World} {F : List Ent} {h a1 a2 a3 a4 : Nat} {r : RS} (H : Own B (.cells h 54 (r.cellsV (slv (some a1) r.gs.length r.gs.length) (slv (some a2) r.gs.length r.gs.length) (slv (some a3) r.gs.length r.gs.length) (slv (some a4) r.gs.length r.gs.length)) :: F) w) (hp : r.ph = 1 ∨ r.ph = 2) (hk : r.nk = true) (hw : 1099511627776 ≤ r.nt ∨ 1099511627776 ≤ r.rnd) :
    Calls Try.prog 26 #[.pointer (some ⟨h, 0, none⟩)] w fun e w' => e = .returned (slv none 0 0) ∧ Own B (.cells h 54 (r.worn.cellsV (slv (some a1) r.worn.gs.length r.worn.gs.length) (slv (some a2) r.worn.gs.length r.worn.gs.length) (slv (some a3) r.worn.gs.length r.worn.gs.length) (slv (some a4) r.worn.gs.length r.worn.gs.length)) :: F) w' := by
  refine calls_ce (args := [.pointer (some ⟨h, 0, none⟩)]) Try.func26 rfl rfl ?_
  change CE _ _ 60 _ _ [(0, .pointer (some ⟨h, 0, none⟩))] _
  refine ce_seq ?_
  refine ce_text (tab := []) (soft := 1) (.op 0 .nil) rfl rfl ?_
  refine re_assign rfl rfl rfl rfl rfl ?_
  refine re_nil ?_
  refine qe_thenC ?_
  refine ce_seq ?_
  refine ce_seq ?_
  refine ce_text (tab := []) (soft := 4095) (.op 0 (.op 1 (.op 2 (.op 3 (.op 4 (.op 5 (.op 6 (.op 7 (.op 8 (.op 9 (.op 10 (.op 11 .nil)))))))))))) rfl rfl ?_
  refine re_move rfl rfl rfl rfl rfl ?_
  refine re_nilc rfl rfl rfl rfl rfl ?_
  first | refine re_field0 rfl rfl rfl rfl rfl fo_54_9 ?_ | refine re_field rfl rfl rfl rfl rfl fo_54_9 ?_ | refine re_fieldA rfl rfl rfl rfl rfl fo_54_9 ?_
  refine re_load H rfl rfl rfl rfl rfl sh_3 rfl ?_
  refine re_bin rfl rfl rfl rfl rfl rfl rfl ?_
  refine re_move rfl rfl rfl rfl rfl ?_
  refine re_split (fun hg1_5 => ?_) (fun hg1_5 => ?_)
  ·
    refine re_move rfl rfl rfl rfl rfl ?_
    refine re_nilc rfl rfl rfl rfl rfl ?_
    first | refine re_field0 rfl rfl rfl rfl rfl fo_54_9 ?_ | refine re_field rfl rfl rfl rfl rfl fo_54_9 ?_ | refine re_fieldA rfl rfl rfl rfl rfl fo_54_9 ?_
    refine re_load H rfl rfl rfl rfl rfl sh_3 rfl ?_
    refine re_bin rfl rfl rfl rfl rfl rfl rfl ?_
    refine re_pickT rfl rfl rfl rfl rfl rfl ?_
    refine re_nil ?_
    refine qe_thenC ?_
    refine ce_cond rfl (fun h0 => ?_) (fun h0 => ?_)
    · try simp only [zn1, zn2, zn3, zn4, zn5, zn6] at h0
      simp_all <;> omega
    · try simp only [zn1, zn2, zn3, zn4, zn5, zn6] at h0
      refine ce_skip ?_
      refine qe_thenC ?_
      refine ce_seq ?_
      refine ce_seq ?_
      refine ce_text (tab := []) (soft := 31) (.op 0 (.op 1 (.op 2 (.op 3 (.op 4 .nil))))) rfl rfl ?_
      refine re_move rfl rfl rfl rfl rfl ?_
      refine re_nilc rfl rfl rfl rfl rfl ?_
      first | refine re_field0 rfl rfl rfl rfl rfl fo_54_14 ?_ | refine re_field rfl rfl rfl rfl rfl fo_54_14 ?_ | refine re_fieldA rfl rfl rfl rfl rfl fo_54_14 ?_
      refine re_load H rfl rfl rfl rfl rfl sh_4 rfl ?_
      simp only [hk]
      refine re_not rfl rfl rfl rfl rfl ?_
      refine re_nil ?_
      refine qe_thenC ?_
      refine ce_condF rfl ?_
      refine ce_skip ?_
      refine qe_thenC ?_
      refine ce_seq ?_
      refine ce_seq ?_
      refine ce_text (tab := []) (soft := 4095) (.op 0 (.op 1 (.op 2 (.op 3 (.op 4 (.op 5 (.op 6 (.op 7 (.op 8 (.op 9 (.op 10 (.op 11 .nil)))))))))))) rfl rfl ?_
      refine re_move rfl rfl rfl rfl rfl ?_
      refine re_nilc rfl rfl rfl rfl rfl ?_
      first | refine re_field0 rfl rfl rfl rfl rfl fo_54_8 ?_ | refine re_field rfl rfl rfl rfl rfl fo_54_8 ?_ | refine re_fieldA rfl rfl rfl rfl rfl fo_54_8 ?_
      refine re_load H rfl rfl rfl rfl rfl sh_3 rfl ?_
      refine re_bin rfl rfl rfl rfl rfl rfl rfl ?_
      refine re_move rfl rfl rfl rfl rfl ?_
      refine re_split (fun hg5_5 => ?_) (fun hg5_5 => ?_)
      ·
        refine re_skip1 rfl rfl rfl ?_
        refine re_skip1 rfl rfl rfl ?_
        refine re_skip1 rfl rfl rfl ?_
        refine re_skip1 rfl rfl rfl ?_
        refine re_skip1 rfl rfl rfl ?_
        refine re_pickT rfl rfl rfl rfl rfl rfl ?_
        refine re_nil ?_
        refine qe_thenC ?_
        refine ce_cond rfl (fun h2 => ?_) (fun h2 => ?_)
        · try simp only [zn1, zn2, zn3, zn4, zn5, zn6] at h2
          refine ce_seq ?_
          refine ce_text (tab := []) (soft := 7) (.op 0 (.op 1 (.op 2 (.op 3 .nil)))) rfl rfl ?_
          refine re_move rfl rfl rfl rfl rfl ?_
          refine re_nilc rfl rfl rfl rfl rfl ?_
          first | refine re_field0 rfl rfl rfl rfl rfl fo_54_17 ?_ | refine re_field rfl rfl rfl rfl rfl fo_54_17 ?_ | refine re_fieldA rfl rfl rfl rfl rfl fo_54_17 ?_
          refine re_store H rfl rfl rfl rfl rfl rfl sh_4 rfl rfl rfl ?_
          intro cs w hcs H
          first | rw [setMany_whole rfl] at hcs | simp only [setMany, List.set_cons_zero, List.set_cons_succ, Nat.reduceAdd, Nat.zero_add, PS.cells, PS.over, GM.cells, Cmd.cells, List.cons_append, List.nil_append, RS.cellsV] at hcs
          subst hcs
          refine ⟨(fun h => (nomatch h)), ?_⟩
          refine re_nil ?_
          refine qe_thenC ?_
          refine ce_seq ?_
          refine ce_text (tab := []) (soft := 7) (.op 0 (.op 1 (.op 2 (.op 3 .nil)))) rfl rfl ?_
          refine re_move rfl rfl rfl rfl rfl ?_
          refine re_nilc rfl rfl rfl rfl rfl ?_
          first | refine re_field0 rfl rfl rfl rfl rfl fo_54_9 ?_ | refine re_field rfl rfl rfl rfl rfl fo_54_9 ?_ | refine re_fieldA rfl rfl rfl rfl rfl fo_54_9 ?_
          refine re_store H rfl rfl rfl rfl rfl rfl sh_3 rfl rfl rfl ?_
          intro cs w hcs H
          first | rw [setMany_whole rfl] at hcs | simp only [setMany, List.set_cons_zero, List.set_cons_succ, Nat.reduceAdd, Nat.zero_add, PS.cells, PS.over, GM.cells, Cmd.cells, List.cons_append, List.nil_append, RS.cellsV] at hcs
          subst hcs
          refine ⟨(fun h => (nomatch h)), ?_⟩
          refine re_nil ?_
          refine qe_thenC ?_
          refine ce_seq ?_
          refine ce_text (tab := []) (soft := 1) (.op 0 .nil) rfl rfl ?_
          refine re_assign rfl rfl rfl rfl rfl ?_
          refine re_nil ?_
          refine qe_thenC ?_
          refine ce_ret ?_
          refine qe_then_ret ?_
          refine qe_end rfl rfl ?_
          exact ⟨rfl, H⟩
        · try simp only [zn1, zn2, zn3, zn4, zn5, zn6] at h2
          simp_all <;> omega
      ·
        refine re_move rfl rfl rfl rfl rfl ?_
        refine re_nilc rfl rfl rfl rfl rfl ?_
        first | refine re_field0 rfl rfl rfl rfl rfl fo_54_7 ?_ | refine re_field rfl rfl rfl rfl rfl fo_54_7 ?_ | refine re_fieldA rfl rfl rfl rfl rfl fo_54_7 ?_
        refine re_load H rfl rfl rfl rfl rfl sh_3 rfl ?_
        refine re_bin rfl rfl rfl rfl rfl rfl rfl ?_
        refine re_pickF rfl rfl rfl rfl rfl rfl ?_
        refine re_nil ?_
        refine qe_thenC ?_
        refine ce_cond rfl (fun h2 => ?_) (fun h2 => ?_)
        · try simp only [zn1, zn2, zn3, zn4, zn5, zn6] at h2
          refine ce_seq ?_
          refine ce_text (tab := []) (soft := 7) (.op 0 (.op 1 (.op 2 (.op 3 .nil)))) rfl rfl ?_
          refine re_move rfl rfl rfl rfl rfl ?_
          refine re_nilc rfl rfl rfl rfl rfl ?_
          first | refine re_field0 rfl rfl rfl rfl rfl fo_54_17 ?_ | refine re_field rfl rfl rfl rfl rfl fo_54_17 ?_ | refine re_fieldA rfl rfl rfl rfl rfl fo_54_17 ?_
          refine re_store H rfl rfl rfl rfl rfl rfl sh_4 rfl rfl rfl ?_
          intro cs w hcs H
          first | rw [setMany_whole rfl] at hcs | simp only [setMany, List.set_cons_zero, List.set_cons_succ, Nat.reduceAdd, Nat.zero_add, PS.cells, PS.over, GM.cells, Cmd.cells, List.cons_append, List.nil_append, RS.cellsV] at hcs
          subst hcs
          refine ⟨(fun h => (nomatch h)), ?_⟩
          refine re_nil ?_
          refine qe_thenC ?_
          refine ce_seq ?_
          refine ce_text (tab := []) (soft := 7) (.op 0 (.op 1 (.op 2 (.op 3 .nil)))) rfl rfl ?_
          refine re_move rfl rfl rfl rfl rfl ?_
          refine re_nilc rfl rfl rfl rfl rfl ?_
          first | refine re_field0 rfl rfl rfl rfl rfl fo_54_9 ?_ | refine re_field rfl rfl rfl rfl rfl fo_54_9 ?_ | refine re_fieldA rfl rfl rfl rfl rfl fo_54_9 ?_
          refine re_store H rfl rfl rfl rfl rfl rfl sh_3 rfl rfl rfl ?_
          intro cs w hcs H
          first | rw [setMany_whole rfl] at hcs | simp only [setMany, List.set_cons_zero, List.set_cons_succ, Nat.reduceAdd, Nat.zero_add, PS.cells, PS.over, GM.cells, Cmd.cells, List.cons_append, List.nil_append, RS.cellsV] at hcs
          subst hcs
          refine ⟨(fun h => (nomatch h)), ?_⟩
          refine re_nil ?_
          refine qe_thenC ?_
          refine ce_seq ?_
          refine ce_text (tab := []) (soft := 1) (.op 0 .nil) rfl rfl ?_
          refine re_assign rfl rfl rfl rfl rfl ?_
          refine re_nil ?_
          refine qe_thenC ?_
          refine ce_ret ?_
          refine qe_then_ret ?_
          refine qe_end rfl rfl ?_
          exact ⟨rfl, H⟩
        · try simp only [zn1, zn2, zn3, zn4, zn5, zn6] at h2
          simp_all <;> omega
  ·
    refine re_skip1 rfl rfl rfl ?_
    refine re_skip1 rfl rfl rfl ?_
    refine re_skip1 rfl rfl rfl ?_
    refine re_skip1 rfl rfl rfl ?_
    refine re_skip1 rfl rfl rfl ?_
    refine re_pickF rfl rfl rfl rfl rfl rfl ?_
    refine re_nil ?_
    refine qe_thenC ?_
    refine ce_cond rfl (fun h0 => ?_) (fun h0 => ?_)
    · try simp only [zn1, zn2, zn3, zn4, zn5, zn6] at h0
      simp_all <;> omega
    · try simp only [zn1, zn2, zn3, zn4, zn5, zn6] at h0
      refine ce_skip ?_
      refine qe_thenC ?_
      refine ce_seq ?_
      refine ce_seq ?_
      refine ce_text (tab := []) (soft := 31) (.op 0 (.op 1 (.op 2 (.op 3 (.op 4 .nil))))) rfl rfl ?_
      refine re_move rfl rfl rfl rfl rfl ?_
      refine re_nilc rfl rfl rfl rfl rfl ?_
      first | refine re_field0 rfl rfl rfl rfl rfl fo_54_14 ?_ | refine re_field rfl rfl rfl rfl rfl fo_54_14 ?_ | refine re_fieldA rfl rfl rfl rfl rfl fo_54_14 ?_
      refine re_load H rfl rfl rfl rfl rfl sh_4 rfl ?_
      simp only [hk]
      refine re_not rfl rfl rfl rfl rfl ?_
      refine re_nil ?_
      refine qe_thenC ?_
      refine ce_condF rfl ?_
      refine ce_skip ?_
      refine qe_thenC ?_
      refine ce_seq ?_
      refine ce_seq ?_
      refine ce_text (tab := []) (soft := 4095) (.op 0 (.op 1 (.op 2 (.op 3 (.op 4 (.op 5 (.op 6 (.op 7 (.op 8 (.op 9 (.op 10 (.op 11 .nil)))))))))))) rfl rfl ?_
      refine re_move rfl rfl rfl rfl rfl ?_
      refine re_nilc rfl rfl rfl rfl rfl ?_
      first | refine re_field0 rfl rfl rfl rfl rfl fo_54_8 ?_ | refine re_field rfl rfl rfl rfl rfl fo_54_8 ?_ | refine re_fieldA rfl rfl rfl rfl rfl fo_54_8 ?_
      refine re_load H rfl rfl rfl rfl rfl sh_3 rfl ?_
      refine re_bin rfl rfl rfl rfl rfl rfl rfl ?_
      refine re_move rfl rfl rfl rfl rfl ?_
      refine re_split (fun hg5_5 => ?_) (fun hg5_5 => ?_)
      ·
        refine re_skip1 rfl rfl rfl ?_
        refine re_skip1 rfl rfl rfl ?_
        refine re_skip1 rfl rfl rfl ?_
        refine re_skip1 rfl rfl rfl ?_
        refine re_skip1 rfl rfl rfl ?_
        refine re_pickT rfl rfl rfl rfl rfl rfl ?_
        refine re_nil ?_
        refine qe_thenC ?_
        refine ce_cond rfl (fun h2 => ?_) (fun h2 => ?_)
        · try simp only [zn1, zn2, zn3, zn4, zn5, zn6] at h2
          refine ce_seq ?_
          refine ce_text (tab := []) (soft := 7) (.op 0 (.op 1 (.op 2 (.op 3 .nil)))) rfl rfl ?_
          refine re_move rfl rfl rfl rfl rfl ?_
          refine re_nilc rfl rfl rfl rfl rfl ?_
          first | refine re_field0 rfl rfl rfl rfl rfl fo_54_17 ?_ | refine re_field rfl rfl rfl rfl rfl fo_54_17 ?_ | refine re_fieldA rfl rfl rfl rfl rfl fo_54_17 ?_
          refine re_store H rfl rfl rfl rfl rfl rfl sh_4 rfl rfl rfl ?_
          intro cs w hcs H
          first | rw [setMany_whole rfl] at hcs | simp only [setMany, List.set_cons_zero, List.set_cons_succ, Nat.reduceAdd, Nat.zero_add, PS.cells, PS.over, GM.cells, Cmd.cells, List.cons_append, List.nil_append, RS.cellsV] at hcs
          subst hcs
          refine ⟨(fun h => (nomatch h)), ?_⟩
          refine re_nil ?_
          refine qe_thenC ?_
          refine ce_seq ?_
          refine ce_text (tab := []) (soft := 7) (.op 0 (.op 1 (.op 2 (.op 3 .nil)))) rfl rfl ?_
          refine re_move rfl rfl rfl rfl rfl ?_
          refine re_nilc rfl rfl rfl rfl rfl ?_
          first | refine re_field0 rfl rfl rfl rfl rfl fo_54_9 ?_ | refine re_field rfl rfl rfl rfl rfl fo_54_9 ?_ | refine re_fieldA rfl rfl rfl rfl rfl fo_54_9 ?_
          refine re_store H rfl rfl rfl rfl rfl rfl sh_3 rfl rfl rfl ?_
          intro cs w hcs H
          first | rw [setMany_whole rfl] at hcs | simp only [setMany, List.set_cons_zero, List.set_cons_succ, Nat.reduceAdd, Nat.zero_add, PS.cells, PS.over, GM.cells, Cmd.cells, List.cons_append, List.nil_append, RS.cellsV] at hcs
          subst hcs
          refine ⟨(fun h => (nomatch h)), ?_⟩
          refine re_nil ?_
          refine qe_thenC ?_
          refine ce_seq ?_
          refine ce_text (tab := []) (soft := 1) (.op 0 .nil) rfl rfl ?_
          refine re_assign rfl rfl rfl rfl rfl ?_
          refine re_nil ?_
          refine qe_thenC ?_
          refine ce_ret ?_
          refine qe_then_ret ?_
          refine qe_end rfl rfl ?_
          exact ⟨rfl, H⟩
        · try simp only [zn1, zn2, zn3, zn4, zn5, zn6] at h2
          simp_all <;> omega
      ·
        refine re_move rfl rfl rfl rfl rfl ?_
        refine re_nilc rfl rfl rfl rfl rfl ?_
        first | refine re_field0 rfl rfl rfl rfl rfl fo_54_7 ?_ | refine re_field rfl rfl rfl rfl rfl fo_54_7 ?_ | refine re_fieldA rfl rfl rfl rfl rfl fo_54_7 ?_
        refine re_load H rfl rfl rfl rfl rfl sh_3 rfl ?_
        refine re_bin rfl rfl rfl rfl rfl rfl rfl ?_
        refine re_pickF rfl rfl rfl rfl rfl rfl ?_
        refine re_nil ?_
        refine qe_thenC ?_
        refine ce_cond rfl (fun h2 => ?_) (fun h2 => ?_)
        · try simp only [zn1, zn2, zn3, zn4, zn5, zn6] at h2
          refine ce_seq ?_
          refine ce_text (tab := []) (soft := 7) (.op 0 (.op 1 (.op 2 (.op 3 .nil)))) rfl rfl ?_
          refine re_move rfl rfl rfl rfl rfl ?_
          refine re_nilc rfl rfl rfl rfl rfl ?_
          first | refine re_field0 rfl rfl rfl rfl rfl fo_54_17 ?_ | refine re_field rfl rfl rfl rfl rfl fo_54_17 ?_ | refine re_fieldA rfl rfl rfl rfl rfl fo_54_17 ?_
          refine re_store H rfl rfl rfl rfl rfl rfl sh_4 rfl rfl rfl ?_
          intro cs w hcs H
          first | rw [setMany_whole rfl] at hcs | simp only [setMany, List.set_cons_zero, List.set_cons_succ, Nat.reduceAdd, Nat.zero_add, PS.cells, PS.over, GM.cells, Cmd.cells, List.cons_append, List.nil_append, RS.cellsV] at hcs
          subst hcs
          refine ⟨(fun h => (nomatch h)), ?_⟩
          refine re_nil ?_
          refine qe_thenC ?_
          refine ce_seq ?_
          refine ce_text (tab := []) (soft := 7) (.op 0 (.op 1 (.op 2 (.op 3 .nil)))) rfl rfl ?_
          refine re_move rfl rfl rfl rfl rfl ?_
          refine re_nilc rfl rfl rfl rfl rfl ?_
          first | refine re_field0 rfl rfl rfl rfl rfl fo_54_9 ?_ | refine re_field rfl rfl rfl rfl rfl fo_54_9 ?_ | refine re_fieldA rfl rfl rfl rfl rfl fo_54_9 ?_
          refine re_store H rfl rfl rfl rfl rfl rfl sh_3 rfl rfl rfl ?_
          intro cs w hcs H
          first | rw [setMany_whole rfl] at hcs | simp only [setMany, List.set_cons_zero, List.set_cons_succ, Nat.reduceAdd, Nat.zero_add, PS.cells, PS.over, GM.cells, Cmd.cells, List.cons_append, List.nil_append, RS.cellsV] at hcs
          subst hcs
          refine ⟨(fun h => (nomatch h)), ?_⟩
          refine re_nil ?_
          refine qe_thenC ?_
          refine ce_seq ?_
          refine ce_text (tab := []) (soft := 1) (.op 0 .nil) rfl rfl ?_
          refine re_assign rfl rfl rfl rfl rfl ?_
          refine re_nil ?_
          refine qe_thenC ?_
          refine ce_ret ?_
          refine qe_then_ret ?_
          refine qe_end rfl rfl ?_
          exact ⟨rfl, H⟩
        · try simp only [zn1, zn2, zn3, zn4, zn5, zn6] at h2
          simp_all <;> omega

theorem tick_nextR {B w : World} {F : List Ent} {h a1 a2 a3 a4 : Nat} {r : RS} (H : Own B (.cells h 54 (r.cellsV (slv (some a1) r.gs.length r.gs.length) (slv (some a2) r.gs.length r.gs.length) (slv (some a3) r.gs.length r.gs.length) (slv (some a4) r.gs.length r.gs.length)) :: .row r.ga r.gc 3 1 r.gs.length (ints r.gs) :: F) w) (hn : r.gs.length ≤ 1000000) (hp : r.ph = 1 ∨ r.ph = 2) (hk : r.nk = true) (hw : ¬ (1099511627776 ≤ r.nt ∨ 1099511627776 ≤ r.rnd)) (hlo : -1 ≤ r.nt ∧ -1 ≤ r.rnd) :
    Calls Try.prog 26 #[.pointer (some ⟨h, 0, none⟩)] w fun e w' => ∃ a1 a2 a3 a4 a c, e = .returned (slv a (r.raise.bump.clear).out.length c) ∧ Own B (.row a c 46 30 (r.raise.bump.clear).out.length (msgs (r.raise.bump.clear).out) :: .cells h 54 ((r.raise.bump.clear).cellsV (slv (some a1) (r.raise.bump.clear).gs.length (r.raise.bump.clear).gs.length) (slv (some a2) (r.raise.bump.clear).gs.length (r.raise.bump.clear).gs.length) (slv (some a3) (r.raise.bump.clear).gs.length (r.raise.bump.clear).gs.length) (slv (some a4) (r.raise.bump.clear).gs.length (r.raise.bump.clear).gs.length)) :: .row r.ga r.gc 3 1 r.gs.length (ints r.gs) :: .cells a1 4 (bools (r.raise.bump.clear).ans) :: .cells a2 4 (bools (r.raise.bump.clear).cnt) :: .cells a3 38 (stamps (r.raise.bump.clear).held) :: .cells a4 28 (cmdsC (r.raise.bump.clear).cms) :: F) w' := by
  refine calls_ce (args := [.pointer (some ⟨h, 0, none⟩)]) Try.func26 rfl rfl ?_
  change CE _ _ 60 _ _ [(0, .pointer (some ⟨h, 0, none⟩))] _
  refine ce_seq ?_
  refine ce_text (tab := []) (soft := 1) (.op 0 .nil) rfl rfl ?_
  refine re_assign rfl rfl rfl rfl rfl ?_
  refine re_nil ?_
  refine qe_thenC ?_
  refine ce_seq ?_
  refine ce_seq ?_
  refine ce_text (tab := []) (soft := 4095) (.op 0 (.op 1 (.op 2 (.op 3 (.op 4 (.op 5 (.op 6 (.op 7 (.op 8 (.op 9 (.op 10 (.op 11 .nil)))))))))))) rfl rfl ?_
  refine re_move rfl rfl rfl rfl rfl ?_
  refine re_nilc rfl rfl rfl rfl rfl ?_
  first | refine re_field0 rfl rfl rfl rfl rfl fo_54_9 ?_ | refine re_field rfl rfl rfl rfl rfl fo_54_9 ?_ | refine re_fieldA rfl rfl rfl rfl rfl fo_54_9 ?_
  refine re_load H rfl rfl rfl rfl rfl sh_3 rfl ?_
  refine re_bin rfl rfl rfl rfl rfl rfl rfl ?_
  refine re_move rfl rfl rfl rfl rfl ?_
  refine re_split (fun hg1_5 => ?_) (fun hg1_5 => ?_)
  ·
    refine re_move rfl rfl rfl rfl rfl ?_
    refine re_nilc rfl rfl rfl rfl rfl ?_
    first | refine re_field0 rfl rfl rfl rfl rfl fo_54_9 ?_ | refine re_field rfl rfl rfl rfl rfl fo_54_9 ?_ | refine re_fieldA rfl rfl rfl rfl rfl fo_54_9 ?_
    refine re_load H rfl rfl rfl rfl rfl sh_3 rfl ?_
    refine re_bin rfl rfl rfl rfl rfl rfl rfl ?_
    refine re_pickT rfl rfl rfl rfl rfl rfl ?_
    refine re_nil ?_
    refine qe_thenC ?_
    refine ce_cond rfl (fun h0 => ?_) (fun h0 => ?_)
    · try simp only [zn1, zn2, zn3, zn4, zn5, zn6] at h0
      simp_all <;> omega
    · try simp only [zn1, zn2, zn3, zn4, zn5, zn6] at h0
      refine ce_skip ?_
      refine qe_thenC ?_
      refine ce_seq ?_
      refine ce_seq ?_
      refine ce_text (tab := []) (soft := 31) (.op 0 (.op 1 (.op 2 (.op 3 (.op 4 .nil))))) rfl rfl ?_
      refine re_move rfl rfl rfl rfl rfl ?_
      refine re_nilc rfl rfl rfl rfl rfl ?_
      first | refine re_field0 rfl rfl rfl rfl rfl fo_54_14 ?_ | refine re_field rfl rfl rfl rfl rfl fo_54_14 ?_ | refine re_fieldA rfl rfl rfl rfl rfl fo_54_14 ?_
      refine re_load H rfl rfl rfl rfl rfl sh_4 rfl ?_
      simp only [hk]
      refine re_not rfl rfl rfl rfl rfl ?_
      refine re_nil ?_
      refine qe_thenC ?_
      refine ce_condF rfl ?_
      refine ce_skip ?_
      refine qe_thenC ?_
      refine ce_seq ?_
      refine ce_seq ?_
      refine ce_text (tab := []) (soft := 4095) (.op 0 (.op 1 (.op 2 (.op 3 (.op 4 (.op 5 (.op 6 (.op 7 (.op 8 (.op 9 (.op 10 (.op 11 .nil)))))))))))) rfl rfl ?_
      refine re_move rfl rfl rfl rfl rfl ?_
      refine re_nilc rfl rfl rfl rfl rfl ?_
      first | refine re_field0 rfl rfl rfl rfl rfl fo_54_8 ?_ | refine re_field rfl rfl rfl rfl rfl fo_54_8 ?_ | refine re_fieldA rfl rfl rfl rfl rfl fo_54_8 ?_
      refine re_load H rfl rfl rfl rfl rfl sh_3 rfl ?_
      refine re_bin rfl rfl rfl rfl rfl rfl rfl ?_
      refine re_move rfl rfl rfl rfl rfl ?_
      refine re_split (fun hg5_5 => ?_) (fun hg5_5 => ?_)
      ·
        refine re_skip1 rfl rfl rfl ?_
        refine re_skip1 rfl rfl rfl ?_
        refine re_skip1 rfl rfl rfl ?_
        refine re_skip1 rfl rfl rfl ?_
        refine re_skip1 rfl rfl rfl ?_
        refine re_pickT rfl rfl rfl rfl rfl rfl ?_
        refine re_nil ?_
        refine qe_thenC ?_
        refine ce_cond rfl (fun h2 => ?_) (fun h2 => ?_)
        · try simp only [zn1, zn2, zn3, zn4, zn5, zn6] at h2
          simp_all <;> omega
        · try simp only [zn1, zn2, zn3, zn4, zn5, zn6] at h2
          refine ce_skip ?_
          refine qe_thenC ?_
          refine ce_seq ?_
          refine ce_text (tab := []) (soft := 255) (.op 0 (.op 1 (.op 2 (.op 3 (.op 4 (.op 5 (.op 6 (.op 7 (.op 8 .nil))))))))) rfl rfl ?_
          refine re_move rfl rfl rfl rfl rfl ?_
          refine re_move rfl rfl rfl rfl rfl ?_
          refine re_nilc rfl rfl rfl rfl rfl ?_
          first | refine re_field0 rfl rfl rfl rfl rfl fo_54_8 ?_ | refine re_field rfl rfl rfl rfl rfl fo_54_8 ?_ | refine re_fieldA rfl rfl rfl rfl rfl fo_54_8 ?_
          refine re_load H rfl rfl rfl rfl rfl sh_3 rfl ?_
          first | refine re_add rfl rfl rfl rfl rfl rfl (by omega) ?_ | refine re_bin rfl rfl rfl rfl rfl rfl rfl ?_
          refine re_nilc rfl rfl rfl rfl rfl ?_
          first | refine re_field0 rfl rfl rfl rfl rfl fo_54_6 ?_ | refine re_field rfl rfl rfl rfl rfl fo_54_6 ?_ | refine re_fieldA rfl rfl rfl rfl rfl fo_54_6 ?_
          refine re_store H rfl rfl rfl rfl rfl rfl sh_3 rfl rfl rfl ?_
          intro cs w hcs H
          first | rw [setMany_whole rfl] at hcs | simp only [setMany, List.set_cons_zero, List.set_cons_succ, Nat.reduceAdd, Nat.zero_add, PS.cells, PS.over, GM.cells, Cmd.cells, List.cons_append, List.nil_append, RS.cellsV] at hcs
          subst hcs
          refine ⟨(fun h => (nomatch h)), ?_⟩
          refine re_nil ?_
          refine qe_thenC ?_
          refine ce_seq ?_
          refine ce_text (tab := []) (soft := 127) (.op 0 (.op 1 (.op 2 (.op 3 (.op 4 (.op 5 (.op 6 (.op 7 .nil)))))))) rfl rfl ?_
          refine re_move rfl rfl rfl rfl rfl ?_
          refine re_move rfl rfl rfl rfl rfl ?_
          refine re_nilc rfl rfl rfl rfl rfl ?_
          first | refine re_field0 rfl rfl rfl rfl rfl fo_54_6 ?_ | refine re_field rfl rfl rfl rfl rfl fo_54_6 ?_ | refine re_fieldA rfl rfl rfl rfl rfl fo_54_6 ?_
          refine re_load H rfl rfl rfl rfl rfl sh_3 rfl ?_
          refine re_nilc rfl rfl rfl rfl rfl ?_
          first | refine re_field0 rfl rfl rfl rfl rfl fo_54_8 ?_ | refine re_field rfl rfl rfl rfl rfl fo_54_8 ?_ | refine re_fieldA rfl rfl rfl rfl rfl fo_54_8 ?_
          refine re_store H rfl rfl rfl rfl rfl rfl sh_3 rfl rfl rfl ?_
          intro cs w hcs H
          first | rw [setMany_whole rfl] at hcs | simp only [setMany, List.set_cons_zero, List.set_cons_succ, Nat.reduceAdd, Nat.zero_add, PS.cells, PS.over, GM.cells, Cmd.cells, List.cons_append, List.nil_append, RS.cellsV] at hcs
          subst hcs
          refine ⟨(fun h => (nomatch h)), ?_⟩
          refine re_nil ?_
          refine qe_thenC ?_
          refine ce_seq ?_
          refine ce_text (tab := []) (soft := 7) (.op 0 (.op 1 (.op 2 (.op 3 .nil)))) rfl rfl ?_
          refine re_move rfl rfl rfl rfl rfl ?_
          refine re_nilc rfl rfl rfl rfl rfl ?_
          first | refine re_field0 rfl rfl rfl rfl rfl fo_54_9 ?_ | refine re_field rfl rfl rfl rfl rfl fo_54_9 ?_ | refine re_fieldA rfl rfl rfl rfl rfl fo_54_9 ?_
          refine re_store H rfl rfl rfl rfl rfl rfl sh_3 rfl rfl rfl ?_
          intro cs w hcs H
          first | rw [setMany_whole rfl] at hcs | simp only [setMany, List.set_cons_zero, List.set_cons_succ, Nat.reduceAdd, Nat.zero_add, PS.cells, PS.over, GM.cells, Cmd.cells, List.cons_append, List.nil_append, RS.cellsV] at hcs
          subst hcs
          refine ⟨(fun h => (nomatch h)), ?_⟩
          refine re_nil ?_
          refine qe_thenC ?_
          refine ce_seq ?_
          refine ce_text (tab := []) (soft := 5) (.op 0 (.op 1 (.op 2 .nil))) rfl rfl ?_
          refine re_move rfl rfl rfl rfl rfl ?_
          refine re_call en_55 rfl rfl rfl rfl rfl ?_
          refine Calls.mono (next_r (r := r.raise) H hn (by show r.rnd < _; omega) (by show -1 ≤ r.rnd; omega)) ?_
          rintro e w ⟨b1, b2, b3, b4, a, c, rfl, H⟩
          refine ⟨_, rfl, (fun h => (nomatch h)), ?_⟩
          refine re_assign rfl rfl rfl rfl rfl ?_
          refine re_nil ?_
          refine qe_thenC ?_
          refine ce_ret ?_
          refine qe_end rfl rfl ?_
          exact ⟨b1, b2, b3, b4, a, c, rfl, H⟩
      ·
        refine re_move rfl rfl rfl rfl rfl ?_
        refine re_nilc rfl rfl rfl rfl rfl ?_
        first | refine re_field0 rfl rfl rfl rfl rfl fo_54_7 ?_ | refine re_field rfl rfl rfl rfl rfl fo_54_7 ?_ | refine re_fieldA rfl rfl rfl rfl rfl fo_54_7 ?_
        refine re_load H rfl rfl rfl rfl rfl sh_3 rfl ?_
        refine re_bin rfl rfl rfl rfl rfl rfl rfl ?_
        refine re_pickF rfl rfl rfl rfl rfl rfl ?_
        refine re_nil ?_
        refine qe_thenC ?_
        refine ce_cond rfl (fun h2 => ?_) (fun h2 => ?_)
        · try simp only [zn1, zn2, zn3, zn4, zn5, zn6] at h2
          simp_all <;> omega
        · try simp only [zn1, zn2, zn3, zn4, zn5, zn6] at h2
          refine ce_skip ?_
          refine qe_thenC ?_
          refine ce_seq ?_
          refine ce_text (tab := []) (soft := 255) (.op 0 (.op 1 (.op 2 (.op 3 (.op 4 (.op 5 (.op 6 (.op 7 (.op 8 .nil))))))))) rfl rfl ?_
          refine re_move rfl rfl rfl rfl rfl ?_
          refine re_move rfl rfl rfl rfl rfl ?_
          refine re_nilc rfl rfl rfl rfl rfl ?_
          first | refine re_field0 rfl rfl rfl rfl rfl fo_54_8 ?_ | refine re_field rfl rfl rfl rfl rfl fo_54_8 ?_ | refine re_fieldA rfl rfl rfl rfl rfl fo_54_8 ?_
          refine re_load H rfl rfl rfl rfl rfl sh_3 rfl ?_
          first | refine re_add rfl rfl rfl rfl rfl rfl (by omega) ?_ | refine re_bin rfl rfl rfl rfl rfl rfl rfl ?_
          refine re_nilc rfl rfl rfl rfl rfl ?_
          first | refine re_field0 rfl rfl rfl rfl rfl fo_54_6 ?_ | refine re_field rfl rfl rfl rfl rfl fo_54_6 ?_ | refine re_fieldA rfl rfl rfl rfl rfl fo_54_6 ?_
          refine re_store H rfl rfl rfl rfl rfl rfl sh_3 rfl rfl rfl ?_
          intro cs w hcs H
          first | rw [setMany_whole rfl] at hcs | simp only [setMany, List.set_cons_zero, List.set_cons_succ, Nat.reduceAdd, Nat.zero_add, PS.cells, PS.over, GM.cells, Cmd.cells, List.cons_append, List.nil_append, RS.cellsV] at hcs
          subst hcs
          refine ⟨(fun h => (nomatch h)), ?_⟩
          refine re_nil ?_
          refine qe_thenC ?_
          refine ce_seq ?_
          refine ce_text (tab := []) (soft := 127) (.op 0 (.op 1 (.op 2 (.op 3 (.op 4 (.op 5 (.op 6 (.op 7 .nil)))))))) rfl rfl ?_
          refine re_move rfl rfl rfl rfl rfl ?_
          refine re_move rfl rfl rfl rfl rfl ?_
          refine re_nilc rfl rfl rfl rfl rfl ?_
          first | refine re_field0 rfl rfl rfl rfl rfl fo_54_6 ?_ | refine re_field rfl rfl rfl rfl rfl fo_54_6 ?_ | refine re_fieldA rfl rfl rfl rfl rfl fo_54_6 ?_
          refine re_load H rfl rfl rfl rfl rfl sh_3 rfl ?_
          refine re_nilc rfl rfl rfl rfl rfl ?_
          first | refine re_field0 rfl rfl rfl rfl rfl fo_54_8 ?_ | refine re_field rfl rfl rfl rfl rfl fo_54_8 ?_ | refine re_fieldA rfl rfl rfl rfl rfl fo_54_8 ?_
          refine re_store H rfl rfl rfl rfl rfl rfl sh_3 rfl rfl rfl ?_
          intro cs w hcs H
          first | rw [setMany_whole rfl] at hcs | simp only [setMany, List.set_cons_zero, List.set_cons_succ, Nat.reduceAdd, Nat.zero_add, PS.cells, PS.over, GM.cells, Cmd.cells, List.cons_append, List.nil_append, RS.cellsV] at hcs
          subst hcs
          refine ⟨(fun h => (nomatch h)), ?_⟩
          refine re_nil ?_
          refine qe_thenC ?_
          refine ce_seq ?_
          refine ce_text (tab := []) (soft := 7) (.op 0 (.op 1 (.op 2 (.op 3 .nil)))) rfl rfl ?_
          refine re_move rfl rfl rfl rfl rfl ?_
          refine re_nilc rfl rfl rfl rfl rfl ?_
          first | refine re_field0 rfl rfl rfl rfl rfl fo_54_9 ?_ | refine re_field rfl rfl rfl rfl rfl fo_54_9 ?_ | refine re_fieldA rfl rfl rfl rfl rfl fo_54_9 ?_
          refine re_store H rfl rfl rfl rfl rfl rfl sh_3 rfl rfl rfl ?_
          intro cs w hcs H
          first | rw [setMany_whole rfl] at hcs | simp only [setMany, List.set_cons_zero, List.set_cons_succ, Nat.reduceAdd, Nat.zero_add, PS.cells, PS.over, GM.cells, Cmd.cells, List.cons_append, List.nil_append, RS.cellsV] at hcs
          subst hcs
          refine ⟨(fun h => (nomatch h)), ?_⟩
          refine re_nil ?_
          refine qe_thenC ?_
          refine ce_seq ?_
          refine ce_text (tab := []) (soft := 5) (.op 0 (.op 1 (.op 2 .nil))) rfl rfl ?_
          refine re_move rfl rfl rfl rfl rfl ?_
          refine re_call en_55 rfl rfl rfl rfl rfl ?_
          refine Calls.mono (next_r (r := r.raise) H hn (by show r.rnd < _; omega) (by show -1 ≤ r.rnd; omega)) ?_
          rintro e w ⟨b1, b2, b3, b4, a, c, rfl, H⟩
          refine ⟨_, rfl, (fun h => (nomatch h)), ?_⟩
          refine re_assign rfl rfl rfl rfl rfl ?_
          refine re_nil ?_
          refine qe_thenC ?_
          refine ce_ret ?_
          refine qe_end rfl rfl ?_
          exact ⟨b1, b2, b3, b4, a, c, rfl, H⟩
  ·
    refine re_skip1 rfl rfl rfl ?_
    refine re_skip1 rfl rfl rfl ?_
    refine re_skip1 rfl rfl rfl ?_
    refine re_skip1 rfl rfl rfl ?_
    refine re_skip1 rfl rfl rfl ?_
    refine re_pickF rfl rfl rfl rfl rfl rfl ?_
    refine re_nil ?_
    refine qe_thenC ?_
    refine ce_cond rfl (fun h0 => ?_) (fun h0 => ?_)
    · try simp only [zn1, zn2, zn3, zn4, zn5, zn6] at h0
      simp_all <;> omega
    · try simp only [zn1, zn2, zn3, zn4, zn5, zn6] at h0
      refine ce_skip ?_
      refine qe_thenC ?_
      refine ce_seq ?_
      refine ce_seq ?_
      refine ce_text (tab := []) (soft := 31) (.op 0 (.op 1 (.op 2 (.op 3 (.op 4 .nil))))) rfl rfl ?_
      refine re_move rfl rfl rfl rfl rfl ?_
      refine re_nilc rfl rfl rfl rfl rfl ?_
      first | refine re_field0 rfl rfl rfl rfl rfl fo_54_14 ?_ | refine re_field rfl rfl rfl rfl rfl fo_54_14 ?_ | refine re_fieldA rfl rfl rfl rfl rfl fo_54_14 ?_
      refine re_load H rfl rfl rfl rfl rfl sh_4 rfl ?_
      simp only [hk]
      refine re_not rfl rfl rfl rfl rfl ?_
      refine re_nil ?_
      refine qe_thenC ?_
      refine ce_condF rfl ?_
      refine ce_skip ?_
      refine qe_thenC ?_
      refine ce_seq ?_
      refine ce_seq ?_
      refine ce_text (tab := []) (soft := 4095) (.op 0 (.op 1 (.op 2 (.op 3 (.op 4 (.op 5 (.op 6 (.op 7 (.op 8 (.op 9 (.op 10 (.op 11 .nil)))))))))))) rfl rfl ?_
      refine re_move rfl rfl rfl rfl rfl ?_
      refine re_nilc rfl rfl rfl rfl rfl ?_
      first | refine re_field0 rfl rfl rfl rfl rfl fo_54_8 ?_ | refine re_field rfl rfl rfl rfl rfl fo_54_8 ?_ | refine re_fieldA rfl rfl rfl rfl rfl fo_54_8 ?_
      refine re_load H rfl rfl rfl rfl rfl sh_3 rfl ?_
      refine re_bin rfl rfl rfl rfl rfl rfl rfl ?_
      refine re_move rfl rfl rfl rfl rfl ?_
      refine re_split (fun hg5_5 => ?_) (fun hg5_5 => ?_)
      ·
        refine re_skip1 rfl rfl rfl ?_
        refine re_skip1 rfl rfl rfl ?_
        refine re_skip1 rfl rfl rfl ?_
        refine re_skip1 rfl rfl rfl ?_
        refine re_skip1 rfl rfl rfl ?_
        refine re_pickT rfl rfl rfl rfl rfl rfl ?_
        refine re_nil ?_
        refine qe_thenC ?_
        refine ce_cond rfl (fun h2 => ?_) (fun h2 => ?_)
        · try simp only [zn1, zn2, zn3, zn4, zn5, zn6] at h2
          simp_all <;> omega
        · try simp only [zn1, zn2, zn3, zn4, zn5, zn6] at h2
          refine ce_skip ?_
          refine qe_thenC ?_
          refine ce_seq ?_
          refine ce_text (tab := []) (soft := 255) (.op 0 (.op 1 (.op 2 (.op 3 (.op 4 (.op 5 (.op 6 (.op 7 (.op 8 .nil))))))))) rfl rfl ?_
          refine re_move rfl rfl rfl rfl rfl ?_
          refine re_move rfl rfl rfl rfl rfl ?_
          refine re_nilc rfl rfl rfl rfl rfl ?_
          first | refine re_field0 rfl rfl rfl rfl rfl fo_54_8 ?_ | refine re_field rfl rfl rfl rfl rfl fo_54_8 ?_ | refine re_fieldA rfl rfl rfl rfl rfl fo_54_8 ?_
          refine re_load H rfl rfl rfl rfl rfl sh_3 rfl ?_
          first | refine re_add rfl rfl rfl rfl rfl rfl (by omega) ?_ | refine re_bin rfl rfl rfl rfl rfl rfl rfl ?_
          refine re_nilc rfl rfl rfl rfl rfl ?_
          first | refine re_field0 rfl rfl rfl rfl rfl fo_54_6 ?_ | refine re_field rfl rfl rfl rfl rfl fo_54_6 ?_ | refine re_fieldA rfl rfl rfl rfl rfl fo_54_6 ?_
          refine re_store H rfl rfl rfl rfl rfl rfl sh_3 rfl rfl rfl ?_
          intro cs w hcs H
          first | rw [setMany_whole rfl] at hcs | simp only [setMany, List.set_cons_zero, List.set_cons_succ, Nat.reduceAdd, Nat.zero_add, PS.cells, PS.over, GM.cells, Cmd.cells, List.cons_append, List.nil_append, RS.cellsV] at hcs
          subst hcs
          refine ⟨(fun h => (nomatch h)), ?_⟩
          refine re_nil ?_
          refine qe_thenC ?_
          refine ce_seq ?_
          refine ce_text (tab := []) (soft := 127) (.op 0 (.op 1 (.op 2 (.op 3 (.op 4 (.op 5 (.op 6 (.op 7 .nil)))))))) rfl rfl ?_
          refine re_move rfl rfl rfl rfl rfl ?_
          refine re_move rfl rfl rfl rfl rfl ?_
          refine re_nilc rfl rfl rfl rfl rfl ?_
          first | refine re_field0 rfl rfl rfl rfl rfl fo_54_6 ?_ | refine re_field rfl rfl rfl rfl rfl fo_54_6 ?_ | refine re_fieldA rfl rfl rfl rfl rfl fo_54_6 ?_
          refine re_load H rfl rfl rfl rfl rfl sh_3 rfl ?_
          refine re_nilc rfl rfl rfl rfl rfl ?_
          first | refine re_field0 rfl rfl rfl rfl rfl fo_54_8 ?_ | refine re_field rfl rfl rfl rfl rfl fo_54_8 ?_ | refine re_fieldA rfl rfl rfl rfl rfl fo_54_8 ?_
          refine re_store H rfl rfl rfl rfl rfl rfl sh_3 rfl rfl rfl ?_
          intro cs w hcs H
          first | rw [setMany_whole rfl] at hcs | simp only [setMany, List.set_cons_zero, List.set_cons_succ, Nat.reduceAdd, Nat.zero_add, PS.cells, PS.over, GM.cells, Cmd.cells, List.cons_append, List.nil_append, RS.cellsV] at hcs
          subst hcs
          refine ⟨(fun h => (nomatch h)), ?_⟩
          refine re_nil ?_
          refine qe_thenC ?_
          refine ce_seq ?_
          refine ce_text (tab := []) (soft := 7) (.op 0 (.op 1 (.op 2 (.op 3 .nil)))) rfl rfl ?_
          refine re_move rfl rfl rfl rfl rfl ?_
          refine re_nilc rfl rfl rfl rfl rfl ?_
          first | refine re_field0 rfl rfl rfl rfl rfl fo_54_9 ?_ | refine re_field rfl rfl rfl rfl rfl fo_54_9 ?_ | refine re_fieldA rfl rfl rfl rfl rfl fo_54_9 ?_
          refine re_store H rfl rfl rfl rfl rfl rfl sh_3 rfl rfl rfl ?_
          intro cs w hcs H
          first | rw [setMany_whole rfl] at hcs | simp only [setMany, List.set_cons_zero, List.set_cons_succ, Nat.reduceAdd, Nat.zero_add, PS.cells, PS.over, GM.cells, Cmd.cells, List.cons_append, List.nil_append, RS.cellsV] at hcs
          subst hcs
          refine ⟨(fun h => (nomatch h)), ?_⟩
          refine re_nil ?_
          refine qe_thenC ?_
          refine ce_seq ?_
          refine ce_text (tab := []) (soft := 5) (.op 0 (.op 1 (.op 2 .nil))) rfl rfl ?_
          refine re_move rfl rfl rfl rfl rfl ?_
          refine re_call en_55 rfl rfl rfl rfl rfl ?_
          refine Calls.mono (next_r (r := r.raise) H hn (by show r.rnd < _; omega) (by show -1 ≤ r.rnd; omega)) ?_
          rintro e w ⟨b1, b2, b3, b4, a, c, rfl, H⟩
          refine ⟨_, rfl, (fun h => (nomatch h)), ?_⟩
          refine re_assign rfl rfl rfl rfl rfl ?_
          refine re_nil ?_
          refine qe_thenC ?_
          refine ce_ret ?_
          refine qe_end rfl rfl ?_
          exact ⟨b1, b2, b3, b4, a, c, rfl, H⟩
      ·
        refine re_move rfl rfl rfl rfl rfl ?_
        refine re_nilc rfl rfl rfl rfl rfl ?_
        first | refine re_field0 rfl rfl rfl rfl rfl fo_54_7 ?_ | refine re_field rfl rfl rfl rfl rfl fo_54_7 ?_ | refine re_fieldA rfl rfl rfl rfl rfl fo_54_7 ?_
        refine re_load H rfl rfl rfl rfl rfl sh_3 rfl ?_
        refine re_bin rfl rfl rfl rfl rfl rfl rfl ?_
        refine re_pickF rfl rfl rfl rfl rfl rfl ?_
        refine re_nil ?_
        refine qe_thenC ?_
        refine ce_cond rfl (fun h2 => ?_) (fun h2 => ?_)
        · try simp only [zn1, zn2, zn3, zn4, zn5, zn6] at h2
          simp_all <;> omega
        · try simp only [zn1, zn2, zn3, zn4, zn5, zn6] at h2
          refine ce_skip ?_
          refine qe_thenC ?_
          refine ce_seq ?_
          refine ce_text (tab := []) (soft := 255) (.op 0 (.op 1 (.op 2 (.op 3 (.op 4 (.op 5 (.op 6 (.op 7 (.op 8 .nil))))))))) rfl rfl ?_
          refine re_move rfl rfl rfl rfl rfl ?_
          refine re_move rfl rfl rfl rfl rfl ?_
          refine re_nilc rfl rfl rfl rfl rfl ?_
          first | refine re_field0 rfl rfl rfl rfl rfl fo_54_8 ?_ | refine re_field rfl rfl rfl rfl rfl fo_54_8 ?_ | refine re_fieldA rfl rfl rfl rfl rfl fo_54_8 ?_
          refine re_load H rfl rfl rfl rfl rfl sh_3 rfl ?_
          first | refine re_add rfl rfl rfl rfl rfl rfl (by omega) ?_ | refine re_bin rfl rfl rfl rfl rfl rfl rfl ?_
          refine re_nilc rfl rfl rfl rfl rfl ?_
          first | refine re_field0 rfl rfl rfl rfl rfl fo_54_6 ?_ | refine re_field rfl rfl rfl rfl rfl fo_54_6 ?_ | refine re_fieldA rfl rfl rfl rfl rfl fo_54_6 ?_
          refine re_store H rfl rfl rfl rfl rfl rfl sh_3 rfl rfl rfl ?_
          intro cs w hcs H
          first | rw [setMany_whole rfl] at hcs | simp only [setMany, List.set_cons_zero, List.set_cons_succ, Nat.reduceAdd, Nat.zero_add, PS.cells, PS.over, GM.cells, Cmd.cells, List.cons_append, List.nil_append, RS.cellsV] at hcs
          subst hcs
          refine ⟨(fun h => (nomatch h)), ?_⟩
          refine re_nil ?_
          refine qe_thenC ?_
          refine ce_seq ?_
          refine ce_text (tab := []) (soft := 127) (.op 0 (.op 1 (.op 2 (.op 3 (.op 4 (.op 5 (.op 6 (.op 7 .nil)))))))) rfl rfl ?_
          refine re_move rfl rfl rfl rfl rfl ?_
          refine re_move rfl rfl rfl rfl rfl ?_
          refine re_nilc rfl rfl rfl rfl rfl ?_
          first | refine re_field0 rfl rfl rfl rfl rfl fo_54_6 ?_ | refine re_field rfl rfl rfl rfl rfl fo_54_6 ?_ | refine re_fieldA rfl rfl rfl rfl rfl fo_54_6 ?_
          refine re_load H rfl rfl rfl rfl rfl sh_3 rfl ?_
          refine re_nilc rfl rfl rfl rfl rfl ?_
          first | refine re_field0 rfl rfl rfl rfl rfl fo_54_8 ?_ | refine re_field rfl rfl rfl rfl rfl fo_54_8 ?_ | refine re_fieldA rfl rfl rfl rfl rfl fo_54_8 ?_
          refine re_store H rfl rfl rfl rfl rfl rfl sh_3 rfl rfl rfl ?_
          intro cs w hcs H
          first | rw [setMany_whole rfl] at hcs | simp only [setMany, List.set_cons_zero, List.set_cons_succ, Nat.reduceAdd, Nat.zero_add, PS.cells, PS.over, GM.cells, Cmd.cells, List.cons_append, List.nil_append, RS.cellsV] at hcs
          subst hcs
          refine ⟨(fun h => (nomatch h)), ?_⟩
          refine re_nil ?_
          refine qe_thenC ?_
          refine ce_seq ?_
          refine ce_text (tab := []) (soft := 7) (.op 0 (.op 1 (.op 2 (.op 3 .nil)))) rfl rfl ?_
          refine re_move rfl rfl rfl rfl rfl ?_
          refine re_nilc rfl rfl rfl rfl rfl ?_
          first | refine re_field0 rfl rfl rfl rfl rfl fo_54_9 ?_ | refine re_field rfl rfl rfl rfl rfl fo_54_9 ?_ | refine re_fieldA rfl rfl rfl rfl rfl fo_54_9 ?_
          refine re_store H rfl rfl rfl rfl rfl rfl sh_3 rfl rfl rfl ?_
          intro cs w hcs H
          first | rw [setMany_whole rfl] at hcs | simp only [setMany, List.set_cons_zero, List.set_cons_succ, Nat.reduceAdd, Nat.zero_add, PS.cells, PS.over, GM.cells, Cmd.cells, List.cons_append, List.nil_append, RS.cellsV] at hcs
          subst hcs
          refine ⟨(fun h => (nomatch h)), ?_⟩
          refine re_nil ?_
          refine qe_thenC ?_
          refine ce_seq ?_
          refine ce_text (tab := []) (soft := 5) (.op 0 (.op 1 (.op 2 .nil))) rfl rfl ?_
          refine re_move rfl rfl rfl rfl rfl ?_
          refine re_call en_55 rfl rfl rfl rfl rfl ?_
          refine Calls.mono (next_r (r := r.raise) H hn (by show r.rnd < _; omega) (by show -1 ≤ r.rnd; omega)) ?_
          rintro e w ⟨b1, b2, b3, b4, a, c, rfl, H⟩
          refine ⟨_, rfl, (fun h => (nomatch h)), ?_⟩
          refine re_assign rfl rfl rfl rfl rfl ?_
          refine re_nil ?_
          refine qe_thenC ?_
          refine ce_ret ?_
          refine qe_end rfl rfl ?_
          exact ⟨b1, b2, b3, b4, a, c, rfl, H⟩

theorem place_r {B w : World} {F : List Ent} {h a1 a2 a3 a4 : Nat} {r : RS} {m : GM} (H : Own B (.cells h 54 (r.cellsV (slv (some a1) r.gs.length r.gs.length) (slv (some a2) r.gs.length r.gs.length) (slv (some a3) r.gs.length r.gs.length) (slv (some a4) r.gs.length r.gs.length)) :: .row r.ga r.gc 3 1 r.gs.length (ints r.gs) :: .cells a1 4 (bools r.ans) :: .cells a2 4 (bools r.cnt) :: .cells a3 38 (stamps r.held) :: .cells a4 28 (cmdsC r.cms) :: F) w) (hn : r.gs.length ≤ 1000000) :
    Calls Try.prog 58 #[.pointer (some ⟨h, 0, none⟩), .agg m.cells.toArray] w fun e w' => e = .returned (.int .i64 (if r.foreign m then -1 else idxOf m.fi r.gs)) ∧ Own B (.cells h 54 (r.cellsV (slv (some a1) r.gs.length r.gs.length) (slv (some a2) r.gs.length r.gs.length) (slv (some a3) r.gs.length r.gs.length) (slv (some a4) r.gs.length r.gs.length)) :: .row r.ga r.gc 3 1 r.gs.length (ints r.gs) :: .cells a1 4 (bools r.ans) :: .cells a2 4 (bools r.cnt) :: .cells a3 38 (stamps r.held) :: .cells a4 28 (cmdsC r.cms) :: F) w' := by
  refine calls_ce (args := [.pointer (some ⟨h, 0, none⟩), .agg m.cells.toArray]) Try.func58 rfl rfl ?_
  change CE _ _ 87 _ _ [(0, .pointer (some ⟨h, 0, none⟩)), (1, .agg m.cells.toArray)] _
  refine ce_seq ?_
  refine ce_text (tab := []) (soft := 2) (.op 0 (.op 1 .nil)) rfl rfl ?_
  refine re_box H rfl rfl rfl rfl rfl rfl ?_
  intro g3 w H
  refine ⟨(fun h => (nomatch h)), ?_⟩
  refine re_assign rfl rfl rfl rfl rfl ?_
  refine re_nil ?_
  refine qe_thenC ?_
  refine ce_seq ?_
  refine ce_seq ?_
  refine ce_open (tab := [0, 1, 3, 7, 15, 31, 63, 127, 255, 511, 1023, 2047, 4095, 8191, 16383, 32767, 65535, 131071, 262143, 524287, 1048575, 2097151, 4194303, 8388607, 16777215, 33554431, 67108863, 16777215, 150994943, 419430399, 956301311, 2147483647, 4294967295, 8589934591, 17179869183, 34359738367, 17179869183, 85899345919, 223338299391, 498216206335, 1099511627775, 2199023255551, 4398046511103, 8796093022207, 17592186044415, 8796093022207, 43980465111039, 114349209288703, 255086697644031, 562949953421311, 1125899906842623, 2251799813685247, 4503599627370495, 9007199254740991, 4503599627370495, 22517998136852479, 58546795155816447, 130604389193744383, 288230376151711743, 576460752303423487]) (soft := 1152921504606846975) mixed (.op 0 (.op 1 (.op 2 (.op 3 (.op 4 (.op 5 (.op 6 (.op 7 (.op 8 (.op 9 (.op 10 (.op 11 (.op 12 (.op 13 (.op 14 (.op 15 (.op 16 (.op 17 (.op 18 (.op 19 (.op 20 (.op 21 (.op 22 (.op 23 (.op 24 (.op 25 (.op 26 (.op 27 (.op 28 (.op 29 (.op 30 (.op 31 (.op 32 (.op 33 (.op 34 (.op 35 (.op 36 (.op 37 (.op 38 (.op 39 (.op 40 (.op 41 (.op 42 (.op 43 (.op 44 (.op 45 (.op 46 (.op 47 (.op 48 (.op 49 (.op 50 (.op 51 (.op 52 (.op 53 (.op 54 (.op 55 (.op 56 (.op 57 (.op 58 (.op 59 .nil)))))))))))))))))))))))))))))))))))))))))))))))))))))))))))) (by kernel_rfl) H ?_
  intro w H
  refine re_move rfl rfl rfl rfl rfl ?_
  refine re_nilc rfl rfl rfl rfl rfl ?_
  first | refine re_field0 rfl rfl rfl rfl rfl fo_54_9 ?_ | refine re_field rfl rfl rfl rfl rfl fo_54_9 ?_ | refine re_fieldA rfl rfl rfl rfl rfl fo_54_9 ?_
  refine re_load H rfl rfl rfl rfl rfl sh_3 rfl ?_
  refine re_bin rfl rfl rfl rfl rfl rfl rfl ?_
  refine re_move rfl rfl rfl rfl rfl ?_
  refine re_split (fun hg1_5 => ?_) (fun hg1_5 => ?_)
  ·
    refine re_move rfl rfl rfl rfl rfl ?_
    refine re_nilc rfl rfl rfl rfl rfl ?_
    first | refine re_field0 rfl rfl rfl rfl rfl fo_54_9 ?_ | refine re_field rfl rfl rfl rfl rfl fo_54_9 ?_ | refine re_fieldA rfl rfl rfl rfl rfl fo_54_9 ?_
    refine re_load H rfl rfl rfl rfl rfl sh_3 rfl ?_
    refine re_bin rfl rfl rfl rfl rfl rfl rfl ?_
    refine re_pickT rfl rfl rfl rfl rfl rfl ?_
    refine re_move rfl rfl rfl rfl rfl ?_
    refine re_split (fun hg1_12 => ?_) (fun hg1_12 => ?_)
    ·
      refine re_skip1 rfl rfl rfl ?_
      refine re_skip1 rfl rfl rfl ?_
      refine re_skip1 rfl rfl rfl ?_
      refine re_pickT rfl rfl rfl rfl rfl rfl ?_
      refine re_move rfl rfl rfl rfl rfl ?_
      refine re_skip1 rfl rfl rfl ?_
      refine re_skip1 rfl rfl rfl ?_
      refine re_skip1 rfl rfl rfl ?_
      refine re_skip1 rfl rfl rfl ?_
      refine re_pickT rfl rfl rfl rfl rfl rfl ?_
      refine re_move rfl rfl rfl rfl rfl ?_
      refine re_skip1 rfl rfl rfl ?_
      refine re_skip1 rfl rfl rfl ?_
      refine re_skip1 rfl rfl rfl ?_
      refine re_skip1 rfl rfl rfl ?_
      refine re_skip1 rfl rfl rfl ?_
      refine re_skip1 rfl rfl rfl ?_
      refine re_skip1 rfl rfl rfl ?_
      refine re_skip1 rfl rfl rfl ?_
      refine re_pickT rfl rfl rfl rfl rfl rfl ?_
      refine re_move rfl rfl rfl rfl rfl ?_
      refine re_skip1 rfl rfl rfl ?_
      refine re_skip1 rfl rfl rfl ?_
      refine re_skip1 rfl rfl rfl ?_
      refine re_skip1 rfl rfl rfl ?_
      refine re_skip1 rfl rfl rfl ?_
      refine re_skip1 rfl rfl rfl ?_
      refine re_skip1 rfl rfl rfl ?_
      refine re_pickT rfl rfl rfl rfl rfl rfl ?_
      refine re_move rfl rfl rfl rfl rfl ?_
      refine re_skip1 rfl rfl rfl ?_
      refine re_skip1 rfl rfl rfl ?_
      refine re_skip1 rfl rfl rfl ?_
      refine re_skip1 rfl rfl rfl ?_
      refine re_skip1 rfl rfl rfl ?_
      refine re_skip1 rfl rfl rfl ?_
      refine re_skip1 rfl rfl rfl ?_
      refine re_pickT rfl rfl rfl rfl rfl rfl ?_
      refine re_move rfl rfl rfl rfl rfl ?_
      refine re_skip1 rfl rfl rfl ?_
      refine re_skip1 rfl rfl rfl ?_
      refine re_skip1 rfl rfl rfl ?_
      refine re_skip1 rfl rfl rfl ?_
      refine re_skip1 rfl rfl rfl ?_
      refine re_skip1 rfl rfl rfl ?_
      refine re_skip1 rfl rfl rfl ?_
      refine re_pickT rfl rfl rfl rfl rfl rfl ?_
      refine re_nil ?_
      refine qe_noPanic ?_
      refine qe_thenC ?_
      refine ce_condT rfl ?_
      refine ce_seq ?_
      refine ce_text (tab := []) (soft := 1) (.op 0 .nil) rfl rfl ?_
      refine re_assign rfl rfl rfl rfl rfl ?_
      refine re_nil ?_
      refine qe_thenC ?_
      refine ce_ret ?_
      refine qe_then_ret ?_
      refine qe_end rfl rfl ?_
      have hf : r.foreign m = true := by simp only [RS.foreign, hg1_5, hg1_12, Bool.true_and, Bool.false_and, Bool.and_self, Bool.or_true, Bool.true_or, Bool.or_false, Bool.false_or, Bool.not_true, Bool.not_false, Bool.or_self]
      exact ⟨by rw [hf, if_pos rfl], H.tail⟩
    ·
      first | refine re_field0 rfl rfl rfl rfl rfl fo_46_1 ?_ | refine re_field rfl rfl rfl rfl rfl fo_46_1 ?_ | refine re_fieldA rfl rfl rfl rfl rfl fo_46_1 ?_
      first | refine re_field0 rfl rfl rfl rfl rfl fo_36_0 ?_ | refine re_field rfl rfl rfl rfl rfl fo_36_0 ?_ | refine re_fieldA rfl rfl rfl rfl rfl fo_36_0 ?_
      refine re_load H rfl rfl rfl rfl rfl sh_4 rfl ?_
      refine re_pickF rfl rfl rfl rfl rfl rfl ?_
      refine re_move rfl rfl rfl rfl rfl ?_
      refine re_split (fun hg1_17 => ?_) (fun hg1_17 => ?_)
      ·
        refine re_skip1 rfl rfl rfl ?_
        refine re_skip1 rfl rfl rfl ?_
        refine re_skip1 rfl rfl rfl ?_
        refine re_skip1 rfl rfl rfl ?_
        refine re_pickT rfl rfl rfl rfl rfl rfl ?_
        refine re_move rfl rfl rfl rfl rfl ?_
        refine re_skip1 rfl rfl rfl ?_
        refine re_skip1 rfl rfl rfl ?_
        refine re_skip1 rfl rfl rfl ?_
        refine re_skip1 rfl rfl rfl ?_
        refine re_skip1 rfl rfl rfl ?_
        refine re_skip1 rfl rfl rfl ?_
        refine re_skip1 rfl rfl rfl ?_
        refine re_skip1 rfl rfl rfl ?_
        refine re_pickT rfl rfl rfl rfl rfl rfl ?_
        refine re_move rfl rfl rfl rfl rfl ?_
        refine re_skip1 rfl rfl rfl ?_
        refine re_skip1 rfl rfl rfl ?_
        refine re_skip1 rfl rfl rfl ?_
        refine re_skip1 rfl rfl rfl ?_
        refine re_skip1 rfl rfl rfl ?_
        refine re_skip1 rfl rfl rfl ?_
        refine re_skip1 rfl rfl rfl ?_
        refine re_pickT rfl rfl rfl rfl rfl rfl ?_
        refine re_move rfl rfl rfl rfl rfl ?_
        refine re_skip1 rfl rfl rfl ?_
        refine re_skip1 rfl rfl rfl ?_
        refine re_skip1 rfl rfl rfl ?_
        refine re_skip1 rfl rfl rfl ?_
        refine re_skip1 rfl rfl rfl ?_
        refine re_skip1 rfl rfl rfl ?_
        refine re_skip1 rfl rfl rfl ?_
        refine re_pickT rfl rfl rfl rfl rfl rfl ?_
        refine re_move rfl rfl rfl rfl rfl ?_
        refine re_skip1 rfl rfl rfl ?_
        refine re_skip1 rfl rfl rfl ?_
        refine re_skip1 rfl rfl rfl ?_
        refine re_skip1 rfl rfl rfl ?_
        refine re_skip1 rfl rfl rfl ?_
        refine re_skip1 rfl rfl rfl ?_
        refine re_skip1 rfl rfl rfl ?_
        refine re_pickT rfl rfl rfl rfl rfl rfl ?_
        refine re_nil ?_
        refine qe_noPanic ?_
        refine qe_thenC ?_
        refine ce_condT rfl ?_
        refine ce_seq ?_
        refine ce_text (tab := []) (soft := 1) (.op 0 .nil) rfl rfl ?_
        refine re_assign rfl rfl rfl rfl rfl ?_
        refine re_nil ?_
        refine qe_thenC ?_
        refine ce_ret ?_
        refine qe_then_ret ?_
        refine qe_end rfl rfl ?_
        have hf : r.foreign m = true := by simp only [RS.foreign, hg1_5, hg1_12, hg1_17, Bool.true_and, Bool.false_and, Bool.and_self, Bool.or_true, Bool.true_or, Bool.or_false, Bool.false_or, Bool.not_true, Bool.not_false, Bool.or_self]
        exact ⟨by rw [hf, if_pos rfl], H.tail⟩
      ·
        first | refine re_field0 rfl rfl rfl rfl rfl fo_46_2 ?_ | refine re_field rfl rfl rfl rfl rfl fo_46_2 ?_ | refine re_fieldA rfl rfl rfl rfl rfl fo_46_2 ?_
        first | refine re_field0 rfl rfl rfl rfl rfl fo_36_0 ?_ | refine re_field rfl rfl rfl rfl rfl fo_36_0 ?_ | refine re_fieldA rfl rfl rfl rfl rfl fo_36_0 ?_
        refine re_load H rfl rfl rfl rfl rfl sh_4 rfl ?_
        refine re_not rfl rfl rfl rfl rfl ?_
        refine re_pickF rfl rfl rfl rfl rfl rfl ?_
        refine re_move rfl rfl rfl rfl rfl ?_
        refine re_split (fun hg1_23 => ?_) (fun hg1_23 => ?_)
        ·
          refine re_skip1 rfl rfl rfl ?_
          refine re_skip1 rfl rfl rfl ?_
          refine re_skip1 rfl rfl rfl ?_
          refine re_skip1 rfl rfl rfl ?_
          refine re_skip1 rfl rfl rfl ?_
          refine re_skip1 rfl rfl rfl ?_
          refine re_skip1 rfl rfl rfl ?_
          refine re_skip1 rfl rfl rfl ?_
          refine re_pickT rfl rfl rfl rfl rfl rfl ?_
          refine re_move rfl rfl rfl rfl rfl ?_
          refine re_skip1 rfl rfl rfl ?_
          refine re_skip1 rfl rfl rfl ?_
          refine re_skip1 rfl rfl rfl ?_
          refine re_skip1 rfl rfl rfl ?_
          refine re_skip1 rfl rfl rfl ?_
          refine re_skip1 rfl rfl rfl ?_
          refine re_skip1 rfl rfl rfl ?_
          refine re_pickT rfl rfl rfl rfl rfl rfl ?_
          refine re_move rfl rfl rfl rfl rfl ?_
          refine re_skip1 rfl rfl rfl ?_
          refine re_skip1 rfl rfl rfl ?_
          refine re_skip1 rfl rfl rfl ?_
          refine re_skip1 rfl rfl rfl ?_
          refine re_skip1 rfl rfl rfl ?_
          refine re_skip1 rfl rfl rfl ?_
          refine re_skip1 rfl rfl rfl ?_
          refine re_pickT rfl rfl rfl rfl rfl rfl ?_
          refine re_move rfl rfl rfl rfl rfl ?_
          refine re_skip1 rfl rfl rfl ?_
          refine re_skip1 rfl rfl rfl ?_
          refine re_skip1 rfl rfl rfl ?_
          refine re_skip1 rfl rfl rfl ?_
          refine re_skip1 rfl rfl rfl ?_
          refine re_skip1 rfl rfl rfl ?_
          refine re_skip1 rfl rfl rfl ?_
          refine re_pickT rfl rfl rfl rfl rfl rfl ?_
          refine re_nil ?_
          refine qe_noPanic ?_
          refine qe_thenC ?_
          refine ce_condT rfl ?_
          refine ce_seq ?_
          refine ce_text (tab := []) (soft := 1) (.op 0 .nil) rfl rfl ?_
          refine re_assign rfl rfl rfl rfl rfl ?_
          refine re_nil ?_
          refine qe_thenC ?_
          refine ce_ret ?_
          refine qe_then_ret ?_
          refine qe_end rfl rfl ?_
          have hf : r.foreign m = true := by simp only [RS.foreign, hg1_5, hg1_12, hg1_17, hg1_23, Bool.true_and, Bool.false_and, Bool.and_self, Bool.or_true, Bool.true_or, Bool.or_false, Bool.false_or, Bool.not_true, Bool.not_false, Bool.or_self]
          exact ⟨by rw [hf, if_pos rfl], H.tail⟩
        ·
          first | refine re_field0 rfl rfl rfl rfl rfl fo_46_2 ?_ | refine re_field rfl rfl rfl rfl rfl fo_46_2 ?_ | refine re_fieldA rfl rfl rfl rfl rfl fo_46_2 ?_
          first | refine re_field0 rfl rfl rfl rfl rfl fo_36_1 ?_ | refine re_field rfl rfl rfl rfl rfl fo_36_1 ?_ | refine re_fieldA rfl rfl rfl rfl rfl fo_36_1 ?_
          refine re_load H rfl rfl rfl rfl rfl sh_3 rfl ?_
          refine re_move rfl rfl rfl rfl rfl ?_
          refine re_nilc rfl rfl rfl rfl rfl ?_
          first | refine re_field0 rfl rfl rfl rfl rfl fo_54_0 ?_ | refine re_field rfl rfl rfl rfl rfl fo_54_0 ?_ | refine re_fieldA rfl rfl rfl rfl rfl fo_54_0 ?_
          refine re_load H rfl rfl rfl rfl rfl sh_3 rfl ?_
          refine re_bin rfl rfl rfl rfl rfl rfl rfl ?_
          refine re_pickF rfl rfl rfl rfl rfl rfl ?_
          refine re_move rfl rfl rfl rfl rfl ?_
          refine re_split (fun hg1_33 => ?_) (fun hg1_33 => ?_)
          ·
            refine re_skip1 rfl rfl rfl ?_
            refine re_skip1 rfl rfl rfl ?_
            refine re_skip1 rfl rfl rfl ?_
            refine re_skip1 rfl rfl rfl ?_
            refine re_skip1 rfl rfl rfl ?_
            refine re_skip1 rfl rfl rfl ?_
            refine re_skip1 rfl rfl rfl ?_
            refine re_pickT rfl rfl rfl rfl rfl rfl ?_
            refine re_move rfl rfl rfl rfl rfl ?_
            refine re_skip1 rfl rfl rfl ?_
            refine re_skip1 rfl rfl rfl ?_
            refine re_skip1 rfl rfl rfl ?_
            refine re_skip1 rfl rfl rfl ?_
            refine re_skip1 rfl rfl rfl ?_
            refine re_skip1 rfl rfl rfl ?_
            refine re_skip1 rfl rfl rfl ?_
            refine re_pickT rfl rfl rfl rfl rfl rfl ?_
            refine re_move rfl rfl rfl rfl rfl ?_
            refine re_skip1 rfl rfl rfl ?_
            refine re_skip1 rfl rfl rfl ?_
            refine re_skip1 rfl rfl rfl ?_
            refine re_skip1 rfl rfl rfl ?_
            refine re_skip1 rfl rfl rfl ?_
            refine re_skip1 rfl rfl rfl ?_
            refine re_skip1 rfl rfl rfl ?_
            refine re_pickT rfl rfl rfl rfl rfl rfl ?_
            refine re_nil ?_
            refine qe_noPanic ?_
            refine qe_thenC ?_
            refine ce_condT rfl ?_
            refine ce_seq ?_
            refine ce_text (tab := []) (soft := 1) (.op 0 .nil) rfl rfl ?_
            refine re_assign rfl rfl rfl rfl rfl ?_
            refine re_nil ?_
            refine qe_thenC ?_
            refine ce_ret ?_
            refine qe_then_ret ?_
            refine qe_end rfl rfl ?_
            have hf : r.foreign m = true := by simp only [RS.foreign, hg1_5, hg1_12, hg1_17, hg1_23, hg1_33, Bool.true_and, Bool.false_and, Bool.and_self, Bool.or_true, Bool.true_or, Bool.or_false, Bool.false_or, Bool.not_true, Bool.not_false, Bool.or_self]
            exact ⟨by rw [hf, if_pos rfl], H.tail⟩
          ·
            first | refine re_field0 rfl rfl rfl rfl rfl fo_46_3 ?_ | refine re_field rfl rfl rfl rfl rfl fo_46_3 ?_ | refine re_fieldA rfl rfl rfl rfl rfl fo_46_3 ?_
            refine re_load H rfl rfl rfl rfl rfl sh_3 rfl ?_
            refine re_move rfl rfl rfl rfl rfl ?_
            refine re_nilc rfl rfl rfl rfl rfl ?_
            first | refine re_field0 rfl rfl rfl rfl rfl fo_54_1 ?_ | refine re_field rfl rfl rfl rfl rfl fo_54_1 ?_ | refine re_fieldA rfl rfl rfl rfl rfl fo_54_1 ?_
            refine re_load H rfl rfl rfl rfl rfl sh_3 rfl ?_
            refine re_bin rfl rfl rfl rfl rfl rfl rfl ?_
            refine re_pickF rfl rfl rfl rfl rfl rfl ?_
            refine re_move rfl rfl rfl rfl rfl ?_
            refine re_split (fun hg1_42 => ?_) (fun hg1_42 => ?_)
            ·
              refine re_skip1 rfl rfl rfl ?_
              refine re_skip1 rfl rfl rfl ?_
              refine re_skip1 rfl rfl rfl ?_
              refine re_skip1 rfl rfl rfl ?_
              refine re_skip1 rfl rfl rfl ?_
              refine re_skip1 rfl rfl rfl ?_
              refine re_skip1 rfl rfl rfl ?_
              refine re_pickT rfl rfl rfl rfl rfl rfl ?_
              refine re_move rfl rfl rfl rfl rfl ?_
              refine re_skip1 rfl rfl rfl ?_
              refine re_skip1 rfl rfl rfl ?_
              refine re_skip1 rfl rfl rfl ?_
              refine re_skip1 rfl rfl rfl ?_
              refine re_skip1 rfl rfl rfl ?_
              refine re_skip1 rfl rfl rfl ?_
              refine re_skip1 rfl rfl rfl ?_
              refine re_pickT rfl rfl rfl rfl rfl rfl ?_
              refine re_nil ?_
              refine qe_noPanic ?_
              refine qe_thenC ?_
              refine ce_condT rfl ?_
              refine ce_seq ?_
              refine ce_text (tab := []) (soft := 1) (.op 0 .nil) rfl rfl ?_
              refine re_assign rfl rfl rfl rfl rfl ?_
              refine re_nil ?_
              refine qe_thenC ?_
              refine ce_ret ?_
              refine qe_then_ret ?_
              refine qe_end rfl rfl ?_
              have hf : r.foreign m = true := by simp only [RS.foreign, hg1_5, hg1_12, hg1_17, hg1_23, hg1_33, hg1_42, Bool.true_and, Bool.false_and, Bool.and_self, Bool.or_true, Bool.true_or, Bool.or_false, Bool.false_or, Bool.not_true, Bool.not_false, Bool.or_self]
              exact ⟨by rw [hf, if_pos rfl], H.tail⟩
            ·
              first | refine re_field0 rfl rfl rfl rfl rfl fo_46_4 ?_ | refine re_field rfl rfl rfl rfl rfl fo_46_4 ?_ | refine re_fieldA rfl rfl rfl rfl rfl fo_46_4 ?_
              refine re_load H rfl rfl rfl rfl rfl sh_3 rfl ?_
              refine re_move rfl rfl rfl rfl rfl ?_
              refine re_nilc rfl rfl rfl rfl rfl ?_
              first | refine re_field0 rfl rfl rfl rfl rfl fo_54_7 ?_ | refine re_field rfl rfl rfl rfl rfl fo_54_7 ?_ | refine re_fieldA rfl rfl rfl rfl rfl fo_54_7 ?_
              refine re_load H rfl rfl rfl rfl rfl sh_3 rfl ?_
              refine re_bin rfl rfl rfl rfl rfl rfl rfl ?_
              refine re_pickF rfl rfl rfl rfl rfl rfl ?_
              refine re_move rfl rfl rfl rfl rfl ?_
              refine re_split (fun hg1_51 => ?_) (fun hg1_51 => ?_)
              ·
                refine re_skip1 rfl rfl rfl ?_
                refine re_skip1 rfl rfl rfl ?_
                refine re_skip1 rfl rfl rfl ?_
                refine re_skip1 rfl rfl rfl ?_
                refine re_skip1 rfl rfl rfl ?_
                refine re_skip1 rfl rfl rfl ?_
                refine re_skip1 rfl rfl rfl ?_
                refine re_pickT rfl rfl rfl rfl rfl rfl ?_
                refine re_nil ?_
                refine qe_noPanic ?_
                refine qe_thenC ?_
                refine ce_condT rfl ?_
                refine ce_seq ?_
                refine ce_text (tab := []) (soft := 1) (.op 0 .nil) rfl rfl ?_
                refine re_assign rfl rfl rfl rfl rfl ?_
                refine re_nil ?_
                refine qe_thenC ?_
                refine ce_ret ?_
                refine qe_then_ret ?_
                refine qe_end rfl rfl ?_
                have hf : r.foreign m = true := by simp only [RS.foreign, hg1_5, hg1_12, hg1_17, hg1_23, hg1_33, hg1_42, hg1_51, Bool.true_and, Bool.false_and, Bool.and_self, Bool.or_true, Bool.true_or, Bool.or_false, Bool.false_or, Bool.not_true, Bool.not_false, Bool.or_self]
                exact ⟨by rw [hf, if_pos rfl], H.tail⟩
              ·
                first | refine re_field0 rfl rfl rfl rfl rfl fo_46_5 ?_ | refine re_field rfl rfl rfl rfl rfl fo_46_5 ?_ | refine re_fieldA rfl rfl rfl rfl rfl fo_46_5 ?_
                refine re_load H rfl rfl rfl rfl rfl sh_24 (by first | exact rdAt_all rfl | (simp only [rdAt, PS.cells, PS.over, GM.cells, Cmd.cells, List.cons_append, List.nil_append, RS.cellsV, List.drop_succ_cons, List.drop_zero, List.take_succ_cons, List.take_zero, List.length_cons, List.length_nil, Nat.zero_add, Nat.reduceAdd, Nat.reduceLeDiff, Nat.le_refl, ↓reduceIte] <;> rfl)) ?_
                refine re_move rfl rfl rfl rfl rfl ?_
                refine re_nilc rfl rfl rfl rfl rfl ?_
                first | refine re_field0 rfl rfl rfl rfl rfl fo_54_2 ?_ | refine re_field rfl rfl rfl rfl rfl fo_54_2 ?_ | refine re_fieldA rfl rfl rfl rfl rfl fo_54_2 ?_
                refine re_load H rfl rfl rfl rfl rfl sh_24 (by first | exact rdAt_all rfl | (simp only [rdAt, PS.cells, PS.over, GM.cells, Cmd.cells, List.cons_append, List.nil_append, RS.cellsV, List.drop_succ_cons, List.drop_zero, List.take_succ_cons, List.take_zero, List.length_cons, List.length_nil, Nat.zero_add, Nat.reduceAdd, Nat.reduceLeDiff, Nat.le_refl, ↓reduceIte] <;> rfl)) ?_
                refine re_neAgg rfl rfl rfl rfl rfl rfl fk_24 sh_24 ng_24 (by simp only [eqKs, eqK, ↓reduceIte]; rfl) ?_
                refine re_pickF rfl rfl rfl rfl rfl rfl ?_
                refine re_nil ?_
                refine qe_noPanic ?_
                refine qe_thenC ?_
                refine ce_cond rfl (fun h0 => ?_) (fun h0 => ?_)
                · try simp only [zn1, zn2, zn3, zn4, zn5, zn6] at h0
                  refine ce_seq ?_
                  refine ce_text (tab := []) (soft := 1) (.op 0 .nil) rfl rfl ?_
                  refine re_assign rfl rfl rfl rfl rfl ?_
                  refine re_nil ?_
                  refine qe_thenC ?_
                  refine ce_ret ?_
                  refine qe_then_ret ?_
                  refine qe_end rfl rfl ?_
                  have hf : r.foreign m = true := by simp only [RS.foreign, hg1_5, hg1_12, hg1_17, hg1_23, hg1_33, hg1_42, hg1_51, h0, Bool.true_and, Bool.false_and, Bool.and_self, Bool.or_true, Bool.true_or, Bool.or_false, Bool.false_or, Bool.not_true, Bool.not_false, Bool.or_self]
                  exact ⟨by rw [hf, if_pos rfl], H.tail⟩
                · try simp only [zn1, zn2, zn3, zn4, zn5, zn6] at h0
                  refine ce_skip ?_
                  refine qe_thenC ?_
                  refine ce_seq ?_
                  refine ce_seq ?_
                  refine ce_text (tab := []) (soft := 1) (.op 0 .nil) rfl rfl ?_
                  refine re_assign rfl rfl rfl rfl rfl ?_
                  refine re_nil ?_
                  refine qe_thenC ?_
                  refine ce_block ?_
                  have hf : r.foreign m = false := by first | simp only [RS.foreign, hg1_5, hg1_12, hg1_17, hg1_23, hg1_33, hg1_42, hg1_51, h0, Bool.true_and, Bool.false_and, Bool.and_self, Bool.or_true, Bool.true_or, Bool.or_false, Bool.false_or, Bool.not_true, Bool.not_false, Bool.or_self] | simp only [RS.foreign, hg1_5, hg1_17, hg1_23, hg1_33, hg1_42, hg1_51, h0, Bool.true_and, Bool.false_and, Bool.and_self, Bool.or_true, Bool.true_or, Bool.or_false, Bool.false_or, Bool.not_true, Bool.not_false, Bool.or_self]
                  refine ce_loop (α := Nat) (fun k => [(0, .pointer (some ⟨h, 0, none⟩)), (3, .pointer (some ⟨g3, 0, none⟩)), (5, .int .i64 (k : Int))]) (fun k w => Own B (.cells g3 46 m.cells :: .cells h 54 (r.cellsV (slv (some a1) r.gs.length r.gs.length) (slv (some a2) r.gs.length r.gs.length) (slv (some a3) r.gs.length r.gs.length) (slv (some a4) r.gs.length r.gs.length)) :: .row r.ga r.gc 3 1 r.gs.length (ints r.gs) :: .cells a1 4 (bools r.ans) :: .cells a2 4 (bools r.cnt) :: .cells a3 38 (stamps r.held) :: .cells a4 28 (cmdsC r.cms) :: F) w ∧ k ≤ r.gs.length ∧ ∀ j, j < k → r.gs[j]? ≠ some m.fi) (fun k => r.gs.length - k) 0 (And.intro rfl (And.intro rfl (And.intro rfl trivial))) ⟨H, Nat.zero_le _, fun j hj => by omega⟩ ?_
                  rintro k w HW
                  obtain ⟨H, hk, hno⟩ := HW
                  change CE _ _ _ _ _ [(0, .pointer (some ⟨h, 0, none⟩)), (3, .pointer (some ⟨g3, 0, none⟩)), (5, .int .i64 (k : Int))] _
                  refine ce_seq ?_
                  refine ce_seq ?_
                  refine ce_text (tab := []) (soft := 127) (.op 0 (.op 1 (.op 2 (.op 3 (.op 4 (.op 5 (.op 6 .nil))))))) rfl rfl ?_
                  refine re_move rfl rfl rfl rfl rfl ?_
                  refine re_move rfl rfl rfl rfl rfl ?_
                  refine re_nilc rfl rfl rfl rfl rfl ?_
                  first | refine re_field0 rfl rfl rfl rfl rfl fo_54_3 ?_ | refine re_field rfl rfl rfl rfl rfl fo_54_3 ?_ | refine re_fieldA rfl rfl rfl rfl rfl fo_54_3 ?_
                  refine re_load H rfl rfl rfl rfl rfl sh_31 rfl ?_
                  refine re_len rfl rfl rfl rfl rfl ul_31 ?_
                  refine re_bin rfl rfl rfl rfl rfl rfl rfl ?_
                  refine re_nil ?_
                  refine qe_thenC ?_
                  refine ce_cond rfl (fun h1 => ?_) (fun h1 => ?_)
                  · try simp only [zn1, zn2, zn3, zn4, zn5, zn6] at h1
                    refine ce_skip ?_
                    refine qe_thenC ?_
                    refine ce_seq ?_
                    refine ce_block ?_
                    refine ce_seq ?_
                    refine ce_open (tab := [0, 1, 3, 7, 0, 31, 63, 0, 128, 384, 1023]) (soft := 2047) mixed (.op 0 (.op 1 (.op 2 (.op 3 (.op 4 (.op 5 (.op 6 (.op 7 (.op 8 (.op 9 (.op 10 .nil))))))))))) (by kernel_rfl) H ?_
                    intro w H
                    refine re_move rfl rfl rfl rfl rfl ?_
                    refine re_nilc rfl rfl rfl rfl rfl ?_
                    first | refine re_field0 rfl rfl rfl rfl rfl fo_54_3 ?_ | refine re_field rfl rfl rfl rfl rfl fo_54_3 ?_ | refine re_fieldA rfl rfl rfl rfl rfl fo_54_3 ?_
                    refine re_load H rfl rfl rfl rfl rfl sh_31 rfl ?_
                    refine re_move rfl rfl rfl rfl rfl ?_
                    have hlt : k < r.gs.length := by omega
                    obtain ⟨ad, had, hA⟩ := (H.rsees r.ga).open_ H (by omega)
                    have hsl : slv r.ga r.gs.length r.gc = .slice (some ad) r.gs.length r.gc := by rw [slv, had]
                    simp only [hsl]
                    refine re_index rfl rfl rfl rfl rfl rfl ul_31 ei_31 (by omega) (by omega) ?_
                    refine re_loadW rfl rfl rfl rfl rfl (run_loadAt_one sh_3 (hA.int H hlt)) ?_
                    first | refine re_field0 rfl rfl rfl rfl rfl fo_46_1 ?_ | refine re_field rfl rfl rfl rfl rfl fo_46_1 ?_ | refine re_fieldA rfl rfl rfl rfl rfl fo_46_1 ?_
                    first | refine re_field0 rfl rfl rfl rfl rfl fo_36_1 ?_ | refine re_field rfl rfl rfl rfl rfl fo_36_1 ?_ | refine re_fieldA rfl rfl rfl rfl rfl fo_36_1 ?_
                    refine re_load H rfl rfl rfl rfl rfl sh_3 rfl ?_
                    refine re_bin rfl rfl rfl rfl rfl rfl rfl ?_
                    refine re_nil ?_
                    refine qe_noPanic ?_
                    refine qe_thenC ?_
                    refine ce_cond rfl (fun h2 => ?_) (fun h2 => ?_)
                    · try simp only [zn1, zn2, zn3, zn4, zn5, zn6] at h2
                      refine ce_seq ?_
                      refine ce_text (tab := []) (soft := 3) (.op 0 (.op 1 .nil)) rfl rfl ?_
                      refine re_move rfl rfl rfl rfl rfl ?_
                      refine re_assign rfl rfl rfl rfl rfl ?_
                      refine re_nil ?_
                      refine qe_thenC ?_
                      refine ce_ret ?_
                      refine qe_block_ret ?_
                      refine qe_then_ret ?_
                      refine qe_then_ret ?_
                      refine qe_block_ret ?_
                      refine qe_then_ret ?_
                      refine qe_end rfl rfl ?_
                      exact ⟨by rw [hf, if_neg (by simp), idxOf_found hlt h2 hno], H.tail⟩
                    · try simp only [zn1, zn2, zn3, zn4, zn5, zn6] at h2
                      refine ce_skip ?_
                      refine qe_block_norm ?_
                      refine qe_thenC ?_
                      refine ce_text (tab := []) (soft := 7) (.op 0 (.op 1 (.op 2 .nil))) rfl rfl ?_
                      refine re_move rfl rfl rfl rfl rfl ?_
                      first | refine re_add rfl rfl rfl rfl rfl rfl (by omega) ?_ | refine re_bin rfl rfl rfl rfl rfl rfl rfl ?_
                      refine re_assign rfl rfl rfl rfl rfl ?_
                      refine re_nil ?_
                      refine qe_round (x := k) (k + 1) ?_ ?_ ?_
                      · first | (dsimp only; omega) | omega
                      · exact (And.intro rfl (And.intro rfl (And.intro rfl trivial)))
                      · exact ⟨H, by omega, fun j hj => by
                          rcases Nat.lt_succ_iff_lt_or_eq.1 hj with h | rfl
                          · exact hno j h
                          · simpa [List.getElem?_eq_getElem hlt] using fun e => h2 e⟩
                  · try simp only [zn1, zn2, zn3, zn4, zn5, zn6] at h1
                    refine ce_exit ?_
                    refine qe_then_exit ?_
                    refine qe_then_exit ?_
                    refine qe_block_exit ?_
                    refine qe_thenC ?_
                    refine ce_seq ?_
                    refine ce_text (tab := []) (soft := 1) (.op 0 .nil) rfl rfl ?_
                    refine re_assign rfl rfl rfl rfl rfl ?_
                    refine re_nil ?_
                    refine qe_thenC ?_
                    refine ce_ret ?_
                    refine qe_end rfl rfl ?_
                    obtain rfl : k = r.gs.length := by omega
                    exact ⟨by rw [hf, if_neg (by simp), idxOf_none hno], H.tail⟩
  ·
    refine re_skip1 rfl rfl rfl ?_
    refine re_skip1 rfl rfl rfl ?_
    refine re_skip1 rfl rfl rfl ?_
    refine re_skip1 rfl rfl rfl ?_
    refine re_skip1 rfl rfl rfl ?_
    refine re_pickF rfl rfl rfl rfl rfl rfl ?_
    refine re_move rfl rfl rfl rfl rfl ?_
    first | refine re_field0 rfl rfl rfl rfl rfl fo_46_1 ?_ | refine re_field rfl rfl rfl rfl rfl fo_46_1 ?_ | refine re_fieldA rfl rfl rfl rfl rfl fo_46_1 ?_
    first | refine re_field0 rfl rfl rfl rfl rfl fo_36_0 ?_ | refine re_field rfl rfl rfl rfl rfl fo_36_0 ?_ | refine re_fieldA rfl rfl rfl rfl rfl fo_36_0 ?_
    refine re_load H rfl rfl rfl rfl rfl sh_4 rfl ?_
    refine re_pickF rfl rfl rfl rfl rfl rfl ?_
    refine re_move rfl rfl rfl rfl rfl ?_
    refine re_split (fun hg1_17 => ?_) (fun hg1_17 => ?_)
    ·
      refine re_skip1 rfl rfl rfl ?_
      refine re_skip1 rfl rfl rfl ?_
      refine re_skip1 rfl rfl rfl ?_
      refine re_skip1 rfl rfl rfl ?_
      refine re_pickT rfl rfl rfl rfl rfl rfl ?_
      refine re_move rfl rfl rfl rfl rfl ?_
      refine re_skip1 rfl rfl rfl ?_
      refine re_skip1 rfl rfl rfl ?_
      refine re_skip1 rfl rfl rfl ?_
      refine re_skip1 rfl rfl rfl ?_
      refine re_skip1 rfl rfl rfl ?_
      refine re_skip1 rfl rfl rfl ?_
      refine re_skip1 rfl rfl rfl ?_
      refine re_skip1 rfl rfl rfl ?_
      refine re_pickT rfl rfl rfl rfl rfl rfl ?_
      refine re_move rfl rfl rfl rfl rfl ?_
      refine re_skip1 rfl rfl rfl ?_
      refine re_skip1 rfl rfl rfl ?_
      refine re_skip1 rfl rfl rfl ?_
      refine re_skip1 rfl rfl rfl ?_
      refine re_skip1 rfl rfl rfl ?_
      refine re_skip1 rfl rfl rfl ?_
      refine re_skip1 rfl rfl rfl ?_
      refine re_pickT rfl rfl rfl rfl rfl rfl ?_
      refine re_move rfl rfl rfl rfl rfl ?_
      refine re_skip1 rfl rfl rfl ?_
      refine re_skip1 rfl rfl rfl ?_
      refine re_skip1 rfl rfl rfl ?_
      refine re_skip1 rfl rfl rfl ?_
      refine re_skip1 rfl rfl rfl ?_
      refine re_skip1 rfl rfl rfl ?_
      refine re_skip1 rfl rfl rfl ?_
      refine re_pickT rfl rfl rfl rfl rfl rfl ?_
      refine re_move rfl rfl rfl rfl rfl ?_
      refine re_skip1 rfl rfl rfl ?_
      refine re_skip1 rfl rfl rfl ?_
      refine re_skip1 rfl rfl rfl ?_
      refine re_skip1 rfl rfl rfl ?_
      refine re_skip1 rfl rfl rfl ?_
      refine re_skip1 rfl rfl rfl ?_
      refine re_skip1 rfl rfl rfl ?_
      refine re_pickT rfl rfl rfl rfl rfl rfl ?_
      refine re_nil ?_
      refine qe_noPanic ?_
      refine qe_thenC ?_
      refine ce_condT rfl ?_
      refine ce_seq ?_
      refine ce_text (tab := []) (soft := 1) (.op 0 .nil) rfl rfl ?_
      refine re_assign rfl rfl rfl rfl rfl ?_
      refine re_nil ?_
      refine qe_thenC ?_
      refine ce_ret ?_
      refine qe_then_ret ?_
      refine qe_end rfl rfl ?_
      have hf : r.foreign m = true := by simp only [RS.foreign, hg1_5, hg1_17, Bool.true_and, Bool.false_and, Bool.and_self, Bool.or_true, Bool.true_or, Bool.or_false, Bool.false_or, Bool.not_true, Bool.not_false, Bool.or_self]
      exact ⟨by rw [hf, if_pos rfl], H.tail⟩
    ·
      first | refine re_field0 rfl rfl rfl rfl rfl fo_46_2 ?_ | refine re_field rfl rfl rfl rfl rfl fo_46_2 ?_ | refine re_fieldA rfl rfl rfl rfl rfl fo_46_2 ?_
      first | refine re_field0 rfl rfl rfl rfl rfl fo_36_0 ?_ | refine re_field rfl rfl rfl rfl rfl fo_36_0 ?_ | refine re_fieldA rfl rfl rfl rfl rfl fo_36_0 ?_
      refine re_load H rfl rfl rfl rfl rfl sh_4 rfl ?_
      refine re_not rfl rfl rfl rfl rfl ?_
      refine re_pickF rfl rfl rfl rfl rfl rfl ?_
      refine re_move rfl rfl rfl rfl rfl ?_
      refine re_split (fun hg1_23 => ?_) (fun hg1_23 => ?_)
      ·
        refine re_skip1 rfl rfl rfl ?_
        refine re_skip1 rfl rfl rfl ?_
        refine re_skip1 rfl rfl rfl ?_
        refine re_skip1 rfl rfl rfl ?_
        refine re_skip1 rfl rfl rfl ?_
        refine re_skip1 rfl rfl rfl ?_
        refine re_skip1 rfl rfl rfl ?_
        refine re_skip1 rfl rfl rfl ?_
        refine re_pickT rfl rfl rfl rfl rfl rfl ?_
        refine re_move rfl rfl rfl rfl rfl ?_
        refine re_skip1 rfl rfl rfl ?_
        refine re_skip1 rfl rfl rfl ?_
        refine re_skip1 rfl rfl rfl ?_
        refine re_skip1 rfl rfl rfl ?_
        refine re_skip1 rfl rfl rfl ?_
        refine re_skip1 rfl rfl rfl ?_
        refine re_skip1 rfl rfl rfl ?_
        refine re_pickT rfl rfl rfl rfl rfl rfl ?_
        refine re_move rfl rfl rfl rfl rfl ?_
        refine re_skip1 rfl rfl rfl ?_
        refine re_skip1 rfl rfl rfl ?_
        refine re_skip1 rfl rfl rfl ?_
        refine re_skip1 rfl rfl rfl ?_
        refine re_skip1 rfl rfl rfl ?_
        refine re_skip1 rfl rfl rfl ?_
        refine re_skip1 rfl rfl rfl ?_
        refine re_pickT rfl rfl rfl rfl rfl rfl ?_
        refine re_move rfl rfl rfl rfl rfl ?_
        refine re_skip1 rfl rfl rfl ?_
        refine re_skip1 rfl rfl rfl ?_
        refine re_skip1 rfl rfl rfl ?_
        refine re_skip1 rfl rfl rfl ?_
        refine re_skip1 rfl rfl rfl ?_
        refine re_skip1 rfl rfl rfl ?_
        refine re_skip1 rfl rfl rfl ?_
        refine re_pickT rfl rfl rfl rfl rfl rfl ?_
        refine re_nil ?_
        refine qe_noPanic ?_
        refine qe_thenC ?_
        refine ce_condT rfl ?_
        refine ce_seq ?_
        refine ce_text (tab := []) (soft := 1) (.op 0 .nil) rfl rfl ?_
        refine re_assign rfl rfl rfl rfl rfl ?_
        refine re_nil ?_
        refine qe_thenC ?_
        refine ce_ret ?_
        refine qe_then_ret ?_
        refine qe_end rfl rfl ?_
        have hf : r.foreign m = true := by simp only [RS.foreign, hg1_5, hg1_17, hg1_23, Bool.true_and, Bool.false_and, Bool.and_self, Bool.or_true, Bool.true_or, Bool.or_false, Bool.false_or, Bool.not_true, Bool.not_false, Bool.or_self]
        exact ⟨by rw [hf, if_pos rfl], H.tail⟩
      ·
        first | refine re_field0 rfl rfl rfl rfl rfl fo_46_2 ?_ | refine re_field rfl rfl rfl rfl rfl fo_46_2 ?_ | refine re_fieldA rfl rfl rfl rfl rfl fo_46_2 ?_
        first | refine re_field0 rfl rfl rfl rfl rfl fo_36_1 ?_ | refine re_field rfl rfl rfl rfl rfl fo_36_1 ?_ | refine re_fieldA rfl rfl rfl rfl rfl fo_36_1 ?_
        refine re_load H rfl rfl rfl rfl rfl sh_3 rfl ?_
        refine re_move rfl rfl rfl rfl rfl ?_
        refine re_nilc rfl rfl rfl rfl rfl ?_
        first | refine re_field0 rfl rfl rfl rfl rfl fo_54_0 ?_ | refine re_field rfl rfl rfl rfl rfl fo_54_0 ?_ | refine re_fieldA rfl rfl rfl rfl rfl fo_54_0 ?_
        refine re_load H rfl rfl rfl rfl rfl sh_3 rfl ?_
        refine re_bin rfl rfl rfl rfl rfl rfl rfl ?_
        refine re_pickF rfl rfl rfl rfl rfl rfl ?_
        refine re_move rfl rfl rfl rfl rfl ?_
        refine re_split (fun hg1_33 => ?_) (fun hg1_33 => ?_)
        ·
          refine re_skip1 rfl rfl rfl ?_
          refine re_skip1 rfl rfl rfl ?_
          refine re_skip1 rfl rfl rfl ?_
          refine re_skip1 rfl rfl rfl ?_
          refine re_skip1 rfl rfl rfl ?_
          refine re_skip1 rfl rfl rfl ?_
          refine re_skip1 rfl rfl rfl ?_
          refine re_pickT rfl rfl rfl rfl rfl rfl ?_
          refine re_move rfl rfl rfl rfl rfl ?_
          refine re_skip1 rfl rfl rfl ?_
          refine re_skip1 rfl rfl rfl ?_
          refine re_skip1 rfl rfl rfl ?_
          refine re_skip1 rfl rfl rfl ?_
          refine re_skip1 rfl rfl rfl ?_
          refine re_skip1 rfl rfl rfl ?_
          refine re_skip1 rfl rfl rfl ?_
          refine re_pickT rfl rfl rfl rfl rfl rfl ?_
          refine re_move rfl rfl rfl rfl rfl ?_
          refine re_skip1 rfl rfl rfl ?_
          refine re_skip1 rfl rfl rfl ?_
          refine re_skip1 rfl rfl rfl ?_
          refine re_skip1 rfl rfl rfl ?_
          refine re_skip1 rfl rfl rfl ?_
          refine re_skip1 rfl rfl rfl ?_
          refine re_skip1 rfl rfl rfl ?_
          refine re_pickT rfl rfl rfl rfl rfl rfl ?_
          refine re_nil ?_
          refine qe_noPanic ?_
          refine qe_thenC ?_
          refine ce_condT rfl ?_
          refine ce_seq ?_
          refine ce_text (tab := []) (soft := 1) (.op 0 .nil) rfl rfl ?_
          refine re_assign rfl rfl rfl rfl rfl ?_
          refine re_nil ?_
          refine qe_thenC ?_
          refine ce_ret ?_
          refine qe_then_ret ?_
          refine qe_end rfl rfl ?_
          have hf : r.foreign m = true := by simp only [RS.foreign, hg1_5, hg1_17, hg1_23, hg1_33, Bool.true_and, Bool.false_and, Bool.and_self, Bool.or_true, Bool.true_or, Bool.or_false, Bool.false_or, Bool.not_true, Bool.not_false, Bool.or_self]
          exact ⟨by rw [hf, if_pos rfl], H.tail⟩
        ·
          first | refine re_field0 rfl rfl rfl rfl rfl fo_46_3 ?_ | refine re_field rfl rfl rfl rfl rfl fo_46_3 ?_ | refine re_fieldA rfl rfl rfl rfl rfl fo_46_3 ?_
          refine re_load H rfl rfl rfl rfl rfl sh_3 rfl ?_
          refine re_move rfl rfl rfl rfl rfl ?_
          refine re_nilc rfl rfl rfl rfl rfl ?_
          first | refine re_field0 rfl rfl rfl rfl rfl fo_54_1 ?_ | refine re_field rfl rfl rfl rfl rfl fo_54_1 ?_ | refine re_fieldA rfl rfl rfl rfl rfl fo_54_1 ?_
          refine re_load H rfl rfl rfl rfl rfl sh_3 rfl ?_
          refine re_bin rfl rfl rfl rfl rfl rfl rfl ?_
          refine re_pickF rfl rfl rfl rfl rfl rfl ?_
          refine re_move rfl rfl rfl rfl rfl ?_
          refine re_split (fun hg1_42 => ?_) (fun hg1_42 => ?_)
          ·
            refine re_skip1 rfl rfl rfl ?_
            refine re_skip1 rfl rfl rfl ?_
            refine re_skip1 rfl rfl rfl ?_
            refine re_skip1 rfl rfl rfl ?_
            refine re_skip1 rfl rfl rfl ?_
            refine re_skip1 rfl rfl rfl ?_
            refine re_skip1 rfl rfl rfl ?_
            refine re_pickT rfl rfl rfl rfl rfl rfl ?_
            refine re_move rfl rfl rfl rfl rfl ?_
            refine re_skip1 rfl rfl rfl ?_
            refine re_skip1 rfl rfl rfl ?_
            refine re_skip1 rfl rfl rfl ?_
            refine re_skip1 rfl rfl rfl ?_
            refine re_skip1 rfl rfl rfl ?_
            refine re_skip1 rfl rfl rfl ?_
            refine re_skip1 rfl rfl rfl ?_
            refine re_pickT rfl rfl rfl rfl rfl rfl ?_
            refine re_nil ?_
            refine qe_noPanic ?_
            refine qe_thenC ?_
            refine ce_condT rfl ?_
            refine ce_seq ?_
            refine ce_text (tab := []) (soft := 1) (.op 0 .nil) rfl rfl ?_
            refine re_assign rfl rfl rfl rfl rfl ?_
            refine re_nil ?_
            refine qe_thenC ?_
            refine ce_ret ?_
            refine qe_then_ret ?_
            refine qe_end rfl rfl ?_
            have hf : r.foreign m = true := by simp only [RS.foreign, hg1_5, hg1_17, hg1_23, hg1_33, hg1_42, Bool.true_and, Bool.false_and, Bool.and_self, Bool.or_true, Bool.true_or, Bool.or_false, Bool.false_or, Bool.not_true, Bool.not_false, Bool.or_self]
            exact ⟨by rw [hf, if_pos rfl], H.tail⟩
          ·
            first | refine re_field0 rfl rfl rfl rfl rfl fo_46_4 ?_ | refine re_field rfl rfl rfl rfl rfl fo_46_4 ?_ | refine re_fieldA rfl rfl rfl rfl rfl fo_46_4 ?_
            refine re_load H rfl rfl rfl rfl rfl sh_3 rfl ?_
            refine re_move rfl rfl rfl rfl rfl ?_
            refine re_nilc rfl rfl rfl rfl rfl ?_
            first | refine re_field0 rfl rfl rfl rfl rfl fo_54_7 ?_ | refine re_field rfl rfl rfl rfl rfl fo_54_7 ?_ | refine re_fieldA rfl rfl rfl rfl rfl fo_54_7 ?_
            refine re_load H rfl rfl rfl rfl rfl sh_3 rfl ?_
            refine re_bin rfl rfl rfl rfl rfl rfl rfl ?_
            refine re_pickF rfl rfl rfl rfl rfl rfl ?_
            refine re_move rfl rfl rfl rfl rfl ?_
            refine re_split (fun hg1_51 => ?_) (fun hg1_51 => ?_)
            ·
              refine re_skip1 rfl rfl rfl ?_
              refine re_skip1 rfl rfl rfl ?_
              refine re_skip1 rfl rfl rfl ?_
              refine re_skip1 rfl rfl rfl ?_
              refine re_skip1 rfl rfl rfl ?_
              refine re_skip1 rfl rfl rfl ?_
              refine re_skip1 rfl rfl rfl ?_
              refine re_pickT rfl rfl rfl rfl rfl rfl ?_
              refine re_nil ?_
              refine qe_noPanic ?_
              refine qe_thenC ?_
              refine ce_condT rfl ?_
              refine ce_seq ?_
              refine ce_text (tab := []) (soft := 1) (.op 0 .nil) rfl rfl ?_
              refine re_assign rfl rfl rfl rfl rfl ?_
              refine re_nil ?_
              refine qe_thenC ?_
              refine ce_ret ?_
              refine qe_then_ret ?_
              refine qe_end rfl rfl ?_
              have hf : r.foreign m = true := by simp only [RS.foreign, hg1_5, hg1_17, hg1_23, hg1_33, hg1_42, hg1_51, Bool.true_and, Bool.false_and, Bool.and_self, Bool.or_true, Bool.true_or, Bool.or_false, Bool.false_or, Bool.not_true, Bool.not_false, Bool.or_self]
              exact ⟨by rw [hf, if_pos rfl], H.tail⟩
            ·
              first | refine re_field0 rfl rfl rfl rfl rfl fo_46_5 ?_ | refine re_field rfl rfl rfl rfl rfl fo_46_5 ?_ | refine re_fieldA rfl rfl rfl rfl rfl fo_46_5 ?_
              refine re_load H rfl rfl rfl rfl rfl sh_24 (by first | exact rdAt_all rfl | (simp only [rdAt, PS.cells, PS.over, GM.cells, Cmd.cells, List.cons_append, List.nil_append, RS.cellsV, List.drop_succ_cons, List.drop_zero, List.take_succ_cons, List.take_zero, List.length_cons, List.length_nil, Nat.zero_add, Nat.reduceAdd, Nat.reduceLeDiff, Nat.le_refl, ↓reduceIte] <;> rfl)) ?_
              refine re_move rfl rfl rfl rfl rfl ?_
              refine re_nilc rfl rfl rfl rfl rfl ?_
              first | refine re_field0 rfl rfl rfl rfl rfl fo_54_2 ?_ | refine re_field rfl rfl rfl rfl rfl fo_54_2 ?_ | refine re_fieldA rfl rfl rfl rfl rfl fo_54_2 ?_
              refine re_load H rfl rfl rfl rfl rfl sh_24 (by first | exact rdAt_all rfl | (simp only [rdAt, PS.cells, PS.over, GM.cells, Cmd.cells, List.cons_append, List.nil_append, RS.cellsV, List.drop_succ_cons, List.drop_zero, List.take_succ_cons, List.take_zero, List.length_cons, List.length_nil, Nat.zero_add, Nat.reduceAdd, Nat.reduceLeDiff, Nat.le_refl, ↓reduceIte] <;> rfl)) ?_
              refine re_neAgg rfl rfl rfl rfl rfl rfl fk_24 sh_24 ng_24 (by simp only [eqKs, eqK, ↓reduceIte]; rfl) ?_
              refine re_pickF rfl rfl rfl rfl rfl rfl ?_
              refine re_nil ?_
              refine qe_noPanic ?_
              refine qe_thenC ?_
              refine ce_cond rfl (fun h0 => ?_) (fun h0 => ?_)
              · try simp only [zn1, zn2, zn3, zn4, zn5, zn6] at h0
                refine ce_seq ?_
                refine ce_text (tab := []) (soft := 1) (.op 0 .nil) rfl rfl ?_
                refine re_assign rfl rfl rfl rfl rfl ?_
                refine re_nil ?_
                refine qe_thenC ?_
                refine ce_ret ?_
                refine qe_then_ret ?_
                refine qe_end rfl rfl ?_
                have hf : r.foreign m = true := by simp only [RS.foreign, hg1_5, hg1_17, hg1_23, hg1_33, hg1_42, hg1_51, h0, Bool.true_and, Bool.false_and, Bool.and_self, Bool.or_true, Bool.true_or, Bool.or_false, Bool.false_or, Bool.not_true, Bool.not_false, Bool.or_self]
                exact ⟨by rw [hf, if_pos rfl], H.tail⟩
              · try simp only [zn1, zn2, zn3, zn4, zn5, zn6] at h0
                refine ce_skip ?_
                refine qe_thenC ?_
                refine ce_seq ?_
                refine ce_seq ?_
                refine ce_text (tab := []) (soft := 1) (.op 0 .nil) rfl rfl ?_
                refine re_assign rfl rfl rfl rfl rfl ?_
                refine re_nil ?_
                refine qe_thenC ?_
                refine ce_block ?_
                have hf : r.foreign m = false := by first | simp only [RS.foreign, hg1_5, hg1_12, hg1_17, hg1_23, hg1_33, hg1_42, hg1_51, h0, Bool.true_and, Bool.false_and, Bool.and_self, Bool.or_true, Bool.true_or, Bool.or_false, Bool.false_or, Bool.not_true, Bool.not_false, Bool.or_self] | simp only [RS.foreign, hg1_5, hg1_17, hg1_23, hg1_33, hg1_42, hg1_51, h0, Bool.true_and, Bool.false_and, Bool.and_self, Bool.or_true, Bool.true_or, Bool.or_false, Bool.false_or, Bool.not_true, Bool.not_false, Bool.or_self]
                refine ce_loop (α := Nat) (fun k => [(0, .pointer (some ⟨h, 0, none⟩)), (3, .pointer (some ⟨g3, 0, none⟩)), (5, .int .i64 (k : Int))]) (fun k w => Own B (.cells g3 46 m.cells :: .cells h 54 (r.cellsV (slv (some a1) r.gs.length r.gs.length) (slv (some a2) r.gs.length r.gs.length) (slv (some a3) r.gs.length r.gs.length) (slv (some a4) r.gs.length r.gs.length)) :: .row r.ga r.gc 3 1 r.gs.length (ints r.gs) :: .cells a1 4 (bools r.ans) :: .cells a2 4 (bools r.cnt) :: .cells a3 38 (stamps r.held) :: .cells a4 28 (cmdsC r.cms) :: F) w ∧ k ≤ r.gs.length ∧ ∀ j, j < k → r.gs[j]? ≠ some m.fi) (fun k => r.gs.length - k) 0 (And.intro rfl (And.intro rfl (And.intro rfl trivial))) ⟨H, Nat.zero_le _, fun j hj => by omega⟩ ?_
                rintro k w HW
                obtain ⟨H, hk, hno⟩ := HW
                change CE _ _ _ _ _ [(0, .pointer (some ⟨h, 0, none⟩)), (3, .pointer (some ⟨g3, 0, none⟩)), (5, .int .i64 (k : Int))] _
                refine ce_seq ?_
                refine ce_seq ?_
                refine ce_text (tab := []) (soft := 127) (.op 0 (.op 1 (.op 2 (.op 3 (.op 4 (.op 5 (.op 6 .nil))))))) rfl rfl ?_
                refine re_move rfl rfl rfl rfl rfl ?_
                refine re_move rfl rfl rfl rfl rfl ?_
                refine re_nilc rfl rfl rfl rfl rfl ?_
                first | refine re_field0 rfl rfl rfl rfl rfl fo_54_3 ?_ | refine re_field rfl rfl rfl rfl rfl fo_54_3 ?_ | refine re_fieldA rfl rfl rfl rfl rfl fo_54_3 ?_
                refine re_load H rfl rfl rfl rfl rfl sh_31 rfl ?_
                refine re_len rfl rfl rfl rfl rfl ul_31 ?_
                refine re_bin rfl rfl rfl rfl rfl rfl rfl ?_
                refine re_nil ?_
                refine qe_thenC ?_
                refine ce_cond rfl (fun h1 => ?_) (fun h1 => ?_)
                · try simp only [zn1, zn2, zn3, zn4, zn5, zn6] at h1
                  refine ce_skip ?_
                  refine qe_thenC ?_
                  refine ce_seq ?_
                  refine ce_block ?_
                  refine ce_seq ?_
                  refine ce_open (tab := [0, 1, 3, 7, 0, 31, 63, 0, 128, 384, 1023]) (soft := 2047) mixed (.op 0 (.op 1 (.op 2 (.op 3 (.op 4 (.op 5 (.op 6 (.op 7 (.op 8 (.op 9 (.op 10 .nil))))))))))) (by kernel_rfl) H ?_
                  intro w H
                  refine re_move rfl rfl rfl rfl rfl ?_
                  refine re_nilc rfl rfl rfl rfl rfl ?_
                  first | refine re_field0 rfl rfl rfl rfl rfl fo_54_3 ?_ | refine re_field rfl rfl rfl rfl rfl fo_54_3 ?_ | refine re_fieldA rfl rfl rfl rfl rfl fo_54_3 ?_
                  refine re_load H rfl rfl rfl rfl rfl sh_31 rfl ?_
                  refine re_move rfl rfl rfl rfl rfl ?_
                  have hlt : k < r.gs.length := by omega
                  obtain ⟨ad, had, hA⟩ := (H.rsees r.ga).open_ H (by omega)
                  have hsl : slv r.ga r.gs.length r.gc = .slice (some ad) r.gs.length r.gc := by rw [slv, had]
                  simp only [hsl]
                  refine re_index rfl rfl rfl rfl rfl rfl ul_31 ei_31 (by omega) (by omega) ?_
                  refine re_loadW rfl rfl rfl rfl rfl (run_loadAt_one sh_3 (hA.int H hlt)) ?_
                  first | refine re_field0 rfl rfl rfl rfl rfl fo_46_1 ?_ | refine re_field rfl rfl rfl rfl rfl fo_46_1 ?_ | refine re_fieldA rfl rfl rfl rfl rfl fo_46_1 ?_
                  first | refine re_field0 rfl rfl rfl rfl rfl fo_36_1 ?_ | refine re_field rfl rfl rfl rfl rfl fo_36_1 ?_ | refine re_fieldA rfl rfl rfl rfl rfl fo_36_1 ?_
                  refine re_load H rfl rfl rfl rfl rfl sh_3 rfl ?_
                  refine re_bin rfl rfl rfl rfl rfl rfl rfl ?_
                  refine re_nil ?_
                  refine qe_noPanic ?_
                  refine qe_thenC ?_
                  refine ce_cond rfl (fun h2 => ?_) (fun h2 => ?_)
                  · try simp only [zn1, zn2, zn3, zn4, zn5, zn6] at h2
                    refine ce_seq ?_
                    refine ce_text (tab := []) (soft := 3) (.op 0 (.op 1 .nil)) rfl rfl ?_
                    refine re_move rfl rfl rfl rfl rfl ?_
                    refine re_assign rfl rfl rfl rfl rfl ?_
                    refine re_nil ?_
                    refine qe_thenC ?_
                    refine ce_ret ?_
                    refine qe_block_ret ?_
                    refine qe_then_ret ?_
                    refine qe_then_ret ?_
                    refine qe_block_ret ?_
                    refine qe_then_ret ?_
                    refine qe_end rfl rfl ?_
                    exact ⟨by rw [hf, if_neg (by simp), idxOf_found hlt h2 hno], H.tail⟩
                  · try simp only [zn1, zn2, zn3, zn4, zn5, zn6] at h2
                    refine ce_skip ?_
                    refine qe_block_norm ?_
                    refine qe_thenC ?_
                    refine ce_text (tab := []) (soft := 7) (.op 0 (.op 1 (.op 2 .nil))) rfl rfl ?_
                    refine re_move rfl rfl rfl rfl rfl ?_
                    first | refine re_add rfl rfl rfl rfl rfl rfl (by omega) ?_ | refine re_bin rfl rfl rfl rfl rfl rfl rfl ?_
                    refine re_assign rfl rfl rfl rfl rfl ?_
                    refine re_nil ?_
                    refine qe_round (x := k) (k + 1) ?_ ?_ ?_
                    · first | (dsimp only; omega) | omega
                    · exact (And.intro rfl (And.intro rfl (And.intro rfl trivial)))
                    · exact ⟨H, by omega, fun j hj => by
                        rcases Nat.lt_succ_iff_lt_or_eq.1 hj with h | rfl
                        · exact hno j h
                        · simpa [List.getElem?_eq_getElem hlt] using fun e => h2 e⟩
                · try simp only [zn1, zn2, zn3, zn4, zn5, zn6] at h1
                  refine ce_exit ?_
                  refine qe_then_exit ?_
                  refine qe_then_exit ?_
                  refine qe_block_exit ?_
                  refine qe_thenC ?_
                  refine ce_seq ?_
                  refine ce_text (tab := []) (soft := 1) (.op 0 .nil) rfl rfl ?_
                  refine re_assign rfl rfl rfl rfl rfl ?_
                  refine re_nil ?_
                  refine qe_thenC ?_
                  refine ce_ret ?_
                  refine qe_end rfl rfl ?_
                  obtain rfl : k = r.gs.length := by omega
                  exact ⟨by rw [hf, if_neg (by simp), idxOf_none hno], H.tail⟩

def RS.ch (r : RS) (c : Cmd) : RS := { r with chosen := c }
theorem choose_r {B w : World} {F : List Ent} {h a1 a2 a3 a4 : Nat} {r : RS} (H : Own B (.cells h 54 (r.cellsV (slv (some a1) r.gs.length r.gs.length) (slv (some a2) r.gs.length r.gs.length) (slv (some a3) r.gs.length r.gs.length) (slv (some a4) r.gs.length r.gs.length)) :: .row r.ga r.gc 3 1 r.gs.length (ints r.gs) :: .cells a1 4 (bools r.ans) :: .cells a2 4 (bools r.cnt) :: .cells a3 38 (stamps r.held) :: .cells a4 28 (cmdsC r.cms) :: F) w) (hn : r.gs.length ≤ 1000000) (hc : r.cnt.length = r.gs.length) (hh : r.held.length = r.gs.length) (hm : r.cms.length = r.gs.length) :
    Calls Try.prog 61 #[.pointer (some ⟨h, 0, none⟩)] w fun e w' => e = .returned (.tuple #[]) ∧ Own B (.cells h 54 ((r.ch (r.best r.gs.length).2).cellsV (slv (some a1) r.gs.length r.gs.length) (slv (some a2) r.gs.length r.gs.length) (slv (some a3) r.gs.length r.gs.length) (slv (some a4) r.gs.length r.gs.length)) :: .row r.ga r.gc 3 1 r.gs.length (ints r.gs) :: .cells a1 4 (bools r.ans) :: .cells a2 4 (bools r.cnt) :: .cells a3 38 (stamps r.held) :: .cells a4 28 (cmdsC r.cms) :: F) w' := by
  refine calls_ce (args := [.pointer (some ⟨h, 0, none⟩)]) Try.func61 rfl rfl ?_
  change CE _ _ 56 _ _ [(0, .pointer (some ⟨h, 0, none⟩))] _
  refine ce_seq ?_
  refine ce_text (tab := []) (soft := 127) (.op 0 (.op 1 (.op 2 (.op 3 (.op 4 (.op 5 (.op 6 (.op 7 .nil)))))))) rfl rfl ?_
  refine re_move rfl rfl rfl rfl rfl ?_
  refine re_move rfl rfl rfl rfl rfl ?_
  refine re_nilc rfl rfl rfl rfl rfl ?_
  first | refine re_field0 rfl rfl rfl rfl rfl fo_54_4 ?_ | refine re_field rfl rfl rfl rfl rfl fo_54_4 ?_ | refine re_fieldA rfl rfl rfl rfl rfl fo_54_4 ?_
  refine re_load H rfl rfl rfl rfl rfl sh_28 (by first | exact rdAt_all rfl | (simp only [rdAt, PS.cells, PS.over, GM.cells, Cmd.cells, List.cons_append, List.nil_append, RS.cellsV, RS.ch, stC, List.drop_succ_cons, List.drop_zero, List.take_succ_cons, List.take_zero, List.length_cons, List.length_nil, Nat.zero_add, Nat.reduceAdd, Nat.reduceLeDiff, Nat.le_refl, ↓reduceIte] <;> rfl)) ?_
  refine re_nilc rfl rfl rfl rfl rfl ?_
  first | refine re_field0 rfl rfl rfl rfl rfl fo_54_5 ?_ | refine re_field rfl rfl rfl rfl rfl fo_54_5 ?_ | refine re_fieldA rfl rfl rfl rfl rfl fo_54_5 ?_
  refine re_store H rfl rfl rfl rfl rfl rfl sh_28 rfl rfl rfl ?_
  intro cs w hcs H
  first | rw [setMany_whole rfl] at hcs | simp only [setMany, List.set_cons_zero, List.set_cons_succ, Nat.reduceAdd, Nat.zero_add, PS.cells, PS.over, GM.cells, Cmd.cells, List.cons_append, List.nil_append, RS.cellsV, RS.ch, stC] at hcs
  subst hcs
  refine ⟨(fun h => (nomatch h)), ?_⟩
  refine re_nil ?_
  refine qe_thenC ?_
  refine ce_seq ?_
  refine ce_text (tab := []) (soft := 1) (.op 0 (.op 1 (.op 2 .nil))) rfl rfl ?_
  refine re_build rfl rfl rfl rfl rfl ze_38 pl_38 (by simp only [fillL, setMany, Value.cells, List.getElem?_cons_zero, List.getElem?_cons_succ, List.length_cons, List.length_nil, List.set_cons_zero, List.set_cons_succ, Nat.reduceAdd, Nat.reduceLeDiff, Nat.zero_add, and_self, ↓reduceIte]; rfl) ?_
  refine re_alloc H rfl rfl rfl rfl ze_38 ?_
  intro g2 w H
  refine ⟨(fun h => (nomatch h)), ?_⟩
  refine re_store H rfl rfl rfl rfl rfl rfl sh_38 rfl rfl rfl ?_
  intro cs w hcs H
  first | rw [setMany_whole rfl] at hcs | simp only [setMany, List.set_cons_zero, List.set_cons_succ, Nat.reduceAdd, Nat.zero_add, PS.cells, PS.over, GM.cells, Cmd.cells, List.cons_append, List.nil_append, RS.cellsV, RS.ch, stC] at hcs
  subst hcs
  refine ⟨(fun h => (nomatch h)), ?_⟩
  refine re_nil ?_
  refine qe_thenC ?_
  refine ce_seq ?_
  refine ce_text (tab := []) (soft := 1) (.op 0 .nil) rfl rfl ?_
  refine re_assign rfl rfl rfl rfl rfl ?_
  refine re_nil ?_
  refine qe_thenC ?_
  refine ce_block ?_
  refine ce_loop (α := Nat × ((Int × Int) × Cmd)) (fun ⟨k, b⟩ => [(0, .pointer (some ⟨h, 0, none⟩)), (2, .pointer (some ⟨g2, 0, none⟩)), (3, .int .i64 (k : Int))]) (fun ⟨k, b⟩ w => Own B (.cells g2 38 (stC b.1) :: .cells h 54 ((r.ch b.2).cellsV (slv (some a1) r.gs.length r.gs.length) (slv (some a2) r.gs.length r.gs.length) (slv (some a3) r.gs.length r.gs.length) (slv (some a4) r.gs.length r.gs.length)) :: .row r.ga r.gc 3 1 r.gs.length (ints r.gs) :: .cells a1 4 (bools r.ans) :: .cells a2 4 (bools r.cnt) :: .cells a3 38 (stamps r.held) :: .cells a4 28 (cmdsC r.cms) :: F) w ∧ k ≤ r.gs.length ∧ b = r.best k) (fun ⟨k, b⟩ => r.gs.length - k) (0, ((0, 0), r.mine)) (And.intro rfl (And.intro rfl (And.intro rfl trivial))) ⟨H, Nat.zero_le _, rfl⟩ ?_
  rintro ⟨k, b⟩ w HW
  obtain ⟨H, hk, hb⟩ := HW
  change CE _ _ _ _ _ [(0, .pointer (some ⟨h, 0, none⟩)), (2, .pointer (some ⟨g2, 0, none⟩)), (3, .int .i64 (k : Int))] _
  refine ce_seq ?_
  refine ce_seq ?_
  refine ce_text (tab := []) (soft := 127) (.op 0 (.op 1 (.op 2 (.op 3 (.op 4 (.op 5 (.op 6 .nil))))))) rfl rfl ?_
  refine re_move rfl rfl rfl rfl rfl ?_
  refine re_move rfl rfl rfl rfl rfl ?_
  refine re_nilc rfl rfl rfl rfl rfl ?_
  first | refine re_field0 rfl rfl rfl rfl rfl fo_54_11 ?_ | refine re_field rfl rfl rfl rfl rfl fo_54_11 ?_ | refine re_fieldA rfl rfl rfl rfl rfl fo_54_11 ?_
  refine re_load H rfl rfl rfl rfl rfl sh_51 rfl ?_
  refine re_len rfl rfl rfl rfl rfl ul_51 ?_
  refine re_bin rfl rfl rfl rfl rfl rfl rfl ?_
  refine re_nil ?_
  refine qe_thenC ?_
  refine ce_cond rfl (fun h0 => ?_) (fun h0 => ?_)
  · try simp only [zn1, zn2, zn3, zn4, zn5, zn6] at h0
    refine ce_skip ?_
    refine qe_thenC ?_
    refine ce_seq ?_
    refine ce_block ?_
    refine ce_seq ?_
    refine ce_open (tab := [0, 1, 3, 7, 0, 31, 63, 127, 255, 255, 767, 1791, 3839, 255, 16127, 32511, 65535, 131071]) (soft := 196607) mixed (.op 0 (.op 1 (.op 2 (.op 3 (.op 4 (.op 5 (.op 6 (.op 7 (.op 8 (.op 9 (.op 10 (.op 11 (.op 12 (.op 13 (.op 14 (.op 15 (.op 16 (.op 17 .nil)))))))))))))))))) (by kernel_rfl) H ?_
    intro w H
    have hlt : k < r.gs.length := by omega
    have hsn := best_snoc r k (by omega) (by omega) (by omega)
    refine re_move rfl rfl rfl rfl rfl ?_
    refine re_nilc rfl rfl rfl rfl rfl ?_
    first | refine re_field0 rfl rfl rfl rfl rfl fo_54_11 ?_ | refine re_field rfl rfl rfl rfl rfl fo_54_11 ?_ | refine re_fieldA rfl rfl rfl rfl rfl fo_54_11 ?_
    refine re_load H rfl rfl rfl rfl rfl sh_51 rfl ?_
    refine re_move rfl rfl rfl rfl rfl ?_
    refine re_indexL rfl rfl rfl rfl rfl rfl ul_51 ei_51 (by omega) (by omega) ?_
    refine re_load H rfl rfl rfl rfl rfl sh_4 (rd_one Value.bool (by omega)) ?_
    refine re_move rfl rfl rfl rfl rfl ?_
    refine re_split (fun hg5_7 => ?_) (fun hg5_7 => ?_)
    ·
      refine re_load H rfl rfl rfl rfl rfl sh_38 (by first | exact rdAt_all rfl | (simp only [rdAt, PS.cells, PS.over, GM.cells, Cmd.cells, List.cons_append, List.nil_append, RS.cellsV, RS.ch, stC, List.drop_succ_cons, List.drop_zero, List.take_succ_cons, List.take_zero, List.length_cons, List.length_nil, Nat.zero_add, Nat.reduceAdd, Nat.reduceLeDiff, Nat.le_refl, ↓reduceIte] <;> rfl)) ?_
      refine re_move rfl rfl rfl rfl rfl ?_
      refine re_nilc rfl rfl rfl rfl rfl ?_
      first | refine re_field0 rfl rfl rfl rfl rfl fo_54_12 ?_ | refine re_field rfl rfl rfl rfl rfl fo_54_12 ?_ | refine re_fieldA rfl rfl rfl rfl rfl fo_54_12 ?_
      refine re_load H rfl rfl rfl rfl rfl sh_52 rfl ?_
      refine re_move rfl rfl rfl rfl rfl ?_
      refine re_indexL rfl rfl rfl rfl rfl rfl ul_52 ei_52 (by omega) (by omega) ?_
      refine re_load H rfl rfl rfl rfl rfl sh_38 (rd_flat stC 2 (fun _ => rfl) (by omega)) ?_
      refine re_call en_79 rfl rfl rfl rfl rfl ?_
      refine Calls.mono (lessr_s H) ?_
      rintro e w ⟨rfl, H⟩
      refine ⟨_, rfl, (fun _ => ⟨ancs (i := 16) (j := 15) rfl, ancs (i := 16) (j := 12) rfl, ancs (i := 16) (j := 8) rfl, ancs (i := 16) (j := 6) rfl, ancs (i := 16) (j := 3) rfl, trivial⟩), ?_⟩
      refine re_pickT rfl rfl rfl rfl rfl rfl ?_
      refine re_nil ?_
      refine qe_noPanic ?_
      refine qe_thenC ?_
      refine ce_cond rfl (fun h1 => ?_) (fun h1 => ?_)
      · try simp only [zn1, zn2, zn3, zn4, zn5, zn6] at h1
        refine ce_seq ?_
        refine ce_text (tab := []) (soft := 127) (.op 0 (.op 1 (.op 2 (.op 3 (.op 4 (.op 5 (.op 6 (.op 7 .nil)))))))) rfl rfl ?_
        refine re_move rfl rfl rfl rfl rfl ?_
        refine re_nilc rfl rfl rfl rfl rfl ?_
        first | refine re_field0 rfl rfl rfl rfl rfl fo_54_12 ?_ | refine re_field rfl rfl rfl rfl rfl fo_54_12 ?_ | refine re_fieldA rfl rfl rfl rfl rfl fo_54_12 ?_
        refine re_load H rfl rfl rfl rfl rfl sh_52 rfl ?_
        refine re_move rfl rfl rfl rfl rfl ?_
        refine re_indexL rfl rfl rfl rfl rfl rfl ul_52 ei_52 (by omega) (by omega) ?_
        refine re_load H rfl rfl rfl rfl rfl sh_38 (rd_flat stC 2 (fun _ => rfl) (by omega)) ?_
        refine re_store H rfl rfl rfl rfl rfl rfl sh_38 rfl rfl rfl ?_
        intro cs w hcs H
        first | rw [setMany_whole rfl] at hcs | simp only [setMany, List.set_cons_zero, List.set_cons_succ, Nat.reduceAdd, Nat.zero_add, PS.cells, PS.over, GM.cells, Cmd.cells, List.cons_append, List.nil_append, RS.cellsV, RS.ch, stC] at hcs
        subst hcs
        refine ⟨(fun h => (nomatch h)), ?_⟩
        refine re_nil ?_
        refine qe_thenC ?_
        refine ce_text (tab := []) (soft := 1023) (.op 0 (.op 1 (.op 2 (.op 3 (.op 4 (.op 5 (.op 6 (.op 7 (.op 8 (.op 9 (.op 10 .nil))))))))))) rfl rfl ?_
        refine re_move rfl rfl rfl rfl rfl ?_
        refine re_move rfl rfl rfl rfl rfl ?_
        refine re_nilc rfl rfl rfl rfl rfl ?_
        first | refine re_field0 rfl rfl rfl rfl rfl fo_54_13 ?_ | refine re_field rfl rfl rfl rfl rfl fo_54_13 ?_ | refine re_fieldA rfl rfl rfl rfl rfl fo_54_13 ?_
        refine re_load H rfl rfl rfl rfl rfl sh_44 rfl ?_
        refine re_move rfl rfl rfl rfl rfl ?_
        refine re_indexL rfl rfl rfl rfl rfl rfl ul_44 ei_44 (by omega) (by omega) ?_
        refine re_load H rfl rfl rfl rfl rfl sh_28 (rd_flat Cmd.cells 9 (fun _ => rfl) (by omega)) ?_
        refine re_nilc rfl rfl rfl rfl rfl ?_
        first | refine re_field0 rfl rfl rfl rfl rfl fo_54_5 ?_ | refine re_field rfl rfl rfl rfl rfl fo_54_5 ?_ | refine re_fieldA rfl rfl rfl rfl rfl fo_54_5 ?_
        refine re_store H rfl rfl rfl rfl rfl rfl sh_28 rfl rfl rfl ?_
        intro cs w hcs H
        first | rw [setMany_whole rfl] at hcs | simp only [setMany, List.set_cons_zero, List.set_cons_succ, Nat.reduceAdd, Nat.zero_add, PS.cells, PS.over, GM.cells, Cmd.cells, List.cons_append, List.nil_append, RS.cellsV, RS.ch, stC] at hcs
        subst hcs
        refine ⟨(fun h => (nomatch h)), ?_⟩
        refine re_nil ?_
        refine qe_block_norm ?_
        refine qe_thenC ?_
        refine ce_text (tab := []) (soft := 7) (.op 0 (.op 1 (.op 2 .nil))) rfl rfl ?_
        refine re_move rfl rfl rfl rfl rfl ?_
        first | refine re_add rfl rfl rfl rfl rfl rfl (by omega) ?_ | refine re_bin rfl rfl rfl rfl rfl rfl rfl ?_
        refine re_assign rfl rfl rfl rfl rfl ?_
        refine re_nil ?_
        refine qe_round (x := (k, b)) (k + 1, r.best (k + 1)) ?_ ?_ ?_
        · first | (dsimp only; omega) | omega
        · exact (And.intro rfl (And.intro rfl (And.intro rfl trivial)))
        ·
          refine ⟨?_, by omega, rfl⟩
          rw [hsn, chStep, if_pos (by rw [← hb]; simp only [hg5_7, Bool.true_and]; exact h1)]
          exact H
      · try simp only [zn1, zn2, zn3, zn4, zn5, zn6] at h1
        refine ce_skip ?_
        refine qe_block_norm ?_
        refine qe_thenC ?_
        refine ce_text (tab := []) (soft := 7) (.op 0 (.op 1 (.op 2 .nil))) rfl rfl ?_
        refine re_move rfl rfl rfl rfl rfl ?_
        first | refine re_add rfl rfl rfl rfl rfl rfl (by omega) ?_ | refine re_bin rfl rfl rfl rfl rfl rfl rfl ?_
        refine re_assign rfl rfl rfl rfl rfl ?_
        refine re_nil ?_
        refine qe_round (x := (k, b)) (k + 1, r.best (k + 1)) ?_ ?_ ?_
        · first | (dsimp only; omega) | omega
        · exact (And.intro rfl (And.intro rfl (And.intro rfl trivial)))
        ·
          refine ⟨?_, by omega, rfl⟩
          rw [hsn, chStep, if_neg (by rw [← hb]; simp only [hg5_7, Bool.true_and]; simp [h1]), ← hb]
          exact H
    ·
      refine re_skip1 rfl rfl rfl ?_
      refine re_skip1 rfl rfl rfl ?_
      refine re_skip1 rfl rfl rfl ?_
      refine re_skip1 rfl rfl rfl ?_
      refine re_skip1 rfl rfl rfl ?_
      refine re_skip1 rfl rfl rfl ?_
      refine re_skip1 rfl rfl rfl ?_
      refine re_skip1 rfl rfl rfl ?_
      refine re_skip1 rfl rfl rfl ?_
      refine re_pickF rfl rfl rfl rfl rfl rfl ?_
      refine re_nil ?_
      refine qe_noPanic ?_
      refine qe_thenC ?_
      refine ce_condF rfl ?_
      refine ce_skip ?_
      refine qe_block_norm ?_
      refine qe_thenC ?_
      refine ce_text (tab := []) (soft := 7) (.op 0 (.op 1 (.op 2 .nil))) rfl rfl ?_
      refine re_move rfl rfl rfl rfl rfl ?_
      first | refine re_add rfl rfl rfl rfl rfl rfl (by omega) ?_ | refine re_bin rfl rfl rfl rfl rfl rfl rfl ?_
      refine re_assign rfl rfl rfl rfl rfl ?_
      refine re_nil ?_
      refine qe_round (x := (k, b)) (k + 1, r.best (k + 1)) ?_ ?_ ?_
      · first | (dsimp only; omega) | omega
      · exact (And.intro rfl (And.intro rfl (And.intro rfl trivial)))
      ·
        refine ⟨?_, by omega, rfl⟩
        rw [hsn, chStep, if_neg (by simp only [hg5_7, Bool.false_and]; simp), ← hb]
        exact H
  · try simp only [zn1, zn2, zn3, zn4, zn5, zn6] at h0
    refine ce_exit ?_
    refine qe_then_exit ?_
    refine qe_then_exit ?_
    refine qe_block_exit ?_
    refine qe_end0 rfl ?_
    obtain rfl : k = r.gs.length := by omega
    subst hb
    exact ⟨rfl, H.tail⟩
end Go.Proofs.Ytofaoblfemfkiaa
