/- Parts of the proof: EA EB EC ED EE EF EG EH EI EJ EK EL. -/
import Derived.Test.YtofaoblfemfkiaaBe3
set_option linter.unusedVariables false
set_option linter.unusedSimpArgs false
namespace Go.Proofs.Ytofaoblfemfkiaa
open Go Go.RowKit Go.Fw
set_option linter.unusedSimpArgs false
set_option linter.unusedVariables false
set_option maxRecDepth 4000
set_option maxHeartbeats 2000000
theorem en_80 : Enterable Try.prog 80 := ⟨Try.f80, Try.func80, rfl, by decide⟩
theorem fk_121 : flatK Try.prog 9 121 = some [.i, .i, .i, .i, .i, .i, .i, .s, .i, .i, .i, .i, .i, .b] := by kernel_rfl
theorem fo_121_0 : fOff Try.prog 121 0 = some 0 := by kernel_rfl
theorem fo_121_1 : fOff Try.prog 121 1 = some 2 := by kernel_rfl
theorem fo_121_2 : fOff Try.prog 121 2 = some 4 := by kernel_rfl
theorem fo_121_3 : fOff Try.prog 121 3 = some 13 := by kernel_rfl
theorem ng_121 : notGuarded Try.prog 121 = true := by kernel_rfl
theorem pl_121 : placesOf Try.prog 121 = some [(0, 2), (2, 2), (4, 9), (13, 1)] := by kernel_rfl
theorem sh_121 : shapeOf Try.prog 121 = some (true, 14) := by kernel_rfl
theorem sh_29 : shapeOf Try.prog 29 = some (false, 1) := by kernel_rfl
theorem sh_44 : shapeOf Try.prog 44 = some (false, 1) := by kernel_rfl
theorem sh_60 : shapeOf Try.prog 60 = some (false, 1) := by kernel_rfl
theorem sh_61 : shapeOf Try.prog 61 = some (false, 1) := by kernel_rfl
theorem sh_64 : shapeOf Try.prog 64 = some (true, 11) := by kernel_rfl
theorem ze_121 : zeroC Try.prog 121 = some [.int .i64 0, .int .i64 0, .int .i64 0, .int .i64 0, .int .i64 0, .int .i64 0, .int .i64 0, .string ByteArray.empty, .int .i64 0, .int .i64 0, .int .i64 0, .int .i64 0, .int .i64 0, .bool false] := by kernel_rfl

/-- An acceptor's instance. -/
structure Inst where
  (p0 p1 a0 a1 : Int)
  cmd : Cmd
  d : Bool
def Inst.cells (i : Inst) : List Value := [.int .i64 i.p0, .int .i64 i.p1, .int .i64 i.a0, .int .i64 i.a1] ++ i.cmd.cells ++ [.bool i.d]
def Inst.zero : Inst := ⟨0, 0, 0, 0, Cmd.zero, false⟩
def Inst.refuse (i : Inst) (s0 s1 : Int) : Option GM :=
  if i.d then some { GM.zero with kind := 16, cmd := i.cmd }
  else if stampLess s0 s1 i.p0 i.p1 then some { GM.zero with kind := 14, s0 := i.p0, s1 := i.p1 } else none
def Inst.promised (i : Inst) (s0 s1 : Int) : Inst := { i with p0 := s0, p1 := s1 }
def promiseM (i : Inst) (s0 s1 : Int) : GM := { GM.zero with kind := 13, s0 := s0, s1 := s1, h0 := i.a0, h1 := i.a1, cmd := i.cmd }
def acceptedM (s0 s1 : Int) : GM := { GM.zero with kind := 15, s0 := s0, s1 := s1 }
def Inst.prep (i : Inst) (s0 s1 : Int) : Inst × GM := match i.refuse s0 s1 with
  | some m => (i, m)
  | none => (i.promised s0 s1, promiseM i s0 s1)
def Inst.acc (i : Inst) (s0 s1 : Int) (c : Cmd) : Inst × GM := match i.refuse s0 s1 with
  | some m => (i, m)
  | none => (⟨s0, s1, s0, s1, c, false⟩, acceptedM s0 s1)
def Inst.learn (i : Inst) (c : Cmd) : Inst := if i.d then i else ⟨0, 0, 0, 0, c, true⟩

theorem refused_s {B w : World} {F : List Ent} {i : Inst} {s0 s1 : Int} (H : Own B F w) :
    Calls Try.prog 80 #[.agg i.cells.toArray, .agg #[.int .i64 s0, .int .i64 s1]] w fun e w' => e = .returned (.tuple #[.agg ((i.refuse s0 s1).getD GM.zero).cells.toArray, .bool (i.refuse s0 s1).isSome]) ∧ Own B F w' := by
  refine calls_ce (args := [.agg i.cells.toArray, .agg #[.int .i64 s0, .int .i64 s1]]) Try.func80 rfl rfl ?_
  change CE _ _ 19 _ _ [(0, .agg i.cells.toArray), (1, .agg #[.int .i64 s0, .int .i64 s1])] _
  refine ce_seq ?_
  refine ce_text (tab := []) (soft := 8) (.op 0 (.op 1 (.op 2 (.op 3 .nil)))) rfl rfl ?_
  refine re_box H rfl rfl rfl rfl rfl rfl ?_
  intro g2 w H
  refine ⟨(fun h => (nomatch h)), ?_⟩
  refine re_box H rfl rfl rfl rfl rfl rfl ?_
  intro g3 w H
  refine ⟨(fun h => (nomatch h)), ?_⟩
  refine re_alloc H rfl rfl rfl rfl ze_46 ?_
  intro g4 w H
  refine ⟨(fun h => (nomatch h)), ?_⟩
  refine re_assign rfl rfl rfl rfl rfl ?_
  refine re_nil ?_
  refine qe_thenC ?_
  refine ce_seq ?_
  refine ce_seq ?_
  refine ce_text (tab := []) (soft := 3) (.op 0 (.op 1 .nil)) rfl rfl ?_
  first | refine re_field0 rfl rfl rfl rfl rfl fo_121_3 ?_ | refine re_field rfl rfl rfl rfl rfl fo_121_3 ?_ | refine re_fieldA rfl rfl rfl rfl rfl fo_121_3 ?_
  refine re_load H rfl rfl rfl rfl rfl sh_4 rfl ?_
  refine re_nil ?_
  refine qe_thenC ?_
  refine ce_cond rfl (fun h0 => ?_) (fun h0 => ?_)
  · try simp only [zn1, zn2, zn3, zn4, zn5, zn6] at h0
    refine ce_seq ?_
    refine ce_text (tab := []) (soft := 23) (.op 0 (.op 1 (.op 2 (.op 3 (.op 4 .nil))))) rfl rfl ?_
    first | refine re_field0 rfl rfl rfl rfl rfl fo_121_2 ?_ | refine re_field rfl rfl rfl rfl rfl fo_121_2 ?_ | refine re_fieldA rfl rfl rfl rfl rfl fo_121_2 ?_
    refine re_load H rfl rfl rfl rfl rfl sh_28 (by first | exact rdAt_all rfl | (simp only [rdAt, PS.cells, PS.over, GM.cells, Cmd.cells, List.cons_append, List.nil_append, Inst.cells, List.drop_succ_cons, List.drop_zero, List.take_succ_cons, List.take_zero, List.length_cons, List.length_nil, Nat.zero_add, Nat.reduceAdd, Nat.reduceLeDiff, Nat.le_refl, ↓reduceIte] <;> rfl)) ?_
    refine re_build rfl rfl rfl rfl rfl ze_46 pl_46 (by simp only [fillL, setMany, Value.cells, List.getElem?_cons_zero, List.getElem?_cons_succ, List.length_cons, List.length_nil, List.set_cons_zero, List.set_cons_succ, Nat.reduceAdd, Nat.reduceLeDiff, Nat.zero_add, and_self, ↓reduceIte]; rfl) ?_
    refine re_store H rfl rfl rfl rfl rfl rfl sh_46 rfl rfl rfl ?_
    intro cs w hcs H
    first | rw [setMany_whole rfl] at hcs | simp only [setMany, List.set_cons_zero, List.set_cons_succ, Nat.reduceAdd, Nat.zero_add, PS.cells, PS.over, GM.cells, Cmd.cells, List.cons_append, List.nil_append, Inst.cells] at hcs
    subst hcs
    refine ⟨(fun h => (nomatch h)), ?_⟩
    refine re_assign rfl rfl rfl rfl rfl ?_
    refine re_nil ?_
    refine qe_thenC ?_
    refine ce_ret ?_
    refine qe_then_ret ?_
    refine qe_endCell2 H rfl rfl rfl sh_46 (by first | exact rdAt_all rfl | (simp only [rdAt, PS.cells, PS.over, GM.cells, Cmd.cells, List.cons_append, List.nil_append, Inst.cells, List.drop_succ_cons, List.drop_zero, List.take_succ_cons, List.take_zero, List.length_cons, List.length_nil, Nat.zero_add, Nat.reduceAdd, Nat.reduceLeDiff, Nat.le_refl, ↓reduceIte] <;> rfl)) ?_
    exact ⟨by simp only [Inst.refuse, h0, if_true, Option.getD_some, Option.isSome_some]; rfl, H.drop 3⟩
  · try simp only [zn1, zn2, zn3, zn4, zn5, zn6] at h0
    refine ce_skip ?_
    refine qe_thenC ?_
    refine ce_seq ?_
    refine ce_seq ?_
    refine ce_text (tab := []) (soft := 7) (.op 0 (.op 1 (.op 2 (.op 3 .nil)))) rfl rfl ?_
    refine re_load H rfl rfl rfl rfl rfl sh_38 (by first | exact rdAt_all rfl | (simp only [rdAt, PS.cells, PS.over, GM.cells, Cmd.cells, List.cons_append, List.nil_append, Inst.cells, List.drop_succ_cons, List.drop_zero, List.take_succ_cons, List.take_zero, List.length_cons, List.length_nil, Nat.zero_add, Nat.reduceAdd, Nat.reduceLeDiff, Nat.le_refl, ↓reduceIte] <;> rfl)) ?_
    first | refine re_field0 rfl rfl rfl rfl rfl fo_121_0 ?_ | refine re_field rfl rfl rfl rfl rfl fo_121_0 ?_ | refine re_fieldA rfl rfl rfl rfl rfl fo_121_0 ?_
    refine re_load H rfl rfl rfl rfl rfl sh_38 (by first | exact rdAt_all rfl | (simp only [rdAt, PS.cells, PS.over, GM.cells, Cmd.cells, List.cons_append, List.nil_append, Inst.cells, List.drop_succ_cons, List.drop_zero, List.take_succ_cons, List.take_zero, List.length_cons, List.length_nil, Nat.zero_add, Nat.reduceAdd, Nat.reduceLeDiff, Nat.le_refl, ↓reduceIte] <;> rfl)) ?_
    refine re_call en_84 rfl rfl rfl rfl rfl ?_
    refine Calls.mono (less_s H) ?_
    rintro e w ⟨rfl, H⟩
    refine ⟨_, rfl, (fun h => (nomatch h)), ?_⟩
    refine re_nil ?_
    refine qe_thenC ?_
    refine ce_cond rfl (fun h1 => ?_) (fun h1 => ?_)
    · try simp only [zn1, zn2, zn3, zn4, zn5, zn6] at h1
      refine ce_seq ?_
      refine ce_text (tab := []) (soft := 23) (.op 0 (.op 1 (.op 2 (.op 3 (.op 4 .nil))))) rfl rfl ?_
      first | refine re_field0 rfl rfl rfl rfl rfl fo_121_0 ?_ | refine re_field rfl rfl rfl rfl rfl fo_121_0 ?_ | refine re_fieldA rfl rfl rfl rfl rfl fo_121_0 ?_
      refine re_load H rfl rfl rfl rfl rfl sh_38 (by first | exact rdAt_all rfl | (simp only [rdAt, PS.cells, PS.over, GM.cells, Cmd.cells, List.cons_append, List.nil_append, Inst.cells, List.drop_succ_cons, List.drop_zero, List.take_succ_cons, List.take_zero, List.length_cons, List.length_nil, Nat.zero_add, Nat.reduceAdd, Nat.reduceLeDiff, Nat.le_refl, ↓reduceIte] <;> rfl)) ?_
      refine re_build rfl rfl rfl rfl rfl ze_46 pl_46 (by simp only [fillL, setMany, Value.cells, List.getElem?_cons_zero, List.getElem?_cons_succ, List.length_cons, List.length_nil, List.set_cons_zero, List.set_cons_succ, Nat.reduceAdd, Nat.reduceLeDiff, Nat.zero_add, and_self, ↓reduceIte]; rfl) ?_
      refine re_store H rfl rfl rfl rfl rfl rfl sh_46 rfl rfl rfl ?_
      intro cs w hcs H
      first | rw [setMany_whole rfl] at hcs | simp only [setMany, List.set_cons_zero, List.set_cons_succ, Nat.reduceAdd, Nat.zero_add, PS.cells, PS.over, GM.cells, Cmd.cells, List.cons_append, List.nil_append, Inst.cells] at hcs
      subst hcs
      refine ⟨(fun h => (nomatch h)), ?_⟩
      refine re_assign rfl rfl rfl rfl rfl ?_
      refine re_nil ?_
      refine qe_thenC ?_
      refine ce_ret ?_
      refine qe_then_ret ?_
      refine qe_endCell2 H rfl rfl rfl sh_46 (by first | exact rdAt_all rfl | (simp only [rdAt, PS.cells, PS.over, GM.cells, Cmd.cells, List.cons_append, List.nil_append, Inst.cells, List.drop_succ_cons, List.drop_zero, List.take_succ_cons, List.take_zero, List.length_cons, List.length_nil, Nat.zero_add, Nat.reduceAdd, Nat.reduceLeDiff, Nat.le_refl, ↓reduceIte] <;> rfl)) ?_
      exact ⟨by simp only [Inst.refuse, h0, h1, if_true, Bool.false_eq_true, if_false, Option.getD_some, Option.isSome_some]; rfl, H.drop 3⟩
    · try simp only [zn1, zn2, zn3, zn4, zn5, zn6] at h1
      refine ce_skip ?_
      refine qe_thenC ?_
      refine ce_seq ?_
      refine ce_text (tab := []) (soft := 5) (.op 0 (.op 1 (.op 2 .nil))) rfl rfl ?_
      refine re_build rfl rfl rfl rfl rfl ze_46 pl_46 (by simp only [fillL, setMany, Value.cells, List.getElem?_cons_zero, List.getElem?_cons_succ, List.length_cons, List.length_nil, List.set_cons_zero, List.set_cons_succ, Nat.reduceAdd, Nat.reduceLeDiff, Nat.zero_add, and_self, ↓reduceIte]; rfl) ?_
      refine re_store H rfl rfl rfl rfl rfl rfl sh_46 rfl rfl rfl ?_
      intro cs w hcs H
      first | rw [setMany_whole rfl] at hcs | simp only [setMany, List.set_cons_zero, List.set_cons_succ, Nat.reduceAdd, Nat.zero_add, PS.cells, PS.over, GM.cells, Cmd.cells, List.cons_append, List.nil_append, Inst.cells] at hcs
      subst hcs
      refine ⟨(fun h => (nomatch h)), ?_⟩
      refine re_assign rfl rfl rfl rfl rfl ?_
      refine re_nil ?_
      refine qe_thenC ?_
      refine ce_ret ?_
      refine qe_endCell2 H rfl rfl rfl sh_46 (by first | exact rdAt_all rfl | (simp only [rdAt, PS.cells, PS.over, GM.cells, Cmd.cells, List.cons_append, List.nil_append, Inst.cells, List.drop_succ_cons, List.drop_zero, List.take_succ_cons, List.take_zero, List.length_cons, List.length_nil, Nat.zero_add, Nat.reduceAdd, Nat.reduceLeDiff, Nat.le_refl, ↓reduceIte] <;> rfl)) ?_
      exact ⟨by simp only [Inst.refuse, h0, h1, Bool.false_eq_true, if_false, Option.getD_none, Option.isSome_none]; rfl, H.drop 3⟩

theorem prepareA_s {B w : World} {F : List Ent} {i : Inst} {s0 s1 : Int} (H : Own B F w) :
    Calls Try.prog 65 #[.agg i.cells.toArray, .agg #[.int .i64 s0, .int .i64 s1]] w fun e w' => ∃ b, e = .returned (.tuple #[.agg (i.prep s0 s1).1.cells.toArray, .agg (i.prep s0 s1).2.cells.toArray, .bool b]) ∧ Own B F w' := by
  refine calls_ce (args := [.agg i.cells.toArray, .agg #[.int .i64 s0, .int .i64 s1]]) Try.func65 rfl rfl ?_
  change CE _ _ 32 _ _ [(0, .agg i.cells.toArray), (1, .agg #[.int .i64 s0, .int .i64 s1])] _
  refine ce_seq ?_
  refine ce_text (tab := []) (soft := 16) (.op 0 (.op 1 (.op 2 (.op 3 (.op 4 .nil))))) rfl rfl ?_
  refine re_box H rfl rfl rfl rfl rfl rfl ?_
  intro g2 w H
  refine ⟨(fun h => (nomatch h)), ?_⟩
  refine re_box H rfl rfl rfl rfl rfl rfl ?_
  intro g3 w H
  refine ⟨(fun h => (nomatch h)), ?_⟩
  refine re_alloc H rfl rfl rfl rfl ze_121 ?_
  intro g4 w H
  refine ⟨(fun h => (nomatch h)), ?_⟩
  refine re_alloc H rfl rfl rfl rfl ze_46 ?_
  intro g5 w H
  refine ⟨(fun h => (nomatch h)), ?_⟩
  refine re_assign rfl rfl rfl rfl rfl ?_
  refine re_nil ?_
  refine qe_thenC ?_
  refine ce_seq ?_
  refine ce_seq ?_
  refine ce_text (tab := []) (soft := 315) (.op 0 (.op 1 (.op 2 (.op 3 (.op 4 (.op 5 (.op 6 (.op 7 (.op 8 .nil))))))))) rfl rfl ?_
  refine re_load H rfl rfl rfl rfl rfl sh_121 (by first | exact rdAt_all rfl | (simp only [rdAt, PS.cells, PS.over, GM.cells, Cmd.cells, List.cons_append, List.nil_append, Inst.cells, List.drop_succ_cons, List.drop_zero, List.take_succ_cons, List.take_zero, List.length_cons, List.length_nil, Nat.zero_add, Nat.reduceAdd, Nat.reduceLeDiff, Nat.le_refl, ↓reduceIte] <;> rfl)) ?_
  refine re_load H rfl rfl rfl rfl rfl sh_38 (by first | exact rdAt_all rfl | (simp only [rdAt, PS.cells, PS.over, GM.cells, Cmd.cells, List.cons_append, List.nil_append, Inst.cells, List.drop_succ_cons, List.drop_zero, List.take_succ_cons, List.take_zero, List.length_cons, List.length_nil, Nat.zero_add, Nat.reduceAdd, Nat.reduceLeDiff, Nat.le_refl, ↓reduceIte] <;> rfl)) ?_
  refine re_call en_80 rfl rfl rfl rfl rfl ?_
  refine Calls.mono (refused_s H) ?_
  rintro e w ⟨rfl, H⟩
  refine ⟨_, rfl, (fun h => (nomatch h)), ?_⟩
  refine re_move rfl rfl rfl rfl rfl ?_
  refine re_extract rfl rfl rfl rfl rfl rfl ?_
  refine re_extract rfl rfl rfl rfl rfl rfl ?_
  refine re_alloc H rfl rfl rfl rfl ze_46 ?_
  intro g7 w H
  refine ⟨(fun h => (nomatch h)), ?_⟩
  refine re_store H rfl rfl rfl rfl rfl rfl sh_46 rfl rfl rfl ?_
  intro cs w hcs H
  first | rw [setMany_whole rfl] at hcs | simp only [setMany, List.set_cons_zero, List.set_cons_succ, Nat.reduceAdd, Nat.zero_add, PS.cells, PS.over, GM.cells, Cmd.cells, List.cons_append, List.nil_append, Inst.cells] at hcs
  subst hcs
  refine ⟨(fun h => (nomatch h)), ?_⟩
  refine re_assign rfl rfl rfl rfl rfl ?_
  refine re_nil ?_
  refine qe_thenC ?_
  refine ce_seq ?_
  refine ce_text (tab := []) (soft := 1) (.op 0 .nil) rfl rfl ?_
  refine re_move rfl rfl rfl rfl rfl ?_
  refine re_nil ?_
  refine qe_thenC ?_
  refine ce_cond rfl (fun h0 => ?_) (fun h0 => ?_)
  · try simp only [zn1, zn2, zn3, zn4, zn5, zn6] at h0
    obtain ⟨m, hm⟩ := Option.isSome_iff_exists.1 h0
    simp only [hm, Option.getD_some] at H
    refine ce_seq ?_
    refine ce_open (tab := [0, 0, 1, 7, 15]) (soft := 19) mixed (.op 0 (.op 1 (.op 2 (.op 3 (.op 4 .nil))))) (by kernel_rfl) H ?_
    intro w H
    refine re_load H rfl rfl rfl rfl rfl sh_121 (by first | exact rdAt_all rfl | (simp only [rdAt, PS.cells, PS.over, GM.cells, Cmd.cells, List.cons_append, List.nil_append, Inst.cells, List.drop_succ_cons, List.drop_zero, List.take_succ_cons, List.take_zero, List.length_cons, List.length_nil, Nat.zero_add, Nat.reduceAdd, Nat.reduceLeDiff, Nat.le_refl, ↓reduceIte] <;> rfl)) ?_
    refine re_load H rfl rfl rfl rfl rfl sh_46 (by first | exact rdAt_all rfl | (simp only [rdAt, PS.cells, PS.over, GM.cells, Cmd.cells, List.cons_append, List.nil_append, Inst.cells, List.drop_succ_cons, List.drop_zero, List.take_succ_cons, List.take_zero, List.length_cons, List.length_nil, Nat.zero_add, Nat.reduceAdd, Nat.reduceLeDiff, Nat.le_refl, ↓reduceIte] <;> rfl)) ?_
    refine re_store H rfl rfl rfl rfl rfl rfl sh_121 rfl rfl rfl ?_
    intro cs w hcs H
    first | rw [setMany_whole rfl] at hcs | simp only [setMany, List.set_cons_zero, List.set_cons_succ, Nat.reduceAdd, Nat.zero_add, PS.cells, PS.over, GM.cells, Cmd.cells, List.cons_append, List.nil_append, Inst.cells] at hcs
    subst hcs
    refine ⟨(fun _ => ⟨fun _ => still_load H sh_46 (by first | exact rdAt_all rfl | (simp only [rdAt, PS.cells, PS.over, GM.cells, Cmd.cells, List.cons_append, List.nil_append, Inst.cells, List.drop_succ_cons, List.drop_zero, List.take_succ_cons, List.take_zero, List.length_cons, List.length_nil, Nat.zero_add, Nat.reduceAdd, Nat.reduceLeDiff, Nat.le_refl, ↓reduceIte] <;> rfl)), ancs (i := 2) (j := 0) rfl, trivial⟩), ?_⟩
    refine re_store H rfl rfl rfl rfl rfl rfl sh_46 rfl rfl rfl ?_
    intro cs w hcs H
    first | rw [setMany_whole rfl] at hcs | simp only [setMany, List.set_cons_zero, List.set_cons_succ, Nat.reduceAdd, Nat.zero_add, PS.cells, PS.over, GM.cells, Cmd.cells, List.cons_append, List.nil_append, Inst.cells] at hcs
    subst hcs
    refine ⟨(fun _ => ⟨ancs (i := 3) (j := 1) rfl, ancs (i := 3) (j := 0) rfl, trivial⟩), ?_⟩
    refine re_assign rfl rfl rfl rfl rfl ?_
    refine re_nil ?_
    refine qe_noPanic ?_
    refine qe_thenC ?_
    refine ce_ret ?_
    refine qe_then_ret ?_
    refine qe_endCell3 H rfl rfl rfl rfl sh_121 sh_46 (by first | exact rdAt_all rfl | (simp only [rdAt, PS.cells, PS.over, GM.cells, Cmd.cells, List.cons_append, List.nil_append, Inst.cells, List.drop_succ_cons, List.drop_zero, List.take_succ_cons, List.take_zero, List.length_cons, List.length_nil, Nat.zero_add, Nat.reduceAdd, Nat.reduceLeDiff, Nat.le_refl, ↓reduceIte] <;> rfl)) (by first | exact rdAt_all rfl | (simp only [rdAt, PS.cells, PS.over, GM.cells, Cmd.cells, List.cons_append, List.nil_append, Inst.cells, List.drop_succ_cons, List.drop_zero, List.take_succ_cons, List.take_zero, List.length_cons, List.length_nil, Nat.zero_add, Nat.reduceAdd, Nat.reduceLeDiff, Nat.le_refl, ↓reduceIte] <;> rfl)) ?_
    exact ⟨_, by simp only [Inst.prep, hm]; rfl, H.drop 5⟩
  · try simp only [zn1, zn2, zn3, zn4, zn5, zn6] at h0
    have hm : i.refuse s0 s1 = none := by simpa using h0
    simp only [hm, Option.getD_none] at H
    refine ce_skip ?_
    refine qe_thenC ?_
    refine ce_seq ?_
    refine ce_text (tab := []) (soft := 1) (.op 0 (.op 1 (.op 2 .nil))) rfl rfl ?_
    refine re_load H rfl rfl rfl rfl rfl sh_121 (by first | exact rdAt_all rfl | (simp only [rdAt, PS.cells, PS.over, GM.cells, Cmd.cells, List.cons_append, List.nil_append, Inst.cells, List.drop_succ_cons, List.drop_zero, List.take_succ_cons, List.take_zero, List.length_cons, List.length_nil, Nat.zero_add, Nat.reduceAdd, Nat.reduceLeDiff, Nat.le_refl, ↓reduceIte] <;> rfl)) ?_
    refine re_alloc H rfl rfl rfl rfl ze_121 ?_
    intro g9 w H
    refine ⟨(fun h => (nomatch h)), ?_⟩
    refine re_store H rfl rfl rfl rfl rfl rfl sh_121 rfl rfl rfl ?_
    intro cs w hcs H
    first | rw [setMany_whole rfl] at hcs | simp only [setMany, List.set_cons_zero, List.set_cons_succ, Nat.reduceAdd, Nat.zero_add, PS.cells, PS.over, GM.cells, Cmd.cells, List.cons_append, List.nil_append, Inst.cells] at hcs
    subst hcs
    refine ⟨(fun h => (nomatch h)), ?_⟩
    refine re_nil ?_
    refine qe_thenC ?_
    refine ce_seq ?_
    refine ce_text (tab := []) (soft := 3) (.op 0 (.op 1 (.op 2 .nil))) rfl rfl ?_
    refine re_load H rfl rfl rfl rfl rfl sh_38 (by first | exact rdAt_all rfl | (simp only [rdAt, PS.cells, PS.over, GM.cells, Cmd.cells, List.cons_append, List.nil_append, Inst.cells, List.drop_succ_cons, List.drop_zero, List.take_succ_cons, List.take_zero, List.length_cons, List.length_nil, Nat.zero_add, Nat.reduceAdd, Nat.reduceLeDiff, Nat.le_refl, ↓reduceIte] <;> rfl)) ?_
    first | refine re_field0 rfl rfl rfl rfl rfl fo_121_0 ?_ | refine re_field rfl rfl rfl rfl rfl fo_121_0 ?_ | refine re_fieldA rfl rfl rfl rfl rfl fo_121_0 ?_
    refine re_store H rfl rfl rfl rfl rfl rfl sh_38 rfl rfl rfl ?_
    intro cs w hcs H
    first | rw [setMany_whole rfl] at hcs | simp only [setMany, List.set_cons_zero, List.set_cons_succ, Nat.reduceAdd, Nat.zero_add, PS.cells, PS.over, GM.cells, Cmd.cells, List.cons_append, List.nil_append, Inst.cells] at hcs
    subst hcs
    refine ⟨(fun h => (nomatch h)), ?_⟩
    refine re_nil ?_
    refine qe_thenC ?_
    refine ce_seq ?_
    refine ce_open (tab := [0, 0, 0, 4, 0, 16, 62, 0, 0, 384, 1, 1151, 4095]) (soft := 5119) mixed (.op 0 (.op 1 (.op 2 (.op 3 (.op 4 (.op 5 (.op 6 (.op 7 (.op 8 (.op 9 (.op 10 (.op 11 (.op 12 .nil))))))))))))) (by kernel_rfl) H ?_
    intro w H
    refine re_load H rfl rfl rfl rfl rfl sh_121 (by first | exact rdAt_all rfl | (simp only [rdAt, PS.cells, PS.over, GM.cells, Cmd.cells, List.cons_append, List.nil_append, Inst.cells, List.drop_succ_cons, List.drop_zero, List.take_succ_cons, List.take_zero, List.length_cons, List.length_nil, Nat.zero_add, Nat.reduceAdd, Nat.reduceLeDiff, Nat.le_refl, ↓reduceIte] <;> rfl)) ?_
    refine re_load H rfl rfl rfl rfl rfl sh_38 (by first | exact rdAt_all rfl | (simp only [rdAt, PS.cells, PS.over, GM.cells, Cmd.cells, List.cons_append, List.nil_append, Inst.cells, List.drop_succ_cons, List.drop_zero, List.take_succ_cons, List.take_zero, List.length_cons, List.length_nil, Nat.zero_add, Nat.reduceAdd, Nat.reduceLeDiff, Nat.le_refl, ↓reduceIte] <;> rfl)) ?_
    first | refine re_field0 rfl rfl rfl rfl rfl fo_121_1 ?_ | refine re_field rfl rfl rfl rfl rfl fo_121_1 ?_ | refine re_fieldA rfl rfl rfl rfl rfl fo_121_1 ?_
    refine re_load H rfl rfl rfl rfl rfl sh_38 (by first | exact rdAt_all rfl | (simp only [rdAt, PS.cells, PS.over, GM.cells, Cmd.cells, List.cons_append, List.nil_append, Inst.cells, List.drop_succ_cons, List.drop_zero, List.take_succ_cons, List.take_zero, List.length_cons, List.length_nil, Nat.zero_add, Nat.reduceAdd, Nat.reduceLeDiff, Nat.le_refl, ↓reduceIte] <;> rfl)) ?_
    first | refine re_field0 rfl rfl rfl rfl rfl fo_121_2 ?_ | refine re_field rfl rfl rfl rfl rfl fo_121_2 ?_ | refine re_fieldA rfl rfl rfl rfl rfl fo_121_2 ?_
    refine re_load H rfl rfl rfl rfl rfl sh_28 (by first | exact rdAt_all rfl | (simp only [rdAt, PS.cells, PS.over, GM.cells, Cmd.cells, List.cons_append, List.nil_append, Inst.cells, List.drop_succ_cons, List.drop_zero, List.take_succ_cons, List.take_zero, List.length_cons, List.length_nil, Nat.zero_add, Nat.reduceAdd, Nat.reduceLeDiff, Nat.le_refl, ↓reduceIte] <;> rfl)) ?_
    refine re_build rfl rfl rfl rfl rfl ze_46 pl_46 (by simp only [fillL, setMany, Value.cells, List.getElem?_cons_zero, List.getElem?_cons_succ, List.length_cons, List.length_nil, List.set_cons_zero, List.set_cons_succ, Nat.reduceAdd, Nat.reduceLeDiff, Nat.zero_add, and_self, ↓reduceIte]; rfl) ?_
    refine re_load H rfl rfl rfl rfl rfl sh_121 (by first | exact rdAt_all rfl | (simp only [rdAt, PS.cells, PS.over, GM.cells, Cmd.cells, List.cons_append, List.nil_append, Inst.cells, List.drop_succ_cons, List.drop_zero, List.take_succ_cons, List.take_zero, List.length_cons, List.length_nil, Nat.zero_add, Nat.reduceAdd, Nat.reduceLeDiff, Nat.le_refl, ↓reduceIte] <;> rfl)) ?_
    refine re_load H rfl rfl rfl rfl rfl sh_121 (by first | exact rdAt_all rfl | (simp only [rdAt, PS.cells, PS.over, GM.cells, Cmd.cells, List.cons_append, List.nil_append, Inst.cells, List.drop_succ_cons, List.drop_zero, List.take_succ_cons, List.take_zero, List.length_cons, List.length_nil, Nat.zero_add, Nat.reduceAdd, Nat.reduceLeDiff, Nat.le_refl, ↓reduceIte] <;> rfl)) ?_
    refine re_neAgg rfl rfl rfl rfl rfl rfl fk_121 sh_121 ng_121 (by simp only [eqKs, eqK, ↓reduceIte]; rfl) ?_
    refine re_store H rfl rfl rfl rfl rfl rfl sh_121 rfl rfl rfl ?_
    intro cs w hcs H
    first | rw [setMany_whole rfl] at hcs | simp only [setMany, List.set_cons_zero, List.set_cons_succ, Nat.reduceAdd, Nat.zero_add, PS.cells, PS.over, GM.cells, Cmd.cells, List.cons_append, List.nil_append, Inst.cells] at hcs
    subst hcs
    refine ⟨(fun _ => ⟨fun _ => still_load H sh_121 (by first | exact rdAt_all rfl | (simp only [rdAt, PS.cells, PS.over, GM.cells, Cmd.cells, List.cons_append, List.nil_append, Inst.cells, List.drop_succ_cons, List.drop_zero, List.take_succ_cons, List.take_zero, List.length_cons, List.length_nil, Nat.zero_add, Nat.reduceAdd, Nat.reduceLeDiff, Nat.le_refl, ↓reduceIte] <;> rfl)), fun _ => still_load H sh_121 (by first | exact rdAt_all rfl | (simp only [rdAt, PS.cells, PS.over, GM.cells, Cmd.cells, List.cons_append, List.nil_append, Inst.cells, List.drop_succ_cons, List.drop_zero, List.take_succ_cons, List.take_zero, List.length_cons, List.length_nil, Nat.zero_add, Nat.reduceAdd, Nat.reduceLeDiff, Nat.le_refl, ↓reduceIte] <;> rfl)), fun _ => still_load H sh_28 (by first | exact rdAt_all rfl | (simp only [rdAt, PS.cells, PS.over, GM.cells, Cmd.cells, List.cons_append, List.nil_append, Inst.cells, List.drop_succ_cons, List.drop_zero, List.take_succ_cons, List.take_zero, List.length_cons, List.length_nil, Nat.zero_add, Nat.reduceAdd, Nat.reduceLeDiff, Nat.le_refl, ↓reduceIte] <;> rfl)), fun _ => still_load H sh_38 (by first | exact rdAt_all rfl | (simp only [rdAt, PS.cells, PS.over, GM.cells, Cmd.cells, List.cons_append, List.nil_append, Inst.cells, List.drop_succ_cons, List.drop_zero, List.take_succ_cons, List.take_zero, List.length_cons, List.length_nil, Nat.zero_add, Nat.reduceAdd, Nat.reduceLeDiff, Nat.le_refl, ↓reduceIte] <;> rfl)), fun _ => still_load H sh_38 (by first | exact rdAt_all rfl | (simp only [rdAt, PS.cells, PS.over, GM.cells, Cmd.cells, List.cons_append, List.nil_append, Inst.cells, List.drop_succ_cons, List.drop_zero, List.take_succ_cons, List.take_zero, List.length_cons, List.length_nil, Nat.zero_add, Nat.reduceAdd, Nat.reduceLeDiff, Nat.le_refl, ↓reduceIte] <;> rfl)), ancs (i := 10) (j := 0) rfl, trivial⟩), ?_⟩
    refine re_store H rfl rfl rfl rfl rfl rfl sh_46 rfl rfl rfl ?_
    intro cs w hcs H
    first | rw [setMany_whole rfl] at hcs | simp only [setMany, List.set_cons_zero, List.set_cons_succ, Nat.reduceAdd, Nat.zero_add, PS.cells, PS.over, GM.cells, Cmd.cells, List.cons_append, List.nil_append, Inst.cells] at hcs
    subst hcs
    refine ⟨(fun _ => ⟨fun _ => still_load H sh_121 (by first | exact rdAt_all rfl | (simp only [rdAt, PS.cells, PS.over, GM.cells, Cmd.cells, List.cons_append, List.nil_append, Inst.cells, List.drop_succ_cons, List.drop_zero, List.take_succ_cons, List.take_zero, List.length_cons, List.length_nil, Nat.zero_add, Nat.reduceAdd, Nat.reduceLeDiff, Nat.le_refl, ↓reduceIte] <;> rfl)), fun _ => still_load H sh_121 (by first | exact rdAt_all rfl | (simp only [rdAt, PS.cells, PS.over, GM.cells, Cmd.cells, List.cons_append, List.nil_append, Inst.cells, List.drop_succ_cons, List.drop_zero, List.take_succ_cons, List.take_zero, List.length_cons, List.length_nil, Nat.zero_add, Nat.reduceAdd, Nat.reduceLeDiff, Nat.le_refl, ↓reduceIte] <;> rfl)), ancs (i := 11) (j := 5) rfl, ancs (i := 11) (j := 3) rfl, ancs (i := 11) (j := 1) rfl, ancs (i := 11) (j := 0) rfl, trivial⟩), ?_⟩
    refine re_assign rfl rfl rfl rfl rfl ?_
    refine re_nil ?_
    refine qe_noPanic ?_
    refine qe_thenC ?_
    refine ce_ret ?_
    refine qe_endCell3 H rfl rfl rfl rfl sh_121 sh_46 (by first | exact rdAt_all rfl | (simp only [rdAt, PS.cells, PS.over, GM.cells, Cmd.cells, List.cons_append, List.nil_append, Inst.cells, List.drop_succ_cons, List.drop_zero, List.take_succ_cons, List.take_zero, List.length_cons, List.length_nil, Nat.zero_add, Nat.reduceAdd, Nat.reduceLeDiff, Nat.le_refl, ↓reduceIte] <;> rfl)) (by first | exact rdAt_all rfl | (simp only [rdAt, PS.cells, PS.over, GM.cells, Cmd.cells, List.cons_append, List.nil_append, Inst.cells, List.drop_succ_cons, List.drop_zero, List.take_succ_cons, List.take_zero, List.length_cons, List.length_nil, Nat.zero_add, Nat.reduceAdd, Nat.reduceLeDiff, Nat.le_refl, ↓reduceIte] <;> rfl)) ?_
    exact ⟨_, by simp only [Inst.prep, hm]; rfl, H.drop 6⟩

theorem acceptA_s {B w : World} {F : List Ent} {i : Inst} {s0 s1 : Int} {c : Cmd} (H : Own B F w) :
    Calls Try.prog 66 #[.agg i.cells.toArray, .agg #[.int .i64 s0, .int .i64 s1], .agg c.cells.toArray] w fun e w' => ∃ b, e = .returned (.tuple #[.agg (i.acc s0 s1 c).1.cells.toArray, .agg (i.acc s0 s1 c).2.cells.toArray, .bool b]) ∧ Own B F w' := by
  refine calls_ce (args := [.agg i.cells.toArray, .agg #[.int .i64 s0, .int .i64 s1], .agg c.cells.toArray]) Try.func66 rfl rfl ?_
  change CE _ _ 31 _ _ [(0, .agg i.cells.toArray), (1, .agg #[.int .i64 s0, .int .i64 s1]), (2, .agg c.cells.toArray)] _
  refine ce_seq ?_
  refine ce_text (tab := []) (soft := 32) (.op 0 (.op 1 (.op 2 (.op 3 (.op 4 (.op 5 .nil)))))) rfl rfl ?_
  refine re_box H rfl rfl rfl rfl rfl rfl ?_
  intro g3 w H
  refine ⟨(fun h => (nomatch h)), ?_⟩
  refine re_box H rfl rfl rfl rfl rfl rfl ?_
  intro g4 w H
  refine ⟨(fun h => (nomatch h)), ?_⟩
  refine re_box H rfl rfl rfl rfl rfl rfl ?_
  intro g5 w H
  refine ⟨(fun h => (nomatch h)), ?_⟩
  refine re_alloc H rfl rfl rfl rfl ze_121 ?_
  intro g6 w H
  refine ⟨(fun h => (nomatch h)), ?_⟩
  refine re_alloc H rfl rfl rfl rfl ze_46 ?_
  intro g7 w H
  refine ⟨(fun h => (nomatch h)), ?_⟩
  refine re_assign rfl rfl rfl rfl rfl ?_
  refine re_nil ?_
  refine qe_thenC ?_
  refine ce_seq ?_
  refine ce_seq ?_
  refine ce_text (tab := []) (soft := 315) (.op 0 (.op 1 (.op 2 (.op 3 (.op 4 (.op 5 (.op 6 (.op 7 (.op 8 .nil))))))))) rfl rfl ?_
  refine re_load H rfl rfl rfl rfl rfl sh_121 (by first | exact rdAt_all rfl | (simp only [rdAt, PS.cells, PS.over, GM.cells, Cmd.cells, List.cons_append, List.nil_append, Inst.cells, List.drop_succ_cons, List.drop_zero, List.take_succ_cons, List.take_zero, List.length_cons, List.length_nil, Nat.zero_add, Nat.reduceAdd, Nat.reduceLeDiff, Nat.le_refl, ↓reduceIte] <;> rfl)) ?_
  refine re_load H rfl rfl rfl rfl rfl sh_38 (by first | exact rdAt_all rfl | (simp only [rdAt, PS.cells, PS.over, GM.cells, Cmd.cells, List.cons_append, List.nil_append, Inst.cells, List.drop_succ_cons, List.drop_zero, List.take_succ_cons, List.take_zero, List.length_cons, List.length_nil, Nat.zero_add, Nat.reduceAdd, Nat.reduceLeDiff, Nat.le_refl, ↓reduceIte] <;> rfl)) ?_
  refine re_call en_80 rfl rfl rfl rfl rfl ?_
  refine Calls.mono (refused_s H) ?_
  rintro e w ⟨rfl, H⟩
  refine ⟨_, rfl, (fun h => (nomatch h)), ?_⟩
  refine re_move rfl rfl rfl rfl rfl ?_
  refine re_extract rfl rfl rfl rfl rfl rfl ?_
  refine re_extract rfl rfl rfl rfl rfl rfl ?_
  refine re_alloc H rfl rfl rfl rfl ze_46 ?_
  intro g9 w H
  refine ⟨(fun h => (nomatch h)), ?_⟩
  refine re_store H rfl rfl rfl rfl rfl rfl sh_46 rfl rfl rfl ?_
  intro cs w hcs H
  first | rw [setMany_whole rfl] at hcs | simp only [setMany, List.set_cons_zero, List.set_cons_succ, Nat.reduceAdd, Nat.zero_add, PS.cells, PS.over, GM.cells, Cmd.cells, List.cons_append, List.nil_append, Inst.cells] at hcs
  subst hcs
  refine ⟨(fun h => (nomatch h)), ?_⟩
  refine re_assign rfl rfl rfl rfl rfl ?_
  refine re_nil ?_
  refine qe_thenC ?_
  refine ce_seq ?_
  refine ce_text (tab := []) (soft := 1) (.op 0 .nil) rfl rfl ?_
  refine re_move rfl rfl rfl rfl rfl ?_
  refine re_nil ?_
  refine qe_thenC ?_
  refine ce_cond rfl (fun h0 => ?_) (fun h0 => ?_)
  · try simp only [zn1, zn2, zn3, zn4, zn5, zn6] at h0
    obtain ⟨m, hm⟩ := Option.isSome_iff_exists.1 h0
    simp only [hm, Option.getD_some] at H
    refine ce_seq ?_
    refine ce_open (tab := [0, 0, 1, 7, 15]) (soft := 19) mixed (.op 0 (.op 1 (.op 2 (.op 3 (.op 4 .nil))))) (by kernel_rfl) H ?_
    intro w H
    refine re_load H rfl rfl rfl rfl rfl sh_121 (by first | exact rdAt_all rfl | (simp only [rdAt, PS.cells, PS.over, GM.cells, Cmd.cells, List.cons_append, List.nil_append, Inst.cells, List.drop_succ_cons, List.drop_zero, List.take_succ_cons, List.take_zero, List.length_cons, List.length_nil, Nat.zero_add, Nat.reduceAdd, Nat.reduceLeDiff, Nat.le_refl, ↓reduceIte] <;> rfl)) ?_
    refine re_load H rfl rfl rfl rfl rfl sh_46 (by first | exact rdAt_all rfl | (simp only [rdAt, PS.cells, PS.over, GM.cells, Cmd.cells, List.cons_append, List.nil_append, Inst.cells, List.drop_succ_cons, List.drop_zero, List.take_succ_cons, List.take_zero, List.length_cons, List.length_nil, Nat.zero_add, Nat.reduceAdd, Nat.reduceLeDiff, Nat.le_refl, ↓reduceIte] <;> rfl)) ?_
    refine re_store H rfl rfl rfl rfl rfl rfl sh_121 rfl rfl rfl ?_
    intro cs w hcs H
    first | rw [setMany_whole rfl] at hcs | simp only [setMany, List.set_cons_zero, List.set_cons_succ, Nat.reduceAdd, Nat.zero_add, PS.cells, PS.over, GM.cells, Cmd.cells, List.cons_append, List.nil_append, Inst.cells] at hcs
    subst hcs
    refine ⟨(fun _ => ⟨fun _ => still_load H sh_46 (by first | exact rdAt_all rfl | (simp only [rdAt, PS.cells, PS.over, GM.cells, Cmd.cells, List.cons_append, List.nil_append, Inst.cells, List.drop_succ_cons, List.drop_zero, List.take_succ_cons, List.take_zero, List.length_cons, List.length_nil, Nat.zero_add, Nat.reduceAdd, Nat.reduceLeDiff, Nat.le_refl, ↓reduceIte] <;> rfl)), ancs (i := 2) (j := 0) rfl, trivial⟩), ?_⟩
    refine re_store H rfl rfl rfl rfl rfl rfl sh_46 rfl rfl rfl ?_
    intro cs w hcs H
    first | rw [setMany_whole rfl] at hcs | simp only [setMany, List.set_cons_zero, List.set_cons_succ, Nat.reduceAdd, Nat.zero_add, PS.cells, PS.over, GM.cells, Cmd.cells, List.cons_append, List.nil_append, Inst.cells] at hcs
    subst hcs
    refine ⟨(fun _ => ⟨ancs (i := 3) (j := 1) rfl, ancs (i := 3) (j := 0) rfl, trivial⟩), ?_⟩
    refine re_assign rfl rfl rfl rfl rfl ?_
    refine re_nil ?_
    refine qe_noPanic ?_
    refine qe_thenC ?_
    refine ce_ret ?_
    refine qe_then_ret ?_
    refine qe_endCell3 H rfl rfl rfl rfl sh_121 sh_46 (by first | exact rdAt_all rfl | (simp only [rdAt, PS.cells, PS.over, GM.cells, Cmd.cells, List.cons_append, List.nil_append, Inst.cells, List.drop_succ_cons, List.drop_zero, List.take_succ_cons, List.take_zero, List.length_cons, List.length_nil, Nat.zero_add, Nat.reduceAdd, Nat.reduceLeDiff, Nat.le_refl, ↓reduceIte] <;> rfl)) (by first | exact rdAt_all rfl | (simp only [rdAt, PS.cells, PS.over, GM.cells, Cmd.cells, List.cons_append, List.nil_append, Inst.cells, List.drop_succ_cons, List.drop_zero, List.take_succ_cons, List.take_zero, List.length_cons, List.length_nil, Nat.zero_add, Nat.reduceAdd, Nat.reduceLeDiff, Nat.le_refl, ↓reduceIte] <;> rfl)) ?_
    exact ⟨_, by simp only [Inst.acc, hm]; rfl, H.drop 6⟩
  · try simp only [zn1, zn2, zn3, zn4, zn5, zn6] at h0
    have hm : i.refuse s0 s1 = none := by simpa using h0
    simp only [hm, Option.getD_none] at H
    refine ce_skip ?_
    refine qe_thenC ?_
    refine ce_seq ?_
    refine ce_text (tab := []) (soft := 15) (.op 0 (.op 1 (.op 2 (.op 3 (.op 4 (.op 5 .nil)))))) rfl rfl ?_
    refine re_load H rfl rfl rfl rfl rfl sh_38 (by first | exact rdAt_all rfl | (simp only [rdAt, PS.cells, PS.over, GM.cells, Cmd.cells, List.cons_append, List.nil_append, Inst.cells, List.drop_succ_cons, List.drop_zero, List.take_succ_cons, List.take_zero, List.length_cons, List.length_nil, Nat.zero_add, Nat.reduceAdd, Nat.reduceLeDiff, Nat.le_refl, ↓reduceIte] <;> rfl)) ?_
    refine re_load H rfl rfl rfl rfl rfl sh_38 (by first | exact rdAt_all rfl | (simp only [rdAt, PS.cells, PS.over, GM.cells, Cmd.cells, List.cons_append, List.nil_append, Inst.cells, List.drop_succ_cons, List.drop_zero, List.take_succ_cons, List.take_zero, List.length_cons, List.length_nil, Nat.zero_add, Nat.reduceAdd, Nat.reduceLeDiff, Nat.le_refl, ↓reduceIte] <;> rfl)) ?_
    refine re_load H rfl rfl rfl rfl rfl sh_28 (by first | exact rdAt_all rfl | (simp only [rdAt, PS.cells, PS.over, GM.cells, Cmd.cells, List.cons_append, List.nil_append, Inst.cells, List.drop_succ_cons, List.drop_zero, List.take_succ_cons, List.take_zero, List.length_cons, List.length_nil, Nat.zero_add, Nat.reduceAdd, Nat.reduceLeDiff, Nat.le_refl, ↓reduceIte] <;> rfl)) ?_
    refine re_build rfl rfl rfl rfl rfl ze_121 pl_121 (by simp only [fillL, setMany, Value.cells, List.getElem?_cons_zero, List.getElem?_cons_succ, List.length_cons, List.length_nil, List.set_cons_zero, List.set_cons_succ, Nat.reduceAdd, Nat.reduceLeDiff, Nat.zero_add, and_self, ↓reduceIte]; rfl) ?_
    refine re_alloc H rfl rfl rfl rfl ze_121 ?_
    intro g11 w H
    refine ⟨(fun h => (nomatch h)), ?_⟩
    refine re_store H rfl rfl rfl rfl rfl rfl sh_121 rfl rfl rfl ?_
    intro cs w hcs H
    first | rw [setMany_whole rfl] at hcs | simp only [setMany, List.set_cons_zero, List.set_cons_succ, Nat.reduceAdd, Nat.zero_add, PS.cells, PS.over, GM.cells, Cmd.cells, List.cons_append, List.nil_append, Inst.cells] at hcs
    subst hcs
    refine ⟨(fun h => (nomatch h)), ?_⟩
    refine re_nil ?_
    refine qe_thenC ?_
    refine ce_seq ?_
    refine ce_open (tab := [0, 0, 2, 0, 0, 24, 1, 71, 255]) (soft := 319) mixed (.op 0 (.op 1 (.op 2 (.op 3 (.op 4 (.op 5 (.op 6 (.op 7 (.op 8 .nil))))))))) (by kernel_rfl) H ?_
    intro w H
    simp only [Inst.cells, Cmd.cells, List.cons_append, List.nil_append] at H
    refine re_load H rfl rfl rfl rfl rfl sh_121 (by first | exact rdAt_all rfl | (simp only [rdAt, PS.cells, PS.over, GM.cells, Cmd.cells, List.cons_append, List.nil_append, Inst.cells, List.drop_succ_cons, List.drop_zero, List.take_succ_cons, List.take_zero, List.length_cons, List.length_nil, Nat.zero_add, Nat.reduceAdd, Nat.reduceLeDiff, Nat.le_refl, ↓reduceIte] <;> rfl)) ?_
    refine re_load H rfl rfl rfl rfl rfl sh_38 (by first | exact rdAt_all rfl | (simp only [rdAt, PS.cells, PS.over, GM.cells, Cmd.cells, List.cons_append, List.nil_append, Inst.cells, List.drop_succ_cons, List.drop_zero, List.take_succ_cons, List.take_zero, List.length_cons, List.length_nil, Nat.zero_add, Nat.reduceAdd, Nat.reduceLeDiff, Nat.le_refl, ↓reduceIte] <;> rfl)) ?_
    refine re_build rfl rfl rfl rfl rfl ze_46 pl_46 (by simp only [fillL, setMany, Value.cells, List.getElem?_cons_zero, List.getElem?_cons_succ, List.length_cons, List.length_nil, List.set_cons_zero, List.set_cons_succ, Nat.reduceAdd, Nat.reduceLeDiff, Nat.zero_add, and_self, ↓reduceIte]; rfl) ?_
    refine re_load H rfl rfl rfl rfl rfl sh_121 (by first | exact rdAt_all rfl | (simp only [rdAt, PS.cells, PS.over, GM.cells, Cmd.cells, List.cons_append, List.nil_append, Inst.cells, List.drop_succ_cons, List.drop_zero, List.take_succ_cons, List.take_zero, List.length_cons, List.length_nil, Nat.zero_add, Nat.reduceAdd, Nat.reduceLeDiff, Nat.le_refl, ↓reduceIte] <;> rfl)) ?_
    refine re_load H rfl rfl rfl rfl rfl sh_121 (by first | exact rdAt_all rfl | (simp only [rdAt, PS.cells, PS.over, GM.cells, Cmd.cells, List.cons_append, List.nil_append, Inst.cells, List.drop_succ_cons, List.drop_zero, List.take_succ_cons, List.take_zero, List.length_cons, List.length_nil, Nat.zero_add, Nat.reduceAdd, Nat.reduceLeDiff, Nat.le_refl, ↓reduceIte] <;> rfl)) ?_
    refine re_neAgg rfl rfl rfl rfl rfl rfl fk_121 sh_121 ng_121 (by simp only [eqKs, eqK, ↓reduceIte]; rfl) ?_
    refine re_store H rfl rfl rfl rfl rfl rfl sh_121 rfl rfl rfl ?_
    intro cs w hcs H
    first | rw [setMany_whole rfl] at hcs | simp only [setMany, List.set_cons_zero, List.set_cons_succ, Nat.reduceAdd, Nat.zero_add, PS.cells, PS.over, GM.cells, Cmd.cells, List.cons_append, List.nil_append, Inst.cells] at hcs
    subst hcs
    refine ⟨(fun _ => ⟨fun _ => still_load H sh_121 (by first | exact rdAt_all rfl | (simp only [rdAt, PS.cells, PS.over, GM.cells, Cmd.cells, List.cons_append, List.nil_append, Inst.cells, List.drop_succ_cons, List.drop_zero, List.take_succ_cons, List.take_zero, List.length_cons, List.length_nil, Nat.zero_add, Nat.reduceAdd, Nat.reduceLeDiff, Nat.le_refl, ↓reduceIte] <;> rfl)), fun _ => still_load H sh_121 (by first | exact rdAt_all rfl | (simp only [rdAt, PS.cells, PS.over, GM.cells, Cmd.cells, List.cons_append, List.nil_append, Inst.cells, List.drop_succ_cons, List.drop_zero, List.take_succ_cons, List.take_zero, List.length_cons, List.length_nil, Nat.zero_add, Nat.reduceAdd, Nat.reduceLeDiff, Nat.le_refl, ↓reduceIte] <;> rfl)), fun _ => still_load H sh_38 (by first | exact rdAt_all rfl | (simp only [rdAt, PS.cells, PS.over, GM.cells, Cmd.cells, List.cons_append, List.nil_append, Inst.cells, List.drop_succ_cons, List.drop_zero, List.take_succ_cons, List.take_zero, List.length_cons, List.length_nil, Nat.zero_add, Nat.reduceAdd, Nat.reduceLeDiff, Nat.le_refl, ↓reduceIte] <;> rfl)), ancs (i := 6) (j := 0) rfl, trivial⟩), ?_⟩
    refine re_store H rfl rfl rfl rfl rfl rfl sh_46 rfl rfl rfl ?_
    intro cs w hcs H
    first | rw [setMany_whole rfl] at hcs | simp only [setMany, List.set_cons_zero, List.set_cons_succ, Nat.reduceAdd, Nat.zero_add, PS.cells, PS.over, GM.cells, Cmd.cells, List.cons_append, List.nil_append, Inst.cells] at hcs
    subst hcs
    refine ⟨(fun _ => ⟨fun _ => still_load H sh_121 (by first | exact rdAt_all rfl | (simp only [rdAt, PS.cells, PS.over, GM.cells, Cmd.cells, List.cons_append, List.nil_append, Inst.cells, List.drop_succ_cons, List.drop_zero, List.take_succ_cons, List.take_zero, List.length_cons, List.length_nil, Nat.zero_add, Nat.reduceAdd, Nat.reduceLeDiff, Nat.le_refl, ↓reduceIte] <;> rfl)), fun _ => still_load H sh_121 (by first | exact rdAt_all rfl | (simp only [rdAt, PS.cells, PS.over, GM.cells, Cmd.cells, List.cons_append, List.nil_append, Inst.cells, List.drop_succ_cons, List.drop_zero, List.take_succ_cons, List.take_zero, List.length_cons, List.length_nil, Nat.zero_add, Nat.reduceAdd, Nat.reduceLeDiff, Nat.le_refl, ↓reduceIte] <;> rfl)), ancs (i := 7) (j := 1) rfl, ancs (i := 7) (j := 0) rfl, trivial⟩), ?_⟩
    refine re_assign rfl rfl rfl rfl rfl ?_
    refine re_nil ?_
    refine qe_noPanic ?_
    refine qe_thenC ?_
    refine ce_ret ?_
    refine qe_endCell3 H rfl rfl rfl rfl sh_121 sh_46 (by first | exact rdAt_all rfl | (simp only [rdAt, PS.cells, PS.over, GM.cells, Cmd.cells, List.cons_append, List.nil_append, Inst.cells, List.drop_succ_cons, List.drop_zero, List.take_succ_cons, List.take_zero, List.length_cons, List.length_nil, Nat.zero_add, Nat.reduceAdd, Nat.reduceLeDiff, Nat.le_refl, ↓reduceIte] <;> rfl)) (by first | exact rdAt_all rfl | (simp only [rdAt, PS.cells, PS.over, GM.cells, Cmd.cells, List.cons_append, List.nil_append, Inst.cells, List.drop_succ_cons, List.drop_zero, List.take_succ_cons, List.take_zero, List.length_cons, List.length_nil, Nat.zero_add, Nat.reduceAdd, Nat.reduceLeDiff, Nat.le_refl, ↓reduceIte] <;> rfl)) ?_
    exact ⟨_, by simp only [Inst.acc, hm]; rfl, H.drop 7⟩

theorem learnedA_s {B w : World} {F : List Ent} {i : Inst} {c : Cmd} (H : Own B F w) :
    Calls Try.prog 67 #[.agg i.cells.toArray, .agg c.cells.toArray] w fun e w' => ∃ b, e = .returned (.tuple #[.agg (i.learn c).cells.toArray, .bool b]) ∧ Own B F w' := by
  refine calls_ce (args := [.agg i.cells.toArray, .agg c.cells.toArray]) Try.func67 rfl rfl ?_
  change CE _ _ 11 _ _ [(0, .agg i.cells.toArray), (1, .agg c.cells.toArray)] _
  refine ce_seq ?_
  refine ce_text (tab := []) (soft := 8) (.op 0 (.op 1 (.op 2 (.op 3 .nil)))) rfl rfl ?_
  refine re_box H rfl rfl rfl rfl rfl rfl ?_
  intro g2 w H
  refine ⟨(fun h => (nomatch h)), ?_⟩
  refine re_box H rfl rfl rfl rfl rfl rfl ?_
  intro g3 w H
  refine ⟨(fun h => (nomatch h)), ?_⟩
  refine re_alloc H rfl rfl rfl rfl ze_121 ?_
  intro g4 w H
  refine ⟨(fun h => (nomatch h)), ?_⟩
  refine re_assign rfl rfl rfl rfl rfl ?_
  refine re_nil ?_
  refine qe_thenC ?_
  refine ce_seq ?_
  refine ce_seq ?_
  refine ce_text (tab := []) (soft := 3) (.op 0 (.op 1 .nil)) rfl rfl ?_
  first | refine re_field0 rfl rfl rfl rfl rfl fo_121_3 ?_ | refine re_field rfl rfl rfl rfl rfl fo_121_3 ?_ | refine re_fieldA rfl rfl rfl rfl rfl fo_121_3 ?_
  refine re_load H rfl rfl rfl rfl rfl sh_4 rfl ?_
  refine re_nil ?_
  refine qe_thenC ?_
  refine ce_cond rfl (fun h0 => ?_) (fun h0 => ?_)
  · try simp only [zn1, zn2, zn3, zn4, zn5, zn6] at h0
    refine ce_seq ?_
    refine ce_text (tab := []) (soft := 5) (.op 0 (.op 1 (.op 2 .nil))) rfl rfl ?_
    refine re_load H rfl rfl rfl rfl rfl sh_121 (by first | exact rdAt_all rfl | (simp only [rdAt, PS.cells, PS.over, GM.cells, Cmd.cells, List.cons_append, List.nil_append, Inst.cells, List.drop_succ_cons, List.drop_zero, List.take_succ_cons, List.take_zero, List.length_cons, List.length_nil, Nat.zero_add, Nat.reduceAdd, Nat.reduceLeDiff, Nat.le_refl, ↓reduceIte] <;> rfl)) ?_
    refine re_store H rfl rfl rfl rfl rfl rfl sh_121 rfl rfl rfl ?_
    intro cs w hcs H
    first | rw [setMany_whole rfl] at hcs | simp only [setMany, List.set_cons_zero, List.set_cons_succ, Nat.reduceAdd, Nat.zero_add, PS.cells, PS.over, GM.cells, Cmd.cells, List.cons_append, List.nil_append, Inst.cells] at hcs
    subst hcs
    refine ⟨(fun h => (nomatch h)), ?_⟩
    refine re_assign rfl rfl rfl rfl rfl ?_
    refine re_nil ?_
    refine qe_thenC ?_
    refine ce_ret ?_
    refine qe_then_ret ?_
    refine qe_endCell2 H rfl rfl rfl sh_121 (by first | exact rdAt_all rfl | (simp only [rdAt, PS.cells, PS.over, GM.cells, Cmd.cells, List.cons_append, List.nil_append, Inst.cells, List.drop_succ_cons, List.drop_zero, List.take_succ_cons, List.take_zero, List.length_cons, List.length_nil, Nat.zero_add, Nat.reduceAdd, Nat.reduceLeDiff, Nat.le_refl, ↓reduceIte] <;> rfl)) ?_
    exact ⟨_, by rw [Inst.learn, if_pos h0]; rfl, H.drop 3⟩
  · try simp only [zn1, zn2, zn3, zn4, zn5, zn6] at h0
    refine ce_skip ?_
    refine qe_thenC ?_
    refine ce_seq ?_
    refine ce_text (tab := []) (soft := 11) (.op 0 (.op 1 (.op 2 (.op 3 .nil)))) rfl rfl ?_
    refine re_load H rfl rfl rfl rfl rfl sh_28 (by first | exact rdAt_all rfl | (simp only [rdAt, PS.cells, PS.over, GM.cells, Cmd.cells, List.cons_append, List.nil_append, Inst.cells, List.drop_succ_cons, List.drop_zero, List.take_succ_cons, List.take_zero, List.length_cons, List.length_nil, Nat.zero_add, Nat.reduceAdd, Nat.reduceLeDiff, Nat.le_refl, ↓reduceIte] <;> rfl)) ?_
    refine re_build rfl rfl rfl rfl rfl ze_121 pl_121 (by simp only [fillL, setMany, Value.cells, List.getElem?_cons_zero, List.getElem?_cons_succ, List.length_cons, List.length_nil, List.set_cons_zero, List.set_cons_succ, Nat.reduceAdd, Nat.reduceLeDiff, Nat.zero_add, and_self, ↓reduceIte]; rfl) ?_
    refine re_store H rfl rfl rfl rfl rfl rfl sh_121 rfl rfl rfl ?_
    intro cs w hcs H
    first | rw [setMany_whole rfl] at hcs | simp only [setMany, List.set_cons_zero, List.set_cons_succ, Nat.reduceAdd, Nat.zero_add, PS.cells, PS.over, GM.cells, Cmd.cells, List.cons_append, List.nil_append, Inst.cells] at hcs
    subst hcs
    refine ⟨(fun h => (nomatch h)), ?_⟩
    refine re_assign rfl rfl rfl rfl rfl ?_
    refine re_nil ?_
    refine qe_thenC ?_
    refine ce_ret ?_
    refine qe_endCell2 H rfl rfl rfl sh_121 (by first | exact rdAt_all rfl | (simp only [rdAt, PS.cells, PS.over, GM.cells, Cmd.cells, List.cons_append, List.nil_append, Inst.cells, List.drop_succ_cons, List.drop_zero, List.take_succ_cons, List.take_zero, List.length_cons, List.length_nil, Nat.zero_add, Nat.reduceAdd, Nat.reduceLeDiff, Nat.le_refl, ↓reduceIte] <;> rfl)) ?_
    exact ⟨_, by rw [Inst.learn, if_neg (by simp [h0])]; rfl, H.drop 3⟩
end Go.Proofs.Ytofaoblfemfkiaa

namespace Go.Proofs.Ytofaoblfemfkiaa
open Go Go.RowKit Go.Fw
set_option linter.unusedSimpArgs false
set_option linter.unusedVariables false
set_option maxRecDepth 4000
set_option maxHeartbeats 2000000


theorem begin_notP {B w : World} {F : List Ent} {g : Nat} {p : PS} {q : Nat} (H : Own B (.cells g 80 p.cells :: F) w) (hi : p.ph = phP q) :
    Calls Try.prog 14 #[.pointer (some ⟨g, 0, none⟩)] w fun e w' => e = .returned (slv none 0 0) ∧ Own B (.cells g 80 p.cells :: F) w' := by
  refine calls_ce (args := [.pointer (some ⟨g, 0, none⟩)]) Try.func14 rfl rfl ?_
  change CE _ _ 36 _ _ [(0, .pointer (some ⟨g, 0, none⟩))] _
  refine ce_seq ?_
  refine ce_text (tab := []) (soft := 1) (.op 0 .nil) rfl rfl ?_
  refine re_assign rfl rfl rfl rfl rfl ?_
  refine re_nil ?_
  refine qe_thenC ?_
  refine ce_seq ?_
  refine ce_seq ?_
  refine ce_text (tab := []) (soft := 127) (.op 0 (.op 1 (.op 2 (.op 3 (.op 4 (.op 5 (.op 6 .nil))))))) rfl rfl ?_
  refine re_move rfl rfl rfl rfl rfl ?_
  refine re_nilc rfl rfl rfl rfl rfl ?_
  first | refine re_field0 rfl rfl rfl rfl rfl fo_80_10 ?_ | refine re_field rfl rfl rfl rfl rfl fo_80_10 ?_ | refine re_fieldA rfl rfl rfl rfl rfl fo_80_10 ?_
  refine re_load H rfl rfl rfl rfl rfl sh_76 rfl ?_
  refine re_build rfl rfl rfl rfl rfl ze_73 pl_73 (by simp only [fillL, setMany, Value.cells, List.getElem?_cons_zero, List.getElem?_cons_succ, List.length_cons, List.length_nil, List.set_cons_zero, List.set_cons_succ, Nat.reduceAdd, Nat.reduceLeDiff, Nat.zero_add, and_self, ↓reduceIte]; rfl) ?_
  refine re_iface rfl rfl rfl rfl rfl nif_73 ?_
  simp only [hi]
  refine re_binW rfl rfl rfl rfl rfl rfl (run_ifNe ifc_76 rfl (.inr ⟨rfl, rfl⟩)) ?_
  refine re_nil ?_
  refine qe_thenC ?_
  refine ce_condT rfl ?_
  refine ce_seq ?_
  refine ce_text (tab := []) (soft := 1) (.op 0 .nil) rfl rfl ?_
  refine re_assign rfl rfl rfl rfl rfl ?_
  refine re_nil ?_
  refine qe_thenC ?_
  refine ce_ret ?_
  refine qe_then_ret ?_
  refine qe_end rfl rfl ?_
  exact ⟨rfl, H⟩

theorem begin_notA {B w : World} {F : List Ent} {g : Nat} {p : PS} {q : Nat} {cm : Cmd} (H : Own B (.cells g 80 p.cells :: F) w) (hi : p.ph = phA q cm) :
    Calls Try.prog 14 #[.pointer (some ⟨g, 0, none⟩)] w fun e w' => e = .returned (slv none 0 0) ∧ Own B (.cells g 80 p.cells :: F) w' := by
  refine calls_ce (args := [.pointer (some ⟨g, 0, none⟩)]) Try.func14 rfl rfl ?_
  change CE _ _ 36 _ _ [(0, .pointer (some ⟨g, 0, none⟩))] _
  refine ce_seq ?_
  refine ce_text (tab := []) (soft := 1) (.op 0 .nil) rfl rfl ?_
  refine re_assign rfl rfl rfl rfl rfl ?_
  refine re_nil ?_
  refine qe_thenC ?_
  refine ce_seq ?_
  refine ce_seq ?_
  refine ce_text (tab := []) (soft := 127) (.op 0 (.op 1 (.op 2 (.op 3 (.op 4 (.op 5 (.op 6 .nil))))))) rfl rfl ?_
  refine re_move rfl rfl rfl rfl rfl ?_
  refine re_nilc rfl rfl rfl rfl rfl ?_
  first | refine re_field0 rfl rfl rfl rfl rfl fo_80_10 ?_ | refine re_field rfl rfl rfl rfl rfl fo_80_10 ?_ | refine re_fieldA rfl rfl rfl rfl rfl fo_80_10 ?_
  refine re_load H rfl rfl rfl rfl rfl sh_76 rfl ?_
  refine re_build rfl rfl rfl rfl rfl ze_73 pl_73 (by simp only [fillL, setMany, Value.cells, List.getElem?_cons_zero, List.getElem?_cons_succ, List.length_cons, List.length_nil, List.set_cons_zero, List.set_cons_succ, Nat.reduceAdd, Nat.reduceLeDiff, Nat.zero_add, and_self, ↓reduceIte]; rfl) ?_
  refine re_iface rfl rfl rfl rfl rfl nif_73 ?_
  simp only [hi]
  refine re_binW rfl rfl rfl rfl rfl rfl (run_ifNe ifc_76 rfl (.inr ⟨rfl, rfl⟩)) ?_
  refine re_nil ?_
  refine qe_thenC ?_
  refine ce_condT rfl ?_
  refine ce_seq ?_
  refine ce_text (tab := []) (soft := 1) (.op 0 .nil) rfl rfl ?_
  refine re_assign rfl rfl rfl rfl rfl ?_
  refine re_nil ?_
  refine qe_thenC ?_
  refine ce_ret ?_
  refine qe_then_ret ?_
  refine qe_end rfl rfl ?_
  exact ⟨rfl, H⟩

theorem begin_notO {B w : World} {F : List Ent} {g : Nat} {p : PS} (H : Own B (.cells g 80 p.cells :: F) w) (hi : p.ph = .iface 97 (.agg #[])) :
    Calls Try.prog 14 #[.pointer (some ⟨g, 0, none⟩)] w fun e w' => e = .returned (slv none 0 0) ∧ Own B (.cells g 80 p.cells :: F) w' := by
  refine calls_ce (args := [.pointer (some ⟨g, 0, none⟩)]) Try.func14 rfl rfl ?_
  change CE _ _ 36 _ _ [(0, .pointer (some ⟨g, 0, none⟩))] _
  refine ce_seq ?_
  refine ce_text (tab := []) (soft := 1) (.op 0 .nil) rfl rfl ?_
  refine re_assign rfl rfl rfl rfl rfl ?_
  refine re_nil ?_
  refine qe_thenC ?_
  refine ce_seq ?_
  refine ce_seq ?_
  refine ce_text (tab := []) (soft := 127) (.op 0 (.op 1 (.op 2 (.op 3 (.op 4 (.op 5 (.op 6 .nil))))))) rfl rfl ?_
  refine re_move rfl rfl rfl rfl rfl ?_
  refine re_nilc rfl rfl rfl rfl rfl ?_
  first | refine re_field0 rfl rfl rfl rfl rfl fo_80_10 ?_ | refine re_field rfl rfl rfl rfl rfl fo_80_10 ?_ | refine re_fieldA rfl rfl rfl rfl rfl fo_80_10 ?_
  refine re_load H rfl rfl rfl rfl rfl sh_76 rfl ?_
  refine re_build rfl rfl rfl rfl rfl ze_73 pl_73 (by simp only [fillL, setMany, Value.cells, List.getElem?_cons_zero, List.getElem?_cons_succ, List.length_cons, List.length_nil, List.set_cons_zero, List.set_cons_succ, Nat.reduceAdd, Nat.reduceLeDiff, Nat.zero_add, and_self, ↓reduceIte]; rfl) ?_
  refine re_iface rfl rfl rfl rfl rfl nif_73 ?_
  simp only [hi]
  refine re_binW rfl rfl rfl rfl rfl rfl (run_ifNe ifc_76 rfl (.inr ⟨rfl, rfl⟩)) ?_
  refine re_nil ?_
  refine qe_thenC ?_
  refine ce_condT rfl ?_
  refine ce_seq ?_
  refine ce_text (tab := []) (soft := 1) (.op 0 .nil) rfl rfl ?_
  refine re_assign rfl rfl rfl rfl rfl ?_
  refine re_nil ?_
  refine qe_thenC ?_
  refine ce_ret ?_
  refine qe_then_ret ?_
  refine qe_end rfl rfl ?_
  exact ⟨rfl, H⟩

theorem tick_idle {B w : World} {F : List Ent} {g : Nat} {p : PS} (H : Own B (.cells g 80 p.cells :: F) w) (hi : p.ph = .iface 73 (.agg #[])) :
    Calls Try.prog 25 #[.pointer (some ⟨g, 0, none⟩)] w fun e w' => e = .returned (slv none 0 0) ∧ Own B (.cells g 80 p.cells :: F) w' := by
  refine calls_ce (args := [.pointer (some ⟨g, 0, none⟩)]) Try.func25 rfl rfl ?_
  change CE _ _ 64 _ _ [(0, .pointer (some ⟨g, 0, none⟩))] _
  refine ce_seq ?_
  refine ce_text (tab := []) (soft := 1) (.op 0 .nil) rfl rfl ?_
  refine re_assign rfl rfl rfl rfl rfl ?_
  refine re_nil ?_
  refine qe_thenC ?_
  refine ce_seq ?_
  refine ce_seq ?_
  refine ce_text (tab := []) (soft := 65535) (.op 0 (.op 1 (.op 2 (.op 3 (.op 4 (.op 5 (.op 6 (.op 7 (.op 8 (.op 9 (.op 10 (.op 11 (.op 12 (.op 13 (.op 14 (.op 15 .nil)))))))))))))))) rfl rfl ?_
  refine re_move rfl rfl rfl rfl rfl ?_
  refine re_nilc rfl rfl rfl rfl rfl ?_
  first | refine re_field0 rfl rfl rfl rfl rfl fo_80_10 ?_ | refine re_field rfl rfl rfl rfl rfl fo_80_10 ?_ | refine re_fieldA rfl rfl rfl rfl rfl fo_80_10 ?_
  refine re_load H rfl rfl rfl rfl rfl sh_76 rfl ?_
  refine re_build rfl rfl rfl rfl rfl ze_73 pl_73 (by simp only [fillL, setMany, Value.cells, List.getElem?_cons_zero, List.getElem?_cons_succ, List.length_cons, List.length_nil, List.set_cons_zero, List.set_cons_succ, Nat.reduceAdd, Nat.reduceLeDiff, Nat.zero_add, and_self, ↓reduceIte]; rfl) ?_
  refine re_iface rfl rfl rfl rfl rfl nif_73 ?_
  simp only [hi]
  refine re_binW rfl rfl rfl rfl rfl rfl (run_ifEq0 ifc_76 cmp_73 fk_73 sh_73 (.inl ⟨rfl, rfl⟩)) ?_
  refine re_move rfl rfl rfl rfl rfl ?_
  refine re_skip1 rfl rfl rfl ?_
  refine re_skip1 rfl rfl rfl ?_
  refine re_skip1 rfl rfl rfl ?_
  refine re_skip1 rfl rfl rfl ?_
  refine re_skip1 rfl rfl rfl ?_
  refine re_skip1 rfl rfl rfl ?_
  refine re_skip1 rfl rfl rfl ?_
  refine re_pickT rfl rfl rfl rfl rfl rfl ?_
  refine re_nil ?_
  refine qe_thenC ?_
  refine ce_condT rfl ?_
  refine ce_seq ?_
  refine ce_text (tab := []) (soft := 1) (.op 0 .nil) rfl rfl ?_
  refine re_assign rfl rfl rfl rfl rfl ?_
  refine re_nil ?_
  refine qe_thenC ?_
  refine ce_ret ?_
  refine qe_then_ret ?_
  refine qe_end rfl rfl ?_
  exact ⟨rfl, H⟩

theorem take_idle {B w : World} {F : List Ent} {g : Nat} {p : PS} {m : GM} (H : Own B (.cells g 80 p.cells :: F) w) (hi : p.ph = .iface 73 (.agg #[])) :
    Calls Try.prog 18 #[.pointer (some ⟨g, 0, none⟩), .agg m.cells.toArray] w fun e w' => e = .returned (slv none 0 0) ∧ Own B (.cells g 80 p.cells :: F) w' := by
  refine calls_ce (args := [.pointer (some ⟨g, 0, none⟩), .agg m.cells.toArray]) Try.func18 rfl rfl ?_
  change CE _ _ 80 _ _ [(0, .pointer (some ⟨g, 0, none⟩)), (1, .agg m.cells.toArray)] _
  refine ce_seq ?_
  refine ce_text (tab := []) (soft := 2) (.op 0 (.op 1 .nil)) rfl rfl ?_
  refine re_box H rfl rfl rfl rfl rfl rfl ?_
  intro g3 w H
  refine ⟨(fun h => (nomatch h)), ?_⟩
  refine re_assign rfl rfl rfl rfl rfl ?_
  refine re_nil ?_
  refine qe_thenC ?_
  refine ce_seq ?_
  refine ce_seq ?_
  refine ce_text (tab := []) (soft := 3670015) (.op 0 (.op 1 (.op 2 (.op 3 (.op 4 (.op 5 (.op 6 (.op 7 (.op 8 (.op 9 (.op 10 (.op 11 (.op 12 (.op 13 (.op 14 (.op 15 (.op 16 (.op 17 (.op 18 (.op 19 (.op 20 (.op 21 .nil)))))))))))))))))))))) rfl rfl ?_
  refine re_move rfl rfl rfl rfl rfl ?_
  refine re_nilc rfl rfl rfl rfl rfl ?_
  first | refine re_field0 rfl rfl rfl rfl rfl fo_80_10 ?_ | refine re_field rfl rfl rfl rfl rfl fo_80_10 ?_ | refine re_fieldA rfl rfl rfl rfl rfl fo_80_10 ?_
  refine re_load H rfl rfl rfl rfl rfl sh_76 rfl ?_
  refine re_build rfl rfl rfl rfl rfl ze_73 pl_73 (by simp only [fillL, setMany, Value.cells, List.getElem?_cons_zero, List.getElem?_cons_succ, List.length_cons, List.length_nil, List.set_cons_zero, List.set_cons_succ, Nat.reduceAdd, Nat.reduceLeDiff, Nat.zero_add, and_self, ↓reduceIte]; rfl) ?_
  refine re_iface rfl rfl rfl rfl rfl nif_73 ?_
  simp only [hi]
  refine re_binW rfl rfl rfl rfl rfl rfl (run_ifEq0 ifc_76 cmp_73 fk_73 sh_73 (.inl ⟨rfl, rfl⟩)) ?_
  refine re_move rfl rfl rfl rfl rfl ?_
  refine re_skip1 rfl rfl rfl ?_
  refine re_skip1 rfl rfl rfl ?_
  refine re_skip1 rfl rfl rfl ?_
  refine re_skip1 rfl rfl rfl ?_
  refine re_skip1 rfl rfl rfl ?_
  refine re_skip1 rfl rfl rfl ?_
  refine re_skip1 rfl rfl rfl ?_
  refine re_pickT rfl rfl rfl rfl rfl rfl ?_
  refine re_move rfl rfl rfl rfl rfl ?_
  refine re_skip1 rfl rfl rfl ?_
  refine re_skip1 rfl rfl rfl ?_
  refine re_skip1 rfl rfl rfl ?_
  refine re_skip1 rfl rfl rfl ?_
  refine re_pickT rfl rfl rfl rfl rfl rfl ?_
  refine re_nil ?_
  refine qe_thenC ?_
  refine ce_condT rfl ?_
  refine ce_seq ?_
  refine ce_text (tab := []) (soft := 1) (.op 0 .nil) rfl rfl ?_
  refine re_assign rfl rfl rfl rfl rfl ?_
  refine re_nil ?_
  refine qe_thenC ?_
  refine ce_ret ?_
  refine qe_then_ret ?_
  refine qe_end rfl rfl ?_
  exact ⟨rfl, H.tail⟩

/-! ### A proposer, told -/
inductive PP | idle | prep | acc (c : Cmd) | over (d : Option Cmd)
structure X where
  p : PS
  st : PP
  hs : List Int
  ms : List (Int × GM)
structure Ad where
  (g : Nat)
  ga : Option Nat
  (gc ht : Nat)
  ha : Option Nat
  (hc hm qt : Nat)
  qa : Option Nat
  (qc qm q : Nat)
  hv : Value
def PS.at (p : PS) (ga : Option Nat) (gc : Nat) (hv ph dc : Value) : PS := { p with ga := ga, gc := gc, hd := hv, ph := ph, dc := dc }
def ptrV (g : Nat) : Value := .pointer (some ⟨g, 0, none⟩)
def X.ents (x : X) (a : Ad) : List Ent := match x.st with
  | .idle => [.cells a.g 80 (x.p.at a.ga a.gc a.hv (.iface 73 (.agg #[])) (.pointer none)).cells, .row a.ga a.gc 3 1 x.p.gs.length (ints x.p.gs)]
  | .prep => [.cells a.g 80 (x.p.at a.ga a.gc (ptrV a.ht) (phP a.qt) (.pointer none)).cells, .row a.ga a.gc 3 1 x.p.gs.length (ints x.p.gs), .cells a.ht 109 [slv a.ha x.p.gs.length a.hc, .int .i64 ((x.p.gs.length : Int) + 1), .map (some a.hm)], .row a.ha a.hc 3 1 x.p.gs.length (ints x.p.gs), .imap a.hm (heardK x.hs), .cells a.qt 145 [slv a.qa x.p.gs.length a.qc, .int .i64 ((x.p.gs.length : Int) / 2 + 1), .map (some a.qm)], .row a.qa a.qc 3 1 x.p.gs.length (ints x.p.gs), .imap a.qm (kvM x.ms)]
  | .acc c => [.cells a.g 80 (x.p.at a.ga a.gc (ptrV a.ht) (phA a.qt c) (.pointer none)).cells, .row a.ga a.gc 3 1 x.p.gs.length (ints x.p.gs), .cells a.ht 109 [slv a.ha x.p.gs.length a.hc, .int .i64 ((x.p.gs.length : Int) + 1), .map (some a.hm)], .row a.ha a.hc 3 1 x.p.gs.length (ints x.p.gs), .imap a.hm (heardK x.hs), .cells a.qt 145 [slv a.qa x.p.gs.length a.qc, .int .i64 ((x.p.gs.length : Int) / 2 + 1), .map (some a.qm)], .row a.qa a.qc 3 1 x.p.gs.length (ints x.p.gs), .imap a.qm (kvM x.ms)]
  | .over none => [.cells a.g 80 (x.p.at a.ga a.gc a.hv (.iface 97 (.agg #[])) (.pointer none)).cells, .row a.ga a.gc 3 1 x.p.gs.length (ints x.p.gs)]
  | .over (some c) => [.cells a.g 80 (x.p.at a.ga a.gc a.hv (.iface 97 (.agg #[])) (ptrV a.q)).cells, .row a.ga a.gc 3 1 x.p.gs.length (ints x.p.gs), .cells a.q 28 c.cells]
structure X.ok (x : X) : Prop where
  un : unlike x.p.gs = x.p.gs
  len : x.p.gs.length ≤ 1000
  hl : x.hs.length ≤ x.p.gs.length
  b1 : 1 ≤ x.p.bal
  r1 : 1 ≤ x.p.rnd
def X.far (x : X) : Prop := min x.p.bal x.p.rnd < 1 ∨ 1099511627776 < max x.p.bal x.p.rnd
instance (x : X) : Decidable x.far := inferInstanceAs (Decidable (_ ∨ _))
def X.begin (x : X) : X × List GM := match x.st with
  | .idle => if x.far then (⟨{ x.p with wn := true }, .over none, x.hs, x.ms⟩, []) else (⟨{ x.p with rf := false }, .prep, [], []⟩, x.p.outP x.p.gs)
  | _ => (x, [])
def X.tired (x : X) : Prop := 1099511627776 ≤ max x.p.bal x.p.nt ∨ 1099511627776 ≤ x.p.rnd
instance (x : X) : Decidable x.tired := inferInstanceAs (Decidable (_ ∨ _))
def X.again (x : X) : X × List GM := if x.tired then (⟨{ x.p with wn := true }, .over none, x.hs, x.ms⟩, []) else (⟨{ x.p.raise with rf := false }, .prep, [], []⟩, x.p.raise.outP x.p.gs)
def X.tick (x : X) : X × List GM := match x.st with
  | .prep => if x.p.rf then x.again else (x, x.p.outP (missing x.p.gs (heardK x.hs)))
  | .acc c => if x.p.rf then x.again else (x, x.p.outA c (missing x.p.gs (heardK x.hs)))
  | _ => (x, [])
def X.nack (x : X) (m : GM) : X × List GM := if x.p.fresh x.hs m.fi then (⟨x.p.nack m.s0, x.st, x.hs ++ [m.fi], x.ms⟩, []) else (x, [])
def X.known (x : X) (m : GM) : X × List GM := (⟨x.p, .over (some m.cmd), x.hs, x.ms⟩, [])
def X.countP (x : X) (m : GM) : X × List GM :=
  if m.kind = 13 ∧ x.p.own m ∧ x.p.fresh x.hs m.fi then
    if x.p.takes x.ms m.fi m then
      if 1099511627776 ≤ x.p.rnd then (⟨{ x.p with wn := true }, .over none, x.hs, x.ms⟩, [])
      else (⟨{ x.p.next with rf := false }, .acc (x.p.chosen (x.p.took x.ms m.fi m)), [], []⟩, x.p.next.outA (x.p.chosen (x.p.took x.ms m.fi m)) x.p.gs)
    else (⟨x.p, x.st, x.hs ++ [m.fi], x.p.took x.ms m.fi m⟩, [])
  else (x, [])
def X.countA (x : X) (c : Cmd) (m : GM) : X × List GM :=
  if m.kind = 15 ∧ x.p.own m ∧ x.p.fresh x.hs m.fi then
    if x.p.takes x.ms m.fi m then (⟨x.p, .over (some c), x.hs, x.ms⟩, x.p.outL c x.p.gs)
    else (⟨x.p, x.st, x.hs ++ [m.fi], x.p.took x.ms m.fi m⟩, [])
  else (x, [])
def X.take (x : X) (m : GM) : X × List GM := match x.st with
  | .prep => if x.p.wants m then (if m.kind = 16 then x.known m else if m.kind = 14 then x.nack m else x.countP m) else (x, [])
  | .acc c => if x.p.wants m then (if m.kind = 16 then x.known m else if m.kind = 14 then x.nack m else x.countA c m) else (x, [])
  | _ => (x, [])
end Go.Proofs.Ytofaoblfemfkiaa

namespace Go.Proofs.Ytofaoblfemfkiaa
open Go Go.RowKit Go.Fw
set_option linter.unusedSimpArgs false
set_option linter.unusedVariables false
set_option maxRecDepth 4000
set_option maxHeartbeats 2000000


def Res (B : World) (F : List Ent) (g : Nat) (r : X × List GM) (e : Ending) (w' : World) : Prop := ∃ a s c, a.g = g ∧ e = .returned (slv s r.2.length c) ∧ Own B (.row s c 46 30 r.2.length (msgs r.2) :: (r.1.ents a ++ F)) w'
theorem res_same {B w : World} {F : List Ent} {x : X} {a : Ad} (H : Own B (x.ents a ++ F) w) : Res B F a.g (x, []) (.returned (slv none 0 0)) w := ⟨a, none, 0, rfl, rfl, H.nil_row 46 30⟩
theorem begin_c {B w : World} {F : List Ent} {x : X} {a : Ad} (ok : x.ok) (H : Own B (x.ents a ++ F) w) : Calls Try.prog 14 #[ptrV a.g] w (Res B F a.g x.begin) := by
  obtain ⟨p, st, hs, ms⟩ := x
  have hl : p.gs.length ≤ 1000 := ok.len
  cases st with
  | idle =>
    have H : Own B (.cells a.g 80 (p.at a.ga a.gc a.hv (.iface 73 (.agg #[])) (.pointer none)).cells :: .row a.ga a.gc 3 1 p.gs.length (ints p.gs) :: F) w := H
    by_cases hw : X.far ⟨p, .idle, hs, ms⟩
    · rw [show X.begin ⟨p, .idle, hs, ms⟩ = (⟨{ p with wn := true }, .over none, hs, ms⟩, []) from if_pos hw]
      refine Calls.mono (begin_worn (p := (p.at a.ga a.gc a.hv (.iface 73 (.agg #[])) (.pointer none))) H (by show p.gs.length ≤ _; omega) rfl hw) ?_
      rintro e w ⟨rfl, H⟩
      exact res_same (x := ⟨{ p with wn := true }, .over none, hs, ms⟩) H
    · rw [show X.begin ⟨p, .idle, hs, ms⟩ = (⟨{ p with rf := false }, .prep, [], []⟩, p.outP p.gs) from if_neg hw]
      refine Calls.mono (begin_s (p := (p.at a.ga a.gc a.hv (.iface 73 (.agg #[])) (.pointer none))) H (by show p.gs.length ≤ _; omega) ok.un rfl hw) ?_
      rintro e w ⟨ht, ha, hc, hm, qt, qa, qc, qm, s, c, rfl, H⟩
      exact ⟨⟨a.g, a.ga, a.gc, ht, ha, hc, hm, qt, qa, qc, qm, a.q, a.hv⟩, s, c, rfl, rfl, H⟩
  | prep =>
    refine Calls.mono (begin_notP (p := (p.at a.ga a.gc (ptrV a.ht) (phP a.qt) (.pointer none))) (F := _ :: _ :: _ :: _ :: _ :: _ :: _ :: F) H rfl) ?_
    rintro e w ⟨rfl, H⟩
    exact res_same (x := ⟨p, .prep, hs, ms⟩) H
  | acc c =>
    refine Calls.mono (begin_notA (p := (p.at a.ga a.gc (ptrV a.ht) (phA a.qt c) (.pointer none))) (F := _ :: _ :: _ :: _ :: _ :: _ :: _ :: F) H rfl) ?_
    rintro e w ⟨rfl, H⟩
    exact res_same (x := ⟨p, .acc c, hs, ms⟩) H
  | over d =>
    cases d with
    | none =>
      refine Calls.mono (begin_notO (p := (p.at a.ga a.gc a.hv (.iface 97 (.agg #[])) (.pointer none))) (F := _ :: F) H rfl) ?_
      rintro e w ⟨rfl, H⟩
      exact res_same (x := ⟨p, .over none, hs, ms⟩) H
    | some c =>
      refine Calls.mono (begin_notO (p := (p.at a.ga a.gc a.hv (.iface 97 (.agg #[])) (ptrV a.q))) (F := _ :: _ :: F) H rfl) ?_
      rintro e w ⟨rfl, H⟩
      exact res_same (x := ⟨p, .over (some c), hs, ms⟩) H

theorem tick_c {B w : World} {F : List Ent} {x : X} {a : Ad} (ok : x.ok) (H : Own B (x.ents a ++ F) w) : Calls Try.prog 25 #[ptrV a.g] w (Res B F a.g x.tick) := by
  obtain ⟨p, st, hs, ms⟩ := x
  have hl : p.gs.length ≤ 1000 := ok.len
  have hb : 1 ≤ p.bal := ok.b1
  have hr1 : 1 ≤ p.rnd := ok.r1
  cases st with
  | idle =>
    refine Calls.mono (tick_idle (p := (p.at a.ga a.gc a.hv (.iface 73 (.agg #[])) (.pointer none))) (F := _ :: F) H rfl) ?_
    rintro e w ⟨rfl, H⟩
    exact res_same (x := ⟨p, .idle, hs, ms⟩) H
  | prep =>
    have H : Own B (.cells a.g 80 (p.at a.ga a.gc (ptrV a.ht) (phP a.qt) (.pointer none)).cells :: .row a.ga a.gc 3 1 p.gs.length (ints p.gs) :: .cells a.ht 109 [slv a.ha p.gs.length a.hc, .int .i64 ((p.gs.length : Int) + 1), .map (some a.hm)] :: .row a.ha a.hc 3 1 p.gs.length (ints p.gs) :: .imap a.hm (heardK hs) :: .cells a.qt 145 [slv a.qa p.gs.length a.qc, .int .i64 ((p.gs.length : Int) / 2 + 1), .map (some a.qm)] :: .row a.qa a.qc 3 1 p.gs.length (ints p.gs) :: .imap a.qm (kvM ms) :: F) w := H
    cases hr : p.rf with
    | false =>
      rw [show X.tick ⟨p, .prep, hs, ms⟩ = (⟨p, .prep, hs, ms⟩, p.outP (missing p.gs (heardK hs))) by simp [X.tick, hr]]
      have H := Own.arr [7, 7, 7, 4, 7, 7, 7, 7] H
      simp only [arrs, Fw.front, zm1, zm2, zm3, zm4, zm5] at H
      refine Calls.mono (tick_quietP (p := (p.at a.ga a.gc (ptrV a.ht) (phP a.qt) (.pointer none))) H (by show p.gs.length ≤ _; omega) rfl rfl hr) ?_
      rintro e w ⟨s, c', rfl, H⟩
      have H := Own.arr [8, 8, 8, 7, 7, 7, 8, 8, 8] H
      simp only [arrs, Fw.front, zm1, zm2, zm3, zm4, zm5] at H
      exact ⟨a, s, c', rfl, rfl, H⟩
    | true =>
      by_cases hw : X.tired ⟨p, .prep, hs, ms⟩
      · rw [show X.tick ⟨p, .prep, hs, ms⟩ = (⟨{ p with wn := true }, .over none, hs, ms⟩, []) by simp [X.tick, hr, X.again, hw]]
        refine Calls.mono (tick_wornP (p := (p.at a.ga a.gc (ptrV a.ht) (phP a.qt) (.pointer none))) H rfl hr hw) ?_
        rintro e w ⟨rfl, H⟩
        have H := H.front 1
        have H := H.front 1
        simp only [arrs, Fw.front, zm1, zm2, zm3, zm4, zm5] at H
        replace H := H.sub (.cons_cons _ (.cons_cons _ (.cons _ (.cons _ (.cons _ (.cons _ (.cons _ (.cons _ (List.Sublist.refl _)))))))))
        exact ⟨{ a with hv := ptrV a.ht }, none, 0, rfl, rfl, H.nil_row 46 30⟩
      · rw [show X.tick ⟨p, .prep, hs, ms⟩ = (⟨{ p.raise with rf := false }, .prep, [], []⟩, p.raise.outP p.gs) by simp [X.tick, hr, X.again, hw]]
        refine Calls.mono (tick_raiseP (p := (p.at a.ga a.gc (ptrV a.ht) (phP a.qt) (.pointer none))) H (by show p.gs.length ≤ _; omega) ok.un rfl hr hw ⟨by show -1 ≤ p.rnd; omega, by show -1 ≤ p.bal; omega⟩) ?_
        rintro e w ⟨ht, ha, hc, hm, qt, qa, qc, qm, s, c', rfl, H⟩
        have H := Own.arr [8, 8, 8, 8, 8, 8, 8, 8, 8] H
        simp only [arrs, Fw.front, zm1, zm2, zm3, zm4, zm5] at H
        replace H := H.sub (.cons_cons _ (.cons_cons _ (.cons_cons _ (.cons_cons _ (.cons_cons _ (.cons_cons _ (.cons_cons _ (.cons_cons _ (.cons_cons _ (.cons _ (.cons _ (.cons _ (.cons _ (.cons _ (.cons _ (List.Sublist.refl _))))))))))))))))
        exact ⟨⟨a.g, a.ga, a.gc, ht, ha, hc, hm, qt, qa, qc, qm, a.q, a.hv⟩, s, c', rfl, rfl, H⟩
  | acc c =>
    have H : Own B (.cells a.g 80 (p.at a.ga a.gc (ptrV a.ht) (phA a.qt c) (.pointer none)).cells :: .row a.ga a.gc 3 1 p.gs.length (ints p.gs) :: .cells a.ht 109 [slv a.ha p.gs.length a.hc, .int .i64 ((p.gs.length : Int) + 1), .map (some a.hm)] :: .row a.ha a.hc 3 1 p.gs.length (ints p.gs) :: .imap a.hm (heardK hs) :: .cells a.qt 145 [slv a.qa p.gs.length a.qc, .int .i64 ((p.gs.length : Int) / 2 + 1), .map (some a.qm)] :: .row a.qa a.qc 3 1 p.gs.length (ints p.gs) :: .imap a.qm (kvM ms) :: F) w := H
    cases hr : p.rf with
    | false =>
      rw [show X.tick ⟨p, (.acc c), hs, ms⟩ = (⟨p, (.acc c), hs, ms⟩, p.outA c (missing p.gs (heardK hs))) by simp [X.tick, hr]]
      have H := Own.arr [7, 7, 7, 4, 7, 7, 7, 7] H
      simp only [arrs, Fw.front, zm1, zm2, zm3, zm4, zm5] at H
      refine Calls.mono (tick_quietA (p := (p.at a.ga a.gc (ptrV a.ht) (phA a.qt c) (.pointer none))) H (by show p.gs.length ≤ _; omega) rfl rfl hr) ?_
      rintro e w ⟨s, c', rfl, H⟩
      have H := Own.arr [8, 8, 8, 7, 7, 7, 8, 8, 8] H
      simp only [arrs, Fw.front, zm1, zm2, zm3, zm4, zm5] at H
      exact ⟨a, s, c', rfl, rfl, H⟩
    | true =>
      by_cases hw : X.tired ⟨p, (.acc c), hs, ms⟩
      · rw [show X.tick ⟨p, (.acc c), hs, ms⟩ = (⟨{ p with wn := true }, .over none, hs, ms⟩, []) by simp [X.tick, hr, X.again, hw]]
        refine Calls.mono (tick_wornA (p := (p.at a.ga a.gc (ptrV a.ht) (phA a.qt c) (.pointer none))) H rfl hr hw) ?_
        rintro e w ⟨rfl, H⟩
        have H := H.front 1
        have H := H.front 1
        simp only [arrs, Fw.front, zm1, zm2, zm3, zm4, zm5] at H
        replace H := H.sub (.cons_cons _ (.cons_cons _ (.cons _ (.cons _ (.cons _ (.cons _ (.cons _ (.cons _ (List.Sublist.refl _)))))))))
        exact ⟨{ a with hv := ptrV a.ht }, none, 0, rfl, rfl, H.nil_row 46 30⟩
      · rw [show X.tick ⟨p, (.acc c), hs, ms⟩ = (⟨{ p.raise with rf := false }, .prep, [], []⟩, p.raise.outP p.gs) by simp [X.tick, hr, X.again, hw]]
        refine Calls.mono (tick_raiseA (p := (p.at a.ga a.gc (ptrV a.ht) (phA a.qt c) (.pointer none))) H (by show p.gs.length ≤ _; omega) ok.un rfl hr hw ⟨by show -1 ≤ p.rnd; omega, by show -1 ≤ p.bal; omega⟩) ?_
        rintro e w ⟨ht, ha, hc, hm, qt, qa, qc, qm, s, c', rfl, H⟩
        have H := Own.arr [8, 8, 8, 8, 8, 8, 8, 8, 8] H
        simp only [arrs, Fw.front, zm1, zm2, zm3, zm4, zm5] at H
        replace H := H.sub (.cons_cons _ (.cons_cons _ (.cons_cons _ (.cons_cons _ (.cons_cons _ (.cons_cons _ (.cons_cons _ (.cons_cons _ (.cons_cons _ (.cons _ (.cons _ (.cons _ (.cons _ (.cons _ (.cons _ (List.Sublist.refl _))))))))))))))))
        exact ⟨⟨a.g, a.ga, a.gc, ht, ha, hc, hm, qt, qa, qc, qm, a.q, a.hv⟩, s, c', rfl, rfl, H⟩
  | over d =>
    cases d with
    | none =>
      refine Calls.mono (tick_over (p := (p.at a.ga a.gc a.hv (.iface 97 (.agg #[])) (.pointer none))) (F := _ :: F) H rfl) ?_
      rintro e w ⟨rfl, H⟩
      exact res_same (x := ⟨p, .over none, hs, ms⟩) H
    | some c =>
      refine Calls.mono (tick_over (p := (p.at a.ga a.gc a.hv (.iface 97 (.agg #[])) (ptrV a.q))) (F := _ :: _ :: F) H rfl) ?_
      rintro e w ⟨rfl, H⟩
      exact res_same (x := ⟨p, .over (some c), hs, ms⟩) H
end Go.Proofs.Ytofaoblfemfkiaa

namespace Go.Proofs.Ytofaoblfemfkiaa
open Go Go.RowKit Go.Fw
set_option linter.unusedSimpArgs false
set_option linter.unusedVariables false
set_option maxRecDepth 4000
set_option maxHeartbeats 2000000


theorem take_c {B w : World} {F : List Ent} {x : X} {a : Ad} {m : GM} (ok : x.ok) (hk : x.p.wants m = true → m.kind = 16 ∨ m.kind = 14 ∨ (m.kind = 13 ∨ m.kind = 15)) (H : Own B (x.ents a ++ F) w) : Calls Try.prog 18 #[ptrV a.g, .agg m.cells.toArray] w (Res B F a.g (x.take m)) := by
  obtain ⟨p, st, hs, ms⟩ := x
  have hl : p.gs.length ≤ 1000 := ok.len
  have hb : 1 ≤ p.bal := ok.b1
  have hr1 : 1 ≤ p.rnd := ok.r1
  have hhl : hs.length ≤ p.gs.length := ok.hl
  replace hk : p.wants m = true → m.kind = 16 ∨ m.kind = 14 ∨ (m.kind = 13 ∨ m.kind = 15) := hk
  cases st with
  | idle =>
    refine Calls.mono (take_idle (p := (p.at a.ga a.gc a.hv (.iface 73 (.agg #[])) (.pointer none))) (F := _ :: F) H rfl) ?_
    rintro e w ⟨rfl, H⟩
    exact res_same (x := ⟨p, .idle, hs, ms⟩) H
  | prep =>
    have H : Own B (.cells a.g 80 (p.at a.ga a.gc (ptrV a.ht) (phP a.qt) (.pointer none)).cells :: .row a.ga a.gc 3 1 p.gs.length (ints p.gs) :: .cells a.ht 109 [slv a.ha p.gs.length a.hc, .int .i64 ((p.gs.length : Int) + 1), .map (some a.hm)] :: .row a.ha a.hc 3 1 p.gs.length (ints p.gs) :: .imap a.hm (heardK hs) :: .cells a.qt 145 [slv a.qa p.gs.length a.qc, .int .i64 ((p.gs.length : Int) / 2 + 1), .map (some a.qm)] :: .row a.qa a.qc 3 1 p.gs.length (ints p.gs) :: .imap a.qm (kvM ms) :: F) w := H
    cases hw : p.wants m with
    | false =>
      rw [show X.take ⟨p, .prep, hs, ms⟩ m = (⟨p, .prep, hs, ms⟩, []) by simp [X.take, X.known, X.nack, X.countP, hw]]
      refine Calls.mono (take_foreignP (p := (p.at a.ga a.gc (ptrV a.ht) (phP a.qt) (.pointer none))) H (by show p.gs.length ≤ _; omega) rfl hw) ?_
      rintro e w ⟨rfl, H⟩
      exact res_same (x := ⟨p, .prep, hs, ms⟩) H
    | true =>
      rcases hk hw with hkd | hkd | hkd
      · -- known
        have hkd' := hkd
        rw [show X.take ⟨p, .prep, hs, ms⟩ m = (⟨p, .over (some m.cmd), hs, ms⟩, []) by simp [X.take, X.known, X.nack, X.countP, hw, hkd]]
        refine Calls.mono (take_knownP (p := (p.at a.ga a.gc (ptrV a.ht) (phP a.qt) (.pointer none))) H (by show p.gs.length ≤ _; omega) rfl hkd hw) ?_
        rintro e w ⟨d, rfl, H⟩
        have H := Own.arr [2, 2, 2] H
        simp only [arrs, Fw.front, zm1, zm2, zm3, zm4, zm5] at H
        replace H := H.sub (.cons_cons _ (.cons_cons _ (.cons_cons _ (.cons _ (.cons _ (.cons _ (.cons _ (.cons _ (.cons _ (List.Sublist.refl _))))))))))
        exact ⟨{ a with q := d, hv := ptrV a.ht }, none, 0, rfl, rfl, H.nil_row 46 30⟩
      · -- nack
        cases hf : p.fresh hs m.fi with
        | false =>
          rw [show X.take ⟨p, .prep, hs, ms⟩ m = (⟨p, .prep, hs, ms⟩, []) by simp [X.take, X.known, X.nack, X.countP, hw, hkd, hf]]
          refine Calls.mono (take_nackOldP (p := (p.at a.ga a.gc (ptrV a.ht) (phP a.qt) (.pointer none))) H (by show p.gs.length ≤ _; omega) rfl hkd hw rfl hhl hf) ?_
          rintro e w ⟨rfl, H⟩
          exact res_same (x := ⟨p, .prep, hs, ms⟩) H
        | true =>
          rw [show X.take ⟨p, .prep, hs, ms⟩ m = (⟨p.nack m.s0, .prep, hs ++ [m.fi], ms⟩, []) by simp [X.take, X.known, X.nack, X.countP, hw, hkd, hf]]
          refine Calls.mono (take_nackP (p := (p.at a.ga a.gc (ptrV a.ht) (phP a.qt) (.pointer none))) H (by show p.gs.length ≤ _; omega) rfl hkd hw rfl hhl hf) ?_
          rintro e w ⟨rfl, H⟩
          exact ⟨a, none, 0, rfl, rfl, H.nil_row 46 30⟩
      · refine Calls.mono (take_countP (p := (p.at a.ga a.gc (ptrV a.ht) (phP a.qt) (.pointer none))) (K := fun v w' => ∃ a' s c', a'.g = a.g ∧ v = slv s (X.take ⟨p, .prep, hs, ms⟩ m).2.length c' ∧ Own B (.row s c' 46 30 (X.take ⟨p, .prep, hs, ms⟩ m).2.length (msgs (X.take ⟨p, .prep, hs, ms⟩ m).2) :: ((X.take ⟨p, .prep, hs, ms⟩ m).1.ents a' ++ F)) w') H (by show p.gs.length ≤ _; omega) rfl hkd hw (fun b w H => ?_)) ?_
        · replace H := H
          have h16 : ¬ m.kind = 16 := by omega
          have h14 : ¬ m.kind = 14 := by omega
          have H := Own.arr [2, 8, 8, 8, 8, 8, 8, 8, 8] H
          simp only [arrs, Fw.front, zm1, zm2, zm3, zm4, zm5] at H
          cases hst : p.own m with
          | false =>
            rw [show X.take ⟨p, .prep, hs, ms⟩ m = (⟨p, .prep, hs, ms⟩, []) by simp [X.take, X.known, X.nack, X.countP, hw, h16, h14, hst]]
            refine Calls.mono (count_foreign (p := (p.at a.ga a.gc (ptrV a.ht) (phP a.qt) (.pointer none))) H (by show p.gs.length ≤ _; omega) hst) fun e w h => ?_
            obtain ⟨rfl, H⟩ := h
            have H := Own.arr [7, 7, 7, 7, 7, 7, 7, 7] H
            simp only [arrs, Fw.front, zm1, zm2, zm3, zm4, zm5] at H
            replace H := H.sub (.cons_cons _ (.cons_cons _ (.cons_cons _ (.cons_cons _ (.cons_cons _ (.cons_cons _ (.cons_cons _ (.cons_cons _ (.cons _ (List.Sublist.refl _))))))))))
            exact ⟨_, rfl, a, none, 0, rfl, rfl, H.nil_row 46 30⟩
          | true =>
            by_cases hkk : m.kind = 13
            · cases hf : p.fresh hs m.fi with
              | false =>
                rw [show X.take ⟨p, .prep, hs, ms⟩ m = (⟨p, .prep, hs, ms⟩, []) by simp [X.take, X.known, X.nack, X.countP, hw, hkk, hst, hf]]
                refine Calls.mono (count_staleP (p := (p.at a.ga a.gc (ptrV a.ht) (phP a.qt) (.pointer none))) H (by show p.gs.length ≤ _; omega) rfl hkk hst rfl hhl hf) fun e w h => ?_
                obtain ⟨rfl, H⟩ := h
                have H := Own.arr [7, 7, 7, 7, 7, 7, 7, 7] H
                simp only [arrs, Fw.front, zm1, zm2, zm3, zm4, zm5] at H
                replace H := H.sub (.cons_cons _ (.cons_cons _ (.cons_cons _ (.cons_cons _ (.cons_cons _ (.cons_cons _ (.cons_cons _ (.cons_cons _ (.cons _ (List.Sublist.refl _))))))))))
                exact ⟨_, rfl, a, none, 0, rfl, rfl, H.nil_row 46 30⟩
              | true =>
                cases hk2 : p.takes ms m.fi m with
                | false =>
                  rw [show X.take ⟨p, .prep, hs, ms⟩ m = (⟨p, .prep, hs ++ [m.fi], p.took ms m.fi m⟩, []) by simp [X.take, X.known, X.nack, X.countP, hw, hkk, hst, hf, hk2]]
                  refine Calls.mono (count_fewP (p := (p.at a.ga a.gc (ptrV a.ht) (phP a.qt) (.pointer none))) H (by show p.gs.length ≤ _; omega) rfl hkk hst rfl hhl hf hk2) fun e w h => ?_
                  obtain ⟨rfl, H⟩ := h
                  have H := Own.arr [7, 7, 7, 7, 7, 7, 7, 7] H
                  simp only [arrs, Fw.front, zm1, zm2, zm3, zm4, zm5] at H
                  replace H := H.sub (.cons_cons _ (.cons_cons _ (.cons_cons _ (.cons_cons _ (.cons_cons _ (.cons_cons _ (.cons_cons _ (.cons_cons _ (.cons _ (List.Sublist.refl _))))))))))
                  exact ⟨_, rfl, a, none, 0, rfl, rfl, H.nil_row 46 30⟩
                | true =>
                  by_cases hrn : 1099511627776 ≤ p.rnd
                  · rw [show X.take ⟨p, .prep, hs, ms⟩ m = (⟨{ p with wn := true }, .over none, hs, ms⟩, []) by simp [X.take, X.known, X.nack, X.countP, hw, hkk, hst, hf, hk2, hrn]]
                    refine Calls.mono (count_worn (p := (p.at a.ga a.gc (ptrV a.ht) (phP a.qt) (.pointer none))) H (by show p.gs.length ≤ _; omega) rfl hkk hst rfl hhl hf hk2 ok.un hrn) fun e w h => ?_
                    obtain ⟨rfl, H⟩ := h
                    have H := H.front 1
                    have H := H.front 1
                    simp only [arrs, Fw.front, zm1, zm2, zm3, zm4, zm5] at H
                    replace H := H.sub (.cons_cons _ (.cons_cons _ (.cons _ (List.Sublist.refl _))))
                    exact ⟨_, rfl, { a with hv := ptrV a.ht }, none, 0, rfl, rfl, H.nil_row 46 30⟩
                  · rw [show X.take ⟨p, .prep, hs, ms⟩ m = (⟨{ p.next with rf := false }, .acc (p.chosen (p.took ms m.fi m)), [], []⟩, p.next.outA (p.chosen (p.took ms m.fi m)) p.gs) by simp [X.take, X.known, X.nack, X.countP, hw, hkk, hst, hf, hk2, hrn]]
                    refine Calls.mono (count_accept (p := (p.at a.ga a.gc (ptrV a.ht) (phP a.qt) (.pointer none))) H (by show p.gs.length ≤ _; omega) rfl hkk hst rfl hhl hf hk2 ok.un (by show p.rnd < _; omega) (by show -1 ≤ p.rnd; omega)) fun e w h => ?_
                    obtain ⟨ht, ha, hc, hm, qt, qa, qc, qm, s, c', rfl, H⟩ := h
                    have H := Own.arr [8, 8, 8, 8, 8, 8, 8, 8, 8] H
                    simp only [arrs, Fw.front, zm1, zm2, zm3, zm4, zm5] at H
                    replace H := H.sub (.cons_cons _ (.cons_cons _ (.cons_cons _ (.cons_cons _ (.cons_cons _ (.cons_cons _ (.cons_cons _ (.cons_cons _ (.cons_cons _ (.cons _ (List.Sublist.refl _)))))))))))
                    exact ⟨_, rfl, ⟨a.g, a.ga, a.gc, ht, ha, hc, hm, qt, qa, qc, qm, a.q, a.hv⟩, s, c', rfl, rfl, H⟩
            · rw [show X.take ⟨p, .prep, hs, ms⟩ m = (⟨p, .prep, hs, ms⟩, []) by simp [X.take, X.known, X.nack, X.countP, hw, h16, h14, hkk]]
              refine Calls.mono (count_otherP (p := (p.at a.ga a.gc (ptrV a.ht) (phP a.qt) (.pointer none))) H (by show p.gs.length ≤ _; omega) rfl hkk hst) fun e w h => ?_
              obtain ⟨rfl, H⟩ := h
              have H := Own.arr [7, 7, 7, 7, 7, 7, 7, 7] H
              simp only [arrs, Fw.front, zm1, zm2, zm3, zm4, zm5] at H
              replace H := H.sub (.cons_cons _ (.cons_cons _ (.cons_cons _ (.cons_cons _ (.cons_cons _ (.cons_cons _ (.cons_cons _ (.cons_cons _ (.cons _ (List.Sublist.refl _))))))))))
              exact ⟨_, rfl, a, none, 0, rfl, rfl, H.nil_row 46 30⟩
        · rintro e w ⟨v, rfl, a', s, c', h1, rfl, h2⟩
          exact ⟨a', s, c', h1, rfl, h2⟩
  | acc c =>
    have H : Own B (.cells a.g 80 (p.at a.ga a.gc (ptrV a.ht) (phA a.qt c) (.pointer none)).cells :: .row a.ga a.gc 3 1 p.gs.length (ints p.gs) :: .cells a.ht 109 [slv a.ha p.gs.length a.hc, .int .i64 ((p.gs.length : Int) + 1), .map (some a.hm)] :: .row a.ha a.hc 3 1 p.gs.length (ints p.gs) :: .imap a.hm (heardK hs) :: .cells a.qt 145 [slv a.qa p.gs.length a.qc, .int .i64 ((p.gs.length : Int) / 2 + 1), .map (some a.qm)] :: .row a.qa a.qc 3 1 p.gs.length (ints p.gs) :: .imap a.qm (kvM ms) :: F) w := H
    cases hw : p.wants m with
    | false =>
      rw [show X.take ⟨p, (.acc c), hs, ms⟩ m = (⟨p, (.acc c), hs, ms⟩, []) by simp [X.take, X.known, X.nack, X.countA, hw]]
      refine Calls.mono (take_foreignA (p := (p.at a.ga a.gc (ptrV a.ht) (phA a.qt c) (.pointer none))) H (by show p.gs.length ≤ _; omega) rfl hw) ?_
      rintro e w ⟨rfl, H⟩
      exact res_same (x := ⟨p, (.acc c), hs, ms⟩) H
    | true =>
      rcases hk hw with hkd | hkd | hkd
      · -- known
        have hkd' := hkd
        rw [show X.take ⟨p, (.acc c), hs, ms⟩ m = (⟨p, .over (some m.cmd), hs, ms⟩, []) by simp [X.take, X.known, X.nack, X.countA, hw, hkd]]
        refine Calls.mono (take_knownA (p := (p.at a.ga a.gc (ptrV a.ht) (phA a.qt c) (.pointer none))) H (by show p.gs.length ≤ _; omega) rfl hkd hw) ?_
        rintro e w ⟨d, rfl, H⟩
        have H := Own.arr [2, 2, 2] H
        simp only [arrs, Fw.front, zm1, zm2, zm3, zm4, zm5] at H
        replace H := H.sub (.cons_cons _ (.cons_cons _ (.cons_cons _ (.cons _ (.cons _ (.cons _ (.cons _ (.cons _ (.cons _ (List.Sublist.refl _))))))))))
        exact ⟨{ a with q := d, hv := ptrV a.ht }, none, 0, rfl, rfl, H.nil_row 46 30⟩
      · -- nack
        cases hf : p.fresh hs m.fi with
        | false =>
          rw [show X.take ⟨p, (.acc c), hs, ms⟩ m = (⟨p, (.acc c), hs, ms⟩, []) by simp [X.take, X.known, X.nack, X.countA, hw, hkd, hf]]
          refine Calls.mono (take_nackOldA (p := (p.at a.ga a.gc (ptrV a.ht) (phA a.qt c) (.pointer none))) H (by show p.gs.length ≤ _; omega) rfl hkd hw rfl hhl hf) ?_
          rintro e w ⟨rfl, H⟩
          exact res_same (x := ⟨p, (.acc c), hs, ms⟩) H
        | true =>
          rw [show X.take ⟨p, (.acc c), hs, ms⟩ m = (⟨p.nack m.s0, (.acc c), hs ++ [m.fi], ms⟩, []) by simp [X.take, X.known, X.nack, X.countA, hw, hkd, hf]]
          refine Calls.mono (take_nackA (p := (p.at a.ga a.gc (ptrV a.ht) (phA a.qt c) (.pointer none))) H (by show p.gs.length ≤ _; omega) rfl hkd hw rfl hhl hf) ?_
          rintro e w ⟨rfl, H⟩
          exact ⟨a, none, 0, rfl, rfl, H.nil_row 46 30⟩
      · refine Calls.mono (take_countA (p := (p.at a.ga a.gc (ptrV a.ht) (phA a.qt c) (.pointer none))) (K := fun v w' => ∃ a' s c', a'.g = a.g ∧ v = slv s (X.take ⟨p, (.acc c), hs, ms⟩ m).2.length c' ∧ Own B (.row s c' 46 30 (X.take ⟨p, (.acc c), hs, ms⟩ m).2.length (msgs (X.take ⟨p, (.acc c), hs, ms⟩ m).2) :: ((X.take ⟨p, (.acc c), hs, ms⟩ m).1.ents a' ++ F)) w') H (by show p.gs.length ≤ _; omega) rfl hkd hw (fun b w H => ?_)) ?_
        · replace H := H
          have h16 : ¬ m.kind = 16 := by omega
          have h14 : ¬ m.kind = 14 := by omega
          have H := Own.arr [2, 8, 8, 8, 8, 8, 8, 8, 8] H
          simp only [arrs, Fw.front, zm1, zm2, zm3, zm4, zm5] at H
          cases hst : p.own m with
          | false =>
            rw [show X.take ⟨p, (.acc c), hs, ms⟩ m = (⟨p, (.acc c), hs, ms⟩, []) by simp [X.take, X.known, X.nack, X.countA, hw, h16, h14, hst]]
            refine Calls.mono (count_foreign (p := (p.at a.ga a.gc (ptrV a.ht) (phA a.qt c) (.pointer none))) H (by show p.gs.length ≤ _; omega) hst) fun e w h => ?_
            obtain ⟨rfl, H⟩ := h
            have H := Own.arr [7, 7, 7, 7, 7, 7, 7, 7] H
            simp only [arrs, Fw.front, zm1, zm2, zm3, zm4, zm5] at H
            replace H := H.sub (.cons_cons _ (.cons_cons _ (.cons_cons _ (.cons_cons _ (.cons_cons _ (.cons_cons _ (.cons_cons _ (.cons_cons _ (.cons _ (List.Sublist.refl _))))))))))
            exact ⟨_, rfl, a, none, 0, rfl, rfl, H.nil_row 46 30⟩
          | true =>
            by_cases hkk : m.kind = 15
            · cases hf : p.fresh hs m.fi with
              | false =>
                rw [show X.take ⟨p, (.acc c), hs, ms⟩ m = (⟨p, (.acc c), hs, ms⟩, []) by simp [X.take, X.known, X.nack, X.countA, hw, hkk, hst, hf]]
                refine Calls.mono (count_staleA (p := (p.at a.ga a.gc (ptrV a.ht) (phA a.qt c) (.pointer none))) H (by show p.gs.length ≤ _; omega) rfl hkk hst rfl hhl hf) fun e w h => ?_
                obtain ⟨rfl, H⟩ := h
                have H := Own.arr [7, 7, 7, 7, 7, 7, 7, 7] H
                simp only [arrs, Fw.front, zm1, zm2, zm3, zm4, zm5] at H
                replace H := H.sub (.cons_cons _ (.cons_cons _ (.cons_cons _ (.cons_cons _ (.cons_cons _ (.cons_cons _ (.cons_cons _ (.cons_cons _ (.cons _ (List.Sublist.refl _))))))))))
                exact ⟨_, rfl, a, none, 0, rfl, rfl, H.nil_row 46 30⟩
              | true =>
                cases hk2 : p.takes ms m.fi m with
                | false =>
                  rw [show X.take ⟨p, (.acc c), hs, ms⟩ m = (⟨p, (.acc c), hs ++ [m.fi], p.took ms m.fi m⟩, []) by simp [X.take, X.known, X.nack, X.countA, hw, hkk, hst, hf, hk2]]
                  refine Calls.mono (count_fewA (p := (p.at a.ga a.gc (ptrV a.ht) (phA a.qt c) (.pointer none))) H (by show p.gs.length ≤ _; omega) rfl hkk hst rfl hhl hf hk2) fun e w h => ?_
                  obtain ⟨rfl, H⟩ := h
                  have H := Own.arr [7, 7, 7, 7, 7, 7, 7, 7] H
                  simp only [arrs, Fw.front, zm1, zm2, zm3, zm4, zm5] at H
                  replace H := H.sub (.cons_cons _ (.cons_cons _ (.cons_cons _ (.cons_cons _ (.cons_cons _ (.cons_cons _ (.cons_cons _ (.cons_cons _ (.cons _ (List.Sublist.refl _))))))))))
                  exact ⟨_, rfl, a, none, 0, rfl, rfl, H.nil_row 46 30⟩
                | true =>
                  rw [show X.take ⟨p, (.acc c), hs, ms⟩ m = (⟨p, .over (some c), hs, ms⟩, p.outL c p.gs) by simp [X.take, X.known, X.nack, X.countA, hw, hkk, hst, hf, hk2]]
                  refine Calls.mono (count_decide (p := (p.at a.ga a.gc (ptrV a.ht) (phA a.qt c) (.pointer none))) H (by show p.gs.length ≤ _; omega) rfl hkk hst rfl hhl hf hk2) fun e w h => ?_
                  obtain ⟨d, s, c', rfl, H⟩ := h
                  have H := Own.arr [3, 3, 3, 3] H
                  simp only [arrs, Fw.front, zm1, zm2, zm3, zm4, zm5] at H
                  replace H := H.sub (.cons_cons _ (.cons_cons _ (.cons_cons _ (.cons_cons _ (.cons _ (List.Sublist.refl _))))))
                  exact ⟨_, rfl, { a with q := d, hv := ptrV a.ht }, s, c', rfl, rfl, H⟩
            · rw [show X.take ⟨p, (.acc c), hs, ms⟩ m = (⟨p, (.acc c), hs, ms⟩, []) by simp [X.take, X.known, X.nack, X.countA, hw, h16, h14, hkk]]
              refine Calls.mono (count_otherA (p := (p.at a.ga a.gc (ptrV a.ht) (phA a.qt c) (.pointer none))) H (by show p.gs.length ≤ _; omega) rfl hkk hst) fun e w h => ?_
              obtain ⟨rfl, H⟩ := h
              have H := Own.arr [7, 7, 7, 7, 7, 7, 7, 7] H
              simp only [arrs, Fw.front, zm1, zm2, zm3, zm4, zm5] at H
              replace H := H.sub (.cons_cons _ (.cons_cons _ (.cons_cons _ (.cons_cons _ (.cons_cons _ (.cons_cons _ (.cons_cons _ (.cons_cons _ (.cons _ (List.Sublist.refl _))))))))))
              exact ⟨_, rfl, a, none, 0, rfl, rfl, H.nil_row 46 30⟩
        · rintro e w ⟨v, rfl, a', s, c', h1, rfl, h2⟩
          exact ⟨a', s, c', h1, rfl, h2⟩
  | over d =>
    cases d with
    | none =>
      refine Calls.mono (take_over (p := (p.at a.ga a.gc a.hv (.iface 97 (.agg #[])) (.pointer none))) (F := _ :: F) H rfl) ?_
      rintro e w ⟨rfl, H⟩
      exact res_same (x := ⟨p, .over none, hs, ms⟩) H
    | some c =>
      refine Calls.mono (take_over (p := (p.at a.ga a.gc a.hv (.iface 97 (.agg #[])) (ptrV a.q))) (F := _ :: _ :: F) H rfl) ?_
      rintro e w ⟨rfl, H⟩
      exact res_same (x := ⟨p, .over (some c), hs, ms⟩) H

/-- What was decided, and is anything? -/
def X.dec (x : X) : Cmd × Bool := match x.st with
  | .over (some c) => (c, true)
  | _ => (Cmd.zero, false)
theorem decided_c {B w : World} {F : List Ent} {x : X} {a : Ad} (H : Own B (x.ents a ++ F) w) : Calls Try.prog 16 #[ptrV a.g] w fun e w' => e = .returned (.tuple #[.agg x.dec.1.cells.toArray, .bool x.dec.2]) ∧ Own B (x.ents a ++ F) w' := by
  obtain ⟨p, st, hs, ms⟩ := x
  cases st with
  | idle => exact decided0 (p := (p.at a.ga a.gc a.hv (.iface 73 (.agg #[])) (.pointer none))) (F := _ :: F) H rfl
  | prep => exact decided0 (p := (p.at a.ga a.gc (ptrV a.ht) (phP a.qt) (.pointer none))) (F := _ :: _ :: _ :: _ :: _ :: _ :: _ :: F) H rfl
  | acc c => exact decided0 (p := (p.at a.ga a.gc (ptrV a.ht) (phA a.qt c) (.pointer none))) (F := _ :: _ :: _ :: _ :: _ :: _ :: _ :: F) H rfl
  | over d =>
    cases d with
    | none => exact decided0 (p := (p.at a.ga a.gc a.hv (.iface 97 (.agg #[])) (.pointer none))) (F := _ :: F) H rfl
    | some c =>
      have H : Own B (.cells a.g 80 (p.at a.ga a.gc a.hv (.iface 97 (.agg #[])) (ptrV a.q)).cells :: .row a.ga a.gc 3 1 p.gs.length (ints p.gs) :: .cells a.q 28 c.cells :: F) w := H
      have H := Own.arr [1, 2, 2] H
      simp only [arrs, Fw.front, zm1, zm2, zm3, zm4, zm5] at H
      refine Calls.mono (decided1 (p := (p.at a.ga a.gc a.hv (.iface 97 (.agg #[])) (ptrV a.q))) H rfl) ?_
      rintro e w ⟨rfl, H⟩
      have H := Own.arr [1, 2, 2] H
      simp only [arrs, Fw.front, zm1, zm2, zm3, zm4, zm5] at H
      exact ⟨rfl, H⟩
theorem round_c {B w : World} {F : List Ent} {x : X} {a : Ad} (H : Own B (x.ents a ++ F) w) : Calls Try.prog 15 #[ptrV a.g] w fun e w' => e = .returned (.int .i64 x.p.rnd) ∧ Own B (x.ents a ++ F) w' := by
  obtain ⟨p, st, hs, ms⟩ := x
  cases st with
  | idle => exact round_s (p := (p.at a.ga a.gc a.hv (.iface 73 (.agg #[])) (.pointer none))) (F := _ :: F) H
  | prep => exact round_s (p := (p.at a.ga a.gc (ptrV a.ht) (phP a.qt) (.pointer none))) (F := _ :: _ :: _ :: _ :: _ :: _ :: _ :: F) H
  | acc c => exact round_s (p := (p.at a.ga a.gc (ptrV a.ht) (phA a.qt c) (.pointer none))) (F := _ :: _ :: _ :: _ :: _ :: _ :: _ :: F) H
  | over d =>
    cases d with
    | none => exact round_s (p := (p.at a.ga a.gc a.hv (.iface 97 (.agg #[])) (.pointer none))) (F := _ :: F) H
    | some c => exact round_s (p := (p.at a.ga a.gc a.hv (.iface 97 (.agg #[])) (ptrV a.q))) (F := _ :: _ :: F) H
end Go.Proofs.Ytofaoblfemfkiaa

namespace Go.Proofs.Ytofaoblfemfkiaa
open Go Go.RowKit Go.Fw
set_option linter.unusedSimpArgs false
set_option linter.unusedVariables false
set_option maxRecDepth 4000
set_option maxHeartbeats 2000000


/-! ### The hall -/
abbrev XA := X × Ad
def chunk (y : XA) : List Ent := y.1.ents y.2
abbrev ch (l : List XA) : List Ent := l.flatMap chunk
def rest_ (l : List XA) (j : Nat) : List Ent := ch (l.take j) ++ ch (l.drop (j + 1))
theorem ch_split {l : List XA} {j : Nat} (hj : j < l.length) : ch l = ch (l.take j) ++ (chunk l[j] ++ ch (l.drop (j + 1))) := by
  have h : l = l.take j ++ l[j] :: l.drop (j + 1) := by rw [← List.drop_eq_getElem_cons hj, List.take_append_drop]
  conv => lhs; rw [h]
  simp only [ch, List.flatMap_append, List.flatMap_cons]
theorem pick {B w : World} {A F : List Ent} {l : List XA} {j : Nat} (hj : j < l.length) (H : Own B (A ++ (ch l ++ F)) w) : Own B (chunk l[j] ++ (A ++ (rest_ l j ++ F))) w := by
  refine H.perm ?_
  rw [ch_split hj]
  unfold rest_
  have h1 : (A ++ (ch (l.take j) ++ (chunk l[j] ++ ch (l.drop (j + 1))) ++ F)).Perm (A ++ (chunk l[j] ++ (ch (l.take j) ++ ch (l.drop (j + 1))) ++ F)) :=
    List.Perm.append_left _ (List.Perm.append_right _ (by
      rw [← List.append_assoc, ← List.append_assoc]
      exact List.Perm.append_right _ List.perm_append_comm))
  refine h1.trans ?_
  rw [List.append_assoc, ← List.append_assoc A]
  refine (List.Perm.append_right _ List.perm_append_comm).trans ?_
  rw [List.append_assoc]
theorem unpick {B w : World} {D A F : List Ent} {l : List XA} {j : Nat} {y : XA} (hj : j < l.length) (H : Own B (D ++ (chunk y ++ (A ++ (rest_ l j ++ F)))) w) : Own B (D ++ (A ++ (ch (l.set j y) ++ F))) w := by
  refine H.perm (List.Perm.append_left _ ?_)
  have hj' : j < (l.set j y).length := by simpa using hj
  rw [ch_split hj']
  have e1 : (l.set j y)[j] = y := by simp
  have e2 : (l.set j y).take j = l.take j := by rw [List.take_set_of_le (Nat.le_refl _)]
  have e3 : (l.set j y).drop (j + 1) = l.drop (j + 1) := by rw [List.drop_set_of_lt (by omega)]
  rw [e1, e2, e3]
  unfold rest_
  refine List.Perm.symm ?_
  have h1 : (A ++ (ch (l.take j) ++ (chunk y ++ ch (l.drop (j + 1))) ++ F)).Perm (A ++ (chunk y ++ (ch (l.take j) ++ ch (l.drop (j + 1))) ++ F)) :=
    List.Perm.append_left _ (List.Perm.append_right _ (by
      rw [← List.append_assoc, ← List.append_assoc]
      exact List.Perm.append_right _ List.perm_append_comm))
  refine h1.trans ?_
  rw [List.append_assoc, ← List.append_assoc A]
  refine (List.Perm.append_right _ List.perm_append_comm).trans ?_
  rw [List.append_assoc]
def sendW (way l : List GM) : List GM := l.foldl (fun w m => if w.length < 4000 then w ++ [m] else w) way
theorem sendW_take {way l : List GM} {k : Nat} (hk : k < l.length) : sendW way (l.take (k + 1)) = if (sendW way (l.take k)).length < 4000 then sendW way (l.take k) ++ [l[k]] else sendW way (l.take k) := by
  unfold sendW
  rw [List.take_succ_eq_append_getElem hk, List.foldl_append]
  rfl
theorem sendW_len (way l : List GM) : (sendW way l).length ≤ max way.length 4000 := by
  have gen : ∀ (l way : List GM), (l.foldl (fun w m => if w.length < 4000 then w ++ [m] else w) way).length ≤ max way.length 4000 := by
    intro l
    induction l with
    | nil => intro way; simp; omega
    | cons m l ih =>
      intro way
      simp only [List.foldl_cons]
      refine Nat.le_trans (ih _) ?_
      split
      · simp only [List.length_append, List.length_singleton]; omega
      · omega
  exact gen l way
def reply (m a : GM) : GM := { a with fc := m.tc, fi := m.ti, tc := m.fc, ti := m.fi, op := m.op, rnd := m.rnd, k0 := m.k0, k1 := m.k1, k2 := m.k2, k3 := m.k3 }
/-- The hall's content. -/
structure HP where
  gs : List Int
  ins : List Inst
  xs : List X
  way : List GM
  (nkd nks : List Int)
def HP.toServer (s : HP) (m : GM) (k : Nat) : HP :=
  if s.gs[k]? = some m.ti then
    match s.ins[k]? with
    | none => s
    | some i =>
      if m.kind = 3 then { s with ins := s.ins.set k (i.prep m.s0 m.s1).1, way := sendW s.way [reply m (i.prep m.s0 m.s1).2] }
      else if m.kind = 4 then { s with ins := s.ins.set k (i.acc m.s0 m.s1 m.cmd).1, way := sendW s.way [reply m (i.acc m.s0 m.s1 m.cmd).2] }
      else { s with ins := s.ins.set k (i.learn m.cmd) }
  else s
def HP.servers (s : HP) (m : GM) (k : Nat) : HP := (List.range k).foldl (fun s k => s.toServer m k) s
def HP.noted (s : HP) (m : GM) (x : X) (i : Nat) : HP := if m.kind = 14 ∧ m.rnd = x.p.rnd then { s with nkd := s.nkd.set i m.rnd, nks := s.nks.set i ((s.nks[i]?).getD 0 + 1) } else s
def HP.toClient (s : HP) (m : GM) : HP :=
  if 0 ≤ m.ti - 1 then
    match s.xs[(m.ti - 1).toNat]? with
    | none => s
    | some x => { s.noted m x (m.ti - 1).toNat with xs := s.xs.set (m.ti - 1).toNat (x.take m).1, way := sendW s.way (x.take m).2 }
  else s
def HP.deliver (s : HP) (m : GM) : HP := if m.tc then s.toClient m else s.servers m s.gs.length
theorem HP.servers_succ (s : HP) (m : GM) (k : Nat) : s.servers m (k + 1) = (s.servers m k).toServer m k := by
  unfold HP.servers
  rw [List.range_succ, List.foldl_append]
  rfl
/-- Where it lies. -/
structure HA where
  h : Nat
  ga : Option Nat
  (gc ia : Nat)
  pa : Option Nat
  pc : Nat
  wa : Option Nat
  wc : Nat
  da : Option Nat
  (doff dn dc na ca : Nat)
theorem Own.lsome {B w : World} {L : List Ent} (H : Own B L w) {a : Option Nat} {off n c i : Nat} {e : TypeId} {size : Nat} [hi : SwapLoose a L off c e size n i] (h0 : 0 < n) : ∃ g, a = some g := H.loose_some (List.mem_of_getElem? hi.out) h0
theorem Own.lle {B w : World} {L : List Ent} (H : Own B L w) {a : Option Nat} {off n c i : Nat} {e : TypeId} {size : Nat} [hi : SwapLoose a L off c e size n i] : n ≤ c := H.loose_le (List.mem_of_getElem? hi.out)
theorem Own.ldrop {B w : World} {L : List Ent} (H : Own B L w) (a : Option Nat) {off n c i : Nat} {e : TypeId} {size : Nat} [hi : SwapLoose a L off c e size n i] (k : Nat) (hk : k ≤ n) (h0 : 0 < n) : Own B (L.set i (.loose a (off + k * size) (n - k) (c - k) e size)) w := H.loose_drop hi.out hk h0

theorem Own.rval {B w : World} {L : List Ent} (H : Own B L w) {g c n : Nat} {e : TypeId} {xs : List Value} [h : InRow (some g) L c e 1 n xs] {k : Nat} {v : Value} (hv : xs[k]? = some v) : w.cell? ((⟨g, 0, none⟩ : Addr).add (((k : Nat) : Int).toNat * 1)) = some v := by
  rw [Int.toNat_natCast, Nat.mul_one, add_lit, Nat.zero_add]
  exact H.row_cell h.mem hv
theorem ptr_at {l : List XA} {pgs : List Nat} (hp : l.map (fun y => y.2.g) = pgs) {k : Nat} (hk : k < l.length) : (pgs.map ptrV)[k]? = some (ptrV l[k].2.g) := by
  subst hp
  simp [hk]
theorem unpick0 {B w : World} {A F : List Ent} {l : List XA} {j : Nat} (hj : j < l.length) (H : Own B (chunk l[j] ++ (A ++ (rest_ l j ++ F))) w) : Own B (A ++ (ch l ++ F)) w := by
  have := unpick (D := []) (y := l[j]) hj H
  rwa [List.set_getElem_self] at this
end Go.Proofs.Ytofaoblfemfkiaa

namespace Go.Proofs.Ytofaoblfemfkiaa
open Go Go.RowKit Go.Fw
set_option linter.unusedSimpArgs false
set_option linter.unusedVariables false
set_option maxRecDepth 4000
set_option maxHeartbeats 2000000
theorem fo_64_4 : fOff Try.prog 64 4 = some 7 := by kernel_rfl

theorem sendH_s {B w : World} {F : List Ent} {h gc ia pc wc doff dn dc na ca : Nat} {ga pa wa da : Option Nat} {gs : List Int} {pgs : List Nat} {way : List GM} {ra : Option Nat} {rc : Nat} {l : List GM} (H : Own B (.row ra rc 46 30 l.length (msgs l) :: .cells h 64 [.int .i64 3, .int .i64 3, .int .i64 9, .int .i64 0, slv ga gs.length gc, slv (some ia) gs.length gs.length, slv pa pgs.length pc, slv wa way.length wc, lsv da doff dn dc, slv (some na) pgs.length pgs.length, slv (some ca) pgs.length pgs.length] :: .row wa wc 46 30 way.length (msgs way) :: F) w) (hl : l.length ≤ 1000000) (hw : way.length ≤ 100000000) :
    Calls Try.prog 38 #[.pointer (some ⟨h, 0, none⟩), slv ra l.length rc] w fun e w' => ∃ wa wc, e = .returned (.tuple #[]) ∧ Own B (.cells h 64 [.int .i64 3, .int .i64 3, .int .i64 9, .int .i64 0, slv ga gs.length gc, slv (some ia) gs.length gs.length, slv pa pgs.length pc, slv wa (sendW way l).length wc, lsv da doff dn dc, slv (some na) pgs.length pgs.length, slv (some ca) pgs.length pgs.length] :: .row wa wc 46 30 (sendW way l).length (msgs (sendW way l)) :: F) w' := by
  refine calls_ce (args := [.pointer (some ⟨h, 0, none⟩), slv ra l.length rc]) Try.func38 rfl rfl ?_
  change CE _ _ 30 _ _ [(0, .pointer (some ⟨h, 0, none⟩)), (1, slv ra l.length rc)] _
  refine ce_seq ?_
  refine ce_text (tab := []) (soft := 1) (.op 0 .nil) rfl rfl ?_
  refine re_assign rfl rfl rfl rfl rfl ?_
  refine re_nil ?_
  refine qe_thenC ?_
  refine ce_block ?_
  refine ce_loop (α := Nat × (Option Nat) × Nat) (fun ⟨k, wa, wc⟩ => [(0, .pointer (some ⟨h, 0, none⟩)), (1, slv ra l.length rc), (4, .int .i64 (k : Int))]) (fun ⟨k, wa, wc⟩ w => Own B (.row ra rc 46 30 l.length (msgs l) :: .cells h 64 [.int .i64 3, .int .i64 3, .int .i64 9, .int .i64 0, slv ga gs.length gc, slv (some ia) gs.length gs.length, slv pa pgs.length pc, slv wa (sendW way (l.take k)).length wc, lsv da doff dn dc, slv (some na) pgs.length pgs.length, slv (some ca) pgs.length pgs.length] :: .row wa wc 46 30 (sendW way (l.take k)).length (msgs (sendW way (l.take k))) :: F) w ∧ k ≤ l.length) (fun ⟨k, wa, wc⟩ => l.length - k) (0, wa, wc) (And.intro rfl (And.intro rfl (And.intro rfl trivial))) ⟨H, Nat.zero_le _⟩ ?_
  rintro ⟨k, wa, wc⟩ w HW
  obtain ⟨H, hk⟩ := HW
  change CE _ _ _ _ _ [(0, .pointer (some ⟨h, 0, none⟩)), (1, slv ra l.length rc), (4, .int .i64 (k : Int))] _
  have hsl := sendW_len way (l.take k)
  refine ce_seq ?_
  refine ce_seq ?_
  refine ce_text (tab := []) (soft := 15) (.op 0 (.op 1 (.op 2 (.op 3 .nil)))) rfl rfl ?_
  refine re_move rfl rfl rfl rfl rfl ?_
  refine re_move rfl rfl rfl rfl rfl ?_
  refine re_len rfl rfl rfl rfl rfl ul_62 ?_
  refine re_bin rfl rfl rfl rfl rfl rfl rfl ?_
  refine re_nil ?_
  refine qe_thenC ?_
  refine ce_cond rfl (fun h0 => ?_) (fun h0 => ?_)
  · try simp only [zn1, zn2, zn3, zn4, zn5, zn6] at h0
    refine ce_skip ?_
    refine qe_thenC ?_
    refine ce_seq ?_
    refine ce_block ?_
    refine ce_seq ?_
    refine ce_text (tab := []) (soft := 63) (.op 0 (.op 1 (.op 2 (.op 3 (.op 4 (.op 5 .nil)))))) rfl rfl ?_
    have hlt : k < l.length := by omega
    obtain ⟨xa, rfl⟩ := H.rsome ra (by omega)
    refine re_move rfl rfl rfl rfl rfl ?_
    refine re_nilc rfl rfl rfl rfl rfl ?_
    first | refine re_field0 rfl rfl rfl rfl rfl fo_64_4 ?_ | refine re_field rfl rfl rfl rfl rfl fo_64_4 ?_ | refine re_fieldA rfl rfl rfl rfl rfl fo_64_4 ?_
    refine re_load H rfl rfl rfl rfl rfl sh_62 rfl ?_
    refine re_len rfl rfl rfl rfl rfl ul_62 ?_
    refine re_bin rfl rfl rfl rfl rfl rfl rfl ?_
    refine re_nil ?_
    refine qe_thenC ?_
    refine ce_cond rfl (fun h1 => ?_) (fun h1 => ?_)
    · try simp only [zn1, zn2, zn3, zn4, zn5, zn6] at h1
      replace h1 : (sendW way (l.take k)).length < 4000 := by omega
      refine ce_open (tab := [0, 0, 2, 6, 14, 0, 0, 96, 224, 480, 1022, 2047, 4095, 8191]) (soft := 6655) mixed (.op 0 (.op 1 (.op 2 (.op 3 (.op 4 (.op 5 (.op 6 (.op 7 (.op 8 (.op 9 (.op 10 (.op 11 (.op 12 (.op 13 .nil)))))))))))))) (by kernel_rfl) H ?_
      intro w H
      refine re_move rfl rfl rfl rfl rfl ?_
      refine re_move rfl rfl rfl rfl rfl ?_
      refine re_nilc rfl rfl rfl rfl rfl ?_
      first | refine re_field0 rfl rfl rfl rfl rfl fo_64_4 ?_ | refine re_field rfl rfl rfl rfl rfl fo_64_4 ?_ | refine re_fieldA rfl rfl rfl rfl rfl fo_64_4 ?_
      refine re_load H rfl rfl rfl rfl rfl sh_62 rfl ?_
      refine re_move rfl rfl rfl rfl rfl ?_
      refine re_move rfl rfl rfl rfl rfl ?_
      refine re_index rfl rfl rfl rfl rfl rfl ul_62 ei_62 (by omega) (by omega) ?_
      refine re_loadW rfl rfl rfl rfl rfl (run_loadAt_agg (vs := (l[k]).cells) sh_46 (Own.rmsg (g := xa) H hlt)) ?_
      refine re_slice1 H rfl rfl rfl rfl rfl rfl ul_62 ei_62 ze_46 rfl rfl rfl (by decide) ?_
      intro g26 w H
      refine ⟨(fun _ => ⟨ancs (i := 9) (j := 8) rfl, fun _ => still_load H sh_62 rfl, trivial⟩), ?_⟩
      refine re_append H rfl rfl rfl rfl rfl rfl ul_62 ei_62 ze_46 rfl (by decide) (src_cells H rfl) rfl (by omega) (by simp only [maxLen]; omega) ?_
      intro a' c' w H _
      simp only [List.set_cons_zero, List.set_cons_succ] at H
      refine ⟨(fun _ => ⟨ancs (i := 10) (j := 8) rfl, ancs (i := 10) (j := 4) rfl, trivial⟩), ?_⟩
      refine re_nilc rfl rfl rfl rfl rfl ?_
      first | refine re_field0 rfl rfl rfl rfl rfl fo_64_4 ?_ | refine re_field rfl rfl rfl rfl rfl fo_64_4 ?_ | refine re_fieldA rfl rfl rfl rfl rfl fo_64_4 ?_
      refine re_store H rfl rfl rfl rfl rfl rfl sh_62 rfl rfl rfl ?_
      intro cs w hcs H
      first | rw [setMany_whole rfl] at hcs | simp only [setMany, List.set_cons_zero, List.set_cons_succ, Nat.reduceAdd, Nat.zero_add, PS.cells, PS.over, GM.cells, Cmd.cells, List.cons_append, List.nil_append] at hcs
      subst hcs
      refine ⟨(fun _ => ⟨ancs (i := 13) (j := 8) rfl, ancs (i := 13) (j := 4) rfl, trivial⟩), ?_⟩
      refine re_nil ?_
      refine qe_noPanic ?_
      refine qe_block_norm ?_
      refine qe_thenC ?_
      refine ce_text (tab := []) (soft := 7) (.op 0 (.op 1 (.op 2 .nil))) rfl rfl ?_
      refine re_move rfl rfl rfl rfl rfl ?_
      first | refine re_add rfl rfl rfl rfl rfl rfl (by omega) ?_ | refine re_bin rfl rfl rfl rfl rfl rfl rfl ?_
      refine re_assign rfl rfl rfl rfl rfl ?_
      refine re_nil ?_
      refine qe_round (x := (k, wa, wc)) (k + 1, a', c') ?_ ?_ ?_
      · first | (dsimp only; omega) | omega
      · exact (And.intro rfl (And.intro rfl (And.intro rfl trivial)))
      ·
        refine ⟨?_, by omega⟩
        rw [sendW_take hlt, if_pos h1]
        have H2 := H.tail
        simpa only [msgs_snoc, List.length_append, List.length_singleton] using H2
    · try simp only [zn1, zn2, zn3, zn4, zn5, zn6] at h1
      replace h1 : ¬ (sendW way (l.take k)).length < 4000 := by omega
      refine ce_skip ?_
      refine qe_block_norm ?_
      refine qe_thenC ?_
      refine ce_text (tab := []) (soft := 7) (.op 0 (.op 1 (.op 2 .nil))) rfl rfl ?_
      refine re_move rfl rfl rfl rfl rfl ?_
      first | refine re_add rfl rfl rfl rfl rfl rfl (by omega) ?_ | refine re_bin rfl rfl rfl rfl rfl rfl rfl ?_
      refine re_assign rfl rfl rfl rfl rfl ?_
      refine re_nil ?_
      refine qe_round (x := (k, wa, wc)) (k + 1, wa, wc) ?_ ?_ ?_
      · first | (dsimp only; omega) | omega
      · exact (And.intro rfl (And.intro rfl (And.intro rfl trivial)))
      ·
        refine ⟨?_, by omega⟩
        rw [sendW_take hlt, if_neg (by omega)]
        exact H
  · try simp only [zn1, zn2, zn3, zn4, zn5, zn6] at h0
    refine ce_exit ?_
    refine qe_then_exit ?_
    refine qe_then_exit ?_
    refine qe_block_exit ?_
    refine qe_end0 rfl ?_
    obtain rfl : k = l.length := by omega
    rw [List.take_length] at H
    exact ⟨_, _, rfl, H.tail⟩
end Go.Proofs.Ytofaoblfemfkiaa

namespace Go.Proofs.Ytofaoblfemfkiaa
open Go Go.RowKit Go.Fw
set_option linter.unusedSimpArgs false
set_option linter.unusedVariables false
set_option maxRecDepth 4000
set_option maxHeartbeats 2000000
theorem ei_44 : elemInfo Try.prog 44 = some (28, 9, 80) := by kernel_rfl
theorem ei_61 : elemInfo Try.prog 61 = some (29, 1, 8) := by kernel_rfl
theorem en_16 : Enterable Try.prog 16 := ⟨Try.f16, Try.func16, rfl, by decide⟩
theorem fo_64_3 : fOff Try.prog 64 3 = some 6 := by kernel_rfl
theorem fo_64_5 : fOff Try.prog 64 5 = some 8 := by kernel_rfl
theorem ul_44 : Try.prog.underlying 44 = some (.slice 28) := by kernel_rfl
theorem ul_61 : Try.prog.underlying 61 = some (.slice 29) := by kernel_rfl

theorem look_s {B w : World} {F : List Ent} {h gc ia pc wc doff dn dc na ca : Nat} {ga pa wa da : Option Nat} {gs : List Int} {ins : List Inst} {pgs : List Nat} {way : List GM} {nkd nks : List Int} {l : List XA} (H : Own B (.cells h 64 [.int .i64 3, .int .i64 3, .int .i64 9, .int .i64 0, slv ga gs.length gc, slv (some ia) gs.length gs.length, slv pa pgs.length pc, slv wa way.length wc, lsv da doff dn dc, slv (some na) pgs.length pgs.length, slv (some ca) pgs.length pgs.length] :: .row wa wc 46 30 way.length (msgs way) :: .row ga gc 3 1 gs.length (ints gs) :: .cells ia 121 (ins.flatMap Inst.cells) :: .row pa pc 29 1 pgs.length (pgs.map ptrV) :: .loose da doff dn dc 28 9 :: .cells na 3 (ints nkd) :: .cells ca 3 (ints nks) :: (ch l ++ F)) w) (hp : l.map (fun y => y.2.g) = pgs) (hn : pgs.length ≤ 1000) (hd : dn ≤ 50) :
    Calls Try.prog 40 #[.pointer (some ⟨h, 0, none⟩)] w fun e w' => ∃ d1 d2 d3 d4, d3 ≤ 50 ∧ e = .returned (.tuple #[]) ∧ Own B (.cells h 64 [.int .i64 3, .int .i64 3, .int .i64 9, .int .i64 0, slv ga gs.length gc, slv (some ia) gs.length gs.length, slv pa pgs.length pc, slv wa way.length wc, lsv d1 d2 d3 d4, slv (some na) pgs.length pgs.length, slv (some ca) pgs.length pgs.length] :: .row wa wc 46 30 way.length (msgs way) :: .row ga gc 3 1 gs.length (ints gs) :: .cells ia 121 (ins.flatMap Inst.cells) :: .row pa pc 29 1 pgs.length (pgs.map ptrV) :: .loose d1 d2 d3 d4 28 9 :: .cells na 3 (ints nkd) :: .cells ca 3 (ints nks) :: (ch l ++ F)) w' := by
  refine calls_ce (args := [.pointer (some ⟨h, 0, none⟩)]) Try.func40 rfl rfl ?_
  change CE _ _ 50 _ _ [(0, .pointer (some ⟨h, 0, none⟩))] _
  refine ce_seq ?_
  refine ce_text (tab := []) (soft := 1) (.op 0 .nil) rfl rfl ?_
  refine re_assign rfl rfl rfl rfl rfl ?_
  refine re_nil ?_
  refine qe_thenC ?_
  refine ce_block ?_
  refine ce_loop (α := Nat × (Option Nat) × Nat × Nat × Nat) (fun ⟨k, d1, d2, d3, d4⟩ => [(0, .pointer (some ⟨h, 0, none⟩)), (2, .int .i64 (k : Int))]) (fun ⟨k, d1, d2, d3, d4⟩ w => Own B (.cells h 64 [.int .i64 3, .int .i64 3, .int .i64 9, .int .i64 0, slv ga gs.length gc, slv (some ia) gs.length gs.length, slv pa pgs.length pc, slv wa way.length wc, lsv d1 d2 d3 d4, slv (some na) pgs.length pgs.length, slv (some ca) pgs.length pgs.length] :: .row wa wc 46 30 way.length (msgs way) :: .row ga gc 3 1 gs.length (ints gs) :: .cells ia 121 (ins.flatMap Inst.cells) :: .row pa pc 29 1 pgs.length (pgs.map ptrV) :: .loose d1 d2 d3 d4 28 9 :: .cells na 3 (ints nkd) :: .cells ca 3 (ints nks) :: (ch l ++ F)) w ∧ k ≤ pgs.length ∧ d3 ≤ 50) (fun ⟨k, d1, d2, d3, d4⟩ => pgs.length - k) (0, da, doff, dn, dc) (And.intro rfl (And.intro rfl trivial)) ⟨H, Nat.zero_le _, hd⟩ ?_
  rintro ⟨k, d1, d2, d3, d4⟩ w HW
  obtain ⟨H, hk, hd3⟩ := HW
  change CE _ _ _ _ _ [(0, .pointer (some ⟨h, 0, none⟩)), (2, .int .i64 (k : Int))] _
  have hll : l.length = pgs.length := by rw [← hp, List.length_map]
  refine ce_seq ?_
  refine ce_seq ?_
  refine ce_text (tab := []) (soft := 127) (.op 0 (.op 1 (.op 2 (.op 3 (.op 4 (.op 5 (.op 6 .nil))))))) rfl rfl ?_
  refine re_move rfl rfl rfl rfl rfl ?_
  refine re_move rfl rfl rfl rfl rfl ?_
  refine re_nilc rfl rfl rfl rfl rfl ?_
  first | refine re_field0 rfl rfl rfl rfl rfl fo_64_3 ?_ | refine re_field rfl rfl rfl rfl rfl fo_64_3 ?_ | refine re_fieldA rfl rfl rfl rfl rfl fo_64_3 ?_
  refine re_load H rfl rfl rfl rfl rfl sh_61 rfl ?_
  refine re_len rfl rfl rfl rfl rfl ul_61 ?_
  refine re_bin rfl rfl rfl rfl rfl rfl rfl ?_
  refine re_nil ?_
  refine qe_thenC ?_
  refine ce_cond rfl (fun h0 => ?_) (fun h0 => ?_)
  · try simp only [zn1, zn2, zn3, zn4, zn5, zn6] at h0
    refine ce_skip ?_
    refine qe_thenC ?_
    refine ce_seq ?_
    refine ce_block ?_
    refine ce_seq ?_
    refine ce_text (tab := []) (soft := 10111) (.op 0 (.op 1 (.op 2 (.op 3 (.op 4 (.op 5 (.op 6 (.op 7 (.op 8 (.op 9 (.op 10 (.op 11 (.op 12 (.op 13 .nil)))))))))))))) rfl rfl ?_
    have hlt : k < pgs.length := by omega
    have hkl : k < l.length := by omega
    obtain ⟨xp, rfl⟩ := H.rsome pa (by omega)
    refine re_move rfl rfl rfl rfl rfl ?_
    refine re_nilc rfl rfl rfl rfl rfl ?_
    first | refine re_field0 rfl rfl rfl rfl rfl fo_64_3 ?_ | refine re_field rfl rfl rfl rfl rfl fo_64_3 ?_ | refine re_fieldA rfl rfl rfl rfl rfl fo_64_3 ?_
    refine re_load H rfl rfl rfl rfl rfl sh_61 rfl ?_
    refine re_move rfl rfl rfl rfl rfl ?_
    refine re_index rfl rfl rfl rfl rfl rfl ul_61 ei_61 (by omega) (by omega) ?_
    refine re_loadW rfl rfl rfl rfl rfl (run_loadAt_one sh_29 (Own.rval H (ptr_at hp hkl))) ?_
    refine re_call en_16 rfl rfl rfl rfl rfl ?_
    have H := pick (A := [_, _, _, _, _, _, _, _]) hkl H
    refine Calls.mono (decided_c (x := l[k].1) (a := l[k].2) H) ?_
    rintro e w ⟨rfl, H⟩
    replace H := unpick0 (A := [_, _, _, _, _, _, _, _]) hkl H
    simp only [List.cons_append, List.nil_append] at H
    refine ⟨_, rfl, (fun h => (nomatch h)), ?_⟩
    refine re_move rfl rfl rfl rfl rfl ?_
    refine re_extract rfl rfl rfl rfl rfl rfl ?_
    refine re_extract rfl rfl rfl rfl rfl rfl ?_
    refine re_alloc H rfl rfl rfl rfl ze_28 ?_
    intro g3 w H
    refine ⟨(fun h => (nomatch h)), ?_⟩
    refine re_store H rfl rfl rfl rfl rfl rfl sh_28 rfl rfl rfl ?_
    intro cs w hcs H
    first | rw [setMany_whole rfl] at hcs | simp only [setMany, List.set_cons_zero, List.set_cons_succ, Nat.reduceAdd, Nat.zero_add, PS.cells, PS.over, GM.cells, Cmd.cells, List.cons_append, List.nil_append] at hcs
    subst hcs
    refine ⟨(fun h => (nomatch h)), ?_⟩
    refine re_assign rfl rfl rfl rfl rfl ?_
    refine re_nil ?_
    refine qe_thenC ?_
    refine ce_seq ?_
    refine ce_text (tab := []) (soft := 1) (.op 0 .nil) rfl rfl ?_
    refine re_move rfl rfl rfl rfl rfl ?_
    refine re_nil ?_
    refine qe_thenC ?_
    refine ce_cond rfl (fun h1 => ?_) (fun h1 => ?_)
    · try simp only [zn1, zn2, zn3, zn4, zn5, zn6] at h1
      refine ce_seq ?_
      refine ce_open (tab := [0, 0, 2, 6, 14, 0, 32, 126, 255, 511, 1023]) (soft := 831) mixed (.op 0 (.op 1 (.op 2 (.op 3 (.op 4 (.op 5 (.op 6 (.op 7 (.op 8 (.op 9 (.op 10 .nil))))))))))) (by kernel_rfl) H ?_
      intro w H
      refine re_move rfl rfl rfl rfl rfl ?_
      refine re_move rfl rfl rfl rfl rfl ?_
      refine re_nilc rfl rfl rfl rfl rfl ?_
      first | refine re_field0 rfl rfl rfl rfl rfl fo_64_5 ?_ | refine re_field rfl rfl rfl rfl rfl fo_64_5 ?_ | refine re_fieldA rfl rfl rfl rfl rfl fo_64_5 ?_
      refine re_load H rfl rfl rfl rfl rfl sh_44 rfl ?_
      refine re_load H rfl rfl rfl rfl rfl sh_28 (by first | exact rdAt_all rfl | (simp only [rdAt, PS.cells, PS.over, GM.cells, Cmd.cells, List.cons_append, List.nil_append, List.drop_succ_cons, List.drop_zero, List.take_succ_cons, List.take_zero, List.length_cons, List.length_nil, Nat.zero_add, Nat.reduceAdd, Nat.reduceLeDiff, Nat.le_refl, ↓reduceIte] <;> rfl)) ?_
      refine re_slice1 H rfl rfl rfl rfl rfl rfl ul_44 ei_44 ze_28 rfl rfl rfl (by decide) ?_
      intro g32 w H
      refine ⟨(fun _ => ⟨ancs (i := 6) (j := 5) rfl, fun _ => still_load H sh_44 rfl, trivial⟩), ?_⟩
      refine re_appendL H rfl rfl rfl rfl rfl rfl ul_44 ei_44 ze_28 rfl (by decide) (src_cells H rfl) rfl (by omega) (by simp only [maxLen]; omega) ?_
      intro a' off' c' w H
      simp only [List.set_cons_zero, List.set_cons_succ] at H
      refine ⟨(fun _ => ⟨ancs (i := 7) (j := 5) rfl, ancs (i := 7) (j := 4) rfl, trivial⟩), ?_⟩
      refine re_nilc rfl rfl rfl rfl rfl ?_
      first | refine re_field0 rfl rfl rfl rfl rfl fo_64_5 ?_ | refine re_field rfl rfl rfl rfl rfl fo_64_5 ?_ | refine re_fieldA rfl rfl rfl rfl rfl fo_64_5 ?_
      refine re_store H rfl rfl rfl rfl rfl rfl sh_44 rfl rfl rfl ?_
      intro cs w hcs H
      first | rw [setMany_whole rfl] at hcs | simp only [setMany, List.set_cons_zero, List.set_cons_succ, Nat.reduceAdd, Nat.zero_add, PS.cells, PS.over, GM.cells, Cmd.cells, List.cons_append, List.nil_append] at hcs
      subst hcs
      refine ⟨(fun _ => ⟨ancs (i := 10) (j := 5) rfl, ancs (i := 10) (j := 4) rfl, trivial⟩), ?_⟩
      refine re_nil ?_
      refine qe_noPanic ?_
      refine qe_thenC ?_
      refine ce_seq ?_
      refine ce_text (tab := []) (soft := 63) (.op 0 (.op 1 (.op 2 (.op 3 (.op 4 (.op 5 .nil)))))) rfl rfl ?_
      refine re_move rfl rfl rfl rfl rfl ?_
      refine re_nilc rfl rfl rfl rfl rfl ?_
      first | refine re_field0 rfl rfl rfl rfl rfl fo_64_5 ?_ | refine re_field rfl rfl rfl rfl rfl fo_64_5 ?_ | refine re_fieldA rfl rfl rfl rfl rfl fo_64_5 ?_
      refine re_load H rfl rfl rfl rfl rfl sh_44 rfl ?_
      refine re_len rfl rfl rfl rfl rfl ul_44 ?_
      refine re_bin rfl rfl rfl rfl rfl rfl rfl ?_
      refine re_nil ?_
      refine qe_thenC ?_
      refine ce_cond rfl (fun h2 => ?_) (fun h2 => ?_)
      · try simp only [zn1, zn2, zn3, zn4, zn5, zn6] at h2
        obtain ⟨y, rfl⟩ := Own.lsome H (a := a') (by omega)
        have hle := Own.lle H (a := some y)
        refine ce_text (tab := []) (soft := 255) (.op 0 (.op 1 (.op 2 (.op 3 (.op 4 (.op 5 (.op 6 (.op 7 (.op 8 .nil))))))))) rfl rfl ?_
        refine re_move rfl rfl rfl rfl rfl ?_
        refine re_move rfl rfl rfl rfl rfl ?_
        refine re_nilc rfl rfl rfl rfl rfl ?_
        first | refine re_field0 rfl rfl rfl rfl rfl fo_64_5 ?_ | refine re_field rfl rfl rfl rfl rfl fo_64_5 ?_ | refine re_fieldA rfl rfl rfl rfl rfl fo_64_5 ?_
        refine re_load H rfl rfl rfl rfl rfl sh_44 rfl ?_
        refine re_sliceLo rfl rfl rfl rfl rfl rfl ul_44 ei_44 (by omega) (by omega) ?_
        intro ad47 had47
        obtain rfl := had47 (by omega)
        refine re_nilc rfl rfl rfl rfl rfl ?_
        first | refine re_field0 rfl rfl rfl rfl rfl fo_64_5 ?_ | refine re_field rfl rfl rfl rfl rfl fo_64_5 ?_ | refine re_fieldA rfl rfl rfl rfl rfl fo_64_5 ?_
        refine re_store H rfl rfl rfl rfl rfl rfl sh_44 rfl rfl rfl ?_
        intro cs w hcs H
        first | rw [setMany_whole rfl] at hcs | simp only [setMany, List.set_cons_zero, List.set_cons_succ, Nat.reduceAdd, Nat.zero_add, PS.cells, PS.over, GM.cells, Cmd.cells, List.cons_append, List.nil_append] at hcs
        subst hcs
        refine ⟨(fun h => (nomatch h)), ?_⟩
        refine re_nil ?_
        refine qe_block_norm ?_
        refine qe_thenC ?_
        refine ce_text (tab := []) (soft := 7) (.op 0 (.op 1 (.op 2 .nil))) rfl rfl ?_
        refine re_move rfl rfl rfl rfl rfl ?_
        first | refine re_add rfl rfl rfl rfl rfl rfl (by omega) ?_ | refine re_bin rfl rfl rfl rfl rfl rfl rfl ?_
        refine re_assign rfl rfl rfl rfl rfl ?_
        refine re_nil ?_
        refine qe_round (x := (k, d1, d2, d3, d4)) (k + 1, some y, off' + 25 * 9, d3 + 1 - 25, c' - 25) ?_ ?_ ?_
        · first | (dsimp only; omega) | omega
        · exact (And.intro rfl (And.intro rfl trivial))
        ·
          have H := Own.ldrop H (some y) 25 (by omega) (by omega)
          simp only [List.set_cons_zero, List.set_cons_succ] at H
          rw [add_lit] at H
          exact ⟨H.tail.tail, by omega, by omega⟩
      · try simp only [zn1, zn2, zn3, zn4, zn5, zn6] at h2
        refine ce_skip ?_
        refine qe_block_norm ?_
        refine qe_thenC ?_
        refine ce_text (tab := []) (soft := 7) (.op 0 (.op 1 (.op 2 .nil))) rfl rfl ?_
        refine re_move rfl rfl rfl rfl rfl ?_
        first | refine re_add rfl rfl rfl rfl rfl rfl (by omega) ?_ | refine re_bin rfl rfl rfl rfl rfl rfl rfl ?_
        refine re_assign rfl rfl rfl rfl rfl ?_
        refine re_nil ?_
        refine qe_round (x := (k, d1, d2, d3, d4)) (k + 1, a', off', d3 + 1, c') ?_ ?_ ?_
        · first | (dsimp only; omega) | omega
        · exact (And.intro rfl (And.intro rfl trivial))
        · exact ⟨H.tail.tail, by omega, by omega⟩
    · try simp only [zn1, zn2, zn3, zn4, zn5, zn6] at h1
      refine ce_skip ?_
      refine qe_block_norm ?_
      refine qe_thenC ?_
      refine ce_text (tab := []) (soft := 7) (.op 0 (.op 1 (.op 2 .nil))) rfl rfl ?_
      refine re_move rfl rfl rfl rfl rfl ?_
      first | refine re_add rfl rfl rfl rfl rfl rfl (by omega) ?_ | refine re_bin rfl rfl rfl rfl rfl rfl rfl ?_
      refine re_assign rfl rfl rfl rfl rfl ?_
      refine re_nil ?_
      refine qe_round (x := (k, d1, d2, d3, d4)) (k + 1, d1, d2, d3, d4) ?_ ?_ ?_
      · first | (dsimp only; omega) | omega
      · exact (And.intro rfl (And.intro rfl trivial))
      · exact ⟨H.tail, by omega, by omega⟩
  · try simp only [zn1, zn2, zn3, zn4, zn5, zn6] at h0
    refine ce_exit ?_
    refine qe_then_exit ?_
    refine qe_then_exit ?_
    refine qe_block_exit ?_
    refine qe_end0 rfl ?_
    exact ⟨_, _, _, _, hd3, rfl, H⟩
end Go.Proofs.Ytofaoblfemfkiaa

namespace Go.Proofs.Ytofaoblfemfkiaa
open Go Go.RowKit Go.Fw
set_option linter.unusedSimpArgs false
set_option linter.unusedVariables false
set_option maxRecDepth 4000
set_option maxHeartbeats 2000000


theorem missing_len (gs : List Int) (kvs : List (Int × Value)) : (missing gs kvs).length ≤ gs.length := List.length_filter_le _ _
theorem X.again_len (x : X) : x.again.2.length ≤ x.p.gs.length := by
  unfold X.again
  split
  · simp
  · simp [PS.outP]
theorem X.tick_len (x : X) : x.tick.2.length ≤ x.p.gs.length := by
  unfold X.tick
  split
  · split
    · exact x.again_len
    · simp only [PS.outP, List.length_map]; exact missing_len _ _
  · split
    · exact x.again_len
    · simp only [PS.outA, List.length_map]; exact missing_len _ _
  · simp
theorem X.begin_len (x : X) : x.begin.2.length ≤ x.p.gs.length := by
  unfold X.begin
  split
  · split
    · simp
    · simp [PS.outP]
  · simp
theorem X.countP_len (x : X) (m : GM) : (x.countP m).2.length ≤ x.p.gs.length := by
  unfold X.countP
  split
  · split
    · split
      · simp
      · simp [PS.outA]
    · simp
  · simp
theorem X.countA_len (x : X) (c : Cmd) (m : GM) : (x.countA c m).2.length ≤ x.p.gs.length := by
  unfold X.countA
  split
  · split
    · simp [PS.outL]
    · simp
  · simp
theorem X.nack_len (x : X) (m : GM) : (x.nack m).2.length ≤ x.p.gs.length := by
  unfold X.nack
  split <;> simp
theorem X.take_len (x : X) (m : GM) : (x.take m).2.length ≤ x.p.gs.length := by
  unfold X.take
  split
  · split
    · split
      · simp [X.known]
      · split
        · exact x.nack_len m
        · exact x.countP_len m
    · simp
  · split
    · split
      · simp [X.known]
      · split
        · exact x.nack_len m
        · exact x.countA_len _ m
    · simp
  · simp
theorem map_set_g {l : List XA} {j : Nat} {y : XA} (hj : j < l.length) (h : y.2.g = l[j].2.g) : (l.set j y).map (fun y => y.2.g) = l.map (fun y => y.2.g) := by
  rw [List.map_set, h]
  have : l[j].2.g = (l.map (fun y => y.2.g))[j]'(by simpa using hj) := by simp
  rw [this, List.set_getElem_self]
theorem rvalL {B w : World} {L : List Ent} (H : Own B L w) {g c n : Nat} {e : TypeId} {xs : List Value} [h : InRow (some g) L c e 1 n xs] {k : Nat} {v : Value} (hv : xs[k]? = some v) : w.cell? ⟨g, 0 + ((k : Nat) : Int).toNat * 1, none⟩ = some v := by
  rw [Int.toNat_natCast, Nat.mul_one, Nat.zero_add]
  exact H.row_cell h.mem hv
theorem HP.toServer3 {s : HP} {m : GM} {k : Nat} (hk : k < s.gs.length) (hg : s.gs[k] = m.ti) (hi : k < s.ins.length) (kd : m.kind = 3) :
    s.toServer m k = { s with ins := s.ins.set k ((s.ins[k]).prep m.s0 m.s1).1, way := sendW s.way [reply m ((s.ins[k]).prep m.s0 m.s1).2] } := by
  unfold HP.toServer
  rw [if_pos (by rw [List.getElem?_eq_getElem hk, hg])]
  simp only [List.getElem?_eq_getElem hi, kd, if_true]
theorem HP.toServer4 {s : HP} {m : GM} {k : Nat} (hk : k < s.gs.length) (hg : s.gs[k] = m.ti) (hi : k < s.ins.length) (kd : m.kind = 4) :
    s.toServer m k = { s with ins := s.ins.set k ((s.ins[k]).acc m.s0 m.s1 m.cmd).1, way := sendW s.way [reply m ((s.ins[k]).acc m.s0 m.s1 m.cmd).2] } := by
  unfold HP.toServer
  rw [if_pos (by rw [List.getElem?_eq_getElem hk, hg])]
  simp only [List.getElem?_eq_getElem hi, kd, if_true]
  rfl
theorem HP.toServer5 {s : HP} {m : GM} {k : Nat} (hk : k < s.gs.length) (hg : s.gs[k] = m.ti) (hi : k < s.ins.length) (kd : m.kind = 5) :
    s.toServer m k = { s with ins := s.ins.set k ((s.ins[k]).learn m.cmd) } := by
  unfold HP.toServer
  rw [if_pos (by rw [List.getElem?_eq_getElem hk, hg])]
  simp only [List.getElem?_eq_getElem hi, kd]
  rfl
theorem HP.toServerNo {s : HP} {m : GM} {k : Nat} (hk : k < s.gs.length) (hg : s.gs[k] ≠ m.ti) : s.toServer m k = s := by
  unfold HP.toServer
  rw [if_neg (by rw [List.getElem?_eq_getElem hk]; intro h; exact hg (Option.some.inj h))]
theorem HP.client {s : HP} {m : GM} {j : Nat} (hj : m.ti - 1 = (j : Int)) (hx : j < s.xs.length) (ht : m.tc = true) :
    s.deliver m = { s.noted m s.xs[j] j with xs := s.xs.set j (s.xs[j].take m).1, way := sendW s.way (s.xs[j].take m).2 } := by
  unfold HP.deliver HP.toClient
  rw [if_pos ht, hj, if_pos (by omega)]
  simp only [Int.toNat_natCast, List.getElem?_eq_getElem hx]
theorem HP.noClient {s : HP} {m : GM} (h : ¬ (0 ≤ m.ti - 1 ∧ m.ti - 1 < (s.xs.length : Int))) (ht : m.tc = true) : s.deliver m = s := by
  unfold HP.deliver HP.toClient
  rw [if_pos ht]
  split
  · rename_i h0
    rw [List.getElem?_eq_none (by omega)]
  · rfl
theorem HP.noted_yes {s : HP} {m : GM} {x : X} {j : Nat} (hj : j < s.nks.length) (h1 : m.kind = 14) (h2 : m.rnd = x.p.rnd) : s.noted m x j = { s with nkd := s.nkd.set j m.rnd, nks := s.nks.set j (s.nks[j] + 1) } := by
  unfold HP.noted
  rw [if_pos ⟨h1, h2⟩, List.getElem?_eq_getElem hj]
  rfl
theorem HP.noted_no {s : HP} {m : GM} {x : X} {j : Nat} (h : ¬ (m.kind = 14 ∧ m.rnd = x.p.rnd)) : s.noted m x j = s := if_neg h
theorem HP.serverAll {s : HP} {m : GM} (ht : m.tc = false) : s.deliver m = s.servers m s.gs.length := by
  unfold HP.deliver
  rw [if_neg (by simp [ht])]

theorem deliver_client {gs : List Int} {ins : List Inst} {l : List XA} {way : List GM} {nkd nks : List Int} {m : GM} {j : Nat} (hj : m.ti - 1 = (j : Int)) (hjl : j < l.length) (ht : m.tc = true) :
    (HP.mk gs ins (l.map (fun y => y.1)) way nkd nks).deliver m = { (HP.mk gs ins (l.map (fun y => y.1)) way nkd nks).noted m l[j].1 j with xs := (l.map (fun y => y.1)).set j (l[j].1.take m).1, way := sendW way (l[j].1.take m).2 } := by
  have := HP.client (s := HP.mk gs ins (l.map (fun y => y.1)) way nkd nks) hj (by simpa using hjl) ht
  simpa using this
end Go.Proofs.Ytofaoblfemfkiaa

namespace Go.Proofs.Ytofaoblfemfkiaa
open Go Go.RowKit Go.Fw
set_option linter.unusedSimpArgs false
set_option linter.unusedVariables false
set_option maxRecDepth 4000
set_option maxHeartbeats 2000000
theorem ei_60 : elemInfo Try.prog 60 = some (121, 14, 120) := by kernel_rfl
theorem en_15 : Enterable Try.prog 15 := ⟨Try.f15, Try.func15, rfl, by decide⟩
theorem en_18 : Enterable Try.prog 18 := ⟨Try.f18, Try.func18, rfl, by decide⟩
theorem en_38 : Enterable Try.prog 38 := ⟨Try.f38, Try.func38, rfl, by decide⟩
theorem en_40 : Enterable Try.prog 40 := ⟨Try.f40, Try.func40, rfl, by decide⟩
theorem en_65 : Enterable Try.prog 65 := ⟨Try.f65, Try.func65, rfl, by decide⟩
theorem en_66 : Enterable Try.prog 66 := ⟨Try.f66, Try.func66, rfl, by decide⟩
theorem en_67 : Enterable Try.prog 67 := ⟨Try.f67, Try.func67, rfl, by decide⟩
theorem fo_64_1 : fOff Try.prog 64 1 = some 4 := by kernel_rfl
theorem fo_64_2 : fOff Try.prog 64 2 = some 5 := by kernel_rfl
theorem fo_64_6 : fOff Try.prog 64 6 = some 9 := by kernel_rfl
theorem fo_64_7 : fOff Try.prog 64 7 = some 10 := by kernel_rfl
theorem ul_60 : Try.prog.underlying 60 = some (.slice 121) := by kernel_rfl

set_option maxHeartbeats 40000000 in
theorem deliver_s {B w : World} {F : List Ent} {h gc ia pc wc doff dn dc na ca : Nat} {ga pa wa da : Option Nat} {gs : List Int} {ins : List Inst} {pgs : List Nat} {way : List GM} {nkd nks : List Int} {l : List XA} {m : GM} (H : Own B (.cells h 64 [.int .i64 3, .int .i64 3, .int .i64 9, .int .i64 0, slv ga gs.length gc, slv (some ia) gs.length gs.length, slv pa pgs.length pc, slv wa way.length wc, lsv da doff dn dc, slv (some na) pgs.length pgs.length, slv (some ca) pgs.length pgs.length] :: .row wa wc 46 30 way.length (msgs way) :: .row ga gc 3 1 gs.length (ints gs) :: .cells ia 121 (ins.flatMap Inst.cells) :: .row pa pc 29 1 pgs.length (pgs.map ptrV) :: .loose da doff dn dc 28 9 :: .cells na 3 (ints nkd) :: .cells ca 3 (ints nks) :: (ch l ++ F)) w) (hp : l.map (fun y => y.2.g) = pgs) (hn : pgs.length ≤ 1000) (hd : dn ≤ 50) (hil : ins.length = gs.length) (hgl : gs.length ≤ 1000) (hnl : nkd.length = pgs.length) (hnl2 : nks.length = pgs.length) (hnk : ∀ x ∈ nks, 0 ≤ x ∧ x ≤ 1000000000) (hwl : way.length ≤ 10000000) (hok : ∀ y ∈ l, y.1.ok) (hti : 0 ≤ m.ti ∧ m.ti ≤ 1000000) (hkc : m.tc = true → m.kind = 16 ∨ m.kind = 14 ∨ (m.kind = 13 ∨ m.kind = 15)) (hks : m.tc = false → m.kind = 3 ∨ m.kind = 4 ∨ m.kind = 5) :
    Calls Try.prog 39 #[.pointer (some ⟨h, 0, none⟩), .agg m.cells.toArray] w fun e w' => ∃ s' wa wc d1 d2 d3 d4 l', s' = (HP.mk gs ins (l.map (fun y => y.1)) way nkd nks).deliver m ∧ d3 ≤ 50 ∧ l'.map (fun y => y.2.g) = pgs ∧ l'.map (fun y => y.1) = s'.xs ∧ e = .returned (.tuple #[]) ∧ Own B (.cells h 64 [.int .i64 3, .int .i64 3, .int .i64 9, .int .i64 0, slv ga gs.length gc, slv (some ia) gs.length gs.length, slv pa pgs.length pc, slv wa s'.way.length wc, lsv d1 d2 d3 d4, slv (some na) pgs.length pgs.length, slv (some ca) pgs.length pgs.length] :: .row wa wc 46 30 s'.way.length (msgs s'.way) :: .row ga gc 3 1 gs.length (ints gs) :: .cells ia 121 (s'.ins.flatMap Inst.cells) :: .row pa pc 29 1 pgs.length (pgs.map ptrV) :: .loose d1 d2 d3 d4 28 9 :: .cells na 3 (ints s'.nkd) :: .cells ca 3 (ints s'.nks) :: (ch l' ++ F)) w' := by
  refine calls_ce (args := [.pointer (some ⟨h, 0, none⟩), .agg m.cells.toArray]) Try.func39 rfl rfl ?_
  change CE _ _ 182 _ _ [(0, .pointer (some ⟨h, 0, none⟩)), (1, .agg m.cells.toArray)] _
  refine ce_seq ?_
  refine ce_text (tab := []) (soft := 0) (.op 0 .nil) rfl rfl ?_
  refine re_box H rfl rfl rfl rfl rfl rfl ?_
  intro g3 w H
  refine ⟨(fun h => (nomatch h)), ?_⟩
  refine re_nil ?_
  refine qe_thenC ?_
  refine ce_seq ?_
  refine ce_seq ?_
  refine ce_text (tab := []) (soft := 7) (.op 0 (.op 1 (.op 2 .nil))) rfl rfl ?_
  first | refine re_field0 rfl rfl rfl rfl rfl fo_46_2 ?_ | refine re_field rfl rfl rfl rfl rfl fo_46_2 ?_ | refine re_fieldA rfl rfl rfl rfl rfl fo_46_2 ?_
  first | refine re_field0 rfl rfl rfl rfl rfl fo_36_0 ?_ | refine re_field rfl rfl rfl rfl rfl fo_36_0 ?_ | refine re_fieldA rfl rfl rfl rfl rfl fo_36_0 ?_
  refine re_load H rfl rfl rfl rfl rfl sh_4 rfl ?_
  refine re_nil ?_
  refine qe_thenC ?_
  refine ce_cond rfl (fun h0 => ?_) (fun h0 => ?_)
  · try simp only [zn1, zn2, zn3, zn4, zn5, zn6] at h0
    have hll : l.length = pgs.length := by rw [← hp, List.length_map]
    have hkc := hkc h0
    refine ce_seq ?_
    refine ce_text (tab := []) (soft := 31) (.op 0 (.op 1 (.op 2 (.op 3 (.op 4 .nil))))) rfl rfl ?_
    first | refine re_field0 rfl rfl rfl rfl rfl fo_46_2 ?_ | refine re_field rfl rfl rfl rfl rfl fo_46_2 ?_ | refine re_fieldA rfl rfl rfl rfl rfl fo_46_2 ?_
    first | refine re_field0 rfl rfl rfl rfl rfl fo_36_1 ?_ | refine re_field rfl rfl rfl rfl rfl fo_36_1 ?_ | refine re_fieldA rfl rfl rfl rfl rfl fo_36_1 ?_
    refine re_load H rfl rfl rfl rfl rfl sh_3 rfl ?_
    first | refine re_subI rfl rfl rfl rfl rfl rfl (by omega) ?_ | refine re_bin rfl rfl rfl rfl rfl rfl rfl ?_
    refine re_assign rfl rfl rfl rfl rfl ?_
    refine re_nil ?_
    refine qe_thenC ?_
    refine ce_seq ?_
    refine ce_seq ?_
    refine ce_text (tab := []) (soft := 2047) (.op 0 (.op 1 (.op 2 (.op 3 (.op 4 (.op 5 (.op 6 (.op 7 (.op 8 (.op 9 (.op 10 .nil))))))))))) rfl rfl ?_
    refine re_move rfl rfl rfl rfl rfl ?_
    refine re_bin rfl rfl rfl rfl rfl rfl rfl ?_
    refine re_move rfl rfl rfl rfl rfl ?_
    refine re_split (fun hg3_2 => ?_) (fun hg3_2 => ?_)
    ·
      refine re_move rfl rfl rfl rfl rfl ?_
      refine re_move rfl rfl rfl rfl rfl ?_
      refine re_nilc rfl rfl rfl rfl rfl ?_
      first | refine re_field0 rfl rfl rfl rfl rfl fo_64_3 ?_ | refine re_field rfl rfl rfl rfl rfl fo_64_3 ?_ | refine re_fieldA rfl rfl rfl rfl rfl fo_64_3 ?_
      refine re_load H rfl rfl rfl rfl rfl sh_61 rfl ?_
      refine re_len rfl rfl rfl rfl rfl ul_61 ?_
      refine re_bin rfl rfl rfl rfl rfl rfl rfl ?_
      refine re_pickT rfl rfl rfl rfl rfl rfl ?_
      refine re_nil ?_
      refine qe_thenC ?_
      refine ce_cond rfl (fun h1 => ?_) (fun h1 => ?_)
      · try simp only [zn1, zn2, zn3, zn4, zn5, zn6] at h1
        refine ce_seq ?_
        refine ce_seq ?_
        refine ce_open (tab := [0, 1, 3, 7, 15, 31, 15, 79, 207, 463, 15, 1999, 4047, 8143, 16383, 32767]) (soft := 57343) mixed (.op 0 (.op 1 (.op 2 (.op 3 (.op 4 (.op 5 (.op 6 (.op 7 (.op 8 (.op 9 (.op 10 (.op 11 (.op 12 (.op 13 (.op 14 (.op 15 .nil)))))))))))))))) (by kernel_rfl) H ?_
        intro w H
        have h00 := of_decide_eq_true hg3_2
        obtain ⟨j, hj⟩ : ∃ j : Nat, m.ti - 1 = (j : Int) := ⟨(m.ti - 1).toNat, by omega⟩
        simp only [hj]
        have hjl : j < l.length := by omega
        obtain ⟨xp, rfl⟩ := H.rsome pa (by omega)
        have hoj := hok l[j] (List.getElem_mem hjl)
        first | refine re_field0 rfl rfl rfl rfl rfl fo_46_0 ?_ | refine re_field rfl rfl rfl rfl rfl fo_46_0 ?_ | refine re_fieldA rfl rfl rfl rfl rfl fo_46_0 ?_
        refine re_load H rfl rfl rfl rfl rfl sh_3 rfl ?_
        refine re_bin rfl rfl rfl rfl rfl rfl rfl ?_
        refine re_move rfl rfl rfl rfl rfl ?_
        refine re_split (fun hg4_3 => ?_) (fun hg4_3 => ?_)
        ·
          first | refine re_field0 rfl rfl rfl rfl rfl fo_46_4 ?_ | refine re_field rfl rfl rfl rfl rfl fo_46_4 ?_ | refine re_fieldA rfl rfl rfl rfl rfl fo_46_4 ?_
          refine re_load H rfl rfl rfl rfl rfl sh_3 rfl ?_
          refine re_move rfl rfl rfl rfl rfl ?_
          refine re_nilc rfl rfl rfl rfl rfl ?_
          first | refine re_field0 rfl rfl rfl rfl rfl fo_64_3 ?_ | refine re_field rfl rfl rfl rfl rfl fo_64_3 ?_ | refine re_fieldA rfl rfl rfl rfl rfl fo_64_3 ?_
          refine re_load H rfl rfl rfl rfl rfl sh_61 rfl ?_
          refine re_move rfl rfl rfl rfl rfl ?_
          refine re_indexL rfl rfl rfl rfl rfl rfl ul_61 ei_61 (by omega) (by omega) ?_
          refine re_loadW rfl rfl rfl rfl rfl (run_loadAt_one sh_29 (rvalL H (ptr_at hp hjl))) ?_
          refine re_call en_15 rfl rfl rfl rfl rfl ?_
          have H := pick (A := [_, _, _, _, _, _, _, _, _]) hjl H
          refine Calls.mono (round_c (x := l[j].1) (a := l[j].2) H) ?_
          rintro e w ⟨rfl, H⟩
          replace H := unpick0 (A := [_, _, _, _, _, _, _, _, _]) hjl H
          simp only [List.cons_append, List.nil_append] at H
          refine ⟨_, rfl, (fun _ => ⟨ancs (i := 13) (j := 12) rfl, ancs (i := 13) (j := 9) rfl, fun _ => still_load H sh_3 rfl, ancs (i := 13) (j := 1) rfl, trivial⟩), ?_⟩
          refine re_bin rfl rfl rfl rfl rfl rfl rfl ?_
          refine re_pickT rfl rfl rfl rfl rfl rfl ?_
          refine re_nil ?_
          refine qe_noPanic ?_
          refine qe_thenC ?_
          refine ce_cond rfl (fun h2 => ?_) (fun h2 => ?_)
          · try simp only [zn1, zn2, zn3, zn4, zn5, zn6] at h2
            refine ce_seq ?_
            refine ce_open (tab := [0, 1, 3, 7, 0, 0, 32, 127, 255]) (soft := 255) mixed (.op 0 (.op 1 (.op 2 (.op 3 (.op 4 (.op 5 (.op 6 (.op 7 (.op 8 .nil))))))))) (by kernel_rfl) H ?_
            intro w H
            refine re_move rfl rfl rfl rfl rfl ?_
            refine re_nilc rfl rfl rfl rfl rfl ?_
            first | refine re_field0 rfl rfl rfl rfl rfl fo_64_6 ?_ | refine re_field rfl rfl rfl rfl rfl fo_64_6 ?_ | refine re_fieldA rfl rfl rfl rfl rfl fo_64_6 ?_
            refine re_load H rfl rfl rfl rfl rfl sh_31 rfl ?_
            refine re_move rfl rfl rfl rfl rfl ?_
            first | refine re_field0 rfl rfl rfl rfl rfl fo_46_4 ?_ | refine re_field rfl rfl rfl rfl rfl fo_46_4 ?_ | refine re_fieldA rfl rfl rfl rfl rfl fo_46_4 ?_
            refine re_load H rfl rfl rfl rfl rfl sh_3 rfl ?_
            refine re_indexL rfl rfl rfl rfl rfl rfl ul_31 ei_31 (by omega) (by omega) ?_
            refine re_store H rfl rfl rfl rfl rfl rfl sh_3 rfl (Nat.ble_eq_true_of_le (by simp; omega)) rfl ?_
            intro cs w hcs H
            replace hcs := (set_one (l := nkd) (k := j) (Value.int .i64) m.rnd).symm.trans hcs
            subst hcs
            refine ⟨(fun _ => ⟨ancs (i := 8) (j := 6) rfl, ancs (i := 8) (j := 3) rfl, trivial⟩), ?_⟩
            refine re_nil ?_
            refine qe_noPanic ?_
            refine qe_thenC ?_
            refine ce_text (tab := []) (soft := 511) (.op 0 (.op 1 (.op 2 (.op 3 (.op 4 (.op 5 (.op 6 (.op 7 (.op 8 (.op 9 .nil)))))))))) rfl rfl ?_
            refine re_move rfl rfl rfl rfl rfl ?_
            refine re_nilc rfl rfl rfl rfl rfl ?_
            first | refine re_field0 rfl rfl rfl rfl rfl fo_64_7 ?_ | refine re_field rfl rfl rfl rfl rfl fo_64_7 ?_ | refine re_fieldA rfl rfl rfl rfl rfl fo_64_7 ?_
            refine re_load H rfl rfl rfl rfl rfl sh_31 rfl ?_
            refine re_move rfl rfl rfl rfl rfl ?_
            refine re_indexL rfl rfl rfl rfl rfl rfl ul_31 ei_31 (by omega) (by omega) ?_
            refine re_load H rfl rfl rfl rfl rfl sh_3 (rd_one (Value.int .i64) (l := nks) (k := j) (by omega)) ?_
            have hnkj := hnk nks[j] (List.getElem_mem (by omega))
            first | refine re_add rfl rfl rfl rfl rfl rfl (by omega) ?_ | refine re_bin rfl rfl rfl rfl rfl rfl rfl ?_
            refine re_indexL rfl rfl rfl rfl rfl rfl ul_31 ei_31 (by omega) (by omega) ?_
            refine re_store H rfl rfl rfl rfl rfl rfl sh_3 rfl (Nat.ble_eq_true_of_le (by simp; omega)) rfl ?_
            intro cs w hcs H
            replace hcs := (set_one (l := nks) (k := j) (Value.int .i64) (nks[j] + 1)).symm.trans hcs
            subst hcs
            refine ⟨(fun h => (nomatch h)), ?_⟩
            refine re_nil ?_
            refine qe_thenC ?_
            refine ce_seq ?_
            refine ce_open (tab := [0, 0, 2, 6, 14, 0, 62, 126, 0, 510, 1023]) (soft := 511) mixed (.op 0 (.op 1 (.op 2 (.op 3 (.op 4 (.op 5 (.op 6 (.op 7 (.op 8 (.op 9 (.op 10 .nil))))))))))) (by kernel_rfl) H ?_
            intro w H
            refine re_move rfl rfl rfl rfl rfl ?_
            refine re_move rfl rfl rfl rfl rfl ?_
            refine re_nilc rfl rfl rfl rfl rfl ?_
            first | refine re_field0 rfl rfl rfl rfl rfl fo_64_3 ?_ | refine re_field rfl rfl rfl rfl rfl fo_64_3 ?_ | refine re_fieldA rfl rfl rfl rfl rfl fo_64_3 ?_
            refine re_load H rfl rfl rfl rfl rfl sh_61 rfl ?_
            refine re_move rfl rfl rfl rfl rfl ?_
            refine re_indexL rfl rfl rfl rfl rfl rfl ul_61 ei_61 (by omega) (by omega) ?_
            refine re_loadW rfl rfl rfl rfl rfl (run_loadAt_one sh_29 (rvalL H (ptr_at hp hjl))) ?_
            refine re_load H rfl rfl rfl rfl rfl sh_46 (by first | exact rdAt_all rfl | (simp only [rdAt, PS.cells, PS.over, GM.cells, Cmd.cells, List.cons_append, List.nil_append, List.drop_succ_cons, List.drop_zero, List.take_succ_cons, List.take_zero, List.length_cons, List.length_nil, Nat.zero_add, Nat.reduceAdd, Nat.reduceLeDiff, Nat.le_refl, ↓reduceIte] <;> rfl)) ?_
            refine re_call en_18 rfl rfl rfl rfl rfl ?_
            have H := pick (A := [_, _, _, _, _, _, _, _, _]) hjl H
            refine Calls.mono (take_c (x := l[j].1) (a := l[j].2) (m := m) hoj (fun _ => hkc) H) ?_
            rintro e w ⟨a, s, c, hg, rfl, H⟩
            replace H := unpick (D := [_]) (A := [_, _, _, _, _, _, _, _, _]) (y := ((l[j].1.take m).1, a)) hjl H
            simp only [List.cons_append, List.nil_append] at H
            refine ⟨_, rfl, (fun _ => ⟨ancs (i := 9) (j := 8) rfl, ancs (i := 9) (j := 7) rfl, ancs (i := 9) (j := 4) rfl, trivial⟩), ?_⟩
            refine re_call en_38 rfl rfl rfl rfl rfl ?_
            have H := Own.arr [1, 3, 3, 3] H
            simp only [arrs, Fw.front, zm1, zm2, zm3, zm4, zm5] at H
            refine Calls.mono (sendH_s H (by have := X.take_len l[j].1 m; have := hoj.len; omega) (by omega)) ?_
            rintro e w ⟨wa, wc, rfl, H⟩
            refine ⟨_, rfl, (fun _ => ⟨ancs (i := 10) (j := 8) rfl, ancs (i := 10) (j := 7) rfl, ancs (i := 10) (j := 4) rfl, trivial⟩), ?_⟩
            refine re_nil ?_
            refine qe_noPanic ?_
            refine qe_thenC ?_
            refine ce_text (tab := []) (soft := 1) (.op 0 (.op 1 .nil)) rfl rfl ?_
            refine re_move rfl rfl rfl rfl rfl ?_
            refine re_call en_40 rfl rfl rfl rfl rfl ?_
            have H := Own.arr [8, 8, 8, 8, 8, 8, 7, 7] H
            simp only [arrs, Fw.front, zm1, zm2, zm3, zm4, zm5] at H
            replace H := H.sub (.cons_cons _ (.cons_cons _ (.cons_cons _ (.cons_cons _ (.cons_cons _ (.cons_cons _ (.cons_cons _ (.cons_cons _ (.cons _ (List.Sublist.refl _))))))))))
            refine Calls.mono (look_s H ((map_set_g hjl hg).trans hp) hn hd) ?_
            rintro e w ⟨d1, d2, d3, d4, hd3, rfl, H⟩
            refine ⟨_, rfl, (fun h => (nomatch h)), ?_⟩
            refine re_nil ?_
            refine qe_thenC ?_
            refine ce_ret ?_
            refine qe_then_ret ?_
            refine qe_end0r rfl ?_
            exact ⟨_, wa, wc, d1, d2, d3, d4, l.set j ((l[j].1.take m).1, a), by rw [deliver_client hj hjl h0, HP.noted_yes (by show j < nks.length; omega) (of_decide_eq_true hg4_3) h2], hd3, (map_set_g hjl hg).trans hp, by simp [List.map_set], rfl, H⟩
          · try simp only [zn1, zn2, zn3, zn4, zn5, zn6] at h2
            refine ce_skip ?_
            refine qe_thenC ?_
            refine ce_seq ?_
            refine ce_open (tab := [0, 0, 2, 6, 14, 0, 62, 126, 0, 510, 1023]) (soft := 511) mixed (.op 0 (.op 1 (.op 2 (.op 3 (.op 4 (.op 5 (.op 6 (.op 7 (.op 8 (.op 9 (.op 10 .nil))))))))))) (by kernel_rfl) H ?_
            intro w H
            refine re_move rfl rfl rfl rfl rfl ?_
            refine re_move rfl rfl rfl rfl rfl ?_
            refine re_nilc rfl rfl rfl rfl rfl ?_
            first | refine re_field0 rfl rfl rfl rfl rfl fo_64_3 ?_ | refine re_field rfl rfl rfl rfl rfl fo_64_3 ?_ | refine re_fieldA rfl rfl rfl rfl rfl fo_64_3 ?_
            refine re_load H rfl rfl rfl rfl rfl sh_61 rfl ?_
            refine re_move rfl rfl rfl rfl rfl ?_
            refine re_indexL rfl rfl rfl rfl rfl rfl ul_61 ei_61 (by omega) (by omega) ?_
            refine re_loadW rfl rfl rfl rfl rfl (run_loadAt_one sh_29 (rvalL H (ptr_at hp hjl))) ?_
            refine re_load H rfl rfl rfl rfl rfl sh_46 (by first | exact rdAt_all rfl | (simp only [rdAt, PS.cells, PS.over, GM.cells, Cmd.cells, List.cons_append, List.nil_append, List.drop_succ_cons, List.drop_zero, List.take_succ_cons, List.take_zero, List.length_cons, List.length_nil, Nat.zero_add, Nat.reduceAdd, Nat.reduceLeDiff, Nat.le_refl, ↓reduceIte] <;> rfl)) ?_
            refine re_call en_18 rfl rfl rfl rfl rfl ?_
            have H := pick (A := [_, _, _, _, _, _, _, _, _]) hjl H
            refine Calls.mono (take_c (x := l[j].1) (a := l[j].2) (m := m) hoj (fun _ => hkc) H) ?_
            rintro e w ⟨a, s, c, hg, rfl, H⟩
            replace H := unpick (D := [_]) (A := [_, _, _, _, _, _, _, _, _]) (y := ((l[j].1.take m).1, a)) hjl H
            simp only [List.cons_append, List.nil_append] at H
            refine ⟨_, rfl, (fun _ => ⟨ancs (i := 9) (j := 8) rfl, ancs (i := 9) (j := 7) rfl, ancs (i := 9) (j := 4) rfl, trivial⟩), ?_⟩
            refine re_call en_38 rfl rfl rfl rfl rfl ?_
            have H := Own.arr [1, 3, 3, 3] H
            simp only [arrs, Fw.front, zm1, zm2, zm3, zm4, zm5] at H
            refine Calls.mono (sendH_s H (by have := X.take_len l[j].1 m; have := hoj.len; omega) (by omega)) ?_
            rintro e w ⟨wa, wc, rfl, H⟩
            refine ⟨_, rfl, (fun _ => ⟨ancs (i := 10) (j := 8) rfl, ancs (i := 10) (j := 7) rfl, ancs (i := 10) (j := 4) rfl, trivial⟩), ?_⟩
            refine re_nil ?_
            refine qe_noPanic ?_
            refine qe_thenC ?_
            refine ce_text (tab := []) (soft := 1) (.op 0 (.op 1 .nil)) rfl rfl ?_
            refine re_move rfl rfl rfl rfl rfl ?_
            refine re_call en_40 rfl rfl rfl rfl rfl ?_
            have H := Own.arr [8, 8, 8, 8, 8, 8, 7, 7] H
            simp only [arrs, Fw.front, zm1, zm2, zm3, zm4, zm5] at H
            replace H := H.sub (.cons_cons _ (.cons_cons _ (.cons_cons _ (.cons_cons _ (.cons_cons _ (.cons_cons _ (.cons_cons _ (.cons_cons _ (.cons _ (List.Sublist.refl _))))))))))
            refine Calls.mono (look_s H ((map_set_g hjl hg).trans hp) hn hd) ?_
            rintro e w ⟨d1, d2, d3, d4, hd3, rfl, H⟩
            refine ⟨_, rfl, (fun h => (nomatch h)), ?_⟩
            refine re_nil ?_
            refine qe_thenC ?_
            refine ce_ret ?_
            refine qe_then_ret ?_
            refine qe_end0r rfl ?_
            exact ⟨_, wa, wc, d1, d2, d3, d4, l.set j ((l[j].1.take m).1, a), by rw [deliver_client hj hjl h0, HP.noted_no (fun h => h2 h.2)], hd3, (map_set_g hjl hg).trans hp, by simp [List.map_set], rfl, H⟩
        ·
          refine re_skip1 rfl rfl rfl ?_
          refine re_skip1 rfl rfl rfl ?_
          refine re_skip1 rfl rfl rfl ?_
          refine re_skip1 rfl rfl rfl ?_
          refine re_skip1 rfl rfl rfl ?_
          refine re_skip1 rfl rfl rfl ?_
          refine re_skip1 rfl rfl rfl ?_
          refine re_skip1 rfl rfl rfl ?_
          refine re_skip1 rfl rfl rfl ?_
          refine re_skip1 rfl rfl rfl ?_
          refine re_skip1 rfl rfl rfl ?_
          refine re_pickF rfl rfl rfl rfl rfl rfl ?_
          refine re_nil ?_
          refine qe_noPanic ?_
          refine qe_thenC ?_
          refine ce_condF rfl ?_
          refine ce_skip ?_
          refine qe_thenC ?_
          refine ce_seq ?_
          refine ce_open (tab := [0, 0, 2, 6, 14, 0, 62, 126, 0, 510, 1023]) (soft := 511) mixed (.op 0 (.op 1 (.op 2 (.op 3 (.op 4 (.op 5 (.op 6 (.op 7 (.op 8 (.op 9 (.op 10 .nil))))))))))) (by kernel_rfl) H ?_
          intro w H
          refine re_move rfl rfl rfl rfl rfl ?_
          refine re_move rfl rfl rfl rfl rfl ?_
          refine re_nilc rfl rfl rfl rfl rfl ?_
          first | refine re_field0 rfl rfl rfl rfl rfl fo_64_3 ?_ | refine re_field rfl rfl rfl rfl rfl fo_64_3 ?_ | refine re_fieldA rfl rfl rfl rfl rfl fo_64_3 ?_
          refine re_load H rfl rfl rfl rfl rfl sh_61 rfl ?_
          refine re_move rfl rfl rfl rfl rfl ?_
          refine re_indexL rfl rfl rfl rfl rfl rfl ul_61 ei_61 (by omega) (by omega) ?_
          refine re_loadW rfl rfl rfl rfl rfl (run_loadAt_one sh_29 (rvalL H (ptr_at hp hjl))) ?_
          refine re_load H rfl rfl rfl rfl rfl sh_46 (by first | exact rdAt_all rfl | (simp only [rdAt, PS.cells, PS.over, GM.cells, Cmd.cells, List.cons_append, List.nil_append, List.drop_succ_cons, List.drop_zero, List.take_succ_cons, List.take_zero, List.length_cons, List.length_nil, Nat.zero_add, Nat.reduceAdd, Nat.reduceLeDiff, Nat.le_refl, ↓reduceIte] <;> rfl)) ?_
          refine re_call en_18 rfl rfl rfl rfl rfl ?_
          have H := pick (A := [_, _, _, _, _, _, _, _, _]) hjl H
          refine Calls.mono (take_c (x := l[j].1) (a := l[j].2) (m := m) hoj (fun _ => hkc) H) ?_
          rintro e w ⟨a, s, c, hg, rfl, H⟩
          replace H := unpick (D := [_]) (A := [_, _, _, _, _, _, _, _, _]) (y := ((l[j].1.take m).1, a)) hjl H
          simp only [List.cons_append, List.nil_append] at H
          refine ⟨_, rfl, (fun _ => ⟨ancs (i := 9) (j := 8) rfl, ancs (i := 9) (j := 7) rfl, ancs (i := 9) (j := 4) rfl, trivial⟩), ?_⟩
          refine re_call en_38 rfl rfl rfl rfl rfl ?_
          have H := Own.arr [1, 3, 3, 3] H
          simp only [arrs, Fw.front, zm1, zm2, zm3, zm4, zm5] at H
          refine Calls.mono (sendH_s H (by have := X.take_len l[j].1 m; have := hoj.len; omega) (by omega)) ?_
          rintro e w ⟨wa, wc, rfl, H⟩
          refine ⟨_, rfl, (fun _ => ⟨ancs (i := 10) (j := 8) rfl, ancs (i := 10) (j := 7) rfl, ancs (i := 10) (j := 4) rfl, trivial⟩), ?_⟩
          refine re_nil ?_
          refine qe_noPanic ?_
          refine qe_thenC ?_
          refine ce_text (tab := []) (soft := 1) (.op 0 (.op 1 .nil)) rfl rfl ?_
          refine re_move rfl rfl rfl rfl rfl ?_
          refine re_call en_40 rfl rfl rfl rfl rfl ?_
          have H := Own.arr [8, 8, 8, 8, 8, 8, 7, 7] H
          simp only [arrs, Fw.front, zm1, zm2, zm3, zm4, zm5] at H
          replace H := H.sub (.cons_cons _ (.cons_cons _ (.cons_cons _ (.cons_cons _ (.cons_cons _ (.cons_cons _ (.cons_cons _ (.cons_cons _ (.cons _ (List.Sublist.refl _))))))))))
          refine Calls.mono (look_s H ((map_set_g hjl hg).trans hp) hn hd) ?_
          rintro e w ⟨d1, d2, d3, d4, hd3, rfl, H⟩
          refine ⟨_, rfl, (fun h => (nomatch h)), ?_⟩
          refine re_nil ?_
          refine qe_thenC ?_
          refine ce_ret ?_
          refine qe_then_ret ?_
          refine qe_end0r rfl ?_
          exact ⟨_, wa, wc, d1, d2, d3, d4, l.set j ((l[j].1.take m).1, a), by rw [deliver_client hj hjl h0, HP.noted_no (fun h => of_decide_eq_false hg4_3 h.1)], hd3, (map_set_g hjl hg).trans hp, by simp [List.map_set], rfl, H⟩
      · try simp only [zn1, zn2, zn3, zn4, zn5, zn6] at h1
        refine ce_skip ?_
        refine qe_thenC ?_
        refine ce_ret ?_
        refine qe_then_ret ?_
        refine qe_end0r rfl ?_
        exact ⟨_, wa, wc, da, doff, dn, dc, l, (HP.noClient (by simp only [List.length_map]; omega) h0).symm, hd, hp, rfl, rfl, H.tail⟩
    ·
      refine re_skip1 rfl rfl rfl ?_
      refine re_skip1 rfl rfl rfl ?_
      refine re_skip1 rfl rfl rfl ?_
      refine re_skip1 rfl rfl rfl ?_
      refine re_skip1 rfl rfl rfl ?_
      refine re_skip1 rfl rfl rfl ?_
      refine re_skip1 rfl rfl rfl ?_
      refine re_pickF rfl rfl rfl rfl rfl rfl ?_
      refine re_nil ?_
      refine qe_thenC ?_
      refine ce_condF rfl ?_
      refine ce_skip ?_
      refine qe_thenC ?_
      refine ce_ret ?_
      refine qe_then_ret ?_
      refine qe_end0r rfl ?_
      exact ⟨_, wa, wc, da, doff, dn, dc, l, (HP.noClient (fun h => of_decide_eq_false hg3_2 h.1) h0).symm, hd, hp, rfl, rfl, H.tail⟩
  · try simp only [zn1, zn2, zn3, zn4, zn5, zn6] at h0
    have hks := hks h0
    refine ce_skip ?_
    refine qe_thenC ?_
    refine ce_seq ?_
    refine ce_text (tab := []) (soft := 1) (.op 0 .nil) rfl rfl ?_
    refine re_assign rfl rfl rfl rfl rfl ?_
    refine re_nil ?_
    refine qe_thenC ?_
    refine ce_block ?_
    refine ce_loop (α := Nat × (List Inst) × (List GM) × (Option Nat) × Nat) (fun ⟨k, insk, wayk, wa, wc⟩ => [(0, .pointer (some ⟨h, 0, none⟩)), (3, .pointer (some ⟨g3, 0, none⟩)), (5, .int .i64 (k : Int))]) (fun ⟨k, insk, wayk, wa, wc⟩ w => Own B (.cells g3 46 m.cells :: .cells h 64 [.int .i64 3, .int .i64 3, .int .i64 9, .int .i64 0, slv ga gs.length gc, slv (some ia) gs.length gs.length, slv pa pgs.length pc, slv wa wayk.length wc, lsv da doff dn dc, slv (some na) pgs.length pgs.length, slv (some ca) pgs.length pgs.length] :: .row wa wc 46 30 wayk.length (msgs wayk) :: .row ga gc 3 1 gs.length (ints gs) :: .cells ia 121 (insk.flatMap Inst.cells) :: .row pa pc 29 1 pgs.length (pgs.map ptrV) :: .loose da doff dn dc 28 9 :: .cells na 3 (ints nkd) :: .cells ca 3 (ints nks) :: (ch l ++ F)) w ∧ k ≤ gs.length ∧ HP.mk gs insk (l.map (fun y => y.1)) wayk nkd nks = (HP.mk gs ins (l.map (fun y => y.1)) way nkd nks).servers m k ∧ insk.length = gs.length ∧ wayk.length ≤ 10000000) (fun ⟨k, insk, wayk, wa, wc⟩ => gs.length - k) (0, ins, way, wa, wc) (And.intro rfl (And.intro rfl (And.intro rfl trivial))) ⟨H, Nat.zero_le _, rfl, hil, hwl⟩ ?_
    rintro ⟨k, insk, wayk, wa, wc⟩ w HW
    obtain ⟨H, hk, hs, hik, hwk⟩ := HW
    change CE _ _ _ _ _ [(0, .pointer (some ⟨h, 0, none⟩)), (3, .pointer (some ⟨g3, 0, none⟩)), (5, .int .i64 (k : Int))] _
    refine ce_seq ?_
    refine ce_seq ?_
    refine ce_text (tab := []) (soft := 127) (.op 0 (.op 1 (.op 2 (.op 3 (.op 4 (.op 5 (.op 6 .nil))))))) rfl rfl ?_
    refine re_move rfl rfl rfl rfl rfl ?_
    refine re_move rfl rfl rfl rfl rfl ?_
    refine re_nilc rfl rfl rfl rfl rfl ?_
    first | refine re_field0 rfl rfl rfl rfl rfl fo_64_1 ?_ | refine re_field rfl rfl rfl rfl rfl fo_64_1 ?_ | refine re_fieldA rfl rfl rfl rfl rfl fo_64_1 ?_
    refine re_load H rfl rfl rfl rfl rfl sh_31 rfl ?_
    refine re_len rfl rfl rfl rfl rfl ul_31 ?_
    refine re_bin rfl rfl rfl rfl rfl rfl rfl ?_
    refine re_nil ?_
    refine qe_thenC ?_
    refine ce_cond rfl (fun h3 => ?_) (fun h3 => ?_)
    · try simp only [zn1, zn2, zn3, zn4, zn5, zn6] at h3
      refine ce_skip ?_
      refine qe_thenC ?_
      refine ce_seq ?_
      refine ce_block ?_
      refine ce_seq ?_
      refine ce_seq ?_
      refine ce_open (tab := [0, 1, 3, 7, 0, 31, 63, 0, 128, 384, 1023]) (soft := 2047) mixed (.op 0 (.op 1 (.op 2 (.op 3 (.op 4 (.op 5 (.op 6 (.op 7 (.op 8 (.op 9 (.op 10 .nil))))))))))) (by kernel_rfl) H ?_
      intro w H
      have hlt : k < gs.length := by omega
      obtain ⟨xg, rfl⟩ := H.rsome ga (by omega)
      refine re_move rfl rfl rfl rfl rfl ?_
      refine re_nilc rfl rfl rfl rfl rfl ?_
      first | refine re_field0 rfl rfl rfl rfl rfl fo_64_1 ?_ | refine re_field rfl rfl rfl rfl rfl fo_64_1 ?_ | refine re_fieldA rfl rfl rfl rfl rfl fo_64_1 ?_
      refine re_load H rfl rfl rfl rfl rfl sh_31 rfl ?_
      refine re_move rfl rfl rfl rfl rfl ?_
      refine re_indexL rfl rfl rfl rfl rfl rfl ul_31 ei_31 (by omega) (by omega) ?_
      refine re_loadW rfl rfl rfl rfl rfl (run_loadAt_one sh_3 (rvalL H (v := .int .i64 gs[k]) (by simp [hlt]))) ?_
      first | refine re_field0 rfl rfl rfl rfl rfl fo_46_2 ?_ | refine re_field rfl rfl rfl rfl rfl fo_46_2 ?_ | refine re_fieldA rfl rfl rfl rfl rfl fo_46_2 ?_
      first | refine re_field0 rfl rfl rfl rfl rfl fo_36_1 ?_ | refine re_field rfl rfl rfl rfl rfl fo_36_1 ?_ | refine re_fieldA rfl rfl rfl rfl rfl fo_36_1 ?_
      refine re_load H rfl rfl rfl rfl rfl sh_3 rfl ?_
      refine re_bin rfl rfl rfl rfl rfl rfl rfl ?_
      refine re_nil ?_
      refine qe_noPanic ?_
      refine qe_thenC ?_
      refine ce_cond rfl (fun h4 => ?_) (fun h4 => ?_)
      · try simp only [zn1, zn2, zn3, zn4, zn5, zn6] at h4
        refine ce_exit ?_
        refine qe_then_exit ?_
        refine qe_block_exit ?_
        refine qe_thenC ?_
        refine ce_text (tab := []) (soft := 7) (.op 0 (.op 1 (.op 2 .nil))) rfl rfl ?_
        refine re_move rfl rfl rfl rfl rfl ?_
        first | refine re_add rfl rfl rfl rfl rfl rfl (by omega) ?_ | refine re_bin rfl rfl rfl rfl rfl rfl rfl ?_
        refine re_assign rfl rfl rfl rfl rfl ?_
        refine re_nil ?_
        refine qe_round (x := (k, insk, wayk, wa, wc)) (k + 1, insk, wayk, wa, wc) ?_ ?_ ?_
        · first | (dsimp only; omega) | omega
        · exact (And.intro rfl (And.intro rfl (And.intro rfl trivial)))
        · exact ⟨H, by omega, by rw [HP.servers_succ, ← hs, HP.toServerNo (s := HP.mk gs insk (l.map (fun y => y.1)) wayk nkd nks) hlt h4], hik, hwk⟩
      · try simp only [zn1, zn2, zn3, zn4, zn5, zn6] at h4
        refine ce_skip ?_
        refine qe_thenC ?_
        refine ce_seq ?_
        refine ce_text (tab := []) (soft := 1) (.op 0 (.op 1 (.op 2 .nil))) rfl rfl ?_
        refine re_build rfl rfl rfl rfl rfl ze_46 pl_46 (by simp only [fillL, setMany, Value.cells, List.getElem?_cons_zero, List.getElem?_cons_succ, List.length_cons, List.length_nil, List.set_cons_zero, List.set_cons_succ, Nat.reduceAdd, Nat.reduceLeDiff, Nat.zero_add, and_self, ↓reduceIte]; rfl) ?_
        refine re_alloc H rfl rfl rfl rfl ze_46 ?_
        intro g6 w H
        refine ⟨(fun h => (nomatch h)), ?_⟩
        refine re_store H rfl rfl rfl rfl rfl rfl sh_46 rfl rfl rfl ?_
        intro cs w hcs H
        first | rw [setMany_whole rfl] at hcs | simp only [setMany, List.set_cons_zero, List.set_cons_succ, Nat.reduceAdd, Nat.zero_add, PS.cells, PS.over, GM.cells, Cmd.cells, List.cons_append, List.nil_append] at hcs
        subst hcs
        refine ⟨(fun h => (nomatch h)), ?_⟩
        refine re_nil ?_
        refine qe_thenC ?_
        refine ce_seq ?_
        refine ce_text (tab := []) (soft := 1) (.op 0 .nil) rfl rfl ?_
        refine re_assign rfl rfl rfl rfl rfl ?_
        refine re_nil ?_
        refine qe_thenC ?_
        refine ce_seq ?_
        refine ce_seq ?_
        refine ce_text (tab := []) (soft := 3) (.op 0 (.op 1 .nil)) rfl rfl ?_
        first | refine re_field0 rfl rfl rfl rfl rfl fo_46_0 ?_ | refine re_field rfl rfl rfl rfl rfl fo_46_0 ?_ | refine re_fieldA rfl rfl rfl rfl rfl fo_46_0 ?_
        refine re_load H rfl rfl rfl rfl rfl sh_3 rfl ?_
        refine re_nil ?_
        refine qe_thenC ?_
        refine ce_block ?_
        refine ce_seq ?_
        refine ce_text (tab := []) (soft := 3) (.op 0 (.op 1 .nil)) rfl rfl ?_
        refine re_bin rfl rfl rfl rfl rfl rfl rfl ?_
        refine re_assign rfl rfl rfl rfl rfl ?_
        refine re_nil ?_
        refine qe_thenC ?_
        refine ce_cond rfl (fun h5 => ?_) (fun h5 => ?_)
        · try simp only [zn1, zn2, zn3, zn4, zn5, zn6] at h5
          refine ce_open (tab := [0, 1, 3, 7, 0, 0, 32, 96, 224, 0, 992, 2016, 0, 4096, 16352, 32736, 65504, 65504, 65504, 131071, 655359, 1835007]) (soft := 1032191) mixed (.op 0 (.op 1 (.op 2 (.op 3 (.op 4 (.op 5 (.op 6 (.op 7 (.op 8 (.op 9 (.op 10 (.op 11 (.op 12 (.op 13 (.op 14 (.op 15 (.op 16 (.op 17 (.op 18 (.op 19 (.op 20 (.op 21 .nil)))))))))))))))))))))) (by kernel_rfl) H ?_
          intro w H
          refine re_move rfl rfl rfl rfl rfl ?_
          refine re_nilc rfl rfl rfl rfl rfl ?_
          first | refine re_field0 rfl rfl rfl rfl rfl fo_64_2 ?_ | refine re_field rfl rfl rfl rfl rfl fo_64_2 ?_ | refine re_fieldA rfl rfl rfl rfl rfl fo_64_2 ?_
          refine re_load H rfl rfl rfl rfl rfl sh_60 rfl ?_
          refine re_move rfl rfl rfl rfl rfl ?_
          refine re_move rfl rfl rfl rfl rfl ?_
          refine re_nilc rfl rfl rfl rfl rfl ?_
          first | refine re_field0 rfl rfl rfl rfl rfl fo_64_2 ?_ | refine re_field rfl rfl rfl rfl rfl fo_64_2 ?_ | refine re_fieldA rfl rfl rfl rfl rfl fo_64_2 ?_
          refine re_load H rfl rfl rfl rfl rfl sh_60 rfl ?_
          refine re_move rfl rfl rfl rfl rfl ?_
          refine re_indexL rfl rfl rfl rfl rfl rfl ul_60 ei_60 (by omega) (by omega) ?_
          refine re_load H rfl rfl rfl rfl rfl sh_121 (rd_flat Inst.cells 14 (fun _ => rfl) (l := insk) (k := k) (by omega)) ?_
          first | refine re_field0 rfl rfl rfl rfl rfl fo_46_6 ?_ | refine re_field rfl rfl rfl rfl rfl fo_46_6 ?_ | refine re_fieldA rfl rfl rfl rfl rfl fo_46_6 ?_
          refine re_load H rfl rfl rfl rfl rfl sh_38 (by first | exact rdAt_all rfl | (simp only [rdAt, PS.cells, PS.over, GM.cells, Cmd.cells, List.cons_append, List.nil_append, List.drop_succ_cons, List.drop_zero, List.take_succ_cons, List.take_zero, List.length_cons, List.length_nil, Nat.zero_add, Nat.reduceAdd, Nat.reduceLeDiff, Nat.le_refl, ↓reduceIte] <;> rfl)) ?_
          refine re_call en_65 rfl rfl rfl rfl rfl ?_
          refine Calls.mono (prepareA_s H) ?_
          rintro e w ⟨b, rfl, H⟩
          obtain ⟨⟨i1, am⟩, hpr⟩ : ∃ x, x = (insk[k]).prep m.s0 m.s1 := ⟨_, rfl⟩
          simp only [← hpr]
          refine ⟨_, rfl, (fun _ => ⟨ancs (i := 14) (j := 13) rfl, ancs (i := 14) (j := 11) rfl, ancs (i := 14) (j := 8) rfl, fun _ => still_load H sh_60 rfl, trivial⟩), ?_⟩
          refine re_move rfl rfl rfl rfl rfl ?_
          refine re_extract rfl rfl rfl rfl rfl rfl ?_
          refine re_extract rfl rfl rfl rfl rfl rfl ?_
          refine re_extract rfl rfl rfl rfl rfl rfl ?_
          refine re_indexL rfl rfl rfl rfl rfl rfl ul_60 ei_60 (by omega) (by omega) ?_
          refine re_store H rfl rfl rfl rfl rfl rfl sh_121 rfl (Nat.ble_eq_true_of_le (by rw [flatMap_len Inst.cells 14 (fun _ => rfl)]; simp [Inst.cells, Cmd.cells]; omega)) rfl ?_
          intro cs w hcs H
          replace hcs := (set_flat Inst.cells 14 (fun _ => rfl) i1 insk k (by omega)).symm.trans hcs
          subst hcs
          refine ⟨(fun _ => ⟨ancs (i := 20) (j := 13) rfl, ancs (i := 20) (j := 11) rfl, ancs (i := 20) (j := 8) rfl, ancs (i := 20) (j := 3) rfl, trivial⟩), ?_⟩
          refine re_store H rfl rfl rfl rfl rfl rfl sh_46 rfl rfl rfl ?_
          intro cs w hcs H
          first | rw [setMany_whole rfl] at hcs | simp only [setMany, List.set_cons_zero, List.set_cons_succ, Nat.reduceAdd, Nat.zero_add, PS.cells, PS.over, GM.cells, Cmd.cells, List.cons_append, List.nil_append] at hcs
          subst hcs
          refine ⟨(fun _ => ⟨ancs (i := 21) (j := 13) rfl, ancs (i := 21) (j := 11) rfl, ancs (i := 21) (j := 8) rfl, ancs (i := 21) (j := 3) rfl, trivial⟩), ?_⟩
          refine re_nil ?_
          refine qe_noPanic ?_
          refine qe_block_norm ?_
          refine qe_thenC ?_
          refine ce_seq ?_
          refine ce_text (tab := []) (soft := 1) (.op 0 .nil) rfl rfl ?_
          refine re_move rfl rfl rfl rfl rfl ?_
          refine re_nil ?_
          refine qe_thenC ?_
          refine ce_condT rfl ?_
          refine ce_seq ?_
          refine ce_text (tab := []) (soft := 7) (.op 0 (.op 1 (.op 2 (.op 3 .nil)))) rfl rfl ?_
          first | refine re_field0 rfl rfl rfl rfl rfl fo_46_2 ?_ | refine re_field rfl rfl rfl rfl rfl fo_46_2 ?_ | refine re_fieldA rfl rfl rfl rfl rfl fo_46_2 ?_
          refine re_load H rfl rfl rfl rfl rfl sh_36 (by first | exact rdAt_all rfl | (simp only [rdAt, PS.cells, PS.over, GM.cells, Cmd.cells, List.cons_append, List.nil_append, List.drop_succ_cons, List.drop_zero, List.take_succ_cons, List.take_zero, List.length_cons, List.length_nil, Nat.zero_add, Nat.reduceAdd, Nat.reduceLeDiff, Nat.le_refl, ↓reduceIte] <;> rfl)) ?_
          first | refine re_field0 rfl rfl rfl rfl rfl fo_46_1 ?_ | refine re_field rfl rfl rfl rfl rfl fo_46_1 ?_ | refine re_fieldA rfl rfl rfl rfl rfl fo_46_1 ?_
          refine re_store H rfl rfl rfl rfl rfl rfl sh_36 rfl rfl rfl ?_
          intro cs w hcs H
          first | rw [setMany_whole rfl] at hcs | simp only [setMany, List.set_cons_zero, List.set_cons_succ, Nat.reduceAdd, Nat.zero_add, PS.cells, PS.over, GM.cells, Cmd.cells, List.cons_append, List.nil_append] at hcs
          subst hcs
          refine ⟨(fun h => (nomatch h)), ?_⟩
          refine re_nil ?_
          refine qe_thenC ?_
          refine ce_seq ?_
          refine ce_text (tab := []) (soft := 7) (.op 0 (.op 1 (.op 2 (.op 3 .nil)))) rfl rfl ?_
          first | refine re_field0 rfl rfl rfl rfl rfl fo_46_1 ?_ | refine re_field rfl rfl rfl rfl rfl fo_46_1 ?_ | refine re_fieldA rfl rfl rfl rfl rfl fo_46_1 ?_
          refine re_load H rfl rfl rfl rfl rfl sh_36 (by first | exact rdAt_all rfl | (simp only [rdAt, PS.cells, PS.over, GM.cells, Cmd.cells, List.cons_append, List.nil_append, List.drop_succ_cons, List.drop_zero, List.take_succ_cons, List.take_zero, List.length_cons, List.length_nil, Nat.zero_add, Nat.reduceAdd, Nat.reduceLeDiff, Nat.le_refl, ↓reduceIte] <;> rfl)) ?_
          first | refine re_field0 rfl rfl rfl rfl rfl fo_46_2 ?_ | refine re_field rfl rfl rfl rfl rfl fo_46_2 ?_ | refine re_fieldA rfl rfl rfl rfl rfl fo_46_2 ?_
          refine re_store H rfl rfl rfl rfl rfl rfl sh_36 rfl rfl rfl ?_
          intro cs w hcs H
          first | rw [setMany_whole rfl] at hcs | simp only [setMany, List.set_cons_zero, List.set_cons_succ, Nat.reduceAdd, Nat.zero_add, PS.cells, PS.over, GM.cells, Cmd.cells, List.cons_append, List.nil_append] at hcs
          subst hcs
          refine ⟨(fun h => (nomatch h)), ?_⟩
          refine re_nil ?_
          refine qe_thenC ?_
          refine ce_seq ?_
          refine ce_text (tab := []) (soft := 7) (.op 0 (.op 1 (.op 2 (.op 3 .nil)))) rfl rfl ?_
          first | refine re_field0 rfl rfl rfl rfl rfl fo_46_3 ?_ | refine re_field rfl rfl rfl rfl rfl fo_46_3 ?_ | refine re_fieldA rfl rfl rfl rfl rfl fo_46_3 ?_
          refine re_load H rfl rfl rfl rfl rfl sh_3 rfl ?_
          first | refine re_field0 rfl rfl rfl rfl rfl fo_46_3 ?_ | refine re_field rfl rfl rfl rfl rfl fo_46_3 ?_ | refine re_fieldA rfl rfl rfl rfl rfl fo_46_3 ?_
          refine re_store H rfl rfl rfl rfl rfl rfl sh_3 rfl rfl rfl ?_
          intro cs w hcs H
          first | rw [setMany_whole rfl] at hcs | simp only [setMany, List.set_cons_zero, List.set_cons_succ, Nat.reduceAdd, Nat.zero_add, PS.cells, PS.over, GM.cells, Cmd.cells, List.cons_append, List.nil_append] at hcs
          subst hcs
          refine ⟨(fun h => (nomatch h)), ?_⟩
          refine re_nil ?_
          refine qe_thenC ?_
          refine ce_seq ?_
          refine ce_text (tab := []) (soft := 7) (.op 0 (.op 1 (.op 2 (.op 3 .nil)))) rfl rfl ?_
          first | refine re_field0 rfl rfl rfl rfl rfl fo_46_4 ?_ | refine re_field rfl rfl rfl rfl rfl fo_46_4 ?_ | refine re_fieldA rfl rfl rfl rfl rfl fo_46_4 ?_
          refine re_load H rfl rfl rfl rfl rfl sh_3 rfl ?_
          first | refine re_field0 rfl rfl rfl rfl rfl fo_46_4 ?_ | refine re_field rfl rfl rfl rfl rfl fo_46_4 ?_ | refine re_fieldA rfl rfl rfl rfl rfl fo_46_4 ?_
          refine re_store H rfl rfl rfl rfl rfl rfl sh_3 rfl rfl rfl ?_
          intro cs w hcs H
          first | rw [setMany_whole rfl] at hcs | simp only [setMany, List.set_cons_zero, List.set_cons_succ, Nat.reduceAdd, Nat.zero_add, PS.cells, PS.over, GM.cells, Cmd.cells, List.cons_append, List.nil_append] at hcs
          subst hcs
          refine ⟨(fun h => (nomatch h)), ?_⟩
          refine re_nil ?_
          refine qe_thenC ?_
          refine ce_seq ?_
          refine ce_text (tab := []) (soft := 7) (.op 0 (.op 1 (.op 2 (.op 3 .nil)))) rfl rfl ?_
          first | refine re_field0 rfl rfl rfl rfl rfl fo_46_5 ?_ | refine re_field rfl rfl rfl rfl rfl fo_46_5 ?_ | refine re_fieldA rfl rfl rfl rfl rfl fo_46_5 ?_
          refine re_load H rfl rfl rfl rfl rfl sh_24 (by first | exact rdAt_all rfl | (simp only [rdAt, PS.cells, PS.over, GM.cells, Cmd.cells, List.cons_append, List.nil_append, List.drop_succ_cons, List.drop_zero, List.take_succ_cons, List.take_zero, List.length_cons, List.length_nil, Nat.zero_add, Nat.reduceAdd, Nat.reduceLeDiff, Nat.le_refl, ↓reduceIte] <;> rfl)) ?_
          first | refine re_field0 rfl rfl rfl rfl rfl fo_46_5 ?_ | refine re_field rfl rfl rfl rfl rfl fo_46_5 ?_ | refine re_fieldA rfl rfl rfl rfl rfl fo_46_5 ?_
          refine re_store H rfl rfl rfl rfl rfl rfl sh_24 rfl rfl rfl ?_
          intro cs w hcs H
          first | rw [setMany_whole rfl] at hcs | simp only [setMany, List.set_cons_zero, List.set_cons_succ, Nat.reduceAdd, Nat.zero_add, PS.cells, PS.over, GM.cells, Cmd.cells, List.cons_append, List.nil_append] at hcs
          subst hcs
          refine ⟨(fun h => (nomatch h)), ?_⟩
          refine re_nil ?_
          refine qe_thenC ?_
          refine ce_text (tab := []) (soft := 3) (.op 0 (.op 1 (.op 2 (.op 3 .nil)))) rfl rfl ?_
          refine re_move rfl rfl rfl rfl rfl ?_
          refine re_load H rfl rfl rfl rfl rfl sh_46 (by first | exact rdAt_all rfl | (simp only [rdAt, PS.cells, PS.over, GM.cells, Cmd.cells, List.cons_append, List.nil_append, List.drop_succ_cons, List.drop_zero, List.take_succ_cons, List.take_zero, List.length_cons, List.length_nil, Nat.zero_add, Nat.reduceAdd, Nat.reduceLeDiff, Nat.le_refl, ↓reduceIte] <;> rfl)) ?_
          refine re_slice1 H rfl rfl rfl rfl rfl rfl ul_62 ei_62 ze_46 rfl rfl rfl (by decide) ?_
          intro g180 w H
          refine ⟨(fun h => (nomatch h)), ?_⟩
          refine re_call en_38 rfl rfl rfl rfl rfl ?_
          replace H := H.as_row (size := 30) (n := 1) (c := 1) (xs := msgs [reply m am]) rfl (Nat.le_refl _) (by decide) rfl
          have H := Own.arr [2, 2, 4, 4, 4] H
          simp only [arrs, Fw.front, zm1, zm2, zm3, zm4, zm5] at H
          have X := sendH_s (way := wayk) (wa := wa) (wc := wc) (gs := gs) (ra := some g180) (rc := 1) (l := [reply m am]) H (by simp) (by omega)
          refine Calls.mono (X) ?_
          rintro e w ⟨wa, wc, rfl, H⟩
          refine ⟨_, rfl, (fun h => (nomatch h)), ?_⟩
          refine re_nil ?_
          refine qe_block_norm ?_
          refine qe_thenC ?_
          refine ce_text (tab := []) (soft := 7) (.op 0 (.op 1 (.op 2 .nil))) rfl rfl ?_
          refine re_move rfl rfl rfl rfl rfl ?_
          first | refine re_add rfl rfl rfl rfl rfl rfl (by omega) ?_ | refine re_bin rfl rfl rfl rfl rfl rfl rfl ?_
          refine re_assign rfl rfl rfl rfl rfl ?_
          refine re_nil ?_
          refine qe_round (x := (k, insk, wayk, wa, wc)) (k + 1, insk.set k i1, sendW wayk [reply m am], wa, wc) ?_ ?_ ?_
          · first | (dsimp only; omega) | omega
          · exact (And.intro rfl (And.intro rfl (And.intro rfl trivial)))
          ·
            have H := Own.arr [1, 1, 3] H
            simp only [arrs, Fw.front, zm1, zm2, zm3, zm4, zm5] at H
            replace H := H.sub (.cons_cons _ (.cons_cons _ (.cons_cons _ (.cons _ (List.Sublist.refl _)))))
            exact ⟨H, by omega, by rw [HP.servers_succ, ← hs, HP.toServer3 (s := HP.mk gs insk (l.map (fun y => y.1)) wayk nkd nks) hlt h4 (by show k < insk.length; omega) h5]; simp only [← hpr], by show (insk.set k i1).length = gs.length; rw [List.length_set]; exact hik, by show (sendW wayk [reply m am]).length ≤ 10000000; have := sendW_len wayk [reply m am]; omega⟩
        · try simp only [zn1, zn2, zn3, zn4, zn5, zn6] at h5
          refine ce_seq ?_
          refine ce_text (tab := []) (soft := 3) (.op 0 (.op 1 .nil)) rfl rfl ?_
          refine re_bin rfl rfl rfl rfl rfl rfl rfl ?_
          refine re_assign rfl rfl rfl rfl rfl ?_
          refine re_nil ?_
          refine qe_thenC ?_
          refine ce_cond rfl (fun h6 => ?_) (fun h6 => ?_)
          · try simp only [zn1, zn2, zn3, zn4, zn5, zn6] at h6
            refine ce_open (tab := [0, 1, 3, 7, 0, 0, 32, 96, 224, 0, 992, 2016, 0, 4096, 0, 16384, 65504, 131040, 262112, 262112, 262112, 524287, 2621439, 7340031]) (soft := 4128767) mixed (.op 0 (.op 1 (.op 2 (.op 3 (.op 4 (.op 5 (.op 6 (.op 7 (.op 8 (.op 9 (.op 10 (.op 11 (.op 12 (.op 13 (.op 14 (.op 15 (.op 16 (.op 17 (.op 18 (.op 19 (.op 20 (.op 21 (.op 22 (.op 23 .nil)))))))))))))))))))))))) (by kernel_rfl) H ?_
            intro w H
            refine re_move rfl rfl rfl rfl rfl ?_
            refine re_nilc rfl rfl rfl rfl rfl ?_
            first | refine re_field0 rfl rfl rfl rfl rfl fo_64_2 ?_ | refine re_field rfl rfl rfl rfl rfl fo_64_2 ?_ | refine re_fieldA rfl rfl rfl rfl rfl fo_64_2 ?_
            refine re_load H rfl rfl rfl rfl rfl sh_60 rfl ?_
            refine re_move rfl rfl rfl rfl rfl ?_
            refine re_move rfl rfl rfl rfl rfl ?_
            refine re_nilc rfl rfl rfl rfl rfl ?_
            first | refine re_field0 rfl rfl rfl rfl rfl fo_64_2 ?_ | refine re_field rfl rfl rfl rfl rfl fo_64_2 ?_ | refine re_fieldA rfl rfl rfl rfl rfl fo_64_2 ?_
            refine re_load H rfl rfl rfl rfl rfl sh_60 rfl ?_
            refine re_move rfl rfl rfl rfl rfl ?_
            refine re_indexL rfl rfl rfl rfl rfl rfl ul_60 ei_60 (by omega) (by omega) ?_
            refine re_load H rfl rfl rfl rfl rfl sh_121 (rd_flat Inst.cells 14 (fun _ => rfl) (l := insk) (k := k) (by omega)) ?_
            first | refine re_field0 rfl rfl rfl rfl rfl fo_46_6 ?_ | refine re_field rfl rfl rfl rfl rfl fo_46_6 ?_ | refine re_fieldA rfl rfl rfl rfl rfl fo_46_6 ?_
            refine re_load H rfl rfl rfl rfl rfl sh_38 (by first | exact rdAt_all rfl | (simp only [rdAt, PS.cells, PS.over, GM.cells, Cmd.cells, List.cons_append, List.nil_append, List.drop_succ_cons, List.drop_zero, List.take_succ_cons, List.take_zero, List.length_cons, List.length_nil, Nat.zero_add, Nat.reduceAdd, Nat.reduceLeDiff, Nat.le_refl, ↓reduceIte] <;> rfl)) ?_
            first | refine re_field0 rfl rfl rfl rfl rfl fo_46_9 ?_ | refine re_field rfl rfl rfl rfl rfl fo_46_9 ?_ | refine re_fieldA rfl rfl rfl rfl rfl fo_46_9 ?_
            refine re_load H rfl rfl rfl rfl rfl sh_28 (by first | exact rdAt_all rfl | (simp only [rdAt, PS.cells, PS.over, GM.cells, Cmd.cells, List.cons_append, List.nil_append, List.drop_succ_cons, List.drop_zero, List.take_succ_cons, List.take_zero, List.length_cons, List.length_nil, Nat.zero_add, Nat.reduceAdd, Nat.reduceLeDiff, Nat.le_refl, ↓reduceIte] <;> rfl)) ?_
            refine re_call en_66 rfl rfl rfl rfl rfl ?_
            refine Calls.mono (acceptA_s H) ?_
            rintro e w ⟨b, rfl, H⟩
            obtain ⟨⟨i1, am⟩, hpr⟩ : ∃ x, x = (insk[k]).acc m.s0 m.s1 m.cmd := ⟨_, rfl⟩
            simp only [← hpr]
            refine ⟨_, rfl, (fun _ => ⟨ancs (i := 16) (j := 15) rfl, ancs (i := 16) (j := 13) rfl, ancs (i := 16) (j := 11) rfl, ancs (i := 16) (j := 8) rfl, fun _ => still_load H sh_60 rfl, trivial⟩), ?_⟩
            refine re_move rfl rfl rfl rfl rfl ?_
            refine re_extract rfl rfl rfl rfl rfl rfl ?_
            refine re_extract rfl rfl rfl rfl rfl rfl ?_
            refine re_extract rfl rfl rfl rfl rfl rfl ?_
            refine re_indexL rfl rfl rfl rfl rfl rfl ul_60 ei_60 (by omega) (by omega) ?_
            refine re_store H rfl rfl rfl rfl rfl rfl sh_121 rfl (Nat.ble_eq_true_of_le (by rw [flatMap_len Inst.cells 14 (fun _ => rfl)]; simp [Inst.cells, Cmd.cells]; omega)) rfl ?_
            intro cs w hcs H
            replace hcs := (set_flat Inst.cells 14 (fun _ => rfl) i1 insk k (by omega)).symm.trans hcs
            subst hcs
            refine ⟨(fun _ => ⟨ancs (i := 22) (j := 15) rfl, ancs (i := 22) (j := 13) rfl, ancs (i := 22) (j := 11) rfl, ancs (i := 22) (j := 8) rfl, ancs (i := 22) (j := 3) rfl, trivial⟩), ?_⟩
            refine re_store H rfl rfl rfl rfl rfl rfl sh_46 rfl rfl rfl ?_
            intro cs w hcs H
            first | rw [setMany_whole rfl] at hcs | simp only [setMany, List.set_cons_zero, List.set_cons_succ, Nat.reduceAdd, Nat.zero_add, PS.cells, PS.over, GM.cells, Cmd.cells, List.cons_append, List.nil_append] at hcs
            subst hcs
            refine ⟨(fun _ => ⟨ancs (i := 23) (j := 15) rfl, ancs (i := 23) (j := 13) rfl, ancs (i := 23) (j := 11) rfl, ancs (i := 23) (j := 8) rfl, ancs (i := 23) (j := 3) rfl, trivial⟩), ?_⟩
            refine re_nil ?_
            refine qe_noPanic ?_
            refine qe_block_norm ?_
            refine qe_thenC ?_
            refine ce_seq ?_
            refine ce_text (tab := []) (soft := 1) (.op 0 .nil) rfl rfl ?_
            refine re_move rfl rfl rfl rfl rfl ?_
            refine re_nil ?_
            refine qe_thenC ?_
            refine ce_condT rfl ?_
            refine ce_seq ?_
            refine ce_text (tab := []) (soft := 7) (.op 0 (.op 1 (.op 2 (.op 3 .nil)))) rfl rfl ?_
            first | refine re_field0 rfl rfl rfl rfl rfl fo_46_2 ?_ | refine re_field rfl rfl rfl rfl rfl fo_46_2 ?_ | refine re_fieldA rfl rfl rfl rfl rfl fo_46_2 ?_
            refine re_load H rfl rfl rfl rfl rfl sh_36 (by first | exact rdAt_all rfl | (simp only [rdAt, PS.cells, PS.over, GM.cells, Cmd.cells, List.cons_append, List.nil_append, List.drop_succ_cons, List.drop_zero, List.take_succ_cons, List.take_zero, List.length_cons, List.length_nil, Nat.zero_add, Nat.reduceAdd, Nat.reduceLeDiff, Nat.le_refl, ↓reduceIte] <;> rfl)) ?_
            first | refine re_field0 rfl rfl rfl rfl rfl fo_46_1 ?_ | refine re_field rfl rfl rfl rfl rfl fo_46_1 ?_ | refine re_fieldA rfl rfl rfl rfl rfl fo_46_1 ?_
            refine re_store H rfl rfl rfl rfl rfl rfl sh_36 rfl rfl rfl ?_
            intro cs w hcs H
            first | rw [setMany_whole rfl] at hcs | simp only [setMany, List.set_cons_zero, List.set_cons_succ, Nat.reduceAdd, Nat.zero_add, PS.cells, PS.over, GM.cells, Cmd.cells, List.cons_append, List.nil_append] at hcs
            subst hcs
            refine ⟨(fun h => (nomatch h)), ?_⟩
            refine re_nil ?_
            refine qe_thenC ?_
            refine ce_seq ?_
            refine ce_text (tab := []) (soft := 7) (.op 0 (.op 1 (.op 2 (.op 3 .nil)))) rfl rfl ?_
            first | refine re_field0 rfl rfl rfl rfl rfl fo_46_1 ?_ | refine re_field rfl rfl rfl rfl rfl fo_46_1 ?_ | refine re_fieldA rfl rfl rfl rfl rfl fo_46_1 ?_
            refine re_load H rfl rfl rfl rfl rfl sh_36 (by first | exact rdAt_all rfl | (simp only [rdAt, PS.cells, PS.over, GM.cells, Cmd.cells, List.cons_append, List.nil_append, List.drop_succ_cons, List.drop_zero, List.take_succ_cons, List.take_zero, List.length_cons, List.length_nil, Nat.zero_add, Nat.reduceAdd, Nat.reduceLeDiff, Nat.le_refl, ↓reduceIte] <;> rfl)) ?_
            first | refine re_field0 rfl rfl rfl rfl rfl fo_46_2 ?_ | refine re_field rfl rfl rfl rfl rfl fo_46_2 ?_ | refine re_fieldA rfl rfl rfl rfl rfl fo_46_2 ?_
            refine re_store H rfl rfl rfl rfl rfl rfl sh_36 rfl rfl rfl ?_
            intro cs w hcs H
            first | rw [setMany_whole rfl] at hcs | simp only [setMany, List.set_cons_zero, List.set_cons_succ, Nat.reduceAdd, Nat.zero_add, PS.cells, PS.over, GM.cells, Cmd.cells, List.cons_append, List.nil_append] at hcs
            subst hcs
            refine ⟨(fun h => (nomatch h)), ?_⟩
            refine re_nil ?_
            refine qe_thenC ?_
            refine ce_seq ?_
            refine ce_text (tab := []) (soft := 7) (.op 0 (.op 1 (.op 2 (.op 3 .nil)))) rfl rfl ?_
            first | refine re_field0 rfl rfl rfl rfl rfl fo_46_3 ?_ | refine re_field rfl rfl rfl rfl rfl fo_46_3 ?_ | refine re_fieldA rfl rfl rfl rfl rfl fo_46_3 ?_
            refine re_load H rfl rfl rfl rfl rfl sh_3 rfl ?_
            first | refine re_field0 rfl rfl rfl rfl rfl fo_46_3 ?_ | refine re_field rfl rfl rfl rfl rfl fo_46_3 ?_ | refine re_fieldA rfl rfl rfl rfl rfl fo_46_3 ?_
            refine re_store H rfl rfl rfl rfl rfl rfl sh_3 rfl rfl rfl ?_
            intro cs w hcs H
            first | rw [setMany_whole rfl] at hcs | simp only [setMany, List.set_cons_zero, List.set_cons_succ, Nat.reduceAdd, Nat.zero_add, PS.cells, PS.over, GM.cells, Cmd.cells, List.cons_append, List.nil_append] at hcs
            subst hcs
            refine ⟨(fun h => (nomatch h)), ?_⟩
            refine re_nil ?_
            refine qe_thenC ?_
            refine ce_seq ?_
            refine ce_text (tab := []) (soft := 7) (.op 0 (.op 1 (.op 2 (.op 3 .nil)))) rfl rfl ?_
            first | refine re_field0 rfl rfl rfl rfl rfl fo_46_4 ?_ | refine re_field rfl rfl rfl rfl rfl fo_46_4 ?_ | refine re_fieldA rfl rfl rfl rfl rfl fo_46_4 ?_
            refine re_load H rfl rfl rfl rfl rfl sh_3 rfl ?_
            first | refine re_field0 rfl rfl rfl rfl rfl fo_46_4 ?_ | refine re_field rfl rfl rfl rfl rfl fo_46_4 ?_ | refine re_fieldA rfl rfl rfl rfl rfl fo_46_4 ?_
            refine re_store H rfl rfl rfl rfl rfl rfl sh_3 rfl rfl rfl ?_
            intro cs w hcs H
            first | rw [setMany_whole rfl] at hcs | simp only [setMany, List.set_cons_zero, List.set_cons_succ, Nat.reduceAdd, Nat.zero_add, PS.cells, PS.over, GM.cells, Cmd.cells, List.cons_append, List.nil_append] at hcs
            subst hcs
            refine ⟨(fun h => (nomatch h)), ?_⟩
            refine re_nil ?_
            refine qe_thenC ?_
            refine ce_seq ?_
            refine ce_text (tab := []) (soft := 7) (.op 0 (.op 1 (.op 2 (.op 3 .nil)))) rfl rfl ?_
            first | refine re_field0 rfl rfl rfl rfl rfl fo_46_5 ?_ | refine re_field rfl rfl rfl rfl rfl fo_46_5 ?_ | refine re_fieldA rfl rfl rfl rfl rfl fo_46_5 ?_
            refine re_load H rfl rfl rfl rfl rfl sh_24 (by first | exact rdAt_all rfl | (simp only [rdAt, PS.cells, PS.over, GM.cells, Cmd.cells, List.cons_append, List.nil_append, List.drop_succ_cons, List.drop_zero, List.take_succ_cons, List.take_zero, List.length_cons, List.length_nil, Nat.zero_add, Nat.reduceAdd, Nat.reduceLeDiff, Nat.le_refl, ↓reduceIte] <;> rfl)) ?_
            first | refine re_field0 rfl rfl rfl rfl rfl fo_46_5 ?_ | refine re_field rfl rfl rfl rfl rfl fo_46_5 ?_ | refine re_fieldA rfl rfl rfl rfl rfl fo_46_5 ?_
            refine re_store H rfl rfl rfl rfl rfl rfl sh_24 rfl rfl rfl ?_
            intro cs w hcs H
            first | rw [setMany_whole rfl] at hcs | simp only [setMany, List.set_cons_zero, List.set_cons_succ, Nat.reduceAdd, Nat.zero_add, PS.cells, PS.over, GM.cells, Cmd.cells, List.cons_append, List.nil_append] at hcs
            subst hcs
            refine ⟨(fun h => (nomatch h)), ?_⟩
            refine re_nil ?_
            refine qe_thenC ?_
            refine ce_text (tab := []) (soft := 3) (.op 0 (.op 1 (.op 2 (.op 3 .nil)))) rfl rfl ?_
            refine re_move rfl rfl rfl rfl rfl ?_
            refine re_load H rfl rfl rfl rfl rfl sh_46 (by first | exact rdAt_all rfl | (simp only [rdAt, PS.cells, PS.over, GM.cells, Cmd.cells, List.cons_append, List.nil_append, List.drop_succ_cons, List.drop_zero, List.take_succ_cons, List.take_zero, List.length_cons, List.length_nil, Nat.zero_add, Nat.reduceAdd, Nat.reduceLeDiff, Nat.le_refl, ↓reduceIte] <;> rfl)) ?_
            refine re_slice1 H rfl rfl rfl rfl rfl rfl ul_62 ei_62 ze_46 rfl rfl rfl (by decide) ?_
            intro g180 w H
            refine ⟨(fun h => (nomatch h)), ?_⟩
            refine re_call en_38 rfl rfl rfl rfl rfl ?_
            replace H := H.as_row (size := 30) (n := 1) (c := 1) (xs := msgs [reply m am]) rfl (Nat.le_refl _) (by decide) rfl
            have H := Own.arr [2, 2, 4, 4, 4] H
            simp only [arrs, Fw.front, zm1, zm2, zm3, zm4, zm5] at H
            have X := sendH_s (way := wayk) (wa := wa) (wc := wc) (gs := gs) (ra := some g180) (rc := 1) (l := [reply m am]) H (by simp) (by omega)
            refine Calls.mono (X) ?_
            rintro e w ⟨wa, wc, rfl, H⟩
            refine ⟨_, rfl, (fun h => (nomatch h)), ?_⟩
            refine re_nil ?_
            refine qe_block_norm ?_
            refine qe_thenC ?_
            refine ce_text (tab := []) (soft := 7) (.op 0 (.op 1 (.op 2 .nil))) rfl rfl ?_
            refine re_move rfl rfl rfl rfl rfl ?_
            first | refine re_add rfl rfl rfl rfl rfl rfl (by omega) ?_ | refine re_bin rfl rfl rfl rfl rfl rfl rfl ?_
            refine re_assign rfl rfl rfl rfl rfl ?_
            refine re_nil ?_
            refine qe_round (x := (k, insk, wayk, wa, wc)) (k + 1, insk.set k i1, sendW wayk [reply m am], wa, wc) ?_ ?_ ?_
            · first | (dsimp only; omega) | omega
            · exact (And.intro rfl (And.intro rfl (And.intro rfl trivial)))
            ·
              have H := Own.arr [1, 1, 3] H
              simp only [arrs, Fw.front, zm1, zm2, zm3, zm4, zm5] at H
              replace H := H.sub (.cons_cons _ (.cons_cons _ (.cons_cons _ (.cons _ (List.Sublist.refl _)))))
              exact ⟨H, by omega, by rw [HP.servers_succ, ← hs, HP.toServer4 (s := HP.mk gs insk (l.map (fun y => y.1)) wayk nkd nks) hlt h4 (by show k < insk.length; omega) h6]; simp only [← hpr], by show (insk.set k i1).length = gs.length; rw [List.length_set]; exact hik, by show (sendW wayk [reply m am]).length ≤ 10000000; have := sendW_len wayk [reply m am]; omega⟩
          · try simp only [zn1, zn2, zn3, zn4, zn5, zn6] at h6
            refine ce_seq ?_
            refine ce_text (tab := []) (soft := 3) (.op 0 (.op 1 .nil)) rfl rfl ?_
            refine re_bin rfl rfl rfl rfl rfl rfl rfl ?_
            refine re_assign rfl rfl rfl rfl rfl ?_
            refine re_nil ?_
            refine qe_thenC ?_
            refine ce_cond rfl (fun h7 => ?_) (fun h7 => ?_)
            · try simp only [zn1, zn2, zn3, zn4, zn5, zn6] at h7
              refine ce_seq ?_
              refine ce_open (tab := [0, 1, 3, 7, 0, 0, 32, 96, 224, 0, 992, 2016, 0, 4096, 16352, 32736, 65504, 65504, 131071, 393215]) (soft := 507903) mixed (.op 0 (.op 1 (.op 2 (.op 3 (.op 4 (.op 5 (.op 6 (.op 7 (.op 8 (.op 9 (.op 10 (.op 11 (.op 12 (.op 13 (.op 14 (.op 15 (.op 16 (.op 17 (.op 18 (.op 19 .nil)))))))))))))))))))) (by kernel_rfl) H ?_
              intro w H
              refine re_move rfl rfl rfl rfl rfl ?_
              refine re_nilc rfl rfl rfl rfl rfl ?_
              first | refine re_field0 rfl rfl rfl rfl rfl fo_64_2 ?_ | refine re_field rfl rfl rfl rfl rfl fo_64_2 ?_ | refine re_fieldA rfl rfl rfl rfl rfl fo_64_2 ?_
              refine re_load H rfl rfl rfl rfl rfl sh_60 rfl ?_
              refine re_move rfl rfl rfl rfl rfl ?_
              refine re_move rfl rfl rfl rfl rfl ?_
              refine re_nilc rfl rfl rfl rfl rfl ?_
              first | refine re_field0 rfl rfl rfl rfl rfl fo_64_2 ?_ | refine re_field rfl rfl rfl rfl rfl fo_64_2 ?_ | refine re_fieldA rfl rfl rfl rfl rfl fo_64_2 ?_
              refine re_load H rfl rfl rfl rfl rfl sh_60 rfl ?_
              refine re_move rfl rfl rfl rfl rfl ?_
              refine re_indexL rfl rfl rfl rfl rfl rfl ul_60 ei_60 (by omega) (by omega) ?_
              refine re_load H rfl rfl rfl rfl rfl sh_121 (rd_flat Inst.cells 14 (fun _ => rfl) (l := insk) (k := k) (by omega)) ?_
              first | refine re_field0 rfl rfl rfl rfl rfl fo_46_9 ?_ | refine re_field rfl rfl rfl rfl rfl fo_46_9 ?_ | refine re_fieldA rfl rfl rfl rfl rfl fo_46_9 ?_
              refine re_load H rfl rfl rfl rfl rfl sh_28 (by first | exact rdAt_all rfl | (simp only [rdAt, PS.cells, PS.over, GM.cells, Cmd.cells, List.cons_append, List.nil_append, List.drop_succ_cons, List.drop_zero, List.take_succ_cons, List.take_zero, List.length_cons, List.length_nil, Nat.zero_add, Nat.reduceAdd, Nat.reduceLeDiff, Nat.le_refl, ↓reduceIte] <;> rfl)) ?_
              refine re_call en_67 rfl rfl rfl rfl rfl ?_
              refine Calls.mono (learnedA_s H) ?_
              rintro e w ⟨b, rfl, H⟩
              obtain ⟨i1, hpr⟩ : ∃ x, x = (insk[k]).learn m.cmd := ⟨_, rfl⟩
              simp only [← hpr]
              refine ⟨_, rfl, (fun _ => ⟨ancs (i := 14) (j := 13) rfl, ancs (i := 14) (j := 11) rfl, ancs (i := 14) (j := 8) rfl, fun _ => still_load H sh_60 rfl, trivial⟩), ?_⟩
              refine re_move rfl rfl rfl rfl rfl ?_
              refine re_extract rfl rfl rfl rfl rfl rfl ?_
              refine re_extract rfl rfl rfl rfl rfl rfl ?_
              refine re_indexL rfl rfl rfl rfl rfl rfl ul_60 ei_60 (by omega) (by omega) ?_
              refine re_store H rfl rfl rfl rfl rfl rfl sh_121 rfl (Nat.ble_eq_true_of_le (by rw [flatMap_len Inst.cells 14 (fun _ => rfl)]; simp [Inst.cells, Cmd.cells]; omega)) rfl ?_
              intro cs w hcs H
              replace hcs := (set_flat Inst.cells 14 (fun _ => rfl) i1 insk k (by omega)).symm.trans hcs
              subst hcs
              refine ⟨(fun _ => ⟨ancs (i := 19) (j := 13) rfl, ancs (i := 19) (j := 11) rfl, ancs (i := 19) (j := 8) rfl, ancs (i := 19) (j := 3) rfl, trivial⟩), ?_⟩
              refine re_nil ?_
              refine qe_noPanic ?_
              refine qe_thenC ?_
              refine ce_text (tab := []) (soft := 1) (.op 0 .nil) rfl rfl ?_
              refine re_assign rfl rfl rfl rfl rfl ?_
              refine re_nil ?_
              refine qe_block_norm ?_
              refine qe_thenC ?_
              refine ce_seq ?_
              refine ce_text (tab := []) (soft := 1) (.op 0 .nil) rfl rfl ?_
              refine re_move rfl rfl rfl rfl rfl ?_
              refine re_nil ?_
              refine qe_thenC ?_
              refine ce_condF rfl ?_
              refine ce_skip ?_
              refine qe_block_norm ?_
              refine qe_thenC ?_
              refine ce_text (tab := []) (soft := 7) (.op 0 (.op 1 (.op 2 .nil))) rfl rfl ?_
              refine re_move rfl rfl rfl rfl rfl ?_
              first | refine re_add rfl rfl rfl rfl rfl rfl (by omega) ?_ | refine re_bin rfl rfl rfl rfl rfl rfl rfl ?_
              refine re_assign rfl rfl rfl rfl rfl ?_
              refine re_nil ?_
              refine qe_round (x := (k, insk, wayk, wa, wc)) (k + 1, insk.set k i1, wayk, wa, wc) ?_ ?_ ?_
              · first | (dsimp only; omega) | omega
              · exact (And.intro rfl (And.intro rfl (And.intro rfl trivial)))
              ·
                exact ⟨H.tail, by omega, by rw [HP.servers_succ, ← hs, HP.toServer5 (s := HP.mk gs insk (l.map (fun y => y.1)) wayk nkd nks) hlt h4 (by show k < insk.length; omega) h7]; simp only [← hpr], by show (insk.set k i1).length = gs.length; rw [List.length_set]; exact hik, hwk⟩
            · try simp only [zn1, zn2, zn3, zn4, zn5, zn6] at h7
              omega
    · try simp only [zn1, zn2, zn3, zn4, zn5, zn6] at h3
      refine ce_exit ?_
      refine qe_then_exit ?_
      refine qe_then_exit ?_
      refine qe_block_exit ?_
      refine qe_end0 rfl ?_
      obtain rfl : k = gs.length := by omega
      exact ⟨HP.mk gs insk (l.map (fun y => y.1)) wayk nkd nks, wa, wc, da, doff, dn, dc, l, by rw [HP.serverAll h0]; exact hs, hd, hp, rfl, rfl, H.tail⟩
end Go.Proofs.Ytofaoblfemfkiaa

namespace Go.Proofs.Ytofaoblfemfkiaa
open Go Go.RowKit Go.Fw
set_option linter.unusedSimpArgs false
set_option linter.unusedVariables false
set_option maxRecDepth 4000
set_option maxHeartbeats 2000000


def HP.begun (s : HP) (i : Nat) : HP := match s.xs[i]? with
  | some x => { s with xs := s.xs.set i x.begin.1, way := sendW s.way x.begin.2 }
  | none => s
def HP.ticked (s : HP) (i : Nat) : HP := match s.xs[i]? with
  | some x => { s with xs := s.xs.set i x.tick.1, way := sendW s.way x.tick.2 }
  | none => s
def HP.off (s : HP) (i : Nat) : HP := { s with way := s.way.take i ++ s.way.drop (i + 1) }
def HP.act (s : HP) (v : Nat) : HP :=
  if v % 8 = 0 then s.begun (v / 8 % s.xs.length)
  else if v % 8 = 1 then s.ticked (v / 8 % s.xs.length)
  else match s.way[v / 8 % s.way.length]? with
    | none => s
    | some m =>
      if v % 8 = 2 then { s with way := s.way ++ [m] }
      else if v % 8 = 3 then s.off (v / 8 % s.way.length)
      else (s.off (v / 8 % s.way.length)).deliver m
def alive (down : Int) (k : Nat) : Bool := decide (bitsI .and down (bitsI .shl 1 (k : Int)) = 0)
def HP.toAlive (s : HP) (down : Int) (m : GM) (k : Nat) : HP := if s.gs[k]? = some m.ti ∧ alive down k = true then s.deliver m else s
def HP.lets (s : HP) (down : Int) (m : GM) (k : Nat) : HP := (List.range k).foldl (fun s k => s.toAlive down m k) s
def HP.puts (s : HP) (down : Int) (l : List GM) : HP := l.foldl (fun s m => s.lets down m s.gs.length) s
def HP.answers (s : HP) (l : List GM) : HP := l.foldl (fun s m => s.deliver m) s
def GM.mineOf (m : GM) (c : Int) : Bool := decide (m.fc = true) && (decide (m.fi = c) && true)
def HP.exchange (s : HP) (j : Nat) (down : Int) : HP := match s.xs[j]? with
  | none => s
  | some x =>
    let s2 := ({ s with xs := s.xs.set j x.tick.1, way := [] } : HP).puts down (s.way.filter (fun m => m.mineOf ((j : Int) + 1)) ++ x.tick.2)
    ({ s2 with way := [] } : HP).answers s2.way
theorem HP.lets_succ (s : HP) (down : Int) (m : GM) (k : Nat) : s.lets down m (k + 1) = (s.lets down m k).toAlive down m k := by
  unfold HP.lets
  rw [List.range_succ, List.foldl_append]
  rfl
theorem HP.puts_snoc (s : HP) (down : Int) (l : List GM) (m : GM) : s.puts down (l ++ [m]) = (s.puts down l).lets down m (s.puts down l).gs.length := by
  unfold HP.puts
  rw [List.foldl_append]
  rfl
theorem HP.answers_snoc (s : HP) (l : List GM) (m : GM) : s.answers (l ++ [m]) = (s.answers l).deliver m := by
  unfold HP.answers
  rw [List.foldl_append]
  rfl
theorem msgs_take (l : List GM) : ∀ i, i ≤ l.length → (msgs l).take (i * 30) = msgs (l.take i) := by
  induction l with
  | nil => intro i h; simp [msgs]
  | cons m l ih =>
    intro i h
    cases i with
    | zero => simp [msgs]
    | succ i =>
      have hm : m.cells.length = 30 := rfl
      have := ih i (by simpa using h)
      simp only [msgs, List.flatMap_cons, List.take_succ_cons] at this ⊢
      rw [List.take_append, List.take_of_length_le (by omega), hm, show (i + 1) * 30 - 30 = i * 30 by omega, this]
theorem msgs_dropN (l : List GM) : ∀ i, i ≤ l.length → (msgs l).drop (i * 30) = msgs (l.drop i) := by
  induction l with
  | nil => intro i h; simp [msgs]
  | cons m l ih =>
    intro i h
    cases i with
    | zero => simp [msgs]
    | succ i =>
      have hm : m.cells.length = 30 := rfl
      have := ih i (by simpa using h)
      simp only [msgs, List.flatMap_cons, List.drop_succ_cons] at this ⊢
      rw [List.drop_append, List.drop_eq_nil_of_le (by omega), hm, show (i + 1) * 30 - 30 = i * 30 by omega, this]
      rfl
theorem msgs_app (a b : List GM) : msgs (a ++ b) = msgs a ++ msgs b := by simp [msgs]
theorem all_oneB (l : List GM) : (msgs l).all oneB = true := by
  induction l with
  | nil => rfl
  | cons m l ih =>
    have : (msgs (m :: l)) = m.cells ++ msgs l := by simp [msgs]
    rw [this, List.all_append, ih]
    rfl
theorem src_front {B w : World} {L : List Ent} (H : Own B L w) {g c n : Nat} {e : TypeId} {l : List GM} [h : InRow (some g) L c e 30 n (msgs l)] {i : Nat} (hi : i ≤ l.length) :
    (msgs (l.take i)).length = i * 30 ∧ (0 < i → ∃ ad : Addr, some (⟨g, 0, none⟩ : Addr) = some ad ∧ ∀ j u, (msgs (l.take i))[j]? = some u → w.cell? (ad.add j) = some u) := by
  refine ⟨by rw [msgs_length, List.length_take, Nat.min_eq_left hi], fun _ => ⟨_, rfl, fun j u hu => ?_⟩⟩
  rw [add_lit, Nat.zero_add]
  refine H.row_cell h.mem ?_
  rw [← msgs_take l i hi, List.getElem?_take] at hu
  split at hu
  · exact hu
  · cases hu
theorem src_back {B w : World} {L : List Ent} (H : Own B L w) {g c n : Nat} {e : TypeId} {l : List GM} [h : InRow (some g) L c e 30 n (msgs l)] {i : Nat} (hi : i ≤ l.length) {ad : Addr} (had : i < l.length → ad = (⟨g, 0, none⟩ : Addr).add (i * 30)) :
    (msgs (l.drop i)).length = (l.length - i) * 30 ∧ (0 < l.length - i → ∃ ad' : Addr, some ad = some ad' ∧ ∀ j u, (msgs (l.drop i))[j]? = some u → w.cell? (ad'.add j) = some u) := by
  refine ⟨by rw [msgs_length, List.length_drop], fun h0 => ⟨_, rfl, fun j u hu => ?_⟩⟩
  rw [had (by omega), add_lit, add_lit, Nat.zero_add]
  refine H.row_cell h.mem ?_
  rw [← msgs_dropN l i hi, List.getElem?_drop] at hu
  exact hu
theorem Own.rle {B w : World} {L : List Ent} (H : Own B L w) {g c n size : Nat} {e : TypeId} {xs : List Value} [h : InRow (some g) L c e size n xs] : n ≤ c := by
  obtain ⟨_, _, _, _, _, h1, _⟩ := H.at_ h.mem rfl
  exact h1

theorem emod_of_tmod {v n : Int} (hn : 0 < n) : v % n = if v.tmod n < 0 then v.tmod n + n else v.tmod n := by
  have h1 := Int.emod_nonneg v (show n ≠ 0 by omega)
  have h2 := Int.emod_lt_of_pos v hn
  rw [Int.tmod_eq_emod]
  split <;> split <;> omega

theorem round_b {B w : World} {F : List Ent} {v n : Int} (H : Own B F w) (hn : 0 < n ∧ n ≤ 4611686018427387904) :
    Calls Try.prog 10 #[.int .i64 v, .int .i64 n] w fun e w' => e = .returned (.int .i64 (v % n)) ∧ Own B F w' := by
  refine calls_ce (args := [.int .i64 v, .int .i64 n]) Try.func10 rfl rfl ?_
  change CE _ _ 16 _ _ [(0, .int .i64 v), (1, .int .i64 n)] _
  refine ce_seq ?_
  refine ce_text (tab := []) (soft := 1) (.op 0 .nil) rfl rfl ?_
  refine re_assign rfl rfl rfl rfl rfl ?_
  refine re_nil ?_
  refine qe_thenC ?_
  refine ce_seq ?_
  refine ce_seq ?_
  refine ce_text (tab := []) (soft := 3) (.op 0 (.op 1 .nil)) rfl rfl ?_
  refine re_move rfl rfl rfl rfl rfl ?_
  refine re_bin rfl rfl rfl rfl rfl rfl rfl ?_
  refine re_nil ?_
  refine qe_thenC ?_
  refine ce_cond rfl (fun h0 => ?_) (fun h0 => ?_)
  · try simp only [zn1, zn2, zn3, zn4, zn5, zn6] at h0
    omega
  · try simp only [zn1, zn2, zn3, zn4, zn5, zn6] at h0
    refine ce_skip ?_
    refine qe_thenC ?_
    refine ce_seq ?_
    refine ce_text (tab := []) (soft := 15) (.op 0 (.op 1 (.op 2 (.op 3 .nil)))) rfl rfl ?_
    refine re_move rfl rfl rfl rfl rfl ?_
    refine re_move rfl rfl rfl rfl rfl ?_
    refine re_rem rfl rfl rfl rfl rfl rfl (by omega) ?_
    refine re_assign rfl rfl rfl rfl rfl ?_
    refine re_nil ?_
    refine qe_thenC ?_
    refine ce_seq ?_
    refine ce_seq ?_
    refine ce_text (tab := []) (soft := 3) (.op 0 (.op 1 .nil)) rfl rfl ?_
    refine re_move rfl rfl rfl rfl rfl ?_
    refine re_bin rfl rfl rfl rfl rfl rfl rfl ?_
    refine re_nil ?_
    refine qe_thenC ?_
    refine ce_cond rfl (fun h1 => ?_) (fun h1 => ?_)
    · try simp only [zn1, zn2, zn3, zn4, zn5, zn6] at h1
      refine ce_seq ?_
      refine ce_text (tab := []) (soft := 15) (.op 0 (.op 1 (.op 2 (.op 3 .nil)))) rfl rfl ?_
      refine re_move rfl rfl rfl rfl rfl ?_
      refine re_move rfl rfl rfl rfl rfl ?_
      have ht := Int.tmod_lt_of_pos v hn.1
      have ht2 : -n ≤ v.tmod n := by have := Int.emod_nonneg v (show n ≠ 0 by omega); rw [emod_of_tmod hn.1] at this; split at this <;> omega
      first | refine re_add rfl rfl rfl rfl rfl rfl (by omega) ?_ | refine re_bin rfl rfl rfl rfl rfl rfl rfl ?_
      refine re_assign rfl rfl rfl rfl rfl ?_
      refine re_nil ?_
      refine qe_thenC ?_
      refine ce_ret ?_
      refine qe_then_ret ?_
      refine qe_end rfl rfl ?_
      exact ⟨by rw [emod_of_tmod hn.1, if_pos h1], H⟩
    · try simp only [zn1, zn2, zn3, zn4, zn5, zn6] at h1
      refine ce_skip ?_
      refine qe_thenC ?_
      refine ce_seq ?_
      refine ce_text (tab := []) (soft := 3) (.op 0 (.op 1 .nil)) rfl rfl ?_
      refine re_move rfl rfl rfl rfl rfl ?_
      refine re_assign rfl rfl rfl rfl rfl ?_
      refine re_nil ?_
      refine qe_thenC ?_
      refine ce_ret ?_
      refine qe_end rfl rfl ?_
      exact ⟨by rw [emod_of_tmod hn.1, if_neg (by omega)], H⟩

section
variable {gs : List Int} {ins : List Inst} {l : List XA} {way : List GM} {nkd nks : List Int} {v j : Nat}
theorem mod8 (v : Nat) : (v : Int).tmod 8 = ((v % 8 : Nat) : Int) := by rw [Int.tmod_eq_emod_of_nonneg (by omega)]; push_cast; rfl
theorem act_begin (h : v % 8 = 0) (hj : j = v / 8 % l.length) (hjl : j < l.length) : (HP.mk gs ins (l.map (fun y => y.1)) way nkd nks).act v = HP.mk gs ins ((l.map (fun y => y.1)).set j l[j].1.begin.1) (sendW way l[j].1.begin.2) nkd nks := by
  unfold HP.act
  rw [if_pos h]
  unfold HP.begun
  simp only [List.length_map, ← hj, List.getElem?_map, List.getElem?_eq_getElem hjl, Option.map_some]
theorem act_tick (h : v % 8 = 1) (hj : j = v / 8 % l.length) (hjl : j < l.length) : (HP.mk gs ins (l.map (fun y => y.1)) way nkd nks).act v = HP.mk gs ins ((l.map (fun y => y.1)).set j l[j].1.tick.1) (sendW way l[j].1.tick.2) nkd nks := by
  unfold HP.act
  rw [if_neg (by omega), if_pos h]
  unfold HP.ticked
  simp only [List.length_map, ← hj, List.getElem?_map, List.getElem?_eq_getElem hjl, Option.map_some]
theorem act_none {s : HP} (h0 : v % 8 ≠ 0) (h1 : v % 8 ≠ 1) (hw : s.way.length = 0) : s.act v = s := by
  unfold HP.act
  rw [if_neg h0, if_neg h1, List.getElem?_eq_none (by omega)]
theorem act_double {s : HP} (h2 : v % 8 = 2) (hj : j = v / 8 % s.way.length) (hjw : j < s.way.length) : s.act v = { s with way := s.way ++ [s.way[j]] } := by
  unfold HP.act
  rw [if_neg (by omega), if_neg (by omega)]
  simp only [← hj, List.getElem?_eq_getElem hjw]
  rw [if_pos h2]
theorem act_lose {s : HP} (h3 : v % 8 = 3) (hj : j = v / 8 % s.way.length) (hjw : j < s.way.length) : s.act v = s.off j := by
  unfold HP.act
  rw [if_neg (by omega), if_neg (by omega)]
  simp only [← hj, List.getElem?_eq_getElem hjw]
  rw [if_neg (by omega), if_pos h3]
theorem act_deliver {s : HP} (h0 : v % 8 ≠ 0) (h1 : v % 8 ≠ 1) (h2 : v % 8 ≠ 2) (h3 : v % 8 ≠ 3) (hj : j = v / 8 % s.way.length) (hjw : j < s.way.length) : s.act v = (s.off j).deliver s.way[j] := by
  unfold HP.act
  rw [if_neg h0, if_neg h1]
  simp only [← hj, List.getElem?_eq_getElem hjw]
  rw [if_neg h2, if_neg h3]
end
end Go.Proofs.Ytofaoblfemfkiaa

namespace Go.Proofs.Ytofaoblfemfkiaa
open Go Go.RowKit Go.Fw
set_option linter.unusedSimpArgs false
set_option linter.unusedVariables false
set_option maxRecDepth 4000
set_option maxHeartbeats 2000000
theorem en_10 : Enterable Try.prog 10 := ⟨Try.f10, Try.func10, rfl, by decide⟩
theorem en_14 : Enterable Try.prog 14 := ⟨Try.f14, Try.func14, rfl, by decide⟩
theorem en_25 : Enterable Try.prog 25 := ⟨Try.f25, Try.func25, rfl, by decide⟩
theorem en_39 : Enterable Try.prog 39 := ⟨Try.f39, Try.func39, rfl, by decide⟩

theorem act_s {B w : World} {F : List Ent} {h gc ia pc wc doff dn dc na ca : Nat} {ga pa wa da : Option Nat} {gs : List Int} {ins : List Inst} {pgs : List Nat} {way : List GM} {nkd nks : List Int} {l : List XA} {d : Int} (H : Own B (.cells h 64 [.int .i64 3, .int .i64 3, .int .i64 9, .int .i64 0, slv ga gs.length gc, slv (some ia) gs.length gs.length, slv pa pgs.length pc, slv wa way.length wc, lsv da doff dn dc, slv (some na) pgs.length pgs.length, slv (some ca) pgs.length pgs.length] :: .row wa wc 46 30 way.length (msgs way) :: .row ga gc 3 1 gs.length (ints gs) :: .cells ia 121 (ins.flatMap Inst.cells) :: .row pa pc 29 1 pgs.length (pgs.map ptrV) :: .loose da doff dn dc 28 9 :: .cells na 3 (ints nkd) :: .cells ca 3 (ints nks) :: (ch l ++ F)) w) (hp : l.map (fun y => y.2.g) = pgs) (hn : pgs.length ≤ 1000) (hd : dn ≤ 50) (hil : ins.length = gs.length) (hgl : gs.length ≤ 1000) (hnl : nkd.length = pgs.length) (hnl2 : nks.length = pgs.length) (hnk : ∀ x ∈ nks, 0 ≤ x ∧ x ≤ 1000000000) (hwl : way.length ≤ 10000000) (hok : ∀ y ∈ l, y.1.ok) (hnp : 0 < pgs.length) (hwm : ∀ m ∈ way, (0 ≤ m.ti ∧ m.ti ≤ 1000000) ∧ (m.tc = true → m.kind = 16 ∨ m.kind = 14 ∨ (m.kind = 13 ∨ m.kind = 15)) ∧ (m.tc = false → m.kind = 3 ∨ m.kind = 4 ∨ m.kind = 5)) :
    Calls Try.prog 13 #[.pointer (some ⟨h, 0, none⟩), .int .i64 d] w fun e w' => ∃ s' wa wc d1 d2 d3 d4 l', s' = (HP.mk gs ins (l.map (fun y => y.1)) way nkd nks).act (d % 1099511627776).toNat ∧ d3 ≤ 50 ∧ l'.map (fun y => y.2.g) = pgs ∧ l'.map (fun y => y.1) = s'.xs ∧ e = .returned (.tuple #[]) ∧ Own B (.cells h 64 [.int .i64 3, .int .i64 3, .int .i64 9, .int .i64 0, slv ga gs.length gc, slv (some ia) gs.length gs.length, slv pa pgs.length pc, slv wa s'.way.length wc, lsv d1 d2 d3 d4, slv (some na) pgs.length pgs.length, slv (some ca) pgs.length pgs.length] :: .row wa wc 46 30 s'.way.length (msgs s'.way) :: .row ga gc 3 1 gs.length (ints gs) :: .cells ia 121 (s'.ins.flatMap Inst.cells) :: .row pa pc 29 1 pgs.length (pgs.map ptrV) :: .loose d1 d2 d3 d4 28 9 :: .cells na 3 (ints s'.nkd) :: .cells ca 3 (ints s'.nks) :: (ch l' ++ F)) w' := by
  refine calls_ce (args := [.pointer (some ⟨h, 0, none⟩), .int .i64 d]) Try.func13 rfl rfl ?_
  change CE _ _ 108 _ _ [(0, .pointer (some ⟨h, 0, none⟩)), (1, .int .i64 d)] _
  refine ce_seq ?_
  refine ce_text (tab := []) (soft := 5) (.op 0 (.op 1 (.op 2 .nil))) rfl rfl ?_
  refine re_move rfl rfl rfl rfl rfl ?_
  refine re_call en_10 rfl rfl rfl rfl rfl ?_
  refine Calls.mono (round_b H (by decide)) ?_
  rintro e w ⟨rfl, H⟩
  obtain ⟨v, hv⟩ : ∃ v : Nat, d % 1099511627776 = (v : Int) := ⟨(d % 1099511627776).toNat, by omega⟩
  have hvl : v < 1099511627776 := by omega
  have hll : l.length = pgs.length := by rw [← hp, List.length_map]
  simp only [hv, Int.toNat_natCast]
  refine ⟨_, rfl, (fun h => (nomatch h)), ?_⟩
  refine re_assign rfl rfl rfl rfl rfl ?_
  refine re_nil ?_
  refine qe_thenC ?_
  refine ce_seq ?_
  refine ce_text (tab := []) (soft := 63) (.op 0 (.op 1 (.op 2 (.op 3 (.op 4 (.op 5 .nil)))))) rfl rfl ?_
  refine re_move rfl rfl rfl rfl rfl ?_
  refine re_nilc rfl rfl rfl rfl rfl ?_
  first | refine re_field0 rfl rfl rfl rfl rfl fo_64_3 ?_ | refine re_field rfl rfl rfl rfl rfl fo_64_3 ?_ | refine re_fieldA rfl rfl rfl rfl rfl fo_64_3 ?_
  refine re_load H rfl rfl rfl rfl rfl sh_61 rfl ?_
  refine re_len rfl rfl rfl rfl rfl ul_61 ?_
  refine re_assign rfl rfl rfl rfl rfl ?_
  refine re_nil ?_
  refine qe_thenC ?_
  refine ce_seq ?_
  refine ce_seq ?_
  refine ce_text (tab := []) (soft := 3) (.op 0 (.op 1 .nil)) rfl rfl ?_
  refine re_move rfl rfl rfl rfl rfl ?_
  refine re_rem rfl rfl rfl rfl rfl rfl (by omega) ?_
  refine re_nil ?_
  refine qe_thenC ?_
  refine ce_block ?_
  refine ce_seq ?_
  refine ce_text (tab := []) (soft := 3) (.op 0 (.op 1 .nil)) rfl rfl ?_
  refine re_bin rfl rfl rfl rfl rfl rfl rfl ?_
  refine re_assign rfl rfl rfl rfl rfl ?_
  refine re_nil ?_
  refine qe_thenC ?_
  refine ce_cond rfl (fun h0 => ?_) (fun h0 => ?_)
  · try simp only [zn1, zn2, zn3, zn4, zn5, zn6] at h0
    have h0' : v % 8 = 0 := by rw [mod8] at h0; omega
    refine ce_open (tab := [0, 0, 2, 6, 14, 0, 32, 0, 224, 510, 1022, 2046, 4095]) (soft := 2047) mixed (.op 0 (.op 1 (.op 2 (.op 3 (.op 4 (.op 5 (.op 6 (.op 7 (.op 8 (.op 9 (.op 10 (.op 11 (.op 12 .nil))))))))))))) (by kernel_rfl) H ?_
    intro w H
    obtain ⟨j, hj⟩ : ∃ j : Nat, j = (v / 8 % pgs.length) := ⟨_, rfl⟩
    have hji : ((v : Int) / 8).tmod (pgs.length : Int) = (j : Int) := by rw [hj, Int.tmod_eq_emod_of_nonneg (by omega)]; push_cast; rfl
    have hjl : j < l.length := by rw [hj, hll]; exact Nat.mod_lt _ (by omega)
    have hoj := hok l[j] (List.getElem_mem hjl)
    obtain ⟨xp, rfl⟩ := H.rsome pa (by omega)
    refine re_move rfl rfl rfl rfl rfl ?_
    refine re_move rfl rfl rfl rfl rfl ?_
    refine re_nilc rfl rfl rfl rfl rfl ?_
    first | refine re_field0 rfl rfl rfl rfl rfl fo_64_3 ?_ | refine re_field rfl rfl rfl rfl rfl fo_64_3 ?_ | refine re_fieldA rfl rfl rfl rfl rfl fo_64_3 ?_
    refine re_load H rfl rfl rfl rfl rfl sh_61 rfl ?_
    refine re_move rfl rfl rfl rfl rfl ?_
    refine re_quo rfl rfl rfl rfl rfl rfl (by omega) (by omega) (by omega) ?_
    refine re_move rfl rfl rfl rfl rfl ?_
    refine re_rem rfl rfl rfl rfl rfl rfl (by omega) ?_
    simp only [hji]
    refine re_indexL rfl rfl rfl rfl rfl rfl ul_61 ei_61 (by omega) (by omega) ?_
    refine re_loadW rfl rfl rfl rfl rfl (run_loadAt_one sh_29 (rvalL H (ptr_at hp hjl))) ?_
    refine re_call en_14 rfl rfl rfl rfl rfl ?_
    have H := pick (A := [_, _, _, _, _, _, _, _]) hjl H
    refine Calls.mono (begin_c (x := l[j].1) (a := l[j].2) hoj H) ?_
    rintro e w ⟨a, s, c, hg, rfl, H⟩
    replace H := unpick (D := [_]) (A := [_, _, _, _, _, _, _, _]) (y := (l[j].1.begin.1, a)) hjl H
    simp only [List.cons_append, List.nil_append] at H
    refine ⟨_, rfl, (fun _ => ⟨ancs (i := 11) (j := 10) rfl, ancs (i := 11) (j := 4) rfl, trivial⟩), ?_⟩
    refine re_call en_38 rfl rfl rfl rfl rfl ?_
    refine Calls.mono (sendH_s H (by have := X.begin_len l[j].1; have := hoj.len; omega) (by omega)) ?_
    rintro e w ⟨wa, wc, rfl, H⟩
    refine ⟨_, rfl, (fun _ => ⟨ancs (i := 12) (j := 10) rfl, ancs (i := 12) (j := 4) rfl, trivial⟩), ?_⟩
    refine re_nil ?_
    refine qe_noPanic ?_
    refine qe_block_norm ?_
    refine qe_thenC ?_
    refine ce_text (tab := []) (soft := 1) (.op 0 (.op 1 .nil)) rfl rfl ?_
    refine re_move rfl rfl rfl rfl rfl ?_
    refine re_call en_40 rfl rfl rfl rfl rfl ?_
    refine Calls.mono (look_s H ((map_set_g hjl hg).trans hp) hn hd) ?_
    rintro e w ⟨d1, d2, d3, d4, hd3, rfl, H⟩
    refine ⟨_, rfl, (fun h => (nomatch h)), ?_⟩
    refine re_nil ?_
    refine qe_end0 rfl ?_
    exact ⟨_, wa, wc, d1, d2, d3, d4, l.set j (l[j].1.begin.1, a), (act_begin h0' (by rw [hll]; exact hj) hjl).symm, hd3, (map_set_g hjl hg).trans hp, by simp [List.map_set], rfl, H⟩
  · try simp only [zn1, zn2, zn3, zn4, zn5, zn6] at h0
    have h0' : v % 8 ≠ 0 := by rw [mod8] at h0; omega
    refine ce_seq ?_
    refine ce_text (tab := []) (soft := 3) (.op 0 (.op 1 .nil)) rfl rfl ?_
    refine re_bin rfl rfl rfl rfl rfl rfl rfl ?_
    refine re_assign rfl rfl rfl rfl rfl ?_
    refine re_nil ?_
    refine qe_thenC ?_
    refine ce_cond rfl (fun h1 => ?_) (fun h1 => ?_)
    · try simp only [zn1, zn2, zn3, zn4, zn5, zn6] at h1
      have h1' : v % 8 = 1 := by rw [mod8] at h1; omega
      refine ce_open (tab := [0, 0, 2, 6, 14, 0, 32, 0, 224, 510, 1022, 2046, 4095]) (soft := 2047) mixed (.op 0 (.op 1 (.op 2 (.op 3 (.op 4 (.op 5 (.op 6 (.op 7 (.op 8 (.op 9 (.op 10 (.op 11 (.op 12 .nil))))))))))))) (by kernel_rfl) H ?_
      intro w H
      obtain ⟨j, hj⟩ : ∃ j : Nat, j = (v / 8 % pgs.length) := ⟨_, rfl⟩
      have hji : ((v : Int) / 8).tmod (pgs.length : Int) = (j : Int) := by rw [hj, Int.tmod_eq_emod_of_nonneg (by omega)]; push_cast; rfl
      have hjl : j < l.length := by rw [hj, hll]; exact Nat.mod_lt _ (by omega)
      have hoj := hok l[j] (List.getElem_mem hjl)
      obtain ⟨xp, rfl⟩ := H.rsome pa (by omega)
      refine re_move rfl rfl rfl rfl rfl ?_
      refine re_move rfl rfl rfl rfl rfl ?_
      refine re_nilc rfl rfl rfl rfl rfl ?_
      first | refine re_field0 rfl rfl rfl rfl rfl fo_64_3 ?_ | refine re_field rfl rfl rfl rfl rfl fo_64_3 ?_ | refine re_fieldA rfl rfl rfl rfl rfl fo_64_3 ?_
      refine re_load H rfl rfl rfl rfl rfl sh_61 rfl ?_
      refine re_move rfl rfl rfl rfl rfl ?_
      refine re_quo rfl rfl rfl rfl rfl rfl (by omega) (by omega) (by omega) ?_
      refine re_move rfl rfl rfl rfl rfl ?_
      refine re_rem rfl rfl rfl rfl rfl rfl (by omega) ?_
      simp only [hji]
      refine re_indexL rfl rfl rfl rfl rfl rfl ul_61 ei_61 (by omega) (by omega) ?_
      refine re_loadW rfl rfl rfl rfl rfl (run_loadAt_one sh_29 (rvalL H (ptr_at hp hjl))) ?_
      refine re_call en_25 rfl rfl rfl rfl rfl ?_
      have H := pick (A := [_, _, _, _, _, _, _, _]) hjl H
      refine Calls.mono (tick_c (x := l[j].1) (a := l[j].2) hoj H) ?_
      rintro e w ⟨a, s, c, hg, rfl, H⟩
      replace H := unpick (D := [_]) (A := [_, _, _, _, _, _, _, _]) (y := (l[j].1.tick.1, a)) hjl H
      simp only [List.cons_append, List.nil_append] at H
      refine ⟨_, rfl, (fun _ => ⟨ancs (i := 11) (j := 10) rfl, ancs (i := 11) (j := 4) rfl, trivial⟩), ?_⟩
      refine re_call en_38 rfl rfl rfl rfl rfl ?_
      refine Calls.mono (sendH_s H (by have := X.tick_len l[j].1; have := hoj.len; omega) (by omega)) ?_
      rintro e w ⟨wa, wc, rfl, H⟩
      refine ⟨_, rfl, (fun _ => ⟨ancs (i := 12) (j := 10) rfl, ancs (i := 12) (j := 4) rfl, trivial⟩), ?_⟩
      refine re_nil ?_
      refine qe_noPanic ?_
      refine qe_block_norm ?_
      refine qe_thenC ?_
      refine ce_text (tab := []) (soft := 1) (.op 0 (.op 1 .nil)) rfl rfl ?_
      refine re_move rfl rfl rfl rfl rfl ?_
      refine re_call en_40 rfl rfl rfl rfl rfl ?_
      refine Calls.mono (look_s H ((map_set_g hjl hg).trans hp) hn hd) ?_
      rintro e w ⟨d1, d2, d3, d4, hd3, rfl, H⟩
      refine ⟨_, rfl, (fun h => (nomatch h)), ?_⟩
      refine re_nil ?_
      refine qe_end0 rfl ?_
      exact ⟨_, wa, wc, d1, d2, d3, d4, l.set j (l[j].1.tick.1, a), (act_tick h1' (by rw [hll]; exact hj) hjl).symm, hd3, (map_set_g hjl hg).trans hp, by simp [List.map_set], rfl, H⟩
    · try simp only [zn1, zn2, zn3, zn4, zn5, zn6] at h1
      have h1' : v % 8 ≠ 1 := by rw [mod8] at h1; omega
      refine ce_seq ?_
      refine ce_seq ?_
      refine ce_text (tab := []) (soft := 63) (.op 0 (.op 1 (.op 2 (.op 3 (.op 4 (.op 5 .nil)))))) rfl rfl ?_
      refine re_move rfl rfl rfl rfl rfl ?_
      refine re_nilc rfl rfl rfl rfl rfl ?_
      first | refine re_field0 rfl rfl rfl rfl rfl fo_64_4 ?_ | refine re_field rfl rfl rfl rfl rfl fo_64_4 ?_ | refine re_fieldA rfl rfl rfl rfl rfl fo_64_4 ?_
      refine re_load H rfl rfl rfl rfl rfl sh_62 rfl ?_
      refine re_len rfl rfl rfl rfl rfl ul_62 ?_
      refine re_bin rfl rfl rfl rfl rfl rfl rfl ?_
      refine re_nil ?_
      refine qe_thenC ?_
      refine ce_cond rfl (fun h2 => ?_) (fun h2 => ?_)
      · try simp only [zn1, zn2, zn3, zn4, zn5, zn6] at h2
        refine ce_ret ?_
        refine qe_then_ret ?_
        refine qe_block_ret ?_
        refine qe_then_ret ?_
        refine qe_end0r rfl ?_
        exact ⟨HP.mk gs ins (l.map (fun y => y.1)) way nkd nks, wa, wc, da, doff, dn, dc, l, (act_none h0' h1' (by show way.length = 0; omega)).symm, hd, hp, rfl, rfl, H⟩
      · try simp only [zn1, zn2, zn3, zn4, zn5, zn6] at h2
        refine ce_skip ?_
        refine qe_thenC ?_
        refine ce_seq ?_
        refine ce_text (tab := []) (soft := 511) (.op 0 (.op 1 (.op 2 (.op 3 (.op 4 (.op 5 (.op 6 (.op 7 (.op 8 .nil))))))))) rfl rfl ?_
        obtain ⟨j, hj⟩ : ∃ j : Nat, j = (v / 8 % way.length) := ⟨_, rfl⟩
        have hji : ((v : Int) / 8).tmod (way.length : Int) = (j : Int) := by rw [hj, Int.tmod_eq_emod_of_nonneg (by omega)]; push_cast; rfl
        have hjw : j < way.length := by rw [hj]; exact Nat.mod_lt _ (by omega)
        obtain ⟨xw, rfl⟩ := H.rsome wa (by omega)
        have hwc := Own.rle H (g := xw)
        refine re_move rfl rfl rfl rfl rfl ?_
        refine re_quo rfl rfl rfl rfl rfl rfl (by omega) (by omega) (by omega) ?_
        refine re_move rfl rfl rfl rfl rfl ?_
        refine re_nilc rfl rfl rfl rfl rfl ?_
        first | refine re_field0 rfl rfl rfl rfl rfl fo_64_4 ?_ | refine re_field rfl rfl rfl rfl rfl fo_64_4 ?_ | refine re_fieldA rfl rfl rfl rfl rfl fo_64_4 ?_
        refine re_load H rfl rfl rfl rfl rfl sh_62 rfl ?_
        refine re_len rfl rfl rfl rfl rfl ul_62 ?_
        refine re_rem rfl rfl rfl rfl rfl rfl (by omega) ?_
        simp only [hji]
        refine re_assign rfl rfl rfl rfl rfl ?_
        refine re_nil ?_
        refine qe_thenC ?_
        refine ce_seq ?_
        refine ce_text (tab := []) (soft := 127) (.op 0 (.op 1 (.op 2 (.op 3 (.op 4 (.op 5 (.op 6 (.op 7 (.op 8 .nil))))))))) rfl rfl ?_
        refine re_move rfl rfl rfl rfl rfl ?_
        refine re_nilc rfl rfl rfl rfl rfl ?_
        first | refine re_field0 rfl rfl rfl rfl rfl fo_64_4 ?_ | refine re_field rfl rfl rfl rfl rfl fo_64_4 ?_ | refine re_fieldA rfl rfl rfl rfl rfl fo_64_4 ?_
        refine re_load H rfl rfl rfl rfl rfl sh_62 rfl ?_
        refine re_move rfl rfl rfl rfl rfl ?_
        refine re_indexL rfl rfl rfl rfl rfl rfl ul_62 ei_62 (by omega) (by omega) ?_
        refine re_loadW rfl rfl rfl rfl rfl (run_loadAt_row H sh_46 (rd_flat GM.cells 30 (fun _ => rfl) (l := way) (k := j) hjw)) ?_
        refine re_alloc H rfl rfl rfl rfl ze_46 ?_
        intro g7 w H
        refine ⟨(fun h => (nomatch h)), ?_⟩
        refine re_store H rfl rfl rfl rfl rfl rfl sh_46 rfl rfl rfl ?_
        intro cs w hcs H
        first | rw [setMany_whole rfl] at hcs | simp only [setMany, List.set_cons_zero, List.set_cons_succ, Nat.reduceAdd, Nat.zero_add, PS.cells, PS.over, GM.cells, Cmd.cells, List.cons_append, List.nil_append] at hcs
        subst hcs
        refine ⟨(fun h => (nomatch h)), ?_⟩
        refine re_nil ?_
        refine qe_thenC ?_
        refine ce_seq ?_
        refine ce_seq ?_
        refine ce_text (tab := []) (soft := 7) (.op 0 (.op 1 (.op 2 .nil))) rfl rfl ?_
        refine re_move rfl rfl rfl rfl rfl ?_
        refine re_rem rfl rfl rfl rfl rfl rfl (by omega) ?_
        refine re_bin rfl rfl rfl rfl rfl rfl rfl ?_
        refine re_nil ?_
        refine qe_thenC ?_
        refine ce_cond rfl (fun h3 => ?_) (fun h3 => ?_)
        · try simp only [zn1, zn2, zn3, zn4, zn5, zn6] at h3
          have h3' : v % 8 = 2 := by rw [mod8] at h3; omega
          refine ce_seq ?_
          refine ce_open (tab := [0, 0, 2, 6, 14, 0, 32, 126, 255, 511, 1023]) (soft := 831) mixed (.op 0 (.op 1 (.op 2 (.op 3 (.op 4 (.op 5 (.op 6 (.op 7 (.op 8 (.op 9 (.op 10 .nil))))))))))) (by kernel_rfl) H ?_
          intro w H
          refine re_move rfl rfl rfl rfl rfl ?_
          refine re_move rfl rfl rfl rfl rfl ?_
          refine re_nilc rfl rfl rfl rfl rfl ?_
          first | refine re_field0 rfl rfl rfl rfl rfl fo_64_4 ?_ | refine re_field rfl rfl rfl rfl rfl fo_64_4 ?_ | refine re_fieldA rfl rfl rfl rfl rfl fo_64_4 ?_
          refine re_load H rfl rfl rfl rfl rfl sh_62 rfl ?_
          refine re_load H rfl rfl rfl rfl rfl sh_46 (by first | exact rdAt_all rfl | (simp only [rdAt, PS.cells, PS.over, GM.cells, Cmd.cells, List.cons_append, List.nil_append, List.drop_succ_cons, List.drop_zero, List.take_succ_cons, List.take_zero, List.length_cons, List.length_nil, Nat.zero_add, Nat.reduceAdd, Nat.reduceLeDiff, Nat.le_refl, ↓reduceIte] <;> rfl)) ?_
          refine re_slice1 H rfl rfl rfl rfl rfl rfl ul_62 ei_62 ze_46 rfl rfl rfl (by decide) ?_
          intro g47 w H
          refine ⟨(fun _ => ⟨ancs (i := 6) (j := 5) rfl, fun _ => still_load H sh_62 rfl, trivial⟩), ?_⟩
          refine re_append H rfl rfl rfl rfl rfl rfl ul_62 ei_62 ze_46 rfl (by decide) (src_cells H rfl) rfl (by omega) (by simp only [maxLen]; omega) ?_
          intro a' c' w H _
          simp only [List.set_cons_zero, List.set_cons_succ] at H
          refine ⟨(fun _ => ⟨ancs (i := 7) (j := 5) rfl, ancs (i := 7) (j := 4) rfl, trivial⟩), ?_⟩
          refine re_nilc rfl rfl rfl rfl rfl ?_
          first | refine re_field0 rfl rfl rfl rfl rfl fo_64_4 ?_ | refine re_field rfl rfl rfl rfl rfl fo_64_4 ?_ | refine re_fieldA rfl rfl rfl rfl rfl fo_64_4 ?_
          refine re_store H rfl rfl rfl rfl rfl rfl sh_62 rfl rfl rfl ?_
          intro cs w hcs H
          first | rw [setMany_whole rfl] at hcs | simp only [setMany, List.set_cons_zero, List.set_cons_succ, Nat.reduceAdd, Nat.zero_add, PS.cells, PS.over, GM.cells, Cmd.cells, List.cons_append, List.nil_append] at hcs
          subst hcs
          refine ⟨(fun _ => ⟨ancs (i := 10) (j := 5) rfl, ancs (i := 10) (j := 4) rfl, trivial⟩), ?_⟩
          refine re_nil ?_
          refine qe_noPanic ?_
          refine qe_thenC ?_
          refine ce_ret ?_
          refine qe_then_ret ?_
          refine qe_block_ret ?_
          refine qe_then_ret ?_
          refine qe_end0r rfl ?_
          refine ⟨HP.mk gs ins (l.map (fun y => y.1)) (way ++ [way[j]]) nkd nks, a', c', da, doff, dn, dc, l, (act_double (s := (HP.mk gs ins (l.map (fun y => y.1)) way nkd nks)) h3' hj hjw).symm, hd, hp, rfl, rfl, ?_⟩
          have H2 := H.tail.tail
          show Own B (.cells h 64 [.int .i64 3, .int .i64 3, .int .i64 9, .int .i64 0, slv ga gs.length gc, slv (some ia) gs.length gs.length, slv pa pgs.length pc, slv a' (way ++ [way[j]]).length c', lsv da doff dn dc, slv (some na) pgs.length pgs.length, slv (some ca) pgs.length pgs.length] :: .row a' c' 46 30 (way ++ [way[j]]).length (msgs (way ++ [way[j]])) :: .row ga gc 3 1 gs.length (ints gs) :: .cells ia 121 (ins.flatMap Inst.cells) :: .row pa pc 29 1 pgs.length (pgs.map ptrV) :: .loose da doff dn dc 28 9 :: .cells na 3 (ints nkd) :: .cells ca 3 (ints nks) :: (ch l ++ F)) w
          rw [show (way ++ [way[j]]).length = way.length + 1 by simp, msgs_snoc]
          exact H2
        · try simp only [zn1, zn2, zn3, zn4, zn5, zn6] at h3
          have h3' : v % 8 ≠ 2 := by rw [mod8] at h3; omega
          refine ce_skip ?_
          refine qe_thenC ?_
          refine ce_seq ?_
          refine ce_open (tab := [0, 0, 0, 4, 12, 28, 0, 124, 254, 0, 512, 1536, 3584, 0, 8192, 32256, 65534, 131071, 262143, 524287]) (soft := 458493) mixed (.op 0 (.op 2 (.op 3 (.op 4 (.op 5 (.op 6 (.op 7 (.op 9 (.op 10 (.op 11 (.op 12 (.op 13 (.op 14 (.op 15 (.op 1 (.op 8 (.op 16 (.op 17 (.op 18 (.op 19 .nil)))))))))))))))))))) (by kernel_rfl) H ?_
          intro w H
          refine re_move rfl rfl rfl rfl rfl ?_
          refine re_move rfl rfl rfl rfl rfl ?_
          refine re_nilc rfl rfl rfl rfl rfl ?_
          first | refine re_field0 rfl rfl rfl rfl rfl fo_64_4 ?_ | refine re_field rfl rfl rfl rfl rfl fo_64_4 ?_ | refine re_fieldA rfl rfl rfl rfl rfl fo_64_4 ?_
          refine re_load H rfl rfl rfl rfl rfl sh_62 rfl ?_
          refine re_move rfl rfl rfl rfl rfl ?_
          refine re_sliceH rfl rfl rfl rfl rfl rfl ul_62 ei_62 (by omega) (by omega) ?_
          refine re_move rfl rfl rfl rfl rfl ?_
          refine re_nilc rfl rfl rfl rfl rfl ?_
          first | refine re_field0 rfl rfl rfl rfl rfl fo_64_4 ?_ | refine re_field rfl rfl rfl rfl rfl fo_64_4 ?_ | refine re_fieldA rfl rfl rfl rfl rfl fo_64_4 ?_
          refine re_load H rfl rfl rfl rfl rfl sh_62 rfl ?_
          refine re_move rfl rfl rfl rfl rfl ?_
          first | refine re_add rfl rfl rfl rfl rfl rfl (by omega) ?_ | refine re_bin rfl rfl rfl rfl rfl rfl rfl ?_
          refine re_sliceLo rfl rfl rfl rfl rfl rfl ul_62 ei_62 (by omega) (by omega) ?_
          intro ad66 had66
          simp only [show ((j : Int) + 1).toNat = j + 1 by omega] at had66 ⊢
          refine re_slice0 H rfl rfl rfl rfl ul_62 ei_62 ?_
          intro g52 w H
          refine ⟨(fun _ => ⟨fun _ => still_load H sh_62 rfl, fun _ => still_load H sh_62 rfl, trivial⟩), ?_⟩
          refine re_append H rfl rfl rfl rfl rfl rfl ul_62 ei_62 ze_46 rfl (by decide) (src_front H (g := xw) (l := way) (i := j) (by omega)) (all_oneB _) (by omega) (by simp only [maxLen]; omega) ?_
          intro b1 c1 w H _
          simp only [List.set_cons_zero, List.set_cons_succ] at H
          refine ⟨(fun _ => ⟨fun _ => still_load H sh_62 rfl, ancs (i := 8) (j := 5) rfl, trivial⟩), ?_⟩
          refine re_append H rfl rfl rfl rfl rfl rfl ul_62 ei_62 ze_46 rfl (by decide) (src_back H (g := xw) (l := way) (i := j + 1) (by omega) (fun h => had66 (by omega))) (all_oneB _) (by omega) (by simp only [maxLen]; omega) ?_
          intro b2 c2 w H _
          simp only [List.set_cons_zero, List.set_cons_succ] at H
          refine ⟨(fun _ => ⟨ancs (i := 16) (j := 12) rfl, ancs (i := 16) (j := 5) rfl, trivial⟩), ?_⟩
          refine re_nilc rfl rfl rfl rfl rfl ?_
          first | refine re_field0 rfl rfl rfl rfl rfl fo_64_4 ?_ | refine re_field rfl rfl rfl rfl rfl fo_64_4 ?_ | refine re_fieldA rfl rfl rfl rfl rfl fo_64_4 ?_
          refine re_store H rfl rfl rfl rfl rfl rfl sh_62 rfl rfl rfl ?_
          intro cs w hcs H
          first | rw [setMany_whole rfl] at hcs | simp only [setMany, List.set_cons_zero, List.set_cons_succ, Nat.reduceAdd, Nat.zero_add, PS.cells, PS.over, GM.cells, Cmd.cells, List.cons_append, List.nil_append] at hcs
          subst hcs
          refine ⟨(fun _ => ⟨ancs (i := 19) (j := 12) rfl, ancs (i := 19) (j := 5) rfl, trivial⟩), ?_⟩
          refine re_nil ?_
          refine qe_noPanic ?_
          refine qe_thenC ?_
          refine ce_seq ?_
          refine ce_text (tab := []) (soft := 7) (.op 0 (.op 1 (.op 2 .nil))) rfl rfl ?_
          have hw1 : ((j : Int)).toNat + (way.length - (j + 1)) = (way.take j ++ way.drop (j + 1)).length := by simp; omega
          rw [List.nil_append, ← msgs_app, show 0 + ((j : Int)).toNat + (way.length - (j + 1)) = (way.take j ++ way.drop (j + 1)).length by simp; omega, hw1] at H
          have H := Own.arr [0, 2, 2] H
          simp only [arrs, Fw.front, zm1, zm2, zm3, zm4, zm5] at H
          replace H := H.sub (.cons_cons _ (.cons_cons _ (.cons_cons _ (.cons _ (List.Sublist.refl _)))))
          refine re_move rfl rfl rfl rfl rfl ?_
          refine re_rem rfl rfl rfl rfl rfl rfl (by omega) ?_
          refine re_bin rfl rfl rfl rfl rfl rfl rfl ?_
          refine re_nil ?_
          refine qe_thenC ?_
          refine ce_cond rfl (fun h4 => ?_) (fun h4 => ?_)
          · try simp only [zn1, zn2, zn3, zn4, zn5, zn6] at h4
            have h4' : v % 8 ≠ 3 := by rw [mod8] at h4; omega
            refine ce_text (tab := []) (soft := 3) (.op 0 (.op 1 (.op 2 .nil))) rfl rfl ?_
            refine re_move rfl rfl rfl rfl rfl ?_
            refine re_load H rfl rfl rfl rfl rfl sh_46 (by first | exact rdAt_all rfl | (simp only [rdAt, PS.cells, PS.over, GM.cells, Cmd.cells, List.cons_append, List.nil_append, List.drop_succ_cons, List.drop_zero, List.take_succ_cons, List.take_zero, List.length_cons, List.length_nil, Nat.zero_add, Nat.reduceAdd, Nat.reduceLeDiff, Nat.le_refl, ↓reduceIte] <;> rfl)) ?_
            refine re_call en_39 rfl rfl rfl rfl rfl ?_
            have H := H.tail
            have hw' := hwm way[j] (List.getElem_mem hjw)
            refine Calls.mono (deliver_s H hp hn hd hil hgl hnl hnl2 hnk (by simp; omega) hok hw'.1 hw'.2.1 hw'.2.2) ?_
            rintro e w ⟨s', wa, wc, d1, d2, d3, d4, l', hs', hd3, hp', hx', rfl, H⟩
            refine ⟨_, rfl, (fun h => (nomatch h)), ?_⟩
            refine re_nil ?_
            refine qe_block_norm ?_
            refine qe_thenC ?_
            refine ce_text (tab := []) (soft := 1) (.op 0 (.op 1 .nil)) rfl rfl ?_
            refine re_move rfl rfl rfl rfl rfl ?_
            refine re_call en_40 rfl rfl rfl rfl rfl ?_
            refine Calls.mono (look_s H hp' hn hd3) ?_
            rintro e w ⟨d1, d2, d3, d4, hd3, rfl, H⟩
            refine ⟨_, rfl, (fun h => (nomatch h)), ?_⟩
            refine re_nil ?_
            refine qe_end0 rfl ?_
            exact ⟨s', wa, wc, d1, d2, d3, d4, l', by rw [hs', act_deliver (s := (HP.mk gs ins (l.map (fun y => y.1)) way nkd nks)) h0' h1' h3' h4' hj hjw]; rfl, hd3, hp', hx', rfl, H⟩
          · try simp only [zn1, zn2, zn3, zn4, zn5, zn6] at h4
            have h4' : v % 8 = 3 := by rw [mod8] at h4; omega
            refine ce_skip ?_
            refine qe_block_norm ?_
            refine qe_thenC ?_
            refine ce_text (tab := []) (soft := 1) (.op 0 (.op 1 .nil)) rfl rfl ?_
            refine re_move rfl rfl rfl rfl rfl ?_
            refine re_call en_40 rfl rfl rfl rfl rfl ?_
            have H := H.tail
            refine Calls.mono (look_s H hp hn hd) ?_
            rintro e w ⟨d1, d2, d3, d4, hd3, rfl, H⟩
            refine ⟨_, rfl, (fun h => (nomatch h)), ?_⟩
            refine re_nil ?_
            refine qe_end0 rfl ?_
            exact ⟨HP.mk gs ins (l.map (fun y => y.1)) (way.take j ++ way.drop (j + 1)) nkd nks, b2, c2, d1, d2, d3, d4, l, by rw [act_lose (s := (HP.mk gs ins (l.map (fun y => y.1)) way nkd nks)) h4' hj hjw]; rfl, hd3, hp, rfl, rfl, H⟩
end Go.Proofs.Ytofaoblfemfkiaa

namespace Go.Proofs.Ytofaoblfemfkiaa
open Go Go.RowKit Go.Fw
set_option linter.unusedSimpArgs false
set_option linter.unusedVariables false
set_option maxRecDepth 4000
set_option maxHeartbeats 2000000


theorem HP.toServer_gs (s : HP) (m : GM) (k : Nat) : (s.toServer m k).gs = s.gs := by
  unfold HP.toServer
  split
  · split
    · rfl
    · split
      · rfl
      · split <;> rfl
  · rfl
theorem HP.servers_gs (s : HP) (m : GM) : ∀ k, (s.servers m k).gs = s.gs
  | 0 => rfl
  | k + 1 => by rw [HP.servers_succ, HP.toServer_gs, HP.servers_gs s m k]
theorem HP.deliver_gs (s : HP) (m : GM) : (s.deliver m).gs = s.gs := by
  unfold HP.deliver
  split
  · unfold HP.toClient
    split
    · split
      · rfl
      · unfold HP.noted
        split <;> rfl
    · rfl
  · exact HP.servers_gs s m _
theorem HP.toAlive_gs (s : HP) (d : Int) (m : GM) (k : Nat) : (s.toAlive d m k).gs = s.gs := by
  unfold HP.toAlive
  split
  · exact s.deliver_gs m
  · rfl
theorem HP.lets_gs (s : HP) (d : Int) (m : GM) : ∀ k, (s.lets d m k).gs = s.gs
  | 0 => rfl
  | k + 1 => by rw [HP.lets_succ, HP.toAlive_gs, HP.lets_gs s d m k]
theorem HP.puts_gs (d : Int) : ∀ (l : List GM) (s : HP), (s.puts d l).gs = s.gs
  | [], _ => rfl
  | m :: l, s => by
    show ((s.lets d m s.gs.length).puts d l).gs = _
    rw [HP.puts_gs d l, HP.lets_gs]
theorem HP.answers_gs : ∀ (l : List GM) (s : HP), (s.answers l).gs = s.gs
  | [], _ => rfl
  | m :: l, s => by
    show ((s.deliver m).answers l).gs = _
    rw [HP.answers_gs l, HP.deliver_gs]
/-- What deliver asks. -/
structure Pre (s : HP) (m : GM) : Prop where
  il : s.ins.length = s.gs.length
  nl : s.nkd.length = s.xs.length
  nl2 : s.nks.length = s.xs.length
  nk : ∀ x ∈ s.nks, 0 ≤ x ∧ x ≤ 1000000000
  wl : s.way.length ≤ 10000000
  ok : ∀ x ∈ s.xs, x.ok
  ti : 0 ≤ m.ti ∧ m.ti ≤ 1000000
  kc : m.tc = true → m.kind = 16 ∨ m.kind = 14 ∨ (m.kind = 13 ∨ m.kind = 15)
  ks : m.tc = false → m.kind = 3 ∨ m.kind = 4 ∨ m.kind = 5
theorem rd_in (agg : Bool) (n : Nat) {ms : List GM} {k off : Nat} {v : Value} (hk : k < ms.length) (h : rdAt agg n (ms[k]).cells off = some v) (h30 : off + n ≤ 30) (hn : 0 < n) : rdAt agg n (msgs ms) (0 + ((k : Nat) : Int).toNat * 30 + off) = some v := by
  have hd := msgs_drop ms k hk
  have hl := msgs_length ms
  have hc : (ms[k]).cells.length = 30 := rfl
  have hle : k * 30 + 30 ≤ ms.length * 30 := by rw [← Nat.succ_mul]; exact Nat.mul_le_mul_right 30 hk
  rw [Nat.zero_add, Int.toNat_natCast]
  cases agg with
  | false =>
    simp only [rdAt] at h ⊢
    rw [← hd, List.getElem?_take] at h
    split at h
    · rw [List.getElem?_drop] at h; exact h
    · cases h
  | true =>
    simp only [rdAt] at h ⊢
    rw [if_pos (by omega)] at h
    rw [if_pos (by omega)]
    rw [← h, ← hd]
    congr 2
    rw [List.drop_take, List.drop_drop, List.take_take, Nat.min_eq_left (by omega)]
theorem filter_new {α : Type} {p : α → Bool} {l : List α} {k : Nat} (h : k < l.length) (hp : p l[k] = true) : (l.take (k + 1)).filter p = (l.take k).filter p ++ [l[k]] := by
  rw [List.take_succ_eq_append_getElem h, List.filter_append]; simp [hp]
theorem filter_old {α : Type} {p : α → Bool} {l : List α} {k : Nat} (h : k < l.length) (hp : p l[k] = false) : (l.take (k + 1)).filter p = (l.take k).filter p := by
  rw [List.take_succ_eq_append_getElem h, List.filter_append]; simp [hp]
theorem tuck {B w : World} {A F : List Ent} {l : List XA} {E : Ent} (H : Own B (E :: (A ++ (ch l ++ F))) w) : Own B (A ++ (ch l ++ (E :: F))) w := by
  refine H.perm ?_
  rw [← List.append_assoc, ← List.append_assoc]
  exact List.perm_middle.symm
theorem untuck {B w : World} {A F : List Ent} {l : List XA} {E : Ent} (H : Own B (A ++ (ch l ++ (E :: F))) w) : Own B (E :: (A ++ (ch l ++ F))) w := by
  refine H.perm ?_
  rw [← List.append_assoc, ← List.append_assoc]
  exact List.perm_middle

theorem deliver_p {B w : World} {F : List Ent} {h gc ia pc wc doff dn dc na ca : Nat} {ga pa wa da : Option Nat} {gs : List Int} {pgs : List Nat} {s : HP} {l : List XA} {m : GM} (H : Own B (.cells h 64 [.int .i64 3, .int .i64 3, .int .i64 9, .int .i64 0, slv ga gs.length gc, slv (some ia) gs.length gs.length, slv pa pgs.length pc, slv wa s.way.length wc, lsv da doff dn dc, slv (some na) pgs.length pgs.length, slv (some ca) pgs.length pgs.length] :: .row wa wc 46 30 s.way.length (msgs s.way) :: .row ga gc 3 1 gs.length (ints gs) :: .cells ia 121 (s.ins.flatMap Inst.cells) :: .row pa pc 29 1 pgs.length (pgs.map ptrV) :: .loose da doff dn dc 28 9 :: .cells na 3 (ints s.nkd) :: .cells ca 3 (ints s.nks) :: (ch l ++ F)) w) (hgs : s.gs = gs) (hlx : l.map (fun y => y.1) = s.xs) (hp : l.map (fun y => y.2.g) = pgs) (hn : pgs.length ≤ 1000) (hd : dn ≤ 50) (hgl : gs.length ≤ 1000) (P : Pre s m) :
    Calls Try.prog 39 #[.pointer (some ⟨h, 0, none⟩), .agg m.cells.toArray] w fun e w' => ∃ wa wc d1 d2 d3 d4 l', d3 ≤ 50 ∧ l'.map (fun y => y.2.g) = pgs ∧ l'.map (fun y => y.1) = (s.deliver m).xs ∧ e = .returned (.tuple #[]) ∧ Own B (.cells h 64 [.int .i64 3, .int .i64 3, .int .i64 9, .int .i64 0, slv ga gs.length gc, slv (some ia) gs.length gs.length, slv pa pgs.length pc, slv wa (s.deliver m).way.length wc, lsv d1 d2 d3 d4, slv (some na) pgs.length pgs.length, slv (some ca) pgs.length pgs.length] :: .row wa wc 46 30 (s.deliver m).way.length (msgs (s.deliver m).way) :: .row ga gc 3 1 gs.length (ints gs) :: .cells ia 121 ((s.deliver m).ins.flatMap Inst.cells) :: .row pa pc 29 1 pgs.length (pgs.map ptrV) :: .loose d1 d2 d3 d4 28 9 :: .cells na 3 (ints (s.deliver m).nkd) :: .cells ca 3 (ints (s.deliver m).nks) :: (ch l' ++ F)) w' := by
  obtain ⟨g0, ins, xs, way, nkd, nks⟩ := s
  subst hgs
  subst hlx
  have hlen : l.length = pgs.length := by rw [← hp, List.length_map]
  refine Calls.mono (deliver_s H hp hn hd P.il hgl (by have h : nkd.length = (l.map (fun y => y.1)).length := P.nl; rw [List.length_map] at h; exact h.trans hlen) (by have h : nks.length = (l.map (fun y => y.1)).length := P.nl2; rw [List.length_map] at h; exact h.trans hlen) P.nk P.wl (fun y hy => P.ok _ (List.mem_map.2 ⟨y, hy, rfl⟩)) P.ti P.kc P.ks) ?_
  rintro e w ⟨s', wa, wc, d1, d2, d3, d4, l', rfl, h1, h2, h3, h4, h5⟩
  exact ⟨wa, wc, d1, d2, d3, d4, l', h1, h2, h3, h4, h5⟩
end Go.Proofs.Ytofaoblfemfkiaa
