/- Parts of the proof: EM EN EO EP EQ ER ES ET EU EV EW EX EYN EZN EY. -/
import Derived.Test.YtofaoblfemfkiaaBe4
set_option linter.unusedVariables false
set_option linter.unusedSimpArgs false
namespace Go.Proofs.Ytofaoblfemfkiaa
open Go Go.RowKit Go.Fw
set_option linter.unusedSimpArgs false
set_option linter.unusedVariables false
set_option maxRecDepth 4000
set_option maxHeartbeats 2000000


theorem exchange_s {B w : World} {F : List Ent} {h gc ia pc wc doff dn dc na ca : Nat} {ga pa wa da : Option Nat} {gs : List Int} {pgs : List Nat} {s s0 s2 s3 : HP} {out : List GM} {l : List XA} {j : Nat} {down : Int} (H : Own B (.cells h 64 [.int .i64 3, .int .i64 3, .int .i64 9, .int .i64 0, slv ga gs.length gc, slv (some ia) gs.length gs.length, slv pa pgs.length pc, slv wa s.way.length wc, lsv da doff dn dc, slv (some na) pgs.length pgs.length, slv (some ca) pgs.length pgs.length] :: .row wa wc 46 30 s.way.length (msgs s.way) :: .row ga gc 3 1 gs.length (ints gs) :: .cells ia 121 (s.ins.flatMap Inst.cells) :: .row pa pc 29 1 pgs.length (pgs.map ptrV) :: .loose da doff dn dc 28 9 :: .cells na 3 (ints s.nkd) :: .cells ca 3 (ints s.nks) :: (ch l ++ F)) w) (hgs : s.gs = gs) (hlx : l.map (fun y => y.1) = s.xs) (hp : l.map (fun y => y.2.g) = pgs) (hn : pgs.length ≤ 1000) (hd : dn ≤ 50) (hgl : gs.length ≤ 1000) (hjl : j < l.length) (hok : ∀ y ∈ l, y.1.ok) (hwl : s.way.length ≤ 100000) (hs0 : s0 = { s with xs := s.xs.set j l[j].1.tick.1, way := [] }) (hout : out = s.way.filter (fun (m : GM) => m.mineOf ((j : Int) + 1)) ++ l[j].1.tick.2) (hs2 : s2 = s0.puts down out) (hs3 : s3 = { s2 with way := [] }) (hm1 : ∀ k (hk : k < out.length) i, i < gs.length → Pre ((s0.puts down (out.take k)).lets down out[k] i) out[k]) (hm2 : ∀ k (hk : k < s2.way.length), Pre (s3.answers (s2.way.take k)) s2.way[k]) (h2l : s2.way.length ≤ 1000000) :
    Calls Try.prog 17 #[.pointer (some ⟨h, 0, none⟩), .int .i64 (j : Int), .int .i64 down] w fun e w' => ∃ wa wc d1 d2 d3 d4 l', d3 ≤ 50 ∧ l'.map (fun y => y.2.g) = pgs ∧ l'.map (fun y => y.1) = (s3.answers s2.way).xs ∧ e = .returned (.tuple #[]) ∧ Own B (.cells h 64 [.int .i64 3, .int .i64 3, .int .i64 9, .int .i64 0, slv ga gs.length gc, slv (some ia) gs.length gs.length, slv pa pgs.length pc, slv wa (s3.answers s2.way).way.length wc, lsv d1 d2 d3 d4, slv (some na) pgs.length pgs.length, slv (some ca) pgs.length pgs.length] :: .row wa wc 46 30 (s3.answers s2.way).way.length (msgs (s3.answers s2.way).way) :: .row ga gc 3 1 gs.length (ints gs) :: .cells ia 121 ((s3.answers s2.way).ins.flatMap Inst.cells) :: .row pa pc 29 1 pgs.length (pgs.map ptrV) :: .loose d1 d2 d3 d4 28 9 :: .cells na 3 (ints (s3.answers s2.way).nkd) :: .cells ca 3 (ints (s3.answers s2.way).nks) :: (ch l' ++ F)) w' := by
  refine calls_ce (args := [.pointer (some ⟨h, 0, none⟩), .int .i64 (j : Int), .int .i64 down]) Try.func17 rfl rfl ?_
  change CE _ _ 119 _ _ [(0, .pointer (some ⟨h, 0, none⟩)), (1, .int .i64 (j : Int)), (2, .int .i64 down)] _
  refine ce_seq ?_
  refine ce_text (tab := []) (soft := 7) (.op 0 (.op 1 (.op 2 (.op 3 (.op 4 .nil))))) rfl rfl ?_
  have hll : l.length = pgs.length := by rw [← hp, List.length_map]
  have hoj := hok l[j] (List.getElem_mem hjl)
  have htl := X.tick_len l[j].1
  have hol := hoj.len
  have hfl := List.length_filter_le (fun (m : GM) => m.mineOf ((j : Int) + 1)) s.way
  have houtl : out.length ≤ 200000 := by rw [hout, List.length_append]; omega
  refine re_move rfl rfl rfl rfl rfl ?_
  first | refine re_add rfl rfl rfl rfl rfl rfl (by omega) ?_ | refine re_bin rfl rfl rfl rfl rfl rfl rfl ?_
  refine re_build rfl rfl rfl rfl rfl ze_36 pl_36 (by simp only [fillL, setMany, Value.cells, List.getElem?_cons_zero, List.getElem?_cons_succ, List.length_cons, List.length_nil, List.set_cons_zero, List.set_cons_succ, Nat.reduceAdd, Nat.reduceLeDiff, Nat.zero_add, and_self, ↓reduceIte]; rfl) ?_
  refine re_alloc H rfl rfl rfl rfl ze_36 ?_
  intro g6 w H
  refine ⟨(fun h => (nomatch h)), ?_⟩
  refine re_store H rfl rfl rfl rfl rfl rfl sh_36 rfl rfl rfl ?_
  intro cs w hcs H
  first | rw [setMany_whole rfl] at hcs | simp only [setMany, List.set_cons_zero, List.set_cons_succ, Nat.reduceAdd, Nat.zero_add, PS.cells, PS.over, GM.cells, Cmd.cells, List.cons_append, List.nil_append] at hcs
  subst hcs
  refine ⟨(fun h => (nomatch h)), ?_⟩
  refine re_nil ?_
  refine qe_thenC ?_
  refine ce_seq ?_
  refine ce_text (tab := []) (soft := 1) (.op 0 .nil) rfl rfl ?_
  refine re_assign rfl rfl rfl rfl rfl ?_
  refine re_nil ?_
  refine qe_thenC ?_
  refine ce_seq ?_
  refine ce_seq ?_
  refine ce_text (tab := []) (soft := 1) (.op 0 .nil) rfl rfl ?_
  refine re_assign rfl rfl rfl rfl rfl ?_
  refine re_nil ?_
  refine qe_thenC ?_
  refine ce_block ?_
  refine ce_loop (α := Nat × (Option Nat) × Nat × Nat) (fun ⟨k, oa, oc, nn⟩ => [(0, .pointer (some ⟨h, 0, none⟩)), (1, .int .i64 (j : Int)), (2, .int .i64 down), (6, .pointer (some ⟨g6, 0, none⟩)), (7, slv oa nn oc), (8, .int .i64 (k : Int))]) (fun ⟨k, oa, oc, nn⟩ w => Own B (.row oa oc 46 30 nn (msgs ((s.way.take k).filter (fun (m : GM) => m.mineOf ((j : Int) + 1)))) :: .cells g6 36 [.bool true, .int .i64 ((j : Int) + 1)] :: .cells h 64 [.int .i64 3, .int .i64 3, .int .i64 9, .int .i64 0, slv ga gs.length gc, slv (some ia) gs.length gs.length, slv pa pgs.length pc, slv wa s.way.length wc, lsv da doff dn dc, slv (some na) pgs.length pgs.length, slv (some ca) pgs.length pgs.length] :: .row wa wc 46 30 s.way.length (msgs s.way) :: .row ga gc 3 1 gs.length (ints gs) :: .cells ia 121 (s.ins.flatMap Inst.cells) :: .row pa pc 29 1 pgs.length (pgs.map ptrV) :: .loose da doff dn dc 28 9 :: .cells na 3 (ints s.nkd) :: .cells ca 3 (ints s.nks) :: (ch l ++ F)) w ∧ k ≤ s.way.length ∧ nn = ((s.way.take k).filter (fun (m : GM) => m.mineOf ((j : Int) + 1))).length) (fun ⟨k, oa, oc, nn⟩ => s.way.length - k) (0, none, 0, 0) (And.intro rfl (And.intro rfl (And.intro rfl (And.intro rfl (And.intro rfl (And.intro rfl trivial)))))) ⟨H.nil_row 46 30, Nat.zero_le _, rfl⟩ ?_
  rintro ⟨k, oa, oc, nn⟩ w HW
  obtain ⟨H, hk, hnn⟩ := HW
  change CE _ _ _ _ _ [(0, .pointer (some ⟨h, 0, none⟩)), (1, .int .i64 (j : Int)), (2, .int .i64 down), (6, .pointer (some ⟨g6, 0, none⟩)), (7, slv oa nn oc), (8, .int .i64 (k : Int))] _
  have hfk := List.length_filter_le (fun (m : GM) => m.mineOf ((j : Int) + 1)) (s.way.take k)
  have htk := List.length_take_le k s.way
  refine ce_seq ?_
  refine ce_seq ?_
  refine ce_text (tab := []) (soft := 127) (.op 0 (.op 1 (.op 2 (.op 3 (.op 4 (.op 5 (.op 6 .nil))))))) rfl rfl ?_
  refine re_move rfl rfl rfl rfl rfl ?_
  refine re_move rfl rfl rfl rfl rfl ?_
  refine re_nilc rfl rfl rfl rfl rfl ?_
  first | refine re_field0 rfl rfl rfl rfl rfl fo_64_4 ?_ | refine re_field rfl rfl rfl rfl rfl fo_64_4 ?_ | refine re_fieldA rfl rfl rfl rfl rfl fo_64_4 ?_
  refine re_load H rfl rfl rfl rfl rfl sh_62 rfl ?_
  refine re_len rfl rfl rfl rfl rfl ul_62 ?_
  refine re_bin rfl rfl rfl rfl rfl rfl rfl ?_
  refine re_nil ?_
  refine qe_thenC ?_
  refine ce_cond rfl (fun h0 => ?_) (fun h0 => ?_)
  · try simp only [zn1, zn2, zn3, zn4, zn5, zn6] at h0
    refine ce_skip ?_
    refine qe_thenC ?_
    refine ce_seq ?_
    refine ce_block ?_
    refine ce_seq ?_
    refine ce_open (tab := [0, 1, 3, 7, 0, 31, 63, 127, 0, 511]) (soft := 1023) mixed (.op 0 (.op 1 (.op 2 (.op 3 (.op 4 (.op 5 (.op 6 (.op 7 (.op 8 (.op 9 .nil)))))))))) (by kernel_rfl) H ?_
    intro w H
    have hlt : k < s.way.length := by omega
    obtain ⟨xw, rfl⟩ := H.rsome wa (by omega)
    refine re_move rfl rfl rfl rfl rfl ?_
    refine re_nilc rfl rfl rfl rfl rfl ?_
    first | refine re_field0 rfl rfl rfl rfl rfl fo_64_4 ?_ | refine re_field rfl rfl rfl rfl rfl fo_64_4 ?_ | refine re_fieldA rfl rfl rfl rfl rfl fo_64_4 ?_
    refine re_load H rfl rfl rfl rfl rfl sh_62 rfl ?_
    refine re_move rfl rfl rfl rfl rfl ?_
    refine re_indexL rfl rfl rfl rfl rfl rfl ul_62 ei_62 (by omega) (by omega) ?_
    first | refine re_field0 rfl rfl rfl rfl rfl fo_46_1 ?_ | refine re_field rfl rfl rfl rfl rfl fo_46_1 ?_ | refine re_fieldA rfl rfl rfl rfl rfl fo_46_1 ?_
    refine re_loadW rfl rfl rfl rfl rfl (run_loadAt_row (v := .agg #[.bool (s.way[k]).fc, .int .i64 (s.way[k]).fi]) H sh_36 (rd_in true 2 hlt rfl (by decide) (by decide))) ?_
    refine re_load H rfl rfl rfl rfl rfl sh_36 (by first | exact rdAt_all rfl | (simp only [rdAt, PS.cells, PS.over, GM.cells, Cmd.cells, List.cons_append, List.nil_append, List.drop_succ_cons, List.drop_zero, List.take_succ_cons, List.take_zero, List.length_cons, List.length_nil, Nat.zero_add, Nat.reduceAdd, Nat.reduceLeDiff, Nat.le_refl, ↓reduceIte] <;> rfl)) ?_
    refine re_eqAgg rfl rfl rfl rfl rfl rfl fk_36 sh_36 ng_36 (by simp only [eqKs, eqK, ↓reduceIte]; rfl) ?_
    refine re_nil ?_
    refine qe_noPanic ?_
    refine qe_thenC ?_
    refine ce_cond rfl (fun h1 => ?_) (fun h1 => ?_)
    · try simp only [zn1, zn2, zn3, zn4, zn5, zn6] at h1
      refine ce_text (tab := []) (soft := 1279) (.op 0 (.op 1 (.op 2 (.op 3 (.op 4 (.op 5 (.op 6 (.op 7 (.op 8 (.op 9 (.op 10 .nil))))))))))) rfl rfl ?_
      refine re_move rfl rfl rfl rfl rfl ?_
      refine re_move rfl rfl rfl rfl rfl ?_
      refine re_nilc rfl rfl rfl rfl rfl ?_
      first | refine re_field0 rfl rfl rfl rfl rfl fo_64_4 ?_ | refine re_field rfl rfl rfl rfl rfl fo_64_4 ?_ | refine re_fieldA rfl rfl rfl rfl rfl fo_64_4 ?_
      refine re_load H rfl rfl rfl rfl rfl sh_62 rfl ?_
      refine re_move rfl rfl rfl rfl rfl ?_
      refine re_indexL rfl rfl rfl rfl rfl rfl ul_62 ei_62 (by omega) (by omega) ?_
      refine re_loadW rfl rfl rfl rfl rfl (run_loadAt_row H sh_46 (rd_flat GM.cells 30 (fun _ => rfl) (l := s.way) (k := k) hlt)) ?_
      refine re_slice1 H rfl rfl rfl rfl rfl rfl ul_62 ei_62 ze_46 rfl rfl rfl (by decide) ?_
      intro g43 w H
      refine ⟨(fun h => (nomatch h)), ?_⟩
      refine re_append H rfl rfl rfl rfl rfl rfl ul_62 ei_62 ze_46 rfl (by decide) (src_cells H rfl) rfl (by omega) (by simp only [maxLen]; omega) ?_
      intro a' c' w H _
      simp only [List.set_cons_zero, List.set_cons_succ] at H
      refine ⟨(fun h => (nomatch h)), ?_⟩
      refine re_assign rfl rfl rfl rfl rfl ?_
      refine re_nil ?_
      refine qe_block_norm ?_
      refine qe_thenC ?_
      refine ce_text (tab := []) (soft := 7) (.op 0 (.op 1 (.op 2 .nil))) rfl rfl ?_
      refine re_move rfl rfl rfl rfl rfl ?_
      first | refine re_add rfl rfl rfl rfl rfl rfl (by omega) ?_ | refine re_bin rfl rfl rfl rfl rfl rfl rfl ?_
      refine re_assign rfl rfl rfl rfl rfl ?_
      refine re_nil ?_
      refine qe_round (x := (k, oa, oc, nn)) (k + 1, a', c', nn + 1) ?_ ?_ ?_
      · first | (dsimp only; omega) | omega
      · exact (And.intro rfl (And.intro rfl (And.intro rfl (And.intro rfl (And.intro rfl (And.intro rfl trivial))))))
      ·
        have e := filter_new (p := (fun (m : GM) => m.mineOf ((j : Int) + 1))) hlt h1
        refine ⟨?_, by omega, by rw [e, List.length_append, List.length_singleton, ← hnn]⟩
        rw [e, msgs_snoc]
        exact H.tail
    · try simp only [zn1, zn2, zn3, zn4, zn5, zn6] at h1
      refine ce_skip ?_
      refine qe_block_norm ?_
      refine qe_thenC ?_
      refine ce_text (tab := []) (soft := 7) (.op 0 (.op 1 (.op 2 .nil))) rfl rfl ?_
      refine re_move rfl rfl rfl rfl rfl ?_
      first | refine re_add rfl rfl rfl rfl rfl rfl (by omega) ?_ | refine re_bin rfl rfl rfl rfl rfl rfl rfl ?_
      refine re_assign rfl rfl rfl rfl rfl ?_
      refine re_nil ?_
      refine qe_round (x := (k, oa, oc, nn)) (k + 1, oa, oc, nn) ?_ ?_ ?_
      · first | (dsimp only; omega) | omega
      · exact (And.intro rfl (And.intro rfl (And.intro rfl (And.intro rfl (And.intro rfl (And.intro rfl trivial))))))
      ·
        have e := filter_old (p := (fun (m : GM) => m.mineOf ((j : Int) + 1))) hlt h1
        refine ⟨?_, by omega, by rw [e]; exact hnn⟩
        rw [e]
        exact H
  · try simp only [zn1, zn2, zn3, zn4, zn5, zn6] at h0
    refine ce_exit ?_
    refine qe_then_exit ?_
    refine qe_then_exit ?_
    refine qe_block_exit ?_
    refine qe_thenC ?_
    refine ce_seq ?_
    refine ce_text (tab := []) (soft := 7) (.op 0 (.op 1 (.op 2 (.op 3 .nil)))) rfl rfl ?_
    refine re_move rfl rfl rfl rfl rfl ?_
    refine re_nilc rfl rfl rfl rfl rfl ?_
    first | refine re_field0 rfl rfl rfl rfl rfl fo_64_4 ?_ | refine re_field rfl rfl rfl rfl rfl fo_64_4 ?_ | refine re_fieldA rfl rfl rfl rfl rfl fo_64_4 ?_
    refine re_store H rfl rfl rfl rfl rfl rfl sh_62 rfl rfl rfl ?_
    intro cs w hcs H
    first | rw [setMany_whole rfl] at hcs | simp only [setMany, List.set_cons_zero, List.set_cons_succ, Nat.reduceAdd, Nat.zero_add, PS.cells, PS.over, GM.cells, Cmd.cells, List.cons_append, List.nil_append] at hcs
    subst hcs
    refine ⟨(fun h => (nomatch h)), ?_⟩
    refine re_nil ?_
    refine qe_thenC ?_
    refine ce_seq ?_
    refine ce_text (tab := []) (soft := 1279) (.op 0 (.op 1 (.op 2 (.op 3 (.op 4 (.op 5 (.op 6 (.op 7 (.op 8 (.op 9 (.op 10 .nil))))))))))) rfl rfl ?_
    obtain rfl : k = s.way.length := by omega
    rw [List.take_length] at H hnn
    replace H := H.nil_row 46 30
    have H := Own.arr [10, 10, 10, 10, 10, 10, 6, 9, 9, 9] H
    simp only [arrs, Fw.front, zm1, zm2, zm3, zm4, zm5] at H
    replace H := H.sub (.cons_cons _ (.cons_cons _ (.cons_cons _ (.cons_cons _ (.cons_cons _ (.cons_cons _ (.cons_cons _ (.cons_cons _ (.cons_cons _ (.cons_cons _ (.cons _ (List.Sublist.refl _))))))))))))
    obtain ⟨xp, rfl⟩ := H.rsome pa (by omega)
    refine re_move rfl rfl rfl rfl rfl ?_
    refine re_move rfl rfl rfl rfl rfl ?_
    refine re_nilc rfl rfl rfl rfl rfl ?_
    first | refine re_field0 rfl rfl rfl rfl rfl fo_64_3 ?_ | refine re_field rfl rfl rfl rfl rfl fo_64_3 ?_ | refine re_fieldA rfl rfl rfl rfl rfl fo_64_3 ?_
    refine re_load H rfl rfl rfl rfl rfl sh_61 rfl ?_
    refine re_move rfl rfl rfl rfl rfl ?_
    refine re_indexL rfl rfl rfl rfl rfl rfl ul_61 ei_61 (by omega) (by omega) ?_
    refine re_loadW rfl rfl rfl rfl rfl (run_loadAt_one sh_29 (rvalL H (ptr_at hp hjl))) ?_
    refine re_call en_25 rfl rfl rfl rfl rfl ?_
    have H := pick (A := [_, _, _, _, _, _, _, _, _, _]) hjl H
    refine Calls.mono (tick_c (x := l[j].1) (a := l[j].2) hoj H) ?_
    rintro e w ⟨a, s', c, hg, rfl, H⟩
    replace H := unpick (D := [_]) (A := [_, _, _, _, _, _, _, _, _, _]) (y := (l[j].1.tick.1, a)) hjl H
    simp only [List.cons_append, List.nil_append] at H
    refine ⟨_, rfl, (fun h => (nomatch h)), ?_⟩
    refine re_append H rfl rfl rfl rfl rfl rfl ul_62 ei_62 ze_46 rfl (by decide) (src_sees H (H.rsees s')) (all_oneB _) (by omega) (by simp only [maxLen]; omega) ?_
    intro oa oc w H _
    simp only [List.set_cons_zero, List.set_cons_succ] at H
    refine ⟨(fun h => (nomatch h)), ?_⟩
    refine re_assign rfl rfl rfl rfl rfl ?_
    refine re_nil ?_
    refine qe_thenC ?_
    refine ce_seq ?_
    refine ce_seq ?_
    refine ce_text (tab := []) (soft := 1) (.op 0 .nil) rfl rfl ?_
    have hno : nn + l[j].1.tick.2.length = out.length := by rw [hout, List.length_append, hnn]
    rw [← msgs_app, hno, ← hout] at H
    rw [hno]
    have H := Own.arr [10, 10, 10, 10, 10, 10, 10, 10, 9] H
    simp only [arrs, Fw.front, zm1, zm2, zm3, zm4, zm5] at H
    replace H := H.sub (.cons_cons _ (.cons_cons _ (.cons_cons _ (.cons_cons _ (.cons_cons _ (.cons_cons _ (.cons_cons _ (.cons_cons _ (.cons_cons _ (.cons _ (.cons _ (List.Sublist.refl _))))))))))))
    have hp1 := (map_set_g (y := (l[j].1.tick.1, a)) hjl hg).trans hp
    have hx1 : (l.set j (l[j].1.tick.1, a)).map (fun y => y.1) = s0.xs := by rw [hs0]; simp [List.map_set, hlx]
    have hg0 : s0.gs = gs := by rw [hs0]; exact hgs
    refine re_assign rfl rfl rfl rfl rfl ?_
    refine re_nil ?_
    refine qe_thenC ?_
    refine ce_block ?_
    replace H : Own B (.row oa oc 46 30 out.length (msgs out) :: .cells h 64 [.int .i64 3, .int .i64 3, .int .i64 9, .int .i64 0, slv ga gs.length gc, slv (some ia) gs.length gs.length, slv (some xp) pgs.length pc, slv none s0.way.length 0, lsv da doff dn dc, slv (some na) pgs.length pgs.length, slv (some ca) pgs.length pgs.length] :: .row none 0 46 30 s0.way.length (msgs s0.way) :: .row ga gc 3 1 gs.length (ints gs) :: .cells ia 121 (s0.ins.flatMap Inst.cells) :: .row (some xp) pc 29 1 pgs.length (pgs.map ptrV) :: .loose da doff dn dc 28 9 :: .cells na 3 (ints s0.nkd) :: .cells ca 3 (ints s0.nks) :: (ch (l.set j (l[j].1.tick.1, a)) ++ F)) w := by rw [hs0]; exact H
    refine ce_loop (α := Nat × (Option Nat) × Nat × (Option Nat) × Nat × Nat × Nat × (List XA) × HP) (fun ⟨k, wa, wc, d1, d2, d3, d4, l', sk⟩ => [(0, .pointer (some ⟨h, 0, none⟩)), (1, .int .i64 (j : Int)), (2, .int .i64 down), (7, slv oa out.length oc), (9, .int .i64 (k : Int))]) (fun ⟨k, wa, wc, d1, d2, d3, d4, l', sk⟩ w => Own B (.row oa oc 46 30 out.length (msgs out) :: .cells h 64 [.int .i64 3, .int .i64 3, .int .i64 9, .int .i64 0, slv ga gs.length gc, slv (some ia) gs.length gs.length, slv (some xp) pgs.length pc, slv wa sk.way.length wc, lsv d1 d2 d3 d4, slv (some na) pgs.length pgs.length, slv (some ca) pgs.length pgs.length] :: .row wa wc 46 30 sk.way.length (msgs sk.way) :: .row ga gc 3 1 gs.length (ints gs) :: .cells ia 121 (sk.ins.flatMap Inst.cells) :: .row (some xp) pc 29 1 pgs.length (pgs.map ptrV) :: .loose d1 d2 d3 d4 28 9 :: .cells na 3 (ints sk.nkd) :: .cells ca 3 (ints sk.nks) :: (ch l' ++ F)) w ∧ k ≤ out.length ∧ sk = s0.puts down (out.take k) ∧ d3 ≤ 50 ∧ l'.map (fun y => y.2.g) = pgs ∧ l'.map (fun y => y.1) = sk.xs ∧ sk.gs = gs) (fun ⟨k, wa, wc, d1, d2, d3, d4, l', sk⟩ => out.length - k) (0, none, 0, da, doff, dn, dc, l.set j (l[j].1.tick.1, a), s0) (And.intro rfl (And.intro rfl (And.intro rfl (And.intro rfl (And.intro rfl trivial))))) ⟨H, Nat.zero_le _, rfl, hd, hp1, hx1, hg0⟩ ?_
    rintro ⟨k, wa, wc, d1, d2, d3, d4, l', sk⟩ w HW
    obtain ⟨H, hk, hsk, hd3, hp', hx', hgk⟩ := HW
    change CE _ _ _ _ _ [(0, .pointer (some ⟨h, 0, none⟩)), (1, .int .i64 (j : Int)), (2, .int .i64 down), (7, slv oa out.length oc), (9, .int .i64 (k : Int))] _
    refine ce_seq ?_
    refine ce_seq ?_
    refine ce_text (tab := []) (soft := 15) (.op 0 (.op 1 (.op 2 (.op 3 .nil)))) rfl rfl ?_
    refine re_move rfl rfl rfl rfl rfl ?_
    refine re_move rfl rfl rfl rfl rfl ?_
    refine re_len rfl rfl rfl rfl rfl ul_62 ?_
    refine re_bin rfl rfl rfl rfl rfl rfl rfl ?_
    refine re_nil ?_
    refine qe_thenC ?_
    refine ce_cond rfl (fun h2 => ?_) (fun h2 => ?_)
    · try simp only [zn1, zn2, zn3, zn4, zn5, zn6] at h2
      refine ce_skip ?_
      refine qe_thenC ?_
      refine ce_seq ?_
      refine ce_block ?_
      refine ce_seq ?_
      refine ce_text (tab := []) (soft := 1) (.op 0 .nil) rfl rfl ?_
      refine re_assign rfl rfl rfl rfl rfl ?_
      refine re_nil ?_
      refine qe_thenC ?_
      refine ce_block ?_
      have hlt : k < out.length := by omega
      obtain ⟨xo, rfl⟩ := H.rsome oa (by omega)
      refine ce_loop (α := Nat × (Option Nat) × Nat × (Option Nat) × Nat × Nat × Nat × (List XA) × HP) (fun ⟨i, wa, wc, d1, d2, d3, d4, l', sk⟩ => [(0, .pointer (some ⟨h, 0, none⟩)), (1, .int .i64 (j : Int)), (2, .int .i64 down), (7, slv (some xo) out.length oc), (9, .int .i64 (k : Int)), (10, .int .i64 (i : Int))]) (fun ⟨i, wa, wc, d1, d2, d3, d4, l', sk⟩ w => Own B (.row (some xo) oc 46 30 out.length (msgs out) :: .cells h 64 [.int .i64 3, .int .i64 3, .int .i64 9, .int .i64 0, slv ga gs.length gc, slv (some ia) gs.length gs.length, slv (some xp) pgs.length pc, slv wa sk.way.length wc, lsv d1 d2 d3 d4, slv (some na) pgs.length pgs.length, slv (some ca) pgs.length pgs.length] :: .row wa wc 46 30 sk.way.length (msgs sk.way) :: .row ga gc 3 1 gs.length (ints gs) :: .cells ia 121 (sk.ins.flatMap Inst.cells) :: .row (some xp) pc 29 1 pgs.length (pgs.map ptrV) :: .loose d1 d2 d3 d4 28 9 :: .cells na 3 (ints sk.nkd) :: .cells ca 3 (ints sk.nks) :: (ch l' ++ F)) w ∧ i ≤ gs.length ∧ sk = (s0.puts down (out.take k)).lets down out[k] i ∧ d3 ≤ 50 ∧ l'.map (fun y => y.2.g) = pgs ∧ l'.map (fun y => y.1) = sk.xs ∧ sk.gs = gs) (fun ⟨i, wa, wc, d1, d2, d3, d4, l', sk⟩ => gs.length - i) (0, wa, wc, d1, d2, d3, d4, l', sk) (And.intro rfl (And.intro rfl (And.intro rfl (And.intro rfl (And.intro rfl (And.intro rfl trivial)))))) ⟨H, Nat.zero_le _, hsk, hd3, hp', hx', hgk⟩ ?_
      rintro ⟨i, wa, wc, d1, d2, d3, d4, l', sk⟩ w HW
      obtain ⟨H, hi, hsk, hd3, hp', hx', hgk⟩ := HW
      change CE _ _ _ _ _ [(0, .pointer (some ⟨h, 0, none⟩)), (1, .int .i64 (j : Int)), (2, .int .i64 down), (7, slv (some xo) out.length oc), (9, .int .i64 (k : Int)), (10, .int .i64 (i : Int))] _
      refine ce_seq ?_
      refine ce_seq ?_
      refine ce_text (tab := []) (soft := 127) (.op 0 (.op 1 (.op 2 (.op 3 (.op 4 (.op 5 (.op 6 .nil))))))) rfl rfl ?_
      refine re_move rfl rfl rfl rfl rfl ?_
      refine re_move rfl rfl rfl rfl rfl ?_
      refine re_nilc rfl rfl rfl rfl rfl ?_
      first | refine re_field0 rfl rfl rfl rfl rfl fo_64_1 ?_ | refine re_field rfl rfl rfl rfl rfl fo_64_1 ?_ | refine re_fieldA rfl rfl rfl rfl rfl fo_64_1 ?_
      refine re_load H rfl rfl rfl rfl rfl sh_31 rfl ?_
      refine re_len rfl rfl rfl rfl rfl ul_31 ?_
      refine re_bin rfl rfl rfl rfl rfl rfl rfl ?_
      refine re_nil ?_
      refine qe_thenC ?_
      refine ce_cond rfl (fun h3 => ?_) (fun h3 => ?_)
      · try simp only [zn1, zn2, zn3, zn4, zn5, zn6] at h3
        refine ce_skip ?_
        refine qe_thenC ?_
        refine ce_seq ?_
        refine ce_block ?_
        refine ce_seq ?_
        refine ce_open (tab := [0, 1, 3, 7, 0, 31, 63, 0, 0, 384, 896, 1920, 3968, 8191, 16383, 32767, 32767, 98303, 262143, 524287, 1048575]) (soft := 2097151) mixed (.op 0 (.op 1 (.op 2 (.op 3 (.op 4 (.op 5 (.op 6 (.op 7 (.op 8 (.op 9 (.op 10 (.op 11 (.op 12 (.op 13 (.op 14 (.op 15 (.op 16 (.op 17 (.op 18 (.op 19 (.op 20 .nil))))))))))))))))))))) (by kernel_rfl) H ?_
        intro w H
        have hilt : i < gs.length := by omega
        obtain ⟨xg, rfl⟩ := H.rsome ga (by omega)
        refine re_move rfl rfl rfl rfl rfl ?_
        refine re_nilc rfl rfl rfl rfl rfl ?_
        first | refine re_field0 rfl rfl rfl rfl rfl fo_64_1 ?_ | refine re_field rfl rfl rfl rfl rfl fo_64_1 ?_ | refine re_fieldA rfl rfl rfl rfl rfl fo_64_1 ?_
        refine re_load H rfl rfl rfl rfl rfl sh_31 rfl ?_
        refine re_move rfl rfl rfl rfl rfl ?_
        refine re_indexL rfl rfl rfl rfl rfl rfl ul_31 ei_31 (by omega) (by omega) ?_
        refine re_loadW rfl rfl rfl rfl rfl (run_loadAt_one sh_3 (rvalL H (v := .int .i64 gs[i]) (by simp [hilt]))) ?_
        refine re_move rfl rfl rfl rfl rfl ?_
        refine re_move rfl rfl rfl rfl rfl ?_
        refine re_indexL rfl rfl rfl rfl rfl rfl ul_62 ei_62 (by omega) (by omega) ?_
        first | refine re_field0 rfl rfl rfl rfl rfl fo_46_2 ?_ | refine re_field rfl rfl rfl rfl rfl fo_46_2 ?_ | refine re_fieldA rfl rfl rfl rfl rfl fo_46_2 ?_
        first | refine re_field0 rfl rfl rfl rfl rfl fo_36_1 ?_ | refine re_field rfl rfl rfl rfl rfl fo_36_1 ?_ | refine re_fieldA rfl rfl rfl rfl rfl fo_36_1 ?_
        refine re_loadW rfl rfl rfl rfl rfl (run_loadAt_row (v := .int .i64 (out[k]).ti) H sh_3 (rd_in false 1 hlt (off := 3 + 1) rfl (by decide) (by decide))) ?_
        refine re_bin rfl rfl rfl rfl rfl rfl rfl ?_
        refine re_move rfl rfl rfl rfl rfl ?_
        refine re_split (fun hg15_14 => ?_) (fun hg15_14 => ?_)
        ·
          refine re_move rfl rfl rfl rfl rfl ?_
          refine re_move rfl rfl rfl rfl rfl ?_
          refine re_bits rfl rfl rfl rfl rfl rfl (.inr (.inr ⟨rfl, by omega⟩)) ?_
          refine re_bits rfl rfl rfl rfl rfl rfl (.inl rfl) ?_
          refine re_bin rfl rfl rfl rfl rfl rfl rfl ?_
          refine re_pickT rfl rfl rfl rfl rfl rfl ?_
          refine re_nil ?_
          refine qe_noPanic ?_
          refine qe_thenC ?_
          refine ce_cond rfl (fun h4 => ?_) (fun h4 => ?_)
          · try simp only [zn1, zn2, zn3, zn4, zn5, zn6] at h4
            refine ce_text (tab := []) (soft := 31) (.op 0 (.op 1 (.op 2 (.op 3 (.op 4 (.op 5 .nil)))))) rfl rfl ?_
            have hgi := of_decide_eq_true hg15_14
            refine re_move rfl rfl rfl rfl rfl ?_
            refine re_move rfl rfl rfl rfl rfl ?_
            refine re_move rfl rfl rfl rfl rfl ?_
            refine re_indexL rfl rfl rfl rfl rfl rfl ul_62 ei_62 (by omega) (by omega) ?_
            refine re_loadW rfl rfl rfl rfl rfl (run_loadAt_row H sh_46 (rd_flat GM.cells 30 (fun _ => rfl) (l := out) (k := k) hlt)) ?_
            refine re_call en_39 rfl rfl rfl rfl rfl ?_
            replace H := tuck (A := [_, _, _, _, _, _, _, _]) H
            simp only [List.cons_append, List.nil_append] at H
            refine Calls.mono (deliver_p (F := _ :: F) H hgk hx' hp' hn hd3 hgl (by rw [hsk]; exact hm1 k hlt i hilt)) ?_
            rintro e w ⟨wa, wc, d1, d2, d3, d4, l', hd3, hp', hx', rfl, H⟩
            replace H := untuck (A := [_, _, _, _, _, _, _, _]) H
            simp only [List.cons_append, List.nil_append] at H
            refine ⟨_, rfl, (fun h => (nomatch h)), ?_⟩
            refine re_nil ?_
            refine qe_block_norm ?_
            refine qe_thenC ?_
            refine ce_text (tab := []) (soft := 7) (.op 0 (.op 1 (.op 2 .nil))) rfl rfl ?_
            refine re_move rfl rfl rfl rfl rfl ?_
            first | refine re_add rfl rfl rfl rfl rfl rfl (by omega) ?_ | refine re_bin rfl rfl rfl rfl rfl rfl rfl ?_
            refine re_assign rfl rfl rfl rfl rfl ?_
            refine re_nil ?_
            refine qe_round (x := (i, wa, wc, d1, d2, d3, d4, l', sk)) (i + 1, wa, wc, d1, d2, d3, d4, l', sk.deliver out[k]) ?_ ?_ ?_
            · first | (dsimp only; omega) | omega
            · exact (And.intro rfl (And.intro rfl (And.intro rfl (And.intro rfl (And.intro rfl (And.intro rfl trivial))))))
            · exact ⟨H, by omega, by rw [HP.lets_succ, ← hsk, HP.toAlive, if_pos ⟨by rw [hgk, List.getElem?_eq_getElem hilt, hgi], by unfold alive; exact decide_eq_true h4⟩], hd3, hp', hx', by rw [HP.deliver_gs]; exact hgk⟩
          · try simp only [zn1, zn2, zn3, zn4, zn5, zn6] at h4
            refine ce_skip ?_
            refine qe_block_norm ?_
            refine qe_thenC ?_
            refine ce_text (tab := []) (soft := 7) (.op 0 (.op 1 (.op 2 .nil))) rfl rfl ?_
            refine re_move rfl rfl rfl rfl rfl ?_
            first | refine re_add rfl rfl rfl rfl rfl rfl (by omega) ?_ | refine re_bin rfl rfl rfl rfl rfl rfl rfl ?_
            refine re_assign rfl rfl rfl rfl rfl ?_
            refine re_nil ?_
            refine qe_round (x := (i, wa, wc, d1, d2, d3, d4, l', sk)) (i + 1, wa, wc, d1, d2, d3, d4, l', sk) ?_ ?_ ?_
            · first | (dsimp only; omega) | omega
            · exact (And.intro rfl (And.intro rfl (And.intro rfl (And.intro rfl (And.intro rfl (And.intro rfl trivial))))))
            · exact ⟨H, by omega, by rw [HP.lets_succ, ← hsk, HP.toAlive, if_neg (fun h => h4 (of_decide_eq_true h.2))], hd3, hp', hx', hgk⟩
        ·
          refine re_skip1 rfl rfl rfl ?_
          refine re_skip1 rfl rfl rfl ?_
          refine re_skip1 rfl rfl rfl ?_
          refine re_skip1 rfl rfl rfl ?_
          refine re_skip1 rfl rfl rfl ?_
          refine re_pickF rfl rfl rfl rfl rfl rfl ?_
          refine re_nil ?_
          refine qe_noPanic ?_
          refine qe_thenC ?_
          refine ce_condF rfl ?_
          refine ce_skip ?_
          refine qe_block_norm ?_
          refine qe_thenC ?_
          refine ce_text (tab := []) (soft := 7) (.op 0 (.op 1 (.op 2 .nil))) rfl rfl ?_
          refine re_move rfl rfl rfl rfl rfl ?_
          first | refine re_add rfl rfl rfl rfl rfl rfl (by omega) ?_ | refine re_bin rfl rfl rfl rfl rfl rfl rfl ?_
          refine re_assign rfl rfl rfl rfl rfl ?_
          refine re_nil ?_
          refine qe_round (x := (i, wa, wc, d1, d2, d3, d4, l', sk)) (i + 1, wa, wc, d1, d2, d3, d4, l', sk) ?_ ?_ ?_
          · first | (dsimp only; omega) | omega
          · exact (And.intro rfl (And.intro rfl (And.intro rfl (And.intro rfl (And.intro rfl (And.intro rfl trivial))))))
          · exact ⟨H, by omega, by rw [HP.lets_succ, ← hsk, HP.toAlive, if_neg (fun h => of_decide_eq_false hg15_14 (by have := h.1; rw [hgk, List.getElem?_eq_getElem hilt] at this; exact Option.some.inj this))], hd3, hp', hx', hgk⟩
      · try simp only [zn1, zn2, zn3, zn4, zn5, zn6] at h3
        refine ce_exit ?_
        refine qe_then_exit ?_
        refine qe_then_exit ?_
        refine qe_block_exit ?_
        refine qe_block_norm ?_
        refine qe_thenC ?_
        refine ce_text (tab := []) (soft := 7) (.op 0 (.op 1 (.op 2 .nil))) rfl rfl ?_
        refine re_move rfl rfl rfl rfl rfl ?_
        first | refine re_add rfl rfl rfl rfl rfl rfl (by omega) ?_ | refine re_bin rfl rfl rfl rfl rfl rfl rfl ?_
        refine re_assign rfl rfl rfl rfl rfl ?_
        refine re_nil ?_
        refine qe_round (x := (k, wa, wc, d1, d2, d3, d4, l', sk)) (k + 1, wa, wc, d1, d2, d3, d4, l', sk) ?_ ?_ ?_
        · first | (dsimp only; omega) | omega
        · exact (And.intro rfl (And.intro rfl (And.intro rfl (And.intro rfl (And.intro rfl trivial)))))
        ·
          obtain rfl : i = gs.length := by omega
          refine ⟨H, by omega, ?_, hd3, hp', hx', hgk⟩
          rw [List.take_succ_eq_append_getElem hlt, HP.puts_snoc, HP.puts_gs, hg0]
          exact hsk
    · try simp only [zn1, zn2, zn3, zn4, zn5, zn6] at h2
      refine ce_exit ?_
      refine qe_then_exit ?_
      refine qe_then_exit ?_
      refine qe_block_exit ?_
      refine qe_thenC ?_
      refine ce_seq ?_
      refine ce_text (tab := []) (soft := 31) (.op 0 (.op 1 (.op 2 (.op 3 (.op 4 .nil))))) rfl rfl ?_
      obtain rfl : k = out.length := by omega
      rw [List.take_length, ← hs2] at hsk
      have hsk' := hsk.symm
      subst hsk'
      refine re_move rfl rfl rfl rfl rfl ?_
      refine re_nilc rfl rfl rfl rfl rfl ?_
      first | refine re_field0 rfl rfl rfl rfl rfl fo_64_4 ?_ | refine re_field rfl rfl rfl rfl rfl fo_64_4 ?_ | refine re_fieldA rfl rfl rfl rfl rfl fo_64_4 ?_
      refine re_load H rfl rfl rfl rfl rfl sh_62 rfl ?_
      refine re_assign rfl rfl rfl rfl rfl ?_
      refine re_nil ?_
      refine qe_thenC ?_
      refine ce_seq ?_
      refine ce_text (tab := []) (soft := 7) (.op 0 (.op 1 (.op 2 (.op 3 .nil)))) rfl rfl ?_
      refine re_move rfl rfl rfl rfl rfl ?_
      refine re_nilc rfl rfl rfl rfl rfl ?_
      first | refine re_field0 rfl rfl rfl rfl rfl fo_64_4 ?_ | refine re_field rfl rfl rfl rfl rfl fo_64_4 ?_ | refine re_fieldA rfl rfl rfl rfl rfl fo_64_4 ?_
      refine re_store H rfl rfl rfl rfl rfl rfl sh_62 rfl rfl rfl ?_
      intro cs w hcs H
      first | rw [setMany_whole rfl] at hcs | simp only [setMany, List.set_cons_zero, List.set_cons_succ, Nat.reduceAdd, Nat.zero_add, PS.cells, PS.over, GM.cells, Cmd.cells, List.cons_append, List.nil_append] at hcs
      subst hcs
      refine ⟨(fun h => (nomatch h)), ?_⟩
      refine re_nil ?_
      refine qe_thenC ?_
      refine ce_seq ?_
      refine ce_text (tab := []) (soft := 1) (.op 0 .nil) rfl rfl ?_
      refine re_assign rfl rfl rfl rfl rfl ?_
      refine re_nil ?_
      refine qe_thenC ?_
      refine ce_block ?_
      obtain ⟨aa, haa⟩ : ∃ aa, aa = wa := ⟨_, rfl⟩
      obtain ⟨ac, hac⟩ : ∃ ac, ac = wc := ⟨_, rfl⟩
      rw [← haa, ← hac] at H ⊢
      replace H := H.nil_row 46 30
      have H := Own.arr [9, 9, 9, 9, 9, 9, 6, 8, 9] H
      simp only [arrs, Fw.front, zm1, zm2, zm3, zm4, zm5] at H
      replace H := H.sub (.cons_cons _ (.cons_cons _ (.cons_cons _ (.cons_cons _ (.cons_cons _ (.cons_cons _ (.cons_cons _ (.cons_cons _ (.cons_cons _ (.cons _ (List.Sublist.refl _)))))))))))
      replace H : Own B (.row aa ac 46 30 s2.way.length (msgs s2.way) :: .cells h 64 [.int .i64 3, .int .i64 3, .int .i64 9, .int .i64 0, slv ga gs.length gc, slv (some ia) gs.length gs.length, slv (some xp) pgs.length pc, slv none s3.way.length 0, lsv d1 d2 d3 d4, slv (some na) pgs.length pgs.length, slv (some ca) pgs.length pgs.length] :: .row none 0 46 30 s3.way.length (msgs s3.way) :: .row ga gc 3 1 gs.length (ints gs) :: .cells ia 121 (s3.ins.flatMap Inst.cells) :: .row (some xp) pc 29 1 pgs.length (pgs.map ptrV) :: .loose d1 d2 d3 d4 28 9 :: .cells na 3 (ints s3.nkd) :: .cells ca 3 (ints s3.nks) :: (ch l' ++ F)) w := by rw [hs3]; exact H
      refine ce_loop (α := Nat × (Option Nat) × Nat × (Option Nat) × Nat × Nat × Nat × (List XA) × HP) (fun ⟨k, wa, wc, d1, d2, d3, d4, l', sk⟩ => [(0, .pointer (some ⟨h, 0, none⟩)), (1, .int .i64 (j : Int)), (2, .int .i64 down), (11, slv aa s2.way.length ac), (12, .int .i64 (k : Int))]) (fun ⟨k, wa, wc, d1, d2, d3, d4, l', sk⟩ w => Own B (.row aa ac 46 30 s2.way.length (msgs s2.way) :: .cells h 64 [.int .i64 3, .int .i64 3, .int .i64 9, .int .i64 0, slv ga gs.length gc, slv (some ia) gs.length gs.length, slv (some xp) pgs.length pc, slv wa sk.way.length wc, lsv d1 d2 d3 d4, slv (some na) pgs.length pgs.length, slv (some ca) pgs.length pgs.length] :: .row wa wc 46 30 sk.way.length (msgs sk.way) :: .row ga gc 3 1 gs.length (ints gs) :: .cells ia 121 (sk.ins.flatMap Inst.cells) :: .row (some xp) pc 29 1 pgs.length (pgs.map ptrV) :: .loose d1 d2 d3 d4 28 9 :: .cells na 3 (ints sk.nkd) :: .cells ca 3 (ints sk.nks) :: (ch l' ++ F)) w ∧ k ≤ s2.way.length ∧ sk = s3.answers (s2.way.take k) ∧ d3 ≤ 50 ∧ l'.map (fun y => y.2.g) = pgs ∧ l'.map (fun y => y.1) = sk.xs ∧ sk.gs = gs) (fun ⟨k, wa, wc, d1, d2, d3, d4, l', sk⟩ => s2.way.length - k) (0, none, 0, d1, d2, d3, d4, l', s3) (And.intro rfl (And.intro rfl (And.intro rfl (And.intro rfl (And.intro rfl trivial))))) ⟨H, Nat.zero_le _, rfl, hd3, hp', by rw [hs3]; exact hx', by rw [hs3]; exact hgk⟩ ?_
      rintro ⟨k, wa, wc, d1, d2, d3, d4, l', sk⟩ w HW
      obtain ⟨H, hk, hsk, hd3, hp', hx', hgk⟩ := HW
      change CE _ _ _ _ _ [(0, .pointer (some ⟨h, 0, none⟩)), (1, .int .i64 (j : Int)), (2, .int .i64 down), (11, slv aa s2.way.length ac), (12, .int .i64 (k : Int))] _
      refine ce_seq ?_
      refine ce_seq ?_
      refine ce_text (tab := []) (soft := 15) (.op 0 (.op 1 (.op 2 (.op 3 .nil)))) rfl rfl ?_
      refine re_move rfl rfl rfl rfl rfl ?_
      refine re_move rfl rfl rfl rfl rfl ?_
      refine re_len rfl rfl rfl rfl rfl ul_62 ?_
      refine re_bin rfl rfl rfl rfl rfl rfl rfl ?_
      refine re_nil ?_
      refine qe_thenC ?_
      refine ce_cond rfl (fun h5 => ?_) (fun h5 => ?_)
      · try simp only [zn1, zn2, zn3, zn4, zn5, zn6] at h5
        refine ce_skip ?_
        refine qe_thenC ?_
        refine ce_seq ?_
        refine ce_block ?_
        refine ce_text (tab := []) (soft := 31) (.op 0 (.op 1 (.op 2 (.op 3 (.op 4 (.op 5 .nil)))))) rfl rfl ?_
        have hlt : k < s2.way.length := by omega
        obtain ⟨xa, rfl⟩ := H.rsome aa (by omega)
        refine re_move rfl rfl rfl rfl rfl ?_
        refine re_move rfl rfl rfl rfl rfl ?_
        refine re_move rfl rfl rfl rfl rfl ?_
        refine re_indexL rfl rfl rfl rfl rfl rfl ul_62 ei_62 (by omega) (by omega) ?_
        refine re_loadW rfl rfl rfl rfl rfl (run_loadAt_row H sh_46 (rd_flat GM.cells 30 (fun _ => rfl) (l := s2.way) (k := k) hlt)) ?_
        refine re_call en_39 rfl rfl rfl rfl rfl ?_
        replace H := tuck (A := [_, _, _, _, _, _, _, _]) H
        simp only [List.cons_append, List.nil_append] at H
        refine Calls.mono (deliver_p (F := _ :: F) H hgk hx' hp' hn hd3 hgl (by rw [hsk]; exact hm2 k hlt)) ?_
        rintro e w ⟨wa, wc, d1, d2, d3, d4, l', hd3, hp', hx', rfl, H⟩
        replace H := untuck (A := [_, _, _, _, _, _, _, _]) H
        simp only [List.cons_append, List.nil_append] at H
        refine ⟨_, rfl, (fun h => (nomatch h)), ?_⟩
        refine re_nil ?_
        refine qe_block_norm ?_
        refine qe_thenC ?_
        refine ce_text (tab := []) (soft := 7) (.op 0 (.op 1 (.op 2 .nil))) rfl rfl ?_
        refine re_move rfl rfl rfl rfl rfl ?_
        first | refine re_add rfl rfl rfl rfl rfl rfl (by omega) ?_ | refine re_bin rfl rfl rfl rfl rfl rfl rfl ?_
        refine re_assign rfl rfl rfl rfl rfl ?_
        refine re_nil ?_
        refine qe_round (x := (k, wa, wc, d1, d2, d3, d4, l', sk)) (k + 1, wa, wc, d1, d2, d3, d4, l', sk.deliver s2.way[k]) ?_ ?_ ?_
        · first | (dsimp only; omega) | omega
        · exact (And.intro rfl (And.intro rfl (And.intro rfl (And.intro rfl (And.intro rfl trivial)))))
        · exact ⟨H, by omega, by rw [List.take_succ_eq_append_getElem hlt, HP.answers_snoc, ← hsk], hd3, hp', hx', by rw [HP.deliver_gs]; exact hgk⟩
      · try simp only [zn1, zn2, zn3, zn4, zn5, zn6] at h5
        refine ce_exit ?_
        refine qe_then_exit ?_
        refine qe_then_exit ?_
        refine qe_block_exit ?_
        refine qe_end0 rfl ?_
        obtain rfl : k = s2.way.length := by omega
        rw [List.take_length] at hsk
        exact ⟨wa, wc, d1, d2, d3, d4, l', hd3, hp', by rw [← hsk]; exact hx', rfl, by rw [← hsk]; exact H.tail⟩
end Go.Proofs.Ytofaoblfemfkiaa

namespace Go.Proofs.Ytofaoblfemfkiaa
open Go Go.RowKit Go.Fw
set_option linter.unusedSimpArgs false
set_option linter.unusedVariables false
set_option maxRecDepth 4000
set_option maxHeartbeats 2000000
theorem ei_39 : elemInfo Try.prog 39 = some (5, 1, 1) := by kernel_rfl
theorem ul_39 : Try.prog.underlying 39 = some (.slice 5) := by kernel_rfl
theorem ul_5 : Try.prog.underlying 5 = some (.int .u8) := by kernel_rfl
theorem ul_9 : Try.prog.underlying 9 = some (.string) := by kernel_rfl
theorem ze_5 : zeroC Try.prog 5 = some [.int .u8 0] := by kernel_rfl

theorem command_s {B w : World} {F : List Ent} {c : Int} (H : Own B F w) (hc : 0 ≤ c ∧ c ≤ 1000) :
    Calls Try.prog 37 #[.int .i64 c] w fun e w' => ∃ nm, e = .returned (.agg (Cmd.mk 3 c 1 nm 0 0 0 0 0).cells.toArray) ∧ Own B F w' := by
  refine calls_ce (args := [.int .i64 c]) Try.func37 rfl rfl ?_
  change CE _ _ 11 _ _ [(0, .int .i64 c)] _
  refine ce_seq ?_
  refine ce_text (tab := []) (soft := 0) (.op 0 .nil) rfl rfl ?_
  refine re_alloc H rfl rfl rfl rfl ze_28 ?_
  intro g2 w H
  refine ⟨(fun h => (nomatch h)), ?_⟩
  refine re_nil ?_
  refine qe_thenC ?_
  refine ce_seq ?_
  refine ce_text (tab := []) (soft := 223) (.op 0 (.op 1 (.op 2 (.op 3 (.op 4 (.op 5 (.op 6 (.op 7 (.op 8 .nil))))))))) rfl rfl ?_
  refine re_move rfl rfl rfl rfl rfl ?_
  refine re_move rfl rfl rfl rfl rfl ?_
  refine re_rem rfl rfl rfl rfl rfl rfl (by omega) ?_
  have hm1 : 0 ≤ c.tmod 26 ∧ c.tmod 26 < 26 := ⟨Int.tmod_nonneg _ (by omega), Int.tmod_lt_of_pos _ (by omega)⟩
  first | refine re_add rfl rfl rfl rfl rfl rfl (by omega) ?_ | refine re_bin rfl rfl rfl rfl rfl rfl rfl ?_
  refine re_convI rfl rfl rfl rfl rfl ul_3 ul_5 ?_
  refine re_slice1 H rfl rfl rfl rfl rfl rfl ul_39 ei_39 ze_5 rfl rfl rfl (by decide) ?_
  intro g8 w H
  refine ⟨(fun h => (nomatch h)), ?_⟩
  refine re_convB H rfl rfl rfl rfl rfl (ns := [IntKind.u8.wrap (97 + c.tmod 26)]) rfl ul_39 ul_5 ul_9 ?_
  refine re_build rfl rfl rfl rfl rfl ze_28 pl_28 (by simp only [fillL, setMany, Value.cells, List.getElem?_cons_zero, List.getElem?_cons_succ, List.length_cons, List.length_nil, List.set_cons_zero, List.set_cons_succ, Nat.reduceAdd, Nat.reduceLeDiff, Nat.zero_add, and_self, ↓reduceIte]; rfl) ?_
  refine re_store H rfl rfl rfl rfl rfl rfl sh_28 rfl rfl rfl ?_
  intro cs w hcs H
  first | rw [setMany_whole rfl] at hcs | simp only [setMany, List.set_cons_zero, List.set_cons_succ, Nat.reduceAdd, Nat.zero_add, PS.cells, PS.over, GM.cells, Cmd.cells, List.cons_append, List.nil_append] at hcs
  subst hcs
  refine ⟨(fun h => (nomatch h)), ?_⟩
  refine re_nil ?_
  refine qe_thenC ?_
  refine ce_ret ?_
  refine qe_endCell H rfl rfl sh_28 (by first | exact rdAt_all rfl | (simp only [rdAt, PS.cells, PS.over, GM.cells, Cmd.cells, List.cons_append, List.nil_append, List.drop_succ_cons, List.drop_zero, List.take_succ_cons, List.take_zero, List.length_cons, List.length_nil, Nat.zero_add, Nat.reduceAdd, Nat.reduceLeDiff, Nat.le_refl, ↓reduceIte] <;> rfl)) ?_
  exact ⟨_, rfl, H.drop 2⟩

def gid (i : Nat) : Int := 10 + (3 * (i : Int)).tmod 7 + 10 * (i : Int)
def grp (n : Nat) : List Int := (List.range n).map gid
theorem grp_len (n : Nat) : (grp n).length = n := by simp [grp]
theorem grp_succ (n : Nat) : grp (n + 1) = grp n ++ [gid n] := by simp [grp, List.range_succ]
theorem grp_un {n : Nat} (h : n = 1 ∨ n = 3 ∨ n = 5 ∨ n = 7) : unlike (grp n) = grp n := by
  rcases h with rfl | rfl | rfl | rfl <;> decide
theorem grp_nd {n : Nat} (h : n = 1 ∨ n = 3 ∨ n = 5 ∨ n = 7) : (grp n).Nodup := by
  rcases h with rfl | rfl | rfl | rfl <;> decide
theorem grp_bd {n : Nat} (h : n = 1 ∨ n = 3 ∨ n = 5 ∨ n = 7) : ∀ v ∈ grp n, 0 ≤ v ∧ v ≤ 1000 := by
  rcases h with rfl | rfl | rfl | rfl <;> decide
def newP (gs : List Int) (c : Int) (nm : ByteArray) : PS := PS.new c 1 3 3 9 0 (Cmd.mk 3 c 1 nm 0 0 0 0 0) 1 1 none 0 gs
/-- A proposer as 'open' makes it. -/
def Init (gs : List Int) (c : Int) (x : X) : Prop := ∃ nm, x = ⟨newP gs c nm, .idle, [], []⟩
theorem push_chunk {B w : World} {A F : List Ent} {l : List XA} {y : XA} (H : Own B (chunk y ++ (A ++ (ch l ++ F))) w) : Own B (A ++ (ch (l ++ [y]) ++ F)) w := by
  refine H.perm ?_
  have e : ch (l ++ [y]) = ch l ++ chunk y := by simp [ch, List.flatMap_append]
  rw [e]
  have h1 : (chunk y ++ (A ++ (ch l ++ F))).Perm (A ++ (ch l ++ F) ++ chunk y) := List.perm_append_comm
  refine h1.trans ?_
  rw [List.append_assoc, List.append_assoc, List.append_assoc]
  exact List.Perm.append_left _ (List.Perm.append_left _ List.perm_append_comm)
theorem rep_inst (n : Nat) : (List.replicate n [Value.int .i64 0, .int .i64 0, .int .i64 0, .int .i64 0, .int .i64 0, .int .i64 0, .int .i64 0, .string ByteArray.empty, .int .i64 0, .int .i64 0, .int .i64 0, .int .i64 0, .int .i64 0, .bool false]).flatten = (List.replicate n Inst.zero).flatMap Inst.cells := by
  simp [List.flatMap, List.map_replicate]
  rfl
theorem rep_ints (n : Nat) : (List.replicate n [Value.int .i64 0]).flatten = ints (List.replicate n 0) := by
  induction n with
  | zero => rfl
  | succ n ih => simp only [List.replicate_succ, List.flatten_cons, ih]; rfl
end Go.Proofs.Ytofaoblfemfkiaa

namespace Go.Proofs.Ytofaoblfemfkiaa
open Go Go.RowKit Go.Fw
set_option linter.unusedSimpArgs false
set_option linter.unusedVariables false
set_option maxRecDepth 4000
set_option maxHeartbeats 2000000
theorem en_37 : Enterable Try.prog 37 := ⟨Try.f37, Try.func37, rfl, by decide⟩
theorem en_6 : Enterable Try.prog 6 := ⟨Try.f6, Try.func6, rfl, by decide⟩
theorem fo_64_0 : fOff Try.prog 64 0 = some 0 := by kernel_rfl
theorem pl_24 : placesOf Try.prog 24 = some [(0, 1), (1, 1), (2, 1), (3, 1)] := by kernel_rfl
theorem pl_64 : placesOf Try.prog 64 = some [(0, 4), (4, 1), (5, 1), (6, 1), (7, 1), (8, 1), (9, 1), (10, 1)] := by kernel_rfl
theorem ul_29 : Try.prog.underlying 29 = some (.pointer 80) := by kernel_rfl
theorem ze_24 : zeroC Try.prog 24 = some [.int .i64 0, .int .i64 0, .int .i64 0, .int .i64 0] := by kernel_rfl
theorem ze_29 : zeroC Try.prog 29 = some [.pointer none] := by kernel_rfl
theorem ze_64 : zeroC Try.prog 64 = some [.int .i64 0, .int .i64 0, .int .i64 0, .int .i64 0, .slice none 0 0, .slice none 0 0, .slice none 0 0, .slice none 0 0, .slice none 0 0, .slice none 0 0, .slice none 0 0] := by kernel_rfl

theorem open_s {B w : World} {F : List Ent} {d1 : Int} (H : Own B F w) :
    Calls Try.prog 12 #[.int .i64 d1, .int .i64 ((4 : Nat) : Int)] w fun e w' => ∃ h gc ia pc na ca ga pa gs l, gs = grp (2 * (d1 % 4) + 1).toNat ∧ l.length = 4 ∧ (∀ (i : Nat) (h : i < l.length), Init gs ((i : Int) + 1) l[i].1) ∧ e = .returned (.tuple #[.pointer (some ⟨h, 0, none⟩), .bool true]) ∧ Own B (.cells h 64 [.int .i64 3, .int .i64 3, .int .i64 9, .int .i64 0, slv ga gs.length gc, slv (some ia) gs.length gs.length, slv pa 4 pc, slv none ([] : List GM).length 0, lsv none 0 0 0, slv (some na) 4 4, slv (some ca) 4 4] :: .row none 0 46 30 ([] : List GM).length (msgs ([] : List GM)) :: .row ga gc 3 1 gs.length (ints gs) :: .cells ia 121 ((List.replicate gs.length Inst.zero).flatMap Inst.cells) :: .row pa pc 29 1 4 (l.map (fun y => ptrV y.2.g)) :: .loose none 0 0 0 28 9 :: .cells na 3 (ints (List.replicate 4 0)) :: .cells ca 3 (ints (List.replicate 4 0)) :: (ch l ++ F)) w' := by
  refine calls_ce (args := [.int .i64 d1, .int .i64 ((4 : Nat) : Int)]) Try.func12 rfl rfl ?_
  change CE _ _ 66 _ _ [(0, .int .i64 d1), (1, .int .i64 ((4 : Nat) : Int))] _
  refine ce_seq ?_
  refine ce_text (tab := []) (soft := 3) (.op 0 (.op 1 .nil)) rfl rfl ?_
  refine re_assign rfl rfl rfl rfl rfl ?_
  refine re_assign rfl rfl rfl rfl rfl ?_
  refine re_nil ?_
  refine qe_thenC ?_
  refine ce_seq ?_
  refine ce_text (tab := []) (soft := 3) (.op 0 (.op 1 (.op 2 (.op 3 .nil)))) rfl rfl ?_
  refine re_build rfl rfl rfl rfl rfl ze_24 pl_24 (by simp only [fillL, setMany, Value.cells, List.getElem?_cons_zero, List.getElem?_cons_succ, List.length_cons, List.length_nil, List.set_cons_zero, List.set_cons_succ, Nat.reduceAdd, Nat.reduceLeDiff, Nat.zero_add, and_self, ↓reduceIte]; rfl) ?_
  refine re_build rfl rfl rfl rfl rfl ze_64 pl_64 (by simp only [fillL, setMany, Value.cells, List.getElem?_cons_zero, List.getElem?_cons_succ, List.length_cons, List.length_nil, List.set_cons_zero, List.set_cons_succ, Nat.reduceAdd, Nat.reduceLeDiff, Nat.zero_add, and_self, ↓reduceIte]; rfl) ?_
  refine re_alloc H rfl rfl rfl rfl ze_64 ?_
  intro g6 w H
  refine ⟨(fun h => (nomatch h)), ?_⟩
  refine re_store H rfl rfl rfl rfl rfl rfl sh_64 rfl rfl rfl ?_
  intro cs w hcs H
  first | rw [setMany_whole rfl] at hcs | simp only [setMany, List.set_cons_zero, List.set_cons_succ, Nat.reduceAdd, Nat.zero_add, PS.cells, PS.over, GM.cells, Cmd.cells, List.cons_append, List.nil_append] at hcs
  subst hcs
  refine ⟨(fun h => (nomatch h)), ?_⟩
  refine re_nil ?_
  refine qe_thenC ?_
  refine ce_seq ?_
  refine ce_text (tab := []) (soft := 29) (.op 0 (.op 1 (.op 2 (.op 3 (.op 4 .nil))))) rfl rfl ?_
  refine re_move rfl rfl rfl rfl rfl ?_
  refine re_call en_10 rfl rfl rfl rfl rfl ?_
  refine Calls.mono (round_b H (by decide)) ?_
  rintro e w ⟨rfl, H⟩
  obtain ⟨nn, hnn⟩ : ∃ nn : Nat, 2 * (d1 % 4) + 1 = (nn : Int) := ⟨(2 * (d1 % 4) + 1).toNat, by omega⟩
  have hnv : nn = 1 ∨ nn = 3 ∨ nn = 5 ∨ nn = 7 := by omega
  refine ⟨_, rfl, (fun h => (nomatch h)), ?_⟩
  first | refine re_mul rfl rfl rfl rfl rfl rfl (by omega) ?_ | refine re_bin rfl rfl rfl rfl rfl rfl rfl ?_
  first | refine re_add rfl rfl rfl rfl rfl rfl (by omega) ?_ | refine re_bin rfl rfl rfl rfl rfl rfl rfl ?_
  simp only [hnn]
  refine re_assign rfl rfl rfl rfl rfl ?_
  refine re_nil ?_
  refine qe_thenC ?_
  refine ce_seq ?_
  refine ce_seq ?_
  refine ce_text (tab := []) (soft := 1) (.op 0 .nil) rfl rfl ?_
  refine re_assign rfl rfl rfl rfl rfl ?_
  refine re_nil ?_
  refine qe_thenC ?_
  refine ce_block ?_
  refine ce_loop (α := Nat × (Option Nat) × Nat) (fun ⟨k, ga, gc⟩ => [(1, .int .i64 ((4 : Nat) : Int)), (6, .pointer (some ⟨g6, 0, none⟩)), (7, .int .i64 (nn : Int)), (8, .int .i64 (k : Int))]) (fun ⟨k, ga, gc⟩ w => Own B (.row ga gc 3 1 k (ints (grp k)) :: .cells g6 64 [.int .i64 3, .int .i64 3, .int .i64 9, .int .i64 0, slv ga k gc, .slice none 0 0, .slice none 0 0, .slice none 0 0, .slice none 0 0, .slice none 0 0, .slice none 0 0] :: F) w ∧ k ≤ nn) (fun ⟨k, ga, gc⟩ => nn - k) (0, none, 0) (And.intro rfl (And.intro rfl (And.intro rfl (And.intro rfl trivial)))) ⟨H.nil_row 3 1, Nat.zero_le _⟩ ?_
  rintro ⟨k, ga, gc⟩ w HW
  obtain ⟨H, hk⟩ := HW
  change CE _ _ _ _ _ [(1, .int .i64 ((4 : Nat) : Int)), (6, .pointer (some ⟨g6, 0, none⟩)), (7, .int .i64 (nn : Int)), (8, .int .i64 (k : Int))] _
  refine ce_seq ?_
  refine ce_seq ?_
  refine ce_text (tab := []) (soft := 7) (.op 0 (.op 1 (.op 2 .nil))) rfl rfl ?_
  refine re_move rfl rfl rfl rfl rfl ?_
  refine re_move rfl rfl rfl rfl rfl ?_
  refine re_bin rfl rfl rfl rfl rfl rfl rfl ?_
  refine re_nil ?_
  refine qe_thenC ?_
  refine ce_cond rfl (fun h0 => ?_) (fun h0 => ?_)
  · try simp only [zn1, zn2, zn3, zn4, zn5, zn6] at h0
    refine ce_skip ?_
    refine qe_thenC ?_
    refine ce_seq ?_
    refine ce_block ?_
    refine ce_text (tab := []) (soft := 2559) (.op 0 (.op 1 (.op 2 (.op 3 (.op 4 (.op 5 (.op 6 (.op 7 (.op 8 (.op 9 (.op 10 (.op 11 (.op 12 .nil))))))))))))) rfl rfl ?_
    have hm1 : 0 ≤ (3 * (k : Int)).tmod 7 ∧ (3 * (k : Int)).tmod 7 < 7 := ⟨Int.tmod_nonneg _ (by omega), Int.tmod_lt_of_pos _ (by omega)⟩
    first | refine re_field0 rfl rfl rfl rfl rfl fo_64_1 ?_ | refine re_field rfl rfl rfl rfl rfl fo_64_1 ?_ | refine re_fieldA rfl rfl rfl rfl rfl fo_64_1 ?_
    refine re_load H rfl rfl rfl rfl rfl sh_31 rfl ?_
    refine re_move rfl rfl rfl rfl rfl ?_
    first | refine re_mul rfl rfl rfl rfl rfl rfl (by omega) ?_ | refine re_bin rfl rfl rfl rfl rfl rfl rfl ?_
    refine re_rem rfl rfl rfl rfl rfl rfl (by omega) ?_
    first | refine re_add rfl rfl rfl rfl rfl rfl (by omega) ?_ | refine re_bin rfl rfl rfl rfl rfl rfl rfl ?_
    refine re_move rfl rfl rfl rfl rfl ?_
    first | refine re_mul rfl rfl rfl rfl rfl rfl (by omega) ?_ | refine re_bin rfl rfl rfl rfl rfl rfl rfl ?_
    first | refine re_add rfl rfl rfl rfl rfl rfl (by omega) ?_ | refine re_bin rfl rfl rfl rfl rfl rfl rfl ?_
    refine re_slice1 H rfl rfl rfl rfl rfl rfl ul_31 ei_31 ze_3 rfl rfl rfl (by decide) ?_
    intro g31 w H
    refine ⟨(fun h => (nomatch h)), ?_⟩
    refine re_append H rfl rfl rfl rfl rfl rfl ul_31 ei_31 ze_3 rfl (by decide) (src_cells H rfl) rfl (by omega) (by simp only [maxLen]; omega) ?_
    intro a' c' w H _
    simp only [List.set_cons_zero, List.set_cons_succ] at H
    refine ⟨(fun h => (nomatch h)), ?_⟩
    first | refine re_field0 rfl rfl rfl rfl rfl fo_64_1 ?_ | refine re_field rfl rfl rfl rfl rfl fo_64_1 ?_ | refine re_fieldA rfl rfl rfl rfl rfl fo_64_1 ?_
    refine re_store H rfl rfl rfl rfl rfl rfl sh_31 rfl rfl rfl ?_
    intro cs w hcs H
    first | rw [setMany_whole rfl] at hcs | simp only [setMany, List.set_cons_zero, List.set_cons_succ, Nat.reduceAdd, Nat.zero_add, PS.cells, PS.over, GM.cells, Cmd.cells, List.cons_append, List.nil_append] at hcs
    subst hcs
    refine ⟨(fun h => (nomatch h)), ?_⟩
    refine re_nil ?_
    refine qe_block_norm ?_
    refine qe_thenC ?_
    refine ce_text (tab := []) (soft := 7) (.op 0 (.op 1 (.op 2 .nil))) rfl rfl ?_
    refine re_move rfl rfl rfl rfl rfl ?_
    first | refine re_add rfl rfl rfl rfl rfl rfl (by omega) ?_ | refine re_bin rfl rfl rfl rfl rfl rfl rfl ?_
    refine re_assign rfl rfl rfl rfl rfl ?_
    refine re_nil ?_
    refine qe_round (x := (k, ga, gc)) (k + 1, a', c') ?_ ?_ ?_
    · first | (dsimp only; omega) | omega
    · exact (And.intro rfl (And.intro rfl (And.intro rfl (And.intro rfl trivial))))
    ·
      refine ⟨?_, by omega⟩
      rw [grp_succ, show ints (grp k ++ [gid k]) = ints (grp k) ++ [.int .i64 (gid k)] from List.map_append ..]
      exact H.tail
  · try simp only [zn1, zn2, zn3, zn4, zn5, zn6] at h0
    refine ce_exit ?_
    refine qe_then_exit ?_
    refine qe_then_exit ?_
    refine qe_block_exit ?_
    refine qe_thenC ?_
    refine ce_seq ?_
    refine ce_text (tab := []) (soft := 5) (.op 0 (.op 1 (.op 2 (.op 3 .nil)))) rfl rfl ?_
    obtain rfl : k = nn := by omega
    refine re_move rfl rfl rfl rfl rfl ?_
    refine re_makeSliceC H rfl rfl rfl rfl rfl rfl ul_60 ei_60 ze_121 rfl (by decide) (by first | omega | decide) (by first | (simp only [maxLen]; omega) | decide) ?_
    intro g35 w H
    refine ⟨(fun h => (nomatch h)), ?_⟩
    first | refine re_field0 rfl rfl rfl rfl rfl fo_64_2 ?_ | refine re_field rfl rfl rfl rfl rfl fo_64_2 ?_ | refine re_fieldA rfl rfl rfl rfl rfl fo_64_2 ?_
    refine re_store H rfl rfl rfl rfl rfl rfl sh_60 rfl rfl rfl ?_
    intro cs w hcs H
    first | rw [setMany_whole rfl] at hcs | simp only [setMany, List.set_cons_zero, List.set_cons_succ, Nat.reduceAdd, Nat.zero_add, PS.cells, PS.over, GM.cells, Cmd.cells, List.cons_append, List.nil_append] at hcs
    subst hcs
    refine ⟨(fun h => (nomatch h)), ?_⟩
    refine re_nil ?_
    refine qe_thenC ?_
    refine ce_seq ?_
    refine ce_seq ?_
    refine ce_text (tab := []) (soft := 1) (.op 0 .nil) rfl rfl ?_
    rw [rep_inst] at H
    have hun := grp_un hnv
    obtain ⟨gs, hgs⟩ : ∃ gs, gs = grp k := ⟨_, rfl⟩
    have hgk : (2 * (d1 % 4) + 1).toNat = k := by omega
    rw [← hgk] at hgs
    have hgs' := hgs
    rw [hgk] at hgs'
    rw [← hgs'] at H hun
    have hl : k = gs.length := by rw [hgs', grp_len]
    have hk7 : gs.length ≤ 7 := by omega
    subst hl
    refine re_assign rfl rfl rfl rfl rfl ?_
    refine re_nil ?_
    refine qe_thenC ?_
    refine ce_block ?_
    replace H := H.nil_row 29 1
    have H := Own.arr [1, 2, 2, 3] H
    simp only [arrs, Fw.front, zm1, zm2, zm3, zm4, zm5] at H
    refine ce_loop (α := Nat × (Option Nat) × Nat × (List XA)) (fun ⟨k, pa, pc, l⟩ => [(1, .int .i64 ((4 : Nat) : Int)), (6, .pointer (some ⟨g6, 0, none⟩)), (9, .int .i64 (k : Int))]) (fun ⟨k, pa, pc, l⟩ w => Own B (.cells g6 64 [.int .i64 3, .int .i64 3, .int .i64 9, .int .i64 0, slv ga gs.length gc, slv (some g35) gs.length gs.length, slv pa k pc, .slice none 0 0, .slice none 0 0, .slice none 0 0, .slice none 0 0] :: .row pa pc 29 1 k (l.map (fun y => ptrV y.2.g)) :: .row ga gc 3 1 gs.length (ints gs) :: .cells g35 121 ((List.replicate gs.length Inst.zero).flatMap Inst.cells) :: (ch l ++ F)) w ∧ k ≤ 4 ∧ l.length = k ∧ ∀ i (h : i < l.length), Init gs ((i : Int) + 1) l[i].1) (fun ⟨k, pa, pc, l⟩ => 4 - k) (0, none, 0, []) (And.intro rfl (And.intro rfl (And.intro rfl trivial))) ⟨H, Nat.zero_le _, rfl, fun i h => by simp at h⟩ ?_
    rintro ⟨k, pa, pc, l⟩ w HW
    obtain ⟨H, hk, hll, hin⟩ := HW
    change CE _ _ _ _ _ [(1, .int .i64 ((4 : Nat) : Int)), (6, .pointer (some ⟨g6, 0, none⟩)), (9, .int .i64 (k : Int))] _
    refine ce_seq ?_
    refine ce_seq ?_
    refine ce_text (tab := []) (soft := 7) (.op 0 (.op 1 (.op 2 .nil))) rfl rfl ?_
    refine re_move rfl rfl rfl rfl rfl ?_
    refine re_move rfl rfl rfl rfl rfl ?_
    refine re_bin rfl rfl rfl rfl rfl rfl rfl ?_
    refine re_nil ?_
    refine qe_thenC ?_
    refine ce_cond rfl (fun h1 => ?_) (fun h1 => ?_)
    · try simp only [zn1, zn2, zn3, zn4, zn5, zn6] at h1
      refine ce_skip ?_
      refine qe_thenC ?_
      refine ce_seq ?_
      refine ce_block ?_
      refine ce_seq ?_
      refine ce_open (tab := [0, 1, 0, 4, 0, 16, 0, 64, 192, 511, 1023]) (soft := 1279) mixed (.op 0 (.op 1 (.op 2 (.op 3 (.op 4 (.op 5 (.op 6 (.op 7 (.op 8 (.op 9 (.op 10 .nil))))))))))) (by kernel_rfl) H ?_
      intro w H
      refine re_move rfl rfl rfl rfl rfl ?_
      first | refine re_add rfl rfl rfl rfl rfl rfl (by omega) ?_ | refine re_bin rfl rfl rfl rfl rfl rfl rfl ?_
      first | refine re_field0 rfl rfl rfl rfl rfl fo_64_0 ?_ | refine re_field rfl rfl rfl rfl rfl fo_64_0 ?_ | refine re_fieldA rfl rfl rfl rfl rfl fo_64_0 ?_
      refine re_load H rfl rfl rfl rfl rfl sh_24 (by first | exact rdAt_all rfl | (simp only [rdAt, PS.cells, PS.over, GM.cells, Cmd.cells, List.cons_append, List.nil_append, List.drop_succ_cons, List.drop_zero, List.take_succ_cons, List.take_zero, List.length_cons, List.length_nil, Nat.zero_add, Nat.reduceAdd, Nat.reduceLeDiff, Nat.le_refl, ↓reduceIte] <;> rfl)) ?_
      first | refine re_field0 rfl rfl rfl rfl rfl fo_64_1 ?_ | refine re_field rfl rfl rfl rfl rfl fo_64_1 ?_ | refine re_fieldA rfl rfl rfl rfl rfl fo_64_1 ?_
      refine re_load H rfl rfl rfl rfl rfl sh_31 rfl ?_
      refine re_move rfl rfl rfl rfl rfl ?_
      first | refine re_add rfl rfl rfl rfl rfl rfl (by omega) ?_ | refine re_bin rfl rfl rfl rfl rfl rfl rfl ?_
      refine re_call en_37 rfl rfl rfl rfl rfl ?_
      refine Calls.mono (command_s H (by omega)) ?_
      rintro e w ⟨nm, rfl, H⟩
      refine ⟨_, rfl, (fun _ => ⟨fun _ => still_load H sh_31 rfl, fun _ => still_load H sh_24 (by first | exact rdAt_all rfl | (simp only [rdAt, PS.cells, PS.over, GM.cells, Cmd.cells, List.cons_append, List.nil_append, List.drop_succ_cons, List.drop_zero, List.take_succ_cons, List.take_zero, List.length_cons, List.length_nil, Nat.zero_add, Nat.reduceAdd, Nat.reduceLeDiff, Nat.le_refl, ↓reduceIte] <;> rfl)), trivial⟩), ?_⟩
      refine re_call en_6 rfl rfl rfl rfl rfl ?_
      refine Calls.mono (new_s (mine := Cmd.mk 3 ((k : Int) + 1) 1 nm 0 0 0 0 0) (xs := gs) H (H.rsees ga) (by omega)) ?_
      rintro e w ⟨gp, xa, xc, rfl, H⟩
      rw [hun] at H
      refine ⟨_, rfl, (fun _ => ⟨ancs (i := 9) (j := 5) rfl, ancs (i := 9) (j := 3) rfl, trivial⟩), ?_⟩
      refine re_assign rfl rfl rfl rfl rfl ?_
      refine re_nil ?_
      refine qe_noPanic ?_
      refine qe_thenC ?_
      refine ce_seq ?_
      refine ce_seq ?_
      refine ce_text (tab := []) (soft := 3) (.op 0 (.op 1 .nil)) rfl rfl ?_
      refine re_move rfl rfl rfl rfl rfl ?_
      refine re_binW rfl rfl rfl rfl rfl rfl (run_ptrNil ul_29 (.inl ⟨rfl, rfl⟩)) ?_
      refine re_nil ?_
      refine qe_thenC ?_
      refine ce_condF rfl ?_
      refine ce_skip ?_
      refine qe_thenC ?_
      refine ce_text (tab := []) (soft := 39) (.op 0 (.op 1 (.op 2 (.op 3 (.op 4 (.op 5 (.op 6 .nil))))))) rfl rfl ?_
      first | refine re_field0 rfl rfl rfl rfl rfl fo_64_3 ?_ | refine re_field rfl rfl rfl rfl rfl fo_64_3 ?_ | refine re_fieldA rfl rfl rfl rfl rfl fo_64_3 ?_
      refine re_load H rfl rfl rfl rfl rfl sh_61 rfl ?_
      refine re_move rfl rfl rfl rfl rfl ?_
      refine re_slice1 H rfl rfl rfl rfl rfl rfl ul_61 ei_61 ze_29 rfl rfl rfl (by decide) ?_
      intro g57 w H
      refine ⟨(fun h => (nomatch h)), ?_⟩
      refine re_append H rfl rfl rfl rfl rfl rfl ul_61 ei_61 ze_29 rfl (by decide) (src_cells H rfl) rfl (by omega) (by simp only [maxLen]; omega) ?_
      intro a' c' w H _
      simp only [List.set_cons_zero, List.set_cons_succ] at H
      refine ⟨(fun h => (nomatch h)), ?_⟩
      first | refine re_field0 rfl rfl rfl rfl rfl fo_64_3 ?_ | refine re_field rfl rfl rfl rfl rfl fo_64_3 ?_ | refine re_fieldA rfl rfl rfl rfl rfl fo_64_3 ?_
      refine re_store H rfl rfl rfl rfl rfl rfl sh_61 rfl rfl rfl ?_
      intro cs w hcs H
      first | rw [setMany_whole rfl] at hcs | simp only [setMany, List.set_cons_zero, List.set_cons_succ, Nat.reduceAdd, Nat.zero_add, PS.cells, PS.over, GM.cells, Cmd.cells, List.cons_append, List.nil_append] at hcs
      subst hcs
      refine ⟨(fun h => (nomatch h)), ?_⟩
      refine re_nil ?_
      refine qe_block_norm ?_
      refine qe_thenC ?_
      refine ce_text (tab := []) (soft := 7) (.op 0 (.op 1 (.op 2 .nil))) rfl rfl ?_
      refine re_move rfl rfl rfl rfl rfl ?_
      first | refine re_add rfl rfl rfl rfl rfl rfl (by omega) ?_ | refine re_bin rfl rfl rfl rfl rfl rfl rfl ?_
      refine re_assign rfl rfl rfl rfl rfl ?_
      refine re_nil ?_
      refine qe_round (x := (k, pa, pc, l)) (k + 1, a', c', l ++ [(⟨newP gs ((k : Int) + 1) nm, .idle, [], []⟩, ⟨gp, xa, xc, 0, none, 0, 0, 0, none, 0, 0, 0, .pointer none⟩)]) ?_ ?_ ?_
      · first | (dsimp only; omega) | omega
      · exact (And.intro rfl (And.intro rfl (And.intro rfl trivial)))
      ·
        refine ⟨?_, by omega, by simp [hll], fun i h => ?_⟩
        · have H2 := push_chunk (A := [_, _, _, _]) (y := (⟨newP gs ((k : Int) + 1) nm, .idle, [], []⟩, ⟨gp, xa, xc, 0, none, 0, 0, 0, none, 0, 0, 0, .pointer none⟩)) H.tail
          simp only [List.map_append, List.map_cons, List.map_nil]
          exact H2
        · rcases Nat.lt_or_ge i l.length with h1 | h1
          · rw [List.getElem_append_left h1]; exact hin i h1
          · have : i = l.length := by simp at h; omega
            subst this
            rw [List.getElem_append_right (Nat.le_refl _)]
            simp only [Nat.sub_self, List.getElem_cons_zero]
            exact ⟨nm, by rw [hll]⟩
    · try simp only [zn1, zn2, zn3, zn4, zn5, zn6] at h1
      refine ce_exit ?_
      refine qe_then_exit ?_
      refine qe_then_exit ?_
      refine qe_block_exit ?_
      refine qe_thenC ?_
      refine ce_seq ?_
      refine ce_text (tab := []) (soft := 5) (.op 0 (.op 1 (.op 2 (.op 3 .nil)))) rfl rfl ?_
      refine re_move rfl rfl rfl rfl rfl ?_
      refine re_makeSliceC H rfl rfl rfl rfl rfl rfl ul_31 ei_31 ze_3 rfl (by decide) (by first | omega | decide) (by first | (simp only [maxLen]; omega) | decide) ?_
      intro g61 w H
      refine ⟨(fun h => (nomatch h)), ?_⟩
      first | refine re_field0 rfl rfl rfl rfl rfl fo_64_6 ?_ | refine re_field rfl rfl rfl rfl rfl fo_64_6 ?_ | refine re_fieldA rfl rfl rfl rfl rfl fo_64_6 ?_
      refine re_store H rfl rfl rfl rfl rfl rfl sh_31 rfl rfl rfl ?_
      intro cs w hcs H
      first | rw [setMany_whole rfl] at hcs | simp only [setMany, List.set_cons_zero, List.set_cons_succ, Nat.reduceAdd, Nat.zero_add, PS.cells, PS.over, GM.cells, Cmd.cells, List.cons_append, List.nil_append] at hcs
      subst hcs
      refine ⟨(fun h => (nomatch h)), ?_⟩
      refine re_nil ?_
      refine qe_thenC ?_
      refine ce_seq ?_
      refine ce_text (tab := []) (soft := 5) (.op 0 (.op 1 (.op 2 (.op 3 .nil)))) rfl rfl ?_
      refine re_move rfl rfl rfl rfl rfl ?_
      refine re_makeSliceC H rfl rfl rfl rfl rfl rfl ul_31 ei_31 ze_3 rfl (by decide) (by first | omega | decide) (by first | (simp only [maxLen]; omega) | decide) ?_
      intro g64 w H
      refine ⟨(fun h => (nomatch h)), ?_⟩
      first | refine re_field0 rfl rfl rfl rfl rfl fo_64_7 ?_ | refine re_field rfl rfl rfl rfl rfl fo_64_7 ?_ | refine re_fieldA rfl rfl rfl rfl rfl fo_64_7 ?_
      refine re_store H rfl rfl rfl rfl rfl rfl sh_31 rfl rfl rfl ?_
      intro cs w hcs H
      first | rw [setMany_whole rfl] at hcs | simp only [setMany, List.set_cons_zero, List.set_cons_succ, Nat.reduceAdd, Nat.zero_add, PS.cells, PS.over, GM.cells, Cmd.cells, List.cons_append, List.nil_append] at hcs
      subst hcs
      refine ⟨(fun h => (nomatch h)), ?_⟩
      refine re_nil ?_
      refine qe_thenC ?_
      refine ce_seq ?_
      refine ce_text (tab := []) (soft := 3) (.op 0 (.op 1 .nil)) rfl rfl ?_
      obtain rfl : k = 4 := by omega
      rw [rep_ints] at H
      replace H := (H.nil_row 46 30).nil_loose 28 9
      have H := Own.arr [2, 3, 2, 5, 7, 7, 6, 7] H
      simp only [arrs, Fw.front, zm1, zm2, zm3, zm4, zm5] at H
      refine re_assign rfl rfl rfl rfl rfl ?_
      refine re_assign rfl rfl rfl rfl rfl ?_
      refine re_nil ?_
      refine qe_thenC ?_
      refine ce_ret ?_
      refine qe_end2 rfl rfl rfl ?_
      exact ⟨_, _, _, _, _, _, _, _, gs, l, by rw [Int.toNat_natCast]; exact hgs', hll, hin, rfl, H⟩
end Go.Proofs.Ytofaoblfemfkiaa

namespace Go.Proofs.Ytofaoblfemfkiaa
open Go Go.RowKit Go.Fw
set_option linter.unusedSimpArgs false
set_option linter.unusedVariables false
set_option maxRecDepth 4000
set_option maxHeartbeats 2000000


/-! ### The plain law: what holds of a proposer -/
theorem kvGet_heard (hs : List Int) (x : Int) : (kvGet (heardK hs) x).isNone = !decide (x ∈ hs) := by
  induction hs with
  | nil => rfl
  | cons y r ih =>
    simp only [heardK, List.map_cons, kvGet] at ih ⊢
    by_cases h : x = y
    · simp [h]
    · simp only [h, if_false, ih, List.mem_cons, false_or]
theorem fresh_iff (p : PS) (hs : List Int) (v : Int) : p.fresh hs v = true ↔ v ∈ p.gs ∧ v ∉ hs := by
  simp only [PS.fresh, missing, List.mem_filter, kvGet_heard]
  simp
def X.keys (x : X) : List Int := x.ms.map (fun y => y.1)
def X.live (x : X) : Prop := match x.st with | .prep => True | .acc _ => True | _ => False
structure XI (gs : List Int) (N c : Int) (x : X) : Prop where
  gse : x.p.gs = gs
  cle : x.p.cl = c
  b1 : 1 ≤ x.p.bal
  bN : x.p.bal ≤ N
  nN : x.p.nt ≤ N
  r1 : 1 ≤ x.p.rnd
  rN : x.p.rnd ≤ N
  nd : x.hs.Nodup
  sub : ∀ v ∈ x.hs, v ∈ gs
  kn : x.keys.Nodup
  ksub : ∀ v ∈ x.keys, v ∈ x.hs
  few : x.live → (x.ms.length : Int) < (gs.length : Int) / 2 + 1
  quiet : x.live → x.p.rf = false → ∀ v ∈ x.hs, v ∈ x.keys
  nworn : x.st ≠ .over none
theorem nodup_len : ∀ {a b : List Int}, a.Nodup → (∀ v ∈ a, v ∈ b) → a.length ≤ b.length
  | [], _, _, _ => by simp
  | v :: a, b, h, hs => by
    have hv := hs v (List.mem_cons_self ..)
    have hn := List.nodup_cons.1 h
    have := nodup_len (a := a) (b := b.erase v) hn.2 (fun u hu => (List.mem_erase_of_ne (fun e => hn.1 (by rw [← e]; exact hu))).2 (hs u (List.mem_cons_of_mem _ hu)))
    rw [List.length_erase_of_mem hv] at this
    have hp : 0 < b.length := List.length_pos_of_mem hv
    simp only [List.length_cons]
    omega
theorem XI.ok {gs : List Int} {N c : Int} {x : X} (h : XI gs N c x) (hu : unlike gs = gs) (hl : gs.length ≤ 1000) : x.ok :=
  ⟨by rw [h.gse]; exact hu, by rw [h.gse]; exact hl, by rw [h.gse]; exact nodup_len h.nd h.sub, h.b1, h.r1⟩
theorem kvGet_none : ∀ (ms : List (Int × GM)) (v : Int), v ∉ ms.map (fun y => y.1) → (kvGet (kvM ms) v).isNone = true
  | [], _, _ => rfl
  | (j, m) :: r, v, h => by
    simp only [List.map_cons, List.mem_cons, not_or] at h
    simp only [kvM, List.map_cons, kvGet, h.1, if_false]
    exact kvGet_none r v h.2
/-- An answer that is new. -/
theorem XI.counts {gs : List Int} {N c : Int} {x : X} (h : XI gs N c x) (hl : x.live) {v : Int} (hv : v ∈ gs) (hn : v ∉ x.hs) : x.p.counts x.ms v = true := by
  have h1 := kvGet_none x.ms v (fun hk => hn (h.ksub v hk))
  have h2 := h.few hl
  have hk : (kvM x.ms).length = x.ms.length := by simp [kvM]
  simp only [PS.counts, Ytofaoblfemfkiaa.counts, h.gse, h1, hk]
  simp [hv, h2]
theorem XI.took {gs : List Int} {N c : Int} {x : X} (h : XI gs N c x) (hl : x.live) {v : Int} (hv : v ∈ gs) (hn : v ∉ x.hs) (m : GM) : x.p.took x.ms v m = x.ms ++ [(v, m)] := by
  rw [PS.took, if_pos (h.counts hl hv hn)]
theorem XI.takes {gs : List Int} {N c : Int} {x : X} (h : XI gs N c x) (hl : x.live) {v : Int} (hv : v ∈ gs) (hn : v ∉ x.hs) (m : GM) : x.p.takes x.ms v m = decide ((gs.length : Int) / 2 + 1 ≤ (x.ms.length : Int) + 1) := by
  have hc := h.counts hl hv hn
  have ht := took_eq x.p x.ms v m
  rw [PS.takes, Ytofaoblfemfkiaa.takes, ht, h.took hl hv hn]
  simp only [PS.counts] at hc
  rw [hc]
  simp [kvM, h.gse]
theorem XI.up {gs : List Int} {N M c : Int} {x : X} (h : XI gs N c x) (hm : N ≤ M) : XI gs M c x :=
  ⟨h.gse, h.cle, h.b1, by have := h.bN; omega, by have := h.nN; omega, h.r1, by have := h.rN; omega, h.nd, h.sub, h.kn, h.ksub, h.few, h.quiet, h.nworn⟩
theorem nodup_snoc {a : List Int} {v : Int} (h : a.Nodup) (hn : v ∉ a) : (a ++ [v]).Nodup := by
  rw [List.nodup_append]
  exact ⟨h, by simp, fun x hx y hy => by simp at hy; rw [hy]; intro e; exact hn (e ▸ hx)⟩
/-- A refusal noted. -/
theorem XI.nacked {gs : List Int} {N c : Int} {x : X} (h : XI gs N c x) {m : GM} (hs : m.s0 ≤ N) (hv : m.fi ∈ gs) (hn : m.fi ∉ x.hs) : XI gs N c ⟨x.p.nack m.s0, x.st, x.hs ++ [m.fi], x.ms⟩ :=
  ⟨h.gse, h.cle, h.b1, h.bN, by show max x.p.nt m.s0 ≤ N; have := h.nN; omega, h.r1, h.rN, nodup_snoc h.nd hn, (fun v hv' => by
    rcases List.mem_append.1 hv' with h1 | h1
    · exact h.sub v h1
    · simp at h1; rw [h1]; exact hv), h.kn, (fun v hv' => List.mem_append_left _ (h.ksub v hv')), h.few, (fun _ hr => by cases hr), h.nworn⟩
/-- An answer counted, too few yet. -/
theorem XI.counted {gs : List Int} {N c : Int} {x : X} (h : XI gs N c x) {m : GM} (hv : m.fi ∈ gs) (hn : m.fi ∉ x.hs) (hf : (x.ms.length : Int) + 1 < (gs.length : Int) / 2 + 1) : XI gs N c ⟨x.p, x.st, x.hs ++ [m.fi], x.ms ++ [(m.fi, m)]⟩ := by
  refine ⟨h.gse, h.cle, h.b1, h.bN, h.nN, h.r1, h.rN, nodup_snoc h.nd hn, fun v hv' => ?_, ?_, fun v hv' => ?_, fun _ => ?_, fun hl hr v hv' => ?_, h.nworn⟩
  · rcases List.mem_append.1 hv' with h1 | h1
    · exact h.sub v h1
    · simp at h1; rw [h1]; exact hv
  · show ((x.ms ++ [(m.fi, m)]).map (fun y => y.1)).Nodup
    rw [List.map_append]
    exact nodup_snoc h.kn (fun hk => hn (h.ksub _ hk))
  · have hv2 : v ∈ (x.ms ++ [(m.fi, m)]).map (fun y => y.1) := hv'
    rw [List.map_append] at hv2
    rcases List.mem_append.1 hv2 with h1 | h1
    · exact List.mem_append_left _ (h.ksub v h1)
    · simp at h1; rw [h1]; simp
  · show ((x.ms ++ [(m.fi, m)]).length : Int) < _
    simp; omega
  · show v ∈ (x.ms ++ [(m.fi, m)]).map (fun y => y.1)
    rw [List.map_append]
    rcases List.mem_append.1 hv' with h1 | h1
    · exact List.mem_append_left _ (h.quiet hl hr v h1)
    · simp at h1; rw [h1]; simp
theorem XI.fresh_ {gs : List Int} {N c : Int} {p : PS} {st : PP} (g : p.gs = gs) (cl : p.cl = c) (b1 : 1 ≤ p.bal) (bN : p.bal ≤ N) (nN : p.nt ≤ N) (r1 : 1 ≤ p.rnd) (rN : p.rnd ≤ N) (nw : st ≠ .over none) : XI gs N c ⟨p, st, [], []⟩ :=
  ⟨g, cl, b1, bN, nN, r1, rN, by simp, (fun _ h => by cases h), by simp [X.keys], (fun _ h => by cases h), (fun _ => by simp only [List.length_nil]; omega), (fun _ _ _ h => by cases h), nw⟩
theorem XI.over_ {gs : List Int} {N c : Int} {x : X} (h : XI gs N c x) (cm : Cmd) : XI gs N c ⟨x.p, .over (some cm), x.hs, x.ms⟩ :=
  ⟨h.gse, h.cle, h.b1, h.bN, h.nN, h.r1, h.rN, h.nd, h.sub, h.kn, h.ksub, fun hl => hl.elim, fun hl => hl.elim, fun e => by cases e⟩
theorem XI.nack_ {gs : List Int} {N c : Int} {x : X} (h : XI gs N c x) {m : GM} (hs : m.s0 ≤ N) : XI gs N c (x.nack m).1 := by
  unfold X.nack
  split
  · rename_i hf
    obtain ⟨h1, h2⟩ := (fresh_iff _ _ _).1 hf
    exact h.nacked hs (by rw [← h.gse]; exact h1) h2
  · exact h
theorem XI.take_ {gs : List Int} {N c : Int} {x : X} (h : XI gs N c x) (hN : N < 1099511627776) {m : GM} (hs : m.s0 ≤ N) : XI gs (N + 1) c (x.take m).1 := by
  have up := h.up (show N ≤ N + 1 by omega)
  have hrN := h.rN
  have hbN := h.bN
  have hnN := h.nN
  have hr1 := h.r1
  unfold X.take
  split
  · rename_i hst
    have hl : x.live := by unfold X.live; rw [hst]; trivial
    split
    · split
      · exact up.over_ _
      · split
        · exact up.nack_ (by omega)
        · unfold X.countP
          split
          · rename_i hc
            obtain ⟨_, _, hf⟩ := hc
            obtain ⟨h1, h2⟩ := (fresh_iff _ _ _).1 hf
            rw [h.gse] at h1
            rw [h.takes hl h1 h2, h.took hl h1 h2]
            split
            · rw [if_neg (by omega)]
              exact XI.fresh_ h.gse h.cle h.b1 (by show x.p.bal ≤ _; omega) (by show x.p.nt ≤ _; omega) (by show 1 ≤ x.p.rnd + 1; omega) (by show x.p.rnd + 1 ≤ _; omega) (fun e => by cases e)
            · rename_i hq
              exact up.counted h1 h2 (by simp at hq; omega)
          · exact up
    · exact up
  · rename_i c' hst
    have hl : x.live := by unfold X.live; rw [hst]; trivial
    split
    · split
      · exact up.over_ _
      · split
        · exact up.nack_ (by omega)
        · unfold X.countA
          split
          · rename_i hc
            obtain ⟨_, _, hf⟩ := hc
            obtain ⟨h1, h2⟩ := (fresh_iff _ _ _).1 hf
            rw [h.gse] at h1
            rw [h.takes hl h1 h2, h.took hl h1 h2]
            split
            · exact up.over_ _
            · rename_i hq
              exact up.counted h1 h2 (by simp at hq; omega)
          · exact up
    · exact up
  · exact up
theorem XI.again_ {gs : List Int} {N c : Int} {x : X} (h : XI gs N c x) (hN : N < 1099511627776) : x.again = (⟨{ x.p.raise with rf := false }, .prep, [], []⟩, x.p.raise.outP x.p.gs) := by
  have h1 := h.bN
  have h2 := h.nN
  have h3 := h.rN
  unfold X.again
  rw [if_neg (by unfold X.tired; omega)]
theorem XI.raised {gs : List Int} {N c : Int} {x : X} (h : XI gs N c x) : XI gs (N + 1) c ⟨{ x.p.raise with rf := false }, .prep, [], []⟩ := by
  have h1 := h.bN
  have h2 := h.nN
  have h3 := h.rN
  have h4 := h.r1
  have h5 := h.b1
  exact XI.fresh_ h.gse h.cle (by show 1 ≤ max x.p.bal x.p.nt + 1; omega) (by show max x.p.bal x.p.nt + 1 ≤ _; omega) (by show x.p.nt ≤ _; omega) (by show 1 ≤ x.p.rnd + 1; omega) (by show x.p.rnd + 1 ≤ _; omega) (fun e => by cases e)
theorem XI.tick_ {gs : List Int} {N c : Int} {x : X} (h : XI gs N c x) (hN : N < 1099511627776) : XI gs (N + 1) c x.tick.1 := by
  have up := h.up (show N ≤ N + 1 by omega)
  unfold X.tick
  split
  · split
    · rw [h.again_ hN]; exact h.raised
    · exact up
  · split
    · rw [h.again_ hN]; exact h.raised
    · exact up
  · exact up
theorem XI.near {gs : List Int} {N c : Int} {x : X} (h : XI gs N c x) (hN : N < 1099511627776) : ¬ x.far := by
  have h1 := h.bN
  have h3 := h.rN
  have h4 := h.r1
  have h5 := h.b1
  unfold X.far
  omega
theorem XI.begin_ {gs : List Int} {N c : Int} {x : X} (h : XI gs N c x) (hN : N < 1099511627776) : XI gs N c x.begin.1 := by
  unfold X.begin
  split
  · rw [if_neg (h.near hN)]
    exact XI.fresh_ h.gse h.cle h.b1 h.bN h.nN h.r1 h.rN (fun e => by cases e)
  · exact h
end Go.Proofs.Ytofaoblfemfkiaa

namespace Go.Proofs.Ytofaoblfemfkiaa
open Go Go.RowKit Go.Fw
set_option linter.unusedSimpArgs false
set_option linter.unusedVariables false
set_option maxRecDepth 4000
set_option maxHeartbeats 2000000


structure GoodM (N : Int) (m : GM) : Prop where
  ti : 0 ≤ m.ti ∧ m.ti ≤ 1000000
  kc : m.tc = true → m.kind = 16 ∨ m.kind = 14 ∨ (m.kind = 13 ∨ m.kind = 15)
  ks : m.tc = false → m.kind = 3 ∨ m.kind = 4 ∨ m.kind = 5
  fr : m.tc = false → m.fc = true ∧ 0 ≤ m.fi ∧ m.fi ≤ 1000000
  s0 : m.s0 ≤ N
theorem GoodM.up {N M : Int} {m : GM} (h : GoodM N m) (hm : N ≤ M) : GoodM M m := ⟨h.ti, h.kc, h.ks, h.fr, by have := h.s0; omega⟩
structure HInv (gs : List Int) (K N : Int) (W : Nat) (s : HP) : Prop where
  gse : s.gs = gs
  il : s.ins.length = gs.length
  nl : s.nkd.length = s.xs.length
  nl2 : s.nks.length = s.xs.length
  nk : ∀ x ∈ s.nks, 0 ≤ x ∧ x ≤ K
  wl : s.way.length ≤ W
  xl : s.xs.length ≤ 1000
  xs : ∀ (i : Nat) (h : i < s.xs.length), XI gs N ((i : Int) + 1) s.xs[i]
  ins : ∀ i ∈ s.ins, i.p0 ≤ N
  wm : ∀ m ∈ s.way, GoodM N m
  rfk : ∀ (i : Nat) (h : i < s.xs.length) (h' : i < s.nkd.length), s.xs[i].live → s.xs[i].p.rf = true → s.nkd[i] = s.xs[i].p.rnd
structure Grp (gs : List Int) : Prop where
  un : unlike gs = gs
  nd : gs.Nodup
  len : gs.length ≤ 1000
  pos : 0 < gs.length
  bd : ∀ v ∈ gs, 0 ≤ v ∧ v ≤ 1000
theorem HInv.up {gs : List Int} {K K' N N' : Int} {W W' : Nat} {s : HP} (h : HInv gs K N W s) (hK : K ≤ K') (hN : N ≤ N') (hW : W ≤ W') : HInv gs K' N' W' s :=
  ⟨h.gse, h.il, h.nl, h.nl2, fun x hx => by have := h.nk x hx; omega, by have := h.wl; omega, h.xl, fun i hi => (h.xs i hi).up hN, fun i hi => by have := h.ins i hi; omega, fun m hm => (h.wm m hm).up hN, h.rfk⟩
theorem HInv.pre {gs : List Int} {K N : Int} {W : Nat} {s : HP} (h : HInv gs K N W s) (g : Grp gs) (hK : K ≤ 1000000000) (hW : W ≤ 10000000) {m : GM} (hm : GoodM N m) : Pre s m :=
  ⟨by rw [h.gse]; exact h.il, h.nl, h.nl2, fun x hx => by have := h.nk x hx; omega, by have := h.wl; omega, fun x hx => by
    obtain ⟨i, hi, rfl⟩ := List.mem_iff_getElem.1 hx
    exact (h.xs i hi).ok g.un g.len, hm.ti, hm.kc, hm.ks⟩
theorem mem_sendW {m : GM} : ∀ {l way : List GM}, m ∈ sendW way l → m ∈ way ∨ m ∈ l
  | [], way, h => .inl h
  | a :: l, way, h => by
    have h2 : m ∈ sendW (if way.length < 4000 then way ++ [a] else way) l := h
    rcases mem_sendW h2 with h3 | h3
    · split at h3
      · rcases List.mem_append.1 h3 with h4 | h4
        · exact .inl h4
        · simp at h4; exact .inr (by rw [h4]; exact List.mem_cons_self ..)
      · exact .inl h3
    · exact .inr (List.mem_cons_of_mem _ h3)
theorem sent_good {N : Int} {gs : List Int} {p : PS} {m : GM} (g : Grp gs) (hk : m.kind = 3 ∨ m.kind = 4 ∨ m.kind = 5) (hs : m.s0 ≤ N) (hc : 0 ≤ p.cl ∧ p.cl ≤ 1000000) {xs : List Int} (hx : ∀ v ∈ xs, v ∈ gs) : ∀ a ∈ xs.map (m.sent p), GoodM N a := by
  intro a ha
  obtain ⟨v, hv, rfl⟩ := List.mem_map.1 ha
  have := g.bd v (hx v hv)
  exact ⟨by show 0 ≤ v ∧ v ≤ 1000000; omega, (fun h => by cases h), fun _ => hk, fun _ => ⟨rfl, hc⟩, hs⟩
theorem outP_good {N : Int} {gs : List Int} {p : PS} (g : Grp gs) (hs : p.bal ≤ N) (hc : 0 ≤ p.cl ∧ p.cl ≤ 1000000) {xs : List Int} (hx : ∀ v ∈ xs, v ∈ gs) : ∀ a ∈ p.outP xs, GoodM N a := sent_good (m := GM.prepare p.bal p.cl) g (.inl rfl) hs hc hx
theorem outA_good {N : Int} {gs : List Int} {p : PS} {c : Cmd} (g : Grp gs) (hs : p.bal ≤ N) (hc : 0 ≤ p.cl ∧ p.cl ≤ 1000000) {xs : List Int} (hx : ∀ v ∈ xs, v ∈ gs) : ∀ a ∈ p.outA c xs, GoodM N a := sent_good (m := GM.accept p.bal p.cl c) g (.inr (.inl rfl)) hs hc hx
theorem outL_good {N : Int} {gs : List Int} {p : PS} {c : Cmd} (g : Grp gs) (hs : 0 ≤ N) (hc : 0 ≤ p.cl ∧ p.cl ≤ 1000000) {xs : List Int} (hx : ∀ v ∈ xs, v ∈ gs) : ∀ a ∈ p.outL c xs, GoodM N a := sent_good (m := GM.learned c) g (.inr (.inr rfl)) hs hc hx
theorem missing_sub {gs : List Int} {kvs : List (Int × Value)} : ∀ v ∈ missing gs kvs, v ∈ gs := fun v h => (List.mem_filter.1 h).1
section
variable {gs : List Int} {N c : Int} {x : X}
theorem XI.tick_good (h : XI gs N c x) (g : Grp gs) (hN : N < 1099511627776) (hc : 0 ≤ c ∧ c ≤ 1000000) : ∀ a ∈ x.tick.2, GoodM (N + 1) a := by
  have hb := h.bN
  have hn := h.nN
  have hcl : 0 ≤ x.p.cl ∧ x.p.cl ≤ 1000000 := by rw [h.cle]; exact hc
  unfold X.tick
  split
  · split
    · rw [h.again_ hN]
      exact outP_good (p := x.p.raise) g (by show max x.p.bal x.p.nt + 1 ≤ _; omega) hcl (by rw [h.gse]; exact fun v hv => hv)
    · exact outP_good g (by omega) hcl (by rw [h.gse]; exact missing_sub)
  · split
    · rw [h.again_ hN]
      exact outP_good (p := x.p.raise) g (by show max x.p.bal x.p.nt + 1 ≤ _; omega) hcl (by rw [h.gse]; exact fun v hv => hv)
    · exact outA_good g (by omega) hcl (by rw [h.gse]; exact missing_sub)
  · intro a ha; cases ha
theorem XI.begin_good (h : XI gs N c x) (g : Grp gs) (hN : N < 1099511627776) (hc : 0 ≤ c ∧ c ≤ 1000000) : ∀ a ∈ x.begin.2, GoodM (N + 1) a := by
  have hb := h.bN
  have hcl : 0 ≤ x.p.cl ∧ x.p.cl ≤ 1000000 := by rw [h.cle]; exact hc
  unfold X.begin
  split
  · rw [if_neg (h.near hN)]
    exact outP_good g (by omega) hcl (by rw [h.gse]; exact fun v hv => hv)
  · intro a ha; cases ha
theorem XI.take_good (h : XI gs N c x) (g : Grp gs) (hN : N < 1099511627776) (hc : 0 ≤ c ∧ c ≤ 1000000) (m : GM) : ∀ a ∈ (x.take m).2, GoodM (N + 1) a := by
  have hb := h.bN
  have hb1 := h.b1
  have hrN := h.rN
  have hcl : 0 ≤ x.p.cl ∧ x.p.cl ≤ 1000000 := by rw [h.cle]; exact hc
  have no : ∀ a ∈ ([] : List GM), GoodM (N + 1) a := fun a ha => by cases ha
  unfold X.take
  split
  · split
    · split
      · exact no
      · split
        · unfold X.nack; split <;> exact no
        · unfold X.countP
          split
          · split
            · rw [if_neg (by omega)]
              exact outA_good (p := x.p.next) g (by show x.p.bal ≤ _; omega) hcl (by rw [h.gse]; exact fun v hv => hv)
            · exact no
          · exact no
    · exact no
  · split
    · split
      · exact no
      · split
        · unfold X.nack; split <;> exact no
        · unfold X.countA
          split
          · split
            · exact outL_good g (by omega) hcl (by rw [h.gse]; exact fun v hv => hv)
            · exact no
          · exact no
    · exact no
  · exact no
theorem take_rf (m : GM) (hl : (x.take m).1.live) (hr : (x.take m).1.p.rf = true) : (x.take m).1.p.rnd = x.p.rnd ∧ x.live ∧ (x.p.rf = true ∨ m.kind = 14 ∧ m.rnd = x.p.rnd) := by
  have key : ∀ w : x.p.wants m = true, m.rnd = x.p.rnd := by
    intro w
    simp only [PS.wants, Bool.and_eq_true, decide_eq_true_eq] at w
    exact w.1.2
  unfold X.take at hl hr ⊢
  split at hl
  · rename_i hst
    have hxl : x.live := by unfold X.live; rw [hst]; trivial
    simp only [hst] at hr ⊢
    by_cases hw : x.p.wants m = true
    · simp only [hw, if_true] at hl hr ⊢
      by_cases h16 : m.kind = 16
      · simp only [h16, if_true, X.known] at hl
        exact hl.elim
      · simp only [h16, if_false] at hl hr ⊢
        by_cases h14 : m.kind = 14
        · simp only [h14, if_true] at hl hr ⊢
          refine ⟨?_, hxl, .inr ⟨trivial, key hw⟩⟩
          unfold X.nack; split <;> rfl
        · simp only [h14, if_false] at hl hr ⊢
          unfold X.countP at hl hr ⊢
          split at hr
          · rename_i hc
            simp only [if_pos hc] at hl ⊢
            split at hr
            · rename_i hk
              simp only [if_pos hk] at hl ⊢
              split at hr
              · rename_i hz
                simp only [if_pos hz] at hl
                exact hl.elim
              · cases hr
            · rename_i hk
              rw [if_neg hk]
              exact ⟨rfl, hxl, .inl hr⟩
          · rename_i hc
            rw [if_neg hc]
            exact ⟨rfl, hxl, .inl hr⟩
    · simp only [hw] at hl hr ⊢
      exact ⟨rfl, hxl, .inl hr⟩
  · rename_i c' hst
    have hxl : x.live := by unfold X.live; rw [hst]; trivial
    simp only [hst] at hr ⊢
    by_cases hw : x.p.wants m = true
    · simp only [hw, if_true] at hl hr ⊢
      by_cases h16 : m.kind = 16
      · simp only [h16, if_true, X.known] at hl
        exact hl.elim
      · simp only [h16, if_false] at hl hr ⊢
        by_cases h14 : m.kind = 14
        · simp only [h14, if_true] at hl hr ⊢
          refine ⟨?_, hxl, .inr ⟨trivial, key hw⟩⟩
          unfold X.nack; split <;> rfl
        · simp only [h14, if_false] at hl hr ⊢
          unfold X.countA at hl hr ⊢
          split at hr
          · rename_i hc
            simp only [if_pos hc] at hl ⊢
            split at hr
            · rename_i hk
              simp only [if_pos hk] at hl
              exact hl.elim
            · rename_i hk
              rw [if_neg hk]
              exact ⟨rfl, hxl, .inl hr⟩
          · rename_i hc
            rw [if_neg hc]
            exact ⟨rfl, hxl, .inl hr⟩
    · simp only [hw] at hl hr ⊢
      exact ⟨rfl, hxl, .inl hr⟩
  · rename_i h1 h2
    unfold X.live at hl
    split at hl
    · rename_i hst; exact (h1 hst).elim
    · rename_i c' hst; exact (h2 c' hst).elim
    · exact hl.elim
end
end Go.Proofs.Ytofaoblfemfkiaa

namespace Go.Proofs.Ytofaoblfemfkiaa
open Go Go.RowKit Go.Fw
set_option linter.unusedSimpArgs false
set_option linter.unusedVariables false
set_option maxRecDepth 4000
set_option maxHeartbeats 2000000


theorem wl_send {way l : List GM} {W : Nat} (h : way.length ≤ W) : (sendW way l).length ≤ max W 4000 := by have := sendW_len way l; omega
theorem wm_send {way l : List GM} {N : Int} (h : ∀ m ∈ way, GoodM N m) (h2 : ∀ m ∈ l, GoodM N m) : ∀ m ∈ sendW way l, GoodM N m := fun m hm => (mem_sendW hm).elim (h m) (h2 m)
section
variable {gs : List Int} {K N : Int} {W : Nat} {s : HP}
theorem refuse_good {i : Inst} {s0 s1 : Int} {a : GM} (hi : i.p0 ≤ N) (h0 : 0 ≤ N) (h : i.refuse s0 s1 = some a) : (a.kind = 16 ∨ a.kind = 14) ∧ a.s0 ≤ N := by
  unfold Inst.refuse at h
  split at h
  · injection h with h; subst h; exact ⟨.inl rfl, h0⟩
  · split at h
    · injection h with h; subst h; exact ⟨.inr rfl, hi⟩
    · cases h
theorem prep_good {i : Inst} {s0 s1 : Int} (hi : i.p0 ≤ N) (h0 : 0 ≤ N) (hs : s0 ≤ N) : (i.prep s0 s1).1.p0 ≤ N ∧ ((i.prep s0 s1).2.kind = 16 ∨ (i.prep s0 s1).2.kind = 14 ∨ (i.prep s0 s1).2.kind = 13) ∧ (i.prep s0 s1).2.s0 ≤ N := by
  unfold Inst.prep
  split
  · rename_i a ha
    obtain ⟨h1, h2⟩ := refuse_good hi h0 ha
    exact ⟨hi, by rcases h1 with h | h <;> simp [h], h2⟩
  · exact ⟨hs, .inr (.inr rfl), hs⟩
theorem acc_good {i : Inst} {s0 s1 : Int} {c : Cmd} (hi : i.p0 ≤ N) (h0 : 0 ≤ N) (hs : s0 ≤ N) : (i.acc s0 s1 c).1.p0 ≤ N ∧ ((i.acc s0 s1 c).2.kind = 16 ∨ (i.acc s0 s1 c).2.kind = 14 ∨ (i.acc s0 s1 c).2.kind = 15) ∧ (i.acc s0 s1 c).2.s0 ≤ N := by
  unfold Inst.acc
  split
  · rename_i a ha
    obtain ⟨h1, h2⟩ := refuse_good hi h0 ha
    exact ⟨hi, by rcases h1 with h | h <;> simp [h], h2⟩
  · exact ⟨hs, .inr (.inr rfl), hs⟩
theorem reply_good {m a : GM} (hm : GoodM N m) (ht : m.tc = false) (hk : a.kind = 16 ∨ a.kind = 14 ∨ (a.kind = 13 ∨ a.kind = 15)) (hs : a.s0 ≤ N) : ∀ b ∈ [reply m a], GoodM N b := by
  intro b hb
  simp at hb
  subst hb
  obtain ⟨h1, h2, h3⟩ := hm.fr ht
  exact ⟨⟨h2, h3⟩, fun _ => hk, (fun h => by rw [show (reply m a).tc = m.fc from rfl, h1] at h; cases h), (fun h => by rw [show (reply m a).tc = m.fc from rfl, h1] at h; cases h), hs⟩
theorem mem_set {α : Type} {l : List α} {k : Nat} {a b : α} (h : b ∈ l.set k a) : b ∈ l ∨ b = a := List.mem_or_eq_of_mem_set h
theorem HInv.toServer_ {m : GM} (h : HInv gs K N W s) (hm : GoodM N m) (ht : m.tc = false) (h0 : 0 ≤ N) (k : Nat) : HInv gs K N (max W 4000) (s.toServer m k) := by
  have up := h.up (Int.le_refl K) (Int.le_refl N) (Nat.le_max_left W 4000)
  unfold HP.toServer
  split
  · split
    · exact up
    · rename_i i hi
      have him := h.ins i (List.mem_of_getElem? hi)
      have ili : ∀ y, (s.ins.set k y).length = gs.length := fun y => by rw [List.length_set]; exact h.il
      split
      · obtain ⟨h1, h2, h3⟩ := prep_good (s0 := m.s0) (s1 := m.s1) him h0 hm.s0
        exact ⟨h.gse, ili _, h.nl, h.nl2, h.nk, wl_send h.wl, h.xl, h.xs, fun y hy => (mem_set hy).elim (h.ins y) (fun e => by rw [e]; exact h1), wm_send h.wm (reply_good hm ht (by omega) h3), h.rfk⟩
      · split
        · obtain ⟨h1, h2, h3⟩ := acc_good (s0 := m.s0) (s1 := m.s1) (c := m.cmd) him h0 hm.s0
          exact ⟨h.gse, ili _, h.nl, h.nl2, h.nk, wl_send h.wl, h.xl, h.xs, fun y hy => (mem_set hy).elim (h.ins y) (fun e => by rw [e]; exact h1), wm_send h.wm (reply_good hm ht (by omega) h3), h.rfk⟩
        · have h1 : (i.learn m.cmd).p0 ≤ N := by
            unfold Inst.learn
            split
            · exact him
            · exact h0
          exact ⟨h.gse, ili _, h.nl, h.nl2, h.nk, by have := h.wl; show s.way.length ≤ _; omega, h.xl, h.xs, fun y hy => (mem_set hy).elim (h.ins y) (fun e => by rw [e]; exact h1), h.wm, h.rfk⟩
  · exact up
theorem HInv.servers_ {m : GM} (h : HInv gs K N W s) (hm : GoodM N m) (ht : m.tc = false) (h0 : 0 ≤ N) : ∀ k, HInv gs K N (max W 4000) (s.servers m k)
  | 0 => h.up (Int.le_refl K) (Int.le_refl N) (Nat.le_max_left W 4000)
  | k + 1 => by
    rw [HP.servers_succ]
    have := (HInv.servers_ h hm ht h0 k).toServer_ hm ht h0 k
    rwa [show max (max W 4000) 4000 = max W 4000 by omega] at this
theorem HInv.deliver_ {m : GM} (g : Grp gs) (h : HInv gs K N W s) (hm : GoodM N m) (h0 : 0 ≤ N) (hN : N < 1099511627776) : HInv gs (K + 1) (N + 1) (max W 4000) (s.deliver m) := by
  have up := h.up (show K ≤ K + 1 by omega) (show N ≤ N + 1 by omega) (Nat.le_max_left W 4000)
  cases ht : m.tc with
  | false =>
    rw [HP.serverAll ht]
    exact (h.servers_ hm ht h0 _).up (by omega) (by omega) (Nat.le_refl _)
  | true =>
    by_cases hi : 0 ≤ m.ti - 1 ∧ m.ti - 1 < (s.xs.length : Int)
    · obtain ⟨j, hj⟩ : ∃ j : Nat, m.ti - 1 = (j : Int) := ⟨(m.ti - 1).toNat, by omega⟩
      have hjx : j < s.xs.length := by omega
      have hjk : j < s.nkd.length := by rw [h.nl]; exact hjx
      have hjn : j < s.nks.length := by rw [h.nl2]; exact hjx
      have hx := h.xs j hjx
      have hxl := h.xl
      rw [HP.client hj hjx ht]
      have hxs : ∀ (i : Nat) (h : i < (s.xs.set j (s.xs[j].take m).1).length), XI gs (N + 1) ((i : Int) + 1) (s.xs.set j (s.xs[j].take m).1)[i] := by
        intro i hi2
        rw [List.getElem_set]
        split
        · rename_i e; subst e; exact hx.take_ hN hm.s0
        · exact (h.xs i (by simpa using hi2)).up (by omega)
      have hwm := wm_send (l := (s.xs[j].take m).2) (fun a ha => (h.wm a ha).up (show N ≤ N + 1 by omega)) (hx.take_good g hN (by omega) m)
      by_cases hn : m.kind = 14 ∧ m.rnd = s.xs[j].p.rnd
      · rw [HP.noted_yes hjn hn.1 hn.2]
        refine ⟨h.gse, h.il, by show (s.nkd.set j m.rnd).length = (s.xs.set j _).length; simp [h.nl], by show (s.nks.set j _).length = (s.xs.set j _).length; simp [h.nl2], fun x hx2 => ?_, wl_send h.wl, by show (s.xs.set j _).length ≤ _; simpa using hxl, hxs, fun i hi => by have := h.ins i hi; omega, hwm, fun i hi2 hi3 hl hr => ?_⟩
        · rcases mem_set hx2 with h1 | h1
          · have := h.nk x h1; omega
          · have := h.nk s.nks[j] (List.getElem_mem _); omega
        · show (s.nkd.set j m.rnd)[i] = (s.xs.set j (s.xs[j].take m).1)[i].p.rnd
          have hl' : (s.xs.set j (s.xs[j].take m).1)[i].live := hl
          have hr' : (s.xs.set j (s.xs[j].take m).1)[i].p.rf = true := hr
          by_cases e : j = i
          · subst e
            simp only [List.getElem_set_self] at hl' hr' ⊢
            obtain ⟨h1, _, _⟩ := take_rf m hl' hr'
            rw [h1]; exact hn.2
          · simp only [List.getElem_set_ne e] at hl' hr' ⊢
            exact h.rfk i (by simpa using hi2) (by simpa using hi3) hl' hr'
      · rw [HP.noted_no hn]
        refine ⟨h.gse, h.il, by show s.nkd.length = (s.xs.set j _).length; simp [h.nl], by show s.nks.length = (s.xs.set j _).length; simp [h.nl2], fun x hx2 => by have := h.nk x hx2; omega, wl_send h.wl, by show (s.xs.set j _).length ≤ _; simpa using hxl, hxs, fun i hi => by have := h.ins i hi; omega, hwm, fun i hi2 hi3 hl hr => ?_⟩
        show s.nkd[i] = (s.xs.set j (s.xs[j].take m).1)[i].p.rnd
        have hl' : (s.xs.set j (s.xs[j].take m).1)[i].live := hl
        have hr' : (s.xs.set j (s.xs[j].take m).1)[i].p.rf = true := hr
        by_cases e : j = i
        · subst e
          simp only [List.getElem_set_self] at hl' hr' ⊢
          obtain ⟨h1, h2, h3⟩ := take_rf m hl' hr'
          rw [h1]
          rcases h3 with h3 | h3
          · exact h.rfk j hjx hjk h2 h3
          · exact (hn h3).elim
        · simp only [List.getElem_set_ne e] at hl' hr' ⊢
          exact h.rfk i (by simpa using hi2) hi3 hl' hr'
    · rw [HP.noClient hi ht]
      exact up
theorem XI.begin_rf {x : X} (hl : x.begin.1.live) (hr : x.begin.1.p.rf = true) : x.begin.1 = x := by
  unfold X.begin at hl hr ⊢
  split
  · rename_i hst
    simp only [hst] at hl hr
    split at hl
    · exact hl.elim
    · rename_i hf; rw [if_neg hf] at hr; cases hr
  · rfl
theorem XI.again_rf {x : X} (hl : x.again.1.live) : x.again.1.p.rf = false := by
  unfold X.again at hl ⊢
  split at hl
  · exact hl.elim
  · rename_i hf; rw [if_neg hf]
theorem XI.tick_rf {x : X} (hl : x.tick.1.live) (hr : x.tick.1.p.rf = true) : False := by
  unfold X.tick at hl hr
  split at hl
  · rename_i hst
    simp only [hst] at hr
    split at hl
    · rename_i hf
      rw [if_pos hf, XI.again_rf hl] at hr; cases hr
    · rename_i hf
      rw [if_neg hf] at hr
      exact hf hr
  · rename_i c hst
    simp only [hst] at hr
    split at hl
    · rename_i hf
      rw [if_pos hf, XI.again_rf hl] at hr; cases hr
    · rename_i hf
      rw [if_neg hf] at hr
      exact hf hr
  · rename_i h1 h2
    unfold X.live at hl
    split at hl
    · rename_i hst; exact (h1 hst).elim
    · rename_i c' hst; exact (h2 c' hst).elim
    · exact hl.elim
/-- One proposer turned, its messages under way. -/
theorem HInv.turned (h : HInv gs K N W s) {j : Nat} (hj : j < s.xs.length) {y : X} {l way : List GM} (hy : XI gs (N + 1) ((j : Int) + 1) y) (hrf : y.live → y.p.rf = true → y = s.xs[j]) (hl : ∀ a ∈ l, GoodM (N + 1) a) (hw : way.length ≤ W) (hwm : ∀ m ∈ way, GoodM N m) :
    HInv gs K (N + 1) (max W 4000) { s with xs := s.xs.set j y, way := sendW way l } := by
  refine ⟨h.gse, h.il, by show s.nkd.length = (s.xs.set j _).length; simp [h.nl], by show s.nks.length = (s.xs.set j _).length; simp [h.nl2], h.nk, wl_send hw, by show (s.xs.set j _).length ≤ _; simpa using h.xl, fun i hi2 => ?_, fun i hi => by have := h.ins i hi; omega, wm_send (fun a ha => (hwm a ha).up (by omega)) hl, fun i hi2 hi3 hl hr => ?_⟩
  · show XI gs (N + 1) ((i : Int) + 1) (s.xs.set j y)[i]
    rw [List.getElem_set]
    split
    · rename_i e; subst e; exact hy
    · exact (h.xs i (by simpa using hi2)).up (by omega)
  · show s.nkd[i] = (s.xs.set j y)[i].p.rnd
    have hl' : (s.xs.set j y)[i].live := hl
    have hr' : (s.xs.set j y)[i].p.rf = true := hr
    by_cases e : j = i
    · subst e
      simp only [List.getElem_set_self] at hl' hr' ⊢
      have := hrf hl' hr'
      subst this
      exact h.rfk j hj hi3 hl' hr'
    · simp only [List.getElem_set_ne e] at hl' hr' ⊢
      exact h.rfk i (by simpa using hi2) hi3 hl' hr'
theorem HInv.off_ (h : HInv gs K N W s) (i : Nat) : HInv gs K N W (s.off i) :=
  ⟨h.gse, h.il, h.nl, h.nl2, h.nk, by show (s.way.take i ++ s.way.drop (i + 1)).length ≤ W; have := h.wl; simp; omega, h.xl, h.xs, h.ins, fun m hm => h.wm m (by
    rcases List.mem_append.1 hm with h1 | h1
    · exact List.mem_of_mem_take h1
    · exact List.mem_of_mem_drop h1), h.rfk⟩
theorem HInv.act_ (g : Grp gs) (h : HInv gs K N W s) (hW : 4000 ≤ W) (h0 : 0 ≤ N) (hN : N < 1099511627776) (v : Nat) : HInv gs (K + 1) (N + 1) (W + 1) (s.act v) := by
  have hxl := h.xl
  have up := h.up (show K ≤ K + 1 by omega) (show N ≤ N + 1 by omega) (show W ≤ W + 1 by omega)
  have hmx : max W 4000 = W := by omega
  unfold HP.act
  split
  · unfold HP.begun
    split
    · rename_i x hx
      obtain ⟨hj, rfl⟩ := List.getElem?_eq_some_iff.1 hx
      have hxi := h.xs _ hj
      have := h.turned hj ((hxi.begin_ hN).up (show N ≤ N + 1 by omega)) (fun a b => XI.begin_rf a b) (hxi.begin_good g hN (by omega)) h.wl h.wm
      rw [hmx] at this
      exact this.up (by omega) (by omega) (by omega)
    · exact up
  · split
    · unfold HP.ticked
      split
      · rename_i x hx
        obtain ⟨hj, rfl⟩ := List.getElem?_eq_some_iff.1 hx
        have hxi := h.xs _ hj
        have := h.turned hj (hxi.tick_ hN) (fun a b => (XI.tick_rf a b).elim) (hxi.tick_good g hN (by omega)) h.wl h.wm
        rw [hmx] at this
        exact this.up (by omega) (by omega) (by omega)
      · exact up
    · split
      · exact up
      · rename_i m hm
        have hmw := List.mem_of_getElem? hm
        have hg := h.wm m hmw
        split
        · exact ⟨h.gse, h.il, h.nl, h.nl2, fun x hx => by have := h.nk x hx; omega, by show (s.way ++ [m]).length ≤ _; have := h.wl; simp; omega, h.xl, up.xs, up.ins, fun a ha => by
            rcases List.mem_append.1 ha with h1 | h1
            · exact up.wm a h1
            · simp at h1; rw [h1]; exact hg.up (by omega), h.rfk⟩
        · split
          · exact (h.off_ _).up (by omega) (by omega) (by omega)
          · have := (h.off_ (v / 8 % s.way.length)).deliver_ g hg h0 hN
            rw [hmx] at this
            exact this.up (by omega) (by omega) (by omega)
end
end Go.Proofs.Ytofaoblfemfkiaa

namespace Go.Proofs.Ytofaoblfemfkiaa
open Go Go.RowKit Go.Fw
set_option linter.unusedSimpArgs false
set_option linter.unusedVariables false
set_option maxRecDepth 4000
set_option maxHeartbeats 2000000


/-! ### An exchange: to the servers -/
theorem idx_get {gs : List Int} {v : Int} (h : v ∈ gs) : ∃ hk : gs.idxOf v < gs.length, gs[gs.idxOf v] = v :=
  ⟨List.idxOf_lt_length_of_mem h, List.getElem_idxOf (List.idxOf_lt_length_of_mem h)⟩
theorem idx_eq {gs : List Int} (hn : gs.Nodup) {k : Nat} (hk : k < gs.length) : gs.idxOf gs[k] = k := by
  obtain ⟨h1, h2⟩ := idx_get (List.getElem_mem hk)
  exact (List.getElem_inj hn).1 h2
section
variable {gs : List Int} {s : HP} {m : GM} {k0 : Nat}
theorem HP.servers_one (hg : s.gs = gs) (hn : gs.Nodup) (hk : k0 < gs.length) (hv : gs[k0] = m.ti) : ∀ k, k ≤ gs.length → s.servers m k = if k0 < k then s.toServer m k0 else s
  | 0, _ => rfl
  | k + 1, h => by
    rw [HP.servers_succ, HP.servers_one hg hn hk hv k (by omega)]
    by_cases e : k = k0
    · subst e
      rw [if_neg (by omega), if_pos (by omega)]
    · have no : ∀ t : HP, t.gs = gs → t.toServer m k = t := fun t ht => HP.toServerNo (by rw [ht]; omega) (by
        simp only [ht]
        intro h1
        exact e ((List.getElem_inj hn).1 (h1.trans hv.symm)))
      by_cases h1 : k0 < k
      · rw [if_pos h1, if_pos (by omega)]
        exact no _ (by rw [HP.toServer_gs]; exact hg)
      · rw [if_neg h1, if_neg (by omega)]
        exact no _ hg
theorem HP.deliver_one (hg : s.gs = gs) (hn : gs.Nodup) (hk : k0 < gs.length) (hv : gs[k0] = m.ti) (ht : m.tc = false) : s.deliver m = s.toServer m k0 := by
  rw [HP.serverAll ht, hg, HP.servers_one hg hn hk hv _ (Nat.le_refl _), if_pos hk]
theorem HP.lets_one {down : Int} (hg : s.gs = gs) (hn : gs.Nodup) (hk : k0 < gs.length) (hv : gs[k0] = m.ti) (ht : m.tc = false) : ∀ k, k ≤ gs.length → s.lets down m k = if k0 < k ∧ alive down k0 = true then s.toServer m k0 else s
  | 0, _ => by simp [HP.lets]
  | k + 1, h => by
    rw [HP.lets_succ, HP.lets_one hg hn hk hv ht k (by omega)]
    by_cases e : k = k0
    · subst e
      rw [if_neg (by omega)]
      unfold HP.toAlive
      by_cases ha : alive down k = true
      · rw [if_pos ⟨by rw [hg, List.getElem?_eq_getElem hk, hv], ha⟩, if_pos ⟨by omega, ha⟩]
        exact HP.deliver_one hg hn hk hv ht
      · rw [if_neg (fun h => ha h.2), if_neg (fun h => ha h.2)]
    · have no : ∀ t : HP, t.gs = gs → t.toAlive down m k = t := fun t ht => by
        unfold HP.toAlive
        rw [if_neg]
        intro h1
        have h2 := h1.1
        rw [ht, List.getElem?_eq_getElem (by omega)] at h2
        exact e ((List.getElem_inj hn).1 ((Option.some.inj h2).trans hv.symm))
      by_cases h1 : k0 < k ∧ alive down k0 = true
      · rw [if_pos h1, if_pos ⟨by omega, h1.2⟩]
        exact no _ (by rw [HP.toServer_gs]; exact hg)
      · rw [if_neg h1, if_neg (fun h => h1 ⟨by omega, h.2⟩)]
        exact no _ hg
end
/-- How the servers take a message of the round. -/
structure Upd (gs : List Int) (M : Int → GM) (upd : Inst → Inst × GM) : Prop where
  ti : ∀ v, (M v).ti = v
  tc : ∀ v, (M v).tc = false
  to : ∀ (s : HP) (k : Nat) (i : Inst) (v : Int), s.gs[k]? = some v → s.ins[k]? = some i → s.toServer (M v) k = { s with ins := s.ins.set k (upd i).1, way := sendW s.way [reply (M v) (upd i).2] }
  same : ∀ i, upd (upd i).1 = ((upd i).1, (upd i).2)
def HP.inst (s : HP) (k : Nat) : Inst := (s.ins[k]?).getD Inst.zero
structure Sent (gs : List Int) (down : Int) (M : Int → GM) (upd : Inst → Inst × GM) (s : HP) (L : List Int) (t : HP) : Prop where
  gse : t.gs = gs
  il : t.ins.length = gs.length
  ins : ∀ k (hk : k < gs.length), t.inst k = if alive down k = true ∧ gs[k] ∈ L then (upd (s.inst k)).1 else s.inst k
  way : t.way = s.way ++ (L.filter fun v => alive down (gs.idxOf v)).map fun v => reply (M v) (upd (s.inst (gs.idxOf v))).2
  xs : t.xs = s.xs
  nks : t.nks = s.nks
theorem sendW_one {w : List GM} {a : GM} (h : w.length < 4000) : sendW w [a] = w ++ [a] := by simp [sendW, h]
theorem sent_step {gs : List Int} {down : Int} {M : Int → GM} {upd : Inst → Inst × GM} {s t : HP} {L : List Int} (g : Grp gs) (U : Upd gs M upd) (h : Sent gs down M upd s L t) (hl : s.way.length + L.length < 4000) {v : Int} (hv : v ∈ gs) :
    Sent gs down M upd s (L ++ [v]) (t.lets down (M v) t.gs.length) := by
  obtain ⟨hk, hg⟩ := idx_get hv
  obtain ⟨k0, hk0⟩ : ∃ k0, k0 = gs.idxOf v := ⟨_, rfl⟩
  rw [h.gse, HP.lets_one h.gse g.nd hk (by rw [U.ti]; exact hg) (U.tc v) _ (Nat.le_refl _)]
  have hu : ∀ k (hk : k < gs.length), gs[k] = v ↔ k = k0 := fun k hk' => by
    subst hk0
    exact ⟨fun e => by rw [← idx_eq g.nd hk', e], fun e => by subst e; exact hg⟩
  rw [← hk0] at hk ⊢
  have hgk : gs[k0] = v := (hu k0 hk).2 rfl
  by_cases ha : alive down k0 = true
  · rw [if_pos ⟨hk, ha⟩]
    have hi : t.ins[k0]? = some (t.inst k0) := by
      unfold HP.inst
      rw [List.getElem?_eq_getElem (by rw [h.il]; exact hk)]
      rfl
    rw [U.to t k0 (t.inst k0) v (by rw [h.gse, List.getElem?_eq_getElem hk, hgk]) hi]
    have hin := h.ins k0 hk
    have hup : upd (t.inst k0) = ((upd (s.inst k0)).1, (upd (s.inst k0)).2) := by
      rw [hin]
      split
      · exact U.same _
      · rfl
    have hwl : t.way.length < 4000 := by
      rw [h.way]
      have := List.length_filter_le (fun v => alive down (gs.idxOf v)) L
      simp; omega
    refine ⟨h.gse, by rw [List.length_set]; exact h.il, fun k hk' => ?_, ?_, h.xs, h.nks⟩
    · show ((t.ins.set k0 (upd (t.inst k0)).1)[k]?).getD Inst.zero = _
      by_cases e : k0 = k
      · subst e
        rw [List.getElem?_set_self (by rw [h.il]; exact hk), hup, if_pos ⟨ha, by rw [hgk]; simp⟩]
        rfl
      · rw [List.getElem?_set_ne e]
        have := h.ins k hk'
        unfold HP.inst at this
        rw [this]
        have hne : gs[k] ≠ v := fun e2 => e ((hu k hk').1 e2).symm
        simp [hne, HP.inst]
    · show sendW t.way [reply (M v) (upd (t.inst k0)).2] = _
      rw [sendW_one hwl, h.way, hup, List.filter_append]
      simp [← hk0, ha]
  · rw [if_neg (fun h => ha h.2)]
    refine ⟨h.gse, h.il, fun k hk' => ?_, ?_, h.xs, h.nks⟩
    · rw [h.ins k hk']
      by_cases e : k = k0
      · subst e
        rw [if_neg (fun h => ha h.1), if_neg (fun h => ha h.1)]
      · have hne : gs[k] ≠ v := fun e2 => e ((hu k hk').1 e2)
        simp [hne]
    · rw [h.way, List.filter_append]
      simp [← hk0, ha]
theorem sent_all {gs : List Int} {down : Int} {M : Int → GM} {upd : Inst → Inst × GM} {s : HP} (g : Grp gs) (U : Upd gs M upd) (hg : s.gs = gs) (hil : s.ins.length = gs.length) : ∀ (n : Nat) (L : List Int), L.length = n → s.way.length + L.length ≤ 4000 → (∀ v ∈ L, v ∈ gs) → Sent gs down M upd s L (s.puts down (L.map M))
  | 0, L, hn, _, _ => by
    have : L = [] := List.eq_nil_of_length_eq_zero hn
    subst this
    exact ⟨hg, hil, fun k hk => by simp [HP.puts], by simp [HP.puts], rfl, rfl⟩
  | n + 1, L, hn, hl, hv => by
    have hne : L ≠ [] := fun e => by subst e; simp at hn
    obtain ⟨L', v, rfl⟩ : ∃ L' v, L = L' ++ [v] := ⟨L.dropLast, L.getLast hne, (List.dropLast_concat_getLast hne).symm⟩
    simp only [List.length_append, List.length_singleton] at hn hl
    have ih := sent_all (down := down) g U hg hil n L' (by omega) (by omega) (fun u hu => hv u (List.mem_append_left _ hu))
    rw [List.map_append, List.map_singleton, HP.puts_snoc]
    exact sent_step g U ih (by omega) (hv v (by simp))
end Go.Proofs.Ytofaoblfemfkiaa

namespace Go.Proofs.Ytofaoblfemfkiaa
open Go Go.RowKit Go.Fw
set_option linter.unusedSimpArgs false
set_option linter.unusedVariables false
set_option maxRecDepth 4000
set_option maxHeartbeats 2000000


/-! ### An exchange: the answers -/
structure At (t : HP) (j : Nat) (y : X) (w : List GM) (nk : Int) : Prop where
  x : t.xs[j]? = some y
  w : t.way = w
  nk : t.nks[j]? = some nk
def bumps (m : GM) (y : X) : Int := if m.kind = 14 ∧ m.rnd = y.p.rnd then 1 else 0
theorem At.step {t : HP} {j : Nat} {y : X} {w : List GM} {nk : Int} (h : At t j y w nk) {m : GM} (ht : m.tc = true) (hj : m.ti - 1 = (j : Int)) : At (t.deliver m) j (y.take m).1 (sendW w (y.take m).2) (nk + bumps m y) ∧ (t.deliver m).ins = t.ins ∧ (t.deliver m).gs = t.gs := by
  obtain ⟨hx, hxe⟩ := List.getElem?_eq_some_iff.1 h.x
  obtain ⟨hn, hne⟩ := List.getElem?_eq_some_iff.1 h.nk
  rw [HP.client hj hx ht, hxe]
  unfold bumps
  by_cases hb : m.kind = 14 ∧ m.rnd = y.p.rnd
  · rw [HP.noted_yes hn hb.1 hb.2, if_pos hb, hne]
    exact ⟨⟨by show (t.xs.set j _)[j]? = _; rw [List.getElem?_set_self hx], by show sendW t.way _ = _; rw [h.w], by show (t.nks.set j _)[j]? = _; rw [List.getElem?_set_self hn]⟩, rfl, rfl⟩
  · rw [HP.noted_no hb, if_neg hb, Int.add_zero]
    exact ⟨⟨by show (t.xs.set j _)[j]? = _; rw [List.getElem?_set_self hx], by show sendW t.way _ = _; rw [h.w], h.nk⟩, rfl, rfl⟩
def X.done (y : X) : Prop := ∃ c, y.st = .over (some c)
theorem done_take {y : X} (h : y.done) (m : GM) : y.take m = (y, []) := by
  obtain ⟨c, hc⟩ := h
  unfold X.take
  rw [hc]
/-- Still in the round. -/
structure Jc (gs : List Int) (N c : Int) (x1 : X) (kd : Int) (a : Int → GM) (V : List Int) (y : X) (nk0 nk : Int) : Prop where
  inv : XI gs N c y
  st : y.st = x1.st
  p : y.p = { x1.p with nt := y.p.nt, rf := y.p.rf }
  hs1 : ∀ u ∈ x1.hs, u ∈ y.hs
  hsV : ∀ u ∈ y.hs, u ∈ x1.hs ∨ u ∈ V
  Vh : ∀ v ∈ V, v ∈ y.hs
  k1 : ∀ u ∈ x1.keys, u ∈ y.keys
  kV : ∀ u ∈ y.keys, u ∈ x1.keys ∨ u ∈ V ∧ (a u).kind = kd
  okV : ∀ v ∈ V, (a v).kind = kd → v ∈ y.keys
  nkV : ∀ v ∈ V, (a v).kind = 14 → y.p.rf = true ∧ (a v).s0 ≤ y.p.nt
  knV : ∀ v ∈ V, (a v).kind ≠ 16
  rf1 : x1.p.rf = true → y.p.rf = true
  rfn : y.p.rf = true → x1.p.rf = true ∨ nk0 < nk
  nkm : nk0 ≤ nk
/-- The next phase was begun. -/
structure Jb (gs : List Int) (N c : Int) (x1 : X) (kd : Int) (a : Int → GM) (V : List Int) (y : X) (w : List GM) (nk0 nk : Int) : Prop where
  inv : XI gs N c y
  st : ∃ cm, y.st = .acc cm ∧ w = y.p.outA cm gs
  hs : y.hs = []
  ms : y.ms = []
  rf : y.p.rf = false
  rnd : y.p.rnd = x1.p.rnd + 1
  bal : y.p.bal = x1.p.bal ∧ y.p.cl = x1.p.cl
  U : ∃ U : List Int, U.Nodup ∧ (gs.length : Int) / 2 + 1 ≤ (U.length : Int) ∧ ∀ u ∈ U, u ∈ x1.keys ∨ u ∈ V ∧ (a u).kind = kd
  nkm : nk0 ≤ nk
theorem bumps_nn (m : GM) (y : X) : 0 ≤ bumps m y := by unfold bumps; split <;> omega
/-- What the servers' answers are like. -/
structure Ans (gs : List Int) (N : Int) (x1 : X) (kd : Int) (a r : Int → GM) : Prop where
  kinds : ∀ v ∈ gs, (a v).kind = 16 ∨ (a v).kind = 14 ∨ (a v).kind = kd
  own : ∀ v ∈ gs, (a v).kind = kd → (a v).s0 = x1.p.bal ∧ (a v).s1 = x1.p.cl
  s0 : ∀ v ∈ gs, (a v).s0 ≤ N
  r : ∀ v, r v = { a v with fc := false, fi := v, tc := true, ti := x1.p.cl, op := x1.p.op, rnd := x1.p.rnd, k0 := x1.p.kk, k1 := x1.p.ka, k2 := x1.p.kb, k3 := x1.p.kc }
section
variable {gs : List Int} {N c : Int} {x1 y : X} {kd : Int} {a r : Int → GM} {V : List Int} {w : List GM} {nk0 nk : Int} {v : Int}
theorem wants_r (A : Ans gs N x1 kd a r) (h : Jc gs N c x1 kd a V y nk0 nk) (hv : v ∈ gs) : y.p.wants (r v) = true := by
  have hg := h.inv.gse
  rw [A.r v]
  simp only [PS.wants, hg, hv]
  rw [h.p]
  simp
theorem own_r (A : Ans gs N x1 kd a r) (h : Jc gs N c x1 kd a V y nk0 nk) (hv : v ∈ gs) (hk : (a v).kind = kd) : y.p.own (r v) = true := by
  obtain ⟨h1, h2⟩ := A.own v hv hk
  rw [A.r v]
  simp only [PS.own, h1, h2]
  rw [h.p]
  simp
theorem rnd_r (A : Ans gs N x1 kd a r) (h : Jc gs N c x1 kd a V y nk0 nk) : (r v).rnd = y.p.rnd := by rw [A.r v, h.p]
theorem kind_r (A : Ans gs N x1 kd a r) : (r v).kind = (a v).kind := by rw [A.r v]
theorem fi_r (A : Ans gs N x1 kd a r) : (r v).fi = v := by rw [A.r v]
theorem s0_r (A : Ans gs N x1 kd a r) : (r v).s0 = (a v).s0 := by rw [A.r v]
/-- It was heard already: nothing turns. -/
theorem Jc.again_ (h : Jc gs N c x1 kd a V y nk0 nk) {b : Int} (hb : 0 ≤ b) (hin : v ∈ V) : Jc gs N c x1 kd a (V ++ [v]) y nk0 (nk + b) := by
  have hm : ∀ u, u ∈ V ++ [v] → u ∈ V := fun u hu => (List.mem_append.1 hu).elim id (fun e => by simp at e; rw [e]; exact hin)
  exact ⟨h.inv, h.st, h.p, h.hs1, fun u hu => (h.hsV u hu).imp id (List.mem_append_left _), fun u hu => h.Vh u (hm u hu), h.k1, fun u hu => (h.kV u hu).imp id (fun e => ⟨List.mem_append_left _ e.1, e.2⟩),
    fun u hu => h.okV u (hm u hu), fun u hu => h.nkV u (hm u hu), fun u hu => h.knV u (hm u hu), h.rf1, fun e => (h.rfn e).imp id (fun h => by omega), by have := h.nkm; omega⟩
/-- A refusal. -/
theorem Jc.nack_ (A : Ans gs N x1 kd a r) (h : Jc gs N c x1 kd a V y nk0 nk) (hv : v ∈ gs) (hn : v ∉ y.hs) (hk : (a v).kind = 14) (hkd : kd ≠ 14) : Jc gs N c x1 kd a (V ++ [v]) ⟨y.p.nack (r v).s0, y.st, y.hs ++ [v], y.ms⟩ nk0 (nk + 1) := by
  have e := s0_r (v := v) A
  have hi := h.inv.nacked (m := r v) (by rw [e]; exact A.s0 v hv) (by rw [fi_r A]; exact hv) (by rw [fi_r A]; exact hn)
  rw [fi_r A] at hi
  refine ⟨hi, h.st, by show y.p.nack (r v).s0 = { x1.p with nt := (y.p.nack (r v).s0).nt, rf := true }; unfold PS.nack; rw [h.p], fun u hu => List.mem_append_left _ (h.hs1 u hu), fun u hu => ?_, fun u hu => ?_, h.k1, fun u hu => (h.kV u hu).imp id (fun e => ⟨List.mem_append_left _ e.1, e.2⟩), fun u hu hk2 => ?_, fun u hu hk2 => ?_, fun u hu => ?_, fun _ => rfl, fun _ => .inr (by have := h.nkm; omega), by have := h.nkm; omega⟩
  · rcases List.mem_append.1 hu with h1 | h1
    · exact (h.hsV u h1).imp id (List.mem_append_left _)
    · exact .inr (List.mem_append_right _ h1)
  · rcases List.mem_append.1 hu with h1 | h1
    · exact List.mem_append_left _ (h.Vh u h1)
    · exact List.mem_append_right _ h1
  · rcases List.mem_append.1 hu with h1 | h1
    · exact h.okV u h1 hk2
    · simp at h1; subst h1; exact (hkd (hk2.symm.trans hk)).elim
  · refine ⟨rfl, ?_⟩
    show (a u).s0 ≤ max y.p.nt (r v).s0
    rcases List.mem_append.1 hu with h1 | h1
    · have := (h.nkV u h1 hk2).2; omega
    · simp at h1; subst h1; rw [e]; omega
  · rcases List.mem_append.1 hu with h1 | h1
    · exact h.knV u h1
    · simp at h1; subst h1; omega
/-- An answer counted. -/
theorem Jc.count_ (A : Ans gs N x1 kd a r) (h : Jc gs N c x1 kd a V y nk0 nk) (hv : v ∈ gs) (hn : v ∉ y.hs) (hk : (a v).kind = kd) (hkd : kd ≠ 14 ∧ kd ≠ 16) (hf : (y.ms.length : Int) + 1 < (gs.length : Int) / 2 + 1) : Jc gs N c x1 kd a (V ++ [v]) ⟨y.p, y.st, y.hs ++ [v], y.ms ++ [(v, r v)]⟩ nk0 nk := by
  have hi := h.inv.counted (m := r v) (by rw [fi_r A]; exact hv) (by rw [fi_r A]; exact hn) hf
  rw [fi_r A] at hi
  have ek : X.keys ⟨y.p, y.st, y.hs ++ [v], y.ms ++ [(v, r v)]⟩ = y.keys ++ [v] := by simp [X.keys]
  refine ⟨hi, h.st, h.p, fun u hu => List.mem_append_left _ (h.hs1 u hu), fun u hu => ?_, fun u hu => ?_, fun u hu => ?_, fun u hu => ?_, fun u hu hk2 => ?_, fun u hu hk2 => ?_, fun u hu => ?_, h.rf1, h.rfn, h.nkm⟩
  · rcases List.mem_append.1 hu with h1 | h1
    · exact (h.hsV u h1).imp id (List.mem_append_left _)
    · exact .inr (List.mem_append_right _ h1)
  · rcases List.mem_append.1 hu with h1 | h1
    · exact List.mem_append_left _ (h.Vh u h1)
    · exact List.mem_append_right _ h1
  · rw [ek]; exact List.mem_append_left _ (h.k1 u hu)
  · rw [ek] at hu
    rcases List.mem_append.1 hu with h1 | h1
    · exact (h.kV u h1).imp id (fun e => ⟨List.mem_append_left _ e.1, e.2⟩)
    · simp at h1; subst h1; exact .inr ⟨by simp, hk⟩
  · rw [ek]
    rcases List.mem_append.1 hu with h1 | h1
    · exact List.mem_append_left _ (h.okV u h1 hk2)
    · exact List.mem_append_right _ h1
  · rcases List.mem_append.1 hu with h1 | h1
    · exact h.nkV u h1 hk2
    · simp at h1; subst h1; exact (hkd.1 (hk.symm.trans hk2)).elim
  · rcases List.mem_append.1 hu with h1 | h1
    · exact h.knV u h1
    · simp at h1; subst h1; rw [hk]; exact hkd.2
/-- One answer of the first phase. -/
theorem Jc.stepP (g : Grp gs) (A : Ans gs N x1 13 a r) (h : Jc gs N c x1 13 a V y nk0 nk) (hst : x1.st = .prep) (hN : x1.p.rnd < N ∧ N < 1099511627776) (hv : v ∈ gs) (hn1 : v ∉ x1.hs) (hin : v ∉ V) :
    (y.take (r v)).1.done ∨ Jb gs N c x1 13 a (V ++ [v]) (y.take (r v)).1 (sendW [] (y.take (r v)).2) nk0 (nk + bumps (r v) y) ∨ ((y.take (r v)).2 = [] ∧ Jc gs N c x1 13 a (V ++ [v]) (y.take (r v)).1 nk0 (nk + bumps (r v) y)) := by
  have hys : y.st = .prep := h.st.trans hst
  have hl : y.live := by unfold X.live; rw [hys]; trivial
  have hn : v ∉ y.hs := fun h1 => (h.hsV v h1).elim hn1 hin
  have hw := wants_r A h hv
  have hfr : y.p.fresh y.hs (r v).fi = true := (fresh_iff _ _ _).2 (by rw [fi_r A, h.inv.gse]; exact ⟨hv, hn⟩)
  have hkr := kind_r (v := v) A
  have hrr := rnd_r (v := v) A h
  have e0 : y.take (r v) = if (r v).kind = 16 then y.known (r v) else if (r v).kind = 14 then y.nack (r v) else y.countP (r v) := by
    unfold X.take; rw [hys]; simp only [hw, if_true]
  rw [e0, hkr]
  rcases A.kinds v hv with hk | hk | hk
  · left
    rw [if_pos hk]
    exact ⟨_, rfl⟩
  · right; right
    rw [if_neg (by omega), if_pos hk]
    have e : y.nack (r v) = (⟨y.p.nack (r v).s0, y.st, y.hs ++ [v], y.ms⟩, []) := by
      unfold X.nack; rw [if_pos hfr, fi_r A]
    have hb : bumps (r v) y = 1 := by unfold bumps; rw [if_pos ⟨by rw [hkr]; exact hk, hrr⟩]
    rw [e, hb]
    exact ⟨rfl, h.nack_ A hv hn hk (by decide)⟩
  · rw [if_neg (by omega), if_neg (by omega)]
    have hb : bumps (r v) y = 0 := by unfold bumps; rw [if_neg (by rw [hkr]; omega)]
    rw [hb, Int.add_zero]
    have ht := h.inv.takes hl (m := r v) hv hn
    have htk := h.inv.took hl (m := r v) hv hn
    have hown := own_r A h hv hk
    unfold X.countP
    rw [if_pos ⟨by rw [hkr]; exact hk, hown, hfr⟩, fi_r A, ht, htk]
    have hrn : y.p.rnd = x1.p.rnd := by rw [h.p]
    by_cases hq : (gs.length : Int) / 2 + 1 ≤ (y.ms.length : Int) + 1
    · right; left
      rw [if_pos (by simpa using hq), if_neg (by omega)]
      have hout : ∀ l : List GM, l.length ≤ 1000 → sendW [] l = l := by
        intro l hl
        have gen : ∀ (l w : List GM), w.length + l.length ≤ 4000 → sendW w l = w ++ l := by
          intro l
          induction l with
          | nil => intro w _; simp [sendW]
          | cons m l ih =>
            intro w h
            simp only [List.length_cons] at h
            have : sendW w (m :: l) = sendW (w ++ [m]) l := by simp only [sendW, List.foldl_cons]; rw [if_pos (by omega)]
            rw [this, ih (w ++ [m]) (by simp; omega)]
            simp
        simpa using gen l [] (by simp; omega)
      refine ⟨XI.fresh_ h.inv.gse h.inv.cle h.inv.b1 (h.inv.bN) (h.inv.nN) (by show 1 ≤ y.p.rnd + 1; have := h.inv.r1; omega) (by show y.p.rnd + 1 ≤ N; omega) (fun e => by cases e), ⟨_, rfl, ?_⟩, rfl, rfl, rfl, by show y.p.rnd + 1 = _; rw [hrn], ⟨by show y.p.bal = _; rw [h.p], by show y.p.cl = _; rw [h.p]⟩, ⟨y.keys ++ [v], ?_, ?_, ?_⟩, h.nkm⟩
      · rw [h.inv.gse, hout _ (by simp only [PS.outA, List.length_map]; exact g.len)]
        rfl
      · exact nodup_snoc h.inv.kn (fun h1 => hn (h.inv.ksub _ h1))
      · simp [X.keys]; omega
      · intro u hu
        rcases List.mem_append.1 hu with h1 | h1
        · exact (h.kV u h1).imp id (fun e => ⟨List.mem_append_left _ e.1, e.2⟩)
        · simp at h1; subst h1; exact .inr ⟨by simp, hk⟩
    · right; right
      rw [if_neg (by simpa using hq)]
      exact ⟨rfl, h.count_ A hv hn hk (by decide) (by omega)⟩
/-- One answer of the second phase. -/
theorem Jc.stepA {cm : Cmd} (A : Ans gs N x1 15 a r) (h : Jc gs N c x1 15 a V y nk0 nk) (hst : x1.st = .acc cm) (hv : v ∈ gs) (hn1 : v ∉ x1.hs) :
    (y.take (r v)).1.done ∨ ((y.take (r v)).2 = [] ∧ Jc gs N c x1 15 a (V ++ [v]) (y.take (r v)).1 nk0 (nk + bumps (r v) y)) := by
  have hys : y.st = .acc cm := h.st.trans hst
  have hl : y.live := by unfold X.live; rw [hys]; trivial
  have hw := wants_r A h hv
  have hkr := kind_r (v := v) A
  have hrr := rnd_r (v := v) A h
  have e0 : y.take (r v) = if (r v).kind = 16 then y.known (r v) else if (r v).kind = 14 then y.nack (r v) else y.countA cm (r v) := by
    unfold X.take; rw [hys]; simp only [hw, if_true]
  rw [e0, hkr]
  by_cases hk16 : (a v).kind = 16
  · left
    rw [if_pos hk16]
    exact ⟨_, rfl⟩
  rw [if_neg hk16]
  by_cases hin : v ∈ V
  · right
    have hno : ¬ y.p.fresh y.hs (r v).fi = true := fun hf => by
      have := ((fresh_iff _ _ _).1 hf).2
      rw [fi_r A] at this
      exact this (h.Vh v hin)
    have e : (if (a v).kind = 14 then y.nack (r v) else y.countA cm (r v)) = (y, []) := by
      split
      · unfold X.nack; rw [if_neg hno]
      · unfold X.countA; rw [if_neg (fun h => hno h.2.2)]
    rw [e]
    exact ⟨rfl, h.again_ (bumps_nn _ _) hin⟩
  · have hn : v ∉ y.hs := fun h1 => (h.hsV v h1).elim hn1 hin
    have hfr : y.p.fresh y.hs (r v).fi = true := (fresh_iff _ _ _).2 (by rw [fi_r A, h.inv.gse]; exact ⟨hv, hn⟩)
    rcases A.kinds v hv with hk | hk | hk
    · exact (hk16 hk).elim
    · right
      rw [if_pos hk]
      have e : y.nack (r v) = (⟨y.p.nack (r v).s0, y.st, y.hs ++ [v], y.ms⟩, []) := by
        unfold X.nack; rw [if_pos hfr, fi_r A]
      have hb : bumps (r v) y = 1 := by unfold bumps; rw [if_pos ⟨by rw [hkr]; exact hk, hrr⟩]
      rw [e, hb]
      exact ⟨rfl, h.nack_ A hv hn hk (by decide)⟩
    · rw [if_neg (by omega)]
      have hb : bumps (r v) y = 0 := by unfold bumps; rw [if_neg (by rw [hkr]; omega)]
      rw [hb, Int.add_zero]
      have ht := h.inv.takes hl (m := r v) hv hn
      have htk := h.inv.took hl (m := r v) hv hn
      have hown := own_r A h hv hk
      unfold X.countA
      rw [if_pos ⟨by rw [hkr]; exact hk, hown, hfr⟩, fi_r A, ht, htk]
      by_cases hq : (gs.length : Int) / 2 + 1 ≤ (y.ms.length : Int) + 1
      · left
        rw [if_pos (by simpa using hq)]
        exact ⟨_, rfl⟩
      · right
        rw [if_neg (by simpa using hq)]
        exact ⟨rfl, h.count_ A hv hn hk (by decide) (by omega)⟩
end
end Go.Proofs.Ytofaoblfemfkiaa

namespace Go.Proofs.Ytofaoblfemfkiaa
open Go Go.RowKit Go.Fw
set_option linter.unusedSimpArgs false
set_option linter.unusedVariables false
set_option maxRecDepth 4000
set_option maxHeartbeats 2000000


theorem sendW_nil (w : List GM) : sendW w [] = w := rfl
theorem HP.answers_ins : ∀ (l : List GM) (t : HP) {j : Nat} {y : X} {w : List GM} {nk : Int}, At t j y w nk → (∀ m ∈ l, m.tc = true ∧ m.ti - 1 = (j : Int)) → (t.answers l).ins = t.ins
  | [], _, _, _, _, _, _, _ => rfl
  | m :: l, t, j, y, w, nk, h, hm => by
    obtain ⟨h1, h2, _⟩ := h.step (hm m (List.mem_cons_self ..)).1 (hm m (List.mem_cons_self ..)).2
    show ((t.deliver m).answers l).ins = _
    rw [HP.answers_ins l _ h1 (fun a ha => hm a (List.mem_cons_of_mem _ ha)), h2]
section
variable {gs : List Int} {N c : Int} {x1 : X} {kd : Int} {a r : Int → GM}
theorem Jc.start (h : XI gs N c x1) (nk0 : Int) : Jc gs N c x1 kd a [] x1 nk0 nk0 :=
  ⟨h, rfl, rfl, fun _ h => h, fun _ h => .inl h, (fun _ h => by cases h), fun _ h => h, fun _ h => .inl h, (fun _ h => by cases h), (fun _ h => by cases h), (fun _ h => by cases h), id, fun h => .inl h, Int.le_refl _⟩
/-- All answers of the first phase. -/
theorem allP (g : Grp gs) (A : Ans gs N x1 13 a r) (hx : XI gs N c x1) (hst : x1.st = .prep) (hN : x1.p.rnd < N ∧ N < 1099511627776) {t : HP} {j : Nat} {nk0 : Int} (hj : x1.p.cl - 1 = (j : Int)) (h0 : At t j x1 [] nk0) :
    ∀ (n : Nat) (V : List Int), V.length = n → (∀ v ∈ V, v ∈ gs ∧ v ∉ x1.hs) → V.Nodup → ∃ y w nk, At (t.answers (V.map r)) j y w nk ∧ (y.done ∨ Jb gs N c x1 13 a V y w nk0 nk ∨ (w = [] ∧ Jc gs N c x1 13 a V y nk0 nk))
  | 0, V, hn, _, _ => by
    have : V = [] := List.eq_nil_of_length_eq_zero hn
    subst this
    exact ⟨x1, [], nk0, h0, .inr (.inr ⟨rfl, Jc.start hx nk0⟩)⟩
  | n + 1, V, hn, hv, hnd => by
    have hne : V ≠ [] := fun e => by subst e; simp at hn
    obtain ⟨V', v, rfl⟩ : ∃ V' v, V = V' ++ [v] := ⟨V.dropLast, V.getLast hne, (List.dropLast_concat_getLast hne).symm⟩
    simp only [List.length_append, List.length_singleton] at hn
    obtain ⟨hnd1, _, hdis⟩ := List.nodup_append.1 hnd
    obtain ⟨y, w, nk, hat, hres⟩ := allP g A hx hst hN hj h0 n V' (by omega) (fun u hu => hv u (List.mem_append_left _ hu)) hnd1
    obtain ⟨hvg, hvh⟩ := hv v (by simp)
    have hrt : (r v).tc = true ∧ (r v).ti - 1 = (j : Int) := by rw [A.r v]; exact ⟨rfl, hj⟩
    obtain ⟨hat', _, _⟩ := hat.step hrt.1 hrt.2
    rw [List.map_append, List.map_singleton, HP.answers_snoc]
    refine ⟨_, _, _, hat', ?_⟩
    have hbn := bumps_nn (r v) y
    rcases hres with hd | hb | ⟨hw, hc⟩
    · left
      rw [done_take hd]
      exact hd
    · right; left
      have hno : ¬ y.p.wants (r v) = true := by
        intro h
        simp only [PS.wants, Bool.and_eq_true, decide_eq_true_eq] at h
        have e1 : (r v).rnd = y.p.rnd := h.1.2
        have e2 : (r v).rnd = x1.p.rnd := by rw [A.r v]
        have e3 := hb.rnd
        omega
      obtain ⟨cm, hacc, hout⟩ := hb.st
      have e : y.take (r v) = (y, []) := by unfold X.take; rw [hacc]; simp only [hno]; rfl
      rw [e, sendW_nil]
      exact { hb with U := by obtain ⟨U, u1, u2, u3⟩ := hb.U; exact ⟨U, u1, u2, fun u hu => (u3 u hu).imp id (fun h => ⟨List.mem_append_left _ h.1, h.2⟩)⟩, nkm := by have := hb.nkm; omega }
    · subst hw
      rcases hc.stepP g A hst hN hvg hvh (fun h => hdis v h v (by simp) rfl) with h1 | h1 | ⟨h1, h2⟩
      · exact .inl h1
      · exact .inr (.inl h1)
      · exact .inr (.inr ⟨by rw [h1]; rfl, h2⟩)
/-- All answers of the second phase. -/
theorem allA {cm : Cmd} (A : Ans gs N x1 15 a r) (hx : XI gs N c x1) (hst : x1.st = .acc cm) {t : HP} {j : Nat} {nk0 : Int} (hj : x1.p.cl - 1 = (j : Int)) (h0 : At t j x1 [] nk0) :
    ∀ (n : Nat) (V : List Int), V.length = n → (∀ v ∈ V, v ∈ gs ∧ v ∉ x1.hs) → ∃ y w nk, At (t.answers (V.map r)) j y w nk ∧ (y.done ∨ (w = [] ∧ Jc gs N c x1 15 a V y nk0 nk))
  | 0, V, hn, _ => by
    have : V = [] := List.eq_nil_of_length_eq_zero hn
    subst this
    exact ⟨x1, [], nk0, h0, .inr ⟨rfl, Jc.start hx nk0⟩⟩
  | n + 1, V, hn, hv => by
    have hne : V ≠ [] := fun e => by subst e; simp at hn
    obtain ⟨V', v, rfl⟩ : ∃ V' v, V = V' ++ [v] := ⟨V.dropLast, V.getLast hne, (List.dropLast_concat_getLast hne).symm⟩
    simp only [List.length_append, List.length_singleton] at hn
    obtain ⟨y, w, nk, hat, hres⟩ := allA A hx hst hj h0 n V' (by omega) (fun u hu => hv u (List.mem_append_left _ hu))
    obtain ⟨hvg, hvh⟩ := hv v (by simp)
    have hrt : (r v).tc = true ∧ (r v).ti - 1 = (j : Int) := by rw [A.r v]; exact ⟨rfl, hj⟩
    obtain ⟨hat', _, _⟩ := hat.step hrt.1 hrt.2
    rw [List.map_append, List.map_singleton, HP.answers_snoc]
    refine ⟨_, _, _, hat', ?_⟩
    rcases hres with hd | ⟨hw, hc⟩
    · left
      rw [done_take hd]
      exact hd
    · subst hw
      rcases hc.stepA A hst hvg hvh with h1 | ⟨h1, h2⟩
      · exact .inl h1
      · exact .inr ⟨by rw [h1]; rfl, h2⟩
end
/-! ### What a server answers -/
theorem less_irr (a b : Int) : stampLess a b a b = false := by simp [stampLess]
theorem prep_same (i : Inst) (b c : Int) : (i.prep b c).1.prep b c = ((i.prep b c).1, (i.prep b c).2) := by
  cases h : i.refuse b c with
  | some m => simp [Inst.prep, h]
  | none =>
    have hd : i.d = false := by
      unfold Inst.refuse at h
      cases hd : i.d
      · rfl
      · simp [hd] at h
    have h2 : (i.promised b c).refuse b c = none := by simp [Inst.refuse, Inst.promised, hd, less_irr]
    simp only [Inst.prep, h, h2]
    rfl
theorem acc_same (i : Inst) (b c : Int) (cm : Cmd) : (i.acc b c cm).1.acc b c cm = ((i.acc b c cm).1, (i.acc b c cm).2) := by
  cases h : i.refuse b c with
  | some m => simp [Inst.acc, h]
  | none =>
    have h2 : (Inst.mk b c b c cm false).refuse b c = none := by simp [Inst.refuse, less_irr]
    simp only [Inst.acc, h, h2]
theorem updP (gs : List Int) (p : PS) (b c : Int) : Upd gs (fun v => (GM.prepare b c).sent p v) (fun i => i.prep b c) :=
  ⟨fun _ => rfl, fun _ => rfl, fun s k i v h1 h2 => by
    unfold HP.toServer
    rw [if_pos (show s.gs[k]? = some ((GM.prepare b c).sent p v).ti from h1)]
    simp only [h2]
    rfl, fun i => prep_same i b c⟩
theorem updA (gs : List Int) (p : PS) (b c : Int) (cm : Cmd) : Upd gs (fun v => (GM.accept b c cm).sent p v) (fun i => i.acc b c cm) :=
  ⟨fun _ => rfl, fun _ => rfl, fun s k i v h1 h2 => by
    unfold HP.toServer
    rw [if_pos (show s.gs[k]? = some ((GM.accept b c cm).sent p v).ti from h1)]
    simp only [h2]
    rfl, fun i => acc_same i b c cm⟩
/-- The three ways of an answer. -/
theorem refuse_cases (i : Inst) (b c : Int) : (∃ m, i.refuse b c = some m ∧ m.kind = 16) ∨ (∃ m, i.refuse b c = some m ∧ m.kind = 14 ∧ m.s0 = i.p0) ∨ i.refuse b c = none := by
  unfold Inst.refuse
  split
  · exact .inl ⟨_, rfl, rfl⟩
  · split
    · exact .inr (.inl ⟨_, rfl, rfl, rfl⟩)
    · exact .inr (.inr rfl)
theorem prep_some {i : Inst} {b c : Int} {m : GM} (h : i.refuse b c = some m) : i.prep b c = (i, m) := by simp [Inst.prep, h]
theorem prep_none {i : Inst} {b c : Int} (h : i.refuse b c = none) : i.prep b c = (i.promised b c, promiseM i b c) := by simp [Inst.prep, h]
theorem acc_some {i : Inst} {b c : Int} {cm : Cmd} {m : GM} (h : i.refuse b c = some m) : i.acc b c cm = (i, m) := by simp [Inst.acc, h]
theorem acc_none {i : Inst} {b c : Int} {cm : Cmd} (h : i.refuse b c = none) : i.acc b c cm = (⟨b, c, b, c, cm, false⟩, acceptedM b c) := by simp [Inst.acc, h]
theorem promised_ok {i : Inst} {b c : Int} (h : i.refuse b c = none) : (i.promised b c).refuse b c = none := by
  have hd : i.d = false := by
    unfold Inst.refuse at h
    cases hd : i.d
    · rfl
    · simp [hd] at h
  simp [Inst.refuse, Inst.promised, hd, less_irr]
theorem no_nack {i : Inst} {b c : Int} (h : i.p0 < b) : (∃ m, i.refuse b c = some m ∧ m.kind = 16) ∨ i.refuse b c = none := by
  unfold Inst.refuse
  split
  · exact .inl ⟨_, rfl, rfl⟩
  · rw [if_neg]
    · exact .inr rfl
    · simp [stampLess]; omega
end Go.Proofs.Ytofaoblfemfkiaa

namespace Go.Proofs.Ytofaoblfemfkiaa
open Go Go.RowKit Go.Fw
set_option linter.unusedSimpArgs false
set_option linter.unusedVariables false
set_option maxRecDepth 4000
set_option maxHeartbeats 2000000


section
variable {gs : List Int} {K N : Int} {W : Nat} {s : HP} {down : Int}
theorem HInv.toAlive_ {m : GM} (g : Grp gs) (h : HInv gs K N W s) (hm : GoodM N m) (h0 : 0 ≤ N) (hN : N < 1099511627776) (hW : 4000 ≤ W) (k : Nat) : HInv gs (K + 1) (N + 1) W (s.toAlive down m k) := by
  unfold HP.toAlive
  split
  · have := h.deliver_ g hm h0 hN
    rwa [show max W 4000 = W by omega] at this
  · exact h.up (by omega) (by omega) (Nat.le_refl _)
theorem HInv.lets_ {m : GM} (g : Grp gs) (h : HInv gs K N W s) (hm : GoodM N m) (h0 : 0 ≤ N) (hW : 4000 ≤ W) : ∀ k : Nat, N + k < 1099511627776 → HInv gs (K + k) (N + k) W (s.lets down m k)
  | 0, _ => h.up (by simp) (by simp) (Nat.le_refl _)
  | k + 1, hN => by
    rw [HP.lets_succ]
    have := (HInv.lets_ g h hm h0 hW k (by omega)).toAlive_ (down := down) g (hm.up (by omega)) (by omega) (by omega) hW k
    exact this.up (by omega) (by omega) (Nat.le_refl _)
theorem HInv.puts_ (g : Grp gs) (hW : 4000 ≤ W) : ∀ (l : List GM) {K N : Int} {s : HP}, HInv gs K N W s → (∀ m ∈ l, GoodM N m) → 0 ≤ N → N + 1000 * (l.length : Int) < 1099511627776 → HInv gs (K + 1000 * (l.length : Int)) (N + 1000 * (l.length : Int)) W (s.puts down l)
  | [], K, N, s, h, _, _, _ => h.up (by simp) (by simp) (Nat.le_refl _)
  | m :: l, K, N, s, h, hm, h0, hN => by
    simp only [List.length_cons] at hN ⊢
    have hg := g.len
    have h1 := (h.lets_ (down := down) g (hm m (List.mem_cons_self ..)) h0 hW gs.length (by omega)).up (show _ ≤ K + 1000 by omega) (show _ ≤ N + 1000 by omega) (Nat.le_refl W)
    have h2 := HInv.puts_ g hW l h1 (fun a ha => (hm a (List.mem_cons_of_mem _ ha)).up (by omega)) (by omega) (by omega)
    show HInv gs _ _ W ((s.lets down m s.gs.length).puts down l)
    rw [h.gse]
    exact h2.up (by omega) (by omega) (Nat.le_refl _)
theorem HInv.answers_ (g : Grp gs) (hW : 4000 ≤ W) : ∀ (l : List GM) {K N : Int} {s : HP}, HInv gs K N W s → (∀ m ∈ l, GoodM N m) → 0 ≤ N → N + (l.length : Int) < 1099511627776 → HInv gs (K + (l.length : Int)) (N + (l.length : Int)) W (s.answers l)
  | [], K, N, s, h, _, _, _ => h.up (by simp) (by simp) (Nat.le_refl _)
  | m :: l, K, N, s, h, hm, h0, hN => by
    simp only [List.length_cons] at hN ⊢
    have h1 := h.deliver_ g (hm m (List.mem_cons_self ..)) h0 (by omega)
    rw [show max W 4000 = W by omega] at h1
    have h2 := HInv.answers_ g hW l h1 (fun a ha => (hm a (List.mem_cons_of_mem _ ha)).up (by omega)) (by omega) (by omega)
    show HInv gs _ _ W ((s.deliver m).answers l)
    exact h2.up (by omega) (by omega) (Nat.le_refl _)
theorem HInv.noWay (h : HInv gs K N W s) : HInv gs K N W { s with way := [] } :=
  ⟨h.gse, h.il, h.nl, h.nl2, h.nk, Nat.zero_le _, h.xl, h.xs, h.ins, (fun _ h => by cases h), h.rfk⟩
end
/-- A hall ahead of an exchange. -/
structure ES (gs : List Int) (K N : Int) (j : Nat) (s : HP) (x : X) : Prop where
  inv : HInv gs K N 4000 s
  hj : j < s.xs.length
  hx : s.xs[j]? = some x
  wi : s.way = [] ∨ ∃ cm, x.st = .acc cm ∧ x.hs = [] ∧ x.ms = [] ∧ x.p.rf = false ∧ s.way = x.p.outA cm gs
theorem ES.xi {gs : List Int} {K N : Int} {j : Nat} {s : HP} {x : X} (E : ES gs K N j s x) : XI gs N ((j : Int) + 1) x := by
  obtain ⟨h1, h2⟩ := List.getElem?_eq_some_iff.1 E.hx
  rw [← h2]
  exact E.inv.xs j h1
def HP.s0 (s : HP) (j : Nat) (x : X) : HP := { s with xs := s.xs.set j x.tick.1, way := [] }
def HP.outs (s : HP) (j : Nat) (x : X) : List GM := s.way.filter (fun m => m.mineOf ((j : Int) + 1)) ++ x.tick.2
theorem exchange_eq {s : HP} {j : Nat} {x : X} {down : Int} (hx : s.xs[j]? = some x) : s.exchange j down = ({ (s.s0 j x).puts down (s.outs j x) with way := [] } : HP).answers ((s.s0 j x).puts down (s.outs j x)).way := by
  unfold HP.exchange
  rw [hx]
  rfl
section
variable {gs : List Int} {K N : Int} {j : Nat} {s : HP} {x : X} {down : Int}
theorem ES.s0_ (g : Grp gs) (E : ES gs K N j s x) (hN : N < 1099511627776) : HInv gs K (N + 1) 4000 (s.s0 j x) := by
  have := E.inv.turned (way := []) (l := []) E.hj (y := x.tick.1) (E.xi.tick_ hN) (fun a b => (XI.tick_rf a b).elim) (fun _ h => by cases h) (Nat.zero_le _) (fun _ h => by cases h)
  exact this
theorem ES.outs_good (g : Grp gs) (E : ES gs K N j s x) (hN : N < 1099511627776) (hj : j < 1000) : ∀ m ∈ s.outs j x, GoodM (N + 1) m := fun m hm => by
  rcases List.mem_append.1 hm with h | h
  · exact (E.inv.wm m (List.mem_filter.1 h).1).up (by omega)
  · exact E.xi.tick_good g hN (by omega) m h
theorem ES.outs_len (g : Grp gs) (E : ES gs K N j s x) : (s.outs j x).length ≤ 5000 := by
  have h1 := List.length_filter_le (fun m : GM => m.mineOf ((j : Int) + 1)) s.way
  have h2 := E.inv.wl
  have h3 := X.tick_len x
  rw [E.xi.gse] at h3
  have h4 := g.len
  unfold HP.outs
  rw [List.length_append]
  omega
theorem ES.next (g : Grp gs) (E : ES gs K N j s x) (h0 : 0 ≤ N) (hN : N < 1000000000000) (hj : j < 1000) : HInv gs (K + 10000000) (N + 10000000) 4000 (s.exchange j down) := by
  have hl := E.outs_len g
  have h1 := (E.s0_ g (by omega)).puts_ (down := down) g (Nat.le_refl _) (s.outs j x) (E.outs_good g (by omega) hj) (by omega) (by omega)
  have h2 := h1.noWay.answers_ g (Nat.le_refl _) ((s.s0 j x).puts down (s.outs j x)).way h1.wm (by omega) (by have := h1.wl; omega)
  rw [exchange_eq E.hx]
  exact h2.up (by have := h1.wl; omega) (by have := h1.wl; omega) (Nat.le_refl _)
theorem ES.pre1 (g : Grp gs) (E : ES gs K N j s x) (h0 : 0 ≤ N) (hN : N < 1000000000000) (hK : K ≤ 500000000) (hj : j < 1000) (k : Nat) (hk : k < (s.outs j x).length) (i : Nat) (hi : i < gs.length) : Pre (((s.s0 j x).puts down ((s.outs j x).take k)).lets down (s.outs j x)[k] i) (s.outs j x)[k] := by
  have hl := E.outs_len g
  have hlt := List.length_take_le k (s.outs j x)
  have hgood := E.outs_good g (by omega) hj
  have hgl := g.len
  have h1 := (E.s0_ g (by omega)).puts_ (down := down) g (Nat.le_refl _) ((s.outs j x).take k) (fun m hm => hgood m (List.mem_of_mem_take hm)) (by omega) (by omega)
  have hmk := hgood _ (List.getElem_mem hk)
  have h2 := h1.lets_ (down := down) g (hmk.up (by omega)) (by omega) (Nat.le_refl _) i (by omega)
  exact h2.pre g (by omega) (by omega) (hmk.up (by omega))
theorem ES.pre2 (g : Grp gs) (E : ES gs K N j s x) (h0 : 0 ≤ N) (hN : N < 1000000000000) (hK : K ≤ 500000000) (hj : j < 1000) (k : Nat) (hk : k < ((s.s0 j x).puts down (s.outs j x)).way.length) : Pre (({ (s.s0 j x).puts down (s.outs j x) with way := [] } : HP).answers (((s.s0 j x).puts down (s.outs j x)).way.take k)) ((s.s0 j x).puts down (s.outs j x)).way[k] := by
  have hl := E.outs_len g
  have h1 := (E.s0_ g (by omega)).puts_ (down := down) g (Nat.le_refl _) (s.outs j x) (E.outs_good g (by omega) hj) (by omega) (by omega)
  have hlt := List.length_take_le k ((s.s0 j x).puts down (s.outs j x)).way
  have hwl := h1.wl
  have h2 := h1.noWay.answers_ g (Nat.le_refl _) (((s.s0 j x).puts down (s.outs j x)).way.take k) (fun m hm => h1.wm m (List.mem_of_mem_take hm)) (by omega) (by omega)
  exact h2.pre g (by omega) (by omega) ((h1.wm _ (List.getElem_mem hk)).up (by omega))
theorem ES.way2 (g : Grp gs) (E : ES gs K N j s x) (h0 : 0 ≤ N) (hN : N < 1000000000000) (hj : j < 1000) : ((s.s0 j x).puts down (s.outs j x)).way.length ≤ 4000 :=
  ((E.s0_ g (by omega)).puts_ (down := down) g (Nat.le_refl _) (s.outs j x) (E.outs_good g (by omega) hj) (by omega) (by have := E.outs_len g; omega)).wl
def al (gs : List Int) (down : Int) (v : Int) : Bool := alive down (gs.idxOf v)
theorem inst_s0 (s : HP) (j : Nat) (x : X) (k : Nat) : (s.s0 j x).inst k = s.inst k := rfl
theorem inst_le (h : HInv gs K N 4000 s) (h0 : 0 ≤ N) (k : Nat) : (s.inst k).p0 ≤ N := by
  unfold HP.inst
  cases hk : s.ins[k]? with
  | none => exact h0
  | some i => exact h.ins i (List.mem_of_getElem? hk)
theorem inst_congr {t u : HP} (h : t.ins = u.ins) {k : Nat} : t.inst k = u.inst k := by unfold HP.inst; rw [h]
/-- An exchange of the first phase. -/
theorem exP (g : Grp gs) (E : ES gs K N j s x) (h0 : 0 ≤ N) (hN : N < 1000000000000) {L : List Int} (hst : x.tick.1.st = .prep) (hout : s.outs j x = L.map fun v => (GM.prepare x.tick.1.p.bal x.tick.1.p.cl).sent x.tick.1.p v)
    (hL : ∀ v ∈ L, v ∈ gs ∧ v ∉ x.tick.1.hs) (hnd : L.Nodup) (nk0 : Int) (hnk : s.nks[j]? = some nk0) :
    ∃ y w nk, At (s.exchange j down) j y w nk ∧ (∀ k (hk : k < gs.length), (s.exchange j down).inst k = if alive down k = true ∧ gs[k] ∈ L then ((s.inst k).prep x.tick.1.p.bal x.tick.1.p.cl).1 else s.inst k) ∧
      (y.done ∨ Jb gs (N + 2) ((j : Int) + 1) x.tick.1 13 (fun v => ((s.inst (gs.idxOf v)).prep x.tick.1.p.bal x.tick.1.p.cl).2) (L.filter (al gs down)) y w nk0 nk ∨
        (w = [] ∧ Jc gs (N + 2) ((j : Int) + 1) x.tick.1 13 (fun v => ((s.inst (gs.idxOf v)).prep x.tick.1.p.bal x.tick.1.p.cl).2) (L.filter (al gs down)) y nk0 nk)) := by
  obtain ⟨x1, hx1⟩ : ∃ x1, x1 = x.tick.1 := ⟨_, rfl⟩
  rw [← hx1] at hst hout hL ⊢
  have hxi : XI gs (N + 1) ((j : Int) + 1) x1 := by rw [hx1]; exact E.xi.tick_ (by omega)
  have hLl : L.length ≤ 1000 := Nat.le_trans (nodup_len hnd (fun v hv => (hL v hv).1)) g.len
  have hS := sent_all (down := down) (s := s.s0 j x) g (updP gs x1.p x1.p.bal x1.p.cl) E.inv.gse E.inv.il _ L rfl (by show 0 + L.length ≤ 4000; omega) (fun v hv => (hL v hv).1)
  rw [← hout] at hS
  have hA : Ans gs (N + 2) x1 13 (fun v => ((s.inst (gs.idxOf v)).prep x1.p.bal x1.p.cl).2) (fun v => reply ((GM.prepare x1.p.bal x1.p.cl).sent x1.p v) ((s.inst (gs.idxOf v)).prep x1.p.bal x1.p.cl).2) := by
    have hb := hxi.bN
    have pg := fun v => prep_good (i := s.inst (gs.idxOf v)) (s0 := x1.p.bal) (s1 := x1.p.cl) (N := N + 1) (by have := inst_le E.inv h0 (gs.idxOf v); omega) (by omega) hb
    refine ⟨fun v _ => (pg v).2.1, fun v _ hk => ?_, fun v _ => by have := (pg v).2.2; omega, fun v => rfl⟩
    rcases refuse_cases (s.inst (gs.idxOf v)) x1.p.bal x1.p.cl with ⟨m, h1, h2⟩ | ⟨m, h1, h2, _⟩ | h1
    · rw [prep_some h1] at hk; simp only at hk; omega
    · rw [prep_some h1] at hk; simp only at hk; omega
    · simp only [prep_none h1]; exact ⟨rfl, rfl⟩
  have hat0 : At ({ (s.s0 j x).puts down (s.outs j x) with way := [] } : HP) j x1 [] nk0 := by
    refine ⟨?_, rfl, ?_⟩
    · show ((s.s0 j x).puts down (s.outs j x)).xs[j]? = _
      rw [hS.xs, hx1]
      exact List.getElem?_set_self E.hj
    · show ((s.s0 j x).puts down (s.outs j x)).nks[j]? = _
      rw [hS.nks]
      exact hnk
  have hway : ((s.s0 j x).puts down (s.outs j x)).way = (L.filter (al gs down)).map fun v => reply ((GM.prepare x1.p.bal x1.p.cl).sent x1.p v) ((s.inst (gs.idxOf v)).prep x1.p.bal x1.p.cl).2 := hS.way
  have hV : ∀ v ∈ L.filter (al gs down), v ∈ gs ∧ v ∉ x1.hs := fun v hv => hL v (List.mem_filter.1 hv).1
  have hcl : x1.p.cl - 1 = (j : Int) := by rw [hxi.cle]; omega
  obtain ⟨y, w, nk, hat, hres⟩ := allP g hA (hxi.up (by omega)) hst (by have := hxi.rN; omega) hcl hat0 _ (L.filter (al gs down)) rfl hV (hnd.filter _)
  rw [exchange_eq E.hx, hway]
  refine ⟨y, w, nk, hat, fun k hk => ?_, hres⟩
  have hins := HP.answers_ins ((L.filter (al gs down)).map fun v => reply ((GM.prepare x1.p.bal x1.p.cl).sent x1.p v) ((s.inst (gs.idxOf v)).prep x1.p.bal x1.p.cl).2) _ hat0 (fun m hm => by
    obtain ⟨v, _, rfl⟩ := List.mem_map.1 hm
    exact ⟨rfl, hcl⟩)
  rw [inst_congr hins]
  exact hS.ins k hk
end

section
variable {gs : List Int} {K N : Int} {j : Nat} {s : HP} {x : X} {down : Int}
/-- An exchange of the second phase. -/
theorem exA (g : Grp gs) (E : ES gs K N j s x) (h0 : 0 ≤ N) (hN : N < 1000000000000) {L : List Int} {cm : Cmd} (hst : x.tick.1.st = .acc cm) (hout : s.outs j x = L.map fun v => (GM.accept x.tick.1.p.bal x.tick.1.p.cl cm).sent x.tick.1.p v)
    (hL : ∀ v ∈ L, v ∈ gs ∧ v ∉ x.tick.1.hs) (hLl : L.length ≤ 4000) (nk0 : Int) (hnk : s.nks[j]? = some nk0) :
    ∃ y w nk, At (s.exchange j down) j y w nk ∧ (∀ k (hk : k < gs.length), (s.exchange j down).inst k = if alive down k = true ∧ gs[k] ∈ L then ((s.inst k).acc x.tick.1.p.bal x.tick.1.p.cl cm).1 else s.inst k) ∧
      (y.done ∨
        (w = [] ∧ Jc gs (N + 2) ((j : Int) + 1) x.tick.1 15 (fun v => ((s.inst (gs.idxOf v)).acc x.tick.1.p.bal x.tick.1.p.cl cm).2) (L.filter (al gs down)) y nk0 nk)) := by
  obtain ⟨x1, hx1⟩ : ∃ x1, x1 = x.tick.1 := ⟨_, rfl⟩
  rw [← hx1] at hst hout hL ⊢
  have hxi : XI gs (N + 1) ((j : Int) + 1) x1 := by rw [hx1]; exact E.xi.tick_ (by omega)
  have hS := sent_all (down := down) (s := s.s0 j x) g (updA gs x1.p x1.p.bal x1.p.cl cm) E.inv.gse E.inv.il _ L rfl (by show 0 + L.length ≤ 4000; omega) (fun v hv => (hL v hv).1)
  rw [← hout] at hS
  have hA : Ans gs (N + 2) x1 15 (fun v => ((s.inst (gs.idxOf v)).acc x1.p.bal x1.p.cl cm).2) (fun v => reply ((GM.accept x1.p.bal x1.p.cl cm).sent x1.p v) ((s.inst (gs.idxOf v)).acc x1.p.bal x1.p.cl cm).2) := by
    have hb := hxi.bN
    have pg := fun v => acc_good (c := cm) (i := s.inst (gs.idxOf v)) (s0 := x1.p.bal) (s1 := x1.p.cl) (N := N + 1) (by have := inst_le E.inv h0 (gs.idxOf v); omega) (by omega) hb
    refine ⟨fun v _ => (pg v).2.1, fun v _ hk => ?_, fun v _ => by have := (pg v).2.2; omega, fun v => rfl⟩
    rcases refuse_cases (s.inst (gs.idxOf v)) x1.p.bal x1.p.cl with ⟨m, h1, h2⟩ | ⟨m, h1, h2, _⟩ | h1
    · rw [acc_some h1] at hk; simp only at hk; omega
    · rw [acc_some h1] at hk; simp only at hk; omega
    · simp only [acc_none h1]; exact ⟨rfl, rfl⟩
  have hat0 : At ({ (s.s0 j x).puts down (s.outs j x) with way := [] } : HP) j x1 [] nk0 := by
    refine ⟨?_, rfl, ?_⟩
    · show ((s.s0 j x).puts down (s.outs j x)).xs[j]? = _
      rw [hS.xs, hx1]
      exact List.getElem?_set_self E.hj
    · show ((s.s0 j x).puts down (s.outs j x)).nks[j]? = _
      rw [hS.nks]
      exact hnk
  have hway : ((s.s0 j x).puts down (s.outs j x)).way = (L.filter (al gs down)).map fun v => reply ((GM.accept x1.p.bal x1.p.cl cm).sent x1.p v) ((s.inst (gs.idxOf v)).acc x1.p.bal x1.p.cl cm).2 := hS.way
  have hV : ∀ v ∈ L.filter (al gs down), v ∈ gs ∧ v ∉ x1.hs := fun v hv => hL v (List.mem_filter.1 hv).1
  have hcl : x1.p.cl - 1 = (j : Int) := by rw [hxi.cle]; omega
  obtain ⟨y, w, nk, hat, hres⟩ := allA hA (hxi.up (by omega)) hst hcl hat0 _ (L.filter (al gs down)) rfl hV
  rw [exchange_eq E.hx, hway]
  refine ⟨y, w, nk, hat, fun k hk => ?_, hres⟩
  have hins := HP.answers_ins ((L.filter (al gs down)).map fun v => reply ((GM.accept x1.p.bal x1.p.cl cm).sent x1.p v) ((s.inst (gs.idxOf v)).acc x1.p.bal x1.p.cl cm).2) _ hat0 (fun m hm => by
    obtain ⟨v, _, rfl⟩ := List.mem_map.1 hm
    exact ⟨rfl, hcl⟩)
  rw [inst_congr hins]
  exact hS.ins k hk
end
end Go.Proofs.Ytofaoblfemfkiaa

namespace Go.Proofs.Ytofaoblfemfkiaa
open Go Go.RowKit Go.Fw
set_option linter.unusedSimpArgs false
set_option linter.unusedVariables false
set_option maxRecDepth 4000
set_option maxHeartbeats 2000000


/-! ### How far it is to the end -/
def needs (gs : List Int) : Int := (gs.length : Int) / 2 + 1
def L1 (gs : List Int) (down : Int) (s : HP) (x : X) : Prop := (∃ cm, x.st = .acc cm) ∧ x.hs = [] ∧ x.ms = [] ∧ x.p.rf = false ∧ ∃ U : List Int, U.Nodup ∧ needs gs ≤ (U.length : Int) ∧ ∀ u ∈ U, u ∈ gs ∧ al gs down u = true ∧ (s.inst (gs.idxOf u)).refuse x.p.bal x.p.cl = none
def L2 (gs : List Int) (down : Int) (s : HP) (x : X) : Prop := x.live ∧ x.p.rf = true ∧ ∀ v ∈ gs, al gs down v = true → (s.inst (gs.idxOf v)).p0 ≤ max x.p.bal x.p.nt
def L3 (x : X) : Prop := x.live ∧ (x.p.rf = true ∨ x.hs = [] ∧ x.ms = [])
/-- Enough servers are up. -/
def Maj (gs : List Int) (down : Int) : Prop := needs gs ≤ ((gs.filter (al gs down)).length : Int)
theorem Jc.live {gs : List Int} {N c : Int} {x1 : X} {kd : Int} {a : Int → GM} {V : List Int} {y : X} {nk0 nk : Int} (h : Jc gs N c x1 kd a V y nk0 nk) (hl : x1.live) : y.live := by unfold X.live at hl ⊢; rw [h.st]; exact hl
theorem Jb.live {gs : List Int} {N c : Int} {x1 : X} {kd : Int} {a : Int → GM} {V : List Int} {y : X} {w : List GM} {nk0 nk : Int} (h : Jb gs N c x1 kd a V y w nk0 nk) : y.live := by
  obtain ⟨cm, h1, _⟩ := h.st
  unfold X.live; rw [h1]; trivial
/-- Too few answers, and all who are up have answered: somebody refused. -/
theorem Jc.refused {gs : List Int} {N c : Int} {x1 : X} {kd : Int} {a : Int → GM} {V : List Int} {y : X} {nk0 nk : Int} {down : Int} (g : Grp gs) (m : Maj gs down) (h : Jc gs N c x1 kd a V y nk0 nk) (hl : x1.live) (hall : ∀ v ∈ gs, al gs down v = true → v ∈ V ∨ v ∈ x1.hs) : y.p.rf = true := by
  cases hr : y.p.rf with
  | true => rfl
  | false =>
    exfalso
    have hq := h.inv.quiet (h.live hl) hr
    have hf := h.inv.few (h.live hl)
    have hsub : ∀ v ∈ gs.filter (al gs down), v ∈ y.keys := fun v hv => by
      obtain ⟨h1, h2⟩ := List.mem_filter.1 hv
      refine hq v ?_
      rcases hall v h1 h2 with h3 | h3
      · exact h.Vh v h3
      · exact h.hs1 v h3
    have := nodup_len (g.nd.filter _) hsub
    unfold Maj needs at m
    simp only [X.keys, List.length_map] at this
    omega
theorem al_get {gs : List Int} {down v : Int} (hv : v ∈ gs) : ∃ hk : gs.idxOf v < gs.length, gs[gs.idxOf v] = v ∧ (al gs down v = true ↔ alive down (gs.idxOf v) = true) := by
  obtain ⟨h1, h2⟩ := idx_get hv
  exact ⟨h1, h2, Iff.rfl⟩
section
variable {gs : List Int} {K N : Int} {j : Nat} {s : HP} {x : X} {down : Int} {nk0 : Int}
theorem missing_heard {hs : List Int} {v : Int} : v ∈ missing gs (heardK hs) ↔ v ∈ gs ∧ v ∉ hs := by
  simp only [missing, List.mem_filter, kvGet_heard]
  simp
theorem missing_all : missing gs (heardK []) = gs := missing_nil gs
/-- What there is behind an exchange. -/
structure Aft (gs : List Int) (K N : Int) (j : Nat) (down : Int) (s : HP) (y : X) (nk0 nk : Int) : Prop where
  gx : (s.exchange j down).xs[j]? = some y
  gn : (s.exchange j down).nks[j]? = some nk
  le : nk0 ≤ nk
  es : ¬ y.done → ES gs (K + 10000000) (N + 10000000) j (s.exchange j down) y
theorem aft_of (g : Grp gs) (E : ES gs K N j s x) (h0 : 0 ≤ N) (hN : N < 1000000000000) (hj : j < 1000) {y : X} {w : List GM} {nk : Int} (h : At (s.exchange j down) j y w nk) (hle : nk0 ≤ nk) (hw : w = [] ∨ ∃ cm, y.st = .acc cm ∧ y.hs = [] ∧ y.ms = [] ∧ y.p.rf = false ∧ w = y.p.outA cm gs) : Aft gs K N j down s y nk0 nk :=
  ⟨h.x, h.nk, hle, fun _ => ⟨E.next g h0 hN hj, (List.getElem?_eq_some_iff.1 h.x).1, h.x, by rw [h.w]; exact hw⟩⟩
theorem nk_mono : ∀ (l : List GM) (t : HP) {j : Nat} {y : X} {w : List GM} {nk : Int}, At t j y w nk → (∀ m ∈ l, m.tc = true ∧ m.ti - 1 = (j : Int)) → ∃ y' w' nk', At (t.answers l) j y' w' nk' ∧ nk ≤ nk'
  | [], t, _, y, w, nk, h, _ => ⟨y, w, nk, h, Int.le_refl _⟩
  | m :: l, t, j, y, w, nk, h, hm => by
    obtain ⟨h1, _, _⟩ := h.step (hm m (List.mem_cons_self ..)).1 (hm m (List.mem_cons_self ..)).2
    obtain ⟨y', w', nk', h2, h3⟩ := nk_mono l _ h1 (fun a ha => hm a (List.mem_cons_of_mem _ ha))
    exact ⟨y', w', nk', h2, by have := bumps_nn m y; omega⟩
/-- Done: nothing is asked of it any more. -/
theorem aft_done (h : (s.exchange j down).xs[j]? = some x) (hn : ∃ nk, (s.exchange j down).nks[j]? = some nk ∧ nk0 ≤ nk) (hd : x.done) : ∃ nk, Aft gs K N j down s x nk0 nk := by
  obtain ⟨nk, h1, h2⟩ := hn
  exact ⟨nk, h, h1, h2, fun hnd => (hnd hd).elim⟩
/-- A new first phase. -/
theorem roundP (g : Grp gs) (m : Maj gs down) (E : ES gs K N j s x) (h0 : 0 ≤ N) (hN : N < 1000000000000) (hj : j < 1000) (hst : x.tick.1.st = .prep) (hh : x.tick.1.hs = []) (hm : x.tick.1.ms = []) (hout : s.outs j x = gs.map fun v => (GM.prepare x.tick.1.p.bal x.tick.1.p.cl).sent x.tick.1.p v) (hnk : s.nks[j]? = some nk0) :
    ∃ y nk, ((s.exchange j down).xs[j]? = some y ∧ (s.exchange j down).nks[j]? = some nk) ∧ (y.done ∨ (Aft gs K N j down s y nk0 nk ∧ L1 gs down (s.exchange j down) y) ∨
      (Aft gs K N j down s y nk0 nk ∧ L2 gs down (s.exchange j down) y ∧ (x.tick.1.p.rf = false → nk0 < nk) ∧ ∃ v ∈ gs, al gs down v = true ∧ ((s.inst (gs.idxOf v)).prep x.tick.1.p.bal x.tick.1.p.cl).2.kind = 14)) := by
  obtain ⟨y, w, nk, hat, hins, hres⟩ := exP (down := down) g E h0 hN hst hout (fun v hv => ⟨hv, by rw [hh]; simp⟩) g.nd nk0 hnk
  have hl1 : x.tick.1.live := by unfold X.live; rw [hst]; trivial
  refine ⟨y, nk, ⟨hat.x, hat.nk⟩, ?_⟩
  have hinv : ∀ v ∈ gs, al gs down v = true → (s.exchange j down).inst (gs.idxOf v) = ((s.inst (gs.idxOf v)).prep x.tick.1.p.bal x.tick.1.p.cl).1 := fun v hv ha => by
    obtain ⟨hk, hg, hal⟩ := al_get (down := down) hv
    rw [hins _ hk, if_pos ⟨hal.1 ha, by rw [hg]; exact hv⟩]
  rcases hres with hd | hb | ⟨hw, hc⟩
  · exact .inl hd
  · right; left
    obtain ⟨cm, hacc, hwo⟩ := hb.st
    refine ⟨aft_of g E h0 hN hj hat hb.nkm (.inr ⟨cm, hacc, hb.hs, hb.ms, hb.rf, hwo⟩), ⟨cm, hacc⟩, hb.hs, hb.ms, hb.rf, ?_⟩
    obtain ⟨U, u1, u2, u3⟩ := hb.U
    refine ⟨U, u1, u2, fun u hu => ?_⟩
    rcases u3 u hu with h1 | ⟨h1, h2⟩
    · simp only [X.keys, hm] at h1; cases h1
    · obtain ⟨h3, h4⟩ := List.mem_filter.1 h1
      refine ⟨h3, h4, ?_⟩
      rw [hinv u h3 h4, hb.bal.1, hb.bal.2]
      rcases refuse_cases (s.inst (gs.idxOf u)) x.tick.1.p.bal x.tick.1.p.cl with ⟨a, e1, e2⟩ | ⟨a, e1, e2, _⟩ | e1
      · rw [prep_some e1] at h2; simp only at h2; omega
      · rw [prep_some e1] at h2; simp only at h2; omega
      · rw [prep_none e1]; exact promised_ok e1
  · right; right
    have hrf := hc.refused g m hl1 (fun v hv ha => .inl (List.mem_filter.2 ⟨hv, ha⟩))
    refine ⟨aft_of g E h0 hN hj hat hc.nkm (.inl hw), ⟨hc.live hl1, hrf, fun v hv ha => ?_⟩, fun e => (hc.rfn hrf).elim (fun h => by rw [e] at h; cases h) id, ?_⟩
    · rw [hinv v hv ha]
      have hvV : v ∈ gs.filter (al gs down) := List.mem_filter.2 ⟨hv, ha⟩
      have hbal : y.p.bal = x.tick.1.p.bal := by rw [hc.p]
      rcases refuse_cases (s.inst (gs.idxOf v)) x.tick.1.p.bal x.tick.1.p.cl with ⟨a, e1, e2⟩ | ⟨a, e1, e2, e3⟩ | e1
      · have := hc.knV v hvV; rw [prep_some e1] at this; exact (this e2).elim
      · have := (hc.nkV v hvV (by rw [prep_some e1]; exact e2)).2
        rw [prep_some e1] at this ⊢
        simp only at this ⊢
        omega
      · rw [prep_none e1]
        show x.tick.1.p.bal ≤ _
        omega
    · -- somebody refused
      refine Classical.byContradiction fun hno => ?_
      have hf := hc.inv.few (hc.live hl1)
      have hsub : ∀ v ∈ gs.filter (al gs down), v ∈ y.keys := fun v hv => by
        obtain ⟨h1, h2⟩ := List.mem_filter.1 hv
        rcases refuse_cases (s.inst (gs.idxOf v)) x.tick.1.p.bal x.tick.1.p.cl with ⟨a, e1, e2⟩ | ⟨a, e1, e2, e3⟩ | e1
        · have := hc.knV v hv; rw [prep_some e1] at this; exact (this e2).elim
        · exact (hno ⟨v, h1, h2, by rw [prep_some e1]; exact e2⟩).elim
        · exact hc.okV v hv (by rw [prep_none e1]; rfl)
      have := nodup_len (g.nd.filter _) hsub
      unfold Maj needs at m
      simp only [X.keys, List.length_map] at this
      omega
/-- A tick behind a refusal. -/
theorem tick_again (E : ES gs K N j s x) (hN : N < 1000000000000) (hl : x.live) (hr : x.p.rf = true) : x.tick = (⟨{ x.p.raise with rf := false }, .prep, [], []⟩, x.p.raise.outP x.p.gs) ∧ s.way = [] := by
  constructor
  · rw [← E.xi.again_ (by omega)]
    unfold X.tick
    unfold X.live at hl
    split at hl
    · rename_i h; rw [h]; simp only [hr, if_true]
    · rename_i c h; rw [h]; simp only [hr, if_true]
    · exact hl.elim
  · rcases E.wi with h | ⟨_, _, _, _, h, _⟩
    · exact h
    · rw [hr] at h; cases h
theorem outs_again (E : ES gs K N j s x) (hN : N < 1000000000000) (hl : x.live) (hr : x.p.rf = true) : s.outs j x = gs.map fun v => (GM.prepare x.tick.1.p.bal x.tick.1.p.cl).sent x.tick.1.p v := by
  obtain ⟨h1, h2⟩ := tick_again E hN hl hr
  unfold HP.outs
  rw [h2, h1]
  show [] ++ x.p.raise.outP x.p.gs = _
  rw [E.xi.gse]
  rfl
/-- Level 2: a ballot above all who are up. -/
theorem step2 (g : Grp gs) (m : Maj gs down) (E : ES gs K N j s x) (h0 : 0 ≤ N) (hN : N < 1000000000000) (hj : j < 1000) (hL : L2 gs down s x) (hnk : s.nks[j]? = some nk0) :
    ∃ y nk, ((s.exchange j down).xs[j]? = some y ∧ (s.exchange j down).nks[j]? = some nk) ∧ (y.done ∨ (Aft gs K N j down s y nk0 nk ∧ L1 gs down (s.exchange j down) y)) := by
  obtain ⟨hl, hr, hp⟩ := hL
  obtain ⟨h1, h2⟩ := tick_again E hN hl hr
  obtain ⟨y, nk, hy, hres⟩ := roundP (down := down) g m E h0 hN hj (by rw [h1]) (by rw [h1]) (by rw [h1]) (outs_again E hN hl hr) hnk
  refine ⟨y, nk, hy, ?_⟩
  rcases hres with h | h | ⟨_, _, _, v, hv, ha, hk⟩
  · exact .inl h
  · exact .inr h
  · exfalso
    have hb : (s.inst (gs.idxOf v)).p0 < x.tick.1.p.bal := by
      rw [h1]
      show _ < max x.p.bal x.p.nt + 1
      have := hp v hv ha
      omega
    rcases no_nack (c := x.tick.1.p.cl) hb with ⟨a, e1, e2⟩ | e1
    · rw [prep_some e1] at hk; simp only at hk; omega
    · rw [prep_none e1] at hk
      have : (promiseM (s.inst (gs.idxOf v)) x.tick.1.p.bal x.tick.1.p.cl).kind = 13 := rfl
      simp only at hk; omega
end
end Go.Proofs.Ytofaoblfemfkiaa

namespace Go.Proofs.Ytofaoblfemfkiaa
open Go Go.RowKit Go.Fw
set_option linter.unusedSimpArgs false
set_option linter.unusedVariables false
set_option maxRecDepth 4000
set_option maxHeartbeats 2000000


/-! ### Step by step to the end -/
def Le (j : Nat) (t u : HP) : Prop := ∀ a, t.nks[j]? = some a → ∃ b, u.nks[j]? = some b ∧ a ≤ b
theorem Le.rfl_ {j : Nat} {t : HP} : Le j t t := fun a h => ⟨a, h, Int.le_refl _⟩
theorem Le.trans_ {j : Nat} {t u v : HP} (h : Le j t u) (h' : Le j u v) : Le j t v := fun a ha => by
  obtain ⟨b, hb, h1⟩ := h a ha
  obtain ⟨c, hc, h2⟩ := h' b hb
  exact ⟨c, hc, by omega⟩
theorem Le.of_eq {j : Nat} {t u : HP} (h : u.nks = t.nks) : Le j t u := fun a ha => ⟨a, by rw [h]; exact ha, Int.le_refl _⟩
theorem Le.fold {α : Type} {j : Nat} {f : HP → α → HP} (hf : ∀ t a, Le j t (f t a)) : ∀ (l : List α) (t : HP), Le j t (l.foldl f t)
  | [], _ => Le.rfl_
  | a :: l, t => (hf t a).trans_ (Le.fold hf l (f t a))
theorem HP.toServer_nks (t : HP) (m : GM) (k : Nat) : (t.toServer m k).nks = t.nks := by
  unfold HP.toServer
  split
  · split
    · rfl
    · split
      · rfl
      · split <;> rfl
  · rfl
theorem Le.noted {j : Nat} (t : HP) (m : GM) (x : X) (i : Nat) : Le j t (t.noted m x i) := by
  unfold HP.noted
  split
  · intro a ha
    show ∃ b, (t.nks.set i _)[j]? = some b ∧ a ≤ b
    by_cases hij : i = j
    · subst hij
      have hl := (List.getElem?_eq_some_iff.1 ha).1
      refine ⟨_, List.getElem?_set_self hl, ?_⟩
      rw [ha]
      show a ≤ a + 1
      omega
    · exact ⟨a, by rw [List.getElem?_set_ne hij]; exact ha, Int.le_refl _⟩
  · exact Le.rfl_
theorem Le.deliver {j : Nat} (t : HP) (m : GM) : Le j t (t.deliver m) := by
  unfold HP.deliver
  split
  · unfold HP.toClient
    split
    · split
      · exact Le.rfl_
      · exact Le.noted t m _ _
    · exact Le.rfl_
  · unfold HP.servers
    exact Le.fold (fun t k => Le.of_eq (HP.toServer_nks t m k)) _ _
theorem Le.exchange {j : Nat} (t : HP) (i : Nat) (down : Int) : Le j t (t.exchange i down) := by
  unfold HP.exchange
  split
  · exact Le.rfl_
  · have h1 : ∀ (l : List GM) (u : HP), Le j u (u.puts down l) := fun l u => by
      unfold HP.puts
      refine Le.fold (fun t m => ?_) l u
      unfold HP.lets
      refine Le.fold (fun t k => ?_) _ _
      unfold HP.toAlive
      split
      · exact Le.deliver _ _
      · exact Le.rfl_
    have h2 : ∀ (l : List GM) (u : HP), Le j u (u.answers l) := fun l u => by
      unfold HP.answers
      exact Le.fold (fun t m => Le.deliver _ _) l u
    refine Le.trans_ ?_ (h2 _ _)
    refine Le.trans_ (Le.trans_ ?_ (h1 _ _)) (Le.of_eq rfl)
    exact Le.of_eq rfl
section
variable {gs : List Int} {K N : Int} {j : Nat} {s : HP} {x : X} {down : Int} {nk0 : Int}
theorem E_clsucc (E : ES gs K N j s x) : x.p.cl = (j : Int) + 1 := E.xi.cle
theorem mine_all {p : PS} {c : Int} (h : p.cl = c) (m : GM) (L : List Int) : (L.map (m.sent p)).filter (fun a => a.mineOf c) = L.map (m.sent p) := by
  refine List.filter_eq_self.2 fun a ha => ?_
  obtain ⟨v, _, rfl⟩ := List.mem_map.1 ha
  simp [GM.mineOf, GM.sent, h]
theorem tick_prep (E : ES gs K N j s x) (hst : x.st = .prep) (hr : x.p.rf = false) : x.tick = (x, x.p.outP (missing gs (heardK x.hs))) := by
  have := E.xi.gse
  unfold X.tick
  rw [hst]
  simp [hr, this]
theorem tick_acc {cm : Cmd} (E : ES gs K N j s x) (hst : x.st = .acc cm) (hr : x.p.rf = false) : x.tick = (x, x.p.outA cm (missing gs (heardK x.hs))) := by
  have := E.xi.gse
  unfold X.tick
  rw [hst]
  simp [hr, this]
theorem outs_prep (E : ES gs K N j s x) (hst : x.st = .prep) (hr : x.p.rf = false) : s.outs j x = (missing gs (heardK x.hs)).map fun v => (GM.prepare x.p.bal x.p.cl).sent x.p v := by
  have hw : s.way = [] := by
    rcases E.wi with h | ⟨cm, h, _⟩
    · exact h
    · rw [hst] at h; cases h
  unfold HP.outs
  rw [hw, tick_prep E hst hr]
  rfl
theorem outs_acc {cm : Cmd} (E : ES gs K N j s x) (hst : x.st = .acc cm) (hr : x.p.rf = false) : ∃ L : List Int, (∀ v ∈ L, v ∈ gs ∧ v ∉ x.hs) ∧ (∀ v ∈ gs, v ∈ L ∨ v ∈ x.hs) ∧ L.length ≤ 2 * gs.length ∧ s.outs j x = L.map fun v => (GM.accept x.p.bal x.p.cl cm).sent x.p v := by
  have hml := missing_len gs (heardK x.hs)
  rcases E.wi with h | ⟨cm', h1, h2, h3, h4, h5⟩
  · refine ⟨missing gs (heardK x.hs), fun v hv => missing_heard.1 hv, fun v hv => ?_, by omega, ?_⟩
    · by_cases hh : v ∈ x.hs
      · exact .inr hh
      · exact .inl (missing_heard.2 ⟨hv, hh⟩)
    · unfold HP.outs
      rw [h, tick_acc E hst hr]
      rfl
  · obtain rfl : cm = cm' := by rw [hst] at h1; exact PP.acc.inj h1
    refine ⟨gs ++ missing gs (heardK x.hs), fun v hv => ?_, fun v hv => .inl (List.mem_append_left _ hv), by rw [List.length_append]; omega, ?_⟩
    · rcases List.mem_append.1 hv with h | h
      · exact ⟨h, by rw [h2]; simp⟩
      · exact missing_heard.1 h
    · unfold HP.outs
      rw [h5, tick_acc E hst hr]
      show (gs.map _).filter _ ++ _ = _
      rw [mine_all (E_clsucc E), List.map_append]
      rfl
/-- A second phase, not refused so far. -/
theorem roundA {cm : Cmd} (g : Grp gs) (m : Maj gs down) (E : ES gs K N j s x) (h0 : 0 ≤ N) (hN : N < 1000000000000) (hj : j < 1000) (hst : x.st = .acc cm) (hr : x.p.rf = false) (hnk : s.nks[j]? = some nk0) :
    ∃ y nk, ((s.exchange j down).xs[j]? = some y ∧ (s.exchange j down).nks[j]? = some nk) ∧ (y.done ∨
      (Aft gs K N j down s y nk0 nk ∧ nk0 < nk ∧ y.live ∧ y.p.rf = true ∧ (∀ v ∈ y.keys, v ∈ x.keys ∨ (al gs down v = true ∧ ((s.inst (gs.idxOf v)).acc x.p.bal x.p.cl cm).2.kind = 15)) ∧
        (∀ v ∈ gs, al gs down v = true → v ∉ x.hs → ((s.inst (gs.idxOf v)).acc x.p.bal x.p.cl cm).2.kind = 15 → v ∈ y.keys) ∧ (y.ms.length : Int) < needs gs ∧
        (x.hs = [] → L2 gs down (s.exchange j down) y))) := by
  have ht := tick_acc E hst hr
  have h1 : x.tick.1 = x := by rw [ht]
  obtain ⟨L, l1, l2, l3, l4⟩ := outs_acc E hst hr
  have hgl := g.len
  obtain ⟨y, w, nk, hat, hins, hres⟩ := exA (down := down) g E h0 hN (L := L) (cm := cm) (by rw [h1]; exact hst) (by rw [h1]; exact l4) (by rw [h1]; exact l1) (by omega) nk0 hnk
  rw [h1] at hins hres
  refine ⟨y, nk, ⟨hat.x, hat.nk⟩, ?_⟩
  have hlive : x.live := by unfold X.live; rw [hst]; trivial
  rcases hres with hd | ⟨hw, hc⟩
  · exact .inl hd
  · have hrf := hc.refused g m hlive (fun v hv ha => (l2 v hv).imp (fun h => List.mem_filter.2 ⟨h, ha⟩) id)
    have hlt := (hc.rfn hrf).elim (fun h => by rw [hr] at h; cases h) id
    refine .inr ⟨aft_of g E h0 hN hj hat hc.nkm (.inl hw), hlt, hc.live hlive, hrf, fun v hv => (hc.kV v hv).imp id (fun e => ⟨(List.mem_filter.1 e.1).2, e.2⟩), fun v hv ha hn hk => ?_, hc.inv.few (hc.live hlive), fun hhs => ⟨hc.live hlive, hrf, fun v hv ha => ?_⟩⟩
    · exact hc.okV v (List.mem_filter.2 ⟨(l2 v hv).elim id (fun h => (hn h).elim), ha⟩) hk
    · have hvL : v ∈ L := (l2 v hv).elim id (fun h => by rw [hhs] at h; cases h)
      have hvV : v ∈ L.filter (al gs down) := List.mem_filter.2 ⟨hvL, ha⟩
      have hbal : y.p.bal = x.p.bal := by rw [hc.p]
      obtain ⟨hk, hg, hal⟩ := al_get (down := down) hv
      rw [hins _ hk, if_pos ⟨hal.1 ha, by rw [hg]; exact hvL⟩]
      rcases refuse_cases (s.inst (gs.idxOf v)) x.p.bal x.p.cl with ⟨a, e1, e2⟩ | ⟨a, e1, e2, e3⟩ | e1
      · have := hc.knV v hvV; rw [acc_some e1] at this; exact (this e2).elim
      · have := (hc.nkV v hvV (by rw [acc_some e1]; exact e2)).2
        rw [acc_some e1] at this ⊢
        simp only at this ⊢
        omega
      · rw [acc_none e1]
        show x.p.bal ≤ _
        omega
/-- Level 1: enough servers accept. -/
theorem step1 (g : Grp gs) (m : Maj gs down) (E : ES gs K N j s x) (h0 : 0 ≤ N) (hN : N < 1000000000000) (hj : j < 1000) (hL : L1 gs down s x) (hnk : s.nks[j]? = some nk0) :
    ∃ y nk, ((s.exchange j down).xs[j]? = some y ∧ (s.exchange j down).nks[j]? = some nk) ∧ y.done := by
  obtain ⟨⟨cm, hst⟩, hh, hm, hr, U, u1, u2, u3⟩ := hL
  obtain ⟨y, nk, hy, hres⟩ := roundA (down := down) g m E h0 hN hj hst hr hnk
  refine ⟨y, nk, hy, ?_⟩
  rcases hres with h | ⟨_, _, _, _, _, h1, h2, _⟩
  · exact h
  · exfalso
    have hsub : ∀ u ∈ U, u ∈ y.keys := fun u hu => by
      obtain ⟨h3, h4, h5⟩ := u3 u hu
      exact h1 u h3 h4 (by rw [hh]; simp) (by rw [acc_none h5]; rfl)
    have := nodup_len u1 hsub
    simp only [X.keys, List.length_map] at this
    omega
/-- Level 3: refused, or the phase is fresh. -/
theorem step3 (g : Grp gs) (m : Maj gs down) (E : ES gs K N j s x) (h0 : 0 ≤ N) (hN : N < 1000000000000) (hj : j < 1000) (hL : L3 x) (hnk : s.nks[j]? = some nk0) :
    ∃ y nk, ((s.exchange j down).xs[j]? = some y ∧ (s.exchange j down).nks[j]? = some nk) ∧ (y.done ∨ (Aft gs K N j down s y nk0 nk ∧ (L1 gs down (s.exchange j down) y ∨ L2 gs down (s.exchange j down) y))) := by
  obtain ⟨hl, hc⟩ := hL
  cases hr : x.p.rf with
  | true =>
    obtain ⟨h1, h2⟩ := tick_again E hN hl hr
    obtain ⟨y, nk, hy, hres⟩ := roundP (down := down) g m E h0 hN hj (by rw [h1]) (by rw [h1]) (by rw [h1]) (outs_again E hN hl hr) hnk
    exact ⟨y, nk, hy, hres.elim .inl (fun h => .inr (h.elim (fun h => ⟨h.1, .inl h.2⟩) (fun h => ⟨h.1, .inr h.2.1⟩)))⟩
  | false =>
    rw [hr] at hc
    obtain ⟨hh, hm⟩ := hc.elim (fun h => by cases h) id
    cases hst : x.st with
    | prep =>
      have ht := tick_prep E hst hr
      have h1 : x.tick.1 = x := by rw [ht]
      have ho := outs_prep E hst hr
      rw [hh, missing_all] at ho
      obtain ⟨y, nk, hy, hres⟩ := roundP (down := down) g m E h0 hN hj (by rw [h1]; exact hst) (by rw [h1]; exact hh) (by rw [h1]; exact hm) (by rw [h1]; exact ho) hnk
      exact ⟨y, nk, hy, hres.elim .inl (fun h => .inr (h.elim (fun h => ⟨h.1, .inl h.2⟩) (fun h => ⟨h.1, .inr h.2.1⟩)))⟩
    | acc cm =>
      obtain ⟨y, nk, hy, hres⟩ := roundA (down := down) g m E h0 hN hj hst hr hnk
      exact ⟨y, nk, hy, hres.elim .inl (fun h => .inr ⟨h.1, .inr (h.2.2.2.2.2.2.2 hh)⟩)⟩
    | idle => unfold X.live at hl; rw [hst] at hl; exact hl.elim
    | over d => unfold X.live at hl; rw [hst] at hl; exact hl.elim
/-- Level 4: whatever was there; and what it means where nobody refuses. -/
theorem step4 (g : Grp gs) (m : Maj gs down) (E : ES gs K N j s x) (h0 : 0 ≤ N) (hN : N < 1000000000000) (hj : j < 1000) (hl : x.live) (hr : x.p.rf = false) (hnk : s.nks[j]? = some nk0) :
    ∃ y nk, ((s.exchange j down).xs[j]? = some y ∧ (s.exchange j down).nks[j]? = some nk) ∧ (y.done ∨ (Aft gs K N j down s y nk0 nk ∧ L3 y ∧ (nk0 < nk ∨ (x.st = .prep ∧ ∃ cm, y.st = .acc cm ∧ y.p.rf = false)))) := by
  cases hst : x.st with
  | prep =>
    have ht := tick_prep E hst hr
    have h1 : x.tick.1 = x := by rw [ht]
    have ho := outs_prep E hst hr
    obtain ⟨y, w, nk, hat, hins, hres⟩ := exP (down := down) g E h0 hN (by rw [h1]; exact hst) (by rw [h1]; exact ho) (by rw [h1]; exact fun v hv => missing_heard.1 hv) (g.nd.filter _) nk0 hnk
    rw [h1] at hins hres
    refine ⟨y, nk, ⟨hat.x, hat.nk⟩, ?_⟩
    rcases hres with hd | hb | ⟨hw, hc⟩
    · exact .inl hd
    · obtain ⟨cm, hacc, hwo⟩ := hb.st
      exact .inr ⟨aft_of g E h0 hN hj hat hb.nkm (.inr ⟨cm, hacc, hb.hs, hb.ms, hb.rf, hwo⟩), ⟨hb.live, .inr ⟨hb.hs, hb.ms⟩⟩, .inr ⟨rfl, cm, hacc, hb.rf⟩⟩
    · have hrf := hc.refused g m hl (fun v hv ha => by
        by_cases hh : v ∈ x.hs
        · exact .inr hh
        · exact .inl (List.mem_filter.2 ⟨missing_heard.2 ⟨hv, hh⟩, ha⟩))
      exact .inr ⟨aft_of g E h0 hN hj hat hc.nkm (.inl hw), ⟨hc.live hl, .inl hrf⟩, .inl ((hc.rfn hrf).elim (fun h => by rw [hr] at h; cases h) id)⟩
  | acc cm =>
    obtain ⟨y, nk, hy, hres⟩ := roundA (down := down) g m E h0 hN hj hst hr hnk
    exact ⟨y, nk, hy, hres.elim .inl (fun h => .inr ⟨h.1, ⟨h.2.2.1, .inl h.2.2.2.1⟩, .inl h.2.1⟩)⟩
  | idle => unfold X.live at hl; rw [hst] at hl; exact hl.elim
  | over d => unfold X.live at hl; rw [hst] at hl; exact hl.elim
/-- How many exchanges are left at most. -/
def Bud (gs : List Int) (down : Int) (s : HP) (x : X) : Nat → Prop
  | 0 => x.done
  | 1 => L1 gs down s x
  | 2 => L2 gs down s x
  | 3 => L3 x
  | _ => x.live
/-- How many are left where nobody refuses. -/
def Qud (x : X) : Nat → Prop
  | 0 => x.done
  | 1 => (∃ cm, x.st = .acc cm) ∧ x.p.rf = false
  | _ => x.live ∧ x.p.rf = false
theorem not_done (hl : x.live) (hd : x.done) : False := by
  obtain ⟨c, hc⟩ := hd
  unfold X.live at hl
  rw [hc] at hl
  exact hl
theorem L1.live_ (h : L1 gs down s x) : x.live := by
  obtain ⟨⟨cm, h1⟩, _⟩ := h
  unfold X.live; rw [h1]; trivial
theorem stepB (g : Grp gs) (m : Maj gs down) (E : ES gs K N j s x) (h0 : 0 ≤ N) (hN : N < 1000000000000) (hj : j < 1000) (hnk : s.nks[j]? = some nk0) {b : Nat} (hb : Bud gs down s x b) (hnd : ¬ x.done) :
    ∃ y nk, (s.exchange j down).xs[j]? = some y ∧ (s.exchange j down).nks[j]? = some nk ∧ (¬ y.done → ES gs (K + 10000000) (N + 10000000) j (s.exchange j down) y) ∧ ∃ b', b' < b ∧ Bud gs down (s.exchange j down) y b' := by
  match b, hb with
  | 0, hb => exact (hnd hb).elim
  | 1, hb =>
    obtain ⟨y, nk, h1, h2⟩ := step1 (down := down) g m E h0 hN hj hb hnk
    exact ⟨y, nk, h1.1, h1.2, fun h => (h h2).elim, 0, by omega, h2⟩
  | 2, hb =>
    obtain ⟨y, nk, h1, h2⟩ := step2 (down := down) g m E h0 hN hj hb hnk
    rcases h2 with h2 | ⟨h2, h3⟩
    · exact ⟨y, nk, h1.1, h1.2, fun h => (h h2).elim, 0, by omega, h2⟩
    · exact ⟨y, nk, h1.1, h1.2, h2.es, 1, by omega, h3⟩
  | 3, hb =>
    obtain ⟨y, nk, h1, h2⟩ := step3 (down := down) g m E h0 hN hj hb hnk
    rcases h2 with h2 | ⟨h2, h3 | h3⟩
    · exact ⟨y, nk, h1.1, h1.2, fun h => (h h2).elim, 0, by omega, h2⟩
    · exact ⟨y, nk, h1.1, h1.2, h2.es, 1, by omega, h3⟩
    · exact ⟨y, nk, h1.1, h1.2, h2.es, 2, by omega, h3⟩
  | b + 4, hb =>
    have hl : x.live := hb
    cases hr : x.p.rf with
    | true =>
      obtain ⟨y, nk, h1, h2⟩ := step3 (down := down) g m E h0 hN hj ⟨hl, .inl hr⟩ hnk
      rcases h2 with h2 | ⟨h2, h3 | h3⟩
      · exact ⟨y, nk, h1.1, h1.2, fun h => (h h2).elim, 0, by omega, h2⟩
      · exact ⟨y, nk, h1.1, h1.2, h2.es, 1, by omega, h3⟩
      · exact ⟨y, nk, h1.1, h1.2, h2.es, 2, by omega, h3⟩
    | false =>
      obtain ⟨y, nk, h1, h2⟩ := step4 (down := down) g m E h0 hN hj hl hr hnk
      rcases h2 with h2 | ⟨h2, h3, _⟩
      · exact ⟨y, nk, h1.1, h1.2, fun h => (h h2).elim, 0, by omega, h2⟩
      · exact ⟨y, nk, h1.1, h1.2, h2.es, 3, by omega, h3⟩
theorem stepQ (g : Grp gs) (m : Maj gs down) (E : ES gs K N j s x) (h0 : 0 ≤ N) (hN : N < 1000000000000) (hj : j < 1000) (hnk : s.nks[j]? = some nk0) {y : X} {nk : Int} (hy : (s.exchange j down).xs[j]? = some y) (hn : (s.exchange j down).nks[j]? = some nk) {q : Nat} (hq : Qud x q) (hnd : ¬ x.done) :
    nk0 < nk ∨ ∃ q', q' < q ∧ Qud y q' := by
  match q, hq with
  | 0, hq => exact (hnd hq).elim
  | 1, hq =>
    obtain ⟨⟨cm, hst⟩, hr⟩ := hq
    obtain ⟨y', nk', ⟨h1, h2⟩, h3⟩ := roundA (down := down) g m E h0 hN hj hst hr hnk
    rw [hy] at h1; rw [hn] at h2
    cases h1; cases h2
    rcases h3 with h3 | h3
    · exact .inr ⟨0, by omega, h3⟩
    · exact .inl h3.2.1
  | q + 2, hq =>
    obtain ⟨hl, hr⟩ : x.live ∧ x.p.rf = false := hq
    obtain ⟨y', nk', ⟨h1, h2⟩, h3⟩ := step4 (down := down) g m E h0 hN hj hl hr hnk
    rw [hy] at h1; rw [hn] at h2
    cases h1; cases h2
    rcases h3 with h3 | ⟨_, _, h3 | ⟨_, cm, h3, h4⟩⟩
    · exact .inr ⟨0, by omega, h3⟩
    · exact .inl h3
    · exact .inr ⟨1, by omega, ⟨cm, h3⟩, h4⟩
/-- The trip: n exchanges done, at most b more. -/
structure Trip (gs : List Int) (down : Int) (K N : Int) (j : Nat) (n b0 : Nat) (nk0 : Int) (q0 : Prop) (s : HP) (x : X) : Prop where
  gx : s.xs[j]? = some x
  nk : ∃ nk, s.nks[j]? = some nk ∧ nk0 ≤ nk ∧ (q0 → nk0 < nk ∨ ∃ q, n + q ≤ 2 ∧ Qud x q)
  bud : ∃ b, n + b ≤ b0 ∧ Bud gs down s x b
  es : ¬ x.done → ES gs (K + 10000000 * (n : Int)) (N + 10000000 * (n : Int)) j s x
theorem Trip.next {n b0 : Nat} {q0 : Prop} (g : Grp gs) (m : Maj gs down) (t : Trip gs down K N j n b0 nk0 q0 s x) (h0 : 0 ≤ N) (hN : N < 100000000000) (hb : b0 ≤ 4) (hj : j < 1000) (hnd : ¬ x.done) : ∃ y, Trip gs down K N j (n + 1) b0 nk0 q0 (s.exchange j down) y := by
  obtain ⟨nk, h1, h2, h3⟩ := t.nk
  obtain ⟨b, h4, h5⟩ := t.bud
  have E := t.es hnd
  obtain ⟨y, nk', e1, e2, e3, b', e4, e5⟩ := stepB (down := down) g m E (by omega) (by omega) hj h1 h5 hnd
  obtain ⟨nk2, e6, e7⟩ := Le.exchange (j := j) s j down nk h1
  rw [e2] at e6
  cases e6
  refine ⟨y, e1, ⟨nk', e2, by omega, fun hq => ?_⟩, ⟨b', by omega, e5⟩, fun hd => ?_⟩
  · rcases h3 hq with h6 | ⟨q, h6, h7⟩
    · exact .inl (by omega)
    · rcases stepQ (down := down) g m E (by omega) (by omega) hj h1 e1 e2 h7 hnd with h8 | ⟨q', h8, h9⟩
      · exact .inl (by omega)
      · exact .inr ⟨q', by omega, h9⟩
  · have := e3 hd
    rw [show K + 10000000 * ((n + 1 : Nat) : Int) = K + 10000000 * (n : Int) + 10000000 by omega, show N + 10000000 * ((n + 1 : Nat) : Int) = N + 10000000 * (n : Int) + 10000000 by omega]
    exact this
theorem Trip.le {n b0 : Nat} {q0 : Prop} (t : Trip gs down K N j n b0 nk0 q0 s x) : n ≤ b0 := by
  obtain ⟨b, h, _⟩ := t.bud
  omega
theorem Bud.live_ {b : Nat} (h : Bud gs down s x b) (hn : ¬ x.done) : x.live := by
  match b, h with
  | 0, h => exact (hn h).elim
  | 1, h => exact L1.live_ h
  | 2, h => exact h.1
  | 3, h => exact h.1
  | _ + 4, h => exact h
theorem Trip.live {n b0 : Nat} {q0 : Prop} (t : Trip gs down K N j n b0 nk0 q0 s x) (hn : ¬ x.done) : x.live := by
  obtain ⟨b, _, h⟩ := t.bud
  exact h.live_ hn
end
end Go.Proofs.Ytofaoblfemfkiaa

namespace Go.Proofs.Ytofaoblfemfkiaa
open Go Go.RowKit Go.Fw
set_option linter.unusedSimpArgs false
set_option linter.unusedVariables false
set_option maxRecDepth 4000
set_option maxHeartbeats 2000000


/-- Nothing held is greater than nothing. -/
theorem heldOf_none {l : List GM} (h : ∀ m ∈ l, m.h0 = 0 ∧ m.h1 = 0) : heldOf l = [] := by
  rw [heldOf, List.filter_eq_nil_iff]
  intro m hm
  obtain ⟨e0, e1⟩ := h m hm
  simp [stampLess, e0, e1]
theorem msGet_mem {ms : List (Int × GM)} {v : Int} {m : GM} (h : msGet ms v = some m) : ∃ s, (s, m) ∈ ms := by
  induction ms with
  | nil => cases h
  | cons x r ih =>
    obtain ⟨j, y⟩ := x
    simp only [msGet] at h
    by_cases hv : v = j
    · simp only [hv, if_true, Option.some.injEq] at h
      exact ⟨j, by rw [h]; exact List.mem_cons_self ..⟩
    · simp only [hv, if_false] at h
      obtain ⟨s, hs⟩ := ih h
      exact ⟨s, List.mem_cons_of_mem _ hs⟩
theorem chosen_mine {p : PS} {ms : List (Int × GM)} (h : ∀ x ∈ ms, x.2.h0 = 0 ∧ x.2.h1 = 0) : p.chosen ms = p.mine := by
  have hz : heldOf (gotM p.gs ms) = [] := heldOf_none fun m hm => by
    simp only [gotM, gotL, List.mem_map, List.mem_filterMap, Option.map_eq_some_iff] at hm
    obtain ⟨⟨s, m'⟩, ⟨g, _, y, hy, e⟩, rfl⟩ := hm
    obtain ⟨s', hs'⟩ := msGet_mem hy
    simp only [Prod.mk.injEq] at e
    rw [← e.2]
    exact h (s', y) hs'
  rw [PS.chosen, hz]
  rfl

theorem k_take1 {B w : World} {F : List Ent} {g : Nat} {p : PS} {m : GM} {ht hm hc : Nat} {ha : Option Nat} {qt qm qc : Nat} {qa : Option Nat} (H : Own B (.cells g 80 p.cells :: .row p.ga p.gc 3 1 p.gs.length (ints p.gs) :: .cells ht 109 [slv ha p.gs.length hc, .int .i64 ((p.gs.length : Int) + 1), .map (some hm)] :: .row ha hc 3 1 p.gs.length (ints p.gs) :: .imap hm (heardK []) :: .cells qt 145 [slv qa p.gs.length qc, .int .i64 ((p.gs.length : Int) / 2 + 1), .map (some qm)] :: .row qa qc 3 1 p.gs.length (ints p.gs) :: .imap qm (kvM []) :: F) w) (hn : p.gs.length ≤ 1000) (hi : p.ph = phP qt) (hkd : m.kind = 13) (hw : p.wants m = true) (hst : p.own m = true) (hh : p.hd = .pointer (some ⟨ht, 0, none⟩))
    (hf : p.fresh [] m.fi = true) (hk2 : p.takes [] m.fi m = true) (hu : unlike p.gs = p.gs) (hlo : -1 ≤ p.rnd ∧ p.rnd < 1099511627776) (hz : m.h0 = 0 ∧ m.h1 = 0) :
    Calls Try.prog 18 #[.pointer (some ⟨g, 0, none⟩), .agg m.cells.toArray] w fun e w' => ∃ ht ha hc hm qt qa qc qm a c, e = .returned (slv a (p.next.outA p.mine p.gs).length c) ∧ Own B (.row a c 46 30 (p.next.outA p.mine p.gs).length (msgs (p.next.outA p.mine p.gs)) :: .cells g 80 (p.next.enter (phA qt p.mine) ht).cells :: .row p.ga p.gc 3 1 p.gs.length (ints p.gs) :: .cells ht 109 [slv ha p.gs.length hc, .int .i64 ((p.gs.length : Int) + 1), .map (some hm)] :: .row ha hc 3 1 p.gs.length (ints p.gs) :: .imap hm (heardK []) :: .cells qt 145 [slv qa p.gs.length qc, .int .i64 ((p.gs.length : Int) / 2 + 1), .map (some qm)] :: .row qa qc 3 1 p.gs.length (ints p.gs) :: .imap qm (kvM []) :: F) w' := by
  have hz : ∀ x ∈ p.took [] m.fi m, x.2.h0 = 0 ∧ x.2.h1 = 0 := by
    intro x hx
    unfold PS.took at hx
    split at hx
    · have : x = (m.fi, m) := by simpa using hx
      rw [this]; exact hz
    · cases hx
  have hch := chosen_mine (p := p) hz
  refine Calls.mono (take_countP (K := fun v w' => ∃ ht ha hc hm qt qa qc qm a c, v = slv a (p.next.outA p.mine p.gs).length c ∧ Own B (.row a c 46 30 (p.next.outA p.mine p.gs).length (msgs (p.next.outA p.mine p.gs)) :: .cells g 80 (p.next.enter (phA qt p.mine) ht).cells :: .row p.ga p.gc 3 1 p.gs.length (ints p.gs) :: .cells ht 109 [slv ha p.gs.length hc, .int .i64 ((p.gs.length : Int) + 1), .map (some hm)] :: .row ha hc 3 1 p.gs.length (ints p.gs) :: .imap hm (heardK []) :: .cells qt 145 [slv qa p.gs.length qc, .int .i64 ((p.gs.length : Int) / 2 + 1), .map (some qm)] :: .row qa qc 3 1 p.gs.length (ints p.gs) :: .imap qm (kvM []) :: F) w') H (by omega) hi (by omega) hw (fun b w H => ?_)) ?_
  · replace H := H
    have H := Own.arr [2, 8, 8, 8, 8, 8, 8, 8, 8] H
    simp only [arrs, Fw.front, zm1, zm2, zm3, zm4, zm5] at H
    have hcc := count_accept H (by omega) hi hkd hst hh (by simp) hf hk2 hu hlo.2 hlo.1
    rw [hch] at hcc
    exact Calls.mono hcc fun e w h => by
      obtain ⟨ht, ha, hc, hm, qt, qa, qc, qm, a, c, rfl, H⟩ := h
      have H := Own.arr [8, 8, 8, 8, 8, 8, 8, 8, 8] H
      simp only [arrs, Fw.front, zm1, zm2, zm3, zm4, zm5] at H
      replace H := H.sub (.cons_cons _ (.cons_cons _ (.cons_cons _ (.cons_cons _ (.cons_cons _ (.cons_cons _ (.cons_cons _ (.cons_cons _ (.cons_cons _ (.cons _ (List.Sublist.refl _)))))))))))
      exact ⟨_, rfl, ht, ha, hc, hm, qt, qa, qc, qm, a, c, rfl, H⟩
  rintro e w ⟨v, rfl, ht, ha, hc, hm, qt, qa, qc, qm, a, c, rfl, H⟩
  exact ⟨ht, ha, hc, hm, qt, qa, qc, qm, a, c, rfl, H⟩

theorem k_take2 {B w : World} {F : List Ent} {g : Nat} {p : PS} {m : GM} {cm : Cmd} {ht hm hc : Nat} {ha : Option Nat} {qt qm qc : Nat} {qa : Option Nat} (H : Own B (.cells g 80 p.cells :: .row p.ga p.gc 3 1 p.gs.length (ints p.gs) :: .cells ht 109 [slv ha p.gs.length hc, .int .i64 ((p.gs.length : Int) + 1), .map (some hm)] :: .row ha hc 3 1 p.gs.length (ints p.gs) :: .imap hm (heardK []) :: .cells qt 145 [slv qa p.gs.length qc, .int .i64 ((p.gs.length : Int) / 2 + 1), .map (some qm)] :: .row qa qc 3 1 p.gs.length (ints p.gs) :: .imap qm (kvM []) :: F) w) (hn : p.gs.length ≤ 1000) (hi : p.ph = phA qt cm) (hkd : m.kind = 15) (hw : p.wants m = true) (hst : p.own m = true) (hh : p.hd = .pointer (some ⟨ht, 0, none⟩))
    (hf : p.fresh [] m.fi = true) (hk2 : p.takes [] m.fi m = true) :
    Calls Try.prog 18 #[.pointer (some ⟨g, 0, none⟩), .agg m.cells.toArray] w fun e w' => ∃ d a c, e = .returned (slv a (p.outL cm p.gs).length c) ∧ Own B (.row a c 46 30 (p.outL cm p.gs).length (msgs (p.outL cm p.gs)) :: .cells g 80 { p.over with dc := .pointer (some ⟨d, 0, none⟩) }.cells :: .row p.ga p.gc 3 1 p.gs.length (ints p.gs) :: .cells d 28 cm.cells :: F) w' := by
  refine Calls.mono (take_countA (K := fun v w' => ∃ d a c, v = slv a (p.outL cm p.gs).length c ∧ Own B (.row a c 46 30 (p.outL cm p.gs).length (msgs (p.outL cm p.gs)) :: .cells g 80 { p.over with dc := .pointer (some ⟨d, 0, none⟩) }.cells :: .row p.ga p.gc 3 1 p.gs.length (ints p.gs) :: .cells d 28 cm.cells :: F) w') H (by omega) hi (by omega) hw (fun b w H => ?_)) ?_
  · replace H := H
    have H := Own.arr [2, 8, 8, 8, 8, 8, 8, 8, 8] H
    simp only [arrs, Fw.front, zm1, zm2, zm3, zm4, zm5] at H
    exact Calls.mono (count_decide H (by omega) hi hkd hst hh (by simp) hf hk2) fun e w h => by
      obtain ⟨d, a, c, rfl, H⟩ := h
      have H := Own.arr [3, 3, 3, 3] H
      simp only [arrs, Fw.front, zm1, zm2, zm3, zm4, zm5] at H
      replace H := H.sub (.cons_cons _ (.cons_cons _ (.cons_cons _ (.cons_cons _ (.cons _ (List.Sublist.refl _))))))
      exact ⟨_, rfl, d, a, c, rfl, H⟩
  rintro e w ⟨v, rfl, d, a, c, rfl, H⟩
  exact ⟨d, a, c, rfl, H⟩

/-- The one proposer of 'known'. -/
def kCmd : Cmd := ⟨4, 7, 4, ByteArray.empty, 0, 0, 0, 0, 0⟩
def kP (a : Option Nat) (c : Nat) : PS := PS.new 7 4 3 2 5 0 kCmd 2 10 a c [3]
def kM1 : GM := { GM.zero with kind := 13, fi := 3, tc := true, ti := 7, op := 4, rnd := 10, k0 := 3, k1 := 2, k2 := 5, s0 := 2, s1 := 7 }
def kM2 : GM := { kM1 with kind := 15, rnd := 11 }
end Go.Proofs.Ytofaoblfemfkiaa

namespace Go.Proofs.Ytofaoblfemfkiaa
open Go Go.RowKit Go.Fw
set_option linter.unusedSimpArgs false
set_option linter.unusedVariables false
set_option maxRecDepth 4000
set_option maxHeartbeats 2000000
theorem fk_28 : flatK Try.prog 9 28 = some [.i, .i, .i, .s, .i, .i, .i, .i, .i] := by kernel_rfl
theorem ng_28 : notGuarded Try.prog 28 = true := by kernel_rfl

def kP1 (a : Option Nat) (c : Nat) (qt ht : Nat) : PS := (kP a c).enter (phP qt) ht
def kP2 (a : Option Nat) (c : Nat) (qt ht : Nat) : PS := (kP1 a c 0 0).next.enter (phA qt kCmd) ht
def kP3 (a : Option Nat) (c : Nat) (qt ht d : Nat) : PS := { (kP2 a c qt ht).over with dc := .pointer (some ⟨d, 0, none⟩) }
def kA : GM := (GM.prepare 2 7).sent (kP none 0) 3
def kB : GM := (GM.accept 2 7 kCmd).sent (kP none 0).next 3
def kC : GM := (GM.learned kCmd).sent (kP none 0).next 3

theorem k_begin {B w : World} {F : List Ent} {g c : Nat} {a : Option Nat} (H : Own B (.cells g 80 (kP a c).cells :: .row a c 3 1 1 (ints [3]) :: F) w) :
    Calls Try.prog 14 #[.pointer (some ⟨g, 0, none⟩)] w fun e w' => ∃ ht ha hc hm qt qa qc qm xa xc, e = .returned (slv xa 1 xc) ∧ Own B (.row xa xc 46 30 1 (msgs [kA]) :: .cells g 80 (kP1 a c qt ht).cells :: .row a c 3 1 1 (ints [3]) :: .cells ht 109 [slv ha 1 hc, .int .i64 (((1 : Nat) : Int) + 1), .map (some hm)] :: .row ha hc 3 1 1 (ints [3]) :: .imap hm (heardK []) :: .cells qt 145 [slv qa 1 qc, .int .i64 (((1 : Nat) : Int) / 2 + 1), .map (some qm)] :: .row qa qc 3 1 1 (ints [3]) :: .imap qm (kvM []) :: F) w' :=
  begin_s (p := kP a c) H (by show 1 ≤ 1000000; omega) rfl rfl (by show ¬ (min (2 : Int) 10 < 1 ∨ 1099511627776 < max (2 : Int) 10); omega)
theorem k_first {B w : World} {F : List Ent} {g c ht hm hc qt qm qc : Nat} {a ha qa : Option Nat} (H : Own B (.cells g 80 (kP1 a c qt ht).cells :: .row a c 3 1 1 (ints [3]) :: .cells ht 109 [slv ha 1 hc, .int .i64 (((1 : Nat) : Int) + 1), .map (some hm)] :: .row ha hc 3 1 1 (ints [3]) :: .imap hm (heardK []) :: .cells qt 145 [slv qa 1 qc, .int .i64 (((1 : Nat) : Int) / 2 + 1), .map (some qm)] :: .row qa qc 3 1 1 (ints [3]) :: .imap qm (kvM []) :: F) w) :
    Calls Try.prog 18 #[.pointer (some ⟨g, 0, none⟩), .agg kM1.cells.toArray] w fun e w' => ∃ ht ha hc hm qt qa qc qm xa xc, e = .returned (slv xa 1 xc) ∧ Own B (.row xa xc 46 30 1 (msgs [kB]) :: .cells g 80 (kP2 a c qt ht).cells :: .row a c 3 1 1 (ints [3]) :: .cells ht 109 [slv ha 1 hc, .int .i64 (((1 : Nat) : Int) + 1), .map (some hm)] :: .row ha hc 3 1 1 (ints [3]) :: .imap hm (heardK []) :: .cells qt 145 [slv qa 1 qc, .int .i64 (((1 : Nat) : Int) / 2 + 1), .map (some qm)] :: .row qa qc 3 1 1 (ints [3]) :: .imap qm (kvM []) :: F) w' :=
  k_take1 (p := kP1 a c qt ht) (m := kM1) H (by show 1 ≤ 1000; omega) rfl rfl rfl rfl rfl rfl (by kernel_rfl) rfl (by show -1 ≤ (10 : Int) ∧ (10 : Int) < 1099511627776; omega) ⟨rfl, rfl⟩
theorem k_second {B w : World} {F : List Ent} {g c ht hm hc qt qm qc : Nat} {a ha qa : Option Nat} (H : Own B (.cells g 80 (kP2 a c qt ht).cells :: .row a c 3 1 1 (ints [3]) :: .cells ht 109 [slv ha 1 hc, .int .i64 (((1 : Nat) : Int) + 1), .map (some hm)] :: .row ha hc 3 1 1 (ints [3]) :: .imap hm (heardK []) :: .cells qt 145 [slv qa 1 qc, .int .i64 (((1 : Nat) : Int) / 2 + 1), .map (some qm)] :: .row qa qc 3 1 1 (ints [3]) :: .imap qm (kvM []) :: F) w) :
    Calls Try.prog 18 #[.pointer (some ⟨g, 0, none⟩), .agg kM2.cells.toArray] w fun e w' => ∃ d xa xc, e = .returned (slv xa 1 xc) ∧ Own B (.row xa xc 46 30 1 (msgs [kC]) :: .cells g 80 (kP3 a c qt ht d).cells :: .row a c 3 1 1 (ints [3]) :: .cells d 28 kCmd.cells :: F) w' :=
  k_take2 (p := kP2 a c qt ht) (m := kM2) H (by show 1 ≤ 1000; omega) rfl rfl rfl rfl rfl rfl (by kernel_rfl)

theorem known_s {B w : World} {F : List Ent} (H : Own B F w) :
    Calls Try.prog 5 #[] w fun e w' => e = .returned (.bool true) ∧ Own B F w' := by
  refine calls_ce (args := []) Try.func5 rfl rfl ?_
  change CE _ _ 88 _ _ [] _
  refine ce_seq ?_
  refine ce_text (tab := []) (soft := 1) (.op 0 .nil) rfl rfl ?_
  refine re_assign rfl rfl rfl rfl rfl ?_
  refine re_nil ?_
  refine qe_thenC ?_
  refine ce_seq ?_
  refine ce_text (tab := []) (soft := 1) (.op 0 (.op 1 (.op 2 .nil))) rfl rfl ?_
  refine re_build rfl rfl rfl rfl rfl ze_24 pl_24 (by simp only [fillL, setMany, Value.cells, List.getElem?_cons_zero, List.getElem?_cons_succ, List.length_cons, List.length_nil, List.set_cons_zero, List.set_cons_succ, Nat.reduceAdd, Nat.reduceLeDiff, Nat.zero_add, and_self, ↓reduceIte]; rfl) ?_
  refine re_alloc H rfl rfl rfl rfl ze_24 ?_
  intro g1 w H
  refine ⟨(fun h => (nomatch h)), ?_⟩
  refine re_store H rfl rfl rfl rfl rfl rfl sh_24 rfl rfl rfl ?_
  intro cs w hcs H
  first | rw [setMany_whole rfl] at hcs | simp only [setMany, List.set_cons_zero, List.set_cons_succ, Nat.reduceAdd, Nat.zero_add, PS.cells, PS.over, GM.cells, Cmd.cells, List.cons_append, List.nil_append] at hcs
  subst hcs
  refine ⟨(fun h => (nomatch h)), ?_⟩
  refine re_nil ?_
  refine qe_thenC ?_
  refine ce_seq ?_
  refine ce_text (tab := []) (soft := 1) (.op 0 (.op 1 (.op 2 .nil))) rfl rfl ?_
  refine re_build rfl rfl rfl rfl rfl ze_28 pl_28 (by simp only [fillL, setMany, Value.cells, List.getElem?_cons_zero, List.getElem?_cons_succ, List.length_cons, List.length_nil, List.set_cons_zero, List.set_cons_succ, Nat.reduceAdd, Nat.reduceLeDiff, Nat.zero_add, and_self, ↓reduceIte]; rfl) ?_
  refine re_alloc H rfl rfl rfl rfl ze_28 ?_
  intro g2 w H
  refine ⟨(fun h => (nomatch h)), ?_⟩
  refine re_store H rfl rfl rfl rfl rfl rfl sh_28 rfl rfl rfl ?_
  intro cs w hcs H
  first | rw [setMany_whole rfl] at hcs | simp only [setMany, List.set_cons_zero, List.set_cons_succ, Nat.reduceAdd, Nat.zero_add, PS.cells, PS.over, GM.cells, Cmd.cells, List.cons_append, List.nil_append] at hcs
  subst hcs
  refine ⟨(fun h => (nomatch h)), ?_⟩
  refine re_nil ?_
  refine qe_thenC ?_
  refine ce_seq ?_
  refine ce_text (tab := []) (soft := 21) (.op 0 (.op 1 (.op 2 (.op 3 (.op 4 .nil))))) rfl rfl ?_
  refine re_load H rfl rfl rfl rfl rfl sh_24 (by first | exact rdAt_all rfl | (simp only [rdAt, PS.cells, PS.over, GM.cells, Cmd.cells, List.cons_append, List.nil_append, List.drop_succ_cons, List.drop_zero, List.take_succ_cons, List.take_zero, List.length_cons, List.length_nil, Nat.zero_add, Nat.reduceAdd, Nat.reduceLeDiff, Nat.le_refl, ↓reduceIte] <;> rfl)) ?_
  refine re_sliceN H rfl rfl rfl rfl rfl ul_31 ei_31 ze_3 rfl rfl rfl rfl rfl ?_
  intro g12 w H
  refine ⟨(fun h => (nomatch h)), ?_⟩
  refine re_load H rfl rfl rfl rfl rfl sh_28 (by first | exact rdAt_all rfl | (simp only [rdAt, PS.cells, PS.over, GM.cells, Cmd.cells, List.cons_append, List.nil_append, List.drop_succ_cons, List.drop_zero, List.take_succ_cons, List.take_zero, List.length_cons, List.length_nil, Nat.zero_add, Nat.reduceAdd, Nat.reduceLeDiff, Nat.le_refl, ↓reduceIte] <;> rfl)) ?_
  refine re_call en_6 rfl rfl rfl rfl rfl ?_
  refine Calls.mono (new_s (mine := kCmd) (xs := [3]) H (Sees.of_row (.head _) H) (by decide)) ?_
  rintro e w ⟨g, a, c, rfl, H⟩
  rw [show unlike [3] = [3] from rfl] at H
  refine ⟨_, rfl, (fun h => (nomatch h)), ?_⟩
  refine re_assign rfl rfl rfl rfl rfl ?_
  refine re_nil ?_
  refine qe_thenC ?_
  refine ce_seq ?_
  refine ce_seq ?_
  refine ce_text (tab := []) (soft := 3) (.op 0 (.op 1 .nil)) rfl rfl ?_
  refine re_move rfl rfl rfl rfl rfl ?_
  refine re_binW rfl rfl rfl rfl rfl rfl (run_ptrNil ul_29 (.inl ⟨rfl, rfl⟩)) ?_
  refine re_nil ?_
  refine qe_thenC ?_
  refine ce_condF rfl ?_
  refine ce_skip ?_
  refine qe_thenC ?_
  refine ce_seq ?_
  refine ce_text (tab := []) (soft := 5) (.op 0 (.op 1 (.op 2 .nil))) rfl rfl ?_
  refine re_move rfl rfl rfl rfl rfl ?_
  refine re_call en_14 rfl rfl rfl rfl rfl ?_
  refine Calls.mono (k_begin H) ?_
  rintro e w ⟨ht, ha, hc, hm, qt, qa, qc, qm, xa, xc, rfl, H⟩
  refine ⟨_, rfl, (fun h => (nomatch h)), ?_⟩
  refine re_assign rfl rfl rfl rfl rfl ?_
  refine re_nil ?_
  refine qe_thenC ?_
  refine ce_seq ?_
  refine ce_text (tab := []) (soft := 191) (.op 0 (.op 1 (.op 2 (.op 3 (.op 4 (.op 5 (.op 6 (.op 7 .nil)))))))) rfl rfl ?_
  refine re_move rfl rfl rfl rfl rfl ?_
  refine re_build rfl rfl rfl rfl rfl ze_36 pl_36 (by simp only [fillL, setMany, Value.cells, List.getElem?_cons_zero, List.getElem?_cons_succ, List.length_cons, List.length_nil, List.set_cons_zero, List.set_cons_succ, Nat.reduceAdd, Nat.reduceLeDiff, Nat.zero_add, and_self, ↓reduceIte]; rfl) ?_
  refine re_build rfl rfl rfl rfl rfl ze_36 pl_36 (by simp only [fillL, setMany, Value.cells, List.getElem?_cons_zero, List.getElem?_cons_succ, List.length_cons, List.length_nil, List.set_cons_zero, List.set_cons_succ, Nat.reduceAdd, Nat.reduceLeDiff, Nat.zero_add, and_self, ↓reduceIte]; rfl) ?_
  refine re_load H rfl rfl rfl rfl rfl sh_24 (by first | exact rdAt_all rfl | (simp only [rdAt, PS.cells, PS.over, GM.cells, Cmd.cells, List.cons_append, List.nil_append, List.drop_succ_cons, List.drop_zero, List.take_succ_cons, List.take_zero, List.length_cons, List.length_nil, Nat.zero_add, Nat.reduceAdd, Nat.reduceLeDiff, Nat.le_refl, ↓reduceIte] <;> rfl)) ?_
  refine re_build rfl rfl rfl rfl rfl ze_38 pl_38 (by simp only [fillL, setMany, Value.cells, List.getElem?_cons_zero, List.getElem?_cons_succ, List.length_cons, List.length_nil, List.set_cons_zero, List.set_cons_succ, Nat.reduceAdd, Nat.reduceLeDiff, Nat.zero_add, and_self, ↓reduceIte]; rfl) ?_
  refine re_build rfl rfl rfl rfl rfl ze_46 pl_46 (by simp only [fillL, setMany, Value.cells, List.getElem?_cons_zero, List.getElem?_cons_succ, List.length_cons, List.length_nil, List.set_cons_zero, List.set_cons_succ, Nat.reduceAdd, Nat.reduceLeDiff, Nat.zero_add, and_self, ↓reduceIte]; rfl) ?_
  refine re_call en_18 rfl rfl rfl rfl rfl ?_
  have H := Own.arr [0, 8, 8, 8, 8, 8, 8, 8, 8] H
  simp only [arrs, Fw.front, zm1, zm2, zm3, zm4, zm5] at H
  refine Calls.mono (k_first H) ?_
  rintro e w ⟨ht, ha, hc, hm, qt, qa, qc, qm, ya, yc, rfl, H⟩
  refine ⟨_, rfl, (fun h => (nomatch h)), ?_⟩
  refine re_assign rfl rfl rfl rfl rfl ?_
  refine re_nil ?_
  refine qe_thenC ?_
  refine ce_seq ?_
  refine ce_text (tab := []) (soft := 191) (.op 0 (.op 1 (.op 2 (.op 3 (.op 4 (.op 5 (.op 6 (.op 7 .nil)))))))) rfl rfl ?_
  refine re_move rfl rfl rfl rfl rfl ?_
  refine re_build rfl rfl rfl rfl rfl ze_36 pl_36 (by simp only [fillL, setMany, Value.cells, List.getElem?_cons_zero, List.getElem?_cons_succ, List.length_cons, List.length_nil, List.set_cons_zero, List.set_cons_succ, Nat.reduceAdd, Nat.reduceLeDiff, Nat.zero_add, and_self, ↓reduceIte]; rfl) ?_
  refine re_build rfl rfl rfl rfl rfl ze_36 pl_36 (by simp only [fillL, setMany, Value.cells, List.getElem?_cons_zero, List.getElem?_cons_succ, List.length_cons, List.length_nil, List.set_cons_zero, List.set_cons_succ, Nat.reduceAdd, Nat.reduceLeDiff, Nat.zero_add, and_self, ↓reduceIte]; rfl) ?_
  refine re_load H rfl rfl rfl rfl rfl sh_24 (by first | exact rdAt_all rfl | (simp only [rdAt, PS.cells, PS.over, GM.cells, Cmd.cells, List.cons_append, List.nil_append, List.drop_succ_cons, List.drop_zero, List.take_succ_cons, List.take_zero, List.length_cons, List.length_nil, Nat.zero_add, Nat.reduceAdd, Nat.reduceLeDiff, Nat.le_refl, ↓reduceIte] <;> rfl)) ?_
  refine re_build rfl rfl rfl rfl rfl ze_38 pl_38 (by simp only [fillL, setMany, Value.cells, List.getElem?_cons_zero, List.getElem?_cons_succ, List.length_cons, List.length_nil, List.set_cons_zero, List.set_cons_succ, Nat.reduceAdd, Nat.reduceLeDiff, Nat.zero_add, and_self, ↓reduceIte]; rfl) ?_
  refine re_build rfl rfl rfl rfl rfl ze_46 pl_46 (by simp only [fillL, setMany, Value.cells, List.getElem?_cons_zero, List.getElem?_cons_succ, List.length_cons, List.length_nil, List.set_cons_zero, List.set_cons_succ, Nat.reduceAdd, Nat.reduceLeDiff, Nat.zero_add, and_self, ↓reduceIte]; rfl) ?_
  refine re_call en_18 rfl rfl rfl rfl rfl ?_
  have H := Own.arr [0, 8, 8, 8, 8, 8, 8, 8, 8] H
  simp only [arrs, Fw.front, zm1, zm2, zm3, zm4, zm5] at H
  refine Calls.mono (k_second H) ?_
  rintro e w ⟨d, za, zc, rfl, H⟩
  refine ⟨_, rfl, (fun h => (nomatch h)), ?_⟩
  refine re_assign rfl rfl rfl rfl rfl ?_
  refine re_nil ?_
  refine qe_thenC ?_
  refine ce_seq ?_
  refine ce_text (tab := []) (soft := 157) (.op 0 (.op 1 (.op 2 (.op 3 (.op 4 (.op 5 (.op 6 (.op 7 .nil)))))))) rfl rfl ?_
  refine re_move rfl rfl rfl rfl rfl ?_
  refine re_call en_16 rfl rfl rfl rfl rfl ?_
  have H := Own.arr [2, 1, 3, 3] H
  simp only [arrs, Fw.front, zm1, zm2, zm3, zm4, zm5] at H
  refine Calls.mono (decided1 (p := kP3 a c qt ht d) (q := d) (c := kCmd) H rfl) ?_
  rintro e w ⟨rfl, H⟩
  refine ⟨_, rfl, (fun h => (nomatch h)), ?_⟩
  refine re_move rfl rfl rfl rfl rfl ?_
  refine re_extract rfl rfl rfl rfl rfl rfl ?_
  refine re_extract rfl rfl rfl rfl rfl rfl ?_
  refine re_alloc H rfl rfl rfl rfl ze_28 ?_
  intro g7 w H
  refine ⟨(fun h => (nomatch h)), ?_⟩
  refine re_store H rfl rfl rfl rfl rfl rfl sh_28 rfl rfl rfl ?_
  intro cs w hcs H
  first | rw [setMany_whole rfl] at hcs | simp only [setMany, List.set_cons_zero, List.set_cons_succ, Nat.reduceAdd, Nat.zero_add, PS.cells, PS.over, GM.cells, Cmd.cells, List.cons_append, List.nil_append] at hcs
  subst hcs
  refine ⟨(fun h => (nomatch h)), ?_⟩
  refine re_assign rfl rfl rfl rfl rfl ?_
  refine re_nil ?_
  refine qe_thenC ?_
  refine ce_seq ?_
  refine ce_open (tab := [0, 1, 3, 7, 15, 31, 63, 127, 255, 511, 1023, 2047, 4095, 8191, 16383, 32767, 65535, 131071, 262143, 524287, 1048575, 2097151, 4194303, 8388607, 16777215, 33554431, 67108863, 8388607, 268435455, 536870911, 1073741823, 2147483647, 4294967295, 8589934591, 17179869183, 34359738367, 68719476735, 137438953471, 274877906943, 549755813887, 1099511627775, 2199023255551, 4398046511103, 8796093022207, 17592186044415, 35184372088831, 70368744177663, 70368744177663, 281474976710655, 562949953421311, 1125899906842623]) (soft := 2251799813685247) mixed (.op 0 (.op 1 (.op 2 (.op 3 (.op 4 (.op 5 (.op 6 (.op 7 (.op 8 (.op 9 (.op 10 (.op 11 (.op 12 (.op 13 (.op 14 (.op 15 (.op 16 (.op 17 (.op 18 (.op 19 (.op 20 (.op 21 (.op 22 (.op 23 (.op 24 (.op 25 (.op 26 (.op 27 (.op 28 (.op 29 (.op 30 (.op 31 (.op 32 (.op 33 (.op 34 (.op 35 (.op 36 (.op 37 (.op 38 (.op 39 (.op 40 (.op 41 (.op 42 (.op 43 (.op 44 (.op 45 (.op 46 (.op 47 (.op 48 (.op 49 (.op 50 .nil))))))))))))))))))))))))))))))))))))))))))))))))))) (by kernel_rfl) H ?_
  intro w H
  obtain ⟨x1, rfl⟩ := H.rsome xa (by omega)
  obtain ⟨x2, rfl⟩ := H.rsome ya (by omega)
  obtain ⟨x3, rfl⟩ := H.rsome za (by omega)
  refine re_move rfl rfl rfl rfl rfl ?_
  refine re_len rfl rfl rfl rfl rfl ul_62 ?_
  refine re_bin rfl rfl rfl rfl rfl rfl rfl ?_
  refine re_move rfl rfl rfl rfl rfl ?_
  refine re_move rfl rfl rfl rfl rfl ?_
  refine re_indexL rfl rfl rfl rfl rfl rfl ul_62 ei_62 (by omega) (by omega) ?_
  first | refine re_field0 rfl rfl rfl rfl rfl fo_46_0 ?_ | refine re_field rfl rfl rfl rfl rfl fo_46_0 ?_ | refine re_fieldA rfl rfl rfl rfl rfl fo_46_0 ?_
  refine re_loadW rfl rfl rfl rfl rfl (run_loadAt_row H sh_3 rfl) ?_
  refine re_bin rfl rfl rfl rfl rfl rfl rfl ?_
  refine re_pickT rfl rfl rfl rfl rfl rfl ?_
  refine re_move rfl rfl rfl rfl rfl ?_
  refine re_move rfl rfl rfl rfl rfl ?_
  refine re_len rfl rfl rfl rfl rfl ul_62 ?_
  refine re_bin rfl rfl rfl rfl rfl rfl rfl ?_
  refine re_pickT rfl rfl rfl rfl rfl rfl ?_
  refine re_move rfl rfl rfl rfl rfl ?_
  refine re_move rfl rfl rfl rfl rfl ?_
  refine re_indexL rfl rfl rfl rfl rfl rfl ul_62 ei_62 (by omega) (by omega) ?_
  first | refine re_field0 rfl rfl rfl rfl rfl fo_46_0 ?_ | refine re_field rfl rfl rfl rfl rfl fo_46_0 ?_ | refine re_fieldA rfl rfl rfl rfl rfl fo_46_0 ?_
  refine re_loadW rfl rfl rfl rfl rfl (run_loadAt_row H sh_3 rfl) ?_
  refine re_bin rfl rfl rfl rfl rfl rfl rfl ?_
  refine re_pickT rfl rfl rfl rfl rfl rfl ?_
  refine re_move rfl rfl rfl rfl rfl ?_
  refine re_move rfl rfl rfl rfl rfl ?_
  refine re_indexL rfl rfl rfl rfl rfl rfl ul_62 ei_62 (by omega) (by omega) ?_
  first | refine re_field0 rfl rfl rfl rfl rfl fo_46_9 ?_ | refine re_field rfl rfl rfl rfl rfl fo_46_9 ?_ | refine re_fieldA rfl rfl rfl rfl rfl fo_46_9 ?_
  refine re_loadW rfl rfl rfl rfl rfl (run_loadAt_row (v := .agg #[.int .i64 4, .int .i64 7, .int .i64 4, .string ByteArray.empty, .int .i64 0, .int .i64 0, .int .i64 0, .int .i64 0, .int .i64 0]) H sh_28 rfl) ?_
  refine re_load H rfl rfl rfl rfl rfl sh_28 (by first | exact rdAt_all rfl | (simp only [rdAt, PS.cells, PS.over, GM.cells, Cmd.cells, List.cons_append, List.nil_append, List.drop_succ_cons, List.drop_zero, List.take_succ_cons, List.take_zero, List.length_cons, List.length_nil, Nat.zero_add, Nat.reduceAdd, Nat.reduceLeDiff, Nat.le_refl, ↓reduceIte] <;> rfl)) ?_
  refine re_eqAgg rfl rfl rfl rfl rfl rfl fk_28 sh_28 ng_28 (by simp only [eqKs, eqK, ↓reduceIte]; rfl) ?_
  refine re_pickT rfl rfl rfl rfl rfl rfl ?_
  refine re_move rfl rfl rfl rfl rfl ?_
  refine re_move rfl rfl rfl rfl rfl ?_
  refine re_len rfl rfl rfl rfl rfl ul_62 ?_
  refine re_bin rfl rfl rfl rfl rfl rfl rfl ?_
  refine re_pickT rfl rfl rfl rfl rfl rfl ?_
  refine re_move rfl rfl rfl rfl rfl ?_
  refine re_move rfl rfl rfl rfl rfl ?_
  refine re_indexL rfl rfl rfl rfl rfl rfl ul_62 ei_62 (by omega) (by omega) ?_
  first | refine re_field0 rfl rfl rfl rfl rfl fo_46_0 ?_ | refine re_field rfl rfl rfl rfl rfl fo_46_0 ?_ | refine re_fieldA rfl rfl rfl rfl rfl fo_46_0 ?_
  refine re_loadW rfl rfl rfl rfl rfl (run_loadAt_row H sh_3 rfl) ?_
  refine re_bin rfl rfl rfl rfl rfl rfl rfl ?_
  refine re_pickT rfl rfl rfl rfl rfl rfl ?_
  refine re_move rfl rfl rfl rfl rfl ?_
  refine re_move rfl rfl rfl rfl rfl ?_
  refine re_pickT rfl rfl rfl rfl rfl rfl ?_
  refine re_move rfl rfl rfl rfl rfl ?_
  refine re_load H rfl rfl rfl rfl rfl sh_28 (by first | exact rdAt_all rfl | (simp only [rdAt, PS.cells, PS.over, GM.cells, Cmd.cells, List.cons_append, List.nil_append, List.drop_succ_cons, List.drop_zero, List.take_succ_cons, List.take_zero, List.length_cons, List.length_nil, Nat.zero_add, Nat.reduceAdd, Nat.reduceLeDiff, Nat.le_refl, ↓reduceIte] <;> rfl)) ?_
  refine re_load H rfl rfl rfl rfl rfl sh_28 (by first | exact rdAt_all rfl | (simp only [rdAt, PS.cells, PS.over, GM.cells, Cmd.cells, List.cons_append, List.nil_append, List.drop_succ_cons, List.drop_zero, List.take_succ_cons, List.take_zero, List.length_cons, List.length_nil, Nat.zero_add, Nat.reduceAdd, Nat.reduceLeDiff, Nat.le_refl, ↓reduceIte] <;> rfl)) ?_
  refine re_eqAgg rfl rfl rfl rfl rfl rfl fk_28 sh_28 ng_28 (by simp only [eqKs, eqK, ↓reduceIte]; rfl) ?_
  refine re_pickT rfl rfl rfl rfl rfl rfl ?_
  refine re_assign rfl rfl rfl rfl rfl ?_
  refine re_nil ?_
  refine qe_noPanic ?_
  refine qe_thenC ?_
  refine ce_ret ?_
  refine qe_end rfl rfl ?_
  exact ⟨by first | rfl | simp [kCmd], H.drop 10⟩
end Go.Proofs.Ytofaoblfemfkiaa

namespace Go.Proofs.Ytofaoblfemfkiaa
open Go Go.RowKit Go.Fw
set_option linter.unusedSimpArgs false
set_option linter.unusedVariables false
set_option maxRecDepth 4000
set_option maxHeartbeats 2000000


/-! ### Who is down -/
/-- How many of the first n are up. -/
def upN (d : Int) (n : Nat) : Nat := ((List.range n).filter (alive d)).length
def downOK : Bool := (List.range 128).all fun d => (List.range 7).all fun k => (0 ≤ bitsI .or (d : Int) (bitsI .shl 1 (k : Int)) && bitsI .or (d : Int) (bitsI .shl 1 (k : Int)) < 128) && (List.range 8).all fun n => Nat.ble (upN (d : Int) n) (upN (bitsI .or (d : Int) (bitsI .shl 1 (k : Int))) n + 1)
theorem downOK_true : downOK = true := by decide +kernel
theorem down_step {d : Int} {k n : Nat} (h0 : 0 ≤ d) (h1 : d < 128) (hk : k < 7) (hn : n < 8) : (0 ≤ bitsI .or d (bitsI .shl 1 (k : Int)) ∧ bitsI .or d (bitsI .shl 1 (k : Int)) < 128) ∧ upN d n ≤ upN (bitsI .or d (bitsI .shl 1 (k : Int))) n + 1 := by
  obtain ⟨e, rfl⟩ : ∃ e : Nat, d = (e : Int) := ⟨d.toNat, by omega⟩
  have h := downOK_true
  unfold downOK at h
  have h2 := List.all_eq_true.1 h e (List.mem_range.2 (by omega))
  have h3 := List.all_eq_true.1 h2 k (List.mem_range.2 hk)
  rw [Bool.and_eq_true, Bool.and_eq_true] at h3
  obtain ⟨⟨h4, h5⟩, h6⟩ := h3
  exact ⟨⟨of_decide_eq_true h4, of_decide_eq_true h5⟩, Nat.le_of_ble_eq_true (List.all_eq_true.1 h6 n (List.mem_range.2 hn))⟩
theorem up_zero {n : Nat} (hn : n < 8) : upN 0 n = n := by
  have h : (List.range 8).all (fun n => Nat.beq (upN 0 n) n) = true := by decide +kernel
  exact Nat.eq_of_beq_eq_true (List.all_eq_true.1 h n (List.mem_range.2 hn))
theorem filter_idx {gs : List Int} (hnd : gs.Nodup) (p : Nat → Bool) : (gs.filter fun v => p (gs.idxOf v)).length = ((List.range gs.length).filter p).length := by
  have e : gs = (List.range gs.length).map (fun i => gs.getD i 0) := by
    refine List.ext_getElem (by simp) fun i h1 h2 => ?_
    simp [List.getD, h1]
  have h : ∀ l : List Nat, (∀ i ∈ l, i < gs.length) → ((l.map (fun i => gs.getD i 0)).filter fun v => p (gs.idxOf v)).length = (l.filter p).length := by
    intro l
    induction l with
    | nil => intro _; rfl
    | cons i l ih =>
      intro hl
      have hi := hl i (List.mem_cons_self ..)
      have hx : gs.idxOf (gs.getD i 0) = i := by
        rw [show gs.getD i 0 = gs[i] by simp [List.getD, hi]]
        exact idx_eq hnd hi
      have := ih fun j hj => hl j (List.mem_cons_of_mem _ hj)
      rw [List.map_cons, List.filter_cons, List.filter_cons, hx]
      split
      · simp only [List.length_cons, this]
      · exact this
  have h2 := h (List.range gs.length) (fun i hi => List.mem_range.1 hi)
  rw [← e] at h2
  exact h2
theorem maj_of {gs : List Int} {down : Int} (hnd : gs.Nodup) (h : needs gs ≤ (upN down gs.length : Int)) : Maj gs down := by
  unfold Maj
  have := filter_idx hnd (alive down)
  unfold upN at h
  unfold al
  rw [this]
  exact h
theorem grp_Grp {n : Nat} (h : n = 1 ∨ n = 3 ∨ n = 5 ∨ n = 7) : Grp (grp n) :=
  ⟨grp_un h, grp_nd h, by rw [grp_len]; omega, by rw [grp_len]; omega, grp_bd h⟩
/-- The hall as 'open' makes it. -/
theorem HInv.opened {gs : List Int} {l : List XA} (h4 : l.length = 4) (hin : ∀ (i : Nat) (h : i < l.length), Init gs ((i : Int) + 1) l[i].1) : HInv gs 0 1 4000 (HP.mk gs (List.replicate gs.length Inst.zero) (l.map (fun y => y.1)) [] (List.replicate 4 0) (List.replicate 4 0)) := by
  refine ⟨rfl, by simp, by simp [h4], by simp [h4], fun x hx => ?_, Nat.zero_le _, by simp [h4], fun i hi => ?_, fun i hi => ?_, (fun _ h => by cases h), fun i hi hi2 hl hr => ?_⟩
  · rw [(List.mem_replicate.1 hx).2]; omega
  · have hi' : i < l.length := by simpa using hi
    obtain ⟨nm, e⟩ := hin i hi'
    show XI gs 1 _ ((l.map (fun (y : XA) => y.1))[i]'(by simpa using hi'))
    rw [List.getElem_map, e]
    exact XI.fresh_ rfl rfl (Int.le_refl _) (Int.le_refl _) (Int.le_refl _) (Int.le_refl _) (Int.le_refl _) (fun e => by cases e)
  · rw [(List.mem_replicate.1 hi).2]
    show (0 : Int) ≤ 1
    omega
  · exfalso
    have hi' : i < l.length := by simpa using hi
    obtain ⟨nm, e⟩ := hin i hi'
    have hl' : ((l.map (fun (y : XA) => y.1))[i]'(by simpa using hi')).live := hl
    rw [List.getElem_map, e] at hl'
    exact hl'
section
variable {gs : List Int} {K N : Int} {W : Nat} {j : Nat} {s : HP} {x : X} {down : Int} {nk0 nkd0 : Int}
/-- The hall behind 'Begin', its messages lost. -/
def HP.beg (s : HP) (j : Nat) : HP := match s.xs[j]? with
  | some x => { s with xs := s.xs.set j x.begin.1, way := [] }
  | none => s
theorem HP.beg_eq (hx : s.xs[j]? = some x) : s.beg j = { s with xs := s.xs.set j x.begin.1, way := [] } := by unfold HP.beg; rw [hx]
theorem begin_st (x : X) : (x.st = .idle ∧ (¬ x.far → x.begin = (⟨{ x.p with rf := false }, .prep, [], []⟩, x.p.outP x.p.gs))) ∨ (x.st ≠ .idle ∧ x.begin = (x, [])) := by
  cases hst : x.st with
  | idle => exact .inl ⟨rfl, fun h => by unfold X.begin; rw [hst]; simp [h]⟩
  | prep => exact .inr ⟨(fun e => by cases e), by unfold X.begin; rw [hst]⟩
  | acc c => exact .inr ⟨(fun e => by cases e), by unfold X.begin; rw [hst]⟩
  | over d => exact .inr ⟨(fun e => by cases e), by unfold X.begin; rw [hst]⟩
theorem Trip.start (g : Grp gs) (I : HInv gs K N W s) (hx : s.xs[j]? = some x) (hN : N < 1099511627776) (h0 : 0 ≤ N) (hnk : s.nks[j]? = some nk0) (hkd : s.nkd[j]? = some nkd0) :
    Trip gs down K (N + 1) j 0 (if 0 < (x.begin.2.length : Int) then 3 else 4) nk0 (nkd0 ≠ x.begin.1.p.rnd) (s.beg j) x.begin.1 := by
  obtain ⟨hj, hxe⟩ := List.getElem?_eq_some_iff.1 hx
  have hxi : XI gs N ((j : Int) + 1) x := by rw [← hxe]; exact I.xs j hj
  have hbi := hxi.begin_ hN
  have hT := I.turned (way := []) (l := []) hj (y := x.begin.1) (hbi.up (by omega)) (fun a b => by rw [hxe]; exact XI.begin_rf a b) (fun _ h => by cases h) (Nat.zero_le _) (fun _ h => by cases h)
  rw [HP.beg_eq hx]
  have hI : HInv gs K (N + 1) 4000 { s with xs := s.xs.set j x.begin.1, way := [] } := ⟨hT.gse, hT.il, hT.nl, hT.nl2, hT.nk, Nat.zero_le _, hT.xl, hT.xs, hT.ins, (fun _ h => by cases h), hT.rfk⟩
  have hgx : (s.xs.set j x.begin.1)[j]? = some x.begin.1 := List.getElem?_set_self hj
  have hjs : j < (s.xs.set j x.begin.1).length := by simpa using hj
  have hld : x.begin.1.live ∨ x.begin.1.done := by
    rcases begin_st x with ⟨_, h⟩ | ⟨h1, h⟩
    · rw [h (hxi.near hN)]; exact .inl trivial
    · rw [h]
      unfold X.live
      cases hst : x.st with
      | idle => exact (h1 hst).elim
      | prep => exact .inl trivial
      | acc c => exact .inl trivial
      | over d =>
        cases d with
        | none => exact (hxi.nworn hst).elim
        | some c => exact .inr ⟨c, hst⟩
  refine ⟨hgx, ⟨nk0, hnk, Int.le_refl _, fun hq => .inr ?_⟩, ?_, fun hd => ⟨?_, hjs, hgx, .inl rfl⟩⟩
  · rcases hld with hl | hd
    · refine ⟨2, by omega, hl, ?_⟩
      cases hr : x.begin.1.p.rf with
      | false => rfl
      | true =>
        exfalso
        have hk : j < s.nkd.length := (List.getElem?_eq_some_iff.1 hkd).1
        have e1 : (s.xs.set j x.begin.1)[j] = x.begin.1 := (List.getElem?_eq_some_iff.1 hgx).2
        have := hI.rfk j hjs hk (by show ((s.xs.set j x.begin.1)[j]).live; rw [e1]; exact hl) (by show ((s.xs.set j x.begin.1)[j]).p.rf = true; rw [e1]; exact hr)
        have h2 : s.nkd[j] = ((s.xs.set j x.begin.1)[j]).p.rnd := this
        rw [e1, (List.getElem?_eq_some_iff.1 hkd).2] at h2
        exact hq h2
    · exact ⟨0, by omega, hd⟩
  · split
    · rename_i hb
      refine ⟨3, by omega, ?_⟩
      rcases begin_st x with ⟨_, h⟩ | ⟨_, h⟩
      · show L3 x.begin.1
        rw [h (hxi.near hN)]
        exact ⟨trivial, .inr ⟨rfl, rfl⟩⟩
      · rw [h] at hb
        simp at hb
    · rcases hld with hl | hd
      · exact ⟨4, by omega, hl⟩
      · exact ⟨0, by omega, hd⟩
  · rw [show K + 10000000 * ((0 : Nat) : Int) = K by omega, show N + 1 + 10000000 * ((0 : Nat) : Int) = N + 1 by omega]
    exact hI
theorem dec_done (x : X) : x.dec.2 = true ↔ x.done := by
  unfold X.dec X.done
  cases hst : x.st with
  | idle => simp
  | prep => simp
  | acc c => simp
  | over d => cases d <;> simp
end

section
variable {gs : List Int} {K N : Int} {W : Nat} {j : Nat} {s : HP} {x : X} {down : Int}
theorem act_p {B w : World} {F : List Ent} {h gc ia pc wc doff dn dc na ca : Nat} {ga pa wa da : Option Nat} {pgs : List Nat} {l : List XA} {d : Int} (H : Own B (.cells h 64 [.int .i64 3, .int .i64 3, .int .i64 9, .int .i64 0, slv ga gs.length gc, slv (some ia) gs.length gs.length, slv pa pgs.length pc, slv wa s.way.length wc, lsv da doff dn dc, slv (some na) pgs.length pgs.length, slv (some ca) pgs.length pgs.length] :: .row wa wc 46 30 s.way.length (msgs s.way) :: .row ga gc 3 1 gs.length (ints gs) :: .cells ia 121 (s.ins.flatMap Inst.cells) :: .row pa pc 29 1 pgs.length (pgs.map ptrV) :: .loose da doff dn dc 28 9 :: .cells na 3 (ints s.nkd) :: .cells ca 3 (ints s.nks) :: (ch l ++ F)) w) (hlx : l.map (fun y => y.1) = s.xs) (hp : l.map (fun y => y.2.g) = pgs) (h4 : pgs.length = 4) (hd : dn ≤ 50) (g : Grp gs) (I : HInv gs K N W s) (hK : K ≤ 1000000000) (hW : W ≤ 10000000) :
    Calls Try.prog 13 #[.pointer (some ⟨h, 0, none⟩), .int .i64 d] w fun e w' => ∃ wa wc d1 d2 d3 d4 l', d3 ≤ 50 ∧ l'.map (fun y => y.2.g) = pgs ∧ l'.map (fun y => y.1) = (s.act (d % 1099511627776).toNat).xs ∧ e = .returned (.tuple #[]) ∧ Own B (.cells h 64 [.int .i64 3, .int .i64 3, .int .i64 9, .int .i64 0, slv ga gs.length gc, slv (some ia) gs.length gs.length, slv pa pgs.length pc, slv wa (s.act (d % 1099511627776).toNat).way.length wc, lsv d1 d2 d3 d4, slv (some na) pgs.length pgs.length, slv (some ca) pgs.length pgs.length] :: .row wa wc 46 30 (s.act (d % 1099511627776).toNat).way.length (msgs (s.act (d % 1099511627776).toNat).way) :: .row ga gc 3 1 gs.length (ints gs) :: .cells ia 121 ((s.act (d % 1099511627776).toNat).ins.flatMap Inst.cells) :: .row pa pc 29 1 pgs.length (pgs.map ptrV) :: .loose d1 d2 d3 d4 28 9 :: .cells na 3 (ints (s.act (d % 1099511627776).toNat).nkd) :: .cells ca 3 (ints (s.act (d % 1099511627776).toNat).nks) :: (ch l' ++ F)) w' := by
  have hxl : s.xs.length = pgs.length := by rw [← hlx, ← hp, List.length_map, List.length_map]
  have hgl := g.len
  have hwl := I.wl
  have hgse := I.gse
  refine Calls.mono (act_s H hp (by omega) hd I.il hgl (I.nl.trans hxl) (I.nl2.trans hxl) (fun a ha => by have := I.nk a ha; omega) (by omega) (fun y hy => ?_) (by omega) (fun m hm => ?_)) ?_
  · have : y.1 ∈ s.xs := by rw [← hlx]; exact List.mem_map.2 ⟨y, hy, rfl⟩
    obtain ⟨i, hi, e⟩ := List.mem_iff_getElem.1 this
    rw [← e]
    exact (I.xs i hi).ok g.un g.len
  · have := I.wm m hm
    exact ⟨this.ti, this.kc, this.ks⟩
  · rintro e w ⟨s', wa, wc, d1, d2, d3, d4, l', hs', h1, h2, h3, h4, h5⟩
    obtain rfl : s' = s.act (d % 1099511627776).toNat := by
      rw [hs']
      obtain ⟨g0, ins, xs, way, nkd, nks⟩ := s
      obtain rfl : g0 = gs := hgse
      obtain rfl : _ = xs := hlx
      rfl
    exact ⟨wa, wc, d1, d2, d3, d4, l', h1, h2, h3, h4, h5⟩
theorem exchange_p {B w : World} {F : List Ent} {h gc ia pc wc doff dn dc na ca : Nat} {ga pa wa da : Option Nat} {pgs : List Nat} {l : List XA} (H : Own B (.cells h 64 [.int .i64 3, .int .i64 3, .int .i64 9, .int .i64 0, slv ga gs.length gc, slv (some ia) gs.length gs.length, slv pa pgs.length pc, slv wa s.way.length wc, lsv da doff dn dc, slv (some na) pgs.length pgs.length, slv (some ca) pgs.length pgs.length] :: .row wa wc 46 30 s.way.length (msgs s.way) :: .row ga gc 3 1 gs.length (ints gs) :: .cells ia 121 (s.ins.flatMap Inst.cells) :: .row pa pc 29 1 pgs.length (pgs.map ptrV) :: .loose da doff dn dc 28 9 :: .cells na 3 (ints s.nkd) :: .cells ca 3 (ints s.nks) :: (ch l ++ F)) w) (hlx : l.map (fun y => y.1) = s.xs) (hp : l.map (fun y => y.2.g) = pgs) (h4 : pgs.length = 4) (hd : dn ≤ 50) (g : Grp gs) (E : ES gs K N j s x) (h0 : 0 ≤ N) (hN : N < 1000000000000) (hK : K ≤ 500000000) (hj : j < 1000) :
    Calls Try.prog 17 #[.pointer (some ⟨h, 0, none⟩), .int .i64 (j : Int), .int .i64 down] w fun e w' => ∃ wa wc d1 d2 d3 d4 l', d3 ≤ 50 ∧ l'.map (fun y => y.2.g) = pgs ∧ l'.map (fun y => y.1) = (s.exchange j down).xs ∧ e = .returned (.tuple #[]) ∧ Own B (.cells h 64 [.int .i64 3, .int .i64 3, .int .i64 9, .int .i64 0, slv ga gs.length gc, slv (some ia) gs.length gs.length, slv pa pgs.length pc, slv wa (s.exchange j down).way.length wc, lsv d1 d2 d3 d4, slv (some na) pgs.length pgs.length, slv (some ca) pgs.length pgs.length] :: .row wa wc 46 30 (s.exchange j down).way.length (msgs (s.exchange j down).way) :: .row ga gc 3 1 gs.length (ints gs) :: .cells ia 121 ((s.exchange j down).ins.flatMap Inst.cells) :: .row pa pc 29 1 pgs.length (pgs.map ptrV) :: .loose d1 d2 d3 d4 28 9 :: .cells na 3 (ints (s.exchange j down).nkd) :: .cells ca 3 (ints (s.exchange j down).nks) :: (ch l' ++ F)) w' := by
  have hxl : s.xs.length = l.length := by rw [← hlx, List.length_map]
  have hjl : j < l.length := by have := E.hj; omega
  have hlj : l[j].1 = x := by
    have h := E.hx
    rw [← hlx, List.getElem?_map, List.getElem?_eq_getElem hjl] at h
    exact Option.some.inj h
  have hwl := E.inv.wl
  have I := E.inv
  have hgl := g.len
  have h2l := E.way2 (down := down) g h0 hN hj
  have hh := exchange_s (s := s) (s0 := s.s0 j x) (s2 := (s.s0 j x).puts down (s.outs j x)) (s3 := { (s.s0 j x).puts down (s.outs j x) with way := [] }) (out := s.outs j x) (j := j) (down := down) H I.gse hlx hp (by omega) hd hgl hjl (fun y hy => by
    have : y.1 ∈ s.xs := by rw [← hlx]; exact List.mem_map.2 ⟨y, hy, rfl⟩
    obtain ⟨i, hi, e⟩ := List.mem_iff_getElem.1 this
    rw [← e]
    exact (I.xs i hi).ok g.un g.len) (by omega) (by rw [hlj]; rfl) (by rw [hlj]; rfl) rfl rfl (fun k hk i hi => E.pre1 g h0 hN hK hj k hk i hi) (fun k hk => E.pre2 g h0 hN hK hj k hk) (by omega)
  rw [exchange_eq E.hx]
  exact hh
end
end Go.Proofs.Ytofaoblfemfkiaa
