/- Parts of the proof: EZ. -/
import Derived.Test.YtofaoblfemfkiaaBe5
set_option linter.unusedVariables false
set_option linter.unusedSimpArgs false
namespace Go.Proofs.Ytofaoblfemfkiaa
open Go Go.RowKit Go.Fw
set_option linter.unusedSimpArgs false
set_option linter.unusedVariables false
set_option maxRecDepth 4000
set_option maxHeartbeats 2000000
theorem en_12 : Enterable Try.prog 12 := ⟨Try.f12, Try.func12, rfl, by decide⟩
theorem en_13 : Enterable Try.prog 13 := ⟨Try.f13, Try.func13, rfl, by decide⟩
theorem en_17 : Enterable Try.prog 17 := ⟨Try.f17, Try.func17, rfl, by decide⟩
theorem en_5 : Enterable Try.prog 5 := ⟨Try.f5, Try.func5, rfl, by decide⟩

theorem rd_some {l : List Int} {k : Nat} {v : Int} (h : l[k]? = some v) : rdAt false 1 (ints l) (0 + ((k : Nat) : Int).toNat * 1) = some (.int .i64 v) := by
  simp [rdAt, ints, h]
instance Sub.app {F L : List Ent} : Sub F (L ++ F) := ⟨List.sublist_append_right _ _⟩
set_option maxHeartbeats 40000000 in
theorem ends_s {B w : World} {F : List Ent} {sa : Option Addr} {sc : Nat} {xs : List Int} {u1 u3 u4 : Int} (hS : Sees B F sa xs.length 1 (ints xs)) (H : Own B F w) (hn : xs.length ≤ 1048576) :
    Calls Try.prog 4 #[.int .i64 u1, .slice sa xs.length sc, .int .i64 u3, .int .i64 u4] w fun e w' => e = .returned (.bool true) ∧ Own B F w' := by
  refine calls_ce (args := [.int .i64 u1, .slice sa xs.length sc, .int .i64 u3, .int .i64 u4]) Try.func4 rfl rfl ?_
  change CE _ _ 161 _ _ [(0, .int .i64 u1), (1, .slice sa xs.length sc), (2, .int .i64 u3), (3, .int .i64 u4)] _
  refine ce_seq ?_
  refine ce_text (tab := []) (soft := 1) (.op 0 .nil) rfl rfl ?_
  refine re_assign rfl rfl rfl rfl rfl ?_
  refine re_nil ?_
  refine qe_thenC ?_
  refine ce_seq ?_
  refine ce_seq ?_
  refine ce_text (tab := []) (soft := 2) (.op 0 (.op 1 .nil)) rfl rfl ?_
  refine re_call en_5 rfl rfl rfl rfl rfl ?_
  refine Calls.mono (known_s H) ?_
  rintro e w ⟨rfl, H⟩
  refine ⟨_, rfl, (fun h => (nomatch h)), ?_⟩
  refine re_not rfl rfl rfl rfl rfl ?_
  refine re_nil ?_
  refine qe_thenC ?_
  refine ce_condF rfl ?_
  refine ce_skip ?_
  refine qe_thenC ?_
  refine ce_seq ?_
  refine ce_text (tab := []) (soft := 125) (.op 0 (.op 1 (.op 2 (.op 3 (.op 4 (.op 5 (.op 6 .nil))))))) rfl rfl ?_
  refine re_move rfl rfl rfl rfl rfl ?_
  refine re_call en_12 rfl rfl rfl rfl rfl ?_
  refine Calls.mono (open_s H) ?_
  rintro e w ⟨h, gc, ia, pc, na, ca, ga, pa, gs, l, hgs, hl4, hin, rfl, H⟩
  obtain ⟨nn, hnn⟩ : ∃ nn, nn = (2 * (u1 % 4) + 1).toNat := ⟨_, rfl⟩
  have hnv : nn = 1 ∨ nn = 3 ∨ nn = 5 ∨ nn = 7 := by omega
  rw [← hnn] at hgs
  have g : Grp gs := by rw [hgs]; exact grp_Grp hnv
  have hgl : gs.length = nn := by rw [hgs, grp_len]
  obtain ⟨pgs, hp⟩ : ∃ pgs, pgs = l.map (fun y => y.2.g) := ⟨_, rfl⟩
  have h4p : pgs.length = 4 := by rw [hp, List.length_map]; exact hl4
  have hpm : l.map (fun y => ptrV y.2.g) = pgs.map ptrV := by rw [hp, List.map_map]; rfl
  rw [hpm] at H
  replace H : Own B (.cells h 64 [.int .i64 3, .int .i64 3, .int .i64 9, .int .i64 0, slv ga gs.length gc, slv (some ia) gs.length gs.length, slv pa pgs.length pc, slv none ([] : List GM).length 0, lsv none 0 0 0, slv (some na) pgs.length pgs.length, slv (some ca) pgs.length pgs.length] :: .row none 0 46 30 ([] : List GM).length (msgs ([] : List GM)) :: .row ga gc 3 1 gs.length (ints gs) :: .cells ia 121 ((List.replicate gs.length Inst.zero).flatMap Inst.cells) :: .row pa pc 29 1 pgs.length (pgs.map ptrV) :: .loose none 0 0 0 28 9 :: .cells na 3 (ints (List.replicate 4 0)) :: .cells ca 3 (ints (List.replicate 4 0)) :: (ch l ++ F)) w := by rw [h4p]; exact H
  refine ⟨_, rfl, (fun h => (nomatch h)), ?_⟩
  refine re_move rfl rfl rfl rfl rfl ?_
  refine re_extract rfl rfl rfl rfl rfl rfl ?_
  refine re_extract rfl rfl rfl rfl rfl rfl ?_
  refine re_assign rfl rfl rfl rfl rfl ?_
  refine re_assign rfl rfl rfl rfl rfl ?_
  refine re_nil ?_
  refine qe_thenC ?_
  refine ce_seq ?_
  refine ce_seq ?_
  refine ce_text (tab := []) (soft := 3) (.op 0 (.op 1 .nil)) rfl rfl ?_
  refine re_move rfl rfl rfl rfl rfl ?_
  refine re_not rfl rfl rfl rfl rfl ?_
  refine re_nil ?_
  refine qe_thenC ?_
  refine ce_condF rfl ?_
  refine ce_skip ?_
  refine qe_thenC ?_
  refine ce_seq ?_
  refine ce_text (tab := []) (soft := 13) (.op 0 (.op 1 (.op 2 (.op 3 .nil)))) rfl rfl ?_
  refine re_move rfl rfl rfl rfl rfl ?_
  refine re_call en_10 rfl rfl rfl rfl rfl ?_
  refine Calls.mono (round_b H (by decide)) ?_
  rintro e w ⟨rfl, H⟩
  refine ⟨_, rfl, (fun h => (nomatch h)), ?_⟩
  first | refine re_subI rfl rfl rfl rfl rfl rfl (by omega) ?_ | refine re_bin rfl rfl rfl rfl rfl rfl rfl ?_
  refine re_assign rfl rfl rfl rfl rfl ?_
  refine re_nil ?_
  refine qe_thenC ?_
  refine ce_seq ?_
  refine ce_seq ?_
  refine ce_text (tab := []) (soft := 3) (.op 0 (.op 1 .nil)) rfl rfl ?_
  refine re_move rfl rfl rfl rfl rfl ?_
  refine re_bin rfl rfl rfl rfl rfl rfl rfl ?_
  refine re_nil ?_
  refine qe_thenC ?_
  refine ce_cond rfl (fun h2 => ?_) (fun h2 => ?_)
  · try simp only [zn1, zn2, zn3, zn4, zn5, zn6] at h2
    refine ce_text (tab := []) (soft := 1) (.op 0 .nil) rfl rfl ?_
    refine re_assign rfl rfl rfl rfl rfl ?_
    refine re_nil ?_
    refine qe_thenC ?_
    refine ce_seq ?_
    refine ce_seq ?_
    refine ce_text (tab := []) (soft := 1) (.op 0 .nil) rfl rfl ?_
    refine re_assign rfl rfl rfl rfl rfl ?_
    refine re_nil ?_
    refine qe_thenC ?_
    refine ce_block ?_
    refine ce_loop (α := Nat × Nat × (Option Nat) × Nat × (Option Nat) × Nat × Nat × Nat × (List XA) × HP) (fun ⟨k, j, wa, wc, d1, d2, d3, d4, l', sk⟩ => [(0, .int .i64 u1), (1, .slice sa xs.length sc), (2, .int .i64 u3), (3, .int .i64 u4), (9, .pointer (some ⟨h, 0, none⟩)), (11, .int .i64 (j : Int)), (12, .int .i64 (k : Int))]) (fun ⟨k, j, wa, wc, d1, d2, d3, d4, l', sk⟩ w => Own B (.cells h 64 [.int .i64 3, .int .i64 3, .int .i64 9, .int .i64 0, slv ga gs.length gc, slv (some ia) gs.length gs.length, slv pa pgs.length pc, slv wa sk.way.length wc, lsv d1 d2 d3 d4, slv (some na) pgs.length pgs.length, slv (some ca) pgs.length pgs.length] :: .row wa wc 46 30 sk.way.length (msgs sk.way) :: .row ga gc 3 1 gs.length (ints gs) :: .cells ia 121 (sk.ins.flatMap Inst.cells) :: .row pa pc 29 1 pgs.length (pgs.map ptrV) :: .loose d1 d2 d3 d4 28 9 :: .cells na 3 (ints sk.nkd) :: .cells ca 3 (ints sk.nks) :: (ch l' ++ F)) w ∧ k ≤ xs.length ∧ j < 4 ∧ HInv gs (k : Int) (1 + (k : Int)) (4000 + k) sk ∧ d3 ≤ 50 ∧ l'.map (fun y => y.2.g) = pgs ∧ l'.map (fun y => y.1) = sk.xs) (fun ⟨k, j, wa, wc, d1, d2, d3, d4, l', sk⟩ => xs.length - k) (0, 0, none, 0, none, 0, 0, 0, l, (HP.mk gs (List.replicate gs.length Inst.zero) (l.map (fun y => y.1)) [] (List.replicate 4 0) (List.replicate 4 0))) (And.intro rfl (And.intro rfl (And.intro rfl (And.intro rfl (And.intro rfl (And.intro rfl (And.intro rfl trivial))))))) ⟨H, Nat.zero_le _, by omega, (HInv.opened hl4 hin).up (by simp) (by simp) (Nat.le_refl _), Nat.zero_le _, hp.symm, rfl⟩ ?_
    rintro ⟨k, j, wa, wc, d1, d2, d3, d4, l', sk⟩ w HW
    obtain ⟨H, hk, hj4, I, hd3, hp', hx'⟩ := HW
    change CE _ _ _ _ _ [(0, .int .i64 u1), (1, .slice sa xs.length sc), (2, .int .i64 u3), (3, .int .i64 u4), (9, .pointer (some ⟨h, 0, none⟩)), (11, .int .i64 (j : Int)), (12, .int .i64 (k : Int))] _
    refine ce_seq ?_
    refine ce_seq ?_
    refine ce_text (tab := []) (soft := 15) (.op 0 (.op 1 (.op 2 (.op 3 .nil)))) rfl rfl ?_
    refine re_move rfl rfl rfl rfl rfl ?_
    refine re_move rfl rfl rfl rfl rfl ?_
    refine re_len rfl rfl rfl rfl rfl ul_31 ?_
    refine re_bin rfl rfl rfl rfl rfl rfl rfl ?_
    refine re_nil ?_
    refine qe_thenC ?_
    refine ce_cond rfl (fun h3 => ?_) (fun h3 => ?_)
    · try simp only [zn1, zn2, zn3, zn4, zn5, zn6] at h3
      refine ce_skip ?_
      refine qe_thenC ?_
      refine ce_seq ?_
      refine ce_block ?_
      refine ce_text (tab := []) (soft := 31) (.op 0 (.op 1 (.op 2 (.op 3 (.op 4 (.op 5 .nil)))))) rfl rfl ?_
      refine re_move rfl rfl rfl rfl rfl ?_
      refine re_move rfl rfl rfl rfl rfl ?_
      refine re_move rfl rfl rfl rfl rfl ?_
      have hlt : k < xs.length := by omega
      obtain ⟨ad, rfl, hA⟩ := hS.open_ H.to (by omega)
      refine re_index rfl rfl rfl rfl rfl rfl ul_31 ei_31 (by omega) (by omega) ?_
      refine re_loadW rfl rfl rfl rfl rfl (run_loadAt_one sh_3 (hA.int H hlt)) ?_
      refine re_call en_13 rfl rfl rfl rfl rfl ?_
      refine Calls.mono (act_p H hx' hp' h4p hd3 g I (by omega) (by omega)) ?_
      rintro e w ⟨wa, wc, d1, d2, d3, d4, l', hd3, hp', hx', rfl, H⟩
      refine ⟨_, rfl, (fun h => (nomatch h)), ?_⟩
      refine re_nil ?_
      refine qe_block_norm ?_
      refine qe_thenC ?_
      refine ce_text (tab := []) (soft := 7) (.op 0 (.op 1 (.op 2 .nil))) rfl rfl ?_
      refine re_move rfl rfl rfl rfl rfl ?_
      first | refine re_add rfl rfl rfl rfl rfl rfl (by omega) ?_ | refine re_bin rfl rfl rfl rfl rfl rfl rfl ?_
      refine re_assign rfl rfl rfl rfl rfl ?_
      refine re_nil ?_
      refine qe_round (x := (k, j, wa, wc, d1, d2, d3, d4, l', sk)) (k + 1, j, wa, wc, d1, d2, d3, d4, l', sk.act (xs[k] % 1099511627776).toNat) ?_ ?_ ?_
      · first | (dsimp only; omega) | omega
      · exact (And.intro rfl (And.intro rfl (And.intro rfl (And.intro rfl (And.intro rfl (And.intro rfl (And.intro rfl trivial)))))))
      · exact ⟨H, by omega, hj4, (I.act_ g (by omega) (by omega) (by omega) _).up (by push_cast; omega) (by push_cast; omega) (by omega), hd3, hp', hx'⟩
    · try simp only [zn1, zn2, zn3, zn4, zn5, zn6] at h3
      refine ce_exit ?_
      refine qe_then_exit ?_
      refine qe_then_exit ?_
      refine qe_block_exit ?_
      refine qe_thenC ?_
      refine ce_seq ?_
      refine ce_text (tab := []) (soft := 1) (.op 0 .nil) rfl rfl ?_
      obtain rfl : k = xs.length := by omega
      refine re_assign rfl rfl rfl rfl rfl ?_
      refine re_nil ?_
      refine qe_thenC ?_
      refine ce_seq ?_
      refine ce_text (tab := []) (soft := 5) (.op 0 (.op 1 (.op 2 .nil))) rfl rfl ?_
      refine re_move rfl rfl rfl rfl rfl ?_
      refine re_call en_10 rfl rfl rfl rfl rfl ?_
      refine Calls.mono (round_b H (by decide)) ?_
      rintro e w ⟨rfl, H⟩
      refine ⟨_, rfl, (fun h => (nomatch h)), ?_⟩
      refine re_assign rfl rfl rfl rfl rfl ?_
      refine re_nil ?_
      refine qe_thenC ?_
      refine ce_seq ?_
      refine ce_seq ?_
      refine ce_text (tab := []) (soft := 1) (.op 0 .nil) rfl rfl ?_
      refine re_assign rfl rfl rfl rfl rfl ?_
      refine re_nil ?_
      refine qe_thenC ?_
      refine ce_block ?_
      refine ce_loop (α := Nat × Int × Int) (fun ⟨i, dn, lf⟩ => [(0, .int .i64 u1), (1, .slice sa xs.length sc), (2, .int .i64 u3), (3, .int .i64 u4), (9, .pointer (some ⟨h, 0, none⟩)), (11, .int .i64 (j : Int)), (13, .int .i64 dn), (14, .int .i64 lf), (15, .int .i64 (i : Int))]) (fun ⟨i, dn, lf⟩ w => Own B (.cells h 64 [.int .i64 3, .int .i64 3, .int .i64 9, .int .i64 0, slv ga gs.length gc, slv (some ia) gs.length gs.length, slv pa pgs.length pc, slv wa sk.way.length wc, lsv d1 d2 d3 d4, slv (some na) pgs.length pgs.length, slv (some ca) pgs.length pgs.length] :: .row wa wc 46 30 sk.way.length (msgs sk.way) :: .row ga gc 3 1 gs.length (ints gs) :: .cells ia 121 (sk.ins.flatMap Inst.cells) :: .row pa pc 29 1 pgs.length (pgs.map ptrV) :: .loose d1 d2 d3 d4 28 9 :: .cells na 3 (ints sk.nkd) :: .cells ca 3 (ints sk.nks) :: (ch l' ++ F)) w ∧ i ≤ gs.length ∧ (0 ≤ dn ∧ dn < 128) ∧ (0 ≤ lf ∧ lf ≤ u1 % 4) ∧ (gs.length : Int) ≤ (upN dn gs.length : Int) + (u1 % 4 - lf)) (fun ⟨i, dn, lf⟩ => gs.length - i) (0, 0, u1 % 4) (And.intro rfl (And.intro rfl (And.intro rfl (And.intro rfl (And.intro rfl (And.intro rfl (And.intro rfl (And.intro rfl (And.intro rfl trivial))))))))) ⟨H, Nat.zero_le _, ⟨by omega, by omega⟩, ⟨by omega, by omega⟩, by rw [up_zero (by omega)]; omega⟩ ?_
      rintro ⟨i, dn, lf⟩ w HW
      obtain ⟨H, hi, hdn, hlf, hup⟩ := HW
      change CE _ _ _ _ _ [(0, .int .i64 u1), (1, .slice sa xs.length sc), (2, .int .i64 u3), (3, .int .i64 u4), (9, .pointer (some ⟨h, 0, none⟩)), (11, .int .i64 (j : Int)), (13, .int .i64 dn), (14, .int .i64 lf), (15, .int .i64 (i : Int))] _
      refine ce_seq ?_
      refine ce_seq ?_
      refine ce_text (tab := []) (soft := 2047) (.op 0 (.op 1 (.op 2 (.op 3 (.op 4 (.op 5 (.op 6 (.op 7 (.op 8 (.op 9 (.op 10 .nil))))))))))) rfl rfl ?_
      refine re_move rfl rfl rfl rfl rfl ?_
      refine re_move rfl rfl rfl rfl rfl ?_
      refine re_nilc rfl rfl rfl rfl rfl ?_
      first | refine re_field0 rfl rfl rfl rfl rfl fo_64_1 ?_ | refine re_field rfl rfl rfl rfl rfl fo_64_1 ?_ | refine re_fieldA rfl rfl rfl rfl rfl fo_64_1 ?_
      refine re_load H rfl rfl rfl rfl rfl sh_31 rfl ?_
      refine re_len rfl rfl rfl rfl rfl ul_31 ?_
      refine re_bin rfl rfl rfl rfl rfl rfl rfl ?_
      refine re_move rfl rfl rfl rfl rfl ?_
      refine re_split (fun hg16_7 => ?_) (fun hg16_7 => ?_)
      ·
        refine re_move rfl rfl rfl rfl rfl ?_
        refine re_bin rfl rfl rfl rfl rfl rfl rfl ?_
        refine re_pickT rfl rfl rfl rfl rfl rfl ?_
        refine re_nil ?_
        refine qe_thenC ?_
        refine ce_cond rfl (fun h4 => ?_) (fun h4 => ?_)
        · try simp only [zn1, zn2, zn3, zn4, zn5, zn6] at h4
          refine ce_skip ?_
          refine qe_thenC ?_
          refine ce_seq ?_
          refine ce_block ?_
          refine ce_seq ?_
          refine ce_open (tab := [0, 1, 0, 4, 15, 31]) (soft := 61) mixed (.op 0 (.op 2 (.op 3 (.op 1 (.op 4 (.op 5 .nil)))))) (by kernel_rfl) H ?_
          intro w H
          have hil := of_decide_eq_true hg16_7
          refine re_move rfl rfl rfl rfl rfl ?_
          refine re_move rfl rfl rfl rfl rfl ?_
          refine re_bits rfl rfl rfl rfl rfl rfl (.inr (.inr ⟨rfl, by omega⟩)) ?_
          refine re_call en_10 rfl rfl rfl rfl rfl ?_
          refine Calls.mono (round_b H (by decide)) ?_
          rintro e w ⟨rfl, H⟩
          refine ⟨_, rfl, (fun _ => trivial), ?_⟩
          refine re_bits rfl rfl rfl rfl rfl rfl (.inl rfl) ?_
          refine re_bin rfl rfl rfl rfl rfl rfl rfl ?_
          refine re_nil ?_
          refine qe_noPanic ?_
          refine qe_thenC ?_
          refine ce_cond rfl (fun h5 => ?_) (fun h5 => ?_)
          · try simp only [zn1, zn2, zn3, zn4, zn5, zn6] at h5
            refine ce_seq ?_
            refine ce_text (tab := []) (soft := 31) (.op 0 (.op 1 (.op 2 (.op 3 (.op 4 .nil))))) rfl rfl ?_
            refine re_move rfl rfl rfl rfl rfl ?_
            refine re_move rfl rfl rfl rfl rfl ?_
            refine re_bits rfl rfl rfl rfl rfl rfl (.inr (.inr ⟨rfl, by omega⟩)) ?_
            refine re_bits rfl rfl rfl rfl rfl rfl (.inr (.inl rfl)) ?_
            refine re_assign rfl rfl rfl rfl rfl ?_
            refine re_nil ?_
            refine qe_thenC ?_
            refine ce_text (tab := []) (soft := 7) (.op 0 (.op 1 (.op 2 .nil))) rfl rfl ?_
            refine re_move rfl rfl rfl rfl rfl ?_
            first | refine re_subI rfl rfl rfl rfl rfl rfl (by omega) ?_ | refine re_bin rfl rfl rfl rfl rfl rfl rfl ?_
            refine re_assign rfl rfl rfl rfl rfl ?_
            refine re_nil ?_
            refine qe_block_norm ?_
            refine qe_thenC ?_
            refine ce_text (tab := []) (soft := 7) (.op 0 (.op 1 (.op 2 .nil))) rfl rfl ?_
            refine re_move rfl rfl rfl rfl rfl ?_
            first | refine re_add rfl rfl rfl rfl rfl rfl (by omega) ?_ | refine re_bin rfl rfl rfl rfl rfl rfl rfl ?_
            refine re_assign rfl rfl rfl rfl rfl ?_
            refine re_nil ?_
            refine qe_round (x := (i, dn, lf)) (i + 1, bitsI .or dn (bitsI .shl 1 (i : Int)), lf - 1) ?_ ?_ ?_
            · first | (dsimp only; omega) | omega
            · exact (And.intro rfl (And.intro rfl (And.intro rfl (And.intro rfl (And.intro rfl (And.intro rfl (And.intro rfl (And.intro rfl (And.intro rfl trivial)))))))))
            ·
              have hds := down_step (n := gs.length) hdn.1 hdn.2 (k := i) (by omega) (by omega)
              exact ⟨H, by omega, hds.1, by omega, by have := hds.2; omega⟩
          · try simp only [zn1, zn2, zn3, zn4, zn5, zn6] at h5
            refine ce_skip ?_
            refine qe_block_norm ?_
            refine qe_thenC ?_
            refine ce_text (tab := []) (soft := 7) (.op 0 (.op 1 (.op 2 .nil))) rfl rfl ?_
            refine re_move rfl rfl rfl rfl rfl ?_
            first | refine re_add rfl rfl rfl rfl rfl rfl (by omega) ?_ | refine re_bin rfl rfl rfl rfl rfl rfl rfl ?_
            refine re_assign rfl rfl rfl rfl rfl ?_
            refine re_nil ?_
            refine qe_round (x := (i, dn, lf)) (i + 1, dn, lf) ?_ ?_ ?_
            · first | (dsimp only; omega) | omega
            · exact (And.intro rfl (And.intro rfl (And.intro rfl (And.intro rfl (And.intro rfl (And.intro rfl (And.intro rfl (And.intro rfl (And.intro rfl trivial)))))))))
            · exact ⟨H, by omega, hdn, hlf, hup⟩
        · try simp only [zn1, zn2, zn3, zn4, zn5, zn6] at h4
          refine ce_exit ?_
          refine qe_then_exit ?_
          refine qe_then_exit ?_
          refine qe_block_exit ?_
          refine qe_thenC ?_
          refine ce_seq ?_
          refine ce_text (tab := []) (soft := 255) (.op 0 (.op 1 (.op 2 (.op 3 (.op 4 (.op 5 (.op 6 (.op 7 .nil)))))))) rfl rfl ?_
          have hmj : Maj gs dn := maj_of g.nd (by unfold needs; omega)
          have hll : l'.length = 4 := by rw [← h4p, ← hp', List.length_map]
          have hjl : j < l'.length := by omega
          obtain ⟨xp, rfl⟩ := H.rsome pa (by omega)
          obtain ⟨gp, hgp⟩ : ∃ gp, gp = l'[j].2.g := ⟨_, rfl⟩
          have hgx : sk.xs[j]? = some l'[j].1 := by rw [← hx', List.getElem?_map, List.getElem?_eq_getElem hjl]; rfl
          have hsl : j < sk.xs.length := (List.getElem?_eq_some_iff.1 hgx).1
          have hkl : j < sk.nkd.length := by rw [I.nl]; exact hsl
          have hcl : j < sk.nks.length := by rw [I.nl2]; exact hsl
          have hoj : (l'[j].1).ok := by rw [← (List.getElem?_eq_some_iff.1 hgx).2]; exact (I.xs j hsl).ok g.un g.len
          have hpj : pgs[j]? = some gp := by rw [← hp', List.getElem?_map, List.getElem?_eq_getElem hjl, hgp]; rfl
          obtain ⟨kd0, hkd⟩ : ∃ v, sk.nkd[j]? = some v := ⟨_, List.getElem?_eq_getElem hkl⟩
          obtain ⟨nk0, hnk⟩ : ∃ v, sk.nks[j]? = some v := ⟨_, List.getElem?_eq_getElem hcl⟩
          have T0 := Trip.start (down := dn) g I hgx (by omega) (by omega) hnk hkd
          refine re_move rfl rfl rfl rfl rfl ?_
          refine re_nilc rfl rfl rfl rfl rfl ?_
          first | refine re_field0 rfl rfl rfl rfl rfl fo_64_3 ?_ | refine re_field rfl rfl rfl rfl rfl fo_64_3 ?_ | refine re_fieldA rfl rfl rfl rfl rfl fo_64_3 ?_
          refine re_load H rfl rfl rfl rfl rfl sh_61 rfl ?_
          refine re_move rfl rfl rfl rfl rfl ?_
          refine re_indexL rfl rfl rfl rfl rfl rfl ul_61 ei_61 (by omega) (by omega) ?_
          refine re_loadW rfl rfl rfl rfl rfl (run_loadAt_one sh_29 (rvalL H (ptr_at hp' hjl))) ?_
          refine re_assign rfl rfl rfl rfl rfl ?_
          refine re_nil ?_
          refine qe_thenC ?_
          refine ce_seq ?_
          refine ce_text (tab := []) (soft := 7) (.op 0 (.op 1 (.op 2 (.op 3 .nil)))) rfl rfl ?_
          refine re_move rfl rfl rfl rfl rfl ?_
          refine re_nilc rfl rfl rfl rfl rfl ?_
          first | refine re_field0 rfl rfl rfl rfl rfl fo_64_4 ?_ | refine re_field rfl rfl rfl rfl rfl fo_64_4 ?_ | refine re_fieldA rfl rfl rfl rfl rfl fo_64_4 ?_
          refine re_store H rfl rfl rfl rfl rfl rfl sh_62 rfl rfl rfl ?_
          intro cs w hcs H
          first | rw [setMany_whole rfl] at hcs | simp only [setMany, List.set_cons_zero, List.set_cons_succ, Nat.reduceAdd, Nat.zero_add, PS.cells, PS.over, GM.cells, Cmd.cells, List.cons_append, List.nil_append] at hcs
          subst hcs
          refine ⟨(fun h => (nomatch h)), ?_⟩
          refine re_nil ?_
          refine qe_thenC ?_
          refine ce_seq ?_
          refine ce_text (tab := []) (soft := 29) (.op 0 (.op 1 (.op 2 (.op 3 (.op 4 .nil))))) rfl rfl ?_
          replace H := H.nil_row 46 30
          have H := Own.arr [8, 8, 8, 8, 8, 8, 6, 7] H
          simp only [arrs, Fw.front, zm1, zm2, zm3, zm4, zm5] at H
          replace H := H.sub (.cons_cons _ (.cons_cons _ (.cons_cons _ (.cons_cons _ (.cons_cons _ (.cons_cons _ (.cons_cons _ (.cons_cons _ (.cons _ (List.Sublist.refl _))))))))))
          refine re_move rfl rfl rfl rfl rfl ?_
          refine re_call en_14 rfl rfl rfl rfl rfl ?_
          have H := pick (A := [_, _, _, _, _, _, _, _]) hjl H
          refine Calls.mono (begin_c (x := l'[j].1) (a := l'[j].2) hoj H) ?_
          rintro e w ⟨a, s, c, hg, rfl, H⟩
          replace H := unpick (D := [_]) (A := [_, _, _, _, _, _, _, _]) (y := (l'[j].1.begin.1, a)) hjl H
          simp only [List.cons_append, List.nil_append] at H
          replace H : Own B (.cells h 64 [.int .i64 3, .int .i64 3, .int .i64 9, .int .i64 0, slv ga gs.length gc, slv (some ia) gs.length gs.length, slv (some xp) pgs.length pc, slv none (sk.beg j).way.length 0, lsv d1 d2 d3 d4, slv (some na) pgs.length pgs.length, slv (some ca) pgs.length pgs.length] :: .row none 0 46 30 (sk.beg j).way.length (msgs (sk.beg j).way) :: .row ga gc 3 1 gs.length (ints gs) :: .cells ia 121 ((sk.beg j).ins.flatMap Inst.cells) :: .row (some xp) pc 29 1 pgs.length (pgs.map ptrV) :: .loose d1 d2 d3 d4 28 9 :: .cells na 3 (ints (sk.beg j).nkd) :: .cells ca 3 (ints (sk.beg j).nks) :: (ch (l'.set j (l'[j].1.begin.1, a)) ++ F)) w := by rw [HP.beg_eq hgx]; exact H.tail
          have hkb : (sk.beg j).nkd[j]? = some kd0 := by rw [HP.beg_eq hgx]; exact hkd
          have hcb : (sk.beg j).nks[j]? = some nk0 := by rw [HP.beg_eq hgx]; exact hnk
          have hxb : (l'.set j (l'[j].1.begin.1, a)).map (fun y => y.1) = (sk.beg j).xs := by rw [HP.beg_eq hgx, List.map_set, hx']
          have hpb := (map_set_g (y := (l'[j].1.begin.1, a)) hjl hg).trans hp'
          obtain ⟨l2, hl2⟩ : ∃ l2, l2 = l'.set j (l'[j].1.begin.1, a) := ⟨_, rfl⟩
          have hj2 : j < l2.length := by rw [hl2, List.length_set]; exact hjl
          obtain ⟨y0, hy0⟩ : ∃ y, y = l'[j].1.begin.1 := ⟨_, rfl⟩
          have hy2 : l2[j].1 = y0 := by simp only [hl2, List.getElem_set_self, hy0]
          have hg2 : l2[j].2.g = gp := by simp only [hl2, List.getElem_set_self]; exact hg.trans hgp.symm
          rw [← hl2] at H hxb hpb
          obtain ⟨sb, hsb⟩ : ∃ sb, sb = sk.beg j := ⟨_, rfl⟩
          rw [← hsb] at H hkb hcb hxb T0
          rw [← hy0] at T0
          obtain ⟨bl, hbl⟩ : ∃ bl : Nat, bl = l'[j].1.begin.2.length := ⟨_, rfl⟩
          rw [← hbl] at T0 ⊢
          rw [← hgp]
          obtain ⟨b0, hb0⟩ : ∃ b0 : Nat, b0 = if 0 < (bl : Int) then 3 else 4 := ⟨_, rfl⟩
          rw [← hb0] at T0
          have hb4 : b0 ≤ 4 := by rw [hb0]; split <;> omega
          refine ⟨_, rfl, (fun h => (nomatch h)), ?_⟩
          refine re_len rfl rfl rfl rfl rfl ul_62 ?_
          refine re_bin rfl rfl rfl rfl rfl rfl rfl ?_
          refine re_assign rfl rfl rfl rfl rfl ?_
          refine re_nil ?_
          refine qe_thenC ?_
          refine ce_seq ?_
          refine ce_open (tab := [0, 1, 3, 7, 0, 31, 63, 0, 128, 511, 1023]) (soft := 1791) mixed (.op 0 (.op 1 (.op 2 (.op 3 (.op 4 (.op 5 (.op 6 (.op 7 (.op 8 (.op 9 (.op 10 .nil))))))))))) (by kernel_rfl) H ?_
          intro w H
          refine re_move rfl rfl rfl rfl rfl ?_
          refine re_nilc rfl rfl rfl rfl rfl ?_
          first | refine re_field0 rfl rfl rfl rfl rfl fo_64_6 ?_ | refine re_field rfl rfl rfl rfl rfl fo_64_6 ?_ | refine re_fieldA rfl rfl rfl rfl rfl fo_64_6 ?_
          refine re_load H rfl rfl rfl rfl rfl sh_31 rfl ?_
          refine re_move rfl rfl rfl rfl rfl ?_
          refine re_indexL rfl rfl rfl rfl rfl rfl ul_31 ei_31 (by omega) (by omega) ?_
          refine re_load H rfl rfl rfl rfl rfl sh_3 (rd_some hkb) ?_
          refine re_move rfl rfl rfl rfl rfl ?_
          refine re_call en_15 rfl rfl rfl rfl rfl ?_
          have H := pick (A := [_, _, _, _, _, _, _, _]) hj2 H
          have hCC := round_c (x := l2[j].1) (a := l2[j].2) H
          rw [hg2] at hCC
          refine Calls.mono (hCC) ?_
          rintro e w ⟨rfl, H⟩
          replace H := unpick0 (A := [_, _, _, _, _, _, _, _]) hj2 H
          simp only [List.cons_append, List.nil_append] at H
          rw [hy2]
          refine ⟨_, rfl, (fun _ => ⟨fun _ => still_load H sh_3 (rd_some hkb), fun _ => still_load H sh_31 rfl, trivial⟩), ?_⟩
          refine re_bin rfl rfl rfl rfl rfl rfl rfl ?_
          refine re_assign rfl rfl rfl rfl rfl ?_
          refine re_nil ?_
          refine qe_noPanic ?_
          refine qe_thenC ?_
          refine ce_seq ?_
          refine ce_text (tab := []) (soft := 255) (.op 0 (.op 1 (.op 2 (.op 3 (.op 4 (.op 5 (.op 6 (.op 7 .nil)))))))) rfl rfl ?_
          refine re_move rfl rfl rfl rfl rfl ?_
          refine re_nilc rfl rfl rfl rfl rfl ?_
          first | refine re_field0 rfl rfl rfl rfl rfl fo_64_7 ?_ | refine re_field rfl rfl rfl rfl rfl fo_64_7 ?_ | refine re_fieldA rfl rfl rfl rfl rfl fo_64_7 ?_
          refine re_load H rfl rfl rfl rfl rfl sh_31 rfl ?_
          refine re_move rfl rfl rfl rfl rfl ?_
          refine re_indexL rfl rfl rfl rfl rfl rfl ul_31 ei_31 (by omega) (by omega) ?_
          refine re_load H rfl rfl rfl rfl rfl sh_3 (rd_some hcb) ?_
          refine re_assign rfl rfl rfl rfl rfl ?_
          refine re_nil ?_
          refine qe_thenC ?_
          refine ce_seq ?_
          refine ce_text (tab := []) (soft := 1) (.op 0 .nil) rfl rfl ?_
          refine re_assign rfl rfl rfl rfl rfl ?_
          refine re_nil ?_
          refine qe_thenC ?_
          refine ce_seq ?_
          refine ce_block ?_
          refine ce_loop (α := Nat × (Option Nat) × Nat × (Option Nat) × Nat × Nat × Nat × (List XA) × HP × X) (fun ⟨n, wa, wc, d1, d2, d3, d4, l', sk, y⟩ => [(0, .int .i64 u1), (1, .slice sa xs.length sc), (2, .int .i64 u3), (3, .int .i64 u4), (9, .pointer (some ⟨h, 0, none⟩)), (11, .int .i64 (j : Int)), (13, .int .i64 dn), (16, ptrV gp), (17, .bool (decide (0 < (bl : Int)))), (18, .bool (!decide (kd0 = y0.p.rnd))), (19, .int .i64 nk0), (20, .int .i64 (n : Int))]) (fun ⟨n, wa, wc, d1, d2, d3, d4, l', sk, y⟩ w => Own B (.cells h 64 [.int .i64 3, .int .i64 3, .int .i64 9, .int .i64 0, slv ga gs.length gc, slv (some ia) gs.length gs.length, slv (some xp) pgs.length pc, slv wa sk.way.length wc, lsv d1 d2 d3 d4, slv (some na) pgs.length pgs.length, slv (some ca) pgs.length pgs.length] :: .row wa wc 46 30 sk.way.length (msgs sk.way) :: .row ga gc 3 1 gs.length (ints gs) :: .cells ia 121 (sk.ins.flatMap Inst.cells) :: .row (some xp) pc 29 1 pgs.length (pgs.map ptrV) :: .loose d1 d2 d3 d4 28 9 :: .cells na 3 (ints sk.nkd) :: .cells ca 3 (ints sk.nks) :: (ch l' ++ F)) w ∧ d3 ≤ 50 ∧ l'.map (fun y => y.2.g) = pgs ∧ l'.map (fun y => y.1) = sk.xs ∧ Trip gs dn (xs.length : Int) (1 + (xs.length : Int) + 1) j n b0 nk0 (kd0 ≠ y0.p.rnd) sk y) (fun ⟨n, wa, wc, d1, d2, d3, d4, l', sk, y⟩ => 5 - n) (0, none, 0, d1, d2, d3, d4, l2, sb, y0) (And.intro rfl (And.intro rfl (And.intro rfl (And.intro rfl (And.intro rfl (And.intro rfl (And.intro rfl (And.intro rfl (And.intro rfl (And.intro rfl (And.intro rfl (And.intro rfl trivial)))))))))))) ⟨H, hd3, hpb, hxb, T0⟩ ?_
          rintro ⟨n, wa, wc, d1, d2, d3, d4, l', sk, y⟩ w HW
          obtain ⟨H, hd3, hp', hx', T⟩ := HW
          change CE _ _ _ _ _ [(0, .int .i64 u1), (1, .slice sa xs.length sc), (2, .int .i64 u3), (3, .int .i64 u4), (9, .pointer (some ⟨h, 0, none⟩)), (11, .int .i64 (j : Int)), (13, .int .i64 dn), (16, ptrV gp), (17, .bool (decide (0 < (bl : Int)))), (18, .bool (!decide (kd0 = y0.p.rnd))), (19, .int .i64 nk0), (20, .int .i64 (n : Int))] _
          have hll : l'.length = 4 := by rw [← h4p, ← hp', List.length_map]
          have hjl : j < l'.length := by omega
          have hg2 : l'[j].2.g = gp := by
            have h := hpj
            rw [← hp', List.getElem?_map, List.getElem?_eq_getElem hjl] at h
            exact Option.some.inj h
          have hy2 : l'[j].1 = y := by
            have h := T.gx
            rw [← hx', List.getElem?_map, List.getElem?_eq_getElem hjl] at h
            exact Option.some.inj h
          refine ce_seq ?_
          refine ce_seq ?_
          refine ce_text (tab := []) (soft := 3) (.op 0 (.op 1 .nil)) rfl rfl ?_
          refine re_move rfl rfl rfl rfl rfl ?_
          refine re_bin rfl rfl rfl rfl rfl rfl rfl ?_
          refine re_nil ?_
          refine qe_thenC ?_
          refine ce_cond rfl (fun h6 => ?_) (fun h6 => ?_)
          · try simp only [zn1, zn2, zn3, zn4, zn5, zn6] at h6
            refine ce_skip ?_
            refine qe_thenC ?_
            refine ce_block ?_
            refine ce_seq ?_
            refine ce_text (tab := []) (soft := 157) (.op 0 (.op 1 (.op 2 (.op 3 (.op 4 (.op 5 (.op 6 (.op 7 .nil)))))))) rfl rfl ?_
            refine re_move rfl rfl rfl rfl rfl ?_
            refine re_call en_16 rfl rfl rfl rfl rfl ?_
            have H := pick (A := [_, _, _, _, _, _, _, _]) hjl H
            have hCC := decided_c (x := l'[j].1) (a := l'[j].2) H
            rw [hg2] at hCC
            refine Calls.mono (hCC) ?_
            rintro e w ⟨rfl, H⟩
            replace H := unpick0 (A := [_, _, _, _, _, _, _, _]) hjl H
            simp only [List.cons_append, List.nil_append] at H
            rw [hy2]
            refine ⟨_, rfl, (fun h => (nomatch h)), ?_⟩
            refine re_move rfl rfl rfl rfl rfl ?_
            refine re_extract rfl rfl rfl rfl rfl rfl ?_
            refine re_extract rfl rfl rfl rfl rfl rfl ?_
            refine re_alloc H rfl rfl rfl rfl ze_28 ?_
            intro g21 w H
            refine ⟨(fun h => (nomatch h)), ?_⟩
            refine re_store H rfl rfl rfl rfl rfl rfl sh_28 rfl rfl rfl ?_
            intro cs w hcs H
            first | rw [setMany_whole rfl] at hcs | simp only [setMany, List.set_cons_zero, List.set_cons_succ, Nat.reduceAdd, Nat.zero_add, PS.cells, PS.over, GM.cells, Cmd.cells, List.cons_append, List.nil_append] at hcs
            subst hcs
            refine ⟨(fun h => (nomatch h)), ?_⟩
            refine re_assign rfl rfl rfl rfl rfl ?_
            refine re_nil ?_
            refine qe_thenC ?_
            refine ce_seq ?_
            refine ce_seq ?_
            refine ce_text (tab := []) (soft := 1) (.op 0 .nil) rfl rfl ?_
            refine re_move rfl rfl rfl rfl rfl ?_
            refine re_nil ?_
            refine qe_thenC ?_
            refine ce_cond rfl (fun h7 => ?_) (fun h7 => ?_)
            · try simp only [zn1, zn2, zn3, zn4, zn5, zn6] at h7
              refine ce_exit ?_
              refine qe_then_exit ?_
              refine qe_block_exit' rfl ?_
              refine qe_then_exit ?_
              refine qe_block_exit ?_
              refine qe_thenC ?_
              refine ce_seq ?_
              refine ce_text (tab := []) (soft := 157) (.op 0 (.op 1 (.op 2 (.op 3 (.op 4 (.op 5 (.op 6 (.op 7 .nil)))))))) rfl rfl ?_
              replace H := H.tail
              refine re_move rfl rfl rfl rfl rfl ?_
              refine re_call en_16 rfl rfl rfl rfl rfl ?_
              have H := pick (A := [_, _, _, _, _, _, _, _]) hjl H
              have hCC := decided_c (x := l'[j].1) (a := l'[j].2) H
              rw [hg2] at hCC
              refine Calls.mono (hCC) ?_
              rintro e w ⟨rfl, H⟩
              replace H := unpick0 (A := [_, _, _, _, _, _, _, _]) hjl H
              simp only [List.cons_append, List.nil_append] at H
              rw [hy2]
              refine ⟨_, rfl, (fun h => (nomatch h)), ?_⟩
              refine re_move rfl rfl rfl rfl rfl ?_
              refine re_extract rfl rfl rfl rfl rfl rfl ?_
              refine re_extract rfl rfl rfl rfl rfl rfl ?_
              refine re_alloc H rfl rfl rfl rfl ze_28 ?_
              intro g23 w H
              refine ⟨(fun h => (nomatch h)), ?_⟩
              refine re_store H rfl rfl rfl rfl rfl rfl sh_28 rfl rfl rfl ?_
              intro cs w hcs H
              first | rw [setMany_whole rfl] at hcs | simp only [setMany, List.set_cons_zero, List.set_cons_succ, Nat.reduceAdd, Nat.zero_add, PS.cells, PS.over, GM.cells, Cmd.cells, List.cons_append, List.nil_append] at hcs
              subst hcs
              refine ⟨(fun h => (nomatch h)), ?_⟩
              refine re_assign rfl rfl rfl rfl rfl ?_
              refine re_nil ?_
              refine qe_thenC ?_
              refine ce_seq ?_
              refine ce_text (tab := []) (soft := 8191) (.op 0 (.op 1 (.op 2 (.op 3 (.op 4 (.op 5 (.op 6 (.op 7 (.op 8 (.op 9 (.op 10 (.op 11 (.op 12 .nil))))))))))))) rfl rfl ?_
              simp only [h7]
              obtain ⟨nk, hnk1, hnk2, hnk3⟩ := T.nk
              have htle := T.le
              have f1 : (n : Int) ≤ 4 := by omega
              have f2 : 0 < (bl : Int) → (n : Int) ≤ 3 := fun hb => by rw [if_pos hb] at hb0; omega
              have f3 : kd0 ≠ y0.p.rnd → nk0 = nk → (n : Int) ≤ 2 := fun hq he => by
                rcases hnk3 hq with h | ⟨q, h, _⟩
                · omega
                · omega
              refine re_move rfl rfl rfl rfl rfl ?_
              refine re_move rfl rfl rfl rfl rfl ?_
              refine re_split (fun hg33_1 => ?_) (fun hg33_1 => ?_)
              ·
                refine re_move rfl rfl rfl rfl rfl ?_
                refine re_move rfl rfl rfl rfl rfl ?_
                refine re_nilc rfl rfl rfl rfl rfl ?_
                first | refine re_field0 rfl rfl rfl rfl rfl fo_64_7 ?_ | refine re_field rfl rfl rfl rfl rfl fo_64_7 ?_ | refine re_fieldA rfl rfl rfl rfl rfl fo_64_7 ?_
                refine re_load H rfl rfl rfl rfl rfl sh_31 rfl ?_
                refine re_move rfl rfl rfl rfl rfl ?_
                refine re_indexL rfl rfl rfl rfl rfl rfl ul_31 ei_31 (by omega) (by omega) ?_
                refine re_load H rfl rfl rfl rfl rfl sh_3 (rd_some hnk1) ?_
                refine re_bin rfl rfl rfl rfl rfl rfl rfl ?_
                refine re_pickT rfl rfl rfl rfl rfl rfl ?_
                refine re_assign rfl rfl rfl rfl rfl ?_
                refine re_nil ?_
                refine qe_thenC ?_
                refine ce_seq ?_
                refine ce_text (tab := []) (soft := 4194303) (.op 0 (.op 1 (.op 2 (.op 3 (.op 4 (.op 5 (.op 6 (.op 7 (.op 8 (.op 9 (.op 10 (.op 11 (.op 12 (.op 13 (.op 14 (.op 15 (.op 16 (.op 17 (.op 18 (.op 19 (.op 20 (.op 21 .nil)))))))))))))))))))))) rfl rfl ?_
                refine re_move rfl rfl rfl rfl rfl ?_
                refine re_move rfl rfl rfl rfl rfl ?_
                refine re_split (fun hg34_1 => ?_) (fun hg34_1 => ?_)
                ·
                  refine re_move rfl rfl rfl rfl rfl ?_
                  refine re_bin rfl rfl rfl rfl rfl rfl rfl ?_
                  refine re_pickT rfl rfl rfl rfl rfl rfl ?_
                  refine re_move rfl rfl rfl rfl rfl ?_
                  refine re_split (fun hg34_5 => ?_) (fun hg34_5 => ?_)
                  ·
                    refine re_move rfl rfl rfl rfl rfl ?_
                    refine re_not rfl rfl rfl rfl rfl ?_
                    refine re_move rfl rfl rfl rfl rfl ?_
                    refine re_split (fun hg34_8 => ?_) (fun hg34_8 => ?_)
                    ·
                      refine re_skip1 rfl rfl rfl ?_
                      refine re_skip1 rfl rfl rfl ?_
                      refine re_pickT rfl rfl rfl rfl rfl rfl ?_
                      refine re_pickT rfl rfl rfl rfl rfl rfl ?_
                      refine re_move rfl rfl rfl rfl rfl ?_
                      refine re_move rfl rfl rfl rfl rfl ?_
                      refine re_not rfl rfl rfl rfl rfl ?_
                      refine re_move rfl rfl rfl rfl rfl ?_
                      refine re_split (fun hg34_16 => ?_) (fun hg34_16 => ?_)
                      ·
                        refine re_skip1 rfl rfl rfl ?_
                        refine re_skip1 rfl rfl rfl ?_
                        refine re_pickT rfl rfl rfl rfl rfl rfl ?_
                        refine re_pickT rfl rfl rfl rfl rfl rfl ?_
                        refine re_assign rfl rfl rfl rfl rfl ?_
                        refine re_nil ?_
                        refine qe_thenC ?_
                        refine ce_ret ?_
                        refine qe_end rfl rfl ?_
                        exact ⟨rfl, (H.drop 9).append_right⟩
                      ·
                        refine re_move rfl rfl rfl rfl rfl ?_
                        refine re_bin rfl rfl rfl rfl rfl rfl rfl ?_
                        refine re_pickF rfl rfl rfl rfl rfl rfl ?_
                        refine re_pickT rfl rfl rfl rfl rfl rfl ?_
                        refine re_assign rfl rfl rfl rfl rfl ?_
                        refine re_nil ?_
                        refine qe_thenC ?_
                        refine ce_ret ?_
                        refine qe_end rfl rfl ?_
                        have e1 : kd0 ≠ y0.p.rnd := fun h => by rw [decide_eq_true h] at hg33_1; cases hg33_1
                        have e2 : nk0 = nk := by
                          by_cases h : nk0 = nk
                          · exact h
                          · rw [decide_eq_false h] at hg34_16; cases hg34_16
                        exact ⟨by rw [decide_eq_true (f3 e1 e2)], (H.drop 9).append_right⟩
                    ·
                      refine re_move rfl rfl rfl rfl rfl ?_
                      refine re_bin rfl rfl rfl rfl rfl rfl rfl ?_
                      refine re_pickF rfl rfl rfl rfl rfl rfl ?_
                      refine re_pickT rfl rfl rfl rfl rfl rfl ?_
                      refine re_move rfl rfl rfl rfl rfl ?_
                      refine re_split (fun hg34_13 => ?_) (fun hg34_13 => ?_)
                      ·
                        refine re_move rfl rfl rfl rfl rfl ?_
                        refine re_not rfl rfl rfl rfl rfl ?_
                        refine re_move rfl rfl rfl rfl rfl ?_
                        refine re_split (fun hg34_16 => ?_) (fun hg34_16 => ?_)
                        ·
                          refine re_skip1 rfl rfl rfl ?_
                          refine re_skip1 rfl rfl rfl ?_
                          refine re_pickT rfl rfl rfl rfl rfl rfl ?_
                          refine re_pickT rfl rfl rfl rfl rfl rfl ?_
                          refine re_assign rfl rfl rfl rfl rfl ?_
                          refine re_nil ?_
                          refine qe_thenC ?_
                          refine ce_ret ?_
                          refine qe_end rfl rfl ?_
                          exact ⟨rfl, (H.drop 9).append_right⟩
                        ·
                          refine re_move rfl rfl rfl rfl rfl ?_
                          refine re_bin rfl rfl rfl rfl rfl rfl rfl ?_
                          refine re_pickF rfl rfl rfl rfl rfl rfl ?_
                          refine re_pickT rfl rfl rfl rfl rfl rfl ?_
                          refine re_assign rfl rfl rfl rfl rfl ?_
                          refine re_nil ?_
                          refine qe_thenC ?_
                          refine ce_ret ?_
                          refine qe_end rfl rfl ?_
                          have e1 : kd0 ≠ y0.p.rnd := fun h => by rw [decide_eq_true h] at hg33_1; cases hg33_1
                          have e2 : nk0 = nk := by
                            by_cases h : nk0 = nk
                            · exact h
                            · rw [decide_eq_false h] at hg34_16; cases hg34_16
                          exact ⟨by rw [decide_eq_true (f3 e1 e2)], (H.drop 9).append_right⟩
                      ·
                        refine re_skip1 rfl rfl rfl ?_
                        refine re_skip1 rfl rfl rfl ?_
                        refine re_skip1 rfl rfl rfl ?_
                        refine re_skip1 rfl rfl rfl ?_
                        refine re_skip1 rfl rfl rfl ?_
                        refine re_skip1 rfl rfl rfl ?_
                        refine re_pickF rfl rfl rfl rfl rfl rfl ?_
                        refine re_assign rfl rfl rfl rfl rfl ?_
                        refine re_nil ?_
                        refine qe_thenC ?_
                        refine ce_ret ?_
                        refine qe_end rfl rfl ?_
                        have e1 : 0 < (bl : Int) := by
                          by_cases h : 0 < (bl : Int)
                          · exact h
                          · rw [decide_eq_false h] at hg34_8; cases hg34_8
                        exact absurd (f2 e1) (of_decide_eq_false hg34_13)
                  ·
                    refine re_skip1 rfl rfl rfl ?_
                    refine re_skip1 rfl rfl rfl ?_
                    refine re_skip1 rfl rfl rfl ?_
                    refine re_skip1 rfl rfl rfl ?_
                    refine re_skip1 rfl rfl rfl ?_
                    refine re_skip1 rfl rfl rfl ?_
                    refine re_pickF rfl rfl rfl rfl rfl rfl ?_
                    refine re_move rfl rfl rfl rfl rfl ?_
                    refine re_skip1 rfl rfl rfl ?_
                    refine re_skip1 rfl rfl rfl ?_
                    refine re_skip1 rfl rfl rfl ?_
                    refine re_skip1 rfl rfl rfl ?_
                    refine re_skip1 rfl rfl rfl ?_
                    refine re_skip1 rfl rfl rfl ?_
                    refine re_pickF rfl rfl rfl rfl rfl rfl ?_
                    refine re_assign rfl rfl rfl rfl rfl ?_
                    refine re_nil ?_
                    refine qe_thenC ?_
                    refine ce_ret ?_
                    refine qe_end rfl rfl ?_
                    exact absurd f1 (of_decide_eq_false hg34_5)
                ·
                  refine re_skip1 rfl rfl rfl ?_
                  refine re_skip1 rfl rfl rfl ?_
                  refine re_pickF rfl rfl rfl rfl rfl rfl ?_
                  refine re_move rfl rfl rfl rfl rfl ?_
                  refine re_skip1 rfl rfl rfl ?_
                  refine re_skip1 rfl rfl rfl ?_
                  refine re_skip1 rfl rfl rfl ?_
                  refine re_skip1 rfl rfl rfl ?_
                  refine re_skip1 rfl rfl rfl ?_
                  refine re_skip1 rfl rfl rfl ?_
                  refine re_pickF rfl rfl rfl rfl rfl rfl ?_
                  refine re_move rfl rfl rfl rfl rfl ?_
                  refine re_skip1 rfl rfl rfl ?_
                  refine re_skip1 rfl rfl rfl ?_
                  refine re_skip1 rfl rfl rfl ?_
                  refine re_skip1 rfl rfl rfl ?_
                  refine re_skip1 rfl rfl rfl ?_
                  refine re_skip1 rfl rfl rfl ?_
                  refine re_pickF rfl rfl rfl rfl rfl rfl ?_
                  refine re_assign rfl rfl rfl rfl rfl ?_
                  refine re_nil ?_
                  refine qe_thenC ?_
                  refine ce_ret ?_
                  refine qe_end rfl rfl ?_
                  cases hg34_1
              ·
                refine re_skip1 rfl rfl rfl ?_
                refine re_skip1 rfl rfl rfl ?_
                refine re_skip1 rfl rfl rfl ?_
                refine re_skip1 rfl rfl rfl ?_
                refine re_skip1 rfl rfl rfl ?_
                refine re_skip1 rfl rfl rfl ?_
                refine re_skip1 rfl rfl rfl ?_
                refine re_skip1 rfl rfl rfl ?_
                refine re_skip1 rfl rfl rfl ?_
                refine re_pickF rfl rfl rfl rfl rfl rfl ?_
                refine re_assign rfl rfl rfl rfl rfl ?_
                refine re_nil ?_
                refine qe_thenC ?_
                refine ce_seq ?_
                refine ce_text (tab := []) (soft := 4194303) (.op 0 (.op 1 (.op 2 (.op 3 (.op 4 (.op 5 (.op 6 (.op 7 (.op 8 (.op 9 (.op 10 (.op 11 (.op 12 (.op 13 (.op 14 (.op 15 (.op 16 (.op 17 (.op 18 (.op 19 (.op 20 (.op 21 .nil)))))))))))))))))))))) rfl rfl ?_
                refine re_move rfl rfl rfl rfl rfl ?_
                refine re_move rfl rfl rfl rfl rfl ?_
                refine re_split (fun hg34_1 => ?_) (fun hg34_1 => ?_)
                ·
                  refine re_move rfl rfl rfl rfl rfl ?_
                  refine re_bin rfl rfl rfl rfl rfl rfl rfl ?_
                  refine re_pickT rfl rfl rfl rfl rfl rfl ?_
                  refine re_move rfl rfl rfl rfl rfl ?_
                  refine re_split (fun hg34_5 => ?_) (fun hg34_5 => ?_)
                  ·
                    refine re_move rfl rfl rfl rfl rfl ?_
                    refine re_not rfl rfl rfl rfl rfl ?_
                    refine re_move rfl rfl rfl rfl rfl ?_
                    refine re_split (fun hg34_8 => ?_) (fun hg34_8 => ?_)
                    ·
                      refine re_skip1 rfl rfl rfl ?_
                      refine re_skip1 rfl rfl rfl ?_
                      refine re_pickT rfl rfl rfl rfl rfl rfl ?_
                      refine re_pickT rfl rfl rfl rfl rfl rfl ?_
                      refine re_move rfl rfl rfl rfl rfl ?_
                      refine re_move rfl rfl rfl rfl rfl ?_
                      refine re_not rfl rfl rfl rfl rfl ?_
                      refine re_move rfl rfl rfl rfl rfl ?_
                      refine re_split (fun hg34_16 => ?_) (fun hg34_16 => ?_)
                      ·
                        refine re_skip1 rfl rfl rfl ?_
                        refine re_skip1 rfl rfl rfl ?_
                        refine re_pickT rfl rfl rfl rfl rfl rfl ?_
                        refine re_pickT rfl rfl rfl rfl rfl rfl ?_
                        refine re_assign rfl rfl rfl rfl rfl ?_
                        refine re_nil ?_
                        refine qe_thenC ?_
                        refine ce_ret ?_
                        refine qe_end rfl rfl ?_
                        exact ⟨rfl, (H.drop 9).append_right⟩
                      ·
                        refine re_move rfl rfl rfl rfl rfl ?_
                        refine re_bin rfl rfl rfl rfl rfl rfl rfl ?_
                        refine re_pickF rfl rfl rfl rfl rfl rfl ?_
                        refine re_pickT rfl rfl rfl rfl rfl rfl ?_
                        refine re_assign rfl rfl rfl rfl rfl ?_
                        refine re_nil ?_
                        refine qe_thenC ?_
                        refine ce_ret ?_
                        refine qe_end rfl rfl ?_
                        cases hg34_16
                    ·
                      refine re_move rfl rfl rfl rfl rfl ?_
                      refine re_bin rfl rfl rfl rfl rfl rfl rfl ?_
                      refine re_pickF rfl rfl rfl rfl rfl rfl ?_
                      refine re_pickT rfl rfl rfl rfl rfl rfl ?_
                      refine re_move rfl rfl rfl rfl rfl ?_
                      refine re_split (fun hg34_13 => ?_) (fun hg34_13 => ?_)
                      ·
                        refine re_move rfl rfl rfl rfl rfl ?_
                        refine re_not rfl rfl rfl rfl rfl ?_
                        refine re_move rfl rfl rfl rfl rfl ?_
                        refine re_split (fun hg34_16 => ?_) (fun hg34_16 => ?_)
                        ·
                          refine re_skip1 rfl rfl rfl ?_
                          refine re_skip1 rfl rfl rfl ?_
                          refine re_pickT rfl rfl rfl rfl rfl rfl ?_
                          refine re_pickT rfl rfl rfl rfl rfl rfl ?_
                          refine re_assign rfl rfl rfl rfl rfl ?_
                          refine re_nil ?_
                          refine qe_thenC ?_
                          refine ce_ret ?_
                          refine qe_end rfl rfl ?_
                          exact ⟨rfl, (H.drop 9).append_right⟩
                        ·
                          refine re_move rfl rfl rfl rfl rfl ?_
                          refine re_bin rfl rfl rfl rfl rfl rfl rfl ?_
                          refine re_pickF rfl rfl rfl rfl rfl rfl ?_
                          refine re_pickT rfl rfl rfl rfl rfl rfl ?_
                          refine re_assign rfl rfl rfl rfl rfl ?_
                          refine re_nil ?_
                          refine qe_thenC ?_
                          refine ce_ret ?_
                          refine qe_end rfl rfl ?_
                          cases hg34_16
                      ·
                        refine re_skip1 rfl rfl rfl ?_
                        refine re_skip1 rfl rfl rfl ?_
                        refine re_skip1 rfl rfl rfl ?_
                        refine re_skip1 rfl rfl rfl ?_
                        refine re_skip1 rfl rfl rfl ?_
                        refine re_skip1 rfl rfl rfl ?_
                        refine re_pickF rfl rfl rfl rfl rfl rfl ?_
                        refine re_assign rfl rfl rfl rfl rfl ?_
                        refine re_nil ?_
                        refine qe_thenC ?_
                        refine ce_ret ?_
                        refine qe_end rfl rfl ?_
                        have e1 : 0 < (bl : Int) := by
                          by_cases h : 0 < (bl : Int)
                          · exact h
                          · rw [decide_eq_false h] at hg34_8; cases hg34_8
                        exact absurd (f2 e1) (of_decide_eq_false hg34_13)
                  ·
                    refine re_skip1 rfl rfl rfl ?_
                    refine re_skip1 rfl rfl rfl ?_
                    refine re_skip1 rfl rfl rfl ?_
                    refine re_skip1 rfl rfl rfl ?_
                    refine re_skip1 rfl rfl rfl ?_
                    refine re_skip1 rfl rfl rfl ?_
                    refine re_pickF rfl rfl rfl rfl rfl rfl ?_
                    refine re_move rfl rfl rfl rfl rfl ?_
                    refine re_skip1 rfl rfl rfl ?_
                    refine re_skip1 rfl rfl rfl ?_
                    refine re_skip1 rfl rfl rfl ?_
                    refine re_skip1 rfl rfl rfl ?_
                    refine re_skip1 rfl rfl rfl ?_
                    refine re_skip1 rfl rfl rfl ?_
                    refine re_pickF rfl rfl rfl rfl rfl rfl ?_
                    refine re_assign rfl rfl rfl rfl rfl ?_
                    refine re_nil ?_
                    refine qe_thenC ?_
                    refine ce_ret ?_
                    refine qe_end rfl rfl ?_
                    exact absurd f1 (of_decide_eq_false hg34_5)
                ·
                  refine re_skip1 rfl rfl rfl ?_
                  refine re_skip1 rfl rfl rfl ?_
                  refine re_pickF rfl rfl rfl rfl rfl rfl ?_
                  refine re_move rfl rfl rfl rfl rfl ?_
                  refine re_skip1 rfl rfl rfl ?_
                  refine re_skip1 rfl rfl rfl ?_
                  refine re_skip1 rfl rfl rfl ?_
                  refine re_skip1 rfl rfl rfl ?_
                  refine re_skip1 rfl rfl rfl ?_
                  refine re_skip1 rfl rfl rfl ?_
                  refine re_pickF rfl rfl rfl rfl rfl rfl ?_
                  refine re_move rfl rfl rfl rfl rfl ?_
                  refine re_skip1 rfl rfl rfl ?_
                  refine re_skip1 rfl rfl rfl ?_
                  refine re_skip1 rfl rfl rfl ?_
                  refine re_skip1 rfl rfl rfl ?_
                  refine re_skip1 rfl rfl rfl ?_
                  refine re_skip1 rfl rfl rfl ?_
                  refine re_pickF rfl rfl rfl rfl rfl rfl ?_
                  refine re_assign rfl rfl rfl rfl rfl ?_
                  refine re_nil ?_
                  refine qe_thenC ?_
                  refine ce_ret ?_
                  refine qe_end rfl rfl ?_
                  cases hg34_1
            · try simp only [zn1, zn2, zn3, zn4, zn5, zn6] at h7
              refine ce_skip ?_
              refine qe_thenC ?_
              refine ce_seq ?_
              refine ce_text (tab := []) (soft := 7) (.op 0 (.op 1 (.op 2 (.op 3 .nil)))) rfl rfl ?_
              refine re_move rfl rfl rfl rfl rfl ?_
              refine re_move rfl rfl rfl rfl rfl ?_
              refine re_move rfl rfl rfl rfl rfl ?_
              refine re_call en_17 rfl rfl rfl rfl rfl ?_
              replace H := H.tail
              have hnd : ¬ y.done := fun h => by rw [(dec_done y).2 h] at h7; cases h7
              obtain ⟨y', T'⟩ := T.next g hmj (by omega) (by omega) hb4 (by omega) hnd
              refine Calls.mono (exchange_p H hx' hp' h4p hd3 g (T.es hnd) (by omega) (by have := T.le; omega) (by have := T.le; omega) (by omega)) ?_
              rintro e w ⟨wa, wc, d1, d2, d3, d4, l', hd3, hp', hx', rfl, H⟩
              refine ⟨_, rfl, (fun h => (nomatch h)), ?_⟩
              refine re_nil ?_
              refine qe_thenC ?_
              refine ce_text (tab := []) (soft := 7) (.op 0 (.op 1 (.op 2 .nil))) rfl rfl ?_
              refine re_move rfl rfl rfl rfl rfl ?_
              first | refine re_add rfl rfl rfl rfl rfl rfl (by omega) ?_ | refine re_bin rfl rfl rfl rfl rfl rfl rfl ?_
              refine re_assign rfl rfl rfl rfl rfl ?_
              refine re_nil ?_
              refine qe_block_norm ?_
              refine qe_round (x := (n, wa, wc, d1, d2, d3, d4, l', sk, y)) (n + 1, wa, wc, d1, d2, d3, d4, l', sk.exchange j dn, y') ?_ ?_ ?_
              · first | (dsimp only; omega) | omega
              · exact (And.intro rfl (And.intro rfl (And.intro rfl (And.intro rfl (And.intro rfl (And.intro rfl (And.intro rfl (And.intro rfl (And.intro rfl (And.intro rfl (And.intro rfl (And.intro rfl trivial))))))))))))
              · exact ⟨H, hd3, hp', hx', T'⟩
          · try simp only [zn1, zn2, zn3, zn4, zn5, zn6] at h6
            exfalso; have := T.le; omega
      ·
        refine re_skip1 rfl rfl rfl ?_
        refine re_skip1 rfl rfl rfl ?_
        refine re_pickF rfl rfl rfl rfl rfl rfl ?_
        refine re_nil ?_
        refine qe_thenC ?_
        refine ce_condF rfl ?_
        refine ce_exit ?_
        refine qe_then_exit ?_
        refine qe_then_exit ?_
        refine qe_block_exit ?_
        refine qe_thenC ?_
        refine ce_seq ?_
        refine ce_text (tab := []) (soft := 255) (.op 0 (.op 1 (.op 2 (.op 3 (.op 4 (.op 5 (.op 6 (.op 7 .nil)))))))) rfl rfl ?_
        have hmj : Maj gs dn := maj_of g.nd (by unfold needs; omega)
        have hll : l'.length = 4 := by rw [← h4p, ← hp', List.length_map]
        have hjl : j < l'.length := by omega
        obtain ⟨xp, rfl⟩ := H.rsome pa (by omega)
        obtain ⟨gp, hgp⟩ : ∃ gp, gp = l'[j].2.g := ⟨_, rfl⟩
        have hgx : sk.xs[j]? = some l'[j].1 := by rw [← hx', List.getElem?_map, List.getElem?_eq_getElem hjl]; rfl
        have hsl : j < sk.xs.length := (List.getElem?_eq_some_iff.1 hgx).1
        have hkl : j < sk.nkd.length := by rw [I.nl]; exact hsl
        have hcl : j < sk.nks.length := by rw [I.nl2]; exact hsl
        have hoj : (l'[j].1).ok := by rw [← (List.getElem?_eq_some_iff.1 hgx).2]; exact (I.xs j hsl).ok g.un g.len
        have hpj : pgs[j]? = some gp := by rw [← hp', List.getElem?_map, List.getElem?_eq_getElem hjl, hgp]; rfl
        obtain ⟨kd0, hkd⟩ : ∃ v, sk.nkd[j]? = some v := ⟨_, List.getElem?_eq_getElem hkl⟩
        obtain ⟨nk0, hnk⟩ : ∃ v, sk.nks[j]? = some v := ⟨_, List.getElem?_eq_getElem hcl⟩
        have T0 := Trip.start (down := dn) g I hgx (by omega) (by omega) hnk hkd
        refine re_move rfl rfl rfl rfl rfl ?_
        refine re_nilc rfl rfl rfl rfl rfl ?_
        first | refine re_field0 rfl rfl rfl rfl rfl fo_64_3 ?_ | refine re_field rfl rfl rfl rfl rfl fo_64_3 ?_ | refine re_fieldA rfl rfl rfl rfl rfl fo_64_3 ?_
        refine re_load H rfl rfl rfl rfl rfl sh_61 rfl ?_
        refine re_move rfl rfl rfl rfl rfl ?_
        refine re_indexL rfl rfl rfl rfl rfl rfl ul_61 ei_61 (by omega) (by omega) ?_
        refine re_loadW rfl rfl rfl rfl rfl (run_loadAt_one sh_29 (rvalL H (ptr_at hp' hjl))) ?_
        refine re_assign rfl rfl rfl rfl rfl ?_
        refine re_nil ?_
        refine qe_thenC ?_
        refine ce_seq ?_
        refine ce_text (tab := []) (soft := 7) (.op 0 (.op 1 (.op 2 (.op 3 .nil)))) rfl rfl ?_
        refine re_move rfl rfl rfl rfl rfl ?_
        refine re_nilc rfl rfl rfl rfl rfl ?_
        first | refine re_field0 rfl rfl rfl rfl rfl fo_64_4 ?_ | refine re_field rfl rfl rfl rfl rfl fo_64_4 ?_ | refine re_fieldA rfl rfl rfl rfl rfl fo_64_4 ?_
        refine re_store H rfl rfl rfl rfl rfl rfl sh_62 rfl rfl rfl ?_
        intro cs w hcs H
        first | rw [setMany_whole rfl] at hcs | simp only [setMany, List.set_cons_zero, List.set_cons_succ, Nat.reduceAdd, Nat.zero_add, PS.cells, PS.over, GM.cells, Cmd.cells, List.cons_append, List.nil_append] at hcs
        subst hcs
        refine ⟨(fun h => (nomatch h)), ?_⟩
        refine re_nil ?_
        refine qe_thenC ?_
        refine ce_seq ?_
        refine ce_text (tab := []) (soft := 29) (.op 0 (.op 1 (.op 2 (.op 3 (.op 4 .nil))))) rfl rfl ?_
        replace H := H.nil_row 46 30
        have H := Own.arr [8, 8, 8, 8, 8, 8, 6, 7] H
        simp only [arrs, Fw.front, zm1, zm2, zm3, zm4, zm5] at H
        replace H := H.sub (.cons_cons _ (.cons_cons _ (.cons_cons _ (.cons_cons _ (.cons_cons _ (.cons_cons _ (.cons_cons _ (.cons_cons _ (.cons _ (List.Sublist.refl _))))))))))
        refine re_move rfl rfl rfl rfl rfl ?_
        refine re_call en_14 rfl rfl rfl rfl rfl ?_
        have H := pick (A := [_, _, _, _, _, _, _, _]) hjl H
        refine Calls.mono (begin_c (x := l'[j].1) (a := l'[j].2) hoj H) ?_
        rintro e w ⟨a, s, c, hg, rfl, H⟩
        replace H := unpick (D := [_]) (A := [_, _, _, _, _, _, _, _]) (y := (l'[j].1.begin.1, a)) hjl H
        simp only [List.cons_append, List.nil_append] at H
        replace H : Own B (.cells h 64 [.int .i64 3, .int .i64 3, .int .i64 9, .int .i64 0, slv ga gs.length gc, slv (some ia) gs.length gs.length, slv (some xp) pgs.length pc, slv none (sk.beg j).way.length 0, lsv d1 d2 d3 d4, slv (some na) pgs.length pgs.length, slv (some ca) pgs.length pgs.length] :: .row none 0 46 30 (sk.beg j).way.length (msgs (sk.beg j).way) :: .row ga gc 3 1 gs.length (ints gs) :: .cells ia 121 ((sk.beg j).ins.flatMap Inst.cells) :: .row (some xp) pc 29 1 pgs.length (pgs.map ptrV) :: .loose d1 d2 d3 d4 28 9 :: .cells na 3 (ints (sk.beg j).nkd) :: .cells ca 3 (ints (sk.beg j).nks) :: (ch (l'.set j (l'[j].1.begin.1, a)) ++ F)) w := by rw [HP.beg_eq hgx]; exact H.tail
        have hkb : (sk.beg j).nkd[j]? = some kd0 := by rw [HP.beg_eq hgx]; exact hkd
        have hcb : (sk.beg j).nks[j]? = some nk0 := by rw [HP.beg_eq hgx]; exact hnk
        have hxb : (l'.set j (l'[j].1.begin.1, a)).map (fun y => y.1) = (sk.beg j).xs := by rw [HP.beg_eq hgx, List.map_set, hx']
        have hpb := (map_set_g (y := (l'[j].1.begin.1, a)) hjl hg).trans hp'
        obtain ⟨l2, hl2⟩ : ∃ l2, l2 = l'.set j (l'[j].1.begin.1, a) := ⟨_, rfl⟩
        have hj2 : j < l2.length := by rw [hl2, List.length_set]; exact hjl
        obtain ⟨y0, hy0⟩ : ∃ y, y = l'[j].1.begin.1 := ⟨_, rfl⟩
        have hy2 : l2[j].1 = y0 := by simp only [hl2, List.getElem_set_self, hy0]
        have hg2 : l2[j].2.g = gp := by simp only [hl2, List.getElem_set_self]; exact hg.trans hgp.symm
        rw [← hl2] at H hxb hpb
        obtain ⟨sb, hsb⟩ : ∃ sb, sb = sk.beg j := ⟨_, rfl⟩
        rw [← hsb] at H hkb hcb hxb T0
        rw [← hy0] at T0
        obtain ⟨bl, hbl⟩ : ∃ bl : Nat, bl = l'[j].1.begin.2.length := ⟨_, rfl⟩
        rw [← hbl] at T0 ⊢
        rw [← hgp]
        obtain ⟨b0, hb0⟩ : ∃ b0 : Nat, b0 = if 0 < (bl : Int) then 3 else 4 := ⟨_, rfl⟩
        rw [← hb0] at T0
        have hb4 : b0 ≤ 4 := by rw [hb0]; split <;> omega
        refine ⟨_, rfl, (fun h => (nomatch h)), ?_⟩
        refine re_len rfl rfl rfl rfl rfl ul_62 ?_
        refine re_bin rfl rfl rfl rfl rfl rfl rfl ?_
        refine re_assign rfl rfl rfl rfl rfl ?_
        refine re_nil ?_
        refine qe_thenC ?_
        refine ce_seq ?_
        refine ce_open (tab := [0, 1, 3, 7, 0, 31, 63, 0, 128, 511, 1023]) (soft := 1791) mixed (.op 0 (.op 1 (.op 2 (.op 3 (.op 4 (.op 5 (.op 6 (.op 7 (.op 8 (.op 9 (.op 10 .nil))))))))))) (by kernel_rfl) H ?_
        intro w H
        refine re_move rfl rfl rfl rfl rfl ?_
        refine re_nilc rfl rfl rfl rfl rfl ?_
        first | refine re_field0 rfl rfl rfl rfl rfl fo_64_6 ?_ | refine re_field rfl rfl rfl rfl rfl fo_64_6 ?_ | refine re_fieldA rfl rfl rfl rfl rfl fo_64_6 ?_
        refine re_load H rfl rfl rfl rfl rfl sh_31 rfl ?_
        refine re_move rfl rfl rfl rfl rfl ?_
        refine re_indexL rfl rfl rfl rfl rfl rfl ul_31 ei_31 (by omega) (by omega) ?_
        refine re_load H rfl rfl rfl rfl rfl sh_3 (rd_some hkb) ?_
        refine re_move rfl rfl rfl rfl rfl ?_
        refine re_call en_15 rfl rfl rfl rfl rfl ?_
        have H := pick (A := [_, _, _, _, _, _, _, _]) hj2 H
        have hCC := round_c (x := l2[j].1) (a := l2[j].2) H
        rw [hg2] at hCC
        refine Calls.mono (hCC) ?_
        rintro e w ⟨rfl, H⟩
        replace H := unpick0 (A := [_, _, _, _, _, _, _, _]) hj2 H
        simp only [List.cons_append, List.nil_append] at H
        rw [hy2]
        refine ⟨_, rfl, (fun _ => ⟨fun _ => still_load H sh_3 (rd_some hkb), fun _ => still_load H sh_31 rfl, trivial⟩), ?_⟩
        refine re_bin rfl rfl rfl rfl rfl rfl rfl ?_
        refine re_assign rfl rfl rfl rfl rfl ?_
        refine re_nil ?_
        refine qe_noPanic ?_
        refine qe_thenC ?_
        refine ce_seq ?_
        refine ce_text (tab := []) (soft := 255) (.op 0 (.op 1 (.op 2 (.op 3 (.op 4 (.op 5 (.op 6 (.op 7 .nil)))))))) rfl rfl ?_
        refine re_move rfl rfl rfl rfl rfl ?_
        refine re_nilc rfl rfl rfl rfl rfl ?_
        first | refine re_field0 rfl rfl rfl rfl rfl fo_64_7 ?_ | refine re_field rfl rfl rfl rfl rfl fo_64_7 ?_ | refine re_fieldA rfl rfl rfl rfl rfl fo_64_7 ?_
        refine re_load H rfl rfl rfl rfl rfl sh_31 rfl ?_
        refine re_move rfl rfl rfl rfl rfl ?_
        refine re_indexL rfl rfl rfl rfl rfl rfl ul_31 ei_31 (by omega) (by omega) ?_
        refine re_load H rfl rfl rfl rfl rfl sh_3 (rd_some hcb) ?_
        refine re_assign rfl rfl rfl rfl rfl ?_
        refine re_nil ?_
        refine qe_thenC ?_
        refine ce_seq ?_
        refine ce_text (tab := []) (soft := 1) (.op 0 .nil) rfl rfl ?_
        refine re_assign rfl rfl rfl rfl rfl ?_
        refine re_nil ?_
        refine qe_thenC ?_
        refine ce_seq ?_
        refine ce_block ?_
        refine ce_loop (α := Nat × (Option Nat) × Nat × (Option Nat) × Nat × Nat × Nat × (List XA) × HP × X) (fun ⟨n, wa, wc, d1, d2, d3, d4, l', sk, y⟩ => [(0, .int .i64 u1), (1, .slice sa xs.length sc), (2, .int .i64 u3), (3, .int .i64 u4), (9, .pointer (some ⟨h, 0, none⟩)), (11, .int .i64 (j : Int)), (13, .int .i64 dn), (16, ptrV gp), (17, .bool (decide (0 < (bl : Int)))), (18, .bool (!decide (kd0 = y0.p.rnd))), (19, .int .i64 nk0), (20, .int .i64 (n : Int))]) (fun ⟨n, wa, wc, d1, d2, d3, d4, l', sk, y⟩ w => Own B (.cells h 64 [.int .i64 3, .int .i64 3, .int .i64 9, .int .i64 0, slv ga gs.length gc, slv (some ia) gs.length gs.length, slv (some xp) pgs.length pc, slv wa sk.way.length wc, lsv d1 d2 d3 d4, slv (some na) pgs.length pgs.length, slv (some ca) pgs.length pgs.length] :: .row wa wc 46 30 sk.way.length (msgs sk.way) :: .row ga gc 3 1 gs.length (ints gs) :: .cells ia 121 (sk.ins.flatMap Inst.cells) :: .row (some xp) pc 29 1 pgs.length (pgs.map ptrV) :: .loose d1 d2 d3 d4 28 9 :: .cells na 3 (ints sk.nkd) :: .cells ca 3 (ints sk.nks) :: (ch l' ++ F)) w ∧ d3 ≤ 50 ∧ l'.map (fun y => y.2.g) = pgs ∧ l'.map (fun y => y.1) = sk.xs ∧ Trip gs dn (xs.length : Int) (1 + (xs.length : Int) + 1) j n b0 nk0 (kd0 ≠ y0.p.rnd) sk y) (fun ⟨n, wa, wc, d1, d2, d3, d4, l', sk, y⟩ => 5 - n) (0, none, 0, d1, d2, d3, d4, l2, sb, y0) (And.intro rfl (And.intro rfl (And.intro rfl (And.intro rfl (And.intro rfl (And.intro rfl (And.intro rfl (And.intro rfl (And.intro rfl (And.intro rfl (And.intro rfl (And.intro rfl trivial)))))))))))) ⟨H, hd3, hpb, hxb, T0⟩ ?_
        rintro ⟨n, wa, wc, d1, d2, d3, d4, l', sk, y⟩ w HW
        obtain ⟨H, hd3, hp', hx', T⟩ := HW
        change CE _ _ _ _ _ [(0, .int .i64 u1), (1, .slice sa xs.length sc), (2, .int .i64 u3), (3, .int .i64 u4), (9, .pointer (some ⟨h, 0, none⟩)), (11, .int .i64 (j : Int)), (13, .int .i64 dn), (16, ptrV gp), (17, .bool (decide (0 < (bl : Int)))), (18, .bool (!decide (kd0 = y0.p.rnd))), (19, .int .i64 nk0), (20, .int .i64 (n : Int))] _
        have hll : l'.length = 4 := by rw [← h4p, ← hp', List.length_map]
        have hjl : j < l'.length := by omega
        have hg2 : l'[j].2.g = gp := by
          have h := hpj
          rw [← hp', List.getElem?_map, List.getElem?_eq_getElem hjl] at h
          exact Option.some.inj h
        have hy2 : l'[j].1 = y := by
          have h := T.gx
          rw [← hx', List.getElem?_map, List.getElem?_eq_getElem hjl] at h
          exact Option.some.inj h
        refine ce_seq ?_
        refine ce_seq ?_
        refine ce_text (tab := []) (soft := 3) (.op 0 (.op 1 .nil)) rfl rfl ?_
        refine re_move rfl rfl rfl rfl rfl ?_
        refine re_bin rfl rfl rfl rfl rfl rfl rfl ?_
        refine re_nil ?_
        refine qe_thenC ?_
        refine ce_cond rfl (fun h6 => ?_) (fun h6 => ?_)
        · try simp only [zn1, zn2, zn3, zn4, zn5, zn6] at h6
          refine ce_skip ?_
          refine qe_thenC ?_
          refine ce_block ?_
          refine ce_seq ?_
          refine ce_text (tab := []) (soft := 157) (.op 0 (.op 1 (.op 2 (.op 3 (.op 4 (.op 5 (.op 6 (.op 7 .nil)))))))) rfl rfl ?_
          refine re_move rfl rfl rfl rfl rfl ?_
          refine re_call en_16 rfl rfl rfl rfl rfl ?_
          have H := pick (A := [_, _, _, _, _, _, _, _]) hjl H
          have hCC := decided_c (x := l'[j].1) (a := l'[j].2) H
          rw [hg2] at hCC
          refine Calls.mono (hCC) ?_
          rintro e w ⟨rfl, H⟩
          replace H := unpick0 (A := [_, _, _, _, _, _, _, _]) hjl H
          simp only [List.cons_append, List.nil_append] at H
          rw [hy2]
          refine ⟨_, rfl, (fun h => (nomatch h)), ?_⟩
          refine re_move rfl rfl rfl rfl rfl ?_
          refine re_extract rfl rfl rfl rfl rfl rfl ?_
          refine re_extract rfl rfl rfl rfl rfl rfl ?_
          refine re_alloc H rfl rfl rfl rfl ze_28 ?_
          intro g21 w H
          refine ⟨(fun h => (nomatch h)), ?_⟩
          refine re_store H rfl rfl rfl rfl rfl rfl sh_28 rfl rfl rfl ?_
          intro cs w hcs H
          first | rw [setMany_whole rfl] at hcs | simp only [setMany, List.set_cons_zero, List.set_cons_succ, Nat.reduceAdd, Nat.zero_add, PS.cells, PS.over, GM.cells, Cmd.cells, List.cons_append, List.nil_append] at hcs
          subst hcs
          refine ⟨(fun h => (nomatch h)), ?_⟩
          refine re_assign rfl rfl rfl rfl rfl ?_
          refine re_nil ?_
          refine qe_thenC ?_
          refine ce_seq ?_
          refine ce_seq ?_
          refine ce_text (tab := []) (soft := 1) (.op 0 .nil) rfl rfl ?_
          refine re_move rfl rfl rfl rfl rfl ?_
          refine re_nil ?_
          refine qe_thenC ?_
          refine ce_cond rfl (fun h7 => ?_) (fun h7 => ?_)
          · try simp only [zn1, zn2, zn3, zn4, zn5, zn6] at h7
            refine ce_exit ?_
            refine qe_then_exit ?_
            refine qe_block_exit' rfl ?_
            refine qe_then_exit ?_
            refine qe_block_exit ?_
            refine qe_thenC ?_
            refine ce_seq ?_
            refine ce_text (tab := []) (soft := 157) (.op 0 (.op 1 (.op 2 (.op 3 (.op 4 (.op 5 (.op 6 (.op 7 .nil)))))))) rfl rfl ?_
            replace H := H.tail
            refine re_move rfl rfl rfl rfl rfl ?_
            refine re_call en_16 rfl rfl rfl rfl rfl ?_
            have H := pick (A := [_, _, _, _, _, _, _, _]) hjl H
            have hCC := decided_c (x := l'[j].1) (a := l'[j].2) H
            rw [hg2] at hCC
            refine Calls.mono (hCC) ?_
            rintro e w ⟨rfl, H⟩
            replace H := unpick0 (A := [_, _, _, _, _, _, _, _]) hjl H
            simp only [List.cons_append, List.nil_append] at H
            rw [hy2]
            refine ⟨_, rfl, (fun h => (nomatch h)), ?_⟩
            refine re_move rfl rfl rfl rfl rfl ?_
            refine re_extract rfl rfl rfl rfl rfl rfl ?_
            refine re_extract rfl rfl rfl rfl rfl rfl ?_
            refine re_alloc H rfl rfl rfl rfl ze_28 ?_
            intro g23 w H
            refine ⟨(fun h => (nomatch h)), ?_⟩
            refine re_store H rfl rfl rfl rfl rfl rfl sh_28 rfl rfl rfl ?_
            intro cs w hcs H
            first | rw [setMany_whole rfl] at hcs | simp only [setMany, List.set_cons_zero, List.set_cons_succ, Nat.reduceAdd, Nat.zero_add, PS.cells, PS.over, GM.cells, Cmd.cells, List.cons_append, List.nil_append] at hcs
            subst hcs
            refine ⟨(fun h => (nomatch h)), ?_⟩
            refine re_assign rfl rfl rfl rfl rfl ?_
            refine re_nil ?_
            refine qe_thenC ?_
            refine ce_seq ?_
            refine ce_text (tab := []) (soft := 8191) (.op 0 (.op 1 (.op 2 (.op 3 (.op 4 (.op 5 (.op 6 (.op 7 (.op 8 (.op 9 (.op 10 (.op 11 (.op 12 .nil))))))))))))) rfl rfl ?_
            simp only [h7]
            obtain ⟨nk, hnk1, hnk2, hnk3⟩ := T.nk
            have htle := T.le
            have f1 : (n : Int) ≤ 4 := by omega
            have f2 : 0 < (bl : Int) → (n : Int) ≤ 3 := fun hb => by rw [if_pos hb] at hb0; omega
            have f3 : kd0 ≠ y0.p.rnd → nk0 = nk → (n : Int) ≤ 2 := fun hq he => by
              rcases hnk3 hq with h | ⟨q, h, _⟩
              · omega
              · omega
            refine re_move rfl rfl rfl rfl rfl ?_
            refine re_move rfl rfl rfl rfl rfl ?_
            refine re_split (fun hg33_1 => ?_) (fun hg33_1 => ?_)
            ·
              refine re_move rfl rfl rfl rfl rfl ?_
              refine re_move rfl rfl rfl rfl rfl ?_
              refine re_nilc rfl rfl rfl rfl rfl ?_
              first | refine re_field0 rfl rfl rfl rfl rfl fo_64_7 ?_ | refine re_field rfl rfl rfl rfl rfl fo_64_7 ?_ | refine re_fieldA rfl rfl rfl rfl rfl fo_64_7 ?_
              refine re_load H rfl rfl rfl rfl rfl sh_31 rfl ?_
              refine re_move rfl rfl rfl rfl rfl ?_
              refine re_indexL rfl rfl rfl rfl rfl rfl ul_31 ei_31 (by omega) (by omega) ?_
              refine re_load H rfl rfl rfl rfl rfl sh_3 (rd_some hnk1) ?_
              refine re_bin rfl rfl rfl rfl rfl rfl rfl ?_
              refine re_pickT rfl rfl rfl rfl rfl rfl ?_
              refine re_assign rfl rfl rfl rfl rfl ?_
              refine re_nil ?_
              refine qe_thenC ?_
              refine ce_seq ?_
              refine ce_text (tab := []) (soft := 4194303) (.op 0 (.op 1 (.op 2 (.op 3 (.op 4 (.op 5 (.op 6 (.op 7 (.op 8 (.op 9 (.op 10 (.op 11 (.op 12 (.op 13 (.op 14 (.op 15 (.op 16 (.op 17 (.op 18 (.op 19 (.op 20 (.op 21 .nil)))))))))))))))))))))) rfl rfl ?_
              refine re_move rfl rfl rfl rfl rfl ?_
              refine re_move rfl rfl rfl rfl rfl ?_
              refine re_split (fun hg34_1 => ?_) (fun hg34_1 => ?_)
              ·
                refine re_move rfl rfl rfl rfl rfl ?_
                refine re_bin rfl rfl rfl rfl rfl rfl rfl ?_
                refine re_pickT rfl rfl rfl rfl rfl rfl ?_
                refine re_move rfl rfl rfl rfl rfl ?_
                refine re_split (fun hg34_5 => ?_) (fun hg34_5 => ?_)
                ·
                  refine re_move rfl rfl rfl rfl rfl ?_
                  refine re_not rfl rfl rfl rfl rfl ?_
                  refine re_move rfl rfl rfl rfl rfl ?_
                  refine re_split (fun hg34_8 => ?_) (fun hg34_8 => ?_)
                  ·
                    refine re_skip1 rfl rfl rfl ?_
                    refine re_skip1 rfl rfl rfl ?_
                    refine re_pickT rfl rfl rfl rfl rfl rfl ?_
                    refine re_pickT rfl rfl rfl rfl rfl rfl ?_
                    refine re_move rfl rfl rfl rfl rfl ?_
                    refine re_move rfl rfl rfl rfl rfl ?_
                    refine re_not rfl rfl rfl rfl rfl ?_
                    refine re_move rfl rfl rfl rfl rfl ?_
                    refine re_split (fun hg34_16 => ?_) (fun hg34_16 => ?_)
                    ·
                      refine re_skip1 rfl rfl rfl ?_
                      refine re_skip1 rfl rfl rfl ?_
                      refine re_pickT rfl rfl rfl rfl rfl rfl ?_
                      refine re_pickT rfl rfl rfl rfl rfl rfl ?_
                      refine re_assign rfl rfl rfl rfl rfl ?_
                      refine re_nil ?_
                      refine qe_thenC ?_
                      refine ce_ret ?_
                      refine qe_end rfl rfl ?_
                      exact ⟨rfl, (H.drop 9).append_right⟩
                    ·
                      refine re_move rfl rfl rfl rfl rfl ?_
                      refine re_bin rfl rfl rfl rfl rfl rfl rfl ?_
                      refine re_pickF rfl rfl rfl rfl rfl rfl ?_
                      refine re_pickT rfl rfl rfl rfl rfl rfl ?_
                      refine re_assign rfl rfl rfl rfl rfl ?_
                      refine re_nil ?_
                      refine qe_thenC ?_
                      refine ce_ret ?_
                      refine qe_end rfl rfl ?_
                      have e1 : kd0 ≠ y0.p.rnd := fun h => by rw [decide_eq_true h] at hg33_1; cases hg33_1
                      have e2 : nk0 = nk := by
                        by_cases h : nk0 = nk
                        · exact h
                        · rw [decide_eq_false h] at hg34_16; cases hg34_16
                      exact ⟨by rw [decide_eq_true (f3 e1 e2)], (H.drop 9).append_right⟩
                  ·
                    refine re_move rfl rfl rfl rfl rfl ?_
                    refine re_bin rfl rfl rfl rfl rfl rfl rfl ?_
                    refine re_pickF rfl rfl rfl rfl rfl rfl ?_
                    refine re_pickT rfl rfl rfl rfl rfl rfl ?_
                    refine re_move rfl rfl rfl rfl rfl ?_
                    refine re_split (fun hg34_13 => ?_) (fun hg34_13 => ?_)
                    ·
                      refine re_move rfl rfl rfl rfl rfl ?_
                      refine re_not rfl rfl rfl rfl rfl ?_
                      refine re_move rfl rfl rfl rfl rfl ?_
                      refine re_split (fun hg34_16 => ?_) (fun hg34_16 => ?_)
                      ·
                        refine re_skip1 rfl rfl rfl ?_
                        refine re_skip1 rfl rfl rfl ?_
                        refine re_pickT rfl rfl rfl rfl rfl rfl ?_
                        refine re_pickT rfl rfl rfl rfl rfl rfl ?_
                        refine re_assign rfl rfl rfl rfl rfl ?_
                        refine re_nil ?_
                        refine qe_thenC ?_
                        refine ce_ret ?_
                        refine qe_end rfl rfl ?_
                        exact ⟨rfl, (H.drop 9).append_right⟩
                      ·
                        refine re_move rfl rfl rfl rfl rfl ?_
                        refine re_bin rfl rfl rfl rfl rfl rfl rfl ?_
                        refine re_pickF rfl rfl rfl rfl rfl rfl ?_
                        refine re_pickT rfl rfl rfl rfl rfl rfl ?_
                        refine re_assign rfl rfl rfl rfl rfl ?_
                        refine re_nil ?_
                        refine qe_thenC ?_
                        refine ce_ret ?_
                        refine qe_end rfl rfl ?_
                        have e1 : kd0 ≠ y0.p.rnd := fun h => by rw [decide_eq_true h] at hg33_1; cases hg33_1
                        have e2 : nk0 = nk := by
                          by_cases h : nk0 = nk
                          · exact h
                          · rw [decide_eq_false h] at hg34_16; cases hg34_16
                        exact ⟨by rw [decide_eq_true (f3 e1 e2)], (H.drop 9).append_right⟩
                    ·
                      refine re_skip1 rfl rfl rfl ?_
                      refine re_skip1 rfl rfl rfl ?_
                      refine re_skip1 rfl rfl rfl ?_
                      refine re_skip1 rfl rfl rfl ?_
                      refine re_skip1 rfl rfl rfl ?_
                      refine re_skip1 rfl rfl rfl ?_
                      refine re_pickF rfl rfl rfl rfl rfl rfl ?_
                      refine re_assign rfl rfl rfl rfl rfl ?_
                      refine re_nil ?_
                      refine qe_thenC ?_
                      refine ce_ret ?_
                      refine qe_end rfl rfl ?_
                      have e1 : 0 < (bl : Int) := by
                        by_cases h : 0 < (bl : Int)
                        · exact h
                        · rw [decide_eq_false h] at hg34_8; cases hg34_8
                      exact absurd (f2 e1) (of_decide_eq_false hg34_13)
                ·
                  refine re_skip1 rfl rfl rfl ?_
                  refine re_skip1 rfl rfl rfl ?_
                  refine re_skip1 rfl rfl rfl ?_
                  refine re_skip1 rfl rfl rfl ?_
                  refine re_skip1 rfl rfl rfl ?_
                  refine re_skip1 rfl rfl rfl ?_
                  refine re_pickF rfl rfl rfl rfl rfl rfl ?_
                  refine re_move rfl rfl rfl rfl rfl ?_
                  refine re_skip1 rfl rfl rfl ?_
                  refine re_skip1 rfl rfl rfl ?_
                  refine re_skip1 rfl rfl rfl ?_
                  refine re_skip1 rfl rfl rfl ?_
                  refine re_skip1 rfl rfl rfl ?_
                  refine re_skip1 rfl rfl rfl ?_
                  refine re_pickF rfl rfl rfl rfl rfl rfl ?_
                  refine re_assign rfl rfl rfl rfl rfl ?_
                  refine re_nil ?_
                  refine qe_thenC ?_
                  refine ce_ret ?_
                  refine qe_end rfl rfl ?_
                  exact absurd f1 (of_decide_eq_false hg34_5)
              ·
                refine re_skip1 rfl rfl rfl ?_
                refine re_skip1 rfl rfl rfl ?_
                refine re_pickF rfl rfl rfl rfl rfl rfl ?_
                refine re_move rfl rfl rfl rfl rfl ?_
                refine re_skip1 rfl rfl rfl ?_
                refine re_skip1 rfl rfl rfl ?_
                refine re_skip1 rfl rfl rfl ?_
                refine re_skip1 rfl rfl rfl ?_
                refine re_skip1 rfl rfl rfl ?_
                refine re_skip1 rfl rfl rfl ?_
                refine re_pickF rfl rfl rfl rfl rfl rfl ?_
                refine re_move rfl rfl rfl rfl rfl ?_
                refine re_skip1 rfl rfl rfl ?_
                refine re_skip1 rfl rfl rfl ?_
                refine re_skip1 rfl rfl rfl ?_
                refine re_skip1 rfl rfl rfl ?_
                refine re_skip1 rfl rfl rfl ?_
                refine re_skip1 rfl rfl rfl ?_
                refine re_pickF rfl rfl rfl rfl rfl rfl ?_
                refine re_assign rfl rfl rfl rfl rfl ?_
                refine re_nil ?_
                refine qe_thenC ?_
                refine ce_ret ?_
                refine qe_end rfl rfl ?_
                cases hg34_1
            ·
              refine re_skip1 rfl rfl rfl ?_
              refine re_skip1 rfl rfl rfl ?_
              refine re_skip1 rfl rfl rfl ?_
              refine re_skip1 rfl rfl rfl ?_
              refine re_skip1 rfl rfl rfl ?_
              refine re_skip1 rfl rfl rfl ?_
              refine re_skip1 rfl rfl rfl ?_
              refine re_skip1 rfl rfl rfl ?_
              refine re_skip1 rfl rfl rfl ?_
              refine re_pickF rfl rfl rfl rfl rfl rfl ?_
              refine re_assign rfl rfl rfl rfl rfl ?_
              refine re_nil ?_
              refine qe_thenC ?_
              refine ce_seq ?_
              refine ce_text (tab := []) (soft := 4194303) (.op 0 (.op 1 (.op 2 (.op 3 (.op 4 (.op 5 (.op 6 (.op 7 (.op 8 (.op 9 (.op 10 (.op 11 (.op 12 (.op 13 (.op 14 (.op 15 (.op 16 (.op 17 (.op 18 (.op 19 (.op 20 (.op 21 .nil)))))))))))))))))))))) rfl rfl ?_
              refine re_move rfl rfl rfl rfl rfl ?_
              refine re_move rfl rfl rfl rfl rfl ?_
              refine re_split (fun hg34_1 => ?_) (fun hg34_1 => ?_)
              ·
                refine re_move rfl rfl rfl rfl rfl ?_
                refine re_bin rfl rfl rfl rfl rfl rfl rfl ?_
                refine re_pickT rfl rfl rfl rfl rfl rfl ?_
                refine re_move rfl rfl rfl rfl rfl ?_
                refine re_split (fun hg34_5 => ?_) (fun hg34_5 => ?_)
                ·
                  refine re_move rfl rfl rfl rfl rfl ?_
                  refine re_not rfl rfl rfl rfl rfl ?_
                  refine re_move rfl rfl rfl rfl rfl ?_
                  refine re_split (fun hg34_8 => ?_) (fun hg34_8 => ?_)
                  ·
                    refine re_skip1 rfl rfl rfl ?_
                    refine re_skip1 rfl rfl rfl ?_
                    refine re_pickT rfl rfl rfl rfl rfl rfl ?_
                    refine re_pickT rfl rfl rfl rfl rfl rfl ?_
                    refine re_move rfl rfl rfl rfl rfl ?_
                    refine re_move rfl rfl rfl rfl rfl ?_
                    refine re_not rfl rfl rfl rfl rfl ?_
                    refine re_move rfl rfl rfl rfl rfl ?_
                    refine re_split (fun hg34_16 => ?_) (fun hg34_16 => ?_)
                    ·
                      refine re_skip1 rfl rfl rfl ?_
                      refine re_skip1 rfl rfl rfl ?_
                      refine re_pickT rfl rfl rfl rfl rfl rfl ?_
                      refine re_pickT rfl rfl rfl rfl rfl rfl ?_
                      refine re_assign rfl rfl rfl rfl rfl ?_
                      refine re_nil ?_
                      refine qe_thenC ?_
                      refine ce_ret ?_
                      refine qe_end rfl rfl ?_
                      exact ⟨rfl, (H.drop 9).append_right⟩
                    ·
                      refine re_move rfl rfl rfl rfl rfl ?_
                      refine re_bin rfl rfl rfl rfl rfl rfl rfl ?_
                      refine re_pickF rfl rfl rfl rfl rfl rfl ?_
                      refine re_pickT rfl rfl rfl rfl rfl rfl ?_
                      refine re_assign rfl rfl rfl rfl rfl ?_
                      refine re_nil ?_
                      refine qe_thenC ?_
                      refine ce_ret ?_
                      refine qe_end rfl rfl ?_
                      cases hg34_16
                  ·
                    refine re_move rfl rfl rfl rfl rfl ?_
                    refine re_bin rfl rfl rfl rfl rfl rfl rfl ?_
                    refine re_pickF rfl rfl rfl rfl rfl rfl ?_
                    refine re_pickT rfl rfl rfl rfl rfl rfl ?_
                    refine re_move rfl rfl rfl rfl rfl ?_
                    refine re_split (fun hg34_13 => ?_) (fun hg34_13 => ?_)
                    ·
                      refine re_move rfl rfl rfl rfl rfl ?_
                      refine re_not rfl rfl rfl rfl rfl ?_
                      refine re_move rfl rfl rfl rfl rfl ?_
                      refine re_split (fun hg34_16 => ?_) (fun hg34_16 => ?_)
                      ·
                        refine re_skip1 rfl rfl rfl ?_
                        refine re_skip1 rfl rfl rfl ?_
                        refine re_pickT rfl rfl rfl rfl rfl rfl ?_
                        refine re_pickT rfl rfl rfl rfl rfl rfl ?_
                        refine re_assign rfl rfl rfl rfl rfl ?_
                        refine re_nil ?_
                        refine qe_thenC ?_
                        refine ce_ret ?_
                        refine qe_end rfl rfl ?_
                        exact ⟨rfl, (H.drop 9).append_right⟩
                      ·
                        refine re_move rfl rfl rfl rfl rfl ?_
                        refine re_bin rfl rfl rfl rfl rfl rfl rfl ?_
                        refine re_pickF rfl rfl rfl rfl rfl rfl ?_
                        refine re_pickT rfl rfl rfl rfl rfl rfl ?_
                        refine re_assign rfl rfl rfl rfl rfl ?_
                        refine re_nil ?_
                        refine qe_thenC ?_
                        refine ce_ret ?_
                        refine qe_end rfl rfl ?_
                        cases hg34_16
                    ·
                      refine re_skip1 rfl rfl rfl ?_
                      refine re_skip1 rfl rfl rfl ?_
                      refine re_skip1 rfl rfl rfl ?_
                      refine re_skip1 rfl rfl rfl ?_
                      refine re_skip1 rfl rfl rfl ?_
                      refine re_skip1 rfl rfl rfl ?_
                      refine re_pickF rfl rfl rfl rfl rfl rfl ?_
                      refine re_assign rfl rfl rfl rfl rfl ?_
                      refine re_nil ?_
                      refine qe_thenC ?_
                      refine ce_ret ?_
                      refine qe_end rfl rfl ?_
                      have e1 : 0 < (bl : Int) := by
                        by_cases h : 0 < (bl : Int)
                        · exact h
                        · rw [decide_eq_false h] at hg34_8; cases hg34_8
                      exact absurd (f2 e1) (of_decide_eq_false hg34_13)
                ·
                  refine re_skip1 rfl rfl rfl ?_
                  refine re_skip1 rfl rfl rfl ?_
                  refine re_skip1 rfl rfl rfl ?_
                  refine re_skip1 rfl rfl rfl ?_
                  refine re_skip1 rfl rfl rfl ?_
                  refine re_skip1 rfl rfl rfl ?_
                  refine re_pickF rfl rfl rfl rfl rfl rfl ?_
                  refine re_move rfl rfl rfl rfl rfl ?_
                  refine re_skip1 rfl rfl rfl ?_
                  refine re_skip1 rfl rfl rfl ?_
                  refine re_skip1 rfl rfl rfl ?_
                  refine re_skip1 rfl rfl rfl ?_
                  refine re_skip1 rfl rfl rfl ?_
                  refine re_skip1 rfl rfl rfl ?_
                  refine re_pickF rfl rfl rfl rfl rfl rfl ?_
                  refine re_assign rfl rfl rfl rfl rfl ?_
                  refine re_nil ?_
                  refine qe_thenC ?_
                  refine ce_ret ?_
                  refine qe_end rfl rfl ?_
                  exact absurd f1 (of_decide_eq_false hg34_5)
              ·
                refine re_skip1 rfl rfl rfl ?_
                refine re_skip1 rfl rfl rfl ?_
                refine re_pickF rfl rfl rfl rfl rfl rfl ?_
                refine re_move rfl rfl rfl rfl rfl ?_
                refine re_skip1 rfl rfl rfl ?_
                refine re_skip1 rfl rfl rfl ?_
                refine re_skip1 rfl rfl rfl ?_
                refine re_skip1 rfl rfl rfl ?_
                refine re_skip1 rfl rfl rfl ?_
                refine re_skip1 rfl rfl rfl ?_
                refine re_pickF rfl rfl rfl rfl rfl rfl ?_
                refine re_move rfl rfl rfl rfl rfl ?_
                refine re_skip1 rfl rfl rfl ?_
                refine re_skip1 rfl rfl rfl ?_
                refine re_skip1 rfl rfl rfl ?_
                refine re_skip1 rfl rfl rfl ?_
                refine re_skip1 rfl rfl rfl ?_
                refine re_skip1 rfl rfl rfl ?_
                refine re_pickF rfl rfl rfl rfl rfl rfl ?_
                refine re_assign rfl rfl rfl rfl rfl ?_
                refine re_nil ?_
                refine qe_thenC ?_
                refine ce_ret ?_
                refine qe_end rfl rfl ?_
                cases hg34_1
          · try simp only [zn1, zn2, zn3, zn4, zn5, zn6] at h7
            refine ce_skip ?_
            refine qe_thenC ?_
            refine ce_seq ?_
            refine ce_text (tab := []) (soft := 7) (.op 0 (.op 1 (.op 2 (.op 3 .nil)))) rfl rfl ?_
            refine re_move rfl rfl rfl rfl rfl ?_
            refine re_move rfl rfl rfl rfl rfl ?_
            refine re_move rfl rfl rfl rfl rfl ?_
            refine re_call en_17 rfl rfl rfl rfl rfl ?_
            replace H := H.tail
            have hnd : ¬ y.done := fun h => by rw [(dec_done y).2 h] at h7; cases h7
            obtain ⟨y', T'⟩ := T.next g hmj (by omega) (by omega) hb4 (by omega) hnd
            refine Calls.mono (exchange_p H hx' hp' h4p hd3 g (T.es hnd) (by omega) (by have := T.le; omega) (by have := T.le; omega) (by omega)) ?_
            rintro e w ⟨wa, wc, d1, d2, d3, d4, l', hd3, hp', hx', rfl, H⟩
            refine ⟨_, rfl, (fun h => (nomatch h)), ?_⟩
            refine re_nil ?_
            refine qe_thenC ?_
            refine ce_text (tab := []) (soft := 7) (.op 0 (.op 1 (.op 2 .nil))) rfl rfl ?_
            refine re_move rfl rfl rfl rfl rfl ?_
            first | refine re_add rfl rfl rfl rfl rfl rfl (by omega) ?_ | refine re_bin rfl rfl rfl rfl rfl rfl rfl ?_
            refine re_assign rfl rfl rfl rfl rfl ?_
            refine re_nil ?_
            refine qe_block_norm ?_
            refine qe_round (x := (n, wa, wc, d1, d2, d3, d4, l', sk, y)) (n + 1, wa, wc, d1, d2, d3, d4, l', sk.exchange j dn, y') ?_ ?_ ?_
            · first | (dsimp only; omega) | omega
            · exact (And.intro rfl (And.intro rfl (And.intro rfl (And.intro rfl (And.intro rfl (And.intro rfl (And.intro rfl (And.intro rfl (And.intro rfl (And.intro rfl (And.intro rfl (And.intro rfl trivial))))))))))))
            · exact ⟨H, hd3, hp', hx', T'⟩
        · try simp only [zn1, zn2, zn3, zn4, zn5, zn6] at h6
          exfalso; have := T.le; omega
  · try simp only [zn1, zn2, zn3, zn4, zn5, zn6] at h2
    refine ce_skip ?_
    refine qe_thenC ?_
    refine ce_seq ?_
    refine ce_seq ?_
    refine ce_text (tab := []) (soft := 1) (.op 0 .nil) rfl rfl ?_
    obtain ⟨j, hj⟩ : ∃ j : Nat, u3 % 5 - 1 = (j : Int) := ⟨(u3 % 5 - 1).toNat, by omega⟩
    simp only [hj]
    refine re_assign rfl rfl rfl rfl rfl ?_
    refine re_nil ?_
    refine qe_thenC ?_
    refine ce_block ?_
    refine ce_loop (α := Nat × Nat × (Option Nat) × Nat × (Option Nat) × Nat × Nat × Nat × (List XA) × HP) (fun ⟨k, j, wa, wc, d1, d2, d3, d4, l', sk⟩ => [(0, .int .i64 u1), (1, .slice sa xs.length sc), (2, .int .i64 u3), (3, .int .i64 u4), (9, .pointer (some ⟨h, 0, none⟩)), (11, .int .i64 (j : Int)), (12, .int .i64 (k : Int))]) (fun ⟨k, j, wa, wc, d1, d2, d3, d4, l', sk⟩ w => Own B (.cells h 64 [.int .i64 3, .int .i64 3, .int .i64 9, .int .i64 0, slv ga gs.length gc, slv (some ia) gs.length gs.length, slv pa pgs.length pc, slv wa sk.way.length wc, lsv d1 d2 d3 d4, slv (some na) pgs.length pgs.length, slv (some ca) pgs.length pgs.length] :: .row wa wc 46 30 sk.way.length (msgs sk.way) :: .row ga gc 3 1 gs.length (ints gs) :: .cells ia 121 (sk.ins.flatMap Inst.cells) :: .row pa pc 29 1 pgs.length (pgs.map ptrV) :: .loose d1 d2 d3 d4 28 9 :: .cells na 3 (ints sk.nkd) :: .cells ca 3 (ints sk.nks) :: (ch l' ++ F)) w ∧ k ≤ xs.length ∧ j < 4 ∧ HInv gs (k : Int) (1 + (k : Int)) (4000 + k) sk ∧ d3 ≤ 50 ∧ l'.map (fun y => y.2.g) = pgs ∧ l'.map (fun y => y.1) = sk.xs) (fun ⟨k, j, wa, wc, d1, d2, d3, d4, l', sk⟩ => xs.length - k) (0, j, none, 0, none, 0, 0, 0, l, (HP.mk gs (List.replicate gs.length Inst.zero) (l.map (fun y => y.1)) [] (List.replicate 4 0) (List.replicate 4 0))) (And.intro rfl (And.intro rfl (And.intro rfl (And.intro rfl (And.intro rfl (And.intro rfl (And.intro rfl trivial))))))) ⟨H, Nat.zero_le _, by omega, (HInv.opened hl4 hin).up (by simp) (by simp) (Nat.le_refl _), Nat.zero_le _, hp.symm, rfl⟩ ?_
    rintro ⟨k, j, wa, wc, d1, d2, d3, d4, l', sk⟩ w HW
    obtain ⟨H, hk, hj4, I, hd3, hp', hx'⟩ := HW
    change CE _ _ _ _ _ [(0, .int .i64 u1), (1, .slice sa xs.length sc), (2, .int .i64 u3), (3, .int .i64 u4), (9, .pointer (some ⟨h, 0, none⟩)), (11, .int .i64 (j : Int)), (12, .int .i64 (k : Int))] _
    refine ce_seq ?_
    refine ce_seq ?_
    refine ce_text (tab := []) (soft := 15) (.op 0 (.op 1 (.op 2 (.op 3 .nil)))) rfl rfl ?_
    refine re_move rfl rfl rfl rfl rfl ?_
    refine re_move rfl rfl rfl rfl rfl ?_
    refine re_len rfl rfl rfl rfl rfl ul_31 ?_
    refine re_bin rfl rfl rfl rfl rfl rfl rfl ?_
    refine re_nil ?_
    refine qe_thenC ?_
    refine ce_cond rfl (fun h3 => ?_) (fun h3 => ?_)
    · try simp only [zn1, zn2, zn3, zn4, zn5, zn6] at h3
      refine ce_skip ?_
      refine qe_thenC ?_
      refine ce_seq ?_
      refine ce_block ?_
      refine ce_text (tab := []) (soft := 31) (.op 0 (.op 1 (.op 2 (.op 3 (.op 4 (.op 5 .nil)))))) rfl rfl ?_
      refine re_move rfl rfl rfl rfl rfl ?_
      refine re_move rfl rfl rfl rfl rfl ?_
      refine re_move rfl rfl rfl rfl rfl ?_
      have hlt : k < xs.length := by omega
      obtain ⟨ad, rfl, hA⟩ := hS.open_ H.to (by omega)
      refine re_index rfl rfl rfl rfl rfl rfl ul_31 ei_31 (by omega) (by omega) ?_
      refine re_loadW rfl rfl rfl rfl rfl (run_loadAt_one sh_3 (hA.int H hlt)) ?_
      refine re_call en_13 rfl rfl rfl rfl rfl ?_
      refine Calls.mono (act_p H hx' hp' h4p hd3 g I (by omega) (by omega)) ?_
      rintro e w ⟨wa, wc, d1, d2, d3, d4, l', hd3, hp', hx', rfl, H⟩
      refine ⟨_, rfl, (fun h => (nomatch h)), ?_⟩
      refine re_nil ?_
      refine qe_block_norm ?_
      refine qe_thenC ?_
      refine ce_text (tab := []) (soft := 7) (.op 0 (.op 1 (.op 2 .nil))) rfl rfl ?_
      refine re_move rfl rfl rfl rfl rfl ?_
      first | refine re_add rfl rfl rfl rfl rfl rfl (by omega) ?_ | refine re_bin rfl rfl rfl rfl rfl rfl rfl ?_
      refine re_assign rfl rfl rfl rfl rfl ?_
      refine re_nil ?_
      refine qe_round (x := (k, j, wa, wc, d1, d2, d3, d4, l', sk)) (k + 1, j, wa, wc, d1, d2, d3, d4, l', sk.act (xs[k] % 1099511627776).toNat) ?_ ?_ ?_
      · first | (dsimp only; omega) | omega
      · exact (And.intro rfl (And.intro rfl (And.intro rfl (And.intro rfl (And.intro rfl (And.intro rfl (And.intro rfl trivial)))))))
      · exact ⟨H, by omega, hj4, (I.act_ g (by omega) (by omega) (by omega) _).up (by push_cast; omega) (by push_cast; omega) (by omega), hd3, hp', hx'⟩
    · try simp only [zn1, zn2, zn3, zn4, zn5, zn6] at h3
      refine ce_exit ?_
      refine qe_then_exit ?_
      refine qe_then_exit ?_
      refine qe_block_exit ?_
      refine qe_thenC ?_
      refine ce_seq ?_
      refine ce_text (tab := []) (soft := 1) (.op 0 .nil) rfl rfl ?_
      obtain rfl : k = xs.length := by omega
      refine re_assign rfl rfl rfl rfl rfl ?_
      refine re_nil ?_
      refine qe_thenC ?_
      refine ce_seq ?_
      refine ce_text (tab := []) (soft := 5) (.op 0 (.op 1 (.op 2 .nil))) rfl rfl ?_
      refine re_move rfl rfl rfl rfl rfl ?_
      refine re_call en_10 rfl rfl rfl rfl rfl ?_
      refine Calls.mono (round_b H (by decide)) ?_
      rintro e w ⟨rfl, H⟩
      refine ⟨_, rfl, (fun h => (nomatch h)), ?_⟩
      refine re_assign rfl rfl rfl rfl rfl ?_
      refine re_nil ?_
      refine qe_thenC ?_
      refine ce_seq ?_
      refine ce_seq ?_
      refine ce_text (tab := []) (soft := 1) (.op 0 .nil) rfl rfl ?_
      refine re_assign rfl rfl rfl rfl rfl ?_
      refine re_nil ?_
      refine qe_thenC ?_
      refine ce_block ?_
      refine ce_loop (α := Nat × Int × Int) (fun ⟨i, dn, lf⟩ => [(0, .int .i64 u1), (1, .slice sa xs.length sc), (2, .int .i64 u3), (3, .int .i64 u4), (9, .pointer (some ⟨h, 0, none⟩)), (11, .int .i64 (j : Int)), (13, .int .i64 dn), (14, .int .i64 lf), (15, .int .i64 (i : Int))]) (fun ⟨i, dn, lf⟩ w => Own B (.cells h 64 [.int .i64 3, .int .i64 3, .int .i64 9, .int .i64 0, slv ga gs.length gc, slv (some ia) gs.length gs.length, slv pa pgs.length pc, slv wa sk.way.length wc, lsv d1 d2 d3 d4, slv (some na) pgs.length pgs.length, slv (some ca) pgs.length pgs.length] :: .row wa wc 46 30 sk.way.length (msgs sk.way) :: .row ga gc 3 1 gs.length (ints gs) :: .cells ia 121 (sk.ins.flatMap Inst.cells) :: .row pa pc 29 1 pgs.length (pgs.map ptrV) :: .loose d1 d2 d3 d4 28 9 :: .cells na 3 (ints sk.nkd) :: .cells ca 3 (ints sk.nks) :: (ch l' ++ F)) w ∧ i ≤ gs.length ∧ (0 ≤ dn ∧ dn < 128) ∧ (0 ≤ lf ∧ lf ≤ u1 % 4) ∧ (gs.length : Int) ≤ (upN dn gs.length : Int) + (u1 % 4 - lf)) (fun ⟨i, dn, lf⟩ => gs.length - i) (0, 0, u1 % 4) (And.intro rfl (And.intro rfl (And.intro rfl (And.intro rfl (And.intro rfl (And.intro rfl (And.intro rfl (And.intro rfl (And.intro rfl trivial))))))))) ⟨H, Nat.zero_le _, ⟨by omega, by omega⟩, ⟨by omega, by omega⟩, by rw [up_zero (by omega)]; omega⟩ ?_
      rintro ⟨i, dn, lf⟩ w HW
      obtain ⟨H, hi, hdn, hlf, hup⟩ := HW
      change CE _ _ _ _ _ [(0, .int .i64 u1), (1, .slice sa xs.length sc), (2, .int .i64 u3), (3, .int .i64 u4), (9, .pointer (some ⟨h, 0, none⟩)), (11, .int .i64 (j : Int)), (13, .int .i64 dn), (14, .int .i64 lf), (15, .int .i64 (i : Int))] _
      refine ce_seq ?_
      refine ce_seq ?_
      refine ce_text (tab := []) (soft := 2047) (.op 0 (.op 1 (.op 2 (.op 3 (.op 4 (.op 5 (.op 6 (.op 7 (.op 8 (.op 9 (.op 10 .nil))))))))))) rfl rfl ?_
      refine re_move rfl rfl rfl rfl rfl ?_
      refine re_move rfl rfl rfl rfl rfl ?_
      refine re_nilc rfl rfl rfl rfl rfl ?_
      first | refine re_field0 rfl rfl rfl rfl rfl fo_64_1 ?_ | refine re_field rfl rfl rfl rfl rfl fo_64_1 ?_ | refine re_fieldA rfl rfl rfl rfl rfl fo_64_1 ?_
      refine re_load H rfl rfl rfl rfl rfl sh_31 rfl ?_
      refine re_len rfl rfl rfl rfl rfl ul_31 ?_
      refine re_bin rfl rfl rfl rfl rfl rfl rfl ?_
      refine re_move rfl rfl rfl rfl rfl ?_
      refine re_split (fun hg16_7 => ?_) (fun hg16_7 => ?_)
      ·
        refine re_move rfl rfl rfl rfl rfl ?_
        refine re_bin rfl rfl rfl rfl rfl rfl rfl ?_
        refine re_pickT rfl rfl rfl rfl rfl rfl ?_
        refine re_nil ?_
        refine qe_thenC ?_
        refine ce_cond rfl (fun h4 => ?_) (fun h4 => ?_)
        · try simp only [zn1, zn2, zn3, zn4, zn5, zn6] at h4
          refine ce_skip ?_
          refine qe_thenC ?_
          refine ce_seq ?_
          refine ce_block ?_
          refine ce_seq ?_
          refine ce_open (tab := [0, 1, 0, 4, 15, 31]) (soft := 61) mixed (.op 0 (.op 2 (.op 3 (.op 1 (.op 4 (.op 5 .nil)))))) (by kernel_rfl) H ?_
          intro w H
          have hil := of_decide_eq_true hg16_7
          refine re_move rfl rfl rfl rfl rfl ?_
          refine re_move rfl rfl rfl rfl rfl ?_
          refine re_bits rfl rfl rfl rfl rfl rfl (.inr (.inr ⟨rfl, by omega⟩)) ?_
          refine re_call en_10 rfl rfl rfl rfl rfl ?_
          refine Calls.mono (round_b H (by decide)) ?_
          rintro e w ⟨rfl, H⟩
          refine ⟨_, rfl, (fun _ => trivial), ?_⟩
          refine re_bits rfl rfl rfl rfl rfl rfl (.inl rfl) ?_
          refine re_bin rfl rfl rfl rfl rfl rfl rfl ?_
          refine re_nil ?_
          refine qe_noPanic ?_
          refine qe_thenC ?_
          refine ce_cond rfl (fun h5 => ?_) (fun h5 => ?_)
          · try simp only [zn1, zn2, zn3, zn4, zn5, zn6] at h5
            refine ce_seq ?_
            refine ce_text (tab := []) (soft := 31) (.op 0 (.op 1 (.op 2 (.op 3 (.op 4 .nil))))) rfl rfl ?_
            refine re_move rfl rfl rfl rfl rfl ?_
            refine re_move rfl rfl rfl rfl rfl ?_
            refine re_bits rfl rfl rfl rfl rfl rfl (.inr (.inr ⟨rfl, by omega⟩)) ?_
            refine re_bits rfl rfl rfl rfl rfl rfl (.inr (.inl rfl)) ?_
            refine re_assign rfl rfl rfl rfl rfl ?_
            refine re_nil ?_
            refine qe_thenC ?_
            refine ce_text (tab := []) (soft := 7) (.op 0 (.op 1 (.op 2 .nil))) rfl rfl ?_
            refine re_move rfl rfl rfl rfl rfl ?_
            first | refine re_subI rfl rfl rfl rfl rfl rfl (by omega) ?_ | refine re_bin rfl rfl rfl rfl rfl rfl rfl ?_
            refine re_assign rfl rfl rfl rfl rfl ?_
            refine re_nil ?_
            refine qe_block_norm ?_
            refine qe_thenC ?_
            refine ce_text (tab := []) (soft := 7) (.op 0 (.op 1 (.op 2 .nil))) rfl rfl ?_
            refine re_move rfl rfl rfl rfl rfl ?_
            first | refine re_add rfl rfl rfl rfl rfl rfl (by omega) ?_ | refine re_bin rfl rfl rfl rfl rfl rfl rfl ?_
            refine re_assign rfl rfl rfl rfl rfl ?_
            refine re_nil ?_
            refine qe_round (x := (i, dn, lf)) (i + 1, bitsI .or dn (bitsI .shl 1 (i : Int)), lf - 1) ?_ ?_ ?_
            · first | (dsimp only; omega) | omega
            · exact (And.intro rfl (And.intro rfl (And.intro rfl (And.intro rfl (And.intro rfl (And.intro rfl (And.intro rfl (And.intro rfl (And.intro rfl trivial)))))))))
            ·
              have hds := down_step (n := gs.length) hdn.1 hdn.2 (k := i) (by omega) (by omega)
              exact ⟨H, by omega, hds.1, by omega, by have := hds.2; omega⟩
          · try simp only [zn1, zn2, zn3, zn4, zn5, zn6] at h5
            refine ce_skip ?_
            refine qe_block_norm ?_
            refine qe_thenC ?_
            refine ce_text (tab := []) (soft := 7) (.op 0 (.op 1 (.op 2 .nil))) rfl rfl ?_
            refine re_move rfl rfl rfl rfl rfl ?_
            first | refine re_add rfl rfl rfl rfl rfl rfl (by omega) ?_ | refine re_bin rfl rfl rfl rfl rfl rfl rfl ?_
            refine re_assign rfl rfl rfl rfl rfl ?_
            refine re_nil ?_
            refine qe_round (x := (i, dn, lf)) (i + 1, dn, lf) ?_ ?_ ?_
            · first | (dsimp only; omega) | omega
            · exact (And.intro rfl (And.intro rfl (And.intro rfl (And.intro rfl (And.intro rfl (And.intro rfl (And.intro rfl (And.intro rfl (And.intro rfl trivial)))))))))
            · exact ⟨H, by omega, hdn, hlf, hup⟩
        · try simp only [zn1, zn2, zn3, zn4, zn5, zn6] at h4
          refine ce_exit ?_
          refine qe_then_exit ?_
          refine qe_then_exit ?_
          refine qe_block_exit ?_
          refine qe_thenC ?_
          refine ce_seq ?_
          refine ce_text (tab := []) (soft := 255) (.op 0 (.op 1 (.op 2 (.op 3 (.op 4 (.op 5 (.op 6 (.op 7 .nil)))))))) rfl rfl ?_
          have hmj : Maj gs dn := maj_of g.nd (by unfold needs; omega)
          have hll : l'.length = 4 := by rw [← h4p, ← hp', List.length_map]
          have hjl : j < l'.length := by omega
          obtain ⟨xp, rfl⟩ := H.rsome pa (by omega)
          obtain ⟨gp, hgp⟩ : ∃ gp, gp = l'[j].2.g := ⟨_, rfl⟩
          have hgx : sk.xs[j]? = some l'[j].1 := by rw [← hx', List.getElem?_map, List.getElem?_eq_getElem hjl]; rfl
          have hsl : j < sk.xs.length := (List.getElem?_eq_some_iff.1 hgx).1
          have hkl : j < sk.nkd.length := by rw [I.nl]; exact hsl
          have hcl : j < sk.nks.length := by rw [I.nl2]; exact hsl
          have hoj : (l'[j].1).ok := by rw [← (List.getElem?_eq_some_iff.1 hgx).2]; exact (I.xs j hsl).ok g.un g.len
          have hpj : pgs[j]? = some gp := by rw [← hp', List.getElem?_map, List.getElem?_eq_getElem hjl, hgp]; rfl
          obtain ⟨kd0, hkd⟩ : ∃ v, sk.nkd[j]? = some v := ⟨_, List.getElem?_eq_getElem hkl⟩
          obtain ⟨nk0, hnk⟩ : ∃ v, sk.nks[j]? = some v := ⟨_, List.getElem?_eq_getElem hcl⟩
          have T0 := Trip.start (down := dn) g I hgx (by omega) (by omega) hnk hkd
          refine re_move rfl rfl rfl rfl rfl ?_
          refine re_nilc rfl rfl rfl rfl rfl ?_
          first | refine re_field0 rfl rfl rfl rfl rfl fo_64_3 ?_ | refine re_field rfl rfl rfl rfl rfl fo_64_3 ?_ | refine re_fieldA rfl rfl rfl rfl rfl fo_64_3 ?_
          refine re_load H rfl rfl rfl rfl rfl sh_61 rfl ?_
          refine re_move rfl rfl rfl rfl rfl ?_
          refine re_indexL rfl rfl rfl rfl rfl rfl ul_61 ei_61 (by omega) (by omega) ?_
          refine re_loadW rfl rfl rfl rfl rfl (run_loadAt_one sh_29 (rvalL H (ptr_at hp' hjl))) ?_
          refine re_assign rfl rfl rfl rfl rfl ?_
          refine re_nil ?_
          refine qe_thenC ?_
          refine ce_seq ?_
          refine ce_text (tab := []) (soft := 7) (.op 0 (.op 1 (.op 2 (.op 3 .nil)))) rfl rfl ?_
          refine re_move rfl rfl rfl rfl rfl ?_
          refine re_nilc rfl rfl rfl rfl rfl ?_
          first | refine re_field0 rfl rfl rfl rfl rfl fo_64_4 ?_ | refine re_field rfl rfl rfl rfl rfl fo_64_4 ?_ | refine re_fieldA rfl rfl rfl rfl rfl fo_64_4 ?_
          refine re_store H rfl rfl rfl rfl rfl rfl sh_62 rfl rfl rfl ?_
          intro cs w hcs H
          first | rw [setMany_whole rfl] at hcs | simp only [setMany, List.set_cons_zero, List.set_cons_succ, Nat.reduceAdd, Nat.zero_add, PS.cells, PS.over, GM.cells, Cmd.cells, List.cons_append, List.nil_append] at hcs
          subst hcs
          refine ⟨(fun h => (nomatch h)), ?_⟩
          refine re_nil ?_
          refine qe_thenC ?_
          refine ce_seq ?_
          refine ce_text (tab := []) (soft := 29) (.op 0 (.op 1 (.op 2 (.op 3 (.op 4 .nil))))) rfl rfl ?_
          replace H := H.nil_row 46 30
          have H := Own.arr [8, 8, 8, 8, 8, 8, 6, 7] H
          simp only [arrs, Fw.front, zm1, zm2, zm3, zm4, zm5] at H
          replace H := H.sub (.cons_cons _ (.cons_cons _ (.cons_cons _ (.cons_cons _ (.cons_cons _ (.cons_cons _ (.cons_cons _ (.cons_cons _ (.cons _ (List.Sublist.refl _))))))))))
          refine re_move rfl rfl rfl rfl rfl ?_
          refine re_call en_14 rfl rfl rfl rfl rfl ?_
          have H := pick (A := [_, _, _, _, _, _, _, _]) hjl H
          refine Calls.mono (begin_c (x := l'[j].1) (a := l'[j].2) hoj H) ?_
          rintro e w ⟨a, s, c, hg, rfl, H⟩
          replace H := unpick (D := [_]) (A := [_, _, _, _, _, _, _, _]) (y := (l'[j].1.begin.1, a)) hjl H
          simp only [List.cons_append, List.nil_append] at H
          replace H : Own B (.cells h 64 [.int .i64 3, .int .i64 3, .int .i64 9, .int .i64 0, slv ga gs.length gc, slv (some ia) gs.length gs.length, slv (some xp) pgs.length pc, slv none (sk.beg j).way.length 0, lsv d1 d2 d3 d4, slv (some na) pgs.length pgs.length, slv (some ca) pgs.length pgs.length] :: .row none 0 46 30 (sk.beg j).way.length (msgs (sk.beg j).way) :: .row ga gc 3 1 gs.length (ints gs) :: .cells ia 121 ((sk.beg j).ins.flatMap Inst.cells) :: .row (some xp) pc 29 1 pgs.length (pgs.map ptrV) :: .loose d1 d2 d3 d4 28 9 :: .cells na 3 (ints (sk.beg j).nkd) :: .cells ca 3 (ints (sk.beg j).nks) :: (ch (l'.set j (l'[j].1.begin.1, a)) ++ F)) w := by rw [HP.beg_eq hgx]; exact H.tail
          have hkb : (sk.beg j).nkd[j]? = some kd0 := by rw [HP.beg_eq hgx]; exact hkd
          have hcb : (sk.beg j).nks[j]? = some nk0 := by rw [HP.beg_eq hgx]; exact hnk
          have hxb : (l'.set j (l'[j].1.begin.1, a)).map (fun y => y.1) = (sk.beg j).xs := by rw [HP.beg_eq hgx, List.map_set, hx']
          have hpb := (map_set_g (y := (l'[j].1.begin.1, a)) hjl hg).trans hp'
          obtain ⟨l2, hl2⟩ : ∃ l2, l2 = l'.set j (l'[j].1.begin.1, a) := ⟨_, rfl⟩
          have hj2 : j < l2.length := by rw [hl2, List.length_set]; exact hjl
          obtain ⟨y0, hy0⟩ : ∃ y, y = l'[j].1.begin.1 := ⟨_, rfl⟩
          have hy2 : l2[j].1 = y0 := by simp only [hl2, List.getElem_set_self, hy0]
          have hg2 : l2[j].2.g = gp := by simp only [hl2, List.getElem_set_self]; exact hg.trans hgp.symm
          rw [← hl2] at H hxb hpb
          obtain ⟨sb, hsb⟩ : ∃ sb, sb = sk.beg j := ⟨_, rfl⟩
          rw [← hsb] at H hkb hcb hxb T0
          rw [← hy0] at T0
          obtain ⟨bl, hbl⟩ : ∃ bl : Nat, bl = l'[j].1.begin.2.length := ⟨_, rfl⟩
          rw [← hbl] at T0 ⊢
          rw [← hgp]
          obtain ⟨b0, hb0⟩ : ∃ b0 : Nat, b0 = if 0 < (bl : Int) then 3 else 4 := ⟨_, rfl⟩
          rw [← hb0] at T0
          have hb4 : b0 ≤ 4 := by rw [hb0]; split <;> omega
          refine ⟨_, rfl, (fun h => (nomatch h)), ?_⟩
          refine re_len rfl rfl rfl rfl rfl ul_62 ?_
          refine re_bin rfl rfl rfl rfl rfl rfl rfl ?_
          refine re_assign rfl rfl rfl rfl rfl ?_
          refine re_nil ?_
          refine qe_thenC ?_
          refine ce_seq ?_
          refine ce_open (tab := [0, 1, 3, 7, 0, 31, 63, 0, 128, 511, 1023]) (soft := 1791) mixed (.op 0 (.op 1 (.op 2 (.op 3 (.op 4 (.op 5 (.op 6 (.op 7 (.op 8 (.op 9 (.op 10 .nil))))))))))) (by kernel_rfl) H ?_
          intro w H
          refine re_move rfl rfl rfl rfl rfl ?_
          refine re_nilc rfl rfl rfl rfl rfl ?_
          first | refine re_field0 rfl rfl rfl rfl rfl fo_64_6 ?_ | refine re_field rfl rfl rfl rfl rfl fo_64_6 ?_ | refine re_fieldA rfl rfl rfl rfl rfl fo_64_6 ?_
          refine re_load H rfl rfl rfl rfl rfl sh_31 rfl ?_
          refine re_move rfl rfl rfl rfl rfl ?_
          refine re_indexL rfl rfl rfl rfl rfl rfl ul_31 ei_31 (by omega) (by omega) ?_
          refine re_load H rfl rfl rfl rfl rfl sh_3 (rd_some hkb) ?_
          refine re_move rfl rfl rfl rfl rfl ?_
          refine re_call en_15 rfl rfl rfl rfl rfl ?_
          have H := pick (A := [_, _, _, _, _, _, _, _]) hj2 H
          have hCC := round_c (x := l2[j].1) (a := l2[j].2) H
          rw [hg2] at hCC
          refine Calls.mono (hCC) ?_
          rintro e w ⟨rfl, H⟩
          replace H := unpick0 (A := [_, _, _, _, _, _, _, _]) hj2 H
          simp only [List.cons_append, List.nil_append] at H
          rw [hy2]
          refine ⟨_, rfl, (fun _ => ⟨fun _ => still_load H sh_3 (rd_some hkb), fun _ => still_load H sh_31 rfl, trivial⟩), ?_⟩
          refine re_bin rfl rfl rfl rfl rfl rfl rfl ?_
          refine re_assign rfl rfl rfl rfl rfl ?_
          refine re_nil ?_
          refine qe_noPanic ?_
          refine qe_thenC ?_
          refine ce_seq ?_
          refine ce_text (tab := []) (soft := 255) (.op 0 (.op 1 (.op 2 (.op 3 (.op 4 (.op 5 (.op 6 (.op 7 .nil)))))))) rfl rfl ?_
          refine re_move rfl rfl rfl rfl rfl ?_
          refine re_nilc rfl rfl rfl rfl rfl ?_
          first | refine re_field0 rfl rfl rfl rfl rfl fo_64_7 ?_ | refine re_field rfl rfl rfl rfl rfl fo_64_7 ?_ | refine re_fieldA rfl rfl rfl rfl rfl fo_64_7 ?_
          refine re_load H rfl rfl rfl rfl rfl sh_31 rfl ?_
          refine re_move rfl rfl rfl rfl rfl ?_
          refine re_indexL rfl rfl rfl rfl rfl rfl ul_31 ei_31 (by omega) (by omega) ?_
          refine re_load H rfl rfl rfl rfl rfl sh_3 (rd_some hcb) ?_
          refine re_assign rfl rfl rfl rfl rfl ?_
          refine re_nil ?_
          refine qe_thenC ?_
          refine ce_seq ?_
          refine ce_text (tab := []) (soft := 1) (.op 0 .nil) rfl rfl ?_
          refine re_assign rfl rfl rfl rfl rfl ?_
          refine re_nil ?_
          refine qe_thenC ?_
          refine ce_seq ?_
          refine ce_block ?_
          refine ce_loop (α := Nat × (Option Nat) × Nat × (Option Nat) × Nat × Nat × Nat × (List XA) × HP × X) (fun ⟨n, wa, wc, d1, d2, d3, d4, l', sk, y⟩ => [(0, .int .i64 u1), (1, .slice sa xs.length sc), (2, .int .i64 u3), (3, .int .i64 u4), (9, .pointer (some ⟨h, 0, none⟩)), (11, .int .i64 (j : Int)), (13, .int .i64 dn), (16, ptrV gp), (17, .bool (decide (0 < (bl : Int)))), (18, .bool (!decide (kd0 = y0.p.rnd))), (19, .int .i64 nk0), (20, .int .i64 (n : Int))]) (fun ⟨n, wa, wc, d1, d2, d3, d4, l', sk, y⟩ w => Own B (.cells h 64 [.int .i64 3, .int .i64 3, .int .i64 9, .int .i64 0, slv ga gs.length gc, slv (some ia) gs.length gs.length, slv (some xp) pgs.length pc, slv wa sk.way.length wc, lsv d1 d2 d3 d4, slv (some na) pgs.length pgs.length, slv (some ca) pgs.length pgs.length] :: .row wa wc 46 30 sk.way.length (msgs sk.way) :: .row ga gc 3 1 gs.length (ints gs) :: .cells ia 121 (sk.ins.flatMap Inst.cells) :: .row (some xp) pc 29 1 pgs.length (pgs.map ptrV) :: .loose d1 d2 d3 d4 28 9 :: .cells na 3 (ints sk.nkd) :: .cells ca 3 (ints sk.nks) :: (ch l' ++ F)) w ∧ d3 ≤ 50 ∧ l'.map (fun y => y.2.g) = pgs ∧ l'.map (fun y => y.1) = sk.xs ∧ Trip gs dn (xs.length : Int) (1 + (xs.length : Int) + 1) j n b0 nk0 (kd0 ≠ y0.p.rnd) sk y) (fun ⟨n, wa, wc, d1, d2, d3, d4, l', sk, y⟩ => 5 - n) (0, none, 0, d1, d2, d3, d4, l2, sb, y0) (And.intro rfl (And.intro rfl (And.intro rfl (And.intro rfl (And.intro rfl (And.intro rfl (And.intro rfl (And.intro rfl (And.intro rfl (And.intro rfl (And.intro rfl (And.intro rfl trivial)))))))))))) ⟨H, hd3, hpb, hxb, T0⟩ ?_
          rintro ⟨n, wa, wc, d1, d2, d3, d4, l', sk, y⟩ w HW
          obtain ⟨H, hd3, hp', hx', T⟩ := HW
          change CE _ _ _ _ _ [(0, .int .i64 u1), (1, .slice sa xs.length sc), (2, .int .i64 u3), (3, .int .i64 u4), (9, .pointer (some ⟨h, 0, none⟩)), (11, .int .i64 (j : Int)), (13, .int .i64 dn), (16, ptrV gp), (17, .bool (decide (0 < (bl : Int)))), (18, .bool (!decide (kd0 = y0.p.rnd))), (19, .int .i64 nk0), (20, .int .i64 (n : Int))] _
          have hll : l'.length = 4 := by rw [← h4p, ← hp', List.length_map]
          have hjl : j < l'.length := by omega
          have hg2 : l'[j].2.g = gp := by
            have h := hpj
            rw [← hp', List.getElem?_map, List.getElem?_eq_getElem hjl] at h
            exact Option.some.inj h
          have hy2 : l'[j].1 = y := by
            have h := T.gx
            rw [← hx', List.getElem?_map, List.getElem?_eq_getElem hjl] at h
            exact Option.some.inj h
          refine ce_seq ?_
          refine ce_seq ?_
          refine ce_text (tab := []) (soft := 3) (.op 0 (.op 1 .nil)) rfl rfl ?_
          refine re_move rfl rfl rfl rfl rfl ?_
          refine re_bin rfl rfl rfl rfl rfl rfl rfl ?_
          refine re_nil ?_
          refine qe_thenC ?_
          refine ce_cond rfl (fun h6 => ?_) (fun h6 => ?_)
          · try simp only [zn1, zn2, zn3, zn4, zn5, zn6] at h6
            refine ce_skip ?_
            refine qe_thenC ?_
            refine ce_block ?_
            refine ce_seq ?_
            refine ce_text (tab := []) (soft := 157) (.op 0 (.op 1 (.op 2 (.op 3 (.op 4 (.op 5 (.op 6 (.op 7 .nil)))))))) rfl rfl ?_
            refine re_move rfl rfl rfl rfl rfl ?_
            refine re_call en_16 rfl rfl rfl rfl rfl ?_
            have H := pick (A := [_, _, _, _, _, _, _, _]) hjl H
            have hCC := decided_c (x := l'[j].1) (a := l'[j].2) H
            rw [hg2] at hCC
            refine Calls.mono (hCC) ?_
            rintro e w ⟨rfl, H⟩
            replace H := unpick0 (A := [_, _, _, _, _, _, _, _]) hjl H
            simp only [List.cons_append, List.nil_append] at H
            rw [hy2]
            refine ⟨_, rfl, (fun h => (nomatch h)), ?_⟩
            refine re_move rfl rfl rfl rfl rfl ?_
            refine re_extract rfl rfl rfl rfl rfl rfl ?_
            refine re_extract rfl rfl rfl rfl rfl rfl ?_
            refine re_alloc H rfl rfl rfl rfl ze_28 ?_
            intro g21 w H
            refine ⟨(fun h => (nomatch h)), ?_⟩
            refine re_store H rfl rfl rfl rfl rfl rfl sh_28 rfl rfl rfl ?_
            intro cs w hcs H
            first | rw [setMany_whole rfl] at hcs | simp only [setMany, List.set_cons_zero, List.set_cons_succ, Nat.reduceAdd, Nat.zero_add, PS.cells, PS.over, GM.cells, Cmd.cells, List.cons_append, List.nil_append] at hcs
            subst hcs
            refine ⟨(fun h => (nomatch h)), ?_⟩
            refine re_assign rfl rfl rfl rfl rfl ?_
            refine re_nil ?_
            refine qe_thenC ?_
            refine ce_seq ?_
            refine ce_seq ?_
            refine ce_text (tab := []) (soft := 1) (.op 0 .nil) rfl rfl ?_
            refine re_move rfl rfl rfl rfl rfl ?_
            refine re_nil ?_
            refine qe_thenC ?_
            refine ce_cond rfl (fun h7 => ?_) (fun h7 => ?_)
            · try simp only [zn1, zn2, zn3, zn4, zn5, zn6] at h7
              refine ce_exit ?_
              refine qe_then_exit ?_
              refine qe_block_exit' rfl ?_
              refine qe_then_exit ?_
              refine qe_block_exit ?_
              refine qe_thenC ?_
              refine ce_seq ?_
              refine ce_text (tab := []) (soft := 157) (.op 0 (.op 1 (.op 2 (.op 3 (.op 4 (.op 5 (.op 6 (.op 7 .nil)))))))) rfl rfl ?_
              replace H := H.tail
              refine re_move rfl rfl rfl rfl rfl ?_
              refine re_call en_16 rfl rfl rfl rfl rfl ?_
              have H := pick (A := [_, _, _, _, _, _, _, _]) hjl H
              have hCC := decided_c (x := l'[j].1) (a := l'[j].2) H
              rw [hg2] at hCC
              refine Calls.mono (hCC) ?_
              rintro e w ⟨rfl, H⟩
              replace H := unpick0 (A := [_, _, _, _, _, _, _, _]) hjl H
              simp only [List.cons_append, List.nil_append] at H
              rw [hy2]
              refine ⟨_, rfl, (fun h => (nomatch h)), ?_⟩
              refine re_move rfl rfl rfl rfl rfl ?_
              refine re_extract rfl rfl rfl rfl rfl rfl ?_
              refine re_extract rfl rfl rfl rfl rfl rfl ?_
              refine re_alloc H rfl rfl rfl rfl ze_28 ?_
              intro g23 w H
              refine ⟨(fun h => (nomatch h)), ?_⟩
              refine re_store H rfl rfl rfl rfl rfl rfl sh_28 rfl rfl rfl ?_
              intro cs w hcs H
              first | rw [setMany_whole rfl] at hcs | simp only [setMany, List.set_cons_zero, List.set_cons_succ, Nat.reduceAdd, Nat.zero_add, PS.cells, PS.over, GM.cells, Cmd.cells, List.cons_append, List.nil_append] at hcs
              subst hcs
              refine ⟨(fun h => (nomatch h)), ?_⟩
              refine re_assign rfl rfl rfl rfl rfl ?_
              refine re_nil ?_
              refine qe_thenC ?_
              refine ce_seq ?_
              refine ce_text (tab := []) (soft := 8191) (.op 0 (.op 1 (.op 2 (.op 3 (.op 4 (.op 5 (.op 6 (.op 7 (.op 8 (.op 9 (.op 10 (.op 11 (.op 12 .nil))))))))))))) rfl rfl ?_
              simp only [h7]
              obtain ⟨nk, hnk1, hnk2, hnk3⟩ := T.nk
              have htle := T.le
              have f1 : (n : Int) ≤ 4 := by omega
              have f2 : 0 < (bl : Int) → (n : Int) ≤ 3 := fun hb => by rw [if_pos hb] at hb0; omega
              have f3 : kd0 ≠ y0.p.rnd → nk0 = nk → (n : Int) ≤ 2 := fun hq he => by
                rcases hnk3 hq with h | ⟨q, h, _⟩
                · omega
                · omega
              refine re_move rfl rfl rfl rfl rfl ?_
              refine re_move rfl rfl rfl rfl rfl ?_
              refine re_split (fun hg33_1 => ?_) (fun hg33_1 => ?_)
              ·
                refine re_move rfl rfl rfl rfl rfl ?_
                refine re_move rfl rfl rfl rfl rfl ?_
                refine re_nilc rfl rfl rfl rfl rfl ?_
                first | refine re_field0 rfl rfl rfl rfl rfl fo_64_7 ?_ | refine re_field rfl rfl rfl rfl rfl fo_64_7 ?_ | refine re_fieldA rfl rfl rfl rfl rfl fo_64_7 ?_
                refine re_load H rfl rfl rfl rfl rfl sh_31 rfl ?_
                refine re_move rfl rfl rfl rfl rfl ?_
                refine re_indexL rfl rfl rfl rfl rfl rfl ul_31 ei_31 (by omega) (by omega) ?_
                refine re_load H rfl rfl rfl rfl rfl sh_3 (rd_some hnk1) ?_
                refine re_bin rfl rfl rfl rfl rfl rfl rfl ?_
                refine re_pickT rfl rfl rfl rfl rfl rfl ?_
                refine re_assign rfl rfl rfl rfl rfl ?_
                refine re_nil ?_
                refine qe_thenC ?_
                refine ce_seq ?_
                refine ce_text (tab := []) (soft := 4194303) (.op 0 (.op 1 (.op 2 (.op 3 (.op 4 (.op 5 (.op 6 (.op 7 (.op 8 (.op 9 (.op 10 (.op 11 (.op 12 (.op 13 (.op 14 (.op 15 (.op 16 (.op 17 (.op 18 (.op 19 (.op 20 (.op 21 .nil)))))))))))))))))))))) rfl rfl ?_
                refine re_move rfl rfl rfl rfl rfl ?_
                refine re_move rfl rfl rfl rfl rfl ?_
                refine re_split (fun hg34_1 => ?_) (fun hg34_1 => ?_)
                ·
                  refine re_move rfl rfl rfl rfl rfl ?_
                  refine re_bin rfl rfl rfl rfl rfl rfl rfl ?_
                  refine re_pickT rfl rfl rfl rfl rfl rfl ?_
                  refine re_move rfl rfl rfl rfl rfl ?_
                  refine re_split (fun hg34_5 => ?_) (fun hg34_5 => ?_)
                  ·
                    refine re_move rfl rfl rfl rfl rfl ?_
                    refine re_not rfl rfl rfl rfl rfl ?_
                    refine re_move rfl rfl rfl rfl rfl ?_
                    refine re_split (fun hg34_8 => ?_) (fun hg34_8 => ?_)
                    ·
                      refine re_skip1 rfl rfl rfl ?_
                      refine re_skip1 rfl rfl rfl ?_
                      refine re_pickT rfl rfl rfl rfl rfl rfl ?_
                      refine re_pickT rfl rfl rfl rfl rfl rfl ?_
                      refine re_move rfl rfl rfl rfl rfl ?_
                      refine re_move rfl rfl rfl rfl rfl ?_
                      refine re_not rfl rfl rfl rfl rfl ?_
                      refine re_move rfl rfl rfl rfl rfl ?_
                      refine re_split (fun hg34_16 => ?_) (fun hg34_16 => ?_)
                      ·
                        refine re_skip1 rfl rfl rfl ?_
                        refine re_skip1 rfl rfl rfl ?_
                        refine re_pickT rfl rfl rfl rfl rfl rfl ?_
                        refine re_pickT rfl rfl rfl rfl rfl rfl ?_
                        refine re_assign rfl rfl rfl rfl rfl ?_
                        refine re_nil ?_
                        refine qe_thenC ?_
                        refine ce_ret ?_
                        refine qe_end rfl rfl ?_
                        exact ⟨rfl, (H.drop 9).append_right⟩
                      ·
                        refine re_move rfl rfl rfl rfl rfl ?_
                        refine re_bin rfl rfl rfl rfl rfl rfl rfl ?_
                        refine re_pickF rfl rfl rfl rfl rfl rfl ?_
                        refine re_pickT rfl rfl rfl rfl rfl rfl ?_
                        refine re_assign rfl rfl rfl rfl rfl ?_
                        refine re_nil ?_
                        refine qe_thenC ?_
                        refine ce_ret ?_
                        refine qe_end rfl rfl ?_
                        have e1 : kd0 ≠ y0.p.rnd := fun h => by rw [decide_eq_true h] at hg33_1; cases hg33_1
                        have e2 : nk0 = nk := by
                          by_cases h : nk0 = nk
                          · exact h
                          · rw [decide_eq_false h] at hg34_16; cases hg34_16
                        exact ⟨by rw [decide_eq_true (f3 e1 e2)], (H.drop 9).append_right⟩
                    ·
                      refine re_move rfl rfl rfl rfl rfl ?_
                      refine re_bin rfl rfl rfl rfl rfl rfl rfl ?_
                      refine re_pickF rfl rfl rfl rfl rfl rfl ?_
                      refine re_pickT rfl rfl rfl rfl rfl rfl ?_
                      refine re_move rfl rfl rfl rfl rfl ?_
                      refine re_split (fun hg34_13 => ?_) (fun hg34_13 => ?_)
                      ·
                        refine re_move rfl rfl rfl rfl rfl ?_
                        refine re_not rfl rfl rfl rfl rfl ?_
                        refine re_move rfl rfl rfl rfl rfl ?_
                        refine re_split (fun hg34_16 => ?_) (fun hg34_16 => ?_)
                        ·
                          refine re_skip1 rfl rfl rfl ?_
                          refine re_skip1 rfl rfl rfl ?_
                          refine re_pickT rfl rfl rfl rfl rfl rfl ?_
                          refine re_pickT rfl rfl rfl rfl rfl rfl ?_
                          refine re_assign rfl rfl rfl rfl rfl ?_
                          refine re_nil ?_
                          refine qe_thenC ?_
                          refine ce_ret ?_
                          refine qe_end rfl rfl ?_
                          exact ⟨rfl, (H.drop 9).append_right⟩
                        ·
                          refine re_move rfl rfl rfl rfl rfl ?_
                          refine re_bin rfl rfl rfl rfl rfl rfl rfl ?_
                          refine re_pickF rfl rfl rfl rfl rfl rfl ?_
                          refine re_pickT rfl rfl rfl rfl rfl rfl ?_
                          refine re_assign rfl rfl rfl rfl rfl ?_
                          refine re_nil ?_
                          refine qe_thenC ?_
                          refine ce_ret ?_
                          refine qe_end rfl rfl ?_
                          have e1 : kd0 ≠ y0.p.rnd := fun h => by rw [decide_eq_true h] at hg33_1; cases hg33_1
                          have e2 : nk0 = nk := by
                            by_cases h : nk0 = nk
                            · exact h
                            · rw [decide_eq_false h] at hg34_16; cases hg34_16
                          exact ⟨by rw [decide_eq_true (f3 e1 e2)], (H.drop 9).append_right⟩
                      ·
                        refine re_skip1 rfl rfl rfl ?_
                        refine re_skip1 rfl rfl rfl ?_
                        refine re_skip1 rfl rfl rfl ?_
                        refine re_skip1 rfl rfl rfl ?_
                        refine re_skip1 rfl rfl rfl ?_
                        refine re_skip1 rfl rfl rfl ?_
                        refine re_pickF rfl rfl rfl rfl rfl rfl ?_
                        refine re_assign rfl rfl rfl rfl rfl ?_
                        refine re_nil ?_
                        refine qe_thenC ?_
                        refine ce_ret ?_
                        refine qe_end rfl rfl ?_
                        have e1 : 0 < (bl : Int) := by
                          by_cases h : 0 < (bl : Int)
                          · exact h
                          · rw [decide_eq_false h] at hg34_8; cases hg34_8
                        exact absurd (f2 e1) (of_decide_eq_false hg34_13)
                  ·
                    refine re_skip1 rfl rfl rfl ?_
                    refine re_skip1 rfl rfl rfl ?_
                    refine re_skip1 rfl rfl rfl ?_
                    refine re_skip1 rfl rfl rfl ?_
                    refine re_skip1 rfl rfl rfl ?_
                    refine re_skip1 rfl rfl rfl ?_
                    refine re_pickF rfl rfl rfl rfl rfl rfl ?_
                    refine re_move rfl rfl rfl rfl rfl ?_
                    refine re_skip1 rfl rfl rfl ?_
                    refine re_skip1 rfl rfl rfl ?_
                    refine re_skip1 rfl rfl rfl ?_
                    refine re_skip1 rfl rfl rfl ?_
                    refine re_skip1 rfl rfl rfl ?_
                    refine re_skip1 rfl rfl rfl ?_
                    refine re_pickF rfl rfl rfl rfl rfl rfl ?_
                    refine re_assign rfl rfl rfl rfl rfl ?_
                    refine re_nil ?_
                    refine qe_thenC ?_
                    refine ce_ret ?_
                    refine qe_end rfl rfl ?_
                    exact absurd f1 (of_decide_eq_false hg34_5)
                ·
                  refine re_skip1 rfl rfl rfl ?_
                  refine re_skip1 rfl rfl rfl ?_
                  refine re_pickF rfl rfl rfl rfl rfl rfl ?_
                  refine re_move rfl rfl rfl rfl rfl ?_
                  refine re_skip1 rfl rfl rfl ?_
                  refine re_skip1 rfl rfl rfl ?_
                  refine re_skip1 rfl rfl rfl ?_
                  refine re_skip1 rfl rfl rfl ?_
                  refine re_skip1 rfl rfl rfl ?_
                  refine re_skip1 rfl rfl rfl ?_
                  refine re_pickF rfl rfl rfl rfl rfl rfl ?_
                  refine re_move rfl rfl rfl rfl rfl ?_
                  refine re_skip1 rfl rfl rfl ?_
                  refine re_skip1 rfl rfl rfl ?_
                  refine re_skip1 rfl rfl rfl ?_
                  refine re_skip1 rfl rfl rfl ?_
                  refine re_skip1 rfl rfl rfl ?_
                  refine re_skip1 rfl rfl rfl ?_
                  refine re_pickF rfl rfl rfl rfl rfl rfl ?_
                  refine re_assign rfl rfl rfl rfl rfl ?_
                  refine re_nil ?_
                  refine qe_thenC ?_
                  refine ce_ret ?_
                  refine qe_end rfl rfl ?_
                  cases hg34_1
              ·
                refine re_skip1 rfl rfl rfl ?_
                refine re_skip1 rfl rfl rfl ?_
                refine re_skip1 rfl rfl rfl ?_
                refine re_skip1 rfl rfl rfl ?_
                refine re_skip1 rfl rfl rfl ?_
                refine re_skip1 rfl rfl rfl ?_
                refine re_skip1 rfl rfl rfl ?_
                refine re_skip1 rfl rfl rfl ?_
                refine re_skip1 rfl rfl rfl ?_
                refine re_pickF rfl rfl rfl rfl rfl rfl ?_
                refine re_assign rfl rfl rfl rfl rfl ?_
                refine re_nil ?_
                refine qe_thenC ?_
                refine ce_seq ?_
                refine ce_text (tab := []) (soft := 4194303) (.op 0 (.op 1 (.op 2 (.op 3 (.op 4 (.op 5 (.op 6 (.op 7 (.op 8 (.op 9 (.op 10 (.op 11 (.op 12 (.op 13 (.op 14 (.op 15 (.op 16 (.op 17 (.op 18 (.op 19 (.op 20 (.op 21 .nil)))))))))))))))))))))) rfl rfl ?_
                refine re_move rfl rfl rfl rfl rfl ?_
                refine re_move rfl rfl rfl rfl rfl ?_
                refine re_split (fun hg34_1 => ?_) (fun hg34_1 => ?_)
                ·
                  refine re_move rfl rfl rfl rfl rfl ?_
                  refine re_bin rfl rfl rfl rfl rfl rfl rfl ?_
                  refine re_pickT rfl rfl rfl rfl rfl rfl ?_
                  refine re_move rfl rfl rfl rfl rfl ?_
                  refine re_split (fun hg34_5 => ?_) (fun hg34_5 => ?_)
                  ·
                    refine re_move rfl rfl rfl rfl rfl ?_
                    refine re_not rfl rfl rfl rfl rfl ?_
                    refine re_move rfl rfl rfl rfl rfl ?_
                    refine re_split (fun hg34_8 => ?_) (fun hg34_8 => ?_)
                    ·
                      refine re_skip1 rfl rfl rfl ?_
                      refine re_skip1 rfl rfl rfl ?_
                      refine re_pickT rfl rfl rfl rfl rfl rfl ?_
                      refine re_pickT rfl rfl rfl rfl rfl rfl ?_
                      refine re_move rfl rfl rfl rfl rfl ?_
                      refine re_move rfl rfl rfl rfl rfl ?_
                      refine re_not rfl rfl rfl rfl rfl ?_
                      refine re_move rfl rfl rfl rfl rfl ?_
                      refine re_split (fun hg34_16 => ?_) (fun hg34_16 => ?_)
                      ·
                        refine re_skip1 rfl rfl rfl ?_
                        refine re_skip1 rfl rfl rfl ?_
                        refine re_pickT rfl rfl rfl rfl rfl rfl ?_
                        refine re_pickT rfl rfl rfl rfl rfl rfl ?_
                        refine re_assign rfl rfl rfl rfl rfl ?_
                        refine re_nil ?_
                        refine qe_thenC ?_
                        refine ce_ret ?_
                        refine qe_end rfl rfl ?_
                        exact ⟨rfl, (H.drop 9).append_right⟩
                      ·
                        refine re_move rfl rfl rfl rfl rfl ?_
                        refine re_bin rfl rfl rfl rfl rfl rfl rfl ?_
                        refine re_pickF rfl rfl rfl rfl rfl rfl ?_
                        refine re_pickT rfl rfl rfl rfl rfl rfl ?_
                        refine re_assign rfl rfl rfl rfl rfl ?_
                        refine re_nil ?_
                        refine qe_thenC ?_
                        refine ce_ret ?_
                        refine qe_end rfl rfl ?_
                        cases hg34_16
                    ·
                      refine re_move rfl rfl rfl rfl rfl ?_
                      refine re_bin rfl rfl rfl rfl rfl rfl rfl ?_
                      refine re_pickF rfl rfl rfl rfl rfl rfl ?_
                      refine re_pickT rfl rfl rfl rfl rfl rfl ?_
                      refine re_move rfl rfl rfl rfl rfl ?_
                      refine re_split (fun hg34_13 => ?_) (fun hg34_13 => ?_)
                      ·
                        refine re_move rfl rfl rfl rfl rfl ?_
                        refine re_not rfl rfl rfl rfl rfl ?_
                        refine re_move rfl rfl rfl rfl rfl ?_
                        refine re_split (fun hg34_16 => ?_) (fun hg34_16 => ?_)
                        ·
                          refine re_skip1 rfl rfl rfl ?_
                          refine re_skip1 rfl rfl rfl ?_
                          refine re_pickT rfl rfl rfl rfl rfl rfl ?_
                          refine re_pickT rfl rfl rfl rfl rfl rfl ?_
                          refine re_assign rfl rfl rfl rfl rfl ?_
                          refine re_nil ?_
                          refine qe_thenC ?_
                          refine ce_ret ?_
                          refine qe_end rfl rfl ?_
                          exact ⟨rfl, (H.drop 9).append_right⟩
                        ·
                          refine re_move rfl rfl rfl rfl rfl ?_
                          refine re_bin rfl rfl rfl rfl rfl rfl rfl ?_
                          refine re_pickF rfl rfl rfl rfl rfl rfl ?_
                          refine re_pickT rfl rfl rfl rfl rfl rfl ?_
                          refine re_assign rfl rfl rfl rfl rfl ?_
                          refine re_nil ?_
                          refine qe_thenC ?_
                          refine ce_ret ?_
                          refine qe_end rfl rfl ?_
                          cases hg34_16
                      ·
                        refine re_skip1 rfl rfl rfl ?_
                        refine re_skip1 rfl rfl rfl ?_
                        refine re_skip1 rfl rfl rfl ?_
                        refine re_skip1 rfl rfl rfl ?_
                        refine re_skip1 rfl rfl rfl ?_
                        refine re_skip1 rfl rfl rfl ?_
                        refine re_pickF rfl rfl rfl rfl rfl rfl ?_
                        refine re_assign rfl rfl rfl rfl rfl ?_
                        refine re_nil ?_
                        refine qe_thenC ?_
                        refine ce_ret ?_
                        refine qe_end rfl rfl ?_
                        have e1 : 0 < (bl : Int) := by
                          by_cases h : 0 < (bl : Int)
                          · exact h
                          · rw [decide_eq_false h] at hg34_8; cases hg34_8
                        exact absurd (f2 e1) (of_decide_eq_false hg34_13)
                  ·
                    refine re_skip1 rfl rfl rfl ?_
                    refine re_skip1 rfl rfl rfl ?_
                    refine re_skip1 rfl rfl rfl ?_
                    refine re_skip1 rfl rfl rfl ?_
                    refine re_skip1 rfl rfl rfl ?_
                    refine re_skip1 rfl rfl rfl ?_
                    refine re_pickF rfl rfl rfl rfl rfl rfl ?_
                    refine re_move rfl rfl rfl rfl rfl ?_
                    refine re_skip1 rfl rfl rfl ?_
                    refine re_skip1 rfl rfl rfl ?_
                    refine re_skip1 rfl rfl rfl ?_
                    refine re_skip1 rfl rfl rfl ?_
                    refine re_skip1 rfl rfl rfl ?_
                    refine re_skip1 rfl rfl rfl ?_
                    refine re_pickF rfl rfl rfl rfl rfl rfl ?_
                    refine re_assign rfl rfl rfl rfl rfl ?_
                    refine re_nil ?_
                    refine qe_thenC ?_
                    refine ce_ret ?_
                    refine qe_end rfl rfl ?_
                    exact absurd f1 (of_decide_eq_false hg34_5)
                ·
                  refine re_skip1 rfl rfl rfl ?_
                  refine re_skip1 rfl rfl rfl ?_
                  refine re_pickF rfl rfl rfl rfl rfl rfl ?_
                  refine re_move rfl rfl rfl rfl rfl ?_
                  refine re_skip1 rfl rfl rfl ?_
                  refine re_skip1 rfl rfl rfl ?_
                  refine re_skip1 rfl rfl rfl ?_
                  refine re_skip1 rfl rfl rfl ?_
                  refine re_skip1 rfl rfl rfl ?_
                  refine re_skip1 rfl rfl rfl ?_
                  refine re_pickF rfl rfl rfl rfl rfl rfl ?_
                  refine re_move rfl rfl rfl rfl rfl ?_
                  refine re_skip1 rfl rfl rfl ?_
                  refine re_skip1 rfl rfl rfl ?_
                  refine re_skip1 rfl rfl rfl ?_
                  refine re_skip1 rfl rfl rfl ?_
                  refine re_skip1 rfl rfl rfl ?_
                  refine re_skip1 rfl rfl rfl ?_
                  refine re_pickF rfl rfl rfl rfl rfl rfl ?_
                  refine re_assign rfl rfl rfl rfl rfl ?_
                  refine re_nil ?_
                  refine qe_thenC ?_
                  refine ce_ret ?_
                  refine qe_end rfl rfl ?_
                  cases hg34_1
            · try simp only [zn1, zn2, zn3, zn4, zn5, zn6] at h7
              refine ce_skip ?_
              refine qe_thenC ?_
              refine ce_seq ?_
              refine ce_text (tab := []) (soft := 7) (.op 0 (.op 1 (.op 2 (.op 3 .nil)))) rfl rfl ?_
              refine re_move rfl rfl rfl rfl rfl ?_
              refine re_move rfl rfl rfl rfl rfl ?_
              refine re_move rfl rfl rfl rfl rfl ?_
              refine re_call en_17 rfl rfl rfl rfl rfl ?_
              replace H := H.tail
              have hnd : ¬ y.done := fun h => by rw [(dec_done y).2 h] at h7; cases h7
              obtain ⟨y', T'⟩ := T.next g hmj (by omega) (by omega) hb4 (by omega) hnd
              refine Calls.mono (exchange_p H hx' hp' h4p hd3 g (T.es hnd) (by omega) (by have := T.le; omega) (by have := T.le; omega) (by omega)) ?_
              rintro e w ⟨wa, wc, d1, d2, d3, d4, l', hd3, hp', hx', rfl, H⟩
              refine ⟨_, rfl, (fun h => (nomatch h)), ?_⟩
              refine re_nil ?_
              refine qe_thenC ?_
              refine ce_text (tab := []) (soft := 7) (.op 0 (.op 1 (.op 2 .nil))) rfl rfl ?_
              refine re_move rfl rfl rfl rfl rfl ?_
              first | refine re_add rfl rfl rfl rfl rfl rfl (by omega) ?_ | refine re_bin rfl rfl rfl rfl rfl rfl rfl ?_
              refine re_assign rfl rfl rfl rfl rfl ?_
              refine re_nil ?_
              refine qe_block_norm ?_
              refine qe_round (x := (n, wa, wc, d1, d2, d3, d4, l', sk, y)) (n + 1, wa, wc, d1, d2, d3, d4, l', sk.exchange j dn, y') ?_ ?_ ?_
              · first | (dsimp only; omega) | omega
              · exact (And.intro rfl (And.intro rfl (And.intro rfl (And.intro rfl (And.intro rfl (And.intro rfl (And.intro rfl (And.intro rfl (And.intro rfl (And.intro rfl (And.intro rfl (And.intro rfl trivial))))))))))))
              · exact ⟨H, hd3, hp', hx', T'⟩
          · try simp only [zn1, zn2, zn3, zn4, zn5, zn6] at h6
            exfalso; have := T.le; omega
      ·
        refine re_skip1 rfl rfl rfl ?_
        refine re_skip1 rfl rfl rfl ?_
        refine re_pickF rfl rfl rfl rfl rfl rfl ?_
        refine re_nil ?_
        refine qe_thenC ?_
        refine ce_condF rfl ?_
        refine ce_exit ?_
        refine qe_then_exit ?_
        refine qe_then_exit ?_
        refine qe_block_exit ?_
        refine qe_thenC ?_
        refine ce_seq ?_
        refine ce_text (tab := []) (soft := 255) (.op 0 (.op 1 (.op 2 (.op 3 (.op 4 (.op 5 (.op 6 (.op 7 .nil)))))))) rfl rfl ?_
        have hmj : Maj gs dn := maj_of g.nd (by unfold needs; omega)
        have hll : l'.length = 4 := by rw [← h4p, ← hp', List.length_map]
        have hjl : j < l'.length := by omega
        obtain ⟨xp, rfl⟩ := H.rsome pa (by omega)
        obtain ⟨gp, hgp⟩ : ∃ gp, gp = l'[j].2.g := ⟨_, rfl⟩
        have hgx : sk.xs[j]? = some l'[j].1 := by rw [← hx', List.getElem?_map, List.getElem?_eq_getElem hjl]; rfl
        have hsl : j < sk.xs.length := (List.getElem?_eq_some_iff.1 hgx).1
        have hkl : j < sk.nkd.length := by rw [I.nl]; exact hsl
        have hcl : j < sk.nks.length := by rw [I.nl2]; exact hsl
        have hoj : (l'[j].1).ok := by rw [← (List.getElem?_eq_some_iff.1 hgx).2]; exact (I.xs j hsl).ok g.un g.len
        have hpj : pgs[j]? = some gp := by rw [← hp', List.getElem?_map, List.getElem?_eq_getElem hjl, hgp]; rfl
        obtain ⟨kd0, hkd⟩ : ∃ v, sk.nkd[j]? = some v := ⟨_, List.getElem?_eq_getElem hkl⟩
        obtain ⟨nk0, hnk⟩ : ∃ v, sk.nks[j]? = some v := ⟨_, List.getElem?_eq_getElem hcl⟩
        have T0 := Trip.start (down := dn) g I hgx (by omega) (by omega) hnk hkd
        refine re_move rfl rfl rfl rfl rfl ?_
        refine re_nilc rfl rfl rfl rfl rfl ?_
        first | refine re_field0 rfl rfl rfl rfl rfl fo_64_3 ?_ | refine re_field rfl rfl rfl rfl rfl fo_64_3 ?_ | refine re_fieldA rfl rfl rfl rfl rfl fo_64_3 ?_
        refine re_load H rfl rfl rfl rfl rfl sh_61 rfl ?_
        refine re_move rfl rfl rfl rfl rfl ?_
        refine re_indexL rfl rfl rfl rfl rfl rfl ul_61 ei_61 (by omega) (by omega) ?_
        refine re_loadW rfl rfl rfl rfl rfl (run_loadAt_one sh_29 (rvalL H (ptr_at hp' hjl))) ?_
        refine re_assign rfl rfl rfl rfl rfl ?_
        refine re_nil ?_
        refine qe_thenC ?_
        refine ce_seq ?_
        refine ce_text (tab := []) (soft := 7) (.op 0 (.op 1 (.op 2 (.op 3 .nil)))) rfl rfl ?_
        refine re_move rfl rfl rfl rfl rfl ?_
        refine re_nilc rfl rfl rfl rfl rfl ?_
        first | refine re_field0 rfl rfl rfl rfl rfl fo_64_4 ?_ | refine re_field rfl rfl rfl rfl rfl fo_64_4 ?_ | refine re_fieldA rfl rfl rfl rfl rfl fo_64_4 ?_
        refine re_store H rfl rfl rfl rfl rfl rfl sh_62 rfl rfl rfl ?_
        intro cs w hcs H
        first | rw [setMany_whole rfl] at hcs | simp only [setMany, List.set_cons_zero, List.set_cons_succ, Nat.reduceAdd, Nat.zero_add, PS.cells, PS.over, GM.cells, Cmd.cells, List.cons_append, List.nil_append] at hcs
        subst hcs
        refine ⟨(fun h => (nomatch h)), ?_⟩
        refine re_nil ?_
        refine qe_thenC ?_
        refine ce_seq ?_
        refine ce_text (tab := []) (soft := 29) (.op 0 (.op 1 (.op 2 (.op 3 (.op 4 .nil))))) rfl rfl ?_
        replace H := H.nil_row 46 30
        have H := Own.arr [8, 8, 8, 8, 8, 8, 6, 7] H
        simp only [arrs, Fw.front, zm1, zm2, zm3, zm4, zm5] at H
        replace H := H.sub (.cons_cons _ (.cons_cons _ (.cons_cons _ (.cons_cons _ (.cons_cons _ (.cons_cons _ (.cons_cons _ (.cons_cons _ (.cons _ (List.Sublist.refl _))))))))))
        refine re_move rfl rfl rfl rfl rfl ?_
        refine re_call en_14 rfl rfl rfl rfl rfl ?_
        have H := pick (A := [_, _, _, _, _, _, _, _]) hjl H
        refine Calls.mono (begin_c (x := l'[j].1) (a := l'[j].2) hoj H) ?_
        rintro e w ⟨a, s, c, hg, rfl, H⟩
        replace H := unpick (D := [_]) (A := [_, _, _, _, _, _, _, _]) (y := (l'[j].1.begin.1, a)) hjl H
        simp only [List.cons_append, List.nil_append] at H
        replace H : Own B (.cells h 64 [.int .i64 3, .int .i64 3, .int .i64 9, .int .i64 0, slv ga gs.length gc, slv (some ia) gs.length gs.length, slv (some xp) pgs.length pc, slv none (sk.beg j).way.length 0, lsv d1 d2 d3 d4, slv (some na) pgs.length pgs.length, slv (some ca) pgs.length pgs.length] :: .row none 0 46 30 (sk.beg j).way.length (msgs (sk.beg j).way) :: .row ga gc 3 1 gs.length (ints gs) :: .cells ia 121 ((sk.beg j).ins.flatMap Inst.cells) :: .row (some xp) pc 29 1 pgs.length (pgs.map ptrV) :: .loose d1 d2 d3 d4 28 9 :: .cells na 3 (ints (sk.beg j).nkd) :: .cells ca 3 (ints (sk.beg j).nks) :: (ch (l'.set j (l'[j].1.begin.1, a)) ++ F)) w := by rw [HP.beg_eq hgx]; exact H.tail
        have hkb : (sk.beg j).nkd[j]? = some kd0 := by rw [HP.beg_eq hgx]; exact hkd
        have hcb : (sk.beg j).nks[j]? = some nk0 := by rw [HP.beg_eq hgx]; exact hnk
        have hxb : (l'.set j (l'[j].1.begin.1, a)).map (fun y => y.1) = (sk.beg j).xs := by rw [HP.beg_eq hgx, List.map_set, hx']
        have hpb := (map_set_g (y := (l'[j].1.begin.1, a)) hjl hg).trans hp'
        obtain ⟨l2, hl2⟩ : ∃ l2, l2 = l'.set j (l'[j].1.begin.1, a) := ⟨_, rfl⟩
        have hj2 : j < l2.length := by rw [hl2, List.length_set]; exact hjl
        obtain ⟨y0, hy0⟩ : ∃ y, y = l'[j].1.begin.1 := ⟨_, rfl⟩
        have hy2 : l2[j].1 = y0 := by simp only [hl2, List.getElem_set_self, hy0]
        have hg2 : l2[j].2.g = gp := by simp only [hl2, List.getElem_set_self]; exact hg.trans hgp.symm
        rw [← hl2] at H hxb hpb
        obtain ⟨sb, hsb⟩ : ∃ sb, sb = sk.beg j := ⟨_, rfl⟩
        rw [← hsb] at H hkb hcb hxb T0
        rw [← hy0] at T0
        obtain ⟨bl, hbl⟩ : ∃ bl : Nat, bl = l'[j].1.begin.2.length := ⟨_, rfl⟩
        rw [← hbl] at T0 ⊢
        rw [← hgp]
        obtain ⟨b0, hb0⟩ : ∃ b0 : Nat, b0 = if 0 < (bl : Int) then 3 else 4 := ⟨_, rfl⟩
        rw [← hb0] at T0
        have hb4 : b0 ≤ 4 := by rw [hb0]; split <;> omega
        refine ⟨_, rfl, (fun h => (nomatch h)), ?_⟩
        refine re_len rfl rfl rfl rfl rfl ul_62 ?_
        refine re_bin rfl rfl rfl rfl rfl rfl rfl ?_
        refine re_assign rfl rfl rfl rfl rfl ?_
        refine re_nil ?_
        refine qe_thenC ?_
        refine ce_seq ?_
        refine ce_open (tab := [0, 1, 3, 7, 0, 31, 63, 0, 128, 511, 1023]) (soft := 1791) mixed (.op 0 (.op 1 (.op 2 (.op 3 (.op 4 (.op 5 (.op 6 (.op 7 (.op 8 (.op 9 (.op 10 .nil))))))))))) (by kernel_rfl) H ?_
        intro w H
        refine re_move rfl rfl rfl rfl rfl ?_
        refine re_nilc rfl rfl rfl rfl rfl ?_
        first | refine re_field0 rfl rfl rfl rfl rfl fo_64_6 ?_ | refine re_field rfl rfl rfl rfl rfl fo_64_6 ?_ | refine re_fieldA rfl rfl rfl rfl rfl fo_64_6 ?_
        refine re_load H rfl rfl rfl rfl rfl sh_31 rfl ?_
        refine re_move rfl rfl rfl rfl rfl ?_
        refine re_indexL rfl rfl rfl rfl rfl rfl ul_31 ei_31 (by omega) (by omega) ?_
        refine re_load H rfl rfl rfl rfl rfl sh_3 (rd_some hkb) ?_
        refine re_move rfl rfl rfl rfl rfl ?_
        refine re_call en_15 rfl rfl rfl rfl rfl ?_
        have H := pick (A := [_, _, _, _, _, _, _, _]) hj2 H
        have hCC := round_c (x := l2[j].1) (a := l2[j].2) H
        rw [hg2] at hCC
        refine Calls.mono (hCC) ?_
        rintro e w ⟨rfl, H⟩
        replace H := unpick0 (A := [_, _, _, _, _, _, _, _]) hj2 H
        simp only [List.cons_append, List.nil_append] at H
        rw [hy2]
        refine ⟨_, rfl, (fun _ => ⟨fun _ => still_load H sh_3 (rd_some hkb), fun _ => still_load H sh_31 rfl, trivial⟩), ?_⟩
        refine re_bin rfl rfl rfl rfl rfl rfl rfl ?_
        refine re_assign rfl rfl rfl rfl rfl ?_
        refine re_nil ?_
        refine qe_noPanic ?_
        refine qe_thenC ?_
        refine ce_seq ?_
        refine ce_text (tab := []) (soft := 255) (.op 0 (.op 1 (.op 2 (.op 3 (.op 4 (.op 5 (.op 6 (.op 7 .nil)))))))) rfl rfl ?_
        refine re_move rfl rfl rfl rfl rfl ?_
        refine re_nilc rfl rfl rfl rfl rfl ?_
        first | refine re_field0 rfl rfl rfl rfl rfl fo_64_7 ?_ | refine re_field rfl rfl rfl rfl rfl fo_64_7 ?_ | refine re_fieldA rfl rfl rfl rfl rfl fo_64_7 ?_
        refine re_load H rfl rfl rfl rfl rfl sh_31 rfl ?_
        refine re_move rfl rfl rfl rfl rfl ?_
        refine re_indexL rfl rfl rfl rfl rfl rfl ul_31 ei_31 (by omega) (by omega) ?_
        refine re_load H rfl rfl rfl rfl rfl sh_3 (rd_some hcb) ?_
        refine re_assign rfl rfl rfl rfl rfl ?_
        refine re_nil ?_
        refine qe_thenC ?_
        refine ce_seq ?_
        refine ce_text (tab := []) (soft := 1) (.op 0 .nil) rfl rfl ?_
        refine re_assign rfl rfl rfl rfl rfl ?_
        refine re_nil ?_
        refine qe_thenC ?_
        refine ce_seq ?_
        refine ce_block ?_
        refine ce_loop (α := Nat × (Option Nat) × Nat × (Option Nat) × Nat × Nat × Nat × (List XA) × HP × X) (fun ⟨n, wa, wc, d1, d2, d3, d4, l', sk, y⟩ => [(0, .int .i64 u1), (1, .slice sa xs.length sc), (2, .int .i64 u3), (3, .int .i64 u4), (9, .pointer (some ⟨h, 0, none⟩)), (11, .int .i64 (j : Int)), (13, .int .i64 dn), (16, ptrV gp), (17, .bool (decide (0 < (bl : Int)))), (18, .bool (!decide (kd0 = y0.p.rnd))), (19, .int .i64 nk0), (20, .int .i64 (n : Int))]) (fun ⟨n, wa, wc, d1, d2, d3, d4, l', sk, y⟩ w => Own B (.cells h 64 [.int .i64 3, .int .i64 3, .int .i64 9, .int .i64 0, slv ga gs.length gc, slv (some ia) gs.length gs.length, slv (some xp) pgs.length pc, slv wa sk.way.length wc, lsv d1 d2 d3 d4, slv (some na) pgs.length pgs.length, slv (some ca) pgs.length pgs.length] :: .row wa wc 46 30 sk.way.length (msgs sk.way) :: .row ga gc 3 1 gs.length (ints gs) :: .cells ia 121 (sk.ins.flatMap Inst.cells) :: .row (some xp) pc 29 1 pgs.length (pgs.map ptrV) :: .loose d1 d2 d3 d4 28 9 :: .cells na 3 (ints sk.nkd) :: .cells ca 3 (ints sk.nks) :: (ch l' ++ F)) w ∧ d3 ≤ 50 ∧ l'.map (fun y => y.2.g) = pgs ∧ l'.map (fun y => y.1) = sk.xs ∧ Trip gs dn (xs.length : Int) (1 + (xs.length : Int) + 1) j n b0 nk0 (kd0 ≠ y0.p.rnd) sk y) (fun ⟨n, wa, wc, d1, d2, d3, d4, l', sk, y⟩ => 5 - n) (0, none, 0, d1, d2, d3, d4, l2, sb, y0) (And.intro rfl (And.intro rfl (And.intro rfl (And.intro rfl (And.intro rfl (And.intro rfl (And.intro rfl (And.intro rfl (And.intro rfl (And.intro rfl (And.intro rfl (And.intro rfl trivial)))))))))))) ⟨H, hd3, hpb, hxb, T0⟩ ?_
        rintro ⟨n, wa, wc, d1, d2, d3, d4, l', sk, y⟩ w HW
        obtain ⟨H, hd3, hp', hx', T⟩ := HW
        change CE _ _ _ _ _ [(0, .int .i64 u1), (1, .slice sa xs.length sc), (2, .int .i64 u3), (3, .int .i64 u4), (9, .pointer (some ⟨h, 0, none⟩)), (11, .int .i64 (j : Int)), (13, .int .i64 dn), (16, ptrV gp), (17, .bool (decide (0 < (bl : Int)))), (18, .bool (!decide (kd0 = y0.p.rnd))), (19, .int .i64 nk0), (20, .int .i64 (n : Int))] _
        have hll : l'.length = 4 := by rw [← h4p, ← hp', List.length_map]
        have hjl : j < l'.length := by omega
        have hg2 : l'[j].2.g = gp := by
          have h := hpj
          rw [← hp', List.getElem?_map, List.getElem?_eq_getElem hjl] at h
          exact Option.some.inj h
        have hy2 : l'[j].1 = y := by
          have h := T.gx
          rw [← hx', List.getElem?_map, List.getElem?_eq_getElem hjl] at h
          exact Option.some.inj h
        refine ce_seq ?_
        refine ce_seq ?_
        refine ce_text (tab := []) (soft := 3) (.op 0 (.op 1 .nil)) rfl rfl ?_
        refine re_move rfl rfl rfl rfl rfl ?_
        refine re_bin rfl rfl rfl rfl rfl rfl rfl ?_
        refine re_nil ?_
        refine qe_thenC ?_
        refine ce_cond rfl (fun h6 => ?_) (fun h6 => ?_)
        · try simp only [zn1, zn2, zn3, zn4, zn5, zn6] at h6
          refine ce_skip ?_
          refine qe_thenC ?_
          refine ce_block ?_
          refine ce_seq ?_
          refine ce_text (tab := []) (soft := 157) (.op 0 (.op 1 (.op 2 (.op 3 (.op 4 (.op 5 (.op 6 (.op 7 .nil)))))))) rfl rfl ?_
          refine re_move rfl rfl rfl rfl rfl ?_
          refine re_call en_16 rfl rfl rfl rfl rfl ?_
          have H := pick (A := [_, _, _, _, _, _, _, _]) hjl H
          have hCC := decided_c (x := l'[j].1) (a := l'[j].2) H
          rw [hg2] at hCC
          refine Calls.mono (hCC) ?_
          rintro e w ⟨rfl, H⟩
          replace H := unpick0 (A := [_, _, _, _, _, _, _, _]) hjl H
          simp only [List.cons_append, List.nil_append] at H
          rw [hy2]
          refine ⟨_, rfl, (fun h => (nomatch h)), ?_⟩
          refine re_move rfl rfl rfl rfl rfl ?_
          refine re_extract rfl rfl rfl rfl rfl rfl ?_
          refine re_extract rfl rfl rfl rfl rfl rfl ?_
          refine re_alloc H rfl rfl rfl rfl ze_28 ?_
          intro g21 w H
          refine ⟨(fun h => (nomatch h)), ?_⟩
          refine re_store H rfl rfl rfl rfl rfl rfl sh_28 rfl rfl rfl ?_
          intro cs w hcs H
          first | rw [setMany_whole rfl] at hcs | simp only [setMany, List.set_cons_zero, List.set_cons_succ, Nat.reduceAdd, Nat.zero_add, PS.cells, PS.over, GM.cells, Cmd.cells, List.cons_append, List.nil_append] at hcs
          subst hcs
          refine ⟨(fun h => (nomatch h)), ?_⟩
          refine re_assign rfl rfl rfl rfl rfl ?_
          refine re_nil ?_
          refine qe_thenC ?_
          refine ce_seq ?_
          refine ce_seq ?_
          refine ce_text (tab := []) (soft := 1) (.op 0 .nil) rfl rfl ?_
          refine re_move rfl rfl rfl rfl rfl ?_
          refine re_nil ?_
          refine qe_thenC ?_
          refine ce_cond rfl (fun h7 => ?_) (fun h7 => ?_)
          · try simp only [zn1, zn2, zn3, zn4, zn5, zn6] at h7
            refine ce_exit ?_
            refine qe_then_exit ?_
            refine qe_block_exit' rfl ?_
            refine qe_then_exit ?_
            refine qe_block_exit ?_
            refine qe_thenC ?_
            refine ce_seq ?_
            refine ce_text (tab := []) (soft := 157) (.op 0 (.op 1 (.op 2 (.op 3 (.op 4 (.op 5 (.op 6 (.op 7 .nil)))))))) rfl rfl ?_
            replace H := H.tail
            refine re_move rfl rfl rfl rfl rfl ?_
            refine re_call en_16 rfl rfl rfl rfl rfl ?_
            have H := pick (A := [_, _, _, _, _, _, _, _]) hjl H
            have hCC := decided_c (x := l'[j].1) (a := l'[j].2) H
            rw [hg2] at hCC
            refine Calls.mono (hCC) ?_
            rintro e w ⟨rfl, H⟩
            replace H := unpick0 (A := [_, _, _, _, _, _, _, _]) hjl H
            simp only [List.cons_append, List.nil_append] at H
            rw [hy2]
            refine ⟨_, rfl, (fun h => (nomatch h)), ?_⟩
            refine re_move rfl rfl rfl rfl rfl ?_
            refine re_extract rfl rfl rfl rfl rfl rfl ?_
            refine re_extract rfl rfl rfl rfl rfl rfl ?_
            refine re_alloc H rfl rfl rfl rfl ze_28 ?_
            intro g23 w H
            refine ⟨(fun h => (nomatch h)), ?_⟩
            refine re_store H rfl rfl rfl rfl rfl rfl sh_28 rfl rfl rfl ?_
            intro cs w hcs H
            first | rw [setMany_whole rfl] at hcs | simp only [setMany, List.set_cons_zero, List.set_cons_succ, Nat.reduceAdd, Nat.zero_add, PS.cells, PS.over, GM.cells, Cmd.cells, List.cons_append, List.nil_append] at hcs
            subst hcs
            refine ⟨(fun h => (nomatch h)), ?_⟩
            refine re_assign rfl rfl rfl rfl rfl ?_
            refine re_nil ?_
            refine qe_thenC ?_
            refine ce_seq ?_
            refine ce_text (tab := []) (soft := 8191) (.op 0 (.op 1 (.op 2 (.op 3 (.op 4 (.op 5 (.op 6 (.op 7 (.op 8 (.op 9 (.op 10 (.op 11 (.op 12 .nil))))))))))))) rfl rfl ?_
            simp only [h7]
            obtain ⟨nk, hnk1, hnk2, hnk3⟩ := T.nk
            have htle := T.le
            have f1 : (n : Int) ≤ 4 := by omega
            have f2 : 0 < (bl : Int) → (n : Int) ≤ 3 := fun hb => by rw [if_pos hb] at hb0; omega
            have f3 : kd0 ≠ y0.p.rnd → nk0 = nk → (n : Int) ≤ 2 := fun hq he => by
              rcases hnk3 hq with h | ⟨q, h, _⟩
              · omega
              · omega
            refine re_move rfl rfl rfl rfl rfl ?_
            refine re_move rfl rfl rfl rfl rfl ?_
            refine re_split (fun hg33_1 => ?_) (fun hg33_1 => ?_)
            ·
              refine re_move rfl rfl rfl rfl rfl ?_
              refine re_move rfl rfl rfl rfl rfl ?_
              refine re_nilc rfl rfl rfl rfl rfl ?_
              first | refine re_field0 rfl rfl rfl rfl rfl fo_64_7 ?_ | refine re_field rfl rfl rfl rfl rfl fo_64_7 ?_ | refine re_fieldA rfl rfl rfl rfl rfl fo_64_7 ?_
              refine re_load H rfl rfl rfl rfl rfl sh_31 rfl ?_
              refine re_move rfl rfl rfl rfl rfl ?_
              refine re_indexL rfl rfl rfl rfl rfl rfl ul_31 ei_31 (by omega) (by omega) ?_
              refine re_load H rfl rfl rfl rfl rfl sh_3 (rd_some hnk1) ?_
              refine re_bin rfl rfl rfl rfl rfl rfl rfl ?_
              refine re_pickT rfl rfl rfl rfl rfl rfl ?_
              refine re_assign rfl rfl rfl rfl rfl ?_
              refine re_nil ?_
              refine qe_thenC ?_
              refine ce_seq ?_
              refine ce_text (tab := []) (soft := 4194303) (.op 0 (.op 1 (.op 2 (.op 3 (.op 4 (.op 5 (.op 6 (.op 7 (.op 8 (.op 9 (.op 10 (.op 11 (.op 12 (.op 13 (.op 14 (.op 15 (.op 16 (.op 17 (.op 18 (.op 19 (.op 20 (.op 21 .nil)))))))))))))))))))))) rfl rfl ?_
              refine re_move rfl rfl rfl rfl rfl ?_
              refine re_move rfl rfl rfl rfl rfl ?_
              refine re_split (fun hg34_1 => ?_) (fun hg34_1 => ?_)
              ·
                refine re_move rfl rfl rfl rfl rfl ?_
                refine re_bin rfl rfl rfl rfl rfl rfl rfl ?_
                refine re_pickT rfl rfl rfl rfl rfl rfl ?_
                refine re_move rfl rfl rfl rfl rfl ?_
                refine re_split (fun hg34_5 => ?_) (fun hg34_5 => ?_)
                ·
                  refine re_move rfl rfl rfl rfl rfl ?_
                  refine re_not rfl rfl rfl rfl rfl ?_
                  refine re_move rfl rfl rfl rfl rfl ?_
                  refine re_split (fun hg34_8 => ?_) (fun hg34_8 => ?_)
                  ·
                    refine re_skip1 rfl rfl rfl ?_
                    refine re_skip1 rfl rfl rfl ?_
                    refine re_pickT rfl rfl rfl rfl rfl rfl ?_
                    refine re_pickT rfl rfl rfl rfl rfl rfl ?_
                    refine re_move rfl rfl rfl rfl rfl ?_
                    refine re_move rfl rfl rfl rfl rfl ?_
                    refine re_not rfl rfl rfl rfl rfl ?_
                    refine re_move rfl rfl rfl rfl rfl ?_
                    refine re_split (fun hg34_16 => ?_) (fun hg34_16 => ?_)
                    ·
                      refine re_skip1 rfl rfl rfl ?_
                      refine re_skip1 rfl rfl rfl ?_
                      refine re_pickT rfl rfl rfl rfl rfl rfl ?_
                      refine re_pickT rfl rfl rfl rfl rfl rfl ?_
                      refine re_assign rfl rfl rfl rfl rfl ?_
                      refine re_nil ?_
                      refine qe_thenC ?_
                      refine ce_ret ?_
                      refine qe_end rfl rfl ?_
                      exact ⟨rfl, (H.drop 9).append_right⟩
                    ·
                      refine re_move rfl rfl rfl rfl rfl ?_
                      refine re_bin rfl rfl rfl rfl rfl rfl rfl ?_
                      refine re_pickF rfl rfl rfl rfl rfl rfl ?_
                      refine re_pickT rfl rfl rfl rfl rfl rfl ?_
                      refine re_assign rfl rfl rfl rfl rfl ?_
                      refine re_nil ?_
                      refine qe_thenC ?_
                      refine ce_ret ?_
                      refine qe_end rfl rfl ?_
                      have e1 : kd0 ≠ y0.p.rnd := fun h => by rw [decide_eq_true h] at hg33_1; cases hg33_1
                      have e2 : nk0 = nk := by
                        by_cases h : nk0 = nk
                        · exact h
                        · rw [decide_eq_false h] at hg34_16; cases hg34_16
                      exact ⟨by rw [decide_eq_true (f3 e1 e2)], (H.drop 9).append_right⟩
                  ·
                    refine re_move rfl rfl rfl rfl rfl ?_
                    refine re_bin rfl rfl rfl rfl rfl rfl rfl ?_
                    refine re_pickF rfl rfl rfl rfl rfl rfl ?_
                    refine re_pickT rfl rfl rfl rfl rfl rfl ?_
                    refine re_move rfl rfl rfl rfl rfl ?_
                    refine re_split (fun hg34_13 => ?_) (fun hg34_13 => ?_)
                    ·
                      refine re_move rfl rfl rfl rfl rfl ?_
                      refine re_not rfl rfl rfl rfl rfl ?_
                      refine re_move rfl rfl rfl rfl rfl ?_
                      refine re_split (fun hg34_16 => ?_) (fun hg34_16 => ?_)
                      ·
                        refine re_skip1 rfl rfl rfl ?_
                        refine re_skip1 rfl rfl rfl ?_
                        refine re_pickT rfl rfl rfl rfl rfl rfl ?_
                        refine re_pickT rfl rfl rfl rfl rfl rfl ?_
                        refine re_assign rfl rfl rfl rfl rfl ?_
                        refine re_nil ?_
                        refine qe_thenC ?_
                        refine ce_ret ?_
                        refine qe_end rfl rfl ?_
                        exact ⟨rfl, (H.drop 9).append_right⟩
                      ·
                        refine re_move rfl rfl rfl rfl rfl ?_
                        refine re_bin rfl rfl rfl rfl rfl rfl rfl ?_
                        refine re_pickF rfl rfl rfl rfl rfl rfl ?_
                        refine re_pickT rfl rfl rfl rfl rfl rfl ?_
                        refine re_assign rfl rfl rfl rfl rfl ?_
                        refine re_nil ?_
                        refine qe_thenC ?_
                        refine ce_ret ?_
                        refine qe_end rfl rfl ?_
                        have e1 : kd0 ≠ y0.p.rnd := fun h => by rw [decide_eq_true h] at hg33_1; cases hg33_1
                        have e2 : nk0 = nk := by
                          by_cases h : nk0 = nk
                          · exact h
                          · rw [decide_eq_false h] at hg34_16; cases hg34_16
                        exact ⟨by rw [decide_eq_true (f3 e1 e2)], (H.drop 9).append_right⟩
                    ·
                      refine re_skip1 rfl rfl rfl ?_
                      refine re_skip1 rfl rfl rfl ?_
                      refine re_skip1 rfl rfl rfl ?_
                      refine re_skip1 rfl rfl rfl ?_
                      refine re_skip1 rfl rfl rfl ?_
                      refine re_skip1 rfl rfl rfl ?_
                      refine re_pickF rfl rfl rfl rfl rfl rfl ?_
                      refine re_assign rfl rfl rfl rfl rfl ?_
                      refine re_nil ?_
                      refine qe_thenC ?_
                      refine ce_ret ?_
                      refine qe_end rfl rfl ?_
                      have e1 : 0 < (bl : Int) := by
                        by_cases h : 0 < (bl : Int)
                        · exact h
                        · rw [decide_eq_false h] at hg34_8; cases hg34_8
                      exact absurd (f2 e1) (of_decide_eq_false hg34_13)
                ·
                  refine re_skip1 rfl rfl rfl ?_
                  refine re_skip1 rfl rfl rfl ?_
                  refine re_skip1 rfl rfl rfl ?_
                  refine re_skip1 rfl rfl rfl ?_
                  refine re_skip1 rfl rfl rfl ?_
                  refine re_skip1 rfl rfl rfl ?_
                  refine re_pickF rfl rfl rfl rfl rfl rfl ?_
                  refine re_move rfl rfl rfl rfl rfl ?_
                  refine re_skip1 rfl rfl rfl ?_
                  refine re_skip1 rfl rfl rfl ?_
                  refine re_skip1 rfl rfl rfl ?_
                  refine re_skip1 rfl rfl rfl ?_
                  refine re_skip1 rfl rfl rfl ?_
                  refine re_skip1 rfl rfl rfl ?_
                  refine re_pickF rfl rfl rfl rfl rfl rfl ?_
                  refine re_assign rfl rfl rfl rfl rfl ?_
                  refine re_nil ?_
                  refine qe_thenC ?_
                  refine ce_ret ?_
                  refine qe_end rfl rfl ?_
                  exact absurd f1 (of_decide_eq_false hg34_5)
              ·
                refine re_skip1 rfl rfl rfl ?_
                refine re_skip1 rfl rfl rfl ?_
                refine re_pickF rfl rfl rfl rfl rfl rfl ?_
                refine re_move rfl rfl rfl rfl rfl ?_
                refine re_skip1 rfl rfl rfl ?_
                refine re_skip1 rfl rfl rfl ?_
                refine re_skip1 rfl rfl rfl ?_
                refine re_skip1 rfl rfl rfl ?_
                refine re_skip1 rfl rfl rfl ?_
                refine re_skip1 rfl rfl rfl ?_
                refine re_pickF rfl rfl rfl rfl rfl rfl ?_
                refine re_move rfl rfl rfl rfl rfl ?_
                refine re_skip1 rfl rfl rfl ?_
                refine re_skip1 rfl rfl rfl ?_
                refine re_skip1 rfl rfl rfl ?_
                refine re_skip1 rfl rfl rfl ?_
                refine re_skip1 rfl rfl rfl ?_
                refine re_skip1 rfl rfl rfl ?_
                refine re_pickF rfl rfl rfl rfl rfl rfl ?_
                refine re_assign rfl rfl rfl rfl rfl ?_
                refine re_nil ?_
                refine qe_thenC ?_
                refine ce_ret ?_
                refine qe_end rfl rfl ?_
                cases hg34_1
            ·
              refine re_skip1 rfl rfl rfl ?_
              refine re_skip1 rfl rfl rfl ?_
              refine re_skip1 rfl rfl rfl ?_
              refine re_skip1 rfl rfl rfl ?_
              refine re_skip1 rfl rfl rfl ?_
              refine re_skip1 rfl rfl rfl ?_
              refine re_skip1 rfl rfl rfl ?_
              refine re_skip1 rfl rfl rfl ?_
              refine re_skip1 rfl rfl rfl ?_
              refine re_pickF rfl rfl rfl rfl rfl rfl ?_
              refine re_assign rfl rfl rfl rfl rfl ?_
              refine re_nil ?_
              refine qe_thenC ?_
              refine ce_seq ?_
              refine ce_text (tab := []) (soft := 4194303) (.op 0 (.op 1 (.op 2 (.op 3 (.op 4 (.op 5 (.op 6 (.op 7 (.op 8 (.op 9 (.op 10 (.op 11 (.op 12 (.op 13 (.op 14 (.op 15 (.op 16 (.op 17 (.op 18 (.op 19 (.op 20 (.op 21 .nil)))))))))))))))))))))) rfl rfl ?_
              refine re_move rfl rfl rfl rfl rfl ?_
              refine re_move rfl rfl rfl rfl rfl ?_
              refine re_split (fun hg34_1 => ?_) (fun hg34_1 => ?_)
              ·
                refine re_move rfl rfl rfl rfl rfl ?_
                refine re_bin rfl rfl rfl rfl rfl rfl rfl ?_
                refine re_pickT rfl rfl rfl rfl rfl rfl ?_
                refine re_move rfl rfl rfl rfl rfl ?_
                refine re_split (fun hg34_5 => ?_) (fun hg34_5 => ?_)
                ·
                  refine re_move rfl rfl rfl rfl rfl ?_
                  refine re_not rfl rfl rfl rfl rfl ?_
                  refine re_move rfl rfl rfl rfl rfl ?_
                  refine re_split (fun hg34_8 => ?_) (fun hg34_8 => ?_)
                  ·
                    refine re_skip1 rfl rfl rfl ?_
                    refine re_skip1 rfl rfl rfl ?_
                    refine re_pickT rfl rfl rfl rfl rfl rfl ?_
                    refine re_pickT rfl rfl rfl rfl rfl rfl ?_
                    refine re_move rfl rfl rfl rfl rfl ?_
                    refine re_move rfl rfl rfl rfl rfl ?_
                    refine re_not rfl rfl rfl rfl rfl ?_
                    refine re_move rfl rfl rfl rfl rfl ?_
                    refine re_split (fun hg34_16 => ?_) (fun hg34_16 => ?_)
                    ·
                      refine re_skip1 rfl rfl rfl ?_
                      refine re_skip1 rfl rfl rfl ?_
                      refine re_pickT rfl rfl rfl rfl rfl rfl ?_
                      refine re_pickT rfl rfl rfl rfl rfl rfl ?_
                      refine re_assign rfl rfl rfl rfl rfl ?_
                      refine re_nil ?_
                      refine qe_thenC ?_
                      refine ce_ret ?_
                      refine qe_end rfl rfl ?_
                      exact ⟨rfl, (H.drop 9).append_right⟩
                    ·
                      refine re_move rfl rfl rfl rfl rfl ?_
                      refine re_bin rfl rfl rfl rfl rfl rfl rfl ?_
                      refine re_pickF rfl rfl rfl rfl rfl rfl ?_
                      refine re_pickT rfl rfl rfl rfl rfl rfl ?_
                      refine re_assign rfl rfl rfl rfl rfl ?_
                      refine re_nil ?_
                      refine qe_thenC ?_
                      refine ce_ret ?_
                      refine qe_end rfl rfl ?_
                      cases hg34_16
                  ·
                    refine re_move rfl rfl rfl rfl rfl ?_
                    refine re_bin rfl rfl rfl rfl rfl rfl rfl ?_
                    refine re_pickF rfl rfl rfl rfl rfl rfl ?_
                    refine re_pickT rfl rfl rfl rfl rfl rfl ?_
                    refine re_move rfl rfl rfl rfl rfl ?_
                    refine re_split (fun hg34_13 => ?_) (fun hg34_13 => ?_)
                    ·
                      refine re_move rfl rfl rfl rfl rfl ?_
                      refine re_not rfl rfl rfl rfl rfl ?_
                      refine re_move rfl rfl rfl rfl rfl ?_
                      refine re_split (fun hg34_16 => ?_) (fun hg34_16 => ?_)
                      ·
                        refine re_skip1 rfl rfl rfl ?_
                        refine re_skip1 rfl rfl rfl ?_
                        refine re_pickT rfl rfl rfl rfl rfl rfl ?_
                        refine re_pickT rfl rfl rfl rfl rfl rfl ?_
                        refine re_assign rfl rfl rfl rfl rfl ?_
                        refine re_nil ?_
                        refine qe_thenC ?_
                        refine ce_ret ?_
                        refine qe_end rfl rfl ?_
                        exact ⟨rfl, (H.drop 9).append_right⟩
                      ·
                        refine re_move rfl rfl rfl rfl rfl ?_
                        refine re_bin rfl rfl rfl rfl rfl rfl rfl ?_
                        refine re_pickF rfl rfl rfl rfl rfl rfl ?_
                        refine re_pickT rfl rfl rfl rfl rfl rfl ?_
                        refine re_assign rfl rfl rfl rfl rfl ?_
                        refine re_nil ?_
                        refine qe_thenC ?_
                        refine ce_ret ?_
                        refine qe_end rfl rfl ?_
                        cases hg34_16
                    ·
                      refine re_skip1 rfl rfl rfl ?_
                      refine re_skip1 rfl rfl rfl ?_
                      refine re_skip1 rfl rfl rfl ?_
                      refine re_skip1 rfl rfl rfl ?_
                      refine re_skip1 rfl rfl rfl ?_
                      refine re_skip1 rfl rfl rfl ?_
                      refine re_pickF rfl rfl rfl rfl rfl rfl ?_
                      refine re_assign rfl rfl rfl rfl rfl ?_
                      refine re_nil ?_
                      refine qe_thenC ?_
                      refine ce_ret ?_
                      refine qe_end rfl rfl ?_
                      have e1 : 0 < (bl : Int) := by
                        by_cases h : 0 < (bl : Int)
                        · exact h
                        · rw [decide_eq_false h] at hg34_8; cases hg34_8
                      exact absurd (f2 e1) (of_decide_eq_false hg34_13)
                ·
                  refine re_skip1 rfl rfl rfl ?_
                  refine re_skip1 rfl rfl rfl ?_
                  refine re_skip1 rfl rfl rfl ?_
                  refine re_skip1 rfl rfl rfl ?_
                  refine re_skip1 rfl rfl rfl ?_
                  refine re_skip1 rfl rfl rfl ?_
                  refine re_pickF rfl rfl rfl rfl rfl rfl ?_
                  refine re_move rfl rfl rfl rfl rfl ?_
                  refine re_skip1 rfl rfl rfl ?_
                  refine re_skip1 rfl rfl rfl ?_
                  refine re_skip1 rfl rfl rfl ?_
                  refine re_skip1 rfl rfl rfl ?_
                  refine re_skip1 rfl rfl rfl ?_
                  refine re_skip1 rfl rfl rfl ?_
                  refine re_pickF rfl rfl rfl rfl rfl rfl ?_
                  refine re_assign rfl rfl rfl rfl rfl ?_
                  refine re_nil ?_
                  refine qe_thenC ?_
                  refine ce_ret ?_
                  refine qe_end rfl rfl ?_
                  exact absurd f1 (of_decide_eq_false hg34_5)
              ·
                refine re_skip1 rfl rfl rfl ?_
                refine re_skip1 rfl rfl rfl ?_
                refine re_pickF rfl rfl rfl rfl rfl rfl ?_
                refine re_move rfl rfl rfl rfl rfl ?_
                refine re_skip1 rfl rfl rfl ?_
                refine re_skip1 rfl rfl rfl ?_
                refine re_skip1 rfl rfl rfl ?_
                refine re_skip1 rfl rfl rfl ?_
                refine re_skip1 rfl rfl rfl ?_
                refine re_skip1 rfl rfl rfl ?_
                refine re_pickF rfl rfl rfl rfl rfl rfl ?_
                refine re_move rfl rfl rfl rfl rfl ?_
                refine re_skip1 rfl rfl rfl ?_
                refine re_skip1 rfl rfl rfl ?_
                refine re_skip1 rfl rfl rfl ?_
                refine re_skip1 rfl rfl rfl ?_
                refine re_skip1 rfl rfl rfl ?_
                refine re_skip1 rfl rfl rfl ?_
                refine re_pickF rfl rfl rfl rfl rfl rfl ?_
                refine re_assign rfl rfl rfl rfl rfl ?_
                refine re_nil ?_
                refine qe_thenC ?_
                refine ce_ret ?_
                refine qe_end rfl rfl ?_
                cases hg34_1
          · try simp only [zn1, zn2, zn3, zn4, zn5, zn6] at h7
            refine ce_skip ?_
            refine qe_thenC ?_
            refine ce_seq ?_
            refine ce_text (tab := []) (soft := 7) (.op 0 (.op 1 (.op 2 (.op 3 .nil)))) rfl rfl ?_
            refine re_move rfl rfl rfl rfl rfl ?_
            refine re_move rfl rfl rfl rfl rfl ?_
            refine re_move rfl rfl rfl rfl rfl ?_
            refine re_call en_17 rfl rfl rfl rfl rfl ?_
            replace H := H.tail
            have hnd : ¬ y.done := fun h => by rw [(dec_done y).2 h] at h7; cases h7
            obtain ⟨y', T'⟩ := T.next g hmj (by omega) (by omega) hb4 (by omega) hnd
            refine Calls.mono (exchange_p H hx' hp' h4p hd3 g (T.es hnd) (by omega) (by have := T.le; omega) (by have := T.le; omega) (by omega)) ?_
            rintro e w ⟨wa, wc, d1, d2, d3, d4, l', hd3, hp', hx', rfl, H⟩
            refine ⟨_, rfl, (fun h => (nomatch h)), ?_⟩
            refine re_nil ?_
            refine qe_thenC ?_
            refine ce_text (tab := []) (soft := 7) (.op 0 (.op 1 (.op 2 .nil))) rfl rfl ?_
            refine re_move rfl rfl rfl rfl rfl ?_
            first | refine re_add rfl rfl rfl rfl rfl rfl (by omega) ?_ | refine re_bin rfl rfl rfl rfl rfl rfl rfl ?_
            refine re_assign rfl rfl rfl rfl rfl ?_
            refine re_nil ?_
            refine qe_block_norm ?_
            refine qe_round (x := (n, wa, wc, d1, d2, d3, d4, l', sk, y)) (n + 1, wa, wc, d1, d2, d3, d4, l', sk.exchange j dn, y') ?_ ?_ ?_
            · first | (dsimp only; omega) | omega
            · exact (And.intro rfl (And.intro rfl (And.intro rfl (And.intro rfl (And.intro rfl (And.intro rfl (And.intro rfl (And.intro rfl (And.intro rfl (And.intro rfl (And.intro rfl (And.intro rfl trivial))))))))))))
            · exact ⟨H, hd3, hp', hx', T'⟩
        · try simp only [zn1, zn2, zn3, zn4, zn5, zn6] at h6
          exfalso; have := T.le; omega
end Go.Proofs.Ytofaoblfemfkiaa
