/- Whatever the numbers and the picks (of bulk at most 1048576), 'ProposerEnds' returns true and leaves its arguments as they were. -/
import Derived.Test.YtofaoblfemfkiaaRows
import Derived.WalkKit
import Derived.ProofKit
import Derived.OpenShut
import Derived.JoinedCond
import Derived.Test.YtofaoblfemfkiaaBe6
namespace Go.Proofs.Ytofaoblfemfkiaa.proposerEnds
open Go.ChangeShapes Go.WideShapes Go.ChangeAt Go.RowKit
set_option linter.unusedVariables false

theorem own : ownKnob Try.prog.godebug = none := by kernel_rfl

theorem walk {sa : Option Addr} {n sc : Nat} (a0 : Int) (xs : List Int) (a2 : Int) (a3 : Int) (w : World) (hl : xs.length = n) (hn : n ≤ 1048576)
    (hS : Fw.Sees w [] sa n 1 (xs.map (Value.int .i64))) :
    Calls Try.prog 4 #[.int .i64 a0, .slice sa n sc, .int .i64 a2, .int .i64 a3] w fun e w' => e = .returned (.bool true) ∧ Below w.heap.size w w' := by
  subst hl
  exact (ends_s (xs := xs) hS (Fw.Own.refl w) hn).mono fun e w' h => ⟨h.1, h.2.below_⟩

theorem block_lt {w : World} {a : Addr} {v : Value} (h : w.cell? a = some v) : a.block < w.heap.size := by
  by_cases hb : a.block < w.heap.size
  · exact hb
  · have : w.heap[a.block]? = none := Array.getElem?_eq_none_iff.2 (by omega)
    simp [World.cell?, this] at h

theorem one_le {H : Type} (d : DataW H) : 1 ≤ Rows.uptoBulk d := by
  cases d with
  | lit l => cases l <;> simp [Rows.uptoBulk]
  | nil => simp [Rows.uptoBulk]
  | ptr d => simp [Rows.uptoBulk]
  | slice elems spare => simp [Rows.uptoBulk]
  | agg parts => simp [Rows.uptoBulk]
  | iface t d => simp [Rows.uptoBulk]
  | map entries => simp [Rows.uptoBulk]
  | held h => simp [Rows.uptoBulk]
theorem length_le {H : Type} (l : List (DataW H)) : l.length ≤ Rows.uptoBulkAll l := by
  induction l with
  | nil => simp [Rows.uptoBulkAll]
  | cons x r ih => have := one_le x; simp only [Rows.uptoBulkAll, List.length_cons]; omega

set_option maxRecDepth 100000 in
theorem lifted (os : Os) (started : os.Started) (H : Type) (enc : TypeId × Value → H) (F : Stop.Interp) :
    ReturnsInHanded {} Try.checked os 4 .any ((Rows.OpenSpec.upto Rows.proposerEndsSpec).pre6 enc Try.prog Try.f4 Rows.proposerEndsUptoRow.domain false) (((Rows.OpenSpec.upto Rows.proposerEndsSpec).at F).post enc Try.prog Try.f4 false true false false) := by
  refine returnsInHanded_of_cond (C := Try.checked) (s := Rows.OpenSpec.upto Rows.proposerEndsSpec) (k := Rows.uptoSmall) rfl own started (by kernel_rfl) Try.func4
    (OpenSpec.witness (enc := enc) (C := Try.checked) (s := Rows.OpenSpec.upto Rows.proposerEndsSpec) (k := Rows.uptoSmall) rfl false ⟨#[], #[.int .i64 0, .slice none 0 0, .int .i64 0, .int .i64 0], []⟩ 8 (by kernel_rfl) (by kernel_rfl) (by kernel_rfl)
      (x := ([.lit (.int .i64 0), .nil, .lit (.int .i64 0), .lit (.int .i64 0)], [], [])) (by kernel_rfl) rfl (by kernel_rfl)) ?_
  intro W base args ds gs before hval0 hW _ hk _
  have hval : ∀ (j : Nat) t v, Try.f4.params[j]? = some t → args[j]? = some v → Value.okWide Try.prog W .any base t v := hval0
  have hW' := hW
  obtain ⟨p, q, hA0, hV, rfl, hfz, hnd⟩ := hW
  have hA : DataW.TrodAll enc Try.prog W 0 (fun _ => true) true Try.f4.params.toList args.toList ds p := hA0
  rw [Try.params4] at hA hval
  obtain ⟨v0, vs0, d0, ds0, p0, q0, hargs, rfl, rfl, h0, r0⟩ := trodAll_cons hA
  obtain ⟨v1, vs1, d1, ds1, p1, q1, rfl, rfl, rfl, h1, r1⟩ := trodAll_cons r0
  obtain ⟨v2, vs2, d2, ds2, p2, q2, rfl, rfl, rfl, h2, r2⟩ := trodAll_cons r1
  obtain ⟨v3, vs3, d3, ds3, p3, q3, rfl, rfl, rfl, h3, r3⟩ := trodAll_cons r2
  obtain ⟨rfl, rfl, rfl⟩ := trodAll_nil r3
  obtain rfl : args = #[v0, v1, v2, v3] := by cases args; simp_all
  obtain ⟨rfl, rfl⟩ := trodVars_none hV
  obtain ⟨a0, rfl, rfl, rfl, w0⟩ := open_int Try.underlying3 (hval 0 3 v0 rfl rfl) h0
  obtain ⟨a2, rfl, rfl, rfl, w2⟩ := open_int Try.underlying3 (hval 2 3 v2 rfl rfl) h2
  obtain ⟨a3, rfl, rfl, rfl, w3⟩ := open_int Try.underlying3 (hval 3 3 v3 rfl rfl) h3
  obtain ⟨sa, n, sc, rfl⟩ := okWide_slice Try.underlying31 (hval 1 31 v1 rfl rfl)
  obtain ⟨fuel, hf⟩ := h1
  have hc1 : Try.prog.cellsOf 3 = 1 := by kernel_rfl
  clear hA0 hval0
  rcases open_ints Try.underlying31 Try.underlying3 hc1 hf with ⟨hcs, hx⟩ | ⟨a, len, cap, zs, hcs, _, hle, hmax, hall, hx, hcell, hwf⟩
  · simp [Value.cells] at hcs
    obtain ⟨rfl, rfl, rfl⟩ := hcs
    simp only [Prod.mk.injEq] at hx
    obtain ⟨rfl, rfl⟩ := hx
    simp only [List.append_nil] at hW'
    refine (walk (sa := none) (n := 0) (sc := 0) a0 [] a2 a3 W rfl (by omega) (Fw.Sees.nil W [] 1 none)).mono fun e W' ⟨he, hg⟩ => ?_
    subst he
    exact ⟨_, rfl, Fw.post_below (s := Rows.proposerEndsSpec) (pa := []) (pv := []) hW' (fun _ _ _ => (trodAll_cons_mk (shut_bool Try.underlying4 _) trodAll_mk0)) (fun sp _ => (trodAll_cons_mk (shut_int Try.underlying3 w0) (trodAll_cons_mk (shut_slice_nil Try.underlying31) (trodAll_cons_mk (shut_int Try.underlying3 w2) (trodAll_cons_mk (shut_int Try.underlying3 w3) trodAll_mk0))))) (fun _ _ => rfl) rfl
      hg (ok_one (by kernel_rfl) rfl (okWide_bool_mk Try.underlying4 _))⟩
  · simp [Value.cells] at hcs
    obtain ⟨rfl, rfl, rfl⟩ := hcs
    simp only [Prod.mk.injEq] at hx
    obtain ⟨rfl, rfl⟩ := hx
    simp only [if_true] at hall
    have hb : ∀ i, i < zs.length → a.block < W.heap.size := fun i hi => by
      have := block_lt (hcell i hi)
      rwa [block_add] at this
    have hlt : (zs.take n).length = n := by rw [List.length_take]; omega
    have hn : n ≤ 1048576 := by
      have h := of_decide_eq_true hk
      simp only [List.append_nil, Rows.uptoBulkAll, Rows.uptoBulk] at h
      have h2 := length_le (H := H) (lits .i64 (zs.take n))
      have h3 : (lits (H := H) .i64 (zs.take n)).length = n := by rw [lits, List.length_map, hlt]
      omega
    have hS : Fw.Sees W [] (some a) n 1 ((zs.take n).map (Value.int .i64)) := Fw.Sees.of_old (by rw [List.length_map, hlt, Nat.mul_one]) fun hp => ⟨a, rfl, hb 0 (by omega), fun j u hu => by
      have hj : j < n := by
        have := (List.getElem?_eq_some_iff.1 hu).1
        rw [List.length_map, hlt] at this
        exact this
      rw [hcell j (by omega), ← hu, List.getElem?_map, List.getElem?_take, if_pos hj]
      have hjz : j < zs.length := by omega
      simp [List.getD, hjz]⟩
    refine (walk (sc := sc) a0 (zs.take n) a2 a3 W hlt hn hS).mono fun e W' ⟨he, hg⟩ => ?_
    subst he
    refine ⟨_, rfl, Fw.post_below (s := Rows.proposerEndsSpec) (pa := _) (pv := []) hW' (fun _ _ _ => (trodAll_cons_mk (shut_bool Try.underlying4 _) trodAll_mk0)) (fun sp hsp => (trodAll_cons_mk (shut_int Try.underlying3 w0) (trodAll_cons_mk ⟨2, ?_⟩ (trodAll_cons_mk (shut_int Try.underlying3 w2) (trodAll_cons_mk (shut_int Try.underlying3 w3) trodAll_mk0))))) (fun _ _ => rfl) rfl
      hg (ok_one (by kernel_rfl) rfl (okWide_bool_mk Try.underlying4 _))⟩
    have hsa : 0 < zs.length → sp a.block = true := fun hp => by
      refine hsp (.cell a.block (a.off + 0)) ?_
      simp only [List.nil_append, List.append_nil, MemPlace.row]
      exact List.mem_map.2 ⟨0, List.mem_range.2 hp, rfl⟩
    refine shut_ints 0 Try.underlying31 Try.underlying3 hc1 (Nat.zero_le _) hle hmax ?_ (fun i hi => ?_) hwf
    · by_cases hz : 0 < zs.length
      · rw [if_pos (hsa hz)]; exact hall
      · split <;> omega
    · rw [World.cell?_of_block (hg.block _ (by rw [block_add]; exact hb i hi))]
      exact hcell i hi

theorem over : Rows.proposerEndsUptoRow.holds Try.pinned (Rows.OpenSpec.upto Rows.proposerEndsSpec) :=
  OpenClaim.holds_of_cond 4 Try.f4 rfl rfl rfl rfl rfl rfl rfl ⟨rfl, rfl, rfl, rfl, rfl⟩ rfl rfl rfl rfl rfl (by kernel_rfl) Try.func4 (by kernel_rfl)
    (of_decide_eq_true (by kernel_rfl)) (by unfold Func.isWrapper; first | (rw [if_pos (by decide +kernel)]; kernel_rfl) | (rw [if_neg (by decide +kernel)]; exact ⟨rfl, rfl⟩))
    (fun os started H enc _ F => lifted os started H enc F)

theorem proved : Rows.ProposerEndsUptoSaid :=
  over
#print axioms proved
end Go.Proofs.Ytofaoblfemfkiaa.proposerEnds
