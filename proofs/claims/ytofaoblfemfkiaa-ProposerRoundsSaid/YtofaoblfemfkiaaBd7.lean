/- Parts of the proof: FwT ZY ZZ YA FwU. -/
import Derived.OpenShut
import Derived.Test.YtofaoblfemfkiaaBd6
set_option linter.unusedVariables false
set_option linter.unusedSimpArgs false
/- '[]T{v0, v1, ..}', any number of elements. No program in sight. -/
namespace Go.Fw
open Go Go.RowKit
section
variable {P : Program} {ops : Array Oper} {tab : List Nat} {soft : Nat} {d : Bool} {Q : Exit → Act → World → Prop} {n : Nat} {ds : List Deferred}
variable {rest : OT} {pend : List Pend} {ρ : Env} {w : World} {i : Nat} {t : Tmp} {ty : TypeId} {pos : String} {aft : Array Edge} {g : Option (Nat × Bool)}
def rowPlaces (m size : Nat) : List (Nat × Nat) := (List.range m).map fun i => (i * size, size)
theorem rep_get {zs : List Value} (hz : 0 < zs.length) : ∀ (m j : Nat) (h : j < m * zs.length), (List.replicate m zs).flatten[j]? = zs[j % zs.length]?
  | 0, j, h => by simp at h
  | m + 1, j, h => by
    rw [List.replicate_succ, List.flatten_cons, List.getElem?_append]
    by_cases hj : j < zs.length
    · rw [if_pos hj, Nat.mod_eq_of_lt hj]
    · rw [if_neg hj, rep_get hz m (j - zs.length) (by rw [Nat.succ_mul] at h; omega)]
      congr 1
      exact (Nat.mod_eq_sub_mod (by omega)).symm
theorem rep_len (zs : List Value) : ∀ m, (List.replicate m zs).flatten.length = m * zs.length
  | 0 => by simp
  | m + 1 => by rw [List.replicate_succ, List.flatten_cons, List.length_append, rep_len zs m, Nat.succ_mul]; omega
theorem fillL_len {pl : List (Nat × Nat)} : ∀ (pv : List (Nat × Value)) (cs out : List Value), fillL pl cs pv = some out → out.length = cs.length
  | [], cs, out, h => by simp [fillL] at h; rw [h]
  | (i, v) :: r, cs, out, h => by
    simp only [fillL] at h
    cases hp : pl[i]? with
    | none => rw [hp] at h; simp at h
    | some x =>
      rw [hp] at h
      simp only at h
      split at h
      · rw [fillL_len r _ _ h, setMany_length]
      · cases h
/-- '[]T{v0, v1, ..}' -/
theorem re_sliceN {B : World} {L : List Ent} (H : Own B L w) {st e : TypeId} {size bytes m : Nat} {parts : List (Nat × Operand)} {pv : List (Nat × Value)} {cs zs : List Value}
    (ho : ops[i]? = some ⟨some t, .buildSlice st m parts.toArray, ty, pos, aft, g⟩) (hw : wantE ops ρ ⟨some t, .buildSlice st m parts.toArray, ty, pos, aft, g⟩ = some true) (hs : isSoft soft i = false) (hd : Nat.blt t n = true) (hx : evParts ρ parts = some pv)
    (hu : P.underlying st = some (.slice e)) (he : elemInfo P st = some (e, size, bytes)) (hz : zeroC P e = some zs) (hzl : zs.length = size) (hpos : Nat.blt 0 size = true) (hm : Nat.blt 0 m = true) (hsz : Nat.ble (m * size) 16777216 = true) (hf : fillL (rowPlaces m size) (List.replicate m zs).flatten pv = some cs)
    (k : ∀ b w', Own B (.row (some b) m e size m cs :: L) w' → (d = true → Still P tab i w' pend) ∧ RE P ops tab soft d Q n ds rest pend ((t, slv (some b) m m) :: ρ) w') : RE P ops tab soft d Q n ds (.op i rest) pend ρ w := by
  have hpos : 0 < size := by simpa using hpos
  have hm : 0 < m := by simpa using hm
  obtain ⟨inf, hinf, hsize⟩ : ∃ inf, P.info? e = some inf ∧ inf.size = size := by
    simp only [elemInfo, hu, Option.map_eq_some_iff, Prod.mk.injEq] at he
    obtain ⟨i, h1, _, h2, _⟩ := he
    exact ⟨i, h1, h2⟩
  obtain ⟨z, hz1, hz2⟩ : ∃ z, inf.zero = some z ∧ z.cells = zs.toArray := by
    simp only [zeroC, hinf, Option.bind_some, Option.map_eq_some_iff] at hz
    obtain ⟨z, h1, h2⟩ := hz
    exact ⟨z, h1, by rw [← h2]⟩
  have hle := Nat.le_of_ble_eq_true hsz
  have hcl : cs.length = m * size := by rw [fillL_len pv _ _ hf, rep_len, hzl]
  refine re_effv (s := Instr.buildSlice st m pv.toArray) (w' := { w with heap := w.heap.push (.cells cs.toArray e) }) ho hw hs hd (fun a ha => by
    have := evParts_spec ha parts pv hx
    simp only [execOp]
    have h2 : (parts.toArray.map fun (x : Nat × Operand) => (x.1, a.eval x.2)) = pv.toArray := by simp [this]
    rw [h2]; rfl) ?_ (k w.heap.size _ ((H.alloc e cs).as_row hcl (Nat.le_refl _) (by have : m ≤ m * size := Nat.le_mul_of_pos_right m hpos; simp only [maxLen]; omega) (List.take_of_length_le (by omega))))
  have hzero : ((Array.range (m * size)).map (zs.toArray[· % zs.toArray.size]!)) = (List.replicate m zs).flatten.toArray := by
    apply Array.ext
    · simp only [Array.size_map, Array.size_range, List.size_toArray, rep_len, hzl]
    · intro j h1 h2
      have hj : j < m * zs.length := by simpa [rep_len] using h2
      have h3 := rep_get (by omega) m j hj
      have hmod : j % zs.length < zs.length := Nat.mod_lt _ (by omega)
      rw [List.getElem?_eq_getElem hmod, List.getElem?_eq_getElem (by rw [rep_len]; exact hj)] at h3
      have h4 := Option.some.inj h3
      simp only [Array.getElem_map, Array.getElem_range, List.getElem_toArray, List.size_toArray]
      rw [h4]
      simp [hmod]
  have hfill : Instr.fill (fun i => some (i * size, size)) (List.replicate m zs).flatten.toArray pv = some cs.toArray :=
    fill_eq _ (rowPlaces m size) (fun i x h => by
      simp only [rowPlaces, List.getElem?_map, Option.map_eq_some_iff] at h
      obtain ⟨a, h1, h2⟩ := h
      obtain ⟨h3, h4⟩ := List.getElem?_eq_some_iff.1 h1
      simp only [List.getElem_range] at h4
      subst h4
      rw [← h2]) pv _ cs hf
  have hne : ¬ (m * size = 0) := by have := Nat.mul_pos hm hpos; omega
  simp only [Instr.buildSlice, Sem.run_bind, run_underlying hu, Result.andThen_ok, sizeOf, typeInfo, run_program, hinf, Sem.run_pure, hsize]
  rw [if_neg (by omega), if_neg hne]
  simp only [Sem.run_bind, Sem.run_pure, Result.andThen_ok, zeroValue, typeInfo, run_program, hinf, hz1, hz2, hzero, hfill, newRow, newObj, Sem.run]
  rfl
/-- A value of a row, read at its place. -/
theorem run_loadAt_row {B : World} {L : List Ent} (H : Own B L w) {τ : TypeId} {agg : Bool} {k : Nat} (hs : shapeOf P τ = some (agg, k)) {b c : Nat} {e : TypeId} {size m : Nat} {xs : List Value} [hm : InRow (some b) L c e size m xs] {off : Nat} {v : Value}
    (hv : rdAt agg k xs off = some v) : (Instr.loadAt τ (.pointer (some ⟨b, off, none⟩))).run P w = .ok v w := by
  cases agg with
  | false => exact run_loadAt_one hs (H.row_cell hm.mem hv)
  | true =>
    simp only [rdAt] at hv
    split at hv
    · rename_i hle
      injection hv with hv
      subst hv
      have hl : ((xs.drop off).take k).length = k := by simp; omega
      refine run_loadAt_agg (by rw [hl]; exact hs) fun j u hu => ?_
      rw [add_lit]
      refine H.row_cell hm.mem ?_
      rw [List.getElem?_take] at hu
      split at hu
      · rw [List.getElem?_drop] at hu; exact hu
      · cases hu
    · cases hv
end
end Go.Fw

namespace Go.Proofs.Ytofaoblfemfkiaa
open Go Go.RowKit Go.Fw
set_option linter.unusedSimpArgs false
set_option linter.unusedVariables false
set_option maxRecDepth 4000
set_option maxHeartbeats 2000000


theorem k_take1 {B w : World} {F : List Ent} {g : Nat} {p : PS} {m : GM} {ht hm hc : Nat} {ha : Option Nat} {qt qm qc : Nat} {qa : Option Nat} (H : Own B (.cells g 80 p.cells :: .row p.ga p.gc 3 1 p.gs.length (ints p.gs) :: .cells ht 109 [slv ha p.gs.length hc, .int .i64 ((p.gs.length : Int) + 1), .map (some hm)] :: .row ha hc 3 1 p.gs.length (ints p.gs) :: .imap hm (heardK []) :: .cells qt 145 [slv qa p.gs.length qc, .int .i64 ((p.gs.length : Int) / 2 + 1), .map (some qm)] :: .row qa qc 3 1 p.gs.length (ints p.gs) :: .imap qm (kvM []) :: F) w) (hn : p.gs.length ≤ 1000) (hi : p.ph = phP qt) (hkd : m.kind = 13) (hw : p.wants m = true) (hst : p.own m = true) (hh : p.hd = .pointer (some ⟨ht, 0, none⟩))
    (hf : p.fresh [] m.fi = true) (hk2 : p.takes [] m.fi m = true) (hu : unlike p.gs = p.gs) (hlo : -1 ≤ p.rnd ∧ p.rnd < 1099511627776) (hz : m.h0 = 0 ∧ m.h1 = 0) :
    Calls Try.prog 18 #[.pointer (some ⟨g, 0, none⟩), .agg m.cells.toArray] w fun e w' => ∃ ht ha hc hm qt qa qc qm a c, e = .returned (slv a (p.next.outA p.mine p.gs).length c) ∧ Own B (.row a c 46 30 (p.next.outA p.mine p.gs).length (msgs (p.next.outA p.mine p.gs)) :: .cells g 80 (p.next.enter (phA qt p.mine) ht).cells :: .row p.ga p.gc 3 1 p.gs.length (ints p.gs) :: .cells ht 109 [slv ha p.gs.length hc, .int .i64 ((p.gs.length : Int) + 1), .map (some hm)] :: .row ha hc 3 1 p.gs.length (ints p.gs) :: .imap hm (heardK []) :: .cells qt 145 [slv qa p.gs.length qc, .int .i64 ((p.gs.length : Int) / 2 + 1), .map (some qm)] :: .row qa qc 3 1 p.gs.length (ints p.gs) :: .imap qm (kvM []) :: F) w' := by
  have hz : ∀ x ∈ p.took [] m.fi m, x.2.h0 = 0 ∧ x.2.h1 = 0 := by
    intro x hx
    unfold PS.took at hx
    split at hx
    · have : x = (m.fi, m) := by simpa using hx
      rw [this]; exact hz
    · cases hx
  have hch := chosen_mine (p := p) hz
  refine Calls.mono (take_countP (K := fun v w' => ∃ ht ha hc hm qt qa qc qm a c, v = slv a (p.next.outA p.mine p.gs).length c ∧ Own B (.row a c 46 30 (p.next.outA p.mine p.gs).length (msgs (p.next.outA p.mine p.gs)) :: .cells g 80 (p.next.enter (phA qt p.mine) ht).cells :: .row p.ga p.gc 3 1 p.gs.length (ints p.gs) :: .cells ht 109 [slv ha p.gs.length hc, .int .i64 ((p.gs.length : Int) + 1), .map (some hm)] :: .row ha hc 3 1 p.gs.length (ints p.gs) :: .imap hm (heardK []) :: .cells qt 145 [slv qa p.gs.length qc, .int .i64 ((p.gs.length : Int) / 2 + 1), .map (some qm)] :: .row qa qc 3 1 p.gs.length (ints p.gs) :: .imap qm (kvM []) :: F) w') H (by omega) hi (by omega) hw (fun b w H => ?_)) ?_
  · replace H := H
    have H := Own.arr [2, 8, 8, 8, 8, 8, 8, 8, 8] H
    simp only [arrs, Fw.front, zm1, zm2, zm3, zm4, zm5] at H
    have hcc := count_accept H (by omega) hi hkd hst hh (by simp) hf hk2 hu hlo.2 hlo.1
    rw [hch] at hcc
    exact Calls.mono hcc fun e w h => by
      obtain ⟨ht, ha, hc, hm, qt, qa, qc, qm, a, c, rfl, H⟩ := h
      have H := Own.arr [8, 8, 8, 8, 8, 8, 8, 8, 8] H
      simp only [arrs, Fw.front, zm1, zm2, zm3, zm4, zm5] at H
      replace H := H.sub (.cons_cons _ (.cons_cons _ (.cons_cons _ (.cons_cons _ (.cons_cons _ (.cons_cons _ (.cons_cons _ (.cons_cons _ (.cons_cons _ (.cons _ (List.Sublist.refl _)))))))))))
      exact ⟨_, rfl, ht, ha, hc, hm, qt, qa, qc, qm, a, c, rfl, H⟩
  rintro e w ⟨v, rfl, ht, ha, hc, hm, qt, qa, qc, qm, a, c, rfl, H⟩
  exact ⟨ht, ha, hc, hm, qt, qa, qc, qm, a, c, rfl, H⟩

theorem k_take2 {B w : World} {F : List Ent} {g : Nat} {p : PS} {m : GM} {cm : Cmd} {ht hm hc : Nat} {ha : Option Nat} {qt qm qc : Nat} {qa : Option Nat} (H : Own B (.cells g 80 p.cells :: .row p.ga p.gc 3 1 p.gs.length (ints p.gs) :: .cells ht 109 [slv ha p.gs.length hc, .int .i64 ((p.gs.length : Int) + 1), .map (some hm)] :: .row ha hc 3 1 p.gs.length (ints p.gs) :: .imap hm (heardK []) :: .cells qt 145 [slv qa p.gs.length qc, .int .i64 ((p.gs.length : Int) / 2 + 1), .map (some qm)] :: .row qa qc 3 1 p.gs.length (ints p.gs) :: .imap qm (kvM []) :: F) w) (hn : p.gs.length ≤ 1000) (hi : p.ph = phA qt cm) (hkd : m.kind = 15) (hw : p.wants m = true) (hst : p.own m = true) (hh : p.hd = .pointer (some ⟨ht, 0, none⟩))
    (hf : p.fresh [] m.fi = true) (hk2 : p.takes [] m.fi m = true) :
    Calls Try.prog 18 #[.pointer (some ⟨g, 0, none⟩), .agg m.cells.toArray] w fun e w' => ∃ d a c, e = .returned (slv a (p.outL cm p.gs).length c) ∧ Own B (.row a c 46 30 (p.outL cm p.gs).length (msgs (p.outL cm p.gs)) :: .cells g 80 { p.over with dc := .pointer (some ⟨d, 0, none⟩) }.cells :: .row p.ga p.gc 3 1 p.gs.length (ints p.gs) :: .cells d 28 cm.cells :: F) w' := by
  refine Calls.mono (take_countA (K := fun v w' => ∃ d a c, v = slv a (p.outL cm p.gs).length c ∧ Own B (.row a c 46 30 (p.outL cm p.gs).length (msgs (p.outL cm p.gs)) :: .cells g 80 { p.over with dc := .pointer (some ⟨d, 0, none⟩) }.cells :: .row p.ga p.gc 3 1 p.gs.length (ints p.gs) :: .cells d 28 cm.cells :: F) w') H (by omega) hi (by omega) hw (fun b w H => ?_)) ?_
  · replace H := H
    have H := Own.arr [2, 8, 8, 8, 8, 8, 8, 8, 8] H
    simp only [arrs, Fw.front, zm1, zm2, zm3, zm4, zm5] at H
    exact Calls.mono (count_decide H (by omega) hi hkd hst hh (by simp) hf hk2) fun e w h => by
      obtain ⟨d, a, c, rfl, H⟩ := h
      have H := Own.arr [3, 3, 3, 3] H
      simp only [arrs, Fw.front, zm1, zm2, zm3, zm4, zm5] at H
      replace H := H.sub (.cons_cons _ (.cons_cons _ (.cons_cons _ (.cons_cons _ (.cons _ (List.Sublist.refl _))))))
      exact ⟨_, rfl, d, a, c, rfl, H⟩
  rintro e w ⟨v, rfl, d, a, c, rfl, H⟩
  exact ⟨d, a, c, rfl, H⟩

/-- The one proposer of 'known'. -/
def kCmd : Cmd := ⟨4, 7, 4, ByteArray.empty, 0, 0, 0, 0, 0⟩
def kP (a : Option Nat) (c : Nat) : PS := PS.new 7 4 3 2 5 0 kCmd 2 10 a c [3]
def kM1 : GM := { GM.zero with kind := 13, fi := 3, tc := true, ti := 7, op := 4, rnd := 10, k0 := 3, k1 := 2, k2 := 5, s0 := 2, s1 := 7 }
def kM2 : GM := { kM1 with kind := 15, rnd := 11 }
end Go.Proofs.Ytofaoblfemfkiaa

namespace Go.Proofs.Ytofaoblfemfkiaa
open Go Go.RowKit Go.Fw
set_option linter.unusedSimpArgs false
set_option linter.unusedVariables false
set_option maxRecDepth 4000
set_option maxHeartbeats 2000000
theorem en_6 : Enterable Try.prog 6 := ⟨Try.f6, Try.func6, rfl, by decide⟩
theorem pl_24 : placesOf Try.prog 24 = some [(0, 1), (1, 1), (2, 1), (3, 1)] := by kernel_rfl
theorem ul_29 : Try.prog.underlying 29 = some (.pointer 80) := by kernel_rfl
theorem ze_24 : zeroC Try.prog 24 = some [.int .i64 0, .int .i64 0, .int .i64 0, .int .i64 0] := by kernel_rfl

def kP1 (a : Option Nat) (c : Nat) (qt ht : Nat) : PS := (kP a c).enter (phP qt) ht
def kP2 (a : Option Nat) (c : Nat) (qt ht : Nat) : PS := (kP1 a c 0 0).next.enter (phA qt kCmd) ht
def kP3 (a : Option Nat) (c : Nat) (qt ht d : Nat) : PS := { (kP2 a c qt ht).over with dc := .pointer (some ⟨d, 0, none⟩) }
def kA : GM := (GM.prepare 2 7).sent (kP none 0) 3
def kB : GM := (GM.accept 2 7 kCmd).sent (kP none 0).next 3
def kC : GM := (GM.learned kCmd).sent (kP none 0).next 3

theorem k_begin {B w : World} {F : List Ent} {g c : Nat} {a : Option Nat} (H : Own B (.cells g 80 (kP a c).cells :: .row a c 3 1 1 (ints [3]) :: F) w) :
    Calls Try.prog 14 #[.pointer (some ⟨g, 0, none⟩)] w fun e w' => ∃ ht ha hc hm qt qa qc qm xa xc, e = .returned (slv xa 1 xc) ∧ Own B (.row xa xc 46 30 1 (msgs [kA]) :: .cells g 80 (kP1 a c qt ht).cells :: .row a c 3 1 1 (ints [3]) :: .cells ht 109 [slv ha 1 hc, .int .i64 (((1 : Nat) : Int) + 1), .map (some hm)] :: .row ha hc 3 1 1 (ints [3]) :: .imap hm (heardK []) :: .cells qt 145 [slv qa 1 qc, .int .i64 (((1 : Nat) : Int) / 2 + 1), .map (some qm)] :: .row qa qc 3 1 1 (ints [3]) :: .imap qm (kvM []) :: F) w' :=
  begin_s (p := kP a c) H (by show 1 ≤ 1000000; omega) rfl rfl (by show ¬ (min (2 : Int) 10 < 1 ∨ 1099511627776 < max (2 : Int) 10); omega)
theorem k_first {B w : World} {F : List Ent} {g c ht hm hc qt qm qc : Nat} {a ha qa : Option Nat} (H : Own B (.cells g 80 (kP1 a c qt ht).cells :: .row a c 3 1 1 (ints [3]) :: .cells ht 109 [slv ha 1 hc, .int .i64 (((1 : Nat) : Int) + 1), .map (some hm)] :: .row ha hc 3 1 1 (ints [3]) :: .imap hm (heardK []) :: .cells qt 145 [slv qa 1 qc, .int .i64 (((1 : Nat) : Int) / 2 + 1), .map (some qm)] :: .row qa qc 3 1 1 (ints [3]) :: .imap qm (kvM []) :: F) w) :
    Calls Try.prog 18 #[.pointer (some ⟨g, 0, none⟩), .agg kM1.cells.toArray] w fun e w' => ∃ ht ha hc hm qt qa qc qm xa xc, e = .returned (slv xa 1 xc) ∧ Own B (.row xa xc 46 30 1 (msgs [kB]) :: .cells g 80 (kP2 a c qt ht).cells :: .row a c 3 1 1 (ints [3]) :: .cells ht 109 [slv ha 1 hc, .int .i64 (((1 : Nat) : Int) + 1), .map (some hm)] :: .row ha hc 3 1 1 (ints [3]) :: .imap hm (heardK []) :: .cells qt 145 [slv qa 1 qc, .int .i64 (((1 : Nat) : Int) / 2 + 1), .map (some qm)] :: .row qa qc 3 1 1 (ints [3]) :: .imap qm (kvM []) :: F) w' :=
  k_take1 (p := kP1 a c qt ht) (m := kM1) H (by show 1 ≤ 1000; omega) rfl rfl rfl rfl rfl rfl (by kernel_rfl) rfl (by show -1 ≤ (10 : Int) ∧ (10 : Int) < 1099511627776; omega) ⟨rfl, rfl⟩
theorem k_second {B w : World} {F : List Ent} {g c ht hm hc qt qm qc : Nat} {a ha qa : Option Nat} (H : Own B (.cells g 80 (kP2 a c qt ht).cells :: .row a c 3 1 1 (ints [3]) :: .cells ht 109 [slv ha 1 hc, .int .i64 (((1 : Nat) : Int) + 1), .map (some hm)] :: .row ha hc 3 1 1 (ints [3]) :: .imap hm (heardK []) :: .cells qt 145 [slv qa 1 qc, .int .i64 (((1 : Nat) : Int) / 2 + 1), .map (some qm)] :: .row qa qc 3 1 1 (ints [3]) :: .imap qm (kvM []) :: F) w) :
    Calls Try.prog 18 #[.pointer (some ⟨g, 0, none⟩), .agg kM2.cells.toArray] w fun e w' => ∃ d xa xc, e = .returned (slv xa 1 xc) ∧ Own B (.row xa xc 46 30 1 (msgs [kC]) :: .cells g 80 (kP3 a c qt ht d).cells :: .row a c 3 1 1 (ints [3]) :: .cells d 28 kCmd.cells :: F) w' :=
  k_take2 (p := kP2 a c qt ht) (m := kM2) H (by show 1 ≤ 1000; omega) rfl rfl rfl rfl rfl rfl (by kernel_rfl)

theorem known_s {B w : World} {F : List Ent} (H : Own B F w) :
    Calls Try.prog 5 #[] w fun e w' => e = .returned (.bool true) ∧ Own B F w' := by
  refine calls_ce (args := []) Try.func5 rfl rfl ?_
  change CE _ _ 88 _ _ [] _
  refine ce_seq ?_
  refine ce_text (tab := []) (soft := 1) (.op 0 .nil) rfl rfl ?_
  refine re_assign rfl rfl rfl rfl rfl ?_
  refine re_nil ?_
  refine qe_thenC ?_
  refine ce_seq ?_
  refine ce_text (tab := []) (soft := 1) (.op 0 (.op 1 (.op 2 .nil))) rfl rfl ?_
  refine re_build rfl rfl rfl rfl rfl ze_24 pl_24 (by simp only [fillL, setMany, Value.cells, List.getElem?_cons_zero, List.getElem?_cons_succ, List.length_cons, List.length_nil, List.set_cons_zero, List.set_cons_succ, Nat.reduceAdd, Nat.reduceLeDiff, Nat.zero_add, and_self, ↓reduceIte]; rfl) ?_
  refine re_alloc H rfl rfl rfl rfl ze_24 ?_
  intro g1 w H
  refine ⟨(fun h => (nomatch h)), ?_⟩
  refine re_store H rfl rfl rfl rfl rfl rfl sh_24 rfl rfl rfl ?_
  intro cs w hcs H
  first | rw [setMany_whole rfl] at hcs | simp only [setMany, List.set_cons_zero, List.set_cons_succ, Nat.reduceAdd, Nat.zero_add, PS.cells, PS.over, GM.cells, Cmd.cells, List.cons_append, List.nil_append, RS.cellsV, RS.ch, stC, RS.decide, RS.accepted, RS.phase, GM.lent] at hcs
  subst hcs
  refine ⟨(fun h => (nomatch h)), ?_⟩
  refine re_nil ?_
  refine qe_thenC ?_
  refine ce_seq ?_
  refine ce_text (tab := []) (soft := 1) (.op 0 (.op 1 (.op 2 .nil))) rfl rfl ?_
  refine re_build rfl rfl rfl rfl rfl ze_28 pl_28 (by simp only [fillL, setMany, Value.cells, List.getElem?_cons_zero, List.getElem?_cons_succ, List.length_cons, List.length_nil, List.set_cons_zero, List.set_cons_succ, Nat.reduceAdd, Nat.reduceLeDiff, Nat.zero_add, and_self, ↓reduceIte]; rfl) ?_
  refine re_alloc H rfl rfl rfl rfl ze_28 ?_
  intro g2 w H
  refine ⟨(fun h => (nomatch h)), ?_⟩
  refine re_store H rfl rfl rfl rfl rfl rfl sh_28 rfl rfl rfl ?_
  intro cs w hcs H
  first | rw [setMany_whole rfl] at hcs | simp only [setMany, List.set_cons_zero, List.set_cons_succ, Nat.reduceAdd, Nat.zero_add, PS.cells, PS.over, GM.cells, Cmd.cells, List.cons_append, List.nil_append, RS.cellsV, RS.ch, stC, RS.decide, RS.accepted, RS.phase, GM.lent] at hcs
  subst hcs
  refine ⟨(fun h => (nomatch h)), ?_⟩
  refine re_nil ?_
  refine qe_thenC ?_
  refine ce_seq ?_
  refine ce_text (tab := []) (soft := 21) (.op 0 (.op 1 (.op 2 (.op 3 (.op 4 .nil))))) rfl rfl ?_
  refine re_load H rfl rfl rfl rfl rfl sh_24 (by first | exact rdAt_all rfl | (simp only [rdAt, PS.cells, PS.over, GM.cells, Cmd.cells, List.cons_append, List.nil_append, RS.cellsV, RS.ch, stC, RS.decide, RS.accepted, RS.phase, GM.lent, List.drop_succ_cons, List.drop_zero, List.take_succ_cons, List.take_zero, List.length_cons, List.length_nil, Nat.zero_add, Nat.reduceAdd, Nat.reduceLeDiff, Nat.le_refl, ↓reduceIte] <;> rfl)) ?_
  refine re_sliceN H rfl rfl rfl rfl rfl ul_31 ei_31 ze_3 rfl rfl rfl rfl rfl ?_
  intro g12 w H
  refine ⟨(fun h => (nomatch h)), ?_⟩
  refine re_load H rfl rfl rfl rfl rfl sh_28 (by first | exact rdAt_all rfl | (simp only [rdAt, PS.cells, PS.over, GM.cells, Cmd.cells, List.cons_append, List.nil_append, RS.cellsV, RS.ch, stC, RS.decide, RS.accepted, RS.phase, GM.lent, List.drop_succ_cons, List.drop_zero, List.take_succ_cons, List.take_zero, List.length_cons, List.length_nil, Nat.zero_add, Nat.reduceAdd, Nat.reduceLeDiff, Nat.le_refl, ↓reduceIte] <;> rfl)) ?_
  refine re_call en_6 rfl rfl rfl rfl rfl ?_
  refine Calls.mono (new_s (mine := kCmd) (xs := [3]) H (Sees.of_row (.head _) H) (by decide)) ?_
  rintro e w ⟨g, a, c, rfl, H⟩
  rw [show unlike [3] = [3] from rfl] at H
  refine ⟨_, rfl, (fun h => (nomatch h)), ?_⟩
  refine re_assign rfl rfl rfl rfl rfl ?_
  refine re_nil ?_
  refine qe_thenC ?_
  refine ce_seq ?_
  refine ce_seq ?_
  refine ce_text (tab := []) (soft := 3) (.op 0 (.op 1 .nil)) rfl rfl ?_
  refine re_move rfl rfl rfl rfl rfl ?_
  refine re_binW rfl rfl rfl rfl rfl rfl (run_ptrNil ul_29 (.inl ⟨rfl, rfl⟩)) ?_
  refine re_nil ?_
  refine qe_thenC ?_
  refine ce_condF rfl ?_
  refine ce_skip ?_
  refine qe_thenC ?_
  refine ce_seq ?_
  refine ce_text (tab := []) (soft := 5) (.op 0 (.op 1 (.op 2 .nil))) rfl rfl ?_
  refine re_move rfl rfl rfl rfl rfl ?_
  refine re_call en_14 rfl rfl rfl rfl rfl ?_
  refine Calls.mono (k_begin H) ?_
  rintro e w ⟨ht, ha, hc, hm, qt, qa, qc, qm, xa, xc, rfl, H⟩
  refine ⟨_, rfl, (fun h => (nomatch h)), ?_⟩
  refine re_assign rfl rfl rfl rfl rfl ?_
  refine re_nil ?_
  refine qe_thenC ?_
  refine ce_seq ?_
  refine ce_text (tab := []) (soft := 191) (.op 0 (.op 1 (.op 2 (.op 3 (.op 4 (.op 5 (.op 6 (.op 7 .nil)))))))) rfl rfl ?_
  refine re_move rfl rfl rfl rfl rfl ?_
  refine re_build rfl rfl rfl rfl rfl ze_36 pl_36 (by simp only [fillL, setMany, Value.cells, List.getElem?_cons_zero, List.getElem?_cons_succ, List.length_cons, List.length_nil, List.set_cons_zero, List.set_cons_succ, Nat.reduceAdd, Nat.reduceLeDiff, Nat.zero_add, and_self, ↓reduceIte]; rfl) ?_
  refine re_build rfl rfl rfl rfl rfl ze_36 pl_36 (by simp only [fillL, setMany, Value.cells, List.getElem?_cons_zero, List.getElem?_cons_succ, List.length_cons, List.length_nil, List.set_cons_zero, List.set_cons_succ, Nat.reduceAdd, Nat.reduceLeDiff, Nat.zero_add, and_self, ↓reduceIte]; rfl) ?_
  refine re_load H rfl rfl rfl rfl rfl sh_24 (by first | exact rdAt_all rfl | (simp only [rdAt, PS.cells, PS.over, GM.cells, Cmd.cells, List.cons_append, List.nil_append, RS.cellsV, RS.ch, stC, RS.decide, RS.accepted, RS.phase, GM.lent, List.drop_succ_cons, List.drop_zero, List.take_succ_cons, List.take_zero, List.length_cons, List.length_nil, Nat.zero_add, Nat.reduceAdd, Nat.reduceLeDiff, Nat.le_refl, ↓reduceIte] <;> rfl)) ?_
  refine re_build rfl rfl rfl rfl rfl ze_38 pl_38 (by simp only [fillL, setMany, Value.cells, List.getElem?_cons_zero, List.getElem?_cons_succ, List.length_cons, List.length_nil, List.set_cons_zero, List.set_cons_succ, Nat.reduceAdd, Nat.reduceLeDiff, Nat.zero_add, and_self, ↓reduceIte]; rfl) ?_
  refine re_build rfl rfl rfl rfl rfl ze_46 pl_46 (by simp only [fillL, setMany, Value.cells, List.getElem?_cons_zero, List.getElem?_cons_succ, List.length_cons, List.length_nil, List.set_cons_zero, List.set_cons_succ, Nat.reduceAdd, Nat.reduceLeDiff, Nat.zero_add, and_self, ↓reduceIte]; rfl) ?_
  refine re_call en_18 rfl rfl rfl rfl rfl ?_
  have H := Own.arr [0, 8, 8, 8, 8, 8, 8, 8, 8] H
  simp only [arrs, Fw.front, zm1, zm2, zm3, zm4, zm5] at H
  refine Calls.mono (k_first H) ?_
  rintro e w ⟨ht, ha, hc, hm, qt, qa, qc, qm, ya, yc, rfl, H⟩
  refine ⟨_, rfl, (fun h => (nomatch h)), ?_⟩
  refine re_assign rfl rfl rfl rfl rfl ?_
  refine re_nil ?_
  refine qe_thenC ?_
  refine ce_seq ?_
  refine ce_text (tab := []) (soft := 191) (.op 0 (.op 1 (.op 2 (.op 3 (.op 4 (.op 5 (.op 6 (.op 7 .nil)))))))) rfl rfl ?_
  refine re_move rfl rfl rfl rfl rfl ?_
  refine re_build rfl rfl rfl rfl rfl ze_36 pl_36 (by simp only [fillL, setMany, Value.cells, List.getElem?_cons_zero, List.getElem?_cons_succ, List.length_cons, List.length_nil, List.set_cons_zero, List.set_cons_succ, Nat.reduceAdd, Nat.reduceLeDiff, Nat.zero_add, and_self, ↓reduceIte]; rfl) ?_
  refine re_build rfl rfl rfl rfl rfl ze_36 pl_36 (by simp only [fillL, setMany, Value.cells, List.getElem?_cons_zero, List.getElem?_cons_succ, List.length_cons, List.length_nil, List.set_cons_zero, List.set_cons_succ, Nat.reduceAdd, Nat.reduceLeDiff, Nat.zero_add, and_self, ↓reduceIte]; rfl) ?_
  refine re_load H rfl rfl rfl rfl rfl sh_24 (by first | exact rdAt_all rfl | (simp only [rdAt, PS.cells, PS.over, GM.cells, Cmd.cells, List.cons_append, List.nil_append, RS.cellsV, RS.ch, stC, RS.decide, RS.accepted, RS.phase, GM.lent, List.drop_succ_cons, List.drop_zero, List.take_succ_cons, List.take_zero, List.length_cons, List.length_nil, Nat.zero_add, Nat.reduceAdd, Nat.reduceLeDiff, Nat.le_refl, ↓reduceIte] <;> rfl)) ?_
  refine re_build rfl rfl rfl rfl rfl ze_38 pl_38 (by simp only [fillL, setMany, Value.cells, List.getElem?_cons_zero, List.getElem?_cons_succ, List.length_cons, List.length_nil, List.set_cons_zero, List.set_cons_succ, Nat.reduceAdd, Nat.reduceLeDiff, Nat.zero_add, and_self, ↓reduceIte]; rfl) ?_
  refine re_build rfl rfl rfl rfl rfl ze_46 pl_46 (by simp only [fillL, setMany, Value.cells, List.getElem?_cons_zero, List.getElem?_cons_succ, List.length_cons, List.length_nil, List.set_cons_zero, List.set_cons_succ, Nat.reduceAdd, Nat.reduceLeDiff, Nat.zero_add, and_self, ↓reduceIte]; rfl) ?_
  refine re_call en_18 rfl rfl rfl rfl rfl ?_
  have H := Own.arr [0, 8, 8, 8, 8, 8, 8, 8, 8] H
  simp only [arrs, Fw.front, zm1, zm2, zm3, zm4, zm5] at H
  refine Calls.mono (k_second H) ?_
  rintro e w ⟨d, za, zc, rfl, H⟩
  refine ⟨_, rfl, (fun h => (nomatch h)), ?_⟩
  refine re_assign rfl rfl rfl rfl rfl ?_
  refine re_nil ?_
  refine qe_thenC ?_
  refine ce_seq ?_
  refine ce_text (tab := []) (soft := 157) (.op 0 (.op 1 (.op 2 (.op 3 (.op 4 (.op 5 (.op 6 (.op 7 .nil)))))))) rfl rfl ?_
  refine re_move rfl rfl rfl rfl rfl ?_
  refine re_call en_16 rfl rfl rfl rfl rfl ?_
  have H := Own.arr [2, 1, 3, 3] H
  simp only [arrs, Fw.front, zm1, zm2, zm3, zm4, zm5] at H
  refine Calls.mono (decided1 (p := kP3 a c qt ht d) (q := d) (c := kCmd) H rfl) ?_
  rintro e w ⟨rfl, H⟩
  refine ⟨_, rfl, (fun h => (nomatch h)), ?_⟩
  refine re_move rfl rfl rfl rfl rfl ?_
  refine re_extract rfl rfl rfl rfl rfl rfl ?_
  refine re_extract rfl rfl rfl rfl rfl rfl ?_
  refine re_alloc H rfl rfl rfl rfl ze_28 ?_
  intro g7 w H
  refine ⟨(fun h => (nomatch h)), ?_⟩
  refine re_store H rfl rfl rfl rfl rfl rfl sh_28 rfl rfl rfl ?_
  intro cs w hcs H
  first | rw [setMany_whole rfl] at hcs | simp only [setMany, List.set_cons_zero, List.set_cons_succ, Nat.reduceAdd, Nat.zero_add, PS.cells, PS.over, GM.cells, Cmd.cells, List.cons_append, List.nil_append, RS.cellsV, RS.ch, stC, RS.decide, RS.accepted, RS.phase, GM.lent] at hcs
  subst hcs
  refine ⟨(fun h => (nomatch h)), ?_⟩
  refine re_assign rfl rfl rfl rfl rfl ?_
  refine re_nil ?_
  refine qe_thenC ?_
  refine ce_seq ?_
  refine ce_open (tab := [0, 1, 3, 7, 15, 31, 63, 127, 255, 511, 1023, 2047, 4095, 8191, 16383, 32767, 65535, 131071, 262143, 524287, 1048575, 2097151, 4194303, 8388607, 16777215, 33554431, 67108863, 8388607, 268435455, 536870911, 1073741823, 2147483647, 4294967295, 8589934591, 17179869183, 34359738367, 68719476735, 137438953471, 274877906943, 549755813887, 1099511627775, 2199023255551, 4398046511103, 8796093022207, 17592186044415, 35184372088831, 70368744177663, 70368744177663, 281474976710655, 562949953421311, 1125899906842623]) (soft := 2251799813685247) mixed (.op 0 (.op 1 (.op 2 (.op 3 (.op 4 (.op 5 (.op 6 (.op 7 (.op 8 (.op 9 (.op 10 (.op 11 (.op 12 (.op 13 (.op 14 (.op 15 (.op 16 (.op 17 (.op 18 (.op 19 (.op 20 (.op 21 (.op 22 (.op 23 (.op 24 (.op 25 (.op 26 (.op 27 (.op 28 (.op 29 (.op 30 (.op 31 (.op 32 (.op 33 (.op 34 (.op 35 (.op 36 (.op 37 (.op 38 (.op 39 (.op 40 (.op 41 (.op 42 (.op 43 (.op 44 (.op 45 (.op 46 (.op 47 (.op 48 (.op 49 (.op 50 .nil))))))))))))))))))))))))))))))))))))))))))))))))))) (by kernel_rfl) H ?_
  intro w H
  obtain ⟨x1, rfl⟩ := H.rsome xa (by omega)
  obtain ⟨x2, rfl⟩ := H.rsome ya (by omega)
  obtain ⟨x3, rfl⟩ := H.rsome za (by omega)
  refine re_move rfl rfl rfl rfl rfl ?_
  refine re_len rfl rfl rfl rfl rfl ul_62 ?_
  refine re_bin rfl rfl rfl rfl rfl rfl rfl ?_
  refine re_move rfl rfl rfl rfl rfl ?_
  refine re_move rfl rfl rfl rfl rfl ?_
  refine re_indexL rfl rfl rfl rfl rfl rfl ul_62 ei_62 (by omega) (by omega) ?_
  first | refine re_field0 rfl rfl rfl rfl rfl fo_46_0 ?_ | refine re_field rfl rfl rfl rfl rfl fo_46_0 ?_ | refine re_fieldA rfl rfl rfl rfl rfl fo_46_0 ?_
  refine re_loadW rfl rfl rfl rfl rfl (run_loadAt_row H sh_3 rfl) ?_
  refine re_bin rfl rfl rfl rfl rfl rfl rfl ?_
  refine re_pickT rfl rfl rfl rfl rfl rfl ?_
  refine re_move rfl rfl rfl rfl rfl ?_
  refine re_move rfl rfl rfl rfl rfl ?_
  refine re_len rfl rfl rfl rfl rfl ul_62 ?_
  refine re_bin rfl rfl rfl rfl rfl rfl rfl ?_
  refine re_pickT rfl rfl rfl rfl rfl rfl ?_
  refine re_move rfl rfl rfl rfl rfl ?_
  refine re_move rfl rfl rfl rfl rfl ?_
  refine re_indexL rfl rfl rfl rfl rfl rfl ul_62 ei_62 (by omega) (by omega) ?_
  first | refine re_field0 rfl rfl rfl rfl rfl fo_46_0 ?_ | refine re_field rfl rfl rfl rfl rfl fo_46_0 ?_ | refine re_fieldA rfl rfl rfl rfl rfl fo_46_0 ?_
  refine re_loadW rfl rfl rfl rfl rfl (run_loadAt_row H sh_3 rfl) ?_
  refine re_bin rfl rfl rfl rfl rfl rfl rfl ?_
  refine re_pickT rfl rfl rfl rfl rfl rfl ?_
  refine re_move rfl rfl rfl rfl rfl ?_
  refine re_move rfl rfl rfl rfl rfl ?_
  refine re_indexL rfl rfl rfl rfl rfl rfl ul_62 ei_62 (by omega) (by omega) ?_
  first | refine re_field0 rfl rfl rfl rfl rfl fo_46_9 ?_ | refine re_field rfl rfl rfl rfl rfl fo_46_9 ?_ | refine re_fieldA rfl rfl rfl rfl rfl fo_46_9 ?_
  refine re_loadW rfl rfl rfl rfl rfl (run_loadAt_row (v := .agg #[.int .i64 4, .int .i64 7, .int .i64 4, .string ByteArray.empty, .int .i64 0, .int .i64 0, .int .i64 0, .int .i64 0, .int .i64 0]) H sh_28 rfl) ?_
  refine re_load H rfl rfl rfl rfl rfl sh_28 (by first | exact rdAt_all rfl | (simp only [rdAt, PS.cells, PS.over, GM.cells, Cmd.cells, List.cons_append, List.nil_append, RS.cellsV, RS.ch, stC, RS.decide, RS.accepted, RS.phase, GM.lent, List.drop_succ_cons, List.drop_zero, List.take_succ_cons, List.take_zero, List.length_cons, List.length_nil, Nat.zero_add, Nat.reduceAdd, Nat.reduceLeDiff, Nat.le_refl, ↓reduceIte] <;> rfl)) ?_
  refine re_eqAgg rfl rfl rfl rfl rfl rfl fk_28 sh_28 ng_28 (by simp only [eqKs, eqK, ↓reduceIte]; rfl) ?_
  refine re_pickT rfl rfl rfl rfl rfl rfl ?_
  refine re_move rfl rfl rfl rfl rfl ?_
  refine re_move rfl rfl rfl rfl rfl ?_
  refine re_len rfl rfl rfl rfl rfl ul_62 ?_
  refine re_bin rfl rfl rfl rfl rfl rfl rfl ?_
  refine re_pickT rfl rfl rfl rfl rfl rfl ?_
  refine re_move rfl rfl rfl rfl rfl ?_
  refine re_move rfl rfl rfl rfl rfl ?_
  refine re_indexL rfl rfl rfl rfl rfl rfl ul_62 ei_62 (by omega) (by omega) ?_
  first | refine re_field0 rfl rfl rfl rfl rfl fo_46_0 ?_ | refine re_field rfl rfl rfl rfl rfl fo_46_0 ?_ | refine re_fieldA rfl rfl rfl rfl rfl fo_46_0 ?_
  refine re_loadW rfl rfl rfl rfl rfl (run_loadAt_row H sh_3 rfl) ?_
  refine re_bin rfl rfl rfl rfl rfl rfl rfl ?_
  refine re_pickT rfl rfl rfl rfl rfl rfl ?_
  refine re_move rfl rfl rfl rfl rfl ?_
  refine re_move rfl rfl rfl rfl rfl ?_
  refine re_pickT rfl rfl rfl rfl rfl rfl ?_
  refine re_move rfl rfl rfl rfl rfl ?_
  refine re_load H rfl rfl rfl rfl rfl sh_28 (by first | exact rdAt_all rfl | (simp only [rdAt, PS.cells, PS.over, GM.cells, Cmd.cells, List.cons_append, List.nil_append, RS.cellsV, RS.ch, stC, RS.decide, RS.accepted, RS.phase, GM.lent, List.drop_succ_cons, List.drop_zero, List.take_succ_cons, List.take_zero, List.length_cons, List.length_nil, Nat.zero_add, Nat.reduceAdd, Nat.reduceLeDiff, Nat.le_refl, ↓reduceIte] <;> rfl)) ?_
  refine re_load H rfl rfl rfl rfl rfl sh_28 (by first | exact rdAt_all rfl | (simp only [rdAt, PS.cells, PS.over, GM.cells, Cmd.cells, List.cons_append, List.nil_append, RS.cellsV, RS.ch, stC, RS.decide, RS.accepted, RS.phase, GM.lent, List.drop_succ_cons, List.drop_zero, List.take_succ_cons, List.take_zero, List.length_cons, List.length_nil, Nat.zero_add, Nat.reduceAdd, Nat.reduceLeDiff, Nat.le_refl, ↓reduceIte] <;> rfl)) ?_
  refine re_eqAgg rfl rfl rfl rfl rfl rfl fk_28 sh_28 ng_28 (by simp only [eqKs, eqK, ↓reduceIte]; rfl) ?_
  refine re_pickT rfl rfl rfl rfl rfl rfl ?_
  refine re_assign rfl rfl rfl rfl rfl ?_
  refine re_nil ?_
  refine qe_noPanic ?_
  refine qe_thenC ?_
  refine ce_ret ?_
  refine qe_end rfl rfl ?_
  exact ⟨by first | rfl | simp [kCmd], H.drop 10⟩
end Go.Proofs.Ytofaoblfemfkiaa

namespace Go.Proofs.Ytofaoblfemfkiaa
open Go Go.RowKit Go.Fw
set_option linter.unusedSimpArgs false
set_option linter.unusedVariables false
set_option maxRecDepth 4000
set_option maxHeartbeats 2000000
theorem en_5 : Enterable Try.prog 5 := ⟨Try.f5, Try.func5, rfl, by decide⟩
theorem en_7 : Enterable Try.prog 7 := ⟨Try.f7, Try.func7, rfl, by decide⟩
theorem en_8 : Enterable Try.prog 8 := ⟨Try.f8, Try.func8, rfl, by decide⟩
theorem en_9 : Enterable Try.prog 9 := ⟨Try.f9, Try.func9, rfl, by decide⟩
theorem pl_48 : placesOf Try.prog 48 = some [(0, 1), (1, 30)] := by kernel_rfl
theorem ze_48 : zeroC Try.prog 48 = some [.int .i64 0, .int .i64 0, .bool false, .int .i64 0, .bool false, .int .i64 0, .int .i64 0, .int .i64 0, .int .i64 0, .int .i64 0, .int .i64 0, .int .i64 0, .int .i64 0, .int .i64 0, .int .i64 0, .int .i64 0, .slice none 0 0, .int .i64 0, .int .i64 0, .int .i64 0, .string ByteArray.empty, .int .i64 0, .int .i64 0, .int .i64 0, .int .i64 0, .int .i64 0, .int .i64 0, .slice none 0 0, .slice none 0 0, .slice none 0 0, .bool false] := by kernel_rfl

theorem inv_open {B w : World} {F : List Ent} {g h : Nat} (I : Inv B F g h w) : ∃ L, Own B (L ++ F) w ∧ ∀ F' w', Own B (L ++ F') w' → Inv B F' g h w' := by
  cases I with
  | live p r hs ms ht hc hm ha qt qc qm qa a1 a2 a3 a4 H hh L ph => exact ⟨[.cells g 80 p.cells, .row p.ga p.gc 3 1 p.gs.length (ints p.gs), .cells ht 109 [slv ha p.gs.length hc, .int .i64 ((p.gs.length : Int) + 1), .map (some hm)], .row ha hc 3 1 p.gs.length (ints p.gs), .imap hm (heardK hs), .cells qt 145 [slv qa p.gs.length qc, .int .i64 ((p.gs.length : Int) / 2 + 1), .map (some qm)], .row qa qc 3 1 p.gs.length (ints p.gs), .imap qm (kvM ms), .cells h 54 (r.cellsV (slv (some a1) r.gs.length r.gs.length) (slv (some a2) r.gs.length r.gs.length) (slv (some a3) r.gs.length r.gs.length) (slv (some a4) r.gs.length r.gs.length)), .row r.ga r.gc 3 1 r.gs.length (ints r.gs), .cells a1 4 (bools r.ans), .cells a2 4 (bools r.cnt), .cells a3 38 (stamps r.held), .cells a4 28 (cmdsC r.cms)], H, fun F' w' H => .live p r hs ms ht hc hm ha qt qc qm qa a1 a2 a3 a4 H hh L ph⟩
  | over0 p r a1 a2 a3 a4 H L ph rp dc rdc dec => exact ⟨[.cells g 80 p.cells, .cells h 54 (r.cellsV (slv (some a1) r.gs.length r.gs.length) (slv (some a2) r.gs.length r.gs.length) (slv (some a3) r.gs.length r.gs.length) (slv (some a4) r.gs.length r.gs.length)), .row r.ga r.gc 3 1 r.gs.length (ints r.gs), .cells a1 4 (bools r.ans), .cells a2 4 (bools r.cnt), .cells a3 38 (stamps r.held), .cells a4 28 (cmdsC r.cms)], H, fun F' w' H => .over0 p r a1 a2 a3 a4 H L ph rp dc rdc dec⟩
  | over1 p r q c a1 a2 a3 a4 H L ph rp dc rdc dec => exact ⟨[.cells g 80 p.cells, .cells q 28 c.cells, .cells h 54 (r.cellsV (slv (some a1) r.gs.length r.gs.length) (slv (some a2) r.gs.length r.gs.length) (slv (some a3) r.gs.length r.gs.length) (slv (some a4) r.gs.length r.gs.length)), .row r.ga r.gc 3 1 r.gs.length (ints r.gs), .cells a1 4 (bools r.ans), .cells a2 4 (bools r.cnt), .cells a3 38 (stamps r.held), .cells a4 28 (cmdsC r.cms)], H, fun F' w' H => .over1 p r q c a1 a2 a3 a4 H L ph rp dc rdc dec⟩
theorem inv_mid {B w : World} {F : List Ent} {g h : Nat} {E : Ent} {L : List Ent} (H : Own B (E :: (L ++ F)) w) (hI : ∀ F' w', Own B (L ++ F') w' → Inv B F' g h w') : Inv B (E :: F) g h w := hI _ _ (H.perm List.perm_middle.symm)
theorem inv_out {B w : World} {F : List Ent} {g h : Nat} {E : Ent} (I : Inv B (E :: F) g h w) : Inv B F g h w := by
  obtain ⟨L, H, hI⟩ := inv_open I
  exact hI _ _ (H.sub ((List.Sublist.refl L).append (List.sublist_cons_self E F)))
theorem inv_wn {B w : World} {F : List Ent} {g h : Nat} (I : Inv B F g h w) : ∃ (p : PS) (r : RS) (a1 a2 a3 a4 : Nat) (Y : List Ent), Own B (.cells g 80 p.cells :: .cells h 54 (r.cellsV (slv (some a1) r.gs.length r.gs.length) (slv (some a2) r.gs.length r.gs.length) (slv (some a3) r.gs.length r.gs.length) (slv (some a4) r.gs.length r.gs.length)) :: (Y ++ F)) w ∧ p.wn = r.wn := by
  cases I with
  | live p r hs ms ht hc hm ha qt qc qm qa a1 a2 a3 a4 H hh L ph =>
    have H := Own.arr [13, 13, 13, 13, 13, 12, 12, 12, 12, 12, 12, 12, 13, 13] H
    simp only [arrs, Fw.front, zm1, zm2, zm3, zm4, zm5] at H
    exact ⟨p, r, a1, a2, a3, a4, [_, _, _, _, _, _, _, _, _, _, _, _], H, L.wn⟩
  | over0 p r a1 a2 a3 a4 H L ph rp dc rdc dec => exact ⟨p, r, a1, a2, a3, a4, [_, _, _, _, _], H, L.wn⟩
  | over1 p r q c a1 a2 a3 a4 H L ph rp dc rdc dec =>
    have H := Own.arr [7, 7, 7, 7, 7, 6, 7, 7] H
    simp only [arrs, Fw.front, zm1, zm2, zm3, zm4, zm5] at H
    exact ⟨p, r, a1, a2, a3, a4, [_, _, _, _, _, _], H, L.wn⟩

theorem rounds_s {B w : World} {F : List Ent} {d1 d2 d3 d4 : Int} (H : Own B F w) :
    Calls Try.prog 3 #[.int .i64 d1, .int .i64 d2, .int .i64 d3, .int .i64 d4] w fun e w' => e = .returned (.bool true) ∧ Own B F w' := by
  refine calls_ce (args := [.int .i64 d1, .int .i64 d2, .int .i64 d3, .int .i64 d4]) Try.func3 rfl rfl ?_
  change CE _ _ 115 _ _ [(0, .int .i64 d1), (1, .int .i64 d2), (2, .int .i64 d3), (3, .int .i64 d4)] _
  refine ce_seq ?_
  refine ce_text (tab := []) (soft := 1) (.op 0 .nil) rfl rfl ?_
  refine re_assign rfl rfl rfl rfl rfl ?_
  refine re_nil ?_
  refine qe_thenC ?_
  refine ce_seq ?_
  refine ce_seq ?_
  refine ce_text (tab := []) (soft := 2) (.op 0 (.op 1 .nil)) rfl rfl ?_
  refine re_call en_5 rfl rfl rfl rfl rfl ?_
  refine Calls.mono (known_s H) ?_
  rintro e w ⟨rfl, H⟩
  refine ⟨_, rfl, (fun h => (nomatch h)), ?_⟩
  refine re_not rfl rfl rfl rfl rfl ?_
  refine re_nil ?_
  refine qe_thenC ?_
  refine ce_condF rfl ?_
  refine ce_skip ?_
  refine qe_thenC ?_
  refine ce_seq ?_
  refine ce_text (tab := []) (soft := 1) (.op 0 (.op 1 (.op 2 .nil))) rfl rfl ?_
  refine re_build rfl rfl rfl rfl rfl ze_24 pl_24 (by simp only [fillL, setMany, Value.cells, List.getElem?_cons_zero, List.getElem?_cons_succ, List.length_cons, List.length_nil, List.set_cons_zero, List.set_cons_succ, Nat.reduceAdd, Nat.reduceLeDiff, Nat.zero_add, and_self, ↓reduceIte]; rfl) ?_
  refine re_alloc H rfl rfl rfl rfl ze_24 ?_
  intro g9 w H
  refine ⟨(fun h => (nomatch h)), ?_⟩
  refine re_store H rfl rfl rfl rfl rfl rfl sh_24 rfl rfl rfl ?_
  intro cs w hcs H
  first | rw [setMany_whole rfl] at hcs | simp only [setMany, List.set_cons_zero, List.set_cons_succ, Nat.reduceAdd, Nat.zero_add, PS.cells, PS.over, GM.cells, Cmd.cells, List.cons_append, List.nil_append, RS.cellsV, RS.ch, stC, RS.decide, RS.accepted, RS.phase, GM.lent] at hcs
  subst hcs
  refine ⟨(fun h => (nomatch h)), ?_⟩
  refine re_nil ?_
  refine qe_thenC ?_
  refine ce_seq ?_
  refine ce_text (tab := []) (soft := 1) (.op 0 (.op 1 (.op 2 .nil))) rfl rfl ?_
  refine re_build rfl rfl rfl rfl rfl ze_28 pl_28 (by simp only [fillL, setMany, Value.cells, List.getElem?_cons_zero, List.getElem?_cons_succ, List.length_cons, List.length_nil, List.set_cons_zero, List.set_cons_succ, Nat.reduceAdd, Nat.reduceLeDiff, Nat.zero_add, and_self, ↓reduceIte]; rfl) ?_
  refine re_alloc H rfl rfl rfl rfl ze_28 ?_
  intro g10 w H
  refine ⟨(fun h => (nomatch h)), ?_⟩
  refine re_store H rfl rfl rfl rfl rfl rfl sh_28 rfl rfl rfl ?_
  intro cs w hcs H
  first | rw [setMany_whole rfl] at hcs | simp only [setMany, List.set_cons_zero, List.set_cons_succ, Nat.reduceAdd, Nat.zero_add, PS.cells, PS.over, GM.cells, Cmd.cells, List.cons_append, List.nil_append, RS.cellsV, RS.ch, stC, RS.decide, RS.accepted, RS.phase, GM.lent] at hcs
  subst hcs
  refine ⟨(fun h => (nomatch h)), ?_⟩
  refine re_nil ?_
  refine qe_thenC ?_
  refine ce_seq ?_
  refine ce_text (tab := []) (soft := 93) (.op 0 (.op 1 (.op 2 (.op 3 (.op 4 (.op 5 (.op 6 .nil))))))) rfl rfl ?_
  refine re_load H rfl rfl rfl rfl rfl sh_24 (by first | exact rdAt_all rfl | (simp only [rdAt, PS.cells, PS.over, GM.cells, Cmd.cells, List.cons_append, List.nil_append, RS.cellsV, RS.ch, stC, RS.decide, RS.accepted, RS.phase, GM.lent, List.drop_succ_cons, List.drop_zero, List.take_succ_cons, List.take_zero, List.length_cons, List.length_nil, Nat.zero_add, Nat.reduceAdd, Nat.reduceLeDiff, Nat.le_refl, ↓reduceIte] <;> rfl)) ?_
  refine re_sliceN H rfl rfl rfl rfl rfl ul_31 ei_31 ze_3 rfl rfl rfl rfl rfl ?_
  intro g22 w H
  refine ⟨(fun h => (nomatch h)), ?_⟩
  refine re_load H rfl rfl rfl rfl rfl sh_28 (by first | exact rdAt_all rfl | (simp only [rdAt, PS.cells, PS.over, GM.cells, Cmd.cells, List.cons_append, List.nil_append, RS.cellsV, RS.ch, stC, RS.decide, RS.accepted, RS.phase, GM.lent, List.drop_succ_cons, List.drop_zero, List.take_succ_cons, List.take_zero, List.length_cons, List.length_nil, Nat.zero_add, Nat.reduceAdd, Nat.reduceLeDiff, Nat.le_refl, ↓reduceIte] <;> rfl)) ?_
  refine re_move rfl rfl rfl rfl rfl ?_
  refine re_move rfl rfl rfl rfl rfl ?_
  refine re_call en_6 rfl rfl rfl rfl rfl ?_
  refine Calls.mono (new_s (mine := ⟨4, 1, 1, ByteArray.empty, 0, 0, 0, 0, 0⟩) (xs := [1, 2, 3]) H (Sees.of_row (.head _) H) (by decide)) ?_
  rintro e w ⟨g, pa, pc, rfl, H⟩
  rw [show unlike [1, 2, 3] = [1, 2, 3] from rfl] at H
  refine ⟨_, rfl, (fun h => (nomatch h)), ?_⟩
  refine re_assign rfl rfl rfl rfl rfl ?_
  refine re_nil ?_
  refine qe_thenC ?_
  refine ce_seq ?_
  refine ce_text (tab := []) (soft := 93) (.op 0 (.op 1 (.op 2 (.op 3 (.op 4 (.op 5 (.op 6 .nil))))))) rfl rfl ?_
  refine re_load H rfl rfl rfl rfl rfl sh_24 (by first | exact rdAt_all rfl | (simp only [rdAt, PS.cells, PS.over, GM.cells, Cmd.cells, List.cons_append, List.nil_append, RS.cellsV, RS.ch, stC, RS.decide, RS.accepted, RS.phase, GM.lent, List.drop_succ_cons, List.drop_zero, List.take_succ_cons, List.take_zero, List.length_cons, List.length_nil, Nat.zero_add, Nat.reduceAdd, Nat.reduceLeDiff, Nat.le_refl, ↓reduceIte] <;> rfl)) ?_
  refine re_sliceN H rfl rfl rfl rfl rfl ul_31 ei_31 ze_3 rfl rfl rfl rfl rfl ?_
  intro g28 w H
  refine ⟨(fun h => (nomatch h)), ?_⟩
  refine re_load H rfl rfl rfl rfl rfl sh_28 (by first | exact rdAt_all rfl | (simp only [rdAt, PS.cells, PS.over, GM.cells, Cmd.cells, List.cons_append, List.nil_append, RS.cellsV, RS.ch, stC, RS.decide, RS.accepted, RS.phase, GM.lent, List.drop_succ_cons, List.drop_zero, List.take_succ_cons, List.take_zero, List.length_cons, List.length_nil, Nat.zero_add, Nat.reduceAdd, Nat.reduceLeDiff, Nat.le_refl, ↓reduceIte] <;> rfl)) ?_
  refine re_move rfl rfl rfl rfl rfl ?_
  refine re_move rfl rfl rfl rfl rfl ?_
  refine re_call en_7 rfl rfl rfl rfl rfl ?_
  refine Calls.mono (new_r (mine := ⟨4, 1, 1, ByteArray.empty, 0, 0, 0, 0, 0⟩) (xs := [1, 2, 3]) H (Sees.of_row (.head _) H) (by decide)) ?_
  rintro e w ⟨h, a1, a2, a3, a4, r, ra, rc, hr, rfl, H⟩
  rw [show unlike [1, 2, 3] = [1, 2, 3] from rfl] at hr
  refine ⟨_, rfl, (fun h => (nomatch h)), ?_⟩
  refine re_assign rfl rfl rfl rfl rfl ?_
  refine re_nil ?_
  refine qe_thenC ?_
  refine ce_seq ?_
  refine ce_seq ?_
  refine ce_text (tab := []) (soft := 28607) (.op 0 (.op 1 (.op 2 (.op 3 (.op 4 (.op 5 (.op 6 (.op 7 (.op 8 (.op 9 (.op 10 (.op 11 (.op 12 (.op 13 (.op 14 .nil))))))))))))))) rfl rfl ?_
  refine re_move rfl rfl rfl rfl rfl ?_
  refine re_binW rfl rfl rfl rfl rfl rfl (run_ptrNil ul_29 (.inl ⟨rfl, rfl⟩)) ?_
  refine re_move rfl rfl rfl rfl rfl ?_
  refine re_move rfl rfl rfl rfl rfl ?_
  refine re_move rfl rfl rfl rfl rfl ?_
  refine re_build rfl rfl rfl rfl rfl ze_48 pl_48 (by simp only [fillL, setMany, Value.cells, List.getElem?_cons_zero, List.getElem?_cons_succ, List.length_cons, List.length_nil, List.set_cons_zero, List.set_cons_succ, Nat.reduceAdd, Nat.reduceLeDiff, Nat.zero_add, and_self, ↓reduceIte]; rfl) ?_
  refine re_call en_8 rfl rfl rfl rfl rfl ?_
  have H := Own.arr [6, 6, 6, 6, 6, 6, 6, 8, 8] H
  simp only [arrs, Fw.front, zm1, zm2, zm3, zm4, zm5] at H
  refine Calls.mono (inv_begin rfl rfl hr rfl (by decide) (by decide) (by decide) H) ?_
  rintro e w ⟨rfl, I⟩
  refine ⟨_, rfl, (fun h => (nomatch h)), ?_⟩
  refine re_not rfl rfl rfl rfl rfl ?_
  refine re_pickF rfl rfl rfl rfl rfl rfl ?_
  refine re_move rfl rfl rfl rfl rfl ?_
  refine re_move rfl rfl rfl rfl rfl ?_
  refine re_move rfl rfl rfl rfl rfl ?_
  refine re_call en_9 rfl rfl rfl rfl rfl ?_
  refine Calls.mono (inv_shows I) ?_
  rintro e w ⟨rfl, I⟩
  obtain ⟨L, H, hI⟩ := inv_open I
  refine ⟨_, rfl, (fun h => (nomatch h)), ?_⟩
  refine re_not rfl rfl rfl rfl rfl ?_
  refine re_pickF rfl rfl rfl rfl rfl rfl ?_
  refine re_nil ?_
  refine qe_thenC ?_
  refine ce_condF rfl ?_
  refine ce_skip ?_
  refine qe_thenC ?_
  refine ce_seq ?_
  refine ce_seq ?_
  refine ce_text (tab := []) (soft := 1) (.op 0 .nil) rfl rfl ?_
  refine re_assign rfl rfl rfl rfl rfl ?_
  refine re_nil ?_
  refine qe_thenC ?_
  refine ce_block ?_
  refine ce_loop (α := Nat) (fun k => [(0, .int .i64 d1), (1, .int .i64 d2), (2, .int .i64 d3), (3, .int .i64 d4), (11, .pointer (some ⟨g, 0, none⟩)), (12, .pointer (some ⟨h, 0, none⟩)), (13, .int .i64 (k : Int))]) (fun k w => Inv B (.row (some g28) 3 3 1 3 (ints [1, 2, 3]) :: .row (some g22) 3 3 1 3 (ints [1, 2, 3]) :: .cells g10 28 [.int .i64 4, .int .i64 1, .int .i64 1, .string ByteArray.empty, .int .i64 0, .int .i64 0, .int .i64 0, .int .i64 0, .int .i64 0] :: .cells g9 24 [.int .i64 3, .int .i64 0, .int .i64 1, .int .i64 0] :: F) g h w ∧ k ≤ 6) (fun k => 6 - k) 0 (And.intro rfl (And.intro rfl (And.intro rfl (And.intro rfl (And.intro rfl (And.intro rfl (And.intro rfl trivial))))))) ⟨I, by omega⟩ ?_
  rintro k w HW
  obtain ⟨I, hk⟩ := HW
  change CE _ _ _ _ _ [(0, .int .i64 d1), (1, .int .i64 d2), (2, .int .i64 d3), (3, .int .i64 d4), (11, .pointer (some ⟨g, 0, none⟩)), (12, .pointer (some ⟨h, 0, none⟩)), (13, .int .i64 (k : Int))] _
  obtain ⟨L, H, hI⟩ := inv_open I
  refine ce_seq ?_
  refine ce_seq ?_
  refine ce_text (tab := []) (soft := 11) (.op 0 (.op 1 (.op 2 (.op 3 .nil)))) rfl rfl ?_
  refine re_move rfl rfl rfl rfl rfl ?_
  refine re_move rfl rfl rfl rfl rfl ?_
  refine re_call en_10 rfl rfl rfl rfl rfl ?_
  refine Calls.mono (round_l H (by decide)) ?_
  rintro e w ⟨rfl, H⟩
  refine ⟨_, rfl, (fun h => (nomatch h)), ?_⟩
  refine re_bin rfl rfl rfl rfl rfl rfl rfl ?_
  refine re_nil ?_
  refine qe_thenC ?_
  refine ce_cond rfl (fun h2 => ?_) (fun h2 => ?_)
  · try simp only [zn1, zn2, zn3, zn4, zn5, zn6] at h2
    refine ce_skip ?_
    refine qe_thenC ?_
    refine ce_seq ?_
    refine ce_block ?_
    refine ce_seq ?_
    refine ce_text (tab := []) (soft := 127) (.op 0 (.op 1 (.op 2 (.op 3 (.op 4 (.op 5 (.op 6 (.op 7 (.op 8 .nil))))))))) rfl rfl ?_
    refine re_move rfl rfl rfl rfl rfl ?_
    refine re_build rfl rfl rfl rfl rfl ze_36 pl_36 (by simp only [fillL, setMany, Value.cells, List.getElem?_cons_zero, List.getElem?_cons_succ, List.length_cons, List.length_nil, List.set_cons_zero, List.set_cons_succ, Nat.reduceAdd, Nat.reduceLeDiff, Nat.zero_add, and_self, ↓reduceIte]; rfl) ?_
    refine re_move rfl rfl rfl rfl rfl ?_
    refine re_move rfl rfl rfl rfl rfl ?_
    refine re_bin rfl rfl rfl rfl rfl rfl rfl ?_
    refine re_build rfl rfl rfl rfl rfl ze_38 pl_38 (by simp only [fillL, setMany, Value.cells, List.getElem?_cons_zero, List.getElem?_cons_succ, List.length_cons, List.length_nil, List.set_cons_zero, List.set_cons_succ, Nat.reduceAdd, Nat.reduceLeDiff, Nat.zero_add, and_self, ↓reduceIte]; rfl) ?_
    refine re_build rfl rfl rfl rfl rfl ze_46 pl_46 (by simp only [fillL, setMany, Value.cells, List.getElem?_cons_zero, List.getElem?_cons_succ, List.length_cons, List.length_nil, List.set_cons_zero, List.set_cons_succ, Nat.reduceAdd, Nat.reduceLeDiff, Nat.zero_add, and_self, ↓reduceIte]; rfl) ?_
    refine re_alloc H rfl rfl rfl rfl ze_46 ?_
    intro g14 w H
    refine ⟨(fun h => (nomatch h)), ?_⟩
    refine re_store H rfl rfl rfl rfl rfl rfl sh_46 rfl rfl rfl ?_
    intro cs w hcs H
    first | rw [setMany_whole rfl] at hcs | simp only [setMany, List.set_cons_zero, List.set_cons_succ, Nat.reduceAdd, Nat.zero_add, PS.cells, PS.over, GM.cells, Cmd.cells, List.cons_append, List.nil_append, RS.cellsV, RS.ch, stC, RS.decide, RS.accepted, RS.phase, GM.lent] at hcs
    subst hcs
    refine ⟨(fun h => (nomatch h)), ?_⟩
    refine re_nil ?_
    refine qe_thenC ?_
    refine ce_seq ?_
    refine ce_text (tab := []) (soft := 29294063) (.op 0 (.op 1 (.op 2 (.op 3 (.op 4 (.op 5 (.op 6 (.op 7 (.op 8 (.op 9 (.op 10 (.op 11 (.op 12 (.op 13 (.op 14 (.op 15 (.op 16 (.op 17 (.op 18 (.op 19 (.op 20 (.op 21 (.op 22 (.op 23 (.op 24 .nil))))))))))))))))))))))))) rfl rfl ?_
    refine re_move rfl rfl rfl rfl rfl ?_
    refine re_move rfl rfl rfl rfl rfl ?_
    refine re_load H rfl rfl rfl rfl rfl sh_46 (by first | exact rdAt_all rfl | (simp only [rdAt, PS.cells, PS.over, GM.cells, Cmd.cells, List.cons_append, List.nil_append, RS.cellsV, RS.ch, stC, RS.decide, RS.accepted, RS.phase, GM.lent, List.drop_succ_cons, List.drop_zero, List.take_succ_cons, List.take_zero, List.length_cons, List.length_nil, Nat.zero_add, Nat.reduceAdd, Nat.reduceLeDiff, Nat.le_refl, ↓reduceIte] <;> rfl)) ?_
    refine re_build rfl rfl rfl rfl rfl ze_48 pl_48 (by simp only [fillL, setMany, Value.cells, List.getElem?_cons_zero, List.getElem?_cons_succ, List.length_cons, List.length_nil, List.set_cons_zero, List.set_cons_succ, Nat.reduceAdd, Nat.reduceLeDiff, Nat.zero_add, and_self, ↓reduceIte]; rfl) ?_
    refine re_call en_8 rfl rfl rfl rfl rfl ?_
    refine Calls.mono (inv_fit (m := { GM.zero with kind := 14, fi := (k : Int), s0 := IntKind.i64.wrap (d3 + k), s1 := 2 }) rfl rfl ⟨rfl, rfl⟩ (.inl rfl) (inv_mid H hI)) ?_
    rintro e w ⟨rfl, I⟩
    refine ⟨_, rfl, (fun h => (nomatch h)), ?_⟩
    refine re_not rfl rfl rfl rfl rfl ?_
    refine re_move rfl rfl rfl rfl rfl ?_
    refine re_move rfl rfl rfl rfl rfl ?_
    refine re_move rfl rfl rfl rfl rfl ?_
    refine re_call en_9 rfl rfl rfl rfl rfl ?_
    refine Calls.mono (inv_shows I) ?_
    rintro e w ⟨rfl, I⟩
    refine ⟨_, rfl, (fun h => (nomatch h)), ?_⟩
    refine re_not rfl rfl rfl rfl rfl ?_
    refine re_pickF rfl rfl rfl rfl rfl rfl ?_
    refine re_move rfl rfl rfl rfl rfl ?_
    refine re_move rfl rfl rfl rfl rfl ?_
    refine re_move rfl rfl rfl rfl rfl ?_
    refine re_build rfl rfl rfl rfl rfl ze_48 pl_48 (by simp only [fillL, setMany, Value.cells, List.getElem?_cons_zero, List.getElem?_cons_succ, List.length_cons, List.length_nil, List.set_cons_zero, List.set_cons_succ, Nat.reduceAdd, Nat.reduceLeDiff, Nat.zero_add, and_self, ↓reduceIte]; rfl) ?_
    refine re_call en_8 rfl rfl rfl rfl rfl ?_
    refine Calls.mono (inv_tick rfl I) ?_
    rintro e w ⟨rfl, I⟩
    refine ⟨_, rfl, (fun h => (nomatch h)), ?_⟩
    refine re_not rfl rfl rfl rfl rfl ?_
    refine re_pickF rfl rfl rfl rfl rfl rfl ?_
    refine re_move rfl rfl rfl rfl rfl ?_
    refine re_move rfl rfl rfl rfl rfl ?_
    refine re_move rfl rfl rfl rfl rfl ?_
    refine re_call en_9 rfl rfl rfl rfl rfl ?_
    refine Calls.mono (inv_shows I) ?_
    rintro e w ⟨rfl, I⟩
    obtain ⟨L, H, hI⟩ := inv_open I
    refine ⟨_, rfl, (fun h => (nomatch h)), ?_⟩
    refine re_not rfl rfl rfl rfl rfl ?_
    refine re_pickF rfl rfl rfl rfl rfl rfl ?_
    refine re_nil ?_
    refine qe_thenC ?_
    refine ce_condF rfl ?_
    refine ce_skip ?_
    refine qe_block_norm ?_
    refine qe_thenC ?_
    refine ce_text (tab := []) (soft := 7) (.op 0 (.op 1 (.op 2 .nil))) rfl rfl ?_
    refine re_move rfl rfl rfl rfl rfl ?_
    first | refine re_add rfl rfl rfl rfl rfl rfl (by omega) ?_ | refine re_bin rfl rfl rfl rfl rfl rfl rfl ?_
    refine re_assign rfl rfl rfl rfl rfl ?_
    refine re_nil ?_
    refine qe_round (x := k) (k + 1) ?_ ?_ ?_
    · first | (dsimp only; omega) | omega
    · exact (And.intro rfl (And.intro rfl (And.intro rfl (And.intro rfl (And.intro rfl (And.intro rfl (And.intro rfl trivial)))))))
    · exact ⟨inv_out I, by omega⟩
  · try simp only [zn1, zn2, zn3, zn4, zn5, zn6] at h2
    refine ce_exit ?_
    refine qe_then_exit ?_
    refine qe_then_exit ?_
    refine qe_block_exit ?_
    refine qe_thenC ?_
    refine ce_seq ?_
    refine ce_seq ?_
    refine ce_text (tab := []) (soft := 1) (.op 0 .nil) rfl rfl ?_
    refine re_assign rfl rfl rfl rfl rfl ?_
    refine re_nil ?_
    refine qe_thenC ?_
    refine ce_block ?_
    refine ce_loop (α := Nat) (fun k => [(0, .int .i64 d1), (1, .int .i64 d2), (2, .int .i64 d3), (3, .int .i64 d4), (11, .pointer (some ⟨g, 0, none⟩)), (12, .pointer (some ⟨h, 0, none⟩)), (15, .int .i64 (k : Int))]) (fun k w => Inv B (.row (some g28) 3 3 1 3 (ints [1, 2, 3]) :: .row (some g22) 3 3 1 3 (ints [1, 2, 3]) :: .cells g10 28 [.int .i64 4, .int .i64 1, .int .i64 1, .string ByteArray.empty, .int .i64 0, .int .i64 0, .int .i64 0, .int .i64 0, .int .i64 0] :: .cells g9 24 [.int .i64 3, .int .i64 0, .int .i64 1, .int .i64 0] :: F) g h w ∧ k ≤ 6) (fun k => 6 - k) 0 (And.intro rfl (And.intro rfl (And.intro rfl (And.intro rfl (And.intro rfl (And.intro rfl (And.intro rfl trivial))))))) ⟨hI _ _ H, by omega⟩ ?_
    rintro k w HW
    obtain ⟨I, hk⟩ := HW
    change CE _ _ _ _ _ [(0, .int .i64 d1), (1, .int .i64 d2), (2, .int .i64 d3), (3, .int .i64 d4), (11, .pointer (some ⟨g, 0, none⟩)), (12, .pointer (some ⟨h, 0, none⟩)), (15, .int .i64 (k : Int))] _
    obtain ⟨L, H, hI⟩ := inv_open I
    refine ce_seq ?_
    refine ce_seq ?_
    refine ce_text (tab := []) (soft := 3) (.op 0 (.op 1 .nil)) rfl rfl ?_
    refine re_move rfl rfl rfl rfl rfl ?_
    refine re_bin rfl rfl rfl rfl rfl rfl rfl ?_
    refine re_nil ?_
    refine qe_thenC ?_
    refine ce_cond rfl (fun h4 => ?_) (fun h4 => ?_)
    · try simp only [zn1, zn2, zn3, zn4, zn5, zn6] at h4
      refine ce_skip ?_
      refine qe_thenC ?_
      refine ce_seq ?_
      refine ce_block ?_
      refine ce_seq ?_
      refine ce_text (tab := []) (soft := 7) (.op 0 (.op 1 (.op 2 (.op 3 (.op 4 .nil))))) rfl rfl ?_
      refine re_move rfl rfl rfl rfl rfl ?_
      refine re_build rfl rfl rfl rfl rfl ze_36 pl_36 (by simp only [fillL, setMany, Value.cells, List.getElem?_cons_zero, List.getElem?_cons_succ, List.length_cons, List.length_nil, List.set_cons_zero, List.set_cons_succ, Nat.reduceAdd, Nat.reduceLeDiff, Nat.zero_add, and_self, ↓reduceIte]; rfl) ?_
      refine re_build rfl rfl rfl rfl rfl ze_46 pl_46 (by simp only [fillL, setMany, Value.cells, List.getElem?_cons_zero, List.getElem?_cons_succ, List.length_cons, List.length_nil, List.set_cons_zero, List.set_cons_succ, Nat.reduceAdd, Nat.reduceLeDiff, Nat.zero_add, and_self, ↓reduceIte]; rfl) ?_
      refine re_alloc H rfl rfl rfl rfl ze_46 ?_
      intro g16 w H
      refine ⟨(fun h => (nomatch h)), ?_⟩
      refine re_store H rfl rfl rfl rfl rfl rfl sh_46 rfl rfl rfl ?_
      intro cs w hcs H
      first | rw [setMany_whole rfl] at hcs | simp only [setMany, List.set_cons_zero, List.set_cons_succ, Nat.reduceAdd, Nat.zero_add, PS.cells, PS.over, GM.cells, Cmd.cells, List.cons_append, List.nil_append, RS.cellsV, RS.ch, stC, RS.decide, RS.accepted, RS.phase, GM.lent] at hcs
      subst hcs
      refine ⟨(fun h => (nomatch h)), ?_⟩
      refine re_nil ?_
      refine qe_thenC ?_
      refine ce_seq ?_
      refine ce_seq ?_
      refine ce_text (tab := []) (soft := 3) (.op 0 (.op 1 .nil)) rfl rfl ?_
      refine re_move rfl rfl rfl rfl rfl ?_
      refine re_bin rfl rfl rfl rfl rfl rfl rfl ?_
      refine re_nil ?_
      refine qe_thenC ?_
      refine ce_cond rfl (fun h5 => ?_) (fun h5 => ?_)
      · try simp only [zn1, zn2, zn3, zn4, zn5, zn6] at h5
        refine ce_text (tab := []) (soft := 1) (.op 0 (.op 1 .nil)) rfl rfl ?_
        first | refine re_field0 rfl rfl rfl rfl rfl fo_46_0 ?_ | refine re_field rfl rfl rfl rfl rfl fo_46_0 ?_ | refine re_fieldA rfl rfl rfl rfl rfl fo_46_0 ?_
        refine re_store H rfl rfl rfl rfl rfl rfl sh_3 rfl rfl rfl ?_
        intro cs w hcs H
        first | rw [setMany_whole rfl] at hcs | simp only [setMany, List.set_cons_zero, List.set_cons_succ, Nat.reduceAdd, Nat.zero_add, PS.cells, PS.over, GM.cells, Cmd.cells, List.cons_append, List.nil_append, RS.cellsV, RS.ch, stC, RS.decide, RS.accepted, RS.phase, GM.lent] at hcs
        subst hcs
        refine ⟨(fun h => (nomatch h)), ?_⟩
        refine re_nil ?_
        refine qe_thenC ?_
        refine ce_seq ?_
        refine ce_text (tab := []) (soft := 3567) (.op 0 (.op 1 (.op 2 (.op 3 (.op 4 (.op 5 (.op 6 (.op 7 (.op 8 (.op 9 (.op 10 (.op 11 .nil)))))))))))) rfl rfl ?_
        refine re_move rfl rfl rfl rfl rfl ?_
        refine re_move rfl rfl rfl rfl rfl ?_
        refine re_load H rfl rfl rfl rfl rfl sh_46 (by first | exact rdAt_all rfl | (simp only [rdAt, PS.cells, PS.over, GM.cells, Cmd.cells, List.cons_append, List.nil_append, RS.cellsV, RS.ch, stC, RS.decide, RS.accepted, RS.phase, GM.lent, List.drop_succ_cons, List.drop_zero, List.take_succ_cons, List.take_zero, List.length_cons, List.length_nil, Nat.zero_add, Nat.reduceAdd, Nat.reduceLeDiff, Nat.le_refl, ↓reduceIte] <;> rfl)) ?_
        refine re_build rfl rfl rfl rfl rfl ze_48 pl_48 (by simp only [fillL, setMany, Value.cells, List.getElem?_cons_zero, List.getElem?_cons_succ, List.length_cons, List.length_nil, List.set_cons_zero, List.set_cons_succ, Nat.reduceAdd, Nat.reduceLeDiff, Nat.zero_add, and_self, ↓reduceIte]; rfl) ?_
        refine re_call en_8 rfl rfl rfl rfl rfl ?_
        refine Calls.mono (inv_fit (m := { GM.zero with kind := 15, fi := (k : Int), more := true }) rfl rfl ⟨rfl, rfl⟩ (.inr ⟨.inr rfl, rfl⟩) (inv_mid H hI)) ?_
        rintro e w ⟨rfl, I⟩
        refine ⟨_, rfl, (fun h => (nomatch h)), ?_⟩
        refine re_not rfl rfl rfl rfl rfl ?_
        refine re_move rfl rfl rfl rfl rfl ?_
        refine re_move rfl rfl rfl rfl rfl ?_
        refine re_move rfl rfl rfl rfl rfl ?_
        refine re_call en_9 rfl rfl rfl rfl rfl ?_
        refine Calls.mono (inv_shows I) ?_
        rintro e w ⟨rfl, I⟩
        obtain ⟨L, H, hI⟩ := inv_open I
        refine ⟨_, rfl, (fun h => (nomatch h)), ?_⟩
        refine re_not rfl rfl rfl rfl rfl ?_
        refine re_pickF rfl rfl rfl rfl rfl rfl ?_
        refine re_nil ?_
        refine qe_thenC ?_
        refine ce_condF rfl ?_
        refine ce_skip ?_
        refine qe_block_norm ?_
        refine qe_thenC ?_
        refine ce_text (tab := []) (soft := 7) (.op 0 (.op 1 (.op 2 .nil))) rfl rfl ?_
        refine re_move rfl rfl rfl rfl rfl ?_
        first | refine re_add rfl rfl rfl rfl rfl rfl (by omega) ?_ | refine re_bin rfl rfl rfl rfl rfl rfl rfl ?_
        refine re_assign rfl rfl rfl rfl rfl ?_
        refine re_nil ?_
        refine qe_round (x := k) (k + 1) ?_ ?_ ?_
        · first | (dsimp only; omega) | omega
        · exact (And.intro rfl (And.intro rfl (And.intro rfl (And.intro rfl (And.intro rfl (And.intro rfl (And.intro rfl trivial)))))))
        · exact ⟨inv_out I, by omega⟩
      · try simp only [zn1, zn2, zn3, zn4, zn5, zn6] at h5
        refine ce_skip ?_
        refine qe_thenC ?_
        refine ce_seq ?_
        refine ce_text (tab := []) (soft := 3567) (.op 0 (.op 1 (.op 2 (.op 3 (.op 4 (.op 5 (.op 6 (.op 7 (.op 8 (.op 9 (.op 10 (.op 11 .nil)))))))))))) rfl rfl ?_
        refine re_move rfl rfl rfl rfl rfl ?_
        refine re_move rfl rfl rfl rfl rfl ?_
        refine re_load H rfl rfl rfl rfl rfl sh_46 (by first | exact rdAt_all rfl | (simp only [rdAt, PS.cells, PS.over, GM.cells, Cmd.cells, List.cons_append, List.nil_append, RS.cellsV, RS.ch, stC, RS.decide, RS.accepted, RS.phase, GM.lent, List.drop_succ_cons, List.drop_zero, List.take_succ_cons, List.take_zero, List.length_cons, List.length_nil, Nat.zero_add, Nat.reduceAdd, Nat.reduceLeDiff, Nat.le_refl, ↓reduceIte] <;> rfl)) ?_
        refine re_build rfl rfl rfl rfl rfl ze_48 pl_48 (by simp only [fillL, setMany, Value.cells, List.getElem?_cons_zero, List.getElem?_cons_succ, List.length_cons, List.length_nil, List.set_cons_zero, List.set_cons_succ, Nat.reduceAdd, Nat.reduceLeDiff, Nat.zero_add, and_self, ↓reduceIte]; rfl) ?_
        refine re_call en_8 rfl rfl rfl rfl rfl ?_
        refine Calls.mono (inv_fit (m := { GM.zero with kind := 13, fi := (k : Int), more := true }) rfl rfl ⟨rfl, rfl⟩ (.inr ⟨.inl rfl, rfl⟩) (inv_mid H hI)) ?_
        rintro e w ⟨rfl, I⟩
        refine ⟨_, rfl, (fun h => (nomatch h)), ?_⟩
        refine re_not rfl rfl rfl rfl rfl ?_
        refine re_move rfl rfl rfl rfl rfl ?_
        refine re_move rfl rfl rfl rfl rfl ?_
        refine re_move rfl rfl rfl rfl rfl ?_
        refine re_call en_9 rfl rfl rfl rfl rfl ?_
        refine Calls.mono (inv_shows I) ?_
        rintro e w ⟨rfl, I⟩
        obtain ⟨L, H, hI⟩ := inv_open I
        refine ⟨_, rfl, (fun h => (nomatch h)), ?_⟩
        refine re_not rfl rfl rfl rfl rfl ?_
        refine re_pickF rfl rfl rfl rfl rfl rfl ?_
        refine re_nil ?_
        refine qe_thenC ?_
        refine ce_condF rfl ?_
        refine ce_skip ?_
        refine qe_block_norm ?_
        refine qe_thenC ?_
        refine ce_text (tab := []) (soft := 7) (.op 0 (.op 1 (.op 2 .nil))) rfl rfl ?_
        refine re_move rfl rfl rfl rfl rfl ?_
        first | refine re_add rfl rfl rfl rfl rfl rfl (by omega) ?_ | refine re_bin rfl rfl rfl rfl rfl rfl rfl ?_
        refine re_assign rfl rfl rfl rfl rfl ?_
        refine re_nil ?_
        refine qe_round (x := k) (k + 1) ?_ ?_ ?_
        · first | (dsimp only; omega) | omega
        · exact (And.intro rfl (And.intro rfl (And.intro rfl (And.intro rfl (And.intro rfl (And.intro rfl (And.intro rfl trivial)))))))
        · exact ⟨inv_out I, by omega⟩
    · try simp only [zn1, zn2, zn3, zn4, zn5, zn6] at h4
      refine ce_exit ?_
      refine qe_then_exit ?_
      refine qe_then_exit ?_
      refine qe_block_exit ?_
      refine qe_thenC ?_
      refine ce_seq ?_
      refine ce_open (tab := [0, 1, 0, 4, 12, 28, 63, 127]) (soft := 253) mixed (.op 0 (.op 2 (.op 3 (.op 4 (.op 5 (.op 1 (.op 6 (.op 7 .nil)))))))) (by kernel_rfl) H ?_
      intro w H
      obtain ⟨p, r, a1, a2, a3, a4, Y, H, hwn⟩ := inv_wn (hI _ _ H)
      refine re_move rfl rfl rfl rfl rfl ?_
      refine re_move rfl rfl rfl rfl rfl ?_
      refine re_nilc rfl rfl rfl rfl rfl ?_
      first | refine re_field0 rfl rfl rfl rfl rfl fo_54_17 ?_ | refine re_field rfl rfl rfl rfl rfl fo_54_17 ?_ | refine re_fieldA rfl rfl rfl rfl rfl fo_54_17 ?_
      refine re_load H rfl rfl rfl rfl rfl sh_4 rfl ?_
      refine re_call en_11 rfl rfl rfl rfl rfl ?_
      refine Calls.mono (worn_s H) ?_
      rintro e w ⟨rfl, H⟩
      refine ⟨_, rfl, (fun _ => ⟨fun _ => still_load H sh_4 rfl, trivial⟩), ?_⟩
      refine re_binW rfl rfl rfl rfl rfl rfl (run_bools ul_4 (.inl ⟨rfl, rfl⟩)) ?_
      refine re_assign rfl rfl rfl rfl rfl ?_
      refine re_nil ?_
      refine qe_noPanic ?_
      refine qe_thenC ?_
      refine ce_ret ?_
      refine qe_end rfl rfl ?_
      exact ⟨by simp [hwn], H.tail.tail.append_right.drop 4⟩
end Go.Proofs.Ytofaoblfemfkiaa

/- The row's end, where nothing old has turned ('Below'): what is known of the old blocks is enough. No program in sight. -/
namespace Go.Fw
open Go Go.RowKit Go.ChangeShapes
theorem Own.below_ {B w : World} {L : List Ent} (h : Own B L w) : Below B.heap.size B w := ⟨h.os, h.tape, h.output, h.size, h.old⟩
section
variable {H : Type} {enc : TypeId × Value → H} {P : Program}
theorem post_below {f : Func} {s : ChangeSpec} {apart fresh handsOn again : Bool} {W W' : World} {args : Array Value} {v : Value} {ds gs : List (DataW H)} {before pa pv : List MemPlace}
    (hW : DataW.Whole enc P f.params.toList s.vars apart W args.toList ds gs before)
    (hres : ∀ (b : Nat) (sp : Nat → Bool) (hd : Bool), DataW.TrodAll enc P W' b sp hd f.resultTypes.toList (v.resultList f.resultTypes.size) (s.fn H (ds ++ gs)).results [])
    (hargs : ∀ sp : Nat → Bool, (∀ p ∈ before, sp p.block = true) → DataW.TrodAll enc P W' 0 sp true f.params.toList args.toList (s.fn H (ds ++ gs)).args pa)
    (hvars : ∀ sp : Nat → Bool, (∀ p ∈ before, sp p.block = true) → DataW.TrodVars enc P W' sp s.vars (s.fn H (ds ++ gs)).vars pv)
    (hps : before = pa ++ pv) (hb : Below W.heap.size W W')
    (hok : ∀ (j : Nat) (t : TypeId) (r : Value), f.resultTypes[j]? = some t → (v.resultList f.resultTypes.size)[j]? = some r → Value.okWide P W' .any 0 t r) :
    s.post enc P f apart fresh handsOn again W args v W' := by
  have hlt : ∀ p ∈ before, p.block < W.heap.size := fun p hp => by simpa using hW.lt p hp
  have hold : ∀ p ∈ before, (fun b => decide (b < W.heap.size)) p.block = true := fun p hp => by simpa using hW.lt p hp
  refine ⟨ds, gs, before, [], pa, pv, hW, hres _ _ _, hargs _ hold, hvars _ hold, World.keptBut_mono (fun p hp => ⟨hp, ?_⟩) (hb.frame (· ∈ before)), fun _ => ?_⟩
  · rw [hps, List.mem_append] at hp
    exact Or.inr hp
  · obtain ⟨_, _, _, _, _, hz, hn⟩ := hW
    refine ⟨hok, _, _, ([] ++ pa) ++ pv, ⟨[] ++ pa, pv, trodAll_append (hargs _ (fun _ _ => rfl)) (hres _ _ _), hvars _ (fun _ _ => rfl), rfl, ?_, ?_⟩, ?_⟩
    · intro b off hp
      have hm : MemPlace.cell b off ∈ before := by rw [hps]; simpa using hp
      rw [hb.frozen (hlt _ hm)]
      exact hz b off hm
    · intro ha
      have := hn ha
      rw [hps] at this
      simpa using this
    · intro p hp _
      rw [hps]
      simpa using hp
end
end Go.Fw
