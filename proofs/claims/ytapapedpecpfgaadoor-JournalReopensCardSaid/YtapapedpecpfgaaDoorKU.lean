/- The list of operations, out of what the row says of memory. -/
import Derived.Test.YtapapedpecpfgaaDoorKS
import Derived.ProofKit
import Derived.Deep.Matrix
import Derived.OpenShut
import Derived.Lib.SmallJoins
set_option linter.unusedVariables false
set_option linter.unusedSimpArgs false
namespace Go.Proofs.YtapapedpecpfgaaDoor.J
open Go.RowKit Go.ChangeShapes Go.Deep Go.Proofs.YtapapedpecpfgaaDoorW.PrintWords

theorem c3 : Tryd.prog.cellsOf 3 = 1 := by kernel_rfl
theorem c5' : Tryd.prog.cellsOf 5 = 1 := by kernel_rfl
theorem c32 : Tryd.prog.cellsOf 32 = 1 := by kernel_rfl
theorem c33 : Tryd.prog.cellsOf 33 = 1 := by kernel_rfl
theorem c39 : Tryd.prog.cellsOf 39 = 1 := by kernel_rfl
theorem c35 : Tryd.prog.cellsOf 35 = 4 := by kernel_rfl
section
variable {H : Type} {enc : TypeId × Value → H} {W : World}
theorem recs_of_trod {fuel : Nat} {v : Value} {y : DataW H × List MemPlace} (h : DataW.trod enc Tryd.prog W 0 (fun _ => true) true fuel 32 [v] = some y) :
    ∃ A n c rss, v = .slice A n c ∧ n ≤ c ∧ RdRecs W (fun k => k < W.heap.size) A n rss ∧ ∀ r ∈ rss, Byts r := by
  rcases open_int_rows Tryd.underlying32 Tryd.underlying39 Tryd.underlying5 c39 c5' h with ⟨h0, _⟩ | ⟨a, len, cap, A, L, C, Z, h0, _, hl, _, _, hx⟩
  · simp at h0
    subst h0
    exact ⟨none, 0, 0, [], rfl, Nat.le_refl _, ⟨rfl, fun h => absurd h (by omega)⟩, fun r hr => by simp at hr⟩
  · simp at h0
    subst h0
    have hlen : ∀ r, r < len → ((Z r).take (L r)).length = L r := fun r hr => by
      obtain ⟨_, h1, h2, h3, h4, _⟩ := hx r (by omega)
      rw [List.length_take, h3]
      omega
    refine ⟨some a, len, cap, (List.range len).map (fun r => (Z r).take (L r)), rfl, hl, ⟨by simp, fun h0 => ⟨a, rfl, ?_, fun i hi => ?_⟩⟩, fun r hr => ?_⟩
    · obtain ⟨h1, _⟩ := hx 0 (by omega)
      have := World.block_lt_of_cell? W _ h1
      rwa [add_zero'] at this
    · obtain ⟨h1, h2, h3, h4, h5, h6, h7⟩ := hx i (by omega)
      have hg : ((List.range len).map (fun r => (Z r).take (L r))).getD i [] = (Z i).take (L i) := by
        simp [List.getD_eq_getElem?_getD, List.getElem?_range hi]
      have hli := hlen i hi
      rw [hg]
      refine ⟨_, h1, A i, C i, by rw [hli], by rw [hli]; exact h2, ?_, fun ad e _ => ?_⟩
      · refine ⟨rfl, by rw [hli]; unfold maxLen at h3; omega, fun hp => ?_⟩
        rw [hli] at hp ⊢
        cases hA : A i with
        | none => have := h6 hA; omega
        | some a' =>
          refine ⟨a', rfl, fun j hj => ?_⟩
          rw [(h7 a' hA).2 j (by omega)]
          simp [List.getD_eq_getElem?_getD, List.getElem?_take, hj]
      · by_cases hz : 0 < C i
        · have := World.block_lt_of_cell? W _ ((h7 ad e).2 0 hz)
          rwa [add_zero'] at this
        · rename_i hp
          rw [hli] at hp
          omega
    · obtain ⟨i, hi, rfl⟩ := List.mem_map.1 hr
      obtain ⟨_, _, _, _, h5, _⟩ := hx i (by have := List.mem_range.1 hi; omega)
      intro z hz
      have := h5 z (List.mem_of_mem_take hz)
      simp [Lit.wf] at this
      have e1 : IntKind.u8.min = 0 := by decide
      have e2 : IntKind.u8.max = 255 := by decide
      omega
set_option maxRecDepth 100000 in
theorem op_of_trod {fuel : Nat} {ad : Addr} {cs' : List Value} {y : DataW H × List MemPlace} (h1 : W.cells? 0 ad 4 = some cs') (h2 : DataW.trod enc Tryd.prog W 0 (fun _ => true) true fuel 35 cs' = some y) :
    ∃ (o : OpV) (A1 : Option Addr) (n1 c1 : Nat) (N v3 : Value), ad.block < W.heap.size ∧ W.cell? ad = some (.int .i64 o.kind) ∧ W.cell? ⟨ad.block, ad.off + 1, none⟩ = some (.slice A1 n1 c1) ∧ W.cell? ⟨ad.block, ad.off + 2, none⟩ = some N ∧ W.cell? ⟨ad.block, ad.off + 3, none⟩ = some v3 ∧ n1 ≤ c1 ∧ RdRecs W (fun k => k < W.heap.size) A1 n1 o.batch ∧ ∀ r ∈ o.batch, Byts r := by
  obtain ⟨_, hlen, hcell⟩ := World.cells?_some h1
  obtain ⟨y0, y1, y2, y3, k, _, _, g0, g1, g2, g3⟩ := Joins.trod_struct4 Tryd.underlying35 h2
  match cs', hlen with
  | [v0, v1, v2, v3], _ =>
    simp [c3, c32, c33] at g0 g1 g2 g3
    obtain ⟨kd, e0, _⟩ := DataW.trod_int Tryd.underlying3 g0
    simp at e0
    subst e0
    obtain ⟨A1, n1, c1, rss, rfl, hnc, hrd, hby⟩ := recs_of_trod g1
    have q0 := hcell 0 (by omega)
    have q1 := hcell 1 (by omega)
    have q2 := hcell 2 (by omega)
    have q3 := hcell 3 (by omega)
    have e : ∀ j, 0 < j → ad.add j = ⟨ad.block, ad.off + j, none⟩ := fun j hj => by
      have := add_field ad 0 j hj
      rw [Nat.zero_add, add_zero'] at this
      exact this
    rw [add_zero'] at q0
    rw [e 1 (by omega)] at q1
    rw [e 2 (by omega)] at q2
    rw [e 3 (by omega)] at q3
    exact ⟨⟨kd, rss⟩, A1, n1, c1, v2, v3, World.block_lt_of_cell? W _ q0, q0, q1, q2, q3, hnc, hrd, hby⟩
instance : Inhabited OpV := ⟨op0⟩
set_option maxRecDepth 100000 in
theorem ops_of_trod {fuel : Nat} {v : Value} {y : DataW H × List MemPlace} (h : DataW.trod enc Tryd.prog W 0 (fun _ => true) true fuel 22 [v] = some y) :
    ∃ A n c ops, v = .slice A n c ∧ n ≤ 9223372036854775807 ∧ OpsAt W (fun k => k < W.heap.size) A n ops ∧ ∀ i, i < n → ∀ r ∈ (ops.getD i op0).batch, Byts r := by
  rcases open_slice Tryd.underlying22 h with ⟨h0, _⟩ | ⟨a, len, cap, m, nn, D, Pl, h0, _, hl, hm, hmm, _, hx⟩
  · simp at h0
    subst h0
    exact ⟨none, 0, 0, [], rfl, by omega, ⟨rfl, fun i hi => by omega⟩, fun i hi => by omega⟩
  · simp at h0
    subst h0
    have hml : len ≤ m := by rw [hmm]; simp; exact hl
    have each : ∀ i, i < len → ∃ o : OpV, (∃ (A1 : Option Addr) (n1 c1 : Nat) (N v3 : Value), (a.add (i * 4)).block < W.heap.size ∧ W.cell? (a.add (i * 4)) = some (.int .i64 o.kind) ∧ W.cell? ⟨(a.add (i * 4)).block, (a.add (i * 4)).off + 1, none⟩ = some (.slice A1 n1 c1) ∧ W.cell? ⟨(a.add (i * 4)).block, (a.add (i * 4)).off + 2, none⟩ = some N ∧ W.cell? ⟨(a.add (i * 4)).block, (a.add (i * 4)).off + 3, none⟩ = some v3 ∧ n1 ≤ c1 ∧ RdRecs W (fun k => k < W.heap.size) A1 n1 o.batch) ∧ ∀ r ∈ o.batch, Byts r := fun i hi => by
      obtain ⟨cs', h1, h2⟩ := hx i (by omega)
      rw [c35] at h1
      obtain ⟨o, A1, n1, c1, N, v3, r0, r1, r2, r3, r4, r5, r6, r7⟩ := op_of_trod h1 h2
      exact ⟨o, ⟨A1, n1, c1, N, v3, r0, r1, r2, r3, r4, r5, r6⟩, r7⟩
    obtain ⟨q, hq⟩ := choose_lt each
    have hg : ∀ i, i < len → ((List.range len).map q).getD i op0 = q i := fun i hi => by simp [List.getD_eq_getElem?_getD, List.getElem?_range hi]
    refine ⟨some a, len, cap, (List.range len).map q, rfl, by unfold maxLen at hm; omega, ⟨by simp, fun i hi => ?_⟩, fun i hi r hr => ?_⟩
    · obtain ⟨A1, n1, c1, N, v3, r0, r1, r2, r3, r4, r5, r6⟩ := (hq i hi).1
      rw [hg i hi]
      exact ⟨a, A1, n1, c1, N, v3, rfl, by rw [show (a.add (i * 4)).block = a.block by unfold Addr.add; split <;> rfl] at r0; exact r0, r1, r2, r3, r4, r5, r6⟩
    · rw [hg i hi] at hr
      exact (hq i hi).2 r hr
end
end Go.Proofs.YtapapedpecpfgaaDoor.J
