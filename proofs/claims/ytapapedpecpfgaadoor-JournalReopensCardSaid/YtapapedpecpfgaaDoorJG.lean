/- slices.Backward over the pending writes. -/
import Derived.Test.YtapapedpecpfgaaDoorJF
import Derived.RangeFuncNested
import Derived.RangeFuncBound
import Derived.RangeFuncCalls
import Derived.RangeFuncLeaves
import Derived.Shelf.Abstract
import Derived.Shelf.RegionOpen
import Derived.OwnWalkIn
import Derived.TacticsInMore
import Derived.LoopNIn
import Derived.LoopIn
set_option linter.unusedVariables false
set_option linter.unusedSimpArgs false
namespace Go.Proofs.YtapapedpecpfgaaDoor.J
open Go.RowKit Go.Shelf Go.Proofs.YtapapedpecpfgaaDoorW.PrintWords

attribute [local go_sem] Oper.semAt_some

/-- An index and the write there. -/
abbrev PAt (ps : List PW) : Type := { x : Nat × PW // ps[x.1]? = some x.2 }
def pEnc (sz : Nat) {ps : List PW} (x : PAt ps) : Array Value := #[.int .i64 (x.1.1 : Int), .agg #[.int .i64 x.1.2.sec, .slice (some ⟨x.1.2.blk, 0, none⟩) sz x.1.2.cap]]
/-- The first k from the end. -/
def Bwd {ps : List PW} (k : Nat) (l : List (PAt ps)) : Prop := l.length = k ∧ ∀ j (x : PAt ps), l[j]? = some x → x.1.1 + j + 1 = ps.length
theorem Bwd.snoc {ps : List PW} {k : Nat} {l : List (PAt ps)} (h : Bwd k l) (x : PAt ps) (hx : x.1.1 + k + 1 = ps.length) : Bwd (k + 1) (l ++ [x]) := by
  refine ⟨by simp [h.1], fun j y hy => ?_⟩
  rcases Nat.lt_trichotomy j k with hj | hj | hj
  · rw [List.getElem?_append_left (by rw [h.1]; exact hj)] at hy
    exact h.2 j y hy
  · subst hj
    rw [List.getElem?_append_right (by rw [h.1]; exact Nat.le_refl _)] at hy
    simp [h.1] at hy
    subst hy
    exact hx
  · rw [List.getElem?_append_right (by rw [h.1]; omega)] at hy
    rw [List.getElem?_eq_none (by simp [h.1]; omega)] at hy
    cases hy

set_option maxRecDepth 100000 in
set_option maxHeartbeats 2000000 in
theorem backward1_in (n : Nat) (hn : 1 ≤ n) (l Bs n₀ sz gb cap : Nat) (ps : List PW) (hb : 0 < ps.length → gb < n₀) (hBn : Bs < n₀) (hlen : ps.length ≤ 1000000) (J Jx : List (PAt ps) → World → Prop)
    (hY : ∀ pre (x : PAt ps) W, J pre W → pre.length < ps.length → YieldAt Fence.wide (n - 1) Tryd.prog l (pEnc sz x) W fun e W' =>
      (e = .returned (.bool true) ∧ J (pre ++ [x]) W' ∧ Below n₀ W W') ∨ (e = .returned (.bool false) ∧ Jx (pre ++ [x]) W'))
    (W : World) (A : Option Addr) (hA : 0 < ps.length → A = some ⟨gb, 0, none⟩) (hBs : W.cell? ⟨Bs, 0, none⟩ = some (.slice A ps.length cap))
    (hc : ∀ j p, ps[j]? = some p → W.cell? ⟨gb, j * 2, none⟩ = some (.int .i64 p.sec) ∧ W.cell? ⟨gb, j * 2 + 1, none⟩ = some (.slice (some ⟨p.blk, 0, none⟩) sz p.cap)) (h0 : J [] W) :
    CallsIn Fence.wide n Tryd.prog 57 #[.func (.yield l) #[] #[], .pointer (some ⟨Bs, 0, none⟩)] W fun e W' => (∃ v, e = .returned v) ∧
      ((∃ ys, Bwd ps.length ys ∧ J ys W') ∨ (∃ pre, (∃ k, k ≤ ps.length ∧ Bwd k pre) ∧ Jx pre W')) := by
  refine callsIn_of_wp Tryd.func57 rfl trivial ?_ rfl
  simp only [Tryd.ntmps57, List.size_toArray, List.length_cons, List.length_nil, Nat.reduceAdd, Nat.reduceSub, Array.replicate_succ, Array.replicate_zero, List.push_toArray, List.append_toArray, List.nil_append, List.cons_append]
  have HC := Lib.hid hc
  clear hc
  gi_wp2
  gi_loopw [3] (fun i wr => ∃ (k : Nat) (pre : List (PAt ps)), k ≤ ps.length ∧ i = .int .i64 ((ps.length : Int) - k - 1) ∧ Bwd k pre ∧ J pre wr ∧ Below n₀ W wr)
    (fun i _ => (intOf i + 1).toNat)
  case atStart => exact ⟨0, [], Nat.zero_le _, by go_num, ⟨rfl, fun j x h => by simp at h⟩, h0, Below.refl _ _⟩
  case round =>
    obtain ⟨k, pre, hk, rfl, hpre, hJs, hnx⟩ := hrel
    have hPre := Lib.hid hpre
    have hpl := hpre.1
    clear hpre
    by_cases hlt : k < ps.length
    · obtain rfl := hA (by omega)
      obtain ⟨j, hj⟩ : ∃ j, j + k + 1 = ps.length := ⟨ps.length - k - 1, by omega⟩
      have hji : (ps.length : Int) - k - 1 = (j : Int) := by omega
      obtain ⟨p, hp⟩ : ∃ p, ps[j]? = some p := ⟨_, List.getElem?_eq_getElem (by omega)⟩
      obtain ⟨x, hx⟩ : ∃ x : PAt ps, x = ⟨(j, p), hp⟩ := ⟨_, rfl⟩
      have hye : pEnc sz x = #[.int .i64 (j : Int), .agg #[.int .i64 p.sec, .slice (some ⟨p.blk, 0, none⟩) sz p.cap]] := by rw [hx]; rfl
      have hx1 : x.1.1 = j := by rw [hx]
      have hyy := hY pre x wr hJs (by omega)
      rw [hye] at hyy
      obtain ⟨fn, tmps, assign, body, hy, hR⟩ := hyy
      have hbs' : wr.cell? ⟨Bs, 0, none⟩ = some (.slice (some ⟨gb, 0, none⟩) ps.length cap) := (hnx.cell (p := ⟨Bs, 0, none⟩) hBn).trans hBs
      have hc1 := (hnx.cell (p := ⟨gb, j * 2, none⟩) (hb (by omega))).trans (HC.out j p hp).1
      have hc2 := (hnx.cell (p := ⟨gb, j * 2 + 1, none⟩) (hb (by omega))).trans (HC.out j p hp).2
      rw [hji]
      have hjl : j < ps.length := by omega
      have HJ := Lib.hid hj
      have HP := Lib.hid hp
      have HPL := Lib.hid hpl
      have HX1 := Lib.hid hx1
      clear hj hji hp hpl hBs hx hye hx1 hA
      gi_wp2
      refine hR.mono ?_
      rintro e W3 (⟨rfl, hJ3, hk3⟩ | ⟨rfl, hJx3⟩)
      · gi_wp2
        go_roundw
        case rel => exact ⟨k + 1, pre ++ [x], by omega, by have := HJ.out; go_num, hPre.out.snoc x (by rw [HX1.out]; exact HJ.out), hJ3, hnx.trans hk3⟩
        case measure => have := HJ.out; simp [intOf]
      · gi_wp2
        refine bodyPost_ret (results_none rfl _ _ _) rfl ?_
        exact ⟨⟨_, rfl⟩, .inr ⟨_, ⟨k + 1, by omega, hPre.out.snoc x (by rw [HX1.out]; exact HJ.out)⟩, hJx3⟩⟩
    · obtain rfl : k = ps.length := by omega
      have hz : ((ps.length : Int) - ps.length - 1) = -1 := by omega
      rw [hz]
      clear hz
      gi_wp2
      go_end0
      exact ⟨⟨_, rfl⟩, .inl ⟨pre, hPre.out, hJs⟩⟩

/-- slices.Backward: the slice is boxed; the function value captures the box. -/
theorem backward_in (n : Nat) (A : Option Addr) (len cap : Nat) (w : World) :
    CallsIn Fence.wide n Tryd.prog 46 #[.slice A len cap] w fun e w' => e = .returned (.func (.func 57) #[] #[.pointer (some ⟨w.heap.size, 0, none⟩)]) ∧ w' = w.alloc (.cells #[.slice A len cap] 53) := by
  refine callsIn_of_wp Tryd.func46 rfl trivial ?_ rfl
  simp only [Tryd.ntmps46, List.size_toArray, List.length_cons, List.length_nil, Nat.reduceAdd, Nat.reduceSub, Array.replicate_succ, Array.replicate_zero, List.push_toArray, List.append_toArray, List.nil_append, List.cons_append]
  gi_wp2
  go_ret
  exact ⟨rfl, rfl⟩
end Go.Proofs.YtapapedpecpfgaaDoor.J
