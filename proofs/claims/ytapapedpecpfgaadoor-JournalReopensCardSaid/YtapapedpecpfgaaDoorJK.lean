/- slices.Chunk of bytes. -/
import Derived.Test.YtapapedpecpfgaaDoorJI
set_option linter.unusedVariables false
set_option linter.unusedSimpArgs false
namespace Go.Proofs.YtapapedpecpfgaaDoor.J
open Go.RowKit Go.Shelf Go.Proofs.YtapapedpecpfgaaDoorW.PrintWords

attribute [local go_sem] Oper.semAt_some

/-- These blocks are as they were. -/
def Same3 (a b c : Nat) (W W' : World) : Prop := W'.heap[a]? = W.heap[a]? ∧ W'.heap[b]? = W.heap[b]? ∧ W'.heap[c]? = W.heap[c]?
theorem Same3.refl (a b c : Nat) (W : World) : Same3 a b c W W := ⟨rfl, rfl, rfl⟩
theorem Same3.trans {a b c : Nat} {X Y Z : World} (h : Same3 a b c X Y) (k : Same3 a b c Y Z) : Same3 a b c X Z := ⟨k.1.trans h.1, k.2.1.trans h.2.1, k.2.2.trans h.2.2⟩

/-- The k-th part of size bytes. -/
def cEnc (bb size : Nat) (x : Nat) : Array Value := #[.slice (some ⟨bb, x * size, none⟩) size size]
def Upto (k : Nat) (l : List Nat) : Prop := l = List.range k
theorem Upto.snoc {k : Nat} {l : List Nat} (h : Upto k l) : Upto (k + 1) (l ++ [k]) := by rw [h]; exact (List.range_succ).symm

attribute [local go_sem] jmin2 jmin
set_option maxRecDepth 100000 in
set_option maxHeartbeats 2000000 in
theorem chunk1_in (n : Nat) (hn : 1 ≤ n) (l B1 B2 bb size cnt len cap : Nat) (hlen : len = cnt * size) (hs0 : 0 < size) (hs1 : size ≤ 4096) (hc1 : cnt ≤ 100000) (hcap : len ≤ cap) (J Jx : List Nat → World → Prop) (hJd : ∀ pre W, J pre W → J pre W.drew)
    (hY : ∀ pre x W, J pre W → pre.length < cnt → YieldAt Fence.wide (n - 1) Tryd.prog l (cEnc bb size x) W fun e W' =>
      (e = .returned (.bool true) ∧ J (pre ++ [x]) W' ∧ Same3 B1 B2 bb W W') ∨ (e = .returned (.bool false) ∧ Jx (pre ++ [x]) W'))
    (W : World) (hB1 : W.cell? ⟨B1, 0, none⟩ = some (.slice (some ⟨bb, 0, none⟩) len cap)) (hB2 : W.cell? ⟨B2, 0, none⟩ = some (.int .i64 size)) (h0 : J [] W) :
    CallsIn Fence.wide n Tryd.prog 61 #[.func (.yield l) #[] #[], .pointer (some ⟨B1, 0, none⟩), .pointer (some ⟨B2, 0, none⟩)] W fun e W' => (∃ v, e = .returned v) ∧
      ((∃ ys, Upto cnt ys ∧ J ys W') ∨ (∃ pre, (∃ k, k ≤ cnt ∧ Upto k pre) ∧ Jx pre W')) := by
  refine callsIn_of_wp Tryd.func61 rfl trivial ?_ rfl
  simp only [Tryd.ntmps61, List.size_toArray, List.length_cons, List.length_nil, Nat.reduceAdd, Nat.reduceSub, Array.replicate_succ, Array.replicate_zero, List.push_toArray, List.append_toArray, List.nil_append, List.cons_append]
  gi_wp2
  have HLEN := Lib.hid hlen
  clear hlen
  gi_loopw [4] (fun i wr => ∃ (k : Nat) (pre : List Nat), k ≤ cnt ∧ i = .int .i64 ((k * size : Nat) : Int) ∧ Upto k pre ∧ J pre wr ∧ wr.cell? ⟨B1, 0, none⟩ = some (.slice (some ⟨bb, 0, none⟩) len cap) ∧ wr.cell? ⟨B2, 0, none⟩ = some (.int .i64 size))
    (fun i _ => len - (intOf i).toNat)
  case atStart => exact ⟨0, [], Nat.zero_le _, by simp, rfl, h0, hB1, hB2⟩
  case round =>
    obtain ⟨k, pre, hk, rfl, hpre, hJs, hb1, hb2⟩ := hrel
    have hPre := Lib.hid hpre
    have hpl : pre.length = k := by rw [hpre]; simp
    clear hpre hB1 hB2
    obtain ⟨o, ho⟩ : ∃ o, k * size = o := ⟨_, rfl⟩
    rw [ho]
    by_cases hlt : k < cnt
    · obtain ⟨fn, tmps, assign, body, hy, hR⟩ := hY pre k wr.drew (hJd _ _ hJs) (by omega)
      simp only [cEnc, ho] at hy
      have hol : o + size ≤ len := by
        rw [HLEN.out, ← ho]
        have := Nat.mul_le_mul_right size (show k + 1 ≤ cnt by omega)
        rw [Nat.succ_mul] at this
        exact this
      have hlb : len ≤ 409600000 := by
        rw [HLEN.out]
        calc cnt * size ≤ 100000 * 4096 := Nat.mul_le_mul hc1 hs1
          _ = 409600000 := by decide
      have HO := Lib.hid ho
      have HPL := Lib.hid hpl
      clear ho hpl
      have ho0 : (0 : Int) ≤ (o : Int) := by omega
      have ho1 : (o : Int) ≤ (len : Int) := by omega
      have ho2 : (len : Int) ≤ (cap : Int) := by omega
      have ho3 : ¬ cap = o := by omega
      have ho4 : (o : Int) + (size : Int) ≤ (len : Int) := by omega
      gi_wp2
      gi_region
      gi_wp2
      refine hR.mono ?_
      rintro e W3 (⟨rfl, hJ3, hk3⟩ | ⟨rfl, hJx3⟩)
      · have k1 := (World.cell?_of_block (w := wr) (a := ⟨B1, 0, none⟩) hk3.1).trans hb1
        have k2 := (World.cell?_of_block (w := wr) (a := ⟨B2, 0, none⟩) hk3.2.1).trans hb2
        clear hb1 hb2
        gi_wp2
        go_roundw
        case rel => exact ⟨k + 1, pre ++ [k], by omega, by have := HO.out; rw [Nat.succ_mul, this]; go_num, hPre.out.snoc, hJ3, k1, k2⟩
        case measure => simp [intOf]; omega
      · gi_wp2
        refine bodyPost_ret (results_none rfl _ _ _) rfl ?_
        exact ⟨⟨_, rfl⟩, .inr ⟨_, ⟨k + 1, by omega, hPre.out.snoc⟩, hJx3⟩⟩
    · obtain rfl : k = cnt := by omega
      have hol : o = len := by rw [HLEN.out, ← ho]
      subst hol
      have HO := Lib.hid ho
      clear ho
      gi_wp2
      go_end0
      exact ⟨⟨_, rfl⟩, .inl ⟨pre, hPre.out, hJs⟩⟩

/-- slices.Chunk: the two are boxed; the function value captures the boxes. -/
theorem chunk_in (n : Nat) (A : Option Addr) (len cap size : Nat) (hs : 0 < size) (w : World) :
    CallsIn Fence.wide n Tryd.prog 56 #[.slice A len cap, .int .i64 size] w fun e w' => e = .returned (.func (.func 61) #[] #[.pointer (some ⟨w.heap.size, 0, none⟩), .pointer (some ⟨w.heap.size + 1, 0, none⟩)]) ∧
      w' = (w.alloc (.cells #[.slice A len cap] 39)).alloc (.cells #[.int .i64 size] 3) := by
  refine callsIn_of_wp Tryd.func56 rfl trivial ?_ rfl
  simp only [Tryd.ntmps56, List.size_toArray, List.length_cons, List.length_nil, Nat.reduceAdd, Nat.reduceSub, Array.replicate_succ, Array.replicate_zero, List.push_toArray, List.append_toArray, List.nil_append, List.cons_append]
  gi_wp2
  go_ret
  exact ⟨rfl, rfl⟩
end Go.Proofs.YtapapedpecpfgaaDoor.J
