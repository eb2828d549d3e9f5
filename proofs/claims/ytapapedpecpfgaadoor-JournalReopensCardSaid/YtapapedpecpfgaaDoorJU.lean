/- The Journal's small functions. -/
import Derived.Test.YtapapedpecpfgaaDoorJT
set_option linter.unusedVariables false
set_option linter.unusedSimpArgs false
namespace Go.Proofs.YtapapedpecpfgaaDoor.J
open Go.RowKit Go.Proofs.YtapapedpecpfgaaDoorW.PrintWords

def num4 (n : Int) : List Int := [n / 16777216, n / 65536 % 256, n / 256 % 256, n % 256]
def NumPost (w : World) (B : Nat) (xs : List Int) (n : Int) (e : Ending) (w' : World) : Prop :=
  ∃ v1, e = .returned v1 ∧ w'.ownsRow B 5 1 v1 (xs ++ num4 n).length (nums .u8 (xs ++ num4 n)) ∧ Below B w w'
set_option maxHeartbeats 400000 in
theorem jNum {w : World} {B : Nat} {v : Value} {xs : List Int} {n : Nat} (h : w.ownsRow B 5 1 v xs.length (nums .u8 xs)) (hB : B ≤ w.heap.size) (hx : xs.length ≤ 1000000) (hn : n < 4294967296) :
    Calls Tryd.prog 50 #[v, .int .i64 n] w (NumPost w B xs n) := by
  obtain ⟨A, c, rfl⟩ := own_slice h
  have H := Lib.hid h
  clear h
  go_enter Tryd.func50, Tryd.ntmps50
  go_wp2_with (at_builtin; go_loud (refine print_append_row (w0 := w) B rfl _ _ 39 5 .u8 1 rfl Tryd.underlying39 info5 (by decide) (.slice A xs.length c) xs (num4 n) (some ⟨w.heap.size, 0, none⟩) 4 4 rfl rfl (own_move H.out (fun k hk => Below.heap_alloc _ _ _ (own_lt H.out k hk))) (lit_reads w 5 (num4 n) (by simp [num4])) (((Chg.refl (fun _ => False) w).alloc _).below hB (fun _ _ h => h)) (by simp; omega) (by simp [num4]; omega) ?_; intro v1 w1 ho hb hg hat))
  go_ret
  exact ⟨_, rfl, ho, hb⟩

def numAt (xs : List Int) (k : Nat) : Int := Go.bits .or .i64 (Go.bits .or .i64 (Go.bits .or .i64 (wrap64 (wrap64 (xs[k]?.getD 0) * 16777216)) (wrap64 (wrap64 (xs[k + 1]?.getD 0) * 65536))) (wrap64 (wrap64 (xs[k + 2]?.getD 0) * 256))) (wrap64 (xs[k + 3]?.getD 0))
theorem getB {xs : List Int} (hb : ∀ x ∈ xs, 0 ≤ x ∧ x ≤ 255) (k : Nat) : 0 ≤ xs.getD k 0 ∧ xs.getD k 0 ≤ 255 := by
  rw [List.getD_eq_getElem?_getD]
  rcases h : xs[k]? with _ | x
  · simp
  · exact hb x (List.mem_of_getElem? h)
set_option maxHeartbeats 400000 in
theorem jNumbered {w : World} {A : Option Addr} {m c k : Nat} {xs : List Int} (h : ReadsInt w .u8 A m xs) (hm : m ≤ 1000000) (hk : k + 4 ≤ m) (hb : ∀ x ∈ xs, 0 ≤ x ∧ x ≤ 255) :
    Calls Tryd.prog 38 #[.slice A m c, .int .i64 k] w (fun e w' => e = .returned (.int .i64 (numAt xs k)) ∧ ∃ n, w' = w.drewN n) := by
  obtain ⟨hl, _, hr⟩ := h
  obtain ⟨ad, rfl, hcl⟩ := hr (by omega)
  obtain ⟨a, ha⟩ : ∃ a : Int, (k : Int) = a := ⟨_, rfl⟩
  rw [ha]
  obtain ⟨a1, h1⟩ : ∃ b, IntKind.i64.wrap (a + 1) = b := ⟨_, rfl⟩
  obtain ⟨a2, h2⟩ : ∃ b, IntKind.i64.wrap (a + 2) = b := ⟨_, rfl⟩
  obtain ⟨a3, h3⟩ : ∃ b, IntKind.i64.wrap (a + 3) = b := ⟨_, rfl⟩
  have e1 : a1 = (k : Int) + 1 := by rw [← h1, IntKind.wrap_i64]; omega
  have e2 : a2 = (k : Int) + 2 := by rw [← h2, IntKind.wrap_i64]; omega
  have e3 : a3 = (k : Int) + 3 := by rw [← h3, IntKind.wrap_i64]; omega
  have c0 := hcl k (by omega)
  have c1 := hcl (k + 1) (by omega)
  have c2 := hcl (k + 2) (by omega)
  have c3 := hcl (k + 3) (by omega)
  have g0 := getB hb k
  have g1 := getB hb (k + 1)
  have g2 := getB hb (k + 2)
  have g3 := getB hb (k + 3)
  rw [show k = a.toNat by omega] at c0
  rw [show k + 1 = a1.toNat by omega] at c1
  rw [show k + 2 = a2.toNat by omega] at c2
  rw [show k + 3 = a3.toNat by omega] at c3
  have HE := Lib.hid (And.intro e1 (And.intro e2 (And.intro e3 ha)))
  have p0 : (0 ≤ a) = True := eq_true (by omega)
  have q0 : (a < (m : Int)) = True := eq_true (by omega)
  have p1 : (0 ≤ a1) = True := eq_true (by omega)
  have q1 : (a1 < (m : Int)) = True := eq_true (by omega)
  have p2 : (0 ≤ a2) = True := eq_true (by omega)
  have q2 : (a2 < (m : Int)) = True := eq_true (by omega)
  have p3 : (0 ≤ a3) = True := eq_true (by omega)
  have q3 : (a3 < (m : Int)) = True := eq_true (by omega)
  clear hl hr hcl ha e1 e2 e3 hb
  go_enter Tryd.func38, Tryd.ntmps38
  go_wp2
  go_quiet (fail)
  go_wp2
  go_ret
  refine ⟨?_, nq, rfl⟩
  obtain ⟨e1, e2, e3, e0⟩ := HE.out
  have n0 : a.toNat = k := by omega
  have n1 : a1.toNat = k + 1 := by omega
  have n2 : a2.toNat = k + 2 := by omega
  have n3 : a3.toNat = k + 3 := by omega
  unfold numAt
  rw [← n3, ← n2, ← n1, ← n0]
  rfl
end Go.Proofs.YtapapedpecpfgaaDoor.J
