/- sha256's rotation. -/
import Derived.Test.YtapapedpecpfgaaDoorJK
set_option linter.unusedVariables false
set_option linter.unusedSimpArgs false
namespace Go.Proofs.YtapapedpecpfgaaDoor.J
open Go.RowKit Go.Proofs.YtapapedpecpfgaaDoorW.PrintWords

def rotlF (x s : Int) : Int := Go.bits .or .u32 (x * 2 ^ s.toNat % 4294967296) (x / 2 ^ (32 - s).toNat)

set_option maxHeartbeats 1000000 in
theorem sRotl (x n s : Int) (hb : Go.bits .and .u64 (IntKind.u64.wrap n) 31 = s) (h1 : 1 ≤ s) (h2 : s ≤ 31) (w : World) :
    Calls Tryd.prog 64 #[.int .u32 x, .int .i64 n] w fun e w' => e = .returned (.int .u32 (rotlF x s)) ∧ w = w' := by
  go_enter Tryd.func64, Tryd.ntmps64
  go_wp2
  go_ret
  exact ⟨rfl, rfl⟩
/-- rotr(x, n). -/
def rotF (x n : Int) : Int := rotlF x (32 - n)
set_option maxHeartbeats 1000000 in
theorem sRotr (x n : Int) (h1 : 1 ≤ n) (h2 : n ≤ 31) (hb : Go.bits .and .u64 (IntKind.u64.wrap (-n)) 31 = 32 - n) (w : World) :
    Calls Tryd.prog 63 #[.int .u32 x, .int .i64 n] w fun e w' => e = .returned (.int .u32 (rotF x n)) ∧ w = w' := by
  have HB := Lib.hid hb
  clear hb
  go_enter Tryd.func63, Tryd.ntmps63
  go_wp2_with (go_at_call 64; refine (sRotl x (-n) (32 - n) HB.out (by omega) (by omega) _).mono ?_; rintro e w' ⟨rfl, rfl⟩)
  go_ret
  exact ⟨rfl, rfl⟩
/-- The rotations that occur. -/
def rotOk (n : Int) : Bool := n == 6 || n == 11 || n == 25 || n == 2 || n == 13 || n == 22 || n == 17 || n == 19 || n == 7 || n == 18
theorem sRot (x n : Int) (h : rotOk n = true) (w : World) :
    Calls Tryd.prog 63 #[.int .u32 x, .int .i64 n] w fun e w' => e = .returned (.int .u32 (rotF x n)) ∧ w = w' := by
  simp only [rotOk, Bool.or_eq_true, beq_iff_eq] at h
  refine sRotr x n (by omega) (by omega) ?_ w
  rcases h with ((((((((h | h) | h) | h) | h) | h) | h) | h) | h) | h <;> subst h <;> decide
end Go.Proofs.YtapapedpecpfgaaDoor.J
