/- slices.Clone of bytes. -/
import Derived.Test.YtapapedpecpfgaaDoorJA
set_option linter.unusedVariables false
set_option linter.unusedSimpArgs false
namespace Go.Proofs.YtapapedpecpfgaaDoor.J
open Go.RowKit Go.Proofs.YtapapedpecpfgaaDoorW.PrintWords

theorem info5 : (Tryd.prog.info? 5).map (fun i => (i.zero, i.size, i.bytes)) = some (some (.int .u8 0), 1, 1) := by kernel_rfl

/-- The call hands back a slice of its own with these bytes, and changes nothing. -/
def OwnB (w : World) (xs : List Int) (e : Ending) (w' : World) : Prop :=
  ∃ v, e = .returned v ∧ w'.ownsRow w.heap.size 5 1 v xs.length (nums .u8 xs) ∧ Below w.heap.size w w'

set_option maxHeartbeats 400000 in
theorem bClone {w : World} {A : Option Addr} {n c : Nat} {xs : List Int} (h : ReadsInt w .u8 A n xs) (hn : n ≤ 140737488355328) :
    Calls Tryd.prog 30 #[.slice A n c] w (OwnB w xs) := by
  have H := Lib.hid h
  have hl : xs.length = n := h.1
  have HL := Lib.hid hl
  have hq := fun (w : World) (a : Option Addr) (n c n' c' : Nat) => Lib.run_eql_slice_nil (P := Tryd.prog) w 39 5 a n c n' c' Tryd.underlying39
  clear h hl
  cases A with
  | none =>
    go_enter Tryd.func30, Tryd.ntmps30
    go_wp2
    go_ret
    have hn0 : n = 0 := by
      rcases Nat.eq_zero_or_pos n with h | h
      · exact h
      · obtain ⟨ad, e, _⟩ := H.out.2.2 h
        cases e
    obtain rfl : xs = [] := List.eq_nil_of_length_eq_zero (HL.out.trans hn0)
    exact ⟨_, rfl, own_nil _ _ _ _, Below.refl _ _⟩
  | some ad =>
    go_enter Tryd.func30, Tryd.ntmps30
    go_wp2_with (at_builtin; (refine print_append_row (w0 := w) (w.heap.size) rfl _ _ 39 5 .u8 1 rfl Tryd.underlying39 info5 (by decide) (.slice (some ⟨w.heap.size, 0, none⟩) 0 0) [] xs (some ad) n c rfl rfl (own_lit w w.heap.size 5 .u8 [] (Nat.le_refl _) (by simp)) ((H.out).below (below_alloc (Below.refl _ _) _)) (below_alloc (Below.refl _ _) _) (by simp) (by simpa using hn) ?_); intro v1 w1 ho hb hg hat)
    go_ret
    exact ⟨_, rfl, by simpa using ho, hb⟩
end Go.Proofs.YtapapedpecpfgaaDoor.J
