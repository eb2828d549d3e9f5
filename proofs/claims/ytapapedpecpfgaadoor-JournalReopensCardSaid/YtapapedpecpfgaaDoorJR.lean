/- sha256's State: Write, whole; New; rows within an array. -/
import Derived.Test.YtapapedpecpfgaaDoorJQ
set_option linter.unusedVariables false
set_option linter.unusedSimpArgs false
namespace Go.Proofs.YtapapedpecpfgaaDoor.J
open Go.RowKit Go.Proofs.YtapapedpecpfgaaDoorW.PrintWords

theorem blocksF_rest (v m : List Int) (h : v.length = 8) : (blocksF v m).2.length < 64 ∧ (blocksF v m).1.length = 8 := by
  by_cases hl : m.length < 64
  · rw [blocksF_short hl]; exact ⟨hl, h⟩
  · rw [blocksF_long (by omega)]
    exact blocksF_rest _ (m.drop 64) (blockF_length h)
termination_by m.length
decreasing_by simp; omega

/-- Write. -/
theorem sWrite {w : World} {s n m c : Nat} {v rest xs : List Int} {F : Nat → Prop} {b off : Nat} (hS : StAt w s v rest n F) (hx : ReadsInt w .u8 (some ⟨b, off, none⟩) m xs) (hc : m ≤ c) (hm : m ≤ 1000000) (hr : rest.length < 64) (h0 : 0 < m ∨ rest = []) (hn : n ≤ 1000000000000)
    (hA : ¬ F b) (hbw : b < w.heap.size) (hk : Kst w) (hF0 : ¬ F 0) :
    Calls Tryd.prog 49 #[.pointer (some ⟨s, 0, none⟩), .slice (some ⟨b, off, none⟩) m c] w (SwPost w s v rest n xs F) := by
  by_cases hrl : rest.length = 0
  · have : rest = [] := List.eq_nil_of_length_eq_zero hrl
    subst this
    exact sWrite0 hS hx hc hm hn (fun ad e => by injection e with e; subst e; exact ⟨hA, hbw⟩) hk hF0
  · have hm0 : 0 < m := by rcases h0 with h | h; exact h; exact absurd (by rw [h]; rfl) hrl
    by_cases h64 : rest.length + m < 64
    · exact sWriteA hS hx hc hm0 (by omega) h64 hn hA
    · exact sWriteB hS hx hc hm (by omega) hr (by omega) hn hA hbw hk hF0

def initF : List Int := [1779033703, 3144134277, 1013904242, 2773480762, 1359893119, 2600822924, 528734635, 1541459225]
theorem info101 : (Tryd.prog.info? 101).map (·.size) = some (nums .u32 initF).toArray.size := by kernel_rfl
set_option maxRecDepth 100000 in
theorem sInitial {w : World} : Calls Tryd.prog 58 #[] w (fun e w' => e = .returned (.agg (nums .u32 initF).toArray) ∧ Chg (fun _ => False) w w') := by
  go_enter Tryd.func58, Tryd.ntmps58
  go_wp2
  refine bodyPost_ret (results_cell_row rfl _ _ w.heap.size 101 _ (0, 0) _ rfl (heap_alloc_new w _) Tryd.underlying101 rfl info101) rfl ?_
  exact ⟨rfl, (Chg.refl (fun _ => False) w).alloc _⟩
set_option maxRecDepth 100000 in
theorem sNew {w : World} : Calls Tryd.prog 48 #[] w (fun e w' => ∃ s, e = .returned (.pointer (some ⟨s, 0, none⟩)) ∧ w.heap.size ≤ s ∧ Chg (fun _ => False) w w' ∧ StAt w' s initF [] 0 (fun k => k = s)) := by
  go_enter Tryd.func48, Tryd.ntmps48
  go_wp2_with fail
  refine (sInitial).mono ?_
  rintro e w1 ⟨rfl, hch⟩
  go_wp2
  go_ret
  refine ⟨w1.heap.size, rfl, hch.size, hch.alloc _, .slice none 0 0, ⟨⟨?_, rfl⟩, own_nil _ _ _ _⟩, rfl, fun k hk => by simp [Value.ownBlock] at hk⟩
  exact (heap_alloc_new w1 _).trans (by rfl)
end Go.Proofs.YtapapedpecpfgaaDoor.J
