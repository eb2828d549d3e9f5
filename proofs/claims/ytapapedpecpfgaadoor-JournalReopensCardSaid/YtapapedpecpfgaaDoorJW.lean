/- The Journal's getters. -/
import Derived.Test.YtapapedpecpfgaaDoorJV
set_option linter.unusedVariables false
set_option linter.unusedSimpArgs false
namespace Go.Proofs.YtapapedpecpfgaaDoor.J
open Go.RowKit Go.Proofs.YtapapedpecpfgaaDoorW.PrintWords

/-- The journal's struct. -/
def JHd (w : World) (j d fi rm ep ba us : Nat) (la : ByteArray) (rv : Value) (dn : Bool) : Prop :=
  w.heap[j]? = some (.cells #[.pointer (some ⟨d, 0, none⟩), .int .i64 fi, .int .i64 rm, .int .i64 ep, .int .i64 ba, .int .i64 us, .string la, rv, .bool dn] 59 (0, 0))
section
variable {w : World} {j d fi rm ep ba us : Nat} {la : ByteArray} {rv : Value} {dn : Bool}
theorem JHd.c0 (h : JHd w j d fi rm ep ba us la rv dn) : w.cell? ⟨j, 0, none⟩ = some (.pointer (some ⟨d, 0, none⟩)) := (blk_cell h 0).trans rfl
theorem JHd.c1 (h : JHd w j d fi rm ep ba us la rv dn) : w.cell? ⟨j, 1, none⟩ = some (.int .i64 fi) := (blk_cell h 1).trans rfl
theorem JHd.c2 (h : JHd w j d fi rm ep ba us la rv dn) : w.cell? ⟨j, 2, none⟩ = some (.int .i64 rm) := (blk_cell h 2).trans rfl
theorem JHd.c3 (h : JHd w j d fi rm ep ba us la rv dn) : w.cell? ⟨j, 3, none⟩ = some (.int .i64 ep) := (blk_cell h 3).trans rfl
theorem JHd.c4 (h : JHd w j d fi rm ep ba us la rv dn) : w.cell? ⟨j, 4, none⟩ = some (.int .i64 ba) := (blk_cell h 4).trans rfl
theorem JHd.c5 (h : JHd w j d fi rm ep ba us la rv dn) : w.cell? ⟨j, 5, none⟩ = some (.int .i64 us) := (blk_cell h 5).trans rfl
theorem JHd.c6 (h : JHd w j d fi rm ep ba us la rv dn) : w.cell? ⟨j, 6, none⟩ = some (.string la) := (blk_cell h 6).trans rfl
theorem JHd.c7 (h : JHd w j d fi rm ep ba us la rv dn) : w.cell? ⟨j, 7, none⟩ = some rv := (blk_cell h 7).trans rfl
theorem JHd.c8 (h : JHd w j d fi rm ep ba us la rv dn) : w.cell? ⟨j, 8, none⟩ = some (.bool dn) := (blk_cell h 8).trans rfl
theorem JHd.chg {w' : World} {S : Nat → Prop} (h : JHd w j d fi rm ep ba us la rv dn) (hc : Chg S w w') (hS : ¬ S j) : JHd w' j d fi rm ep ba us la rv dn := hc.blk h hS

set_option maxHeartbeats 400000 in
theorem jEpoch (h : JHd w j d fi rm ep ba us la rv dn) : Calls Tryd.prog 14 #[.pointer (some ⟨j, 0, none⟩)] w (fun e w' => e = .returned (.int .i64 ep) ∧ w' = w) := by
  have h0 := h.c3
  clear h
  go_enter Tryd.func14, Tryd.ntmps14
  go_wp2
  go_ret
  exact ⟨rfl, rfl⟩
set_option maxHeartbeats 400000 in
theorem jBegin (h : JHd w j d fi rm ep ba us la rv dn) (e : Nat) (hf : fi ≤ 1000000) (hr : rm ≤ 1000000) (he : e ≤ 4294967296) : Calls Tryd.prog 37 #[.pointer (some ⟨j, 0, none⟩), .int .i64 e] w (fun r w' => r = .returned (.int .i64 ((fi + e % 2 * rm : Nat) : Int)) ∧ ∃ n, w' = w.drewN n) := by
  have h1 := h.c1
  have h2 := h.c2
  clear h
  obtain ⟨q, hq⟩ : ∃ q, e % 2 * rm = q := ⟨_, rfl⟩
  have hq1 : q ≤ 1000000 := by
    have := Nat.mul_le_mul_right rm (show e % 2 ≤ 1 by omega)
    omega
  have hqi : (e : Int) % 2 * (rm : Int) = (q : Int) := by rw [← hq]; simp
  rw [hq]
  clear hq
  go_enter Tryd.func37, Tryd.ntmps37
  go_wp2
  go_quiet (fail)
  go_wp2
  go_ret
  exact ⟨by simp, nq, rfl⟩
end
theorem dSizeQ {w : World} {d : Nat} {sz : Int} {du pe : Value} (h : DHd w d sz du pe) (n : Nat) :
    Calls Tryd.prog 27 #[.pointer (some ⟨d, 0, none⟩)] (w.drewN n) fun e w' => e = .returned (.int .i64 sz) ∧ w' = w.drewN n :=
  (dSize (w := w.drewN n) (blk_drewN h n)).mono (fun _ _ ⟨a, b⟩ => ⟨a, b.symm⟩)
set_option maxHeartbeats 400000 in
theorem jSectors {w : World} {j d fi rm ep ba us n sz : Nat} {la : ByteArray} {rv du pe : Value} {dn : Bool} (h : JHd w j d fi rm ep ba us la rv dn) (hd : DHd w d sz du pe) (hn : n ≤ 1000000000) (hs0 : 0 < sz) (hs1 : sz ≤ 4096) :
    Calls Tryd.prog 40 #[.pointer (some ⟨j, 0, none⟩), .int .i64 n] w (fun e w' => e = .returned (.int .i64 (((n + sz - 1) / sz : Nat) : Int)) ∧ ∃ k, w' = w.drewN k) := by
  have h0 := h.c0
  have HD := Lib.hid hd
  have hz : ¬ ((sz : Int) = 0) := by omega
  have h1 : (0 : Int) ≤ (n : Int) + (sz : Int) - 1 := by omega
  obtain ⟨p, hp⟩ : ∃ p, n + sz - 1 = p := ⟨_, rfl⟩
  obtain ⟨q, hq⟩ : ∃ q, p / sz = q := ⟨_, rfl⟩
  have e1 : (n : Int) + (sz : Int) - 1 = (p : Int) := by omega
  have e2 : (p : Int) / (sz : Int) = (q : Int) := by rw [← hq]; simp
  have hq1 : q ≤ 1000010000 := by rw [← hq]; exact Nat.le_trans (Nat.div_le_self _ _) (by omega)
  rw [hp, hq]
  clear h hd hp hq
  go_enter Tryd.func40, Tryd.ntmps40
  go_wp2
  go_quiet ((go_at_call 27; exact Calls.quiet_of_same (dSizeQ HD.out _)))
  go_wp2
  go_ret
  exact ⟨rfl, nq, rfl⟩
end Go.Proofs.YtapapedpecpfgaaDoor.J
