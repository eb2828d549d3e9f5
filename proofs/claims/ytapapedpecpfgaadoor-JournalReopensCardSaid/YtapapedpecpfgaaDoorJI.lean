/- disk.New; slices.Max. -/
import Derived.Test.YtapapedpecpfgaaDoorJH
set_option linter.unusedVariables false
set_option linter.unusedSimpArgs false
namespace Go.Proofs.YtapapedpecpfgaaDoor.J
open Go.RowKit Go.Proofs.YtapapedpecpfgaaDoorW.PrintWords

theorem info39 : (Tryd.prog.info? 39).map (fun i => (i.zero, i.size, i.bytes)) = some (some (.slice none 0 0), 1, 24) := by kernel_rfl

def NewPost (w : World) (sz n : Nat) (e : Ending) (w' : World) : Prop :=
  ∃ d F, e = .returned (.tuple #[.pointer (some ⟨d, 0, none⟩), .int .i64 0]) ∧ DiskAt w' d sz n (fun _ => List.replicate sz 0) 0 F ∧ w.heap.size ≤ d ∧ (∀ k, F k → w.heap.size ≤ k) ∧ Below w.heap.size w w'

set_option maxHeartbeats 1000000 in
theorem dNew {w : World} {sz n : Nat} (hs0 : 0 < sz) (hs1 : sz ≤ 4096) (hn0 : 0 < n) (hn1 : n ≤ 65536) :
    Calls Tryd.prog 9 #[.int .i64 n, .int .i64 sz] w (NewPost w sz n) := by
  have hmk : ∀ W : World, (Instr.makeSlice 32 (.int .i64 (n : Int)) (.int .i64 (n : Int))).run Tryd.prog W = .ok (.slice (some ⟨W.heap.size, 0, none⟩) n n) (W.alloc (.cells (madeCells #[.slice none 0 0] n) 39)) :=
    fun W => run_make_row' 32 39 (.slice none 0 0) 24 Tryd.underlying32 info39 rfl .i64 .i64 n (by omega) (by omega) W
  go_enter Tryd.func9, Tryd.ntmps9
  go_wp2
  go_ret2
  have hB : Below w.heap.size w ((w.alloc (.cells (madeCells #[.slice none 0 0] n) 39)).alloc (.cells #[.int .i64 sz, .slice (some ⟨w.heap.size, 0, none⟩) n n, .slice none 0 0, .bool false, .bool false, .int .i64 0] 55)) :=
    ((Below.refl _ w).alloc (Nat.le_refl _) _).alloc (by simp) _
  refine ⟨w.heap.size + 1, DFoot (w.heap.size + 1) w.heap.size n (fun _ => none) (.slice none 0 0) [], rfl,
    ⟨w.heap.size, fun _ => none, fun _ => List.replicate sz 0, .slice none 0 0, [], ⟨?_, ⟨⟨madeCells #[.slice none 0 0] n, ?_, by simp [madeCells], fun i hi => by simp [madeCells, hi, secV, Nat.mod_one]⟩, fun _ _ _ => rfl, fun _ _ _ h => by simp at h, fun _ _ => by simp, fun _ _ _ _ _ h => by simp at h⟩,
      ⟨own_nil _ _ _ _, fun p hp => by simp at hp, fun p hp => by simp at hp, fun p hp => by simp at hp⟩⟩, Nat.le_refl _, fun i hi => rfl, fun _ h => h⟩, by omega, ?_, hB⟩
  · have := heap_alloc_new (w.alloc (.cells (madeCells #[.slice none 0 0] n) 39)) (.cells #[.int .i64 sz, .slice (some ⟨w.heap.size, 0, none⟩) n n, .slice none 0 0, .bool false, .bool false, .int .i64 0] 55)
    rw [World.size_alloc] at this
    exact this
  · exact blk_alloc (heap_alloc_new w _) _
  · rintro k (h | h | h | ⟨i, _, h⟩ | ⟨p, hp, _⟩)
    · omega
    · omega
    · simp [Value.ownBlock] at h
    · simp at h
    · simp at hp

theorem jmax2 (k k' : IntKind) (x y : Int) : Builtin.max2 (.int k x) (.int k' y) = pure (.int k (if x < y then y else x)) := by simp only [Builtin.max2, gt_iff_lt]
theorem jmin2 (k k' : IntKind) (x y : Int) : Builtin.min2 (.int k x) (.int k' y) = pure (.int k (if y < x then y else x)) := by simp only [Builtin.min2]
theorem jmax (ats : Array TypeId) (ty : TypeId) (a b : Value) : Builtin.max_ ats ty #[a, b] = (Builtin.max2 a b >>= fun s => pure s) := by simp only [Builtin.max_, List.foldlM_cons, List.foldlM_nil]
theorem jmin (ats : Array TypeId) (ty : TypeId) (a b : Value) : Builtin.min_ ats ty #[a, b] = (Builtin.min2 a b >>= fun s => pure s) := by simp only [Builtin.min_, List.foldlM_cons, List.foldlM_nil]
theorem add_zero' (a : Addr) : a.add 0 = a := by simp [Addr.add]

/-- slices.Max of bytes: whether all are 0. -/
def MaxPost (w : World) (xs : List Int) (e : Ending) (w' : World) : Prop := ∃ r : Int, e = .returned (.int .u8 r) ∧ (0 < r ↔ ∃ j, j < xs.length ∧ 0 < xs.getD j 0) ∧ 0 ≤ r ∧ r ≤ 255 ∧ w = w'
def MaxRel (xs : List Int) (k : Nat) (r : Int) : Prop := (0 < r ↔ ∃ j, j < k ∧ 0 < xs.getD j 0) ∧ 0 ≤ r ∧ r ≤ 255
theorem MaxRel.succ {xs : List Int} {k : Nat} {r : Int} (h : MaxRel xs k r) (hx : 0 ≤ xs.getD k 0 ∧ xs.getD k 0 ≤ 255) : MaxRel xs (k + 1) (if r < xs.getD k 0 then xs.getD k 0 else r) := by
  obtain ⟨h1, h2, h3⟩ := h
  refine ⟨⟨fun h => ?_, fun ⟨j, hj, h⟩ => ?_⟩, by split <;> omega, by split <;> omega⟩
  · split at h
    · exact ⟨k, by omega, h⟩
    · obtain ⟨j, hj, hx⟩ := h1.1 h
      exact ⟨j, by omega, hx⟩
  · rcases Nat.lt_or_ge j k with hl | hl
    · have := h1.2 ⟨j, hl, h⟩
      split <;> omega
    · obtain rfl : j = k := by omega
      split <;> omega

attribute [local go_sem] jmax2 jmax
set_option maxHeartbeats 1000000 in
theorem sMax {w : World} {A : Option Addr} {n c : Nat} {xs : List Int} (h : ReadsInt w .u8 A n xs) (h0 : 0 < n) (hn : n ≤ 1000000) (hx : ∀ x ∈ xs, 0 ≤ x ∧ x ≤ 255) :
    Calls Tryd.prog 53 #[.slice A n c] w (MaxPost w xs) := by
  obtain ⟨hl, _, hr⟩ := h
  obtain ⟨ad, rfl, hcl⟩ := hr h0
  have hc0 := hcl 0 h0
  rw [add_zero'] at hc0
  have HC := Lib.hid hcl
  have HL := Lib.hid hl
  have hb : ∀ k, k < n → 0 ≤ xs.getD k 0 ∧ xs.getD k 0 ≤ 255 := fun k hk => hx _ (by rw [List.getD_eq_getElem?_getD, List.getElem?_eq_getElem (by omega)]; exact List.getElem_mem _)
  have HX := Lib.hid hb
  have hb0 := hb 0 h0
  obtain ⟨x0, hx0⟩ : ∃ x0, xs.getD 0 0 = x0 := ⟨_, rfl⟩
  rw [hx0] at hb0 hc0
  have HX0 := Lib.hid hx0
  clear hcl hl hx hr hx0 hb
  go_enter Tryd.func53, Tryd.ntmps53
  go_wp2
  go_loop [3, 4] (fun v i => ∃ (k : Nat) (r : Int), 1 ≤ k ∧ k ≤ n ∧ i = .int .i64 k ∧ v = .int .u8 r ∧ MaxRel xs k r) (fun _ i => n - (intOf i).toNat)
  case atStart =>
    refine ⟨1, x0, Nat.le_refl _, h0, rfl, rfl, ⟨fun h => ⟨0, by omega, by rw [HX0.out]; exact h⟩, fun ⟨j, hj, h⟩ => ?_⟩, hb0.1, hb0.2⟩
    obtain rfl : j = 0 := by omega
    rw [HX0.out] at h; exact h
  case round =>
    obtain ⟨k, r, hk1, hk, rfl, rfl, hR⟩ := hrel
    have HR := Lib.hid hR
    obtain ⟨_, hr0, hr1⟩ := hR
    by_cases hlt : k < n
    · have hck := HC.out k hlt
      have hbk := HX.out k hlt
      obtain ⟨xk, hxk⟩ : ∃ xk, xs.getD k 0 = xk := ⟨_, rfl⟩
      rw [hxk] at hck hbk
      have HXk := Lib.hid hxk
      clear hxk
      go_wp2
      go_round
      case rel => exact ⟨k + 1, _, by omega, by omega, by go_num, rfl, by have := HR.out.succ (HX.out k hlt); rw [HXk.out] at this; exact this⟩
      case measure => simp [intOf]; omega
    · obtain rfl : k = n := by omega
      go_wp2
      go_ret
      exact ⟨r, rfl, by rw [HL.out]; exact HR.out.1, hr0, hr1, rfl⟩
end Go.Proofs.YtapapedpecpfgaaDoor.J
