/- The disk's small methods (power on, no failure set), and the words in which the disk is told. -/
import Derived.Test.YtapapedpecpfgaaDoorProg
import Derived.Test.YtapapedpecpfgaaDoorWWords
import Derived.Lib.Hide
import Derived.WalkSpells
import Derived.WalkLawsBesides
set_option linter.unusedVariables false
set_option linter.unusedSimpArgs false
namespace Go.Proofs.YtapapedpecpfgaaDoor.J
open Go.RowKit Go.Proofs.YtapapedpecpfgaaDoorW.PrintWords

/-- What may have changed from w to w' is a block of S, or new. -/
structure Chg (S : Nat → Prop) (w w' : World) : Prop where
  os : w'.os = w.os
  tape : w'.tape = w.tape
  output : w'.output = w.output
  size : w.heap.size ≤ w'.heap.size
  block : ∀ k, k < w.heap.size → ¬ S k → w'.heap[k]? = w.heap[k]?

theorem Chg.refl (S : Nat → Prop) (w : World) : Chg S w w := ⟨rfl, rfl, rfl, Nat.le_refl _, fun _ _ _ => rfl⟩
theorem Chg.trans' {S T U : Nat → Prop} {a b c : World} (h : Chg S a b) (k : Chg T b c) (hS : ∀ i, i < a.heap.size → S i → U i) (hT : ∀ i, i < a.heap.size → T i → U i) : Chg U a c :=
  ⟨k.os.trans h.os, k.tape.trans h.tape, k.output.trans h.output, Nat.le_trans h.size k.size, fun i hi hu =>
    (k.block i (Nat.lt_of_lt_of_le hi h.size) (fun ht => hu (hT i hi ht))).trans (h.block i hi (fun hs => hu (hS i hi hs)))⟩
theorem Chg.trans {S : Nat → Prop} {a b c : World} (h : Chg S a b) (k : Chg S b c) : Chg S a c := h.trans' k (fun _ _ x => x) (fun _ _ x => x)
theorem Chg.mono {S T : Nat → Prop} {a b : World} (h : Chg S a b) (hST : ∀ i, i < a.heap.size → S i → T i) : Chg T a b :=
  ⟨h.os, h.tape, h.output, h.size, fun i hi hu => h.block i hi (fun hs => hu (hST i hi hs))⟩
theorem Chg.drew {S : Nat → Prop} {a w : World} (h : Chg S a w) : Chg S a w.drew := ⟨h.os, h.tape, h.output, h.size, h.block⟩
theorem Chg.drewN {S : Nat → Prop} {a w : World} (h : Chg S a w) (n : Nat) : Chg S a (w.drewN n) := ⟨h.os, h.tape, h.output, h.size, h.block⟩
theorem Chg.alloc {S : Nat → Prop} {a w : World} (h : Chg S a w) (o : Obj) : Chg S a (w.alloc o) :=
  h.trans ⟨rfl, rfl, rfl, by simp, fun k hk _ => Below.heap_alloc _ _ _ hk⟩
theorem Chg.setCell {S : Nat → Prop} {a w : World} (h : Chg S a w) {p : Addr} (hp : p.block < a.heap.size → S p.block) (u : Value) : Chg S a (w.setCell p u) :=
  h.trans' (T := fun k => k = p.block) ⟨rfl, rfl, rfl, by simp [World.setCell], fun k _ hk => Below.heap_setCell _ _ _ _ hk⟩ (fun _ _ x => x) (fun i hi e => by subst e; exact hp hi)
theorem Chg.grown {S : Nat → Prop} {a w w' : World} {row : Option Nat} (h : Chg S a w) (hg : w.grownBy w' row) (hr : ∀ k, row = some k → k < a.heap.size → S k) : Chg S a w' :=
  h.trans' (T := fun k => row = some k) ⟨hg.os, hg.tape, hg.output, hg.size, fun k hk hn => hg.block k hk (fun e => hn e.symm)⟩ (fun _ _ x => x) (fun i hi e => hr i e hi)
theorem Chg.below {S : Nat → Prop} {w w' : World} {B : Nat} (h : Chg S w w') (hB : B ≤ w.heap.size) (hS : ∀ k, k < B → ¬ S k) : Below B w w' :=
  ⟨h.os, h.tape, h.output, h.size, fun k hk => h.block k (by omega) (hS k hk)⟩
theorem Chg.blk {S : Nat → Prop} {w w' : World} (h : Chg S w w') {g : Nat} {o : Obj} (hg : w.heap[g]? = some o) (hS : ¬ S g) : w'.heap[g]? = some o := (h.block g (blk_lt hg) hS).trans hg
theorem Chg.cell {S : Nat → Prop} {w w' : World} (h : Chg S w w') {a : Addr} {v : Value} (hc : w.cell? a = some v) (hS : ¬ S a.block) : w'.cell? a = some v :=
  (World.cell?_of_block (w := w) (h.block a.block (World.block_lt_of_cell? w a hc) hS)).trans hc
/-- Nothing that was there has changed. -/
abbrev Quiet (w w' : World) : Prop := Chg (fun _ => False) w w'

/-- The head of a disk whose power is on and for which no failure is set. -/
def DHd (w : World) (d : Nat) (sz : Int) (du pe : Value) : Prop :=
  w.heap[d]? = some (.cells #[.int .i64 sz, du, pe, .bool false, .bool false, .int .i64 0] 55 (0, 0))
theorem DHd.c0 {w : World} {d : Nat} {sz : Int} {du pe : Value} (h : DHd w d sz du pe) : w.cell? ⟨d, 0, none⟩ = some (.int .i64 sz) := (blk_cell h 0).trans rfl
theorem DHd.c1 {w : World} {d : Nat} {sz : Int} {du pe : Value} (h : DHd w d sz du pe) : w.cell? ⟨d, 1, none⟩ = some du := (blk_cell h 1).trans rfl
theorem DHd.c2 {w : World} {d : Nat} {sz : Int} {du pe : Value} (h : DHd w d sz du pe) : w.cell? ⟨d, 2, none⟩ = some pe := (blk_cell h 2).trans rfl
theorem DHd.c3 {w : World} {d : Nat} {sz : Int} {du pe : Value} (h : DHd w d sz du pe) : w.cell? ⟨d, 3, none⟩ = some (.bool false) := (blk_cell h 3).trans rfl
theorem DHd.c4 {w : World} {d : Nat} {sz : Int} {du pe : Value} (h : DHd w d sz du pe) : w.cell? ⟨d, 4, none⟩ = some (.bool false) := (blk_cell h 4).trans rfl

set_option maxHeartbeats 400000 in
theorem dSize {w : World} {d : Nat} {sz : Int} {du pe : Value} (h : DHd w d sz du pe) :
    Calls Tryd.prog 27 #[.pointer (some ⟨d, 0, none⟩)] w fun e w' => e = .returned (.int .i64 sz) ∧ w = w' := by
  have h0 := h.c0
  clear h
  go_enter Tryd.func27, Tryd.ntmps27
  go_wp2
  go_ret
  exact ⟨rfl, rfl⟩
set_option maxHeartbeats 400000 in
theorem dDown {w : World} {d : Nat} {sz : Int} {du pe : Value} (h : DHd w d sz du pe) :
    Calls Tryd.prog 16 #[.pointer (some ⟨d, 0, none⟩)] w fun e w' => e = .returned (.bool false) ∧ w = w' := by
  have h0 := h.c3
  clear h
  go_enter Tryd.func16, Tryd.ntmps16
  go_wp2
  go_ret
  exact ⟨rfl, rfl⟩
set_option maxHeartbeats 400000 in
theorem dSectors {w : World} {d : Nat} {sz : Int} {A : Option Addr} {n c : Nat} {pe : Value} (h : DHd w d sz (.slice A n c) pe) :
    Calls Tryd.prog 26 #[.pointer (some ⟨d, 0, none⟩)] w fun e w' => e = .returned (.int .i64 n) ∧ w = w' := by
  have h0 := h.c1
  clear h
  go_enter Tryd.func26, Tryd.ntmps26
  go_wp2
  go_ret
  exact ⟨rfl, rfl⟩
set_option maxHeartbeats 400000 in
theorem dInside {w : World} {d : Nat} {sz : Int} {A : Option Addr} {n c : Nat} {pe : Value} (h : DHd w d sz (.slice A n c) pe) (i : Int) (h1 : 0 ≤ i) (h2 : i < n) :
    Calls Tryd.prog 45 #[.pointer (some ⟨d, 0, none⟩), .int .i64 i] w fun e w' => e = .returned (.bool true) ∧ w = w' := by
  have h0 := h.c1
  clear h
  go_enter Tryd.func45, Tryd.ntmps45
  go_wp2
  go_ret
  exact ⟨by simp [h1, h2], rfl⟩
set_option maxHeartbeats 400000 in
theorem dFails {w : World} {d : Nat} {sz : Int} {du pe : Value} (h : DHd w d sz du pe) :
    Calls Tryd.prog 60 #[.pointer (some ⟨d, 0, none⟩)] w fun e w' => e = .returned (.bool false) ∧ w = w' := by
  have h0 := h.c4
  clear h
  go_enter Tryd.func60, Tryd.ntmps60
  go_wp2
  go_ret
  exact ⟨rfl, rfl⟩
end Go.Proofs.YtapapedpecpfgaaDoor.J
