/- put. -/
import Derived.Test.YtapapedpecpfgaaDoorJC
import Derived.RegionTactic
import Derived.ChangeAlike
set_option linter.unusedVariables false
set_option linter.unusedSimpArgs false
namespace Go.Proofs.YtapapedpecpfgaaDoor.J
open Go.RowKit Go.Proofs.YtapapedpecpfgaaDoorW.PrintWords

set_option maxHeartbeats 1000000 in
theorem dPut {w : World} {d g sz n c s cx : Nat} {D : Nat → Option Nat} {dc : Nat → List Int} {pe : Value} {A : Option Addr} {xs : List Int}
    (hd : DHd w d sz (.slice (some ⟨g, 0, none⟩) n c) pe) (h : Durs w g sz n D dc) (hs0 : 0 < sz) (hs1 : sz ≤ 4096) (hsn : s < n) (hx : ReadsInt w .u8 A sz xs)
    (hAn : ∀ ad, A = some ad → ad.block ≠ g) :
    Calls Tryd.prog 33 #[.pointer (some ⟨d, 0, none⟩), .int .i64 s, .slice A sz cx] w (PutPost w d g sz n s D dc xs) := by
  have hq := fun (w : World) (a : Option Addr) (n c n' c' : Nat) => Lib.run_eql_slice_nil (P := Tryd.prog) w 39 5 a n c n' c' Tryd.underlying39
  have hc1 := hd.c1
  have hdg : d ≠ g := by obtain ⟨cs, hb, _⟩ := h.arr; exact blk_ne hd hb (by decide)
  have hci0 := h.cell hsn
  have H := Lib.hid h
  have HD := Lib.hid hd
  have hmk := print_make (P := Tryd.prog) 39 5 .u8 1 Tryd.underlying39 info5 (by decide) sz (by omega)
  have HX := Lib.hid hx
  cases hDi : D s with
  | none =>
    rw [hDi] at hci0
    simp only [secV] at hci0
    have hc0 := hd.c0
    have hf := frozen_al hci0 (h.frozen s)
    have hci1 := fun o => cell_al hci0 o
    have hc1a := fun o => cell_al hc1 o
    have hc0a := fun o => cell_al hc0 o
    have HDi := Lib.hid hDi
    clear hDi h hd hx
    go_enter Tryd.func33, Tryd.ntmps33
    go_wp2
    go_region
    generalize hW1 : ((w.alloc (Obj.cells (madeCells #[Value.int IntKind.u8 0] sz) 5)).setCell { block := g, off := s } (Value.slice (some { block := w.heap.size, off := 0 }) sz sz)).drew = w1
    have hgl : g < w.heap.size := World.block_lt_of_cell? w _ hci0
    have hch : Chg (fun k => k = g) w w1 := by
      rw [← hW1]
      exact (((Chg.refl (fun k => k = g) w).alloc _).setCell (p := ⟨g, s, none⟩) (fun _ => rfl) _).drew
    have hga : ∀ cs, w.heap[g]? = some (.cells cs 39 (0, 0)) → w1.heap[g]? = some (.cells (cs.setIfInBounds s (secV sz (some w.heap.size))) 39 (0, 0)) := by
      intro cs hcs
      rw [← hW1]
      exact blk_drew (blk_set (blk_alloc hcs _) s _)
    have hwb : w1.heap[w.heap.size]? = some (.cells (madeCells #[Value.int IntKind.u8 0] sz) 5 (0, 0)) := by
      rw [← hW1]
      exact blk_drew (blk_far (heap_alloc_new _ _) (p := ⟨g, s, none⟩) (by simp; omega) _)
    have hc1' : w1.cell? ⟨d, 1, none⟩ = some (.slice (some ⟨g, 0, none⟩) n c) := hch.cell hc1 hdg
    have hcs' : w1.cell? ⟨g, s, none⟩ = some (.slice (some ⟨w.heap.size, 0, none⟩) sz sz) := by
      obtain ⟨cs, hb, hz, _⟩ := H.out.arr
      rw [blk_cell (hga cs hb) s]
      simp [hz, hsn, secV]
    have hX1 : ReadsInt w1 .u8 A sz xs := by
      refine ⟨HX.out.1, HX.out.2.1, fun h0 => ?_⟩
      obtain ⟨ad, rfl, hcl⟩ := HX.out.2.2 h0
      refine ⟨ad, rfl, fun j hj => hch.cell (hcl j hj) ?_⟩
      have := hAn ad rfl
      unfold Addr.add
      split <;> simpa using this
    have HX1 := Lib.hid hX1
    have HW1 := Lib.hid hW1
    have HG := Lib.hid hga
    have HB := Lib.hid hwb
    clear hX1 hW1 hga hwb hc1 hc1a hc0 hc0a hci1 hci0 hf hAn
    go_wp2_with ((with_reducible show wpList _ _ _ _ _ _); refine wpl_copy_full rfl (.tmp 31) (.tmp 32) 39 39 rfl 5 Tryd.underlying39 info5s w.heap.size sz sz cx A rfl rfl hs0 _ _ HB.out (by simp [madeCells]) xs HX1.out ?_)
    go_end0
    have hset : Byt (w1.setRow w.heap.size (nums .u8 xs).toArray) w.heap.size xs := setRow_heap _ _ _ _ _ _ HB.out
    have hch2 : Chg (fun k => k = g) w (w1.setRow w.heap.size (nums .u8 xs).toArray) := hch.setRow (fun h => absurd h (Nat.lt_irrefl _)) _
    exact ⟨rfl, w.heap.size, .inr ⟨HDi.out, Nat.le_refl _⟩, H.out.put_none hsn HX.out.1 (Nat.le_refl _) hch2 (fun cs hcs => (setRow_other _ _ _ _ (by omega)).trans (HG.out cs hcs)) hset, hch2.mono (fun i _ e => .inl e)⟩
  | some b =>
    rw [hDi] at hci0
    simp only [secV] at hci0
    have hbg : b ≠ g := by obtain ⟨cs, hb, _⟩ := h.arr; exact blk_ne (h.some_ s b hsn hDi) hb (by decide)
    have hsb := h.some_ s b hsn hDi
    have hln := h.len s hsn
    have HS := Lib.hid hsb
    have HL := Lib.hid hln
    have HDi := Lib.hid hDi
    clear hDi h hd hsb hln hx
    go_enter Tryd.func33, Tryd.ntmps33
    go_wp2_with ((with_reducible show wpList _ _ _ _ _ _); refine wpl_copy_full rfl (.tmp 31) (.tmp 32) 39 39 rfl 5 Tryd.underlying39 info5s b sz sz cx A rfl rfl hs0 _ _ HS.out (by simp [nums, HL.out]) xs HX.out ?_)
    go_end0
    have hset : Byt (w.setRow b (nums .u8 xs).toArray) b xs := setRow_heap _ _ _ _ _ _ HS.out
    have hch : Chg (fun k => k = b) w (w.setRow b (nums .u8 xs).toArray) := (Chg.refl (fun k => k = b) w).setRow (fun _ => rfl) _
    exact ⟨rfl, b, .inl HDi.out, H.out.put_some hsn HDi.out HX.out.1 hbg hch hset, hch.mono (fun i _ e => .inr (by rw [HDi.out, e]))⟩
end Go.Proofs.YtapapedpecpfgaaDoor.J
