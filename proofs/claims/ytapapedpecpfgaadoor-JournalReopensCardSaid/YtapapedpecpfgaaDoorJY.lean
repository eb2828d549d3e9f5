/- Rows of bytes made out of strings: append behind them. -/
import Derived.Test.YtapapedpecpfgaaDoorJX
import Derived.ArgAppend
import Derived.Lib.AppendZerosOnto
set_option linter.unusedVariables false
set_option linter.unusedSimpArgs false
namespace Go.Proofs.YtapapedpecpfgaaDoor.J
open Go.RowKit Go.Proofs.YtapapedpecpfgaaDoorW.PrintWords

/-- A row of bytes of which no cell is frozen. -/
def RowM (w : World) (B g cap : Nat) (ys : List Int) : Prop := ∃ cur fz, w.heap[g]? = some (.cells cur 5 fz) ∧ (fz.2 = 0 ∨ cur.size ≤ fz.1) ∧ cur.size = cap ∧ ys.length ≤ cap ∧ cap ≤ maxLen ∧ cur.toList.take ys.length = nums .u8 ys ∧ B ≤ g
theorem RowM.of {w : World} {B n : Nat} {v : Value} {ys : List Int} (h : w.ownsRow B 5 1 v n (nums .u8 ys)) (h0 : 0 < n) : ∃ g cap, v = .slice (some ⟨g, 0, none⟩) n cap ∧ RowM w B g cap ys := by
  have hl : ys.length = n := by have := h.1; simpa [nums] using this
  rcases h.2 with ⟨_, h1⟩ | ⟨g, cap, cur, e, hB, hb, hc, hm, hs, ht⟩
  · omega
  · exact ⟨g, cap, e, cur, (0, 0), hb, .inl rfl, by simpa using hs, by omega, hm, by rw [hl]; simpa using ht, hB⟩
theorem RowM.new (w : World) (s : ByteArray) (hs : s.size ≤ 1000000) : RowM (Lib.bytesWorld w 5 s) w.heap.size w.heap.size (grownCap w s.size 0 5) (bytesOf s) := by
  have hge := grownCap_ge w s.size 0 5
  have hsz : (Lib.bytesCells w 5 s).size = grownCap w s.size 0 5 := by
    simp only [Lib.bytesCells, Array.size_append, Array.size_map, Array.size_replicate]
    have : s.data.size = s.size := rfl
    omega
  refine ⟨_, _, Lib.bytesWorld_at_new w 5 s, .inr (Nat.le_refl _), hsz, by rw [bytesOf_length]; exact hge, grownCap_le_maxLen w s.size 0 5 (by unfold maxLen; omega), ?_, Nat.le_refl _⟩
  rw [bytesOf_length]
  simp only [Lib.bytesCells, Array.toList_append, Array.toList_map]
  have hd : (List.map (fun b => Value.int IntKind.u8 (b.toNat : Int)) s.data.toList).length = s.size := by rw [List.length_map, data_length]
  rw [List.take_append_of_le_length (by rw [hd]; exact Nat.le_refl _), List.take_of_length_le (by rw [hd]; exact Nat.le_refl _)]
  simp [nums, bytesOf]
section
variable {w : World} {B g cap : Nat} {ys : List Int}
theorem RowM.lt (h : RowM w B g cap ys) : g < w.heap.size := by
  obtain ⟨cur, fz, hb, _⟩ := h
  exact blk_lt hb
theorem RowM.mv {w' : World} (h : RowM w B g cap ys) (he : w'.heap[g]? = w.heap[g]?) : RowM w' B g cap ys := by
  obtain ⟨cur, fz, hb, h⟩ := h
  exact ⟨cur, fz, he.trans hb, h⟩
theorem RowM.lower {B' : Nat} (h : RowM w B g cap ys) (hB : B' ≤ B) : RowM w B' g cap ys := by
  obtain ⟨cur, fz, h1, h2, h3, h4, h5, h6, h7⟩ := h
  exact ⟨cur, fz, h1, h2, h3, h4, h5, h6, Nat.le_trans hB h7⟩
theorem RowM.at_ (h : RowM w B g cap ys) : ReadsAt w g 0 ys := by
  obtain ⟨cur, fz, hb, _, hs, hc, _, ht, _⟩ := h
  intro j hj
  have h4 : (nums .u8 ys)[j]? = some (.int .u8 (ys.getD j 0)) := by simp [nums, hj]
  rw [← ht, List.getElem?_take, if_pos hj] at h4
  simp [World.cell?, hb]
  simpa using h4
theorem RowM.le (h : RowM w B g cap ys) : ys.length ≤ cap := by
  obtain ⟨cur, fz, hb, _, hs, hc, _⟩ := h
  exact hc
theorem RowM.reads (h : RowM w B g cap ys) (hm : ys.length ≤ 1000000) : ReadsInt w .u8 (some ⟨g, 0, none⟩) ys.length ys := by
  refine ⟨rfl, by omega, fun _ => ⟨_, rfl, fun j hj => ?_⟩⟩
  have := h.at_ j hj
  rw [Nat.zero_add] at this
  rw [add_plain]
  exact this
theorem RowM.spare (h : RowM w B g cap ys) (j : Nat) (hj : j < cap) : (w.cell? ⟨g, j, none⟩).isSome = true ∧ w.frozen? ⟨g, j, none⟩ = false := by
  obtain ⟨cur, fz, hb, hf, hs, hc, _⟩ := h
  refine ⟨by simp [World.cell?, hb, hs, hj], ?_⟩
  obtain ⟨lo, hi⟩ := fz
  simp only [World.frozen?, hb, Bool.and_eq_false_iff, decide_eq_false_iff_not]
  simp only at hf
  omega
theorem setCells_rowM {e : TypeId} {fz : Nat × Nat} : ∀ (vs : List Value) (o : Nat) (w : World) (cur : Array Value), w.heap[g]? = some (.cells cur e fz) → o + vs.length ≤ cur.size →
    ∃ cur', (w.setCells g o vs).heap[g]? = some (.cells cur' e fz) ∧ cur'.size = cur.size ∧ cur'.toList = cur.toList.take o ++ vs ++ cur.toList.drop (o + vs.length)
  | [], o, w, cur, h, _ => ⟨cur, h, rfl, by simp⟩
  | v :: r, o, w, cur, h, hl => by
    have h2 : (w.setCell ⟨g, o, none⟩ v).heap[g]? = some (.cells (cur.setIfInBounds o v) e fz) := by rw [setCell_eq_setRow w g o cur e fz v h]; exact setRow_heap w g cur _ e _ h
    simp only [List.length_cons] at hl
    obtain ⟨cur', h3, h4, h5⟩ := setCells_rowM r (o + 1) (w.setCell ⟨g, o, none⟩ v) _ h2 (by simp; omega)
    refine ⟨cur', h3, by rw [h4]; simp, ?_⟩
    rw [h5]
    have e := list_seg_step cur.toList o v r (by simp; omega)
    simpa [Array.toList_setIfInBounds, Nat.add_assoc] using e
theorem RowM.put (h : RowM w B g cap ys) (xs : List Int) (hroom : ys.length + xs.length ≤ cap) : RowM (w.setCells g ys.length (nums .u8 xs)) B g cap (ys ++ xs) ∧ w.grownBy (w.setCells g ys.length (nums .u8 xs)) (some g) := by
  obtain ⟨cur, fz, hb, hf, hs, hc, hm, ht, hB⟩ := h
  obtain ⟨cur', h3, h4, h5⟩ := setCells_rowM (g := g) (nums .u8 xs) ys.length w cur hb (by rw [nums_length, hs]; exact hroom)
  obtain ⟨s1, s2, s3, s4⟩ := setCells_same g (nums .u8 xs) ys.length w
  refine ⟨⟨cur', fz, h3, by rw [h4]; exact hf, by rw [h4, hs], by simpa using hroom, hm, ?_, hB⟩, ⟨s1, s2, s3, by rw [s4]; exact Nat.le_refl _, fun k _ hk => setCells_far _ _ k (fun e => hk (by simp [e]))⟩⟩
  rw [h5, ht, ← nums_append, List.take_append_of_le_length (by rw [nums_length]; exact Nat.le_refl _), List.take_of_length_le (by rw [nums_length]; exact Nat.le_refl _)]
/-- append of bytes that are read. -/
theorem run_appendM {ty : TypeId} {m c n : Nat} {xs : List Int} {A : Option Addr} (h : RowM w B g cap ys) (hn : ys.length = n) (hx : ReadsInt w .u8 A m xs) (hl : n + m ≤ 1000000) (hB : B ≤ w.heap.size) :
    ∃ g' cap' w', (Builtin.append_ #[39, 39] ty #[.slice (some ⟨g, 0, none⟩) n cap, .slice A m c]).run Tryd.prog w = .ok (.slice (some ⟨g', 0, none⟩) (n + m) cap') w' ∧ RowM w' B g' cap' (ys ++ xs) ∧ w.grownBy w' (some g) ∧ (g' = g ∨ w.heap.size ≤ g') := by
  subst hn
  obtain ⟨i, hi, hz0, hz1, hz2⟩ := info_parts info5
  have h0 := h
  obtain ⟨cur, fz, hb, hf, hs, hc, hm, ht, hB0⟩ := h
  obtain ⟨hxl, hxm, hr⟩ := hx
  cases A with
  | none =>
    have hm0 : m = 0 := by
      rcases Nat.eq_zero_or_pos m with h | h
      · exact h
      · obtain ⟨_, e, _⟩ := hr h; cases e
    subst hm0
    obtain rfl : xs = [] := List.eq_nil_of_length_eq_zero hxl
    refine ⟨g, cap, w, ?_, by rw [List.append_nil]; exact h0, ⟨rfl, rfl, rfl, Nat.le_refl _, fun k _ _ => rfl⟩, .inl rfl⟩
    simp [Builtin.append_, run_underlying Tryd.underlying39, sizeOf, typeInfo, hi, Builtin.lenOf, hc, Builtin.firstCells, storeCells]
  | some ad =>
    have hnews : ∀ j u, (nums .u8 xs)[j]? = some u → w.cell? (ad.add j) = some u := by
      intro j u hj
      have hjl : j < xs.length := by have := (List.getElem?_eq_some_iff.1 hj).1; rwa [nums_length] at this
      obtain ⟨ad', e, hcl⟩ := hr (by omega)
      have e := Option.some.inj e
      subst e
      rw [hcl j (by omega), ← hj]
      simp [nums, hjl]
    have hnl : (nums .u8 xs).length = m := by rw [nums_length, hxl]
    by_cases hroom : ys.length + m ≤ cap
    · have hrun := run_append_room_cells (P := Tryd.prog) w 39 ty 5 i Tryd.underlying39 hi g 0 ys.length cap ad m c (nums .u8 xs) (by rw [hz1, hnl, Nat.mul_one]) hnews (nums_one _) hroom (fun j hj => (h0.spare _ (by rw [hz1]; omega)).1) (fun j hj => (h0.spare _ (by rw [hz1]; omega)).2)
      obtain ⟨p1, p2⟩ := h0.put xs (by rw [hxl]; exact hroom)
      rw [hz1, Nat.mul_one, Nat.zero_add] at hrun
      exact ⟨g, cap, _, hrun, p1, p2, .inl rfl⟩
    · obtain ⟨v', w', hrun, r1, r2⟩ := run_append_arg_grows (P := Tryd.prog) w 39 ty 5 i (.int .u8 0) 1 1 Tryd.underlying39 hi hz0 hz1 hz2 rfl (by omega) ⟨g, 0, none⟩ ys.length cap (nums .u8 ys) (by rw [nums_length, Nat.mul_one]) (fun j u hj => by
          have hjl : j < ys.length := by have := (List.getElem?_eq_some_iff.1 hj).1; rwa [nums_length] at this
          have := h0.at_ j hjl
          rw [Nat.zero_add] at this
          rw [add_plain, this, ← hj]
          simp [nums, hjl]) ad m c (nums .u8 xs) (by rw [hnl, Nat.mul_one]) hnews (by omega) (by unfold maxLen; omega) (by omega)
      rw [← nums_append] at r1
      obtain ⟨g', cap', rfl, hM⟩ := RowM.of r1 (by omega)
      have hM' := hM.lower hB
      obtain ⟨_, _, _, _, _, _, _, _, hg'⟩ := hM
      exact ⟨g', cap', w', hrun, hM', ⟨r2.os, r2.tape, r2.output, r2.size, fun k hk _ => r2.block k hk (by simp)⟩, .inr hg'⟩
theorem zeros_nums (m : Nat) : Builtin.zeroCells (Value.int IntKind.u8 0).cells m = (nums .u8 (List.replicate m 0)).toArray := by
  rw [show Builtin.zeroCells (Value.int IntKind.u8 0).cells m = madeCells (Value.int IntKind.u8 0).cells (m * 1) by unfold Builtin.zeroCells madeCells; rfl]
  apply Array.ext'
  simp only [madeCells, nums, show (Value.int IntKind.u8 0).cells = #[Value.int IntKind.u8 0] from rfl]
  simp [Nat.mod_one]
  rw [List.map_const', List.length_range]
set_option maxRecDepth 10000 in
/-- append(b, make([]byte, m)...) -/
theorem run_zerosM {ty : TypeId} {m n : Nat} (h : RowM w B g cap ys) (hn : ys.length = n) (hl : n + m ≤ 1000000) (hB : B ≤ w.heap.size) :
    ∃ g' cap' w', (Builtin.append_ #[39, 3] ty #[.slice (some ⟨g, 0, none⟩) n cap, .int .i64 m]).run Tryd.prog w = .ok (.slice (some ⟨g', 0, none⟩) (n + m) cap') w' ∧ RowM w' B g' cap' (ys ++ List.replicate m 0) ∧ w.grownBy w' (some g) ∧ (g' = g ∨ w.heap.size ≤ g') := by
  subst hn
  obtain ⟨i, hi, hz0, hz1, hz2⟩ := info_parts info5
  have h0 := h
  obtain ⟨cur, fz, hb, hf, hs, hc, hm, ht, hB0⟩ := h
  have hw : IntKind.i64.wrap (m : Int) = m := by rw [IntKind.wrap_i64]; omega
  have hw0 : IntKind.i64.wrap 0 = 0 := by rw [IntKind.wrap_i64]; rfl
  have hneg : ¬ ((m : Int) < 0) := by omega
  have hbig : ¬ (281474976710656 < (m : Int)) := by omega
  by_cases hm0 : m = 0
  · subst hm0
    refine ⟨g, cap, w, ?_, by simpa using h0, ⟨rfl, rfl, rfl, Nat.le_refl _, fun k _ _ => rfl⟩, .inl rfl⟩
    simp [Builtin.append_, run_underlying Tryd.underlying39, run_underlying Tryd.underlying3, sizeOf, typeInfo, hi, asInt, asIntOf, hw0, hc, Builtin.firstCells, storeCells]
  · by_cases hroom : ys.length + m ≤ cap
    · obtain ⟨p1, p2⟩ := h0.put (List.replicate m 0) (by simpa using hroom)
      have hst := run_storeCells_cells (P := Tryd.prog) g ys.length (nums .u8 (List.replicate m 0)) 0 w (fun j hj => (h0.spare _ (by rw [nums_length, List.length_replicate] at hj; omega)).1) (fun j hj => (h0.spare _ (by rw [nums_length, List.length_replicate] at hj; omega)).2) (nums_one _)
      rw [Nat.add_zero] at hst
      refine ⟨g, cap, _, ?_, p1, p2, .inl rfl⟩
      simp [Builtin.append_, run_underlying Tryd.underlying39, run_underlying Tryd.underlying3, sizeOf, typeInfo, zeroValue, hi, hz0, hz1, hz2, asInt, asIntOf, hw, hneg, hbig, hroom, hm0, zeros_nums, add_plain, hst]
    · have hrun := Lib.run_append_grow_zeros (P := Tryd.prog) w 39 3 ty 5 i (.int .u8 0) .i64 .i64 Tryd.underlying39 Tryd.underlying3 hi hz0 (some ⟨g, 0, none⟩) ys.length cap (nums .u8 ys) (run_firstCells_some (P := Tryd.prog) w.drew i.size ys.length _ ys.length cap (nums .u8 ys) (by rw [nums_length, hz1, Nat.mul_one]) (fun j u hj => by
          have hjl : j < ys.length := by have := (List.getElem?_eq_some_iff.1 hj).1; rwa [nums_length] at this
          have := h0.at_ j hjl
          rw [Nat.zero_add] at this
          rw [add_plain]
          refine Eq.trans this ?_
          rw [← hj]
          simp [nums, hjl])) m (by omega) (by omega) (by omega) (by omega) (by rw [hz2]; omega) (by rw [hz2]; exact growslice_fits (by omega) (by omega))
      have hge := grownCap_ge w (ys.length + m) cap 5
      have hcm : grownCap w (ys.length + m) cap 5 ≤ maxLen := grownCap_le_maxLen w (ys.length + m) cap 5 (by unfold maxLen; omega)
      refine ⟨_, _, _, hrun, ⟨_, (0, 0), heap_alloc_new w.drew _, .inl rfl, ?_, by simpa using hge, hcm, ?_, hB⟩, ⟨rfl, rfl, rfl, by simp, fun k hk _ => heap_alloc_old w.drew _ hk⟩, .inr (Nat.le_refl _)⟩
      · rw [zeros_nums, zeros_nums]
        simp only [Array.size_append, List.size_toArray, nums_length, List.length_replicate]
        omega
      · rw [zeros_nums, zeros_nums]
        simp only [Array.toList_append]
        rw [nums_append]
        exact List.take_left' (by simp only [List.length_append, nums_length])
end
end Go.Proofs.YtapapedpecpfgaaDoor.J
