/- sha256's State: Write where bytes are pending. -/
import Derived.Test.YtapapedpecpfgaaDoorJO
set_option linter.unusedVariables false
set_option linter.unusedSimpArgs false
namespace Go.Proofs.YtapapedpecpfgaaDoor.J
open Go.RowKit Go.Proofs.YtapapedpecpfgaaDoorW.PrintWords

theorem news_of_reads {w : World} {b off n : Nat} {xs : List Int} (h : ReadsInt w .u8 (some ⟨b, off, none⟩) n xs) (k : Nat) (hk : k ≤ n) : ∀ j u, (nums .u8 (xs.take k))[j]? = some u → w.cell? ((⟨b, off, none⟩ : Addr).add j) = some u := by
  intro j u hj
  obtain ⟨hl, hm, hr⟩ := h
  have hjl : j < (xs.take k).length := by have := (List.getElem?_eq_some_iff.1 hj).1; rwa [nums_length] at this
  have hjk : j < k := by simp at hjl; omega
  obtain ⟨ad, e, hc⟩ := hr (by omega)
  injection e with e
  subst e
  rw [hc j (by omega), ← hj]
  simp [nums, List.getD_eq_getElem?_getD, List.getElem?_take, hjk]
  rw [List.getElem?_eq_getElem (by omega)]
  simp
theorem nums_one (xs : List Int) : ∀ u ∈ nums .u8 xs, u.oneCell' = true := by
  intro u hu
  obtain ⟨x, _, rfl⟩ := List.mem_map.1 hu
  rfl

theorem sw_store {wr w1 : World} {s n : Nat} {v rest ys : List Int} {rv v1 : Value} (hS : StIs wr s v rest n rv) (hg : wr.grownBy w1 rv.ownBlock) (ho : w1.ownsRow 0 5 1 v1 ys.length (nums .u8 ys)) : StIs (w1.setCell ⟨s, 8, none⟩ v1) s v ys n v1 := by
  have hw1 : Vw w1 s 104 v [rv, .int .i64 n] := ⟨(hg.block s (blk_lt hS.blk.1) hS.ne).trans hS.blk.1, hS.blk.2⟩
  have hne : some s ≠ v1.ownBlock := fun e => by
    obtain ⟨cs, hc⟩ := own_typed ho s e.symm
    exact absurd rfl (blk_ne hw1.1 hc (by decide))
  exact ⟨hw1.set8 v1, own_move ho (fun k hk => Below.heap_setCell _ _ _ _ (fun e => hne (by rw [← (show k = s from e)]; exact hk.symm)))⟩
theorem grown_undrew {w w1 : World} {row : Option Nat} (h : w.drew.grownBy w1 row) : w.grownBy w1 row := ⟨h.os, h.tape, h.output, h.size, h.block⟩

set_option maxRecDepth 100000 in
set_option maxHeartbeats 1000000 in
/-- Where less than a block comes together. -/
theorem sWriteA {w : World} {s n m c : Nat} {v rest xs : List Int} {F : Nat → Prop} {b off : Nat} (hS : StAt w s v rest n F) (hx : ReadsInt w .u8 (some ⟨b, off, none⟩) m xs) (hc : m ≤ c) (hm0 : 0 < m) (hr0 : 0 < rest.length) (hr1 : rest.length + m < 64) (hn : n ≤ 1000000000000)
    (hA : ¬ F b) :
    Calls Tryd.prog 49 #[.pointer (some ⟨s, 0, none⟩), .slice (some ⟨b, off, none⟩) m c] w (SwPost w s v rest n xs F) := by
  obtain ⟨rv, hI, hFs, hFr⟩ := hS
  obtain ⟨r, hr⟩ : ∃ r, rest.length = r := ⟨_, rfl⟩
  rw [hr] at hr0 hr1
  have h9 := hI.c9
  have h8 := hI.c8
  have f9 : w.frozen? ⟨s, 9, none⟩ = false := blk_frozen hI.blk.1 9
  obtain ⟨rA, rc, hrv⟩ : ∃ A c, rv = .slice A rest.length c := own_slice hI.own
  rw [hr] at hrv
  have HI := Lib.hid hI
  have HX := Lib.hid hx
  have HRV := Lib.hid hrv
  have HXL := Lib.hid hx.1
  have HFR := Lib.hid hFr
  have HRL := Lib.hid hr
  rw [hrv] at h8
  clear hI hx hrv hFr hr
  have hc9 : Chg (fun k => k = s) w (w.setCell ⟨s, 9, none⟩ (.int .i64 ((n : Int) + m))) := (Chg.refl (fun k => k = s) w).setCell (p := ⟨s, 9, none⟩) (fun _ => rfl) _
  have hI9 : StIs (w.setCell ⟨s, 9, none⟩ (.int .i64 ((n : Int) + m))) s v rest (n + m) rv := ⟨by simpa using HI.out.blk.set9 (.int .i64 ((n : Int) + m)), own_move HI.out.own (fun k hk => Below.heap_setCell _ _ _ _ (fun e => HI.out.ne (by rw [← (show k = s from e)]; exact hk.symm)))⟩
  have h8' : (w.setCell ⟨s, 9, none⟩ (.int .i64 ((n : Int) + m))).cell? ⟨s, 8, none⟩ = some (.slice rA r rc) := by rw [hI9.c8, HRV.out]
  have f8' : (w.setCell ⟨s, 9, none⟩ (.int .i64 ((n : Int) + m))).frozen? ⟨s, 8, none⟩ = false := blk_frozen hI9.blk.1 8
  have hx9 := rd_chg HX.out hc9 (fun ad e h => by injection e with e; subst e; exact hA (by rw [show b = s from h]; exact hFs))
  have HX9 := Lib.hid hx9
  have HC9 := Lib.hid hc9
  have HI9 := Lib.hid hI9
  obtain ⟨i0, hi, hz0, hz1, hz2⟩ := info_parts info5
  have HZ := Lib.hid (And.intro hi (And.intro hz0 (And.intro hz1 hz2)))
  have hne : some s ≠ (Value.slice rA r rc).ownBlock := by have := HI.out.ne; rw [HRV.out] at this; exact this
  have HNE := Lib.hid hne
  have hown : (w.setCell ⟨s, 9, none⟩ (.int .i64 ((n : Int) + m))).drew.ownsRow 0 5 1 (.slice rA r rc) r (nums .u8 rest) := by have := hI9.own; rw [HRV.out, HRL.out] at this; exact this
  have HOWN := Lib.hid hown
  have hnews : ∀ j u, (nums .u8 (xs.take m))[j]? = some u → (w.setCell ⟨s, 9, none⟩ (.int .i64 ((n : Int) + m))).drew.cell? ((⟨b, off, none⟩ : Addr).add j) = some u := news_of_reads hx9 m (Nat.le_refl _)
  have HNEWS := Lib.hid hnews
  have hnl : (nums .u8 (xs.take m)).length = m * 1 := by rw [nums_length, List.length_take, HXL.out]; omega
  have HNL := Lib.hid hnl
  clear hc9 hI9 hx9 hi hz0 hz1 hz2 hne hown hnews hnl
  have k0 : ¬ (64 : Int) - (r : Int) < (m : Int) := by omega
  have k1 : (r : Int) + (m : Int) < 64 := by omega
  have k2 : (0 : Int) < (r : Int) := by omega
  go_enter Tryd.func49, Tryd.ntmps49
  by_cases hcap : c = m
  · go_wp2
    go_region_law ((refine step_append_lies _ (by rfl) _ _ _ (by rfl) 0 5 i0 _ 1 1 Tryd.underlying39 HZ.out.1 HZ.out.2.1 HZ.out.2.2.1 HZ.out.2.2.2 rfl (by omega) (.slice rA r rc) r (nums .u8 rest) (by rfl) HOWN.out ⟨b, off, none⟩ m _ (nums .u8 (xs.take m)) (by rfl) HNL.out HNEWS.out (nums_one _) hm0 (by unfold maxLen; omega) (by omega) (by omega) _ rfl ?_; intro g1 cap1 w2 hown2 hgrow2 hat2 hlt2; have hcB := (hgrow2.cell_far ⟨s, 8, none⟩ (World.block_lt_of_cell? _ _ h8') HNE.out).trans h8'; have hfB := (hgrow2.frozen_far ⟨s, 8, none⟩ (World.block_lt_of_cell? _ _ h8') HNE.out).trans f8'))
    have hst := sw_store (ys := rest ++ xs) HI9.out (by rw [HRV.out]; exact grown_undrew hgrow2) (by have h := hown2; rw [List.take_of_length_le (by rw [HXL.out]; exact Nat.le_refl _), ← nums_append] at h; rw [List.length_append, HRL.out, HXL.out]; exact h)
    generalize hW3 : w2.setCell { block := s, off := 8 } (Value.slice (some { block := g1, off := 0 }) (r + m) cap1) = w3 at hst ⊢
    have h83 := hst.c8
    have HST := Lib.hid hst
    have HG2 := Lib.hid hgrow2
    have HAT := Lib.hid hat2
    have HW3 := Lib.hid hW3
    clear hst hgrow2 hat2 hW3 hown2 hcB hfB h8' f8' h8 f9 h9
    go_wp2
    go_end0
    have hch : Chg F w w3 := by
      rw [← HW3.out]
      exact (((HC9.out.mono (fun i _ e => by rw [e]; exact hFs)).grown (grown_undrew HG2.out) (fun k hk _ => HFR.out k (by rw [HRV.out]; exact hk)))).setCell (p := ⟨s, 8, none⟩) (fun _ => hFs) _
    have hsz := HC9.out.size
    refine ⟨rfl, hch, fun k => F k ∨ w.heap.size ≤ k, ⟨.slice (some ⟨g1, 0, none⟩) (r + m) cap1, ?_, .inl hFs, fun k hk => ?_⟩, fun k hk h => by rcases h with h | h; exact h; omega⟩
    · rw [blocksF_short (by rw [List.length_append, HRL.out, HXL.out]; exact hr1), HXL.out]
      exact HST.out
    · have hgk : g1 = k := by simpa [Value.ownBlock] using hk
      subst hgk
      rcases HAT.out with h | h
      · exact .inl (HFR.out g1 (by rw [HRV.out]; exact h))
      · exact .inr (by rw [h]; exact hsz)
  · have hcap2 : ¬ (c : Int) = (m : Int) := by omega
    go_wp2
    go_region_law ((refine step_append_lies _ (by rfl) _ _ _ (by rfl) 0 5 i0 _ 1 1 Tryd.underlying39 HZ.out.1 HZ.out.2.1 HZ.out.2.2.1 HZ.out.2.2.2 rfl (by omega) (.slice rA r rc) r (nums .u8 rest) (by rfl) HOWN.out ⟨b, off, none⟩ m _ (nums .u8 (xs.take m)) (by rfl) HNL.out HNEWS.out (nums_one _) hm0 (by unfold maxLen; omega) (by omega) (by omega) _ rfl ?_; intro g1 cap1 w2 hown2 hgrow2 hat2 hlt2; have hcB := (hgrow2.cell_far ⟨s, 8, none⟩ (World.block_lt_of_cell? _ _ h8') HNE.out).trans h8'; have hfB := (hgrow2.frozen_far ⟨s, 8, none⟩ (World.block_lt_of_cell? _ _ h8') HNE.out).trans f8'))
    have hst := sw_store (ys := rest ++ xs) HI9.out (by rw [HRV.out]; exact grown_undrew hgrow2) (by have h := hown2; rw [List.take_of_length_le (by rw [HXL.out]; exact Nat.le_refl _), ← nums_append] at h; rw [List.length_append, HRL.out, HXL.out]; exact h)
    generalize hW3 : w2.setCell { block := s, off := 8 } (Value.slice (some { block := g1, off := 0 }) (r + m) cap1) = w3 at hst ⊢
    have h83 := hst.c8
    have HST := Lib.hid hst
    have HG2 := Lib.hid hgrow2
    have HAT := Lib.hid hat2
    have HW3 := Lib.hid hW3
    clear hst hgrow2 hat2 hW3 hown2 hcB hfB h8' f8' h8 f9 h9
    go_wp2
    go_end0
    have hch : Chg F w w3 := by
      rw [← HW3.out]
      exact (((HC9.out.mono (fun i _ e => by rw [e]; exact hFs)).grown (grown_undrew HG2.out) (fun k hk _ => HFR.out k (by rw [HRV.out]; exact hk)))).setCell (p := ⟨s, 8, none⟩) (fun _ => hFs) _
    have hsz := HC9.out.size
    refine ⟨rfl, hch, fun k => F k ∨ w.heap.size ≤ k, ⟨.slice (some ⟨g1, 0, none⟩) (r + m) cap1, ?_, .inl hFs, fun k hk => ?_⟩, fun k hk h => by rcases h with h | h; exact h; omega⟩
    · rw [blocksF_short (by rw [List.length_append, HRL.out, HXL.out]; exact hr1), HXL.out]
      exact HST.out
    · have hgk : g1 = k := by simpa [Value.ownBlock] using hk
      subst hgk
      rcases HAT.out with h | h
      · exact .inl (HFR.out g1 (by rw [HRV.out]; exact h))
      · exact .inr (by rw [h]; exact hsz)
end Go.Proofs.YtapapedpecpfgaaDoor.J
