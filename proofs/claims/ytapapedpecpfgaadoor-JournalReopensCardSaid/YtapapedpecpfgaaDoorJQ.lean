/- sha256's State: Write that fills a block. -/
import Derived.Test.YtapapedpecpfgaaDoorJP
set_option linter.unusedVariables false
set_option linter.unusedSimpArgs false
namespace Go.Proofs.YtapapedpecpfgaaDoor.J
open Go.RowKit Go.Proofs.YtapapedpecpfgaaDoorW.PrintWords

/-- A full block, read and let go. -/
theorem own64 {w : World} {g cap : Nat} {ys : List Int} (h : w.ownsRow 0 5 1 (.slice (some ⟨g, 0, none⟩) 64 cap) ys.length (nums .u8 ys)) (hl : ys.length = 64) : 64 ≤ cap ∧ ReadsAt w.drew g 0 ys := by
  rw [← hl] at h
  obtain ⟨h1, h2⟩ := h
  rcases h2 with ⟨h2, h3⟩ | ⟨g', cap', cur, e, _, hb, hc, _, hs, ht⟩
  · omega
  · injection e with e1 e2 e3
    injection e1 with e1
    injection e1 with e1
    subst e1 e3
    refine ⟨by omega, fun j hj => ?_⟩
    have hc2 := blk_cell hb (0 + j)
    rw [show w.drew.cell? ⟨g, 0 + j, none⟩ = w.cell? ⟨g, 0 + j, none⟩ from rfl, hc2, Nat.zero_add]
    have h4 : (nums .u8 ys)[j]? = some (.int .u8 (ys.getD j 0)) := by simp [nums, hj]
    rw [← h4, ← ht, List.getElem?_take, if_pos (by omega)]
    simp
theorem stis_cut {w : World} {s n g cap : Nat} {v ys : List Int} (h : StIs w s v ys n (.slice (some ⟨g, 0, none⟩) 64 cap)) : StIs (w.setCell ⟨s, 8, none⟩ (.slice (some ⟨g, 0, none⟩) 0 cap)) s v [] n (.slice (some ⟨g, 0, none⟩) 0 cap) := by
  refine ⟨h.blk.set8 _, ?_⟩
  have hne := h.ne
  obtain ⟨_, h2⟩ := h.own
  refine ⟨rfl, ?_⟩
  rcases h2 with ⟨h2, h3⟩ | ⟨g', cap', cur, e, h0, hb, hc, hm, hs, ht⟩
  · cases h2
  · injection e with e1 e2 e3
    injection e1 with e1
    injection e1 with e1
    subst e1 e3
    refine .inr ⟨g, cap, cur, rfl, Nat.zero_le _, ?_, Nat.zero_le _, hm, hs, by simp; rfl⟩
    rw [Below.heap_setCell _ _ _ _ (fun e => hne (by rw [show s = g from e.symm]; rfl))]
    exact hb

set_option maxRecDepth 100000 in
set_option maxHeartbeats 1000000 in
/-- Where a block is filled. -/
theorem sWriteB {w : World} {s n m c : Nat} {v rest xs : List Int} {F : Nat → Prop} {b off : Nat} (hS : StAt w s v rest n F) (hx : ReadsInt w .u8 (some ⟨b, off, none⟩) m xs) (hc : m ≤ c) (hm : m ≤ 1000000) (hr0 : 0 < rest.length) (hr2 : rest.length < 64) (hr1 : 64 ≤ rest.length + m) (hn : n ≤ 1000000000000)
    (hA : ¬ F b) (hbw : b < w.heap.size) (hk : Kst w) (hF0 : ¬ F 0) :
    Calls Tryd.prog 49 #[.pointer (some ⟨s, 0, none⟩), .slice (some ⟨b, off, none⟩) m c] w (SwPost w s v rest n xs F) := by
  obtain ⟨rv, hI, hFs, hFr⟩ := hS
  obtain ⟨r, hr⟩ : ∃ r, rest.length = r := ⟨_, rfl⟩
  rw [hr] at hr0 hr1 hr2
  obtain ⟨q, hq⟩ : ∃ q, 64 - rest.length = q := ⟨_, rfl⟩
  rw [hr] at hq
  have h9 := hI.c9
  have h8 := hI.c8
  have f9 : w.frozen? ⟨s, 9, none⟩ = false := blk_frozen hI.blk.1 9
  obtain ⟨rA, rc, hrv⟩ : ∃ A c, rv = .slice A rest.length c := own_slice hI.own
  rw [hr] at hrv
  have HI := Lib.hid hI
  have HX := Lib.hid hx
  have HRV := Lib.hid hrv
  have HXL := Lib.hid hx.1
  have HFR := Lib.hid hFr
  have HRL := Lib.hid hr
  rw [hrv] at h8
  have HK := Lib.hid hk
  clear hk
  clear hI hx hrv hFr hr
  have hc9 : Chg (fun k => k = s) w (w.setCell ⟨s, 9, none⟩ (.int .i64 ((n : Int) + m))) := (Chg.refl (fun k => k = s) w).setCell (p := ⟨s, 9, none⟩) (fun _ => rfl) _
  have hI9 : StIs (w.setCell ⟨s, 9, none⟩ (.int .i64 ((n : Int) + m))) s v rest (n + m) rv := ⟨by simpa using HI.out.blk.set9 (.int .i64 ((n : Int) + m)), own_move HI.out.own (fun k hk => Below.heap_setCell _ _ _ _ (fun e => HI.out.ne (by rw [← (show k = s from e)]; exact hk.symm)))⟩
  have h8' : (w.setCell ⟨s, 9, none⟩ (.int .i64 ((n : Int) + m))).cell? ⟨s, 8, none⟩ = some (.slice rA r rc) := by rw [hI9.c8, HRV.out]
  have f8' : (w.setCell ⟨s, 9, none⟩ (.int .i64 ((n : Int) + m))).frozen? ⟨s, 8, none⟩ = false := blk_frozen hI9.blk.1 8
  have hx9 := rd_chg HX.out hc9 (fun ad e h => by injection e with e; subst e; exact hA (by rw [show b = s from h]; exact hFs))
  have HX9 := Lib.hid hx9
  have HC9 := Lib.hid hc9
  have HI9 := Lib.hid hI9
  obtain ⟨i0, hi, hz0, hz1, hz2⟩ := info_parts info5
  have HZ := Lib.hid (And.intro hi (And.intro hz0 (And.intro hz1 hz2)))
  have hne : some s ≠ (Value.slice rA r rc).ownBlock := by have := HI.out.ne; rw [HRV.out] at this; exact this
  have HNE := Lib.hid hne
  have hown : (w.setCell ⟨s, 9, none⟩ (.int .i64 ((n : Int) + m))).drew.ownsRow 0 5 1 (.slice rA r rc) r (nums .u8 rest) := by have := hI9.own; rw [HRV.out, HRL.out] at this; exact this
  have HOWN := Lib.hid hown
  have hnews : ∀ j u, (nums .u8 (xs.take q))[j]? = some u → (w.setCell ⟨s, 9, none⟩ (.int .i64 ((n : Int) + m))).drew.cell? ((⟨b, off, none⟩ : Addr).add j) = some u := news_of_reads hx9 q (by omega)
  have HNEWS := Lib.hid hnews
  have hnl : (nums .u8 (xs.take q)).length = q * 1 := by rw [nums_length, List.length_take, HXL.out]; omega
  have HNL := Lib.hid hnl
  clear hc9 hI9 hx9 hi hz0 hz1 hz2 hne hown hnews hnl
  have hq0 : 0 < q := by omega
  have hqm : q ≤ m := by omega
  have hqI : (64 : Int) - (r : Int) = (q : Int) := by omega
  have hrq : (r : Int) + (q : Int) = 64 := by omega
  have hrq' : r + q = 64 := by omega
  have HRQ := Lib.hid hrq'
  have HQM := Lib.hid hqm
  have HQ0 := Lib.hid hq0
  clear hrq' hq
  have k2 : (0 : Int) < (r : Int) := by omega
  have hcases : q < m ∧ c ≠ q ∨ q = m ∧ c ≠ q ∨ q = m ∧ c = q := by omega
  go_enter Tryd.func49, Tryd.ntmps49
  rcases hcases with ⟨h1, h2⟩ | ⟨h1, h2⟩ | ⟨h1, h2⟩
  ·
    have hI1 : (q : Int) < (m : Int) := by omega
    have hI2 : (q : Int) ≤ (m : Int) := by omega
    have hI4 : (q : Int) ≤ (c : Int) := by omega
    have hI3 : ¬ (c : Int) = (q : Int) := by omega
    go_wp2
    go_region_law ((refine step_append_lies _ (by rfl) _ _ _ (by rfl) 0 5 i0 _ 1 1 Tryd.underlying39 HZ.out.1 HZ.out.2.1 HZ.out.2.2.1 HZ.out.2.2.2 rfl (by omega) (.slice rA r rc) r (nums .u8 rest) (by rfl) HOWN.out ⟨b, off, none⟩ q _ (nums .u8 (xs.take q)) (by rfl) HNL.out HNEWS.out (nums_one _) hq0 (by unfold maxLen; omega) (by omega) (by omega) _ rfl ?_; intro g1 cap1 w2 hown2 hgrow2 hat2 hlt2; have hcB := (hgrow2.cell_far ⟨s, 8, none⟩ (World.block_lt_of_cell? _ _ h8') HNE.out).trans h8'; have hfB := (hgrow2.frozen_far ⟨s, 8, none⟩ (World.block_lt_of_cell? _ _ h8') HNE.out).trans f8'))
    have hl64 : (rest ++ xs.take q).length = 64 := by rw [List.length_append, HRL.out, List.length_take, HXL.out, Nat.min_eq_left HQM.out]; exact HRQ.out
    have hst := sw_store (ys := rest ++ xs.take q) HI9.out (by rw [HRV.out]; exact grown_undrew hgrow2) (by have h := hown2; rw [← nums_append] at h; rw [hl64, ← HRQ.out]; exact h)
    rw [HRQ.out] at hst ⊢
    generalize hW3 : w2.setCell { block := s, off := 8 } (Value.slice (some { block := g1, off := 0 }) 64 cap1) = w3 at hst ⊢
    have h83 := hst.c8
    have HST := Lib.hid hst
    have HG2 := Lib.hid hgrow2
    have HAT := Lib.hid hat2
    have HW3 := Lib.hid hW3
    have HL64 := Lib.hid hl64
    have hch : Chg F w w3 := by
      rw [← hW3]
      exact (((HC9.out.mono (fun i _ e => by rw [e]; exact hFs)).grown (grown_undrew hgrow2) (fun k hk _ => HFR.out k (by rw [HRV.out]; exact hk)))).setCell (p := ⟨s, 8, none⟩) (fun _ => hFs) _
    have HC3 := Lib.hid hch
    have hvD : Vw w3.drew s 104 v [.slice (some ⟨g1, 0, none⟩) 64 cap1, .int .i64 ((n + m : Nat) : Int)] := ⟨blk_drew hst.blk.1, hst.blk.2⟩
    have hkD : Kst w3.drew := by
      obtain ⟨t0, fr0, h0⟩ := HK.out
      exact ⟨t0, fr0, hch.blk h0 hF0⟩
    obtain ⟨hc64, hrD⟩ : 64 ≤ cap1 ∧ ReadsAt w3.drew g1 0 (rest ++ xs.take q) := own64 hst.own HL64.out
    have hc64I : (64 : Int) ≤ (cap1 : Int) := by omega
    have HVD := Lib.hid hvD
    have HKD := Lib.hid hkD
    have HRD := Lib.hid hrD
    clear hst hgrow2 hat2 hW3 hown2 hcB hfB h8' f8' h8 f9 h9 hl64 hch hvD hkD hrD
    go_wp2
    go_region_with ((go_at_call 59; ((with_reducible refine (sBlock HVD.out HRD.out HL64.out hc64 HKD.out).mono ?_); rintro e w4 ⟨rfl, hv4, hch4⟩)))
    have hch4' : Chg (fun k => k = s) w3 w4 := ⟨hch4.os, hch4.tape, hch4.output, hch4.size, hch4.block⟩
    have hI4 : StIs w4 s (blockF v (rest ++ xs.take q)) (rest ++ xs.take q) (n + m) (.slice (some ⟨g1, 0, none⟩) 64 cap1) := ⟨hv4, own_move HST.out.own (fun k hk => hch4'.block k (own_lt HST.out.own k hk) (fun e => HST.out.ne (by rw [← e]; exact hk.symm)))⟩
    have h84 := hI4.c8
    have f84 : w4.frozen? ⟨s, 8, none⟩ = false := blk_frozen hI4.blk.1 8
    have HI4 := Lib.hid hI4
    have HC4 := Lib.hid hch4'
    clear hv4 hch4 hch4' hI4 h83
    go_wp2
    have hst5 : StIs (w4.setCell { block := s, off := 8 } (Value.slice (some { block := g1, off := 0 }) 0 cap1)) s (blockF v (rest ++ xs.take q)) [] (n + m) (.slice (some ⟨g1, 0, none⟩) 0 cap1) := stis_cut HI4.out
    have HFR5 : RowKit.Hid (∀ k, (Value.slice (some (⟨g1, 0, none⟩ : Addr)) 0 cap1).ownBlock = some k → F k ∨ w.heap.size ≤ k) := Lib.hid (by
      intro k hk
      have hgk : g1 = k := by simpa [Value.ownBlock] using hk
      subst hgk
      have hsz := HC9.out.size
      rcases HAT.out with h | h
      · exact .inl (HFR.out g1 (by rw [HRV.out]; exact h))
      · exact .inr (by rw [h]; exact hsz))
    have hc5 : Chg F w (w4.setCell { block := s, off := 8 } (Value.slice (some { block := g1, off := 0 }) 0 cap1)) := (HC3.out.trans' HC4.out (fun _ _ h => h) (fun i _ e => by rw [e]; exact hFs)).setCell (p := ⟨s, 8, none⟩) (fun _ => hFs) _
    generalize hW5 : w4.setCell { block := s, off := 8 } (Value.slice (some { block := g1, off := 0 }) 0 cap1) = w5 at hst5 hc5 ⊢
    have hx5 : ReadsInt w5 .u8 (some ⟨b, off, none⟩) m xs := rd_chg HX.out hc5 (fun ad e => by injection e with e; subst e; exact hA)
    have hbl5 : blocksF (blockF v (rest ++ xs.take q)) (xs.drop q) = blocksF v (rest ++ xs) := by
      rw [blocksF_long (m := rest ++ xs) (by rw [List.length_append, HRL.out, HXL.out]; exact hr1)]
      have e1 : q = 64 - rest.length := by have := HRQ.out; rw [HRL.out]; omega
      have t1 : (rest ++ xs).take 64 = rest ++ xs.take q := by rw [List.take_append, List.take_of_length_le (l := rest) (by rw [HRL.out]; omega), e1]
      have t2 : (rest ++ xs).drop 64 = xs.drop q := by rw [List.drop_append, List.drop_of_length_le (l := rest) (by rw [HRL.out]; omega), List.nil_append, e1]
      rw [t1, t2]
    have HST5 : RowKit.Hid (SwRel w s v (rest ++ xs) (n + m) (.slice (some ⟨g1, 0, none⟩) 0 cap1) F (.slice (some ⟨b, off + q, none⟩) (m - q) (c - q)) w5) := Lib.hid ⟨⟨_, _, _, xs.drop q, _, rfl, rd_drop hx5 q (by omega), by omega, by omega, fun ad e => by injection e with e; subst e; exact ⟨hA, hbw⟩, hst5, hbl5⟩, hc5⟩
    clear hW5 hst5 hc5 hx5 hbl5 h84 f84
    go_loopw [1] (fun xv wr => SwRel w s v (rest ++ xs) (n + m) (.slice (some ⟨g1, 0, none⟩) 0 cap1) F xv wr) (fun xv _ => sliceLen xv)
    case atStart => exact HST5.out
    case round =>
      obtain ⟨⟨A', k, c', xs', v', rfl, hx', hkc, hk1, hA', hI', hbl⟩, hch⟩ := hrel
      have HI' := Lib.hid hI'
      have HX' := Lib.hid hx'
      have HA' := Lib.hid hA'
      have HBL := Lib.hid hbl
      have HCH := Lib.hid hch
      have hxl := hx'.1
      by_cases hlong : 64 ≤ k
      · obtain ⟨ad, rfl⟩ : ∃ ad, A' = some ad := by
          cases A' with
          | none => obtain ⟨_, _, h⟩ := hx'; obtain ⟨ad, e, _⟩ := h (by omega); cases e
          | some ad => exact ⟨ad, rfl⟩
        obtain ⟨b, off, rfl, hra, hbl2⟩ := rd_addr hx' (by omega)
        have hba := hA' ⟨b, off, none⟩ rfl
        have hbs : b ≠ s := fun e => hba.1 (by rw [e]; exact hFs)
        have hkw : Kst wr := by
          obtain ⟨t0, fr0, h0⟩ := HK.out
          exact ⟨t0, fr0, hch.blk h0 hF0⟩
        have hr64 : ReadsAt wr b off (xs'.take 64) := fun j hj => by
          have h1 : j < 64 := by simp at hj; omega
          rw [hra j (by omega)]
          simp [List.getD_eq_getElem?_getD, List.getElem?_take, h1]
        have hl64 : (xs'.take 64).length = 64 := by simp; omega
        have hvD : Vw wr.drew s 104 v' [.slice (some ⟨g1, 0, none⟩) 0 cap1, .int .i64 ((n + m : Nat) : Int)] := ⟨blk_drew hI'.blk.1, hI'.blk.2⟩
        have hrD : ReadsAt wr.drew b off (xs'.take 64) := hr64
        have hkD : Kst wr.drew := hkw
        have HVD := Lib.hid hvD
        have HRD := Lib.hid hrD
        have HKD := Lib.hid hkD
        have HL64 := Lib.hid hl64
        have HBA := Lib.hid hba
        have HXL' := Lib.hid hxl
        clear hI' hx' hA' hbl hch hxl hra hba hr64 hl64 hkw hvD hrD hkD
        have hcc : (64 : Int) ≤ (c' : Int) := by omega
        have hkk : (64 : Int) ≤ (k : Int) := by omega
        by_cases hcap : c' = 64
        · subst hcap
          obtain rfl : k = 64 := by omega
          go_wp2
          go_region_with ((go_at_call 59; ((with_reducible refine (sBlock HVD.out HRD.out HL64.out (by omega) HKD.out).mono ?_); rintro e w2 ⟨rfl, hv2, hch2⟩)))
          have HV2 := Lib.hid hv2
          have HC2 := Lib.hid hch2
          clear hv2 hch2
          go_wp2
          go_roundw
          case rel =>
            have hc2 : Chg (fun k => k = s) wr w2 := ⟨HC2.out.os, HC2.out.tape, HC2.out.output, HC2.out.size, HC2.out.block⟩
            refine ⟨⟨_, 0, 0, [], blockF v' (xs'.take 64), rfl, ⟨rfl, by omega, fun h => absurd h (by omega)⟩, by omega, by omega, fun ad h => by injection h with h; subst h; exact HBA.out, ⟨HV2.out, own_move HI'.out.own (fun k hk => hc2.block k (own_lt HI'.out.own k hk) (fun e => HI'.out.ne (by rw [← e]; exact hk.symm)))⟩, ?_⟩, HCH.out.trans' hc2 (fun _ _ h => h) (fun i _ e => by rw [e]; exact hFs)⟩
            rw [← HBL.out, blocksF_long (m := xs') (by rw [HXL'.out]; exact Nat.le_refl _), List.drop_eq_nil_of_le (by rw [HXL'.out]; exact Nat.le_refl _)]
          case measure => simp [sliceLen]
        · have hcap2 : ¬ ((c' : Int) = 64) := by omega
          go_wp2
          go_region_with ((go_at_call 59; ((with_reducible refine (sBlock HVD.out HRD.out HL64.out (by omega) HKD.out).mono ?_); rintro e w2 ⟨rfl, hv2, hch2⟩)))
          have HV2 := Lib.hid hv2
          have HC2 := Lib.hid hch2
          clear hv2 hch2
          go_wp2
          go_roundw
          case rel =>
            have hc2 : Chg (fun k => k = s) wr w2 := ⟨HC2.out.os, HC2.out.tape, HC2.out.output, HC2.out.size, HC2.out.block⟩
            refine ⟨⟨some ⟨b, off + 64, none⟩, k - 64, c' - 64, xs'.drop 64, blockF v' (xs'.take 64), rfl, rd_chg (rd_drop HX'.out 64 hlong) hc2 (fun ad h => by injection h with h; subst h; exact hbs), by omega, by omega, fun ad h => by injection h with h; subst h; exact HBA.out, ⟨HV2.out, own_move HI'.out.own (fun k hk => hc2.block k (own_lt HI'.out.own k hk) (fun e => HI'.out.ne (by rw [← e]; exact hk.symm)))⟩, ?_⟩, HCH.out.trans' hc2 (fun _ _ h => h) (fun i _ e => by rw [e]; exact hFs)⟩
            rw [← HBL.out, blocksF_long (m := xs') (by rw [HXL'.out]; exact hlong)]
          case measure => simp [sliceLen]; omega
      · have h8r : wr.cell? ⟨s, 8, none⟩ = some (.slice (some ⟨g1, 0, none⟩) 0 cap1) := hI'.c8
        have hkk : ¬ (64 : Int) ≤ (k : Int) := by omega
        have hown : wr.ownsRow 0 5 1 (.slice (some ⟨g1, 0, none⟩) 0 cap1) ([] : List Int).length (nums .u8 []) := hI'.own
        have HOWN := Lib.hid hown
        have HXL' := Lib.hid hxl
        have hsr : some s ≠ (Value.slice (some ⟨g1, 0, none⟩) 0 cap1).ownBlock := hI'.ne
        have HSR := Lib.hid hsr
        have f8 : wr.frozen? ⟨s, 8, none⟩ = false := blk_frozen hI'.blk.1 8
        clear hI' hx' hA' hbl hch hxl hown hsr
        go_wp2_with (at_builtin; refine print_append_row (w0 := wr) 0 rfl _ _ 39 5 .u8 1 rfl Tryd.underlying39 info5 (by decide) (.slice (some ⟨g1, 0, none⟩) 0 cap1) [] xs' A' k c' rfl rfl HOWN.out HX'.out (Below.refl _ _) (Nat.zero_le _) (by simp; omega) ?_; intro v1 w1x ho hb hg hat; obtain ⟨A1, c1, rfl⟩ := own_slice ho; have hHO := Lib.hid ho; have hHG := Lib.hid hg; have hHA := Lib.hid hat; have h8x := (hg.cell_far ⟨s, 8, none⟩ (World.block_lt_of_cell? _ _ h8r) HSR.out).trans h8r; have f8x := (hg.frozen_far ⟨s, 8, none⟩ (World.block_lt_of_cell? _ _ h8r) HSR.out).trans f8; clear ho hb hg hat)
        go_end0
        have hfin := sw_end (w := w) (F := F) (v := v) (m := rest ++ xs) HI'.out hFs HFR5.out HCH.out HBL.out (by rw [HXL'.out]; omega) (by simpa using hHO.out) hHG.out hHA.out
        refine ⟨rfl, hfin.1, ?_⟩
        have hml : n + xs.length = n + m := by rw [HXL.out]
        rw [hml]
        exact hfin.2
  ·
    subst h1
    have hI4 : (q : Int) ≤ (c : Int) := by omega
    have hI3 : ¬ (c : Int) = (q : Int) := by omega
    go_wp2
    go_region_law ((refine step_append_lies _ (by rfl) _ _ _ (by rfl) 0 5 i0 _ 1 1 Tryd.underlying39 HZ.out.1 HZ.out.2.1 HZ.out.2.2.1 HZ.out.2.2.2 rfl (by omega) (.slice rA r rc) r (nums .u8 rest) (by rfl) HOWN.out ⟨b, off, none⟩ q _ (nums .u8 (xs.take q)) (by rfl) HNL.out HNEWS.out (nums_one _) hq0 (by unfold maxLen; omega) (by omega) (by omega) _ rfl ?_; intro g1 cap1 w2 hown2 hgrow2 hat2 hlt2; have hcB := (hgrow2.cell_far ⟨s, 8, none⟩ (World.block_lt_of_cell? _ _ h8') HNE.out).trans h8'; have hfB := (hgrow2.frozen_far ⟨s, 8, none⟩ (World.block_lt_of_cell? _ _ h8') HNE.out).trans f8'))
    have hl64 : (rest ++ xs.take q).length = 64 := by rw [List.length_append, HRL.out, List.length_take, HXL.out, Nat.min_eq_left HQM.out]; exact HRQ.out
    have hst := sw_store (ys := rest ++ xs.take q) HI9.out (by rw [HRV.out]; exact grown_undrew hgrow2) (by have h := hown2; rw [← nums_append] at h; rw [hl64, ← HRQ.out]; exact h)
    rw [HRQ.out] at hst ⊢
    generalize hW3 : w2.setCell { block := s, off := 8 } (Value.slice (some { block := g1, off := 0 }) 64 cap1) = w3 at hst ⊢
    have h83 := hst.c8
    have HST := Lib.hid hst
    have HG2 := Lib.hid hgrow2
    have HAT := Lib.hid hat2
    have HW3 := Lib.hid hW3
    have HL64 := Lib.hid hl64
    have hch : Chg F w w3 := by
      rw [← hW3]
      exact (((HC9.out.mono (fun i _ e => by rw [e]; exact hFs)).grown (grown_undrew hgrow2) (fun k hk _ => HFR.out k (by rw [HRV.out]; exact hk)))).setCell (p := ⟨s, 8, none⟩) (fun _ => hFs) _
    have HC3 := Lib.hid hch
    have hvD : Vw w3.drew s 104 v [.slice (some ⟨g1, 0, none⟩) 64 cap1, .int .i64 ((n + q : Nat) : Int)] := ⟨blk_drew hst.blk.1, hst.blk.2⟩
    have hkD : Kst w3.drew := by
      obtain ⟨t0, fr0, h0⟩ := HK.out
      exact ⟨t0, fr0, hch.blk h0 hF0⟩
    obtain ⟨hc64, hrD⟩ : 64 ≤ cap1 ∧ ReadsAt w3.drew g1 0 (rest ++ xs.take q) := own64 hst.own HL64.out
    have hc64I : (64 : Int) ≤ (cap1 : Int) := by omega
    have HVD := Lib.hid hvD
    have HKD := Lib.hid hkD
    have HRD := Lib.hid hrD
    clear hst hgrow2 hat2 hW3 hown2 hcB hfB h8' f8' h8 f9 h9 hl64 hch hvD hkD hrD
    go_wp2
    go_region_with ((go_at_call 59; ((with_reducible refine (sBlock HVD.out HRD.out HL64.out hc64 HKD.out).mono ?_); rintro e w4 ⟨rfl, hv4, hch4⟩)))
    have hch4' : Chg (fun k => k = s) w3 w4 := ⟨hch4.os, hch4.tape, hch4.output, hch4.size, hch4.block⟩
    have hI4 : StIs w4 s (blockF v (rest ++ xs.take q)) (rest ++ xs.take q) (n + q) (.slice (some ⟨g1, 0, none⟩) 64 cap1) := ⟨hv4, own_move HST.out.own (fun k hk => hch4'.block k (own_lt HST.out.own k hk) (fun e => HST.out.ne (by rw [← e]; exact hk.symm)))⟩
    have h84 := hI4.c8
    have f84 : w4.frozen? ⟨s, 8, none⟩ = false := blk_frozen hI4.blk.1 8
    have HI4 := Lib.hid hI4
    have HC4 := Lib.hid hch4'
    clear hv4 hch4 hch4' hI4 h83
    go_wp2
    have hst5 : StIs (w4.setCell { block := s, off := 8 } (Value.slice (some { block := g1, off := 0 }) 0 cap1)) s (blockF v (rest ++ xs.take q)) [] (n + q) (.slice (some ⟨g1, 0, none⟩) 0 cap1) := stis_cut HI4.out
    have HFR5 : RowKit.Hid (∀ k, (Value.slice (some (⟨g1, 0, none⟩ : Addr)) 0 cap1).ownBlock = some k → F k ∨ w.heap.size ≤ k) := Lib.hid (by
      intro k hk
      have hgk : g1 = k := by simpa [Value.ownBlock] using hk
      subst hgk
      have hsz := HC9.out.size
      rcases HAT.out with h | h
      · exact .inl (HFR.out g1 (by rw [HRV.out]; exact h))
      · exact .inr (by rw [h]; exact hsz))
    have hc5 : Chg F w (w4.setCell { block := s, off := 8 } (Value.slice (some { block := g1, off := 0 }) 0 cap1)) := (HC3.out.trans' HC4.out (fun _ _ h => h) (fun i _ e => by rw [e]; exact hFs)).setCell (p := ⟨s, 8, none⟩) (fun _ => hFs) _
    generalize hW5 : w4.setCell { block := s, off := 8 } (Value.slice (some { block := g1, off := 0 }) 0 cap1) = w5 at hst5 hc5 ⊢
    have hx5 : ReadsInt w5 .u8 (some ⟨b, off, none⟩) q xs := rd_chg HX.out hc5 (fun ad e => by injection e with e; subst e; exact hA)
    have hbl5 : blocksF (blockF v (rest ++ xs.take q)) (xs.drop q) = blocksF v (rest ++ xs) := by
      rw [blocksF_long (m := rest ++ xs) (by rw [List.length_append, HRL.out, HXL.out]; exact hr1)]
      have e1 : q = 64 - rest.length := by have := HRQ.out; rw [HRL.out]; omega
      have t1 : (rest ++ xs).take 64 = rest ++ xs.take q := by rw [List.take_append, List.take_of_length_le (l := rest) (by rw [HRL.out]; omega), e1]
      have t2 : (rest ++ xs).drop 64 = xs.drop q := by rw [List.drop_append, List.drop_of_length_le (l := rest) (by rw [HRL.out]; omega), List.nil_append, e1]
      rw [t1, t2]
    have HST5 : RowKit.Hid (SwRel w s v (rest ++ xs) (n + q) (.slice (some ⟨g1, 0, none⟩) 0 cap1) F (.slice (some ⟨b, off + q, none⟩) (q - q) (c - q)) w5) := Lib.hid ⟨⟨_, _, _, xs.drop q, _, rfl, rd_drop hx5 q (by omega), by omega, by omega, fun ad e => by injection e with e; subst e; exact ⟨hA, hbw⟩, hst5, hbl5⟩, hc5⟩
    clear hW5 hst5 hc5 hx5 hbl5 h84 f84
    go_loopw [1] (fun xv wr => SwRel w s v (rest ++ xs) (n + q) (.slice (some ⟨g1, 0, none⟩) 0 cap1) F xv wr) (fun xv _ => sliceLen xv)
    case atStart => (have h := HST5.out; simp only [Nat.sub_self] at h; exact h)
    case round =>
      obtain ⟨⟨A', k, c', xs', v', rfl, hx', hkc, hk1, hA', hI', hbl⟩, hch⟩ := hrel
      have HI' := Lib.hid hI'
      have HX' := Lib.hid hx'
      have HA' := Lib.hid hA'
      have HBL := Lib.hid hbl
      have HCH := Lib.hid hch
      have hxl := hx'.1
      by_cases hlong : 64 ≤ k
      · obtain ⟨ad, rfl⟩ : ∃ ad, A' = some ad := by
          cases A' with
          | none => obtain ⟨_, _, h⟩ := hx'; obtain ⟨ad, e, _⟩ := h (by omega); cases e
          | some ad => exact ⟨ad, rfl⟩
        obtain ⟨b, off, rfl, hra, hbl2⟩ := rd_addr hx' (by omega)
        have hba := hA' ⟨b, off, none⟩ rfl
        have hbs : b ≠ s := fun e => hba.1 (by rw [e]; exact hFs)
        have hkw : Kst wr := by
          obtain ⟨t0, fr0, h0⟩ := HK.out
          exact ⟨t0, fr0, hch.blk h0 hF0⟩
        have hr64 : ReadsAt wr b off (xs'.take 64) := fun j hj => by
          have h1 : j < 64 := by simp at hj; omega
          rw [hra j (by omega)]
          simp [List.getD_eq_getElem?_getD, List.getElem?_take, h1]
        have hl64 : (xs'.take 64).length = 64 := by simp; omega
        have hvD : Vw wr.drew s 104 v' [.slice (some ⟨g1, 0, none⟩) 0 cap1, .int .i64 ((n + q : Nat) : Int)] := ⟨blk_drew hI'.blk.1, hI'.blk.2⟩
        have hrD : ReadsAt wr.drew b off (xs'.take 64) := hr64
        have hkD : Kst wr.drew := hkw
        have HVD := Lib.hid hvD
        have HRD := Lib.hid hrD
        have HKD := Lib.hid hkD
        have HL64 := Lib.hid hl64
        have HBA := Lib.hid hba
        have HXL' := Lib.hid hxl
        clear hI' hx' hA' hbl hch hxl hra hba hr64 hl64 hkw hvD hrD hkD
        have hcc : (64 : Int) ≤ (c' : Int) := by omega
        have hkk : (64 : Int) ≤ (k : Int) := by omega
        by_cases hcap : c' = 64
        · subst hcap
          obtain rfl : k = 64 := by omega
          go_wp2
          go_region_with ((go_at_call 59; ((with_reducible refine (sBlock HVD.out HRD.out HL64.out (by omega) HKD.out).mono ?_); rintro e w2 ⟨rfl, hv2, hch2⟩)))
          have HV2 := Lib.hid hv2
          have HC2 := Lib.hid hch2
          clear hv2 hch2
          go_wp2
          go_roundw
          case rel =>
            have hc2 : Chg (fun k => k = s) wr w2 := ⟨HC2.out.os, HC2.out.tape, HC2.out.output, HC2.out.size, HC2.out.block⟩
            refine ⟨⟨_, 0, 0, [], blockF v' (xs'.take 64), rfl, ⟨rfl, by omega, fun h => absurd h (by omega)⟩, by omega, by omega, fun ad h => by injection h with h; subst h; exact HBA.out, ⟨HV2.out, own_move HI'.out.own (fun k hk => hc2.block k (own_lt HI'.out.own k hk) (fun e => HI'.out.ne (by rw [← e]; exact hk.symm)))⟩, ?_⟩, HCH.out.trans' hc2 (fun _ _ h => h) (fun i _ e => by rw [e]; exact hFs)⟩
            rw [← HBL.out, blocksF_long (m := xs') (by rw [HXL'.out]; exact Nat.le_refl _), List.drop_eq_nil_of_le (by rw [HXL'.out]; exact Nat.le_refl _)]
          case measure => simp [sliceLen]
        · have hcap2 : ¬ ((c' : Int) = 64) := by omega
          go_wp2
          go_region_with ((go_at_call 59; ((with_reducible refine (sBlock HVD.out HRD.out HL64.out (by omega) HKD.out).mono ?_); rintro e w2 ⟨rfl, hv2, hch2⟩)))
          have HV2 := Lib.hid hv2
          have HC2 := Lib.hid hch2
          clear hv2 hch2
          go_wp2
          go_roundw
          case rel =>
            have hc2 : Chg (fun k => k = s) wr w2 := ⟨HC2.out.os, HC2.out.tape, HC2.out.output, HC2.out.size, HC2.out.block⟩
            refine ⟨⟨some ⟨b, off + 64, none⟩, k - 64, c' - 64, xs'.drop 64, blockF v' (xs'.take 64), rfl, rd_chg (rd_drop HX'.out 64 hlong) hc2 (fun ad h => by injection h with h; subst h; exact hbs), by omega, by omega, fun ad h => by injection h with h; subst h; exact HBA.out, ⟨HV2.out, own_move HI'.out.own (fun k hk => hc2.block k (own_lt HI'.out.own k hk) (fun e => HI'.out.ne (by rw [← e]; exact hk.symm)))⟩, ?_⟩, HCH.out.trans' hc2 (fun _ _ h => h) (fun i _ e => by rw [e]; exact hFs)⟩
            rw [← HBL.out, blocksF_long (m := xs') (by rw [HXL'.out]; exact hlong)]
          case measure => simp [sliceLen]; omega
      · have h8r : wr.cell? ⟨s, 8, none⟩ = some (.slice (some ⟨g1, 0, none⟩) 0 cap1) := hI'.c8
        have hkk : ¬ (64 : Int) ≤ (k : Int) := by omega
        have hown : wr.ownsRow 0 5 1 (.slice (some ⟨g1, 0, none⟩) 0 cap1) ([] : List Int).length (nums .u8 []) := hI'.own
        have HOWN := Lib.hid hown
        have HXL' := Lib.hid hxl
        have hsr : some s ≠ (Value.slice (some ⟨g1, 0, none⟩) 0 cap1).ownBlock := hI'.ne
        have HSR := Lib.hid hsr
        have f8 : wr.frozen? ⟨s, 8, none⟩ = false := blk_frozen hI'.blk.1 8
        clear hI' hx' hA' hbl hch hxl hown hsr
        go_wp2_with (at_builtin; refine print_append_row (w0 := wr) 0 rfl _ _ 39 5 .u8 1 rfl Tryd.underlying39 info5 (by decide) (.slice (some ⟨g1, 0, none⟩) 0 cap1) [] xs' A' k c' rfl rfl HOWN.out HX'.out (Below.refl _ _) (Nat.zero_le _) (by simp; omega) ?_; intro v1 w1x ho hb hg hat; obtain ⟨A1, c1, rfl⟩ := own_slice ho; have hHO := Lib.hid ho; have hHG := Lib.hid hg; have hHA := Lib.hid hat; have h8x := (hg.cell_far ⟨s, 8, none⟩ (World.block_lt_of_cell? _ _ h8r) HSR.out).trans h8r; have f8x := (hg.frozen_far ⟨s, 8, none⟩ (World.block_lt_of_cell? _ _ h8r) HSR.out).trans f8; clear ho hb hg hat)
        go_end0
        have hfin := sw_end (w := w) (F := F) (v := v) (m := rest ++ xs) HI'.out hFs HFR5.out HCH.out HBL.out (by rw [HXL'.out]; omega) (by simpa using hHO.out) hHG.out hHA.out
        refine ⟨rfl, hfin.1, ?_⟩
        have hml : n + xs.length = n + q := by rw [HXL.out]
        rw [hml]
        exact hfin.2
  ·
    subst h1
    have h2 := h2.symm
    subst h2
    go_wp2
    go_region_law ((refine step_append_lies _ (by rfl) _ _ _ (by rfl) 0 5 i0 _ 1 1 Tryd.underlying39 HZ.out.1 HZ.out.2.1 HZ.out.2.2.1 HZ.out.2.2.2 rfl (by omega) (.slice rA r rc) r (nums .u8 rest) (by rfl) HOWN.out ⟨b, off, none⟩ q _ (nums .u8 (xs.take q)) (by rfl) HNL.out HNEWS.out (nums_one _) hq0 (by unfold maxLen; omega) (by omega) (by omega) _ rfl ?_; intro g1 cap1 w2 hown2 hgrow2 hat2 hlt2; have hcB := (hgrow2.cell_far ⟨s, 8, none⟩ (World.block_lt_of_cell? _ _ h8') HNE.out).trans h8'; have hfB := (hgrow2.frozen_far ⟨s, 8, none⟩ (World.block_lt_of_cell? _ _ h8') HNE.out).trans f8'))
    have hl64 : (rest ++ xs.take q).length = 64 := by rw [List.length_append, HRL.out, List.length_take, HXL.out, Nat.min_eq_left HQM.out]; exact HRQ.out
    have hst := sw_store (ys := rest ++ xs.take q) HI9.out (by rw [HRV.out]; exact grown_undrew hgrow2) (by have h := hown2; rw [← nums_append] at h; rw [hl64, ← HRQ.out]; exact h)
    rw [HRQ.out] at hst ⊢
    generalize hW3 : w2.setCell { block := s, off := 8 } (Value.slice (some { block := g1, off := 0 }) 64 cap1) = w3 at hst ⊢
    have h83 := hst.c8
    have HST := Lib.hid hst
    have HG2 := Lib.hid hgrow2
    have HAT := Lib.hid hat2
    have HW3 := Lib.hid hW3
    have HL64 := Lib.hid hl64
    have hch : Chg F w w3 := by
      rw [← hW3]
      exact (((HC9.out.mono (fun i _ e => by rw [e]; exact hFs)).grown (grown_undrew hgrow2) (fun k hk _ => HFR.out k (by rw [HRV.out]; exact hk)))).setCell (p := ⟨s, 8, none⟩) (fun _ => hFs) _
    have HC3 := Lib.hid hch
    have hvD : Vw w3.drew s 104 v [.slice (some ⟨g1, 0, none⟩) 64 cap1, .int .i64 ((n + q : Nat) : Int)] := ⟨blk_drew hst.blk.1, hst.blk.2⟩
    have hkD : Kst w3.drew := by
      obtain ⟨t0, fr0, h0⟩ := HK.out
      exact ⟨t0, fr0, hch.blk h0 hF0⟩
    obtain ⟨hc64, hrD⟩ : 64 ≤ cap1 ∧ ReadsAt w3.drew g1 0 (rest ++ xs.take q) := own64 hst.own HL64.out
    have hc64I : (64 : Int) ≤ (cap1 : Int) := by omega
    have HVD := Lib.hid hvD
    have HKD := Lib.hid hkD
    have HRD := Lib.hid hrD
    clear hst hgrow2 hat2 hW3 hown2 hcB hfB h8' f8' h8 f9 h9 hl64 hch hvD hkD hrD
    go_wp2
    go_region_with ((go_at_call 59; ((with_reducible refine (sBlock HVD.out HRD.out HL64.out hc64 HKD.out).mono ?_); rintro e w4 ⟨rfl, hv4, hch4⟩)))
    have hch4' : Chg (fun k => k = s) w3 w4 := ⟨hch4.os, hch4.tape, hch4.output, hch4.size, hch4.block⟩
    have hI4 : StIs w4 s (blockF v (rest ++ xs.take q)) (rest ++ xs.take q) (n + q) (.slice (some ⟨g1, 0, none⟩) 64 cap1) := ⟨hv4, own_move HST.out.own (fun k hk => hch4'.block k (own_lt HST.out.own k hk) (fun e => HST.out.ne (by rw [← e]; exact hk.symm)))⟩
    have h84 := hI4.c8
    have f84 : w4.frozen? ⟨s, 8, none⟩ = false := blk_frozen hI4.blk.1 8
    have HI4 := Lib.hid hI4
    have HC4 := Lib.hid hch4'
    clear hv4 hch4 hch4' hI4 h83
    go_wp2
    have hst5 : StIs (w4.setCell { block := s, off := 8 } (Value.slice (some { block := g1, off := 0 }) 0 cap1)) s (blockF v (rest ++ xs.take q)) [] (n + q) (.slice (some ⟨g1, 0, none⟩) 0 cap1) := stis_cut HI4.out
    have HFR5 : RowKit.Hid (∀ k, (Value.slice (some (⟨g1, 0, none⟩ : Addr)) 0 cap1).ownBlock = some k → F k ∨ w.heap.size ≤ k) := Lib.hid (by
      intro k hk
      have hgk : g1 = k := by simpa [Value.ownBlock] using hk
      subst hgk
      have hsz := HC9.out.size
      rcases HAT.out with h | h
      · exact .inl (HFR.out g1 (by rw [HRV.out]; exact h))
      · exact .inr (by rw [h]; exact hsz))
    have hc5 : Chg F w (w4.setCell { block := s, off := 8 } (Value.slice (some { block := g1, off := 0 }) 0 cap1)) := (HC3.out.trans' HC4.out (fun _ _ h => h) (fun i _ e => by rw [e]; exact hFs)).setCell (p := ⟨s, 8, none⟩) (fun _ => hFs) _
    generalize hW5 : w4.setCell { block := s, off := 8 } (Value.slice (some { block := g1, off := 0 }) 0 cap1) = w5 at hst5 hc5 ⊢
    have hx5 : ReadsInt w5 .u8 (some ⟨b, off, none⟩) q xs := rd_chg HX.out hc5 (fun ad e => by injection e with e; subst e; exact hA)
    have hbl5 : blocksF (blockF v (rest ++ xs.take q)) (xs.drop q) = blocksF v (rest ++ xs) := by
      rw [blocksF_long (m := rest ++ xs) (by rw [List.length_append, HRL.out, HXL.out]; exact hr1)]
      have e1 : q = 64 - rest.length := by have := HRQ.out; rw [HRL.out]; omega
      have t1 : (rest ++ xs).take 64 = rest ++ xs.take q := by rw [List.take_append, List.take_of_length_le (l := rest) (by rw [HRL.out]; omega), e1]
      have t2 : (rest ++ xs).drop 64 = xs.drop q := by rw [List.drop_append, List.drop_of_length_le (l := rest) (by rw [HRL.out]; omega), List.nil_append, e1]
      rw [t1, t2]
    have HST5 : RowKit.Hid (SwRel w s v (rest ++ xs) (n + q) (.slice (some ⟨g1, 0, none⟩) 0 cap1) F (.slice (some ⟨b, off, none⟩) (q - q) (q - q)) w5) := Lib.hid ⟨⟨_, _, _, xs.drop q, _, rfl, ⟨by simp [HXL.out], by omega, fun h => absurd h (by omega)⟩, by omega, by omega, fun ad e => by injection e with e; subst e; exact ⟨hA, hbw⟩, hst5, hbl5⟩, hc5⟩
    clear hW5 hst5 hc5 hx5 hbl5 h84 f84
    go_loopw [1] (fun xv wr => SwRel w s v (rest ++ xs) (n + q) (.slice (some ⟨g1, 0, none⟩) 0 cap1) F xv wr) (fun xv _ => sliceLen xv)
    case atStart => (have h := HST5.out; simp only [Nat.sub_self] at h; exact h)
    case round =>
      obtain ⟨⟨A', k, c', xs', v', rfl, hx', hkc, hk1, hA', hI', hbl⟩, hch⟩ := hrel
      have HI' := Lib.hid hI'
      have HX' := Lib.hid hx'
      have HA' := Lib.hid hA'
      have HBL := Lib.hid hbl
      have HCH := Lib.hid hch
      have hxl := hx'.1
      by_cases hlong : 64 ≤ k
      · obtain ⟨ad, rfl⟩ : ∃ ad, A' = some ad := by
          cases A' with
          | none => obtain ⟨_, _, h⟩ := hx'; obtain ⟨ad, e, _⟩ := h (by omega); cases e
          | some ad => exact ⟨ad, rfl⟩
        obtain ⟨b, off, rfl, hra, hbl2⟩ := rd_addr hx' (by omega)
        have hba := hA' ⟨b, off, none⟩ rfl
        have hbs : b ≠ s := fun e => hba.1 (by rw [e]; exact hFs)
        have hkw : Kst wr := by
          obtain ⟨t0, fr0, h0⟩ := HK.out
          exact ⟨t0, fr0, hch.blk h0 hF0⟩
        have hr64 : ReadsAt wr b off (xs'.take 64) := fun j hj => by
          have h1 : j < 64 := by simp at hj; omega
          rw [hra j (by omega)]
          simp [List.getD_eq_getElem?_getD, List.getElem?_take, h1]
        have hl64 : (xs'.take 64).length = 64 := by simp; omega
        have hvD : Vw wr.drew s 104 v' [.slice (some ⟨g1, 0, none⟩) 0 cap1, .int .i64 ((n + q : Nat) : Int)] := ⟨blk_drew hI'.blk.1, hI'.blk.2⟩
        have hrD : ReadsAt wr.drew b off (xs'.take 64) := hr64
        have hkD : Kst wr.drew := hkw
        have HVD := Lib.hid hvD
        have HRD := Lib.hid hrD
        have HKD := Lib.hid hkD
        have HL64 := Lib.hid hl64
        have HBA := Lib.hid hba
        have HXL' := Lib.hid hxl
        clear hI' hx' hA' hbl hch hxl hra hba hr64 hl64 hkw hvD hrD hkD
        have hcc : (64 : Int) ≤ (c' : Int) := by omega
        have hkk : (64 : Int) ≤ (k : Int) := by omega
        by_cases hcap : c' = 64
        · subst hcap
          obtain rfl : k = 64 := by omega
          go_wp2
          go_region_with ((go_at_call 59; ((with_reducible refine (sBlock HVD.out HRD.out HL64.out (by omega) HKD.out).mono ?_); rintro e w2 ⟨rfl, hv2, hch2⟩)))
          have HV2 := Lib.hid hv2
          have HC2 := Lib.hid hch2
          clear hv2 hch2
          go_wp2
          go_roundw
          case rel =>
            have hc2 : Chg (fun k => k = s) wr w2 := ⟨HC2.out.os, HC2.out.tape, HC2.out.output, HC2.out.size, HC2.out.block⟩
            refine ⟨⟨_, 0, 0, [], blockF v' (xs'.take 64), rfl, ⟨rfl, by omega, fun h => absurd h (by omega)⟩, by omega, by omega, fun ad h => by injection h with h; subst h; exact HBA.out, ⟨HV2.out, own_move HI'.out.own (fun k hk => hc2.block k (own_lt HI'.out.own k hk) (fun e => HI'.out.ne (by rw [← e]; exact hk.symm)))⟩, ?_⟩, HCH.out.trans' hc2 (fun _ _ h => h) (fun i _ e => by rw [e]; exact hFs)⟩
            rw [← HBL.out, blocksF_long (m := xs') (by rw [HXL'.out]; exact Nat.le_refl _), List.drop_eq_nil_of_le (by rw [HXL'.out]; exact Nat.le_refl _)]
          case measure => simp [sliceLen]
        · have hcap2 : ¬ ((c' : Int) = 64) := by omega
          go_wp2
          go_region_with ((go_at_call 59; ((with_reducible refine (sBlock HVD.out HRD.out HL64.out (by omega) HKD.out).mono ?_); rintro e w2 ⟨rfl, hv2, hch2⟩)))
          have HV2 := Lib.hid hv2
          have HC2 := Lib.hid hch2
          clear hv2 hch2
          go_wp2
          go_roundw
          case rel =>
            have hc2 : Chg (fun k => k = s) wr w2 := ⟨HC2.out.os, HC2.out.tape, HC2.out.output, HC2.out.size, HC2.out.block⟩
            refine ⟨⟨some ⟨b, off + 64, none⟩, k - 64, c' - 64, xs'.drop 64, blockF v' (xs'.take 64), rfl, rd_chg (rd_drop HX'.out 64 hlong) hc2 (fun ad h => by injection h with h; subst h; exact hbs), by omega, by omega, fun ad h => by injection h with h; subst h; exact HBA.out, ⟨HV2.out, own_move HI'.out.own (fun k hk => hc2.block k (own_lt HI'.out.own k hk) (fun e => HI'.out.ne (by rw [← e]; exact hk.symm)))⟩, ?_⟩, HCH.out.trans' hc2 (fun _ _ h => h) (fun i _ e => by rw [e]; exact hFs)⟩
            rw [← HBL.out, blocksF_long (m := xs') (by rw [HXL'.out]; exact hlong)]
          case measure => simp [sliceLen]; omega
      · have h8r : wr.cell? ⟨s, 8, none⟩ = some (.slice (some ⟨g1, 0, none⟩) 0 cap1) := hI'.c8
        have hkk : ¬ (64 : Int) ≤ (k : Int) := by omega
        have hown : wr.ownsRow 0 5 1 (.slice (some ⟨g1, 0, none⟩) 0 cap1) ([] : List Int).length (nums .u8 []) := hI'.own
        have HOWN := Lib.hid hown
        have HXL' := Lib.hid hxl
        have hsr : some s ≠ (Value.slice (some ⟨g1, 0, none⟩) 0 cap1).ownBlock := hI'.ne
        have HSR := Lib.hid hsr
        have f8 : wr.frozen? ⟨s, 8, none⟩ = false := blk_frozen hI'.blk.1 8
        clear hI' hx' hA' hbl hch hxl hown hsr
        go_wp2_with (at_builtin; refine print_append_row (w0 := wr) 0 rfl _ _ 39 5 .u8 1 rfl Tryd.underlying39 info5 (by decide) (.slice (some ⟨g1, 0, none⟩) 0 cap1) [] xs' A' k c' rfl rfl HOWN.out HX'.out (Below.refl _ _) (Nat.zero_le _) (by simp; omega) ?_; intro v1 w1x ho hb hg hat; obtain ⟨A1, c1, rfl⟩ := own_slice ho; have hHO := Lib.hid ho; have hHG := Lib.hid hg; have hHA := Lib.hid hat; have h8x := (hg.cell_far ⟨s, 8, none⟩ (World.block_lt_of_cell? _ _ h8r) HSR.out).trans h8r; have f8x := (hg.frozen_far ⟨s, 8, none⟩ (World.block_lt_of_cell? _ _ h8r) HSR.out).trans f8; clear ho hb hg hat)
        go_end0
        have hfin := sw_end (w := w) (F := F) (v := v) (m := rest ++ xs) HI'.out hFs HFR5.out HCH.out HBL.out (by rw [HXL'.out]; omega) (by simpa using hHO.out) hHG.out hHA.out
        refine ⟨rfl, hfin.1, ?_⟩
        have hml : n + xs.length = n + q := by rw [HXL.out]
        rw [hml]
        exact hfin.2
end Go.Proofs.YtapapedpecpfgaaDoor.J
