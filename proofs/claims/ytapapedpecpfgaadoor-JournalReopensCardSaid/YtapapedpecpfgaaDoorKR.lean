/- awake. -/
import Derived.Test.YtapapedpecpfgaaDoorKQ
import Derived.Lib.SmallJoins
set_option linter.unusedVariables false
set_option linter.unusedSimpArgs false
namespace Go.Proofs.YtapapedpecpfgaaDoor.J
open Go.RowKit Go.Proofs.YtapapedpecpfgaaDoorW.PrintWords

theorem jOpenD {w : World} {B0 d fi cnt rm sz n : Nat} {x : Hf} {cont : Nat → List Int} {F : Nat → Prop} (h2 : DiskAt w d sz n cont 0 F) (h9 : ∀ k, F k → B0 ≤ k) (hBs : B0 ≤ w.heap.size) (hi : Inv sz fi rm n cont x) (hs0 : 64 ≤ sz) (hs1 : sz ≤ 1000) (hc4 : 4 ≤ cnt) (hcn : fi + cnt ≤ n) (hn : n ≤ 65536) (hrm : cnt / 2 = rm) (hrm1 : rm ≤ 100) (hk : Kst w) :
    Calls Tryd.prog 10 #[.pointer (some ⟨d, 0, none⟩), .int .i64 fi, .int .i64 cnt] w (fun e w' => ∃ j', e = .returned (.tuple #[.pointer (some ⟨j', 0, none⟩), .int .i64 0]) ∧ JOn w' B0 j' d fi rm sz n x cont ∧ w.heap.size ≤ j' ∧ Chg (fun _ => False) w w') := by
  obtain ⟨h0, h1', he0, he1, hx⟩ := hi.opens (by omega)
  refine (jOpen h2 hs0 hs1 hc4 hcn hn hrm hrm1 (by omega) (fun s hs => hi.byt s hs) he0 he1 hk).mono ?_
  rintro e w' ⟨j', rv', R', E', rfl, hj, hjd, hr, hR, hE, hc⟩
  rw [hx] at hjd hr
  exact ⟨j', rfl, ⟨rv', R', E', fun k => F k ∧ k < w.heap.size, hjd, (h2.fit.mono (fun k _ h => ⟨h.1, h.2.1⟩)).chg hc (fun _ _ _ h => h), hr, fun k h => ⟨fun e => by have := (hR k e).1; omega, fun e => by have := (hE k e).1; omega⟩, fun h => by omega, fun h => (hR _ h).2 rfl, fun h => (hE _ h).2 rfl, by omega, fun k h => h9 k h.1, fun k h => by have := (hR k h).1; omega, fun k h => by have := (hE k h).1; omega⟩, hj, hc⟩
theorem app_ok {sz fi rm : Nat} {cont cont' : Nat → List Int} {x after x' : Hf} {rss : List (List Int)} {r : Int} (h : AppR sz fi rm cont x after rss r x' cont') (h0 : rss ≠ []) (h1 : after.us + needF sz rss ≤ rm) : r = 0 ∧ x' = nextH sz after after.ep rss := by
  rcases h with ⟨_, _, _, h⟩ | ⟨h, _, _, h2, _⟩
  · rcases h with h | h
    · exact absurd h h0
    · omega
  · exact ⟨h, h2⟩
/-- One byte, boxed. -/
theorem rd_byte {W : World} {b : Nat} {y : Int} {fr : Nat × Nat} (h : W.heap[b]? = some (.cells #[.int .u8 y] 5 fr)) : RdRec W (fun k => k = b) (.slice (some ⟨b, 0, none⟩) [y].length 1) [y] := by
  refine ⟨_, 1, rfl, Nat.le_refl _, ⟨rfl, by simp, fun _ => ⟨_, rfl, fun i hi => ?_⟩⟩, fun ad e _ => by injection e with e; rw [← e]⟩
  obtain rfl : i = 0 := by simpa using hi
  rw [add_plain, Joins.cell_of_block h 0]
  rfl
theorem byt_one {y : Int} (h0 : 0 ≤ y) (h1 : y ≤ 255) : Byts [y] := fun z hz => by
  obtain rfl := List.mem_singleton.1 hz
  exact ⟨h0, h1⟩

theorem conv_zero (w : World) (A : Option Addr) (c : Nat) : (convert 39 9 (.slice A 0 c)).run Tryd.prog w = .ok (.string (strOfNums [])) w := by
  rw [run_convert_bytes_string w 39 9 5 _ 0 c Tryd.underlying39 Tryd.underlying5 Tryd.underlying9]
  cases A <;> simp [Conv.bytesToString, loadCells]
  all_goals rfl
/-- Record i of a slice of records is read, as a string. -/
theorem rec_str {w : World} {R E : Nat → Prop} {A : Option Addr} {n c : Nat} {rss : List (List Int)} (h : RecsAt w R E (.slice A n c) rss) (hn : rss.length = n) {i : Nat} (hi : i < n) :
    ∃ g A' c', A = some ⟨g, 0, none⟩ ∧ w.cell? ⟨g, i, none⟩ = some (.slice A' (rss.getD i []).length c') ∧ (convert 39 9 (.slice A' (rss.getD i []).length c')).run Tryd.prog w = .ok (.string (strOfNums (rss.getD i []))) w := by
  obtain ⟨⟨hl, hc⟩, _⟩ := h.reads hn
  obtain ⟨ad, e, _, hcs⟩ := hc (by omega)
  obtain ⟨v, hv, A', c', rfl, _, hr, _⟩ := hcs i hi
  obtain ⟨g, hg⟩ : ∃ g, A = some ⟨g, 0, none⟩ := by
    obtain ⟨_, ho, _⟩ := h
    obtain ⟨g, cap, e, _⟩ := ho.form (by omega)
    injection e with e
    exact ⟨g, e⟩
  subst hg
  injection e with e
  subst e
  rw [add_plain] at hv
  refine ⟨g, A', c', rfl, hv, ?_⟩
  rcases Nat.eq_zero_or_pos (rss.getD i []).length with h0 | h0
  · have hnil : rss.getD i [] = [] := List.length_eq_zero_iff.1 h0
    rw [hnil]
    exact conv_zero w A' c'
  · obtain ⟨ad', e', _⟩ := hr.2.2 h0
    subst e'
    obtain ⟨b, off, e2, hra, _⟩ := rd_addr hr h0
    subst e2
    exact run_convert_bytes_arg w 39 5 Tryd.underlying39 Tryd.underlying5 b off _ c' _ rfl (fun x hx => hra x hx) 9 Tryd.underlying9
set_option maxRecDepth 100000 in
set_option maxHeartbeats 8000000 in
theorem jAwake {w : World} (hk : Kst w) : Calls Tryd.prog 7 #[] w (fun e w' => e = .returned (.bool true) ∧ Chg (fun _ => False) w w') := by
  have HK := Lib.hid hk
  have hkl := hk.lt
  obtain ⟨B0, hB0⟩ : ∃ B0, w.heap.size = B0 := ⟨_, rfl⟩
  rw [hB0] at hkl
  have HB0 := Lib.hid hB0
  have hcv : ∀ (W : World) (y : Int) (g : Nat), g = W.heap.size → (convert 39 39 (.slice (some ⟨g, 0, none⟩) 1 1)).run Tryd.prog (W.alloc (.cells #[.int .u8 y] 5)) = .ok (.slice (some ⟨g, 0, none⟩) 1 1) (W.alloc (.cells #[.int .u8 y] 5 (1, 2))) := fun W y g hg => Joins.run_convert_bytes_const_at W 39 5 #[.int .u8 y] 1 1 g hg Tryd.underlying39 Tryd.underlying5
  have HCV := Lib.hid hcv
  clear hk hB0 hcv
  go_enter Tryd.func7, Tryd.ntmps7
  go_wp2_with fail
  refine (dNew (sz := 64) (n := 10) (by decide) (by decide) (by decide) (by decide)).mono ?_
  rintro e w1 ⟨d, F, rfl, hD, hd, hF, hbel⟩
  have hc1 : Chg (fun _ => False) w w1 := ⟨hbel.os, hbel.tape, hbel.output, hbel.size, fun k hk _ => hbel.block k hk⟩
  obtain ⟨dg, dpv, hdh⟩ := hD.hd
  have HD := Lib.hid hD
  have HDH := Lib.hid hdh
  have HF := Lib.hid hF
  have HC1 := Lib.hid hc1
  clear hD hd hF hbel hdh hc1
  go_wp2_with (go_at_call 26; refine (dSectors HDH.out).mono ?_; rintro e w' ⟨rfl, h7⟩; rw [← h7]; clear h7)
  have hi0 := inv_zero (sz := 64) (fi := 0) (rm := 5) (n := 10) (by decide) (by decide)
  have HI0 := Lib.hid hi0
  clear hi0
  refine (jOpenD (B0 := B0) (fi := 0) (cnt := 10) (rm := 5) HD.out (fun k h => by have := HF.out k h; have := HB0.out; omega) (by have := HC1.out.size; have := HB0.out; omega) HI0.out (by decide) (by decide) (by decide) (by decide) (by decide) rfl (by decide) (HK.out.chg HC1.out (fun h => h))).mono ?_
  rintro e w2 ⟨j, rfl, hj, hjw, hc2⟩
  have HJ := Lib.hid hj
  have HC2 := Lib.hid (HC1.out.trans hc2)
  clear hj hjw hc2
  go_wp2_with fail
  refine (jLeft HJ.out (by decide) (by decide) (by decide)).mono ?_
  rintro e w3 ⟨rfl, k3, rfl⟩
  rw [show leftF 64 5 zeroH.us = 276 from by decide]
  have v1 := HCV.out (w2.drewN k3) 97 w2.heap.size rfl
  go_wp2_with fail
  have hca : Chg (fun _ => False) w2 ((w2.drewN k3).alloc (.cells #[.int .u8 97] 5 (1, 2))) := ((Chg.refl _ w2).drewN _).alloc _
  refine (jAppend (rs := [97]) (HJ.out.chg hca) HI0.out (by decide) (by decide) (by decide) (by decide) (by decide) (by decide) (rd_byte (heap_alloc_new _ _)) (fun k hk => by simp at hk ⊢; omega) (by decide) (byt_one (by decide) (by decide)) (HK.out.chg (HC2.out.trans hca) (fun h => h)) hkl).mono ?_
  rintro e w4 ⟨r, x1, C1, rfl, hap, hj1, hi1, hc4⟩
  obtain ⟨rfl, hx1⟩ := app_ok hap (by decide) (by decide)
  have hu1 : x1.us = 1 := by rw [hx1]; rfl
  have he1 : x1.ep = 0 := by rw [hx1]; rfl
  have hr1 : x1.rs = [[97]] := by rw [hx1]; rfl
  have HU1 := Lib.hid hu1
  have HE1 := Lib.hid he1
  have HR1 := Lib.hid hr1
  have HJ1 := Lib.hid hj1
  have HI1 := Lib.hid hi1
  have HC4 := Lib.hid ((HC2.out.trans hca).trans' hc4 (U := fun _ => False) (fun _ _ h => h) (fun k hk h => by have := HB0.out; omega))
  clear hap hx1 hu1 he1 hr1 hj1 hi1 hc4 hca v1
  have v2 := HCV.out w4 98 w4.heap.size rfl
  have v3 := HCV.out (w4.alloc (.cells #[.int .u8 98] 5 (1, 2))) 99 (w4.heap.size + 1) (by simp)
  go_wp2_with fail
  obtain ⟨y1, y2, y3, y4⟩ := alloc3 w4 (.cells #[.int .u8 98] 5 (1, 2)) (.cells #[.int .u8 99] 5 (1, 2)) (.cells #[.slice (some ⟨w4.heap.size, 0, none⟩) 1 1, .slice (some ⟨w4.heap.size + 1, 0, none⟩) 1 1] 39)
  have hcb : Chg (fun _ => False) w4 (((w4.alloc (.cells #[.int .u8 98] 5 (1, 2))).alloc (.cells #[.int .u8 99] 5 (1, 2))).alloc (.cells #[.slice (some ⟨w4.heap.size, 0, none⟩) 1 1, .slice (some ⟨w4.heap.size + 1, 0, none⟩) 1 1] 39)) := (((Chg.refl (fun _ => False) w4).alloc _).alloc _).alloc _
  obtain ⟨w5, hw5⟩ : ∃ w5, ((w4.alloc (.cells #[.int .u8 98] 5 (1, 2))).alloc (.cells #[.int .u8 99] 5 (1, 2))).alloc (.cells #[.slice (some ⟨w4.heap.size, 0, none⟩) 1 1, .slice (some ⟨w4.heap.size + 1, 0, none⟩) 1 1] 39) = w5 := ⟨_, rfl⟩
  rw [hw5] at y1 y2 y3 y4 hcb ⊢
  have hrd : RdRecs w5 (fun k => k < w5.heap.size) (some ⟨w4.heap.size + 1 + 1, 0, none⟩) 2 [[98], [99]] := by
    refine ⟨rfl, fun _ => ⟨_, rfl, blk_lt y3, fun i hi => ?_⟩⟩
    rcases (show i = 0 ∨ i = 1 by omega) with rfl | rfl
    · refine ⟨_, (by rw [add_plain]; exact (blk_cell y3 0).trans rfl), ?_⟩
      obtain ⟨A', c', e, h1, h2, h3⟩ := rd_byte y1
      exact ⟨A', c', e, h1, h2, fun ad a b => by have := h3 ad a b; rw [this]; exact blk_lt y1⟩
    · refine ⟨_, (by rw [add_plain]; exact (blk_cell y3 1).trans rfl), ?_⟩
      obtain ⟨A', c', e, h1, h2, h3⟩ := rd_byte y2
      exact ⟨A', c', e, h1, h2, fun ad a b => by have := h3 ad a b; rw [this]; exact blk_lt y2⟩
  have hrecs : Recs [[98], [99]] := fun r hr => by
    simp only [List.mem_cons, List.not_mem_nil, or_false] at hr
    rcases hr with rfl | rfl
    · exact ⟨byt_one (by decide) (by decide), by decide⟩
    · exact ⟨byt_one (by decide) (by decide), by decide⟩
  refine (jAppendAll (HJ1.out.chg hcb) HI1.out (by decide) (by decide) (by decide) (by decide) (by decide) (by rw [HE1.out]; decide) hrd (fun k hk => hk) (by decide) (by decide) (by decide) hrecs (HK.out.chg (HC4.out.trans hcb) (fun h => h)) hkl).mono ?_
  rintro e w6 ⟨r, x2, C2, rfl, hap, hj2, hi2, hc6⟩
  obtain ⟨rfl, hx2⟩ := app_ok hap (by decide) (by rw [HU1.out]; decide)
  have hu2 : x2.us = 2 := by rw [hx2]; show x1.us + needF 64 [[98], [99]] = 2; rw [HU1.out]; decide
  have he2 : x2.ep = 0 := by rw [hx2]; exact HE1.out
  have hr2 : x2.rs = [[97], [98], [99]] := by rw [hx2]; show x1.rs ++ [[98], [99]] = _; rw [HR1.out]; rfl
  have HU2 := Lib.hid hu2
  have HE2 := Lib.hid he2
  have HR2 := Lib.hid hr2
  have HJ2 := Lib.hid hj2
  have HI2 := Lib.hid hi2
  have HC6 := Lib.hid ((HC4.out.trans hcb).trans' hc6 (U := fun _ => False) (fun _ _ h => h) (fun k hk h => by have := HB0.out; omega))
  clear hap hx2 hu2 he2 hr2 hj2 hi2 hc6 hcb y1 y2 y3 y4 hw5 hrd hrecs v2 v3
  go_wp2_with fail
  refine (jRecords HJ2.out (by rw [HR2.out]; decide) (fun r hr => by rw [HR2.out] at hr; simp only [List.mem_cons, List.not_mem_nil, or_false] at hr; rcases hr with rfl | rfl | rfl <;> decide)).mono ?_
  rintro e w7 ⟨v, R, E, rfl, hrec, hR, hE, hc7⟩
  rw [HR2.out] at hrec
  obtain ⟨A, c, rfl⟩ := hrec.slice
  obtain ⟨ad, A', c', rfl, hcell, hconv⟩ := rec_str hrec rfl (i := 2) (by decide)
  rw [show ([[97], [98], [99]] : List (List Int)).getD 2 [] = [99] from rfl] at hcell hconv
  rw [show strOfNums [99] = { data := #[99] } from rfl] at hconv
  rw [show ([99] : List Int).length = 1 from rfl] at hcell hconv
  rw [show ([[97], [98], [99]] : List (List Int)).length = 3 from rfl]
  have HC7 := Lib.hid (HC6.out.trans hc7)
  have HJ3 := Lib.hid (HJ2.out.chg hc7)
  clear hrec hR hE hc7
  have v4 := HCV.out w7 100 w7.heap.size rfl
  go_wp2_with fail
  have hcd : Chg (fun _ => False) w7 (w7.alloc (.cells #[.int .u8 100] 5 (1, 2))) := (Chg.refl _ w7).alloc _
  refine (jReset (rs := [100]) (HJ3.out.chg hcd) HI2.out (by decide) (by decide) (by decide) (by decide) (by decide) (by rw [HE2.out]; decide) (rd_byte (heap_alloc_new _ _)) (fun k hk => by simp at hk ⊢; omega) (by decide) (byt_one (by decide) (by decide)) (HK.out.chg (HC7.out.trans hcd) (fun h => h)) hkl).mono ?_
  rintro e w8 ⟨r, x4, C4, rfl, hap, hj4, hi4, hc8⟩
  obtain ⟨rfl, hx4⟩ := app_ok hap (by decide) (show 0 + needF 64 [[100]] ≤ 5 by decide)
  have he4 : x4.ep = 1 := by rw [hx4]; show x2.ep + 1 = 1; rw [HE2.out]
  have hr4 : x4.rs = [[100]] := by rw [hx4]; rfl
  have HE4 := Lib.hid he4
  have HR4 := Lib.hid hr4
  have HJ4 := Lib.hid hj4
  have HI4 := Lib.hid hi4
  have HC8 := Lib.hid ((HC7.out.trans hcd).trans' hc8 (U := fun _ => False) (fun _ _ h => h) (fun k hk h => by have := HB0.out; omega))
  clear hap hx4 he4 hr4 hj4 hi4 hc8 hcd hcell hconv v4
  go_wp2_with fail
  refine (jOpenJ (fi := 0) (cnt := 10) (rm := 5) HJ4.out HI4.out (by decide) (by decide) (by decide) (by decide) (by decide) rfl (by decide) (HK.out.chg HC8.out (fun h => h))).mono ?_
  rintro e w9 ⟨j', rfl, hj5, _, hc9⟩
  have HJ5 := Lib.hid hj5
  have HC9 := Lib.hid (HC8.out.trans hc9)
  clear hj5 hc9
  go_wp2_with fail
  refine (jRecords HJ5.out (by rw [HR4.out]; decide) (fun r hr => by rw [HR4.out] at hr; simp only [List.mem_cons, List.not_mem_nil, or_false] at hr; subst hr; decide)).mono ?_
  rintro e w10 ⟨v, R, E, rfl, hrec, hR, hE, hc10⟩
  rw [HR4.out] at hrec
  obtain ⟨A, c, rfl⟩ := hrec.slice
  obtain ⟨ad, A', c', rfl, hcell, hconv⟩ := rec_str hrec rfl (i := 0) (by decide)
  rw [show ([[100]] : List (List Int)).getD 0 [] = [100] from rfl] at hcell hconv
  rw [show strOfNums [100] = { data := #[100] } from rfl] at hconv
  rw [show ([100] : List Int).length = 1 from rfl] at hcell hconv
  rw [show ([[100]] : List (List Int)).length = 1 from rfl]
  have HC10 := Lib.hid (HC9.out.trans hc10)
  obtain ⟨rv, _, _, _, hjd, _⟩ := HJ5.out.chg hc10
  have HJD := Lib.hid hjd
  clear hrec hR hE hc10 hjd
  go_wp2_with fail
  refine (jEpoch HJD.out).mono ?_
  rintro e w11 ⟨rfl, h11⟩
  rw [h11, HE4.out]
  clear h11
  go_wp2
  go_ret
  exact ⟨rfl, HC10.out⟩
end Go.Proofs.YtapapedpecpfgaaDoor.J
