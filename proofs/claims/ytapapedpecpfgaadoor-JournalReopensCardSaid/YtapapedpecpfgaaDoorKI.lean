/- The Journal's append. -/
import Derived.Test.YtapapedpecpfgaaDoorKH
set_option linter.unusedVariables false
set_option linter.unusedSimpArgs false
namespace Go.Proofs.YtapapedpecpfgaaDoor.J
open Go.RowKit Go.Proofs.YtapapedpecpfgaaDoorW.PrintWords

theorem jLenG {wr wd : World} {P : Nat → Prop} {A : Option Addr} {n c : Nat} {rss : List (List Int)} (h : RdRecs wr P A n rss) (hw : Chg (fun _ => False) wr wd) (hc : n ≤ c) (hn : n ≤ 1000) (hl : lenF rss ≤ 1000000) :
    Calls Tryd.prog 43 #[.slice A n c] wd (fun e w' => e = .returned (.int .i64 ((40 + lenF rss : Nat) : Int)) ∧ w' = wd) := jLen (h.chg hw (fun _ _ h => h)) hc hn hl
theorem jSectorsG {wr wd : World} {j d fi rm ep ba us n sz : Nat} {la : ByteArray} {rv du pe : Value} {dn : Bool} (h : JHd wr j d fi rm ep ba us la rv dn) (hd : DHd wr d sz du pe) (hw : Chg (fun _ => False) wr wd) (hn : n ≤ 1000000000) (hs0 : 0 < sz) (hs1 : sz ≤ 4096) :
    Calls Tryd.prog 40 #[.pointer (some ⟨j, 0, none⟩), .int .i64 n] wd (fun e w' => e = .returned (.int .i64 (((n + sz - 1) / sz : Nat) : Int)) ∧ ∃ k, w' = wd.drewN k) := jSectors (h.chg hw (fun h => h)) (hw.blk hd (fun h => h)) hn hs0 hs1
section
variable {w : World} {P R E F : Nat → Prop} {j d fi rm sz n m l c : Nat} {h h0 : Hf} {rv0 hv : Value} {A : Option Addr} {rss : List (List Int)} {cont : Nat → List Int}

set_option maxHeartbeats 4000000 in
theorem jAppNo (hj : JHd w j d fi rm h0.ep h0.ba h0.us h0.la rv0 false) (hD : DiskAt w d sz n cont m F) :
    Calls Tryd.prog 35 #[.pointer (some ⟨j, 0, none⟩), .agg (hcells h hv), .slice A 0 c] w (fun e w' => e = .returned (.int .i64 1) ∧ Chg (fun _ => False) w w') := by
  obtain ⟨dg, dpv, hdh⟩ := hD.hd
  have HDH := Lib.hid hdh
  have q0 := cell_al hj.c0
  have q8 := cell_al hj.c8
  clear hj hD hdh
  go_enter Tryd.func35, Tryd.ntmps35
  go_wp2_with (go_at_call 16; refine (dDown (blk_alloc HDH.out _)).mono ?_; rintro e w' ⟨rfl, rfl⟩)
  go_ret
  exact ⟨rfl, (Chg.refl _ _).alloc _⟩

set_option maxRecDepth 100000 in
set_option maxHeartbeats 8000000 in
theorem jAppFull (hj : JHd w j d fi rm h0.ep h0.ba h0.us h0.la rv0 false) (hD : DiskAt w d sz n cont m F) (hs0 : 0 < sz) (hs1 : sz ≤ 1000) (hrm : rm ≤ 100) (hus : h.us ≤ rm) (hrd : RdRecs w P A l rss) (hlc : l ≤ c) (hl0 : 0 < l) (hl1 : l ≤ 1000) (hlf : lenF rss ≤ 100000)
    (hn : rm - h.us < (40 + lenF rss + sz - 1) / sz) :
    Calls Tryd.prog 35 #[.pointer (some ⟨j, 0, none⟩), .agg (hcells h hv), .slice A l c] w (fun e w' => e = .returned (.int .i64 7) ∧ Chg (fun _ => False) w w') := by
  obtain ⟨dg, dpv, hdh⟩ := hD.hd
  obtain ⟨nd, hnd⟩ : ∃ nd, (40 + lenF rss + sz - 1) / sz = nd := ⟨_, rfl⟩
  rw [hnd] at hn
  have hnb : nd ≤ 200000 := by rw [← hnd]; exact Nat.le_trans (Nat.div_le_self _ _) (by omega)
  have HND := Lib.hid hnd
  have hni : (rm : Int) - (h.us : Int) < (nd : Int) := by omega
  have hsw : IntKind.i64.wrap ((rm : Int) - (h.us : Int)) = (rm : Int) - (h.us : Int) := by rw [IntKind.wrap_i64]; omega
  have hl : ¬ (l : Int) = 0 := by omega
  have HDH := Lib.hid hdh
  have HJ := Lib.hid hj
  have HRD := Lib.hid hrd
  have HLF : RowKit.Hid (40 + lenF rss ≤ 1000000000) := Lib.hid (by omega)
  have q0 := cell_al hj.c0
  have q2 := cell_al hj.c2
  have q8 := cell_al hj.c8
  have q0a := q0 (.cells (hcells h hv) 57)
  have q2a := q2 (.cells (hcells h hv) 57)
  have q3 := (blk_cell (heap_alloc_new w (.cells (hcells h hv) 57)) 2).trans (show (hcells h hv)[2]? = some (.int .i64 h.us) from rfl)
  clear hj hD hdh hrd hnd
  go_enter Tryd.func35, Tryd.ntmps35
  go_wp2_with (go_at_call 16; refine (dDown (blk_alloc HDH.out _)).mono ?_; rintro e w' ⟨rfl, rfl⟩)
  obtain ⟨w1, hw1⟩ : ∃ w1, w.alloc (.cells (hcells h hv) 57) = w1 := ⟨_, rfl⟩
  have hc1 : Chg (fun _ => False) w w1 := by rw [← hw1]; exact (Chg.refl _ _).alloc _
  rw [hw1] at q0a q2a q3 ⊢
  have HC1 := Lib.hid hc1
  obtain ⟨b0, hb0⟩ : ∃ b0, w.heap.size = b0 := ⟨_, rfl⟩
  rw [hb0] at q3 ⊢
  clear q0 q2 q8 hw1 hc1 hb0
  go_region_held3 (fun W => W.cell? ⟨j, 2, none⟩ = some (.int .i64 rm) ∧ W.cell? ⟨b0, 2, none⟩ = some (.int .i64 h.us)) (go_keep) (first
    | (go_at_call 43; refine (jLenG HRD.out (HC1.out.trans (Drw.chg (by exact ⟨rfl, rfl, rfl, rfl⟩))) hlc hl1 (by omega)).mono ?_; rintro e w7 ⟨rfl, h7⟩; rw [h7]; clear h7)
    | (go_at_call 40; refine (jSectorsG HJ.out HDH.out (HC1.out.trans (Drw.chg (by exact ⟨rfl, rfl, rfl, rfl⟩))) HLF.out hs0 (by omega)).mono ?_; rintro e w7 ⟨rfl, k7, h7⟩; rw [h7, HND.out]; clear h7)
    | fail)
  all_goals (
    go_wp2
    go_ret
    exact ⟨rfl, HC1.out.drewN _⟩)
def AppPost (w : World) (d sz n j fi rm : Nat) (F R E : Nat → Prop) (cont' : Nat → List Int) (h' : Hf) (e : Ending) (w' : World) : Prop :=
  ∃ rv' R' E' F', e = .returned (.int .i64 0) ∧ JHd w' j d fi rm h'.ep h'.ba h'.us h'.la rv' false ∧ Chg (fun k => (F k ∨ R k) ∨ k = j) w w' ∧ DiskAt w' d sz n cont' 0 F' ∧ (∀ k, k < w.heap.size → F' k → F k) ∧ RecsAt w' R' E' rv' h'.rs ∧
    (∀ k, k < w.heap.size → R' k → R k) ∧ (∀ k, k < w.heap.size → E' k → E k) ∧ (∀ k, F' k → ¬ R' k ∧ ¬ E' k)
set_option maxRecDepth 100000 in
set_option maxHeartbeats 8000000 in
theorem jAppOk {cnt : Nat} {B : List Int} {h' : Hf} (hj : JHd w j d fi rm h0.ep h0.ba h0.us h0.la rv0 false) (hD : DiskAt w d sz n cont m F) (hs0 : 0 < sz) (hs1 : sz ≤ 1000) (hm : m ≤ 1000) (hrm : rm ≤ 100) (hfi : fi ≤ 1000000) (hfit : fi + 2 * rm ≤ n)
    (hwf : Wf sz rm h) (hr : RecsAt w R E hv h.rs) (hrd : RdRecs w P A l rss) (hP : ∀ k, P k → k < w.heap.size) (hlc : l ≤ c) (hl0 : 0 < l) (hl1 : l ≤ 1000) (hlf : lenF rss ≤ 100000) (hn : (40 + lenF rss + sz - 1) / sz = cnt)
    (hB : encF sz h.la h.us h.ep rss = B) (hBl : B.length = cnt * sz) (hc0 : 0 < cnt) (hcu : h.us + cnt ≤ rm)
    (hdec : decF sz h B = some h') (hBb : ∀ x ∈ B, 0 ≤ x ∧ x ≤ 255) (hb : ∀ s, s < n → ∀ x ∈ cont s, 0 ≤ x ∧ x ≤ 255)
    (hFj : ¬ F j) (hRj : ¬ R j) (hEj : ¬ E j) (hFR : ∀ k, F k → ¬ R k ∧ ¬ E k) (hk : Kst w) (hFk : ¬ F 0) (hRk : ¬ R 0) :
    Calls Tryd.prog 35 #[.pointer (some ⟨j, 0, none⟩), .agg (hcells h hv), .slice A l c] w (AppPost w d sz n j fi rm F R E (newC cont (fi + h.ep % 2 * rm + h.us) cnt (decide (h.us + cnt < rm)) sz B) h') := by
  obtain ⟨dg, dpv, hdh⟩ := hD.hd
  have hus := hwf.us
  have HND := Lib.hid hn
  have hni : ¬ (rm : Int) - (h.us : Int) < (cnt : Int) := by omega
  have HX := Lib.hid (And.intro hD (And.intro hwf (And.intro hr (And.intro hP (And.intro hB (And.intro hBl (And.intro hdec (And.intro hBb (And.intro hb (And.intro hFR hk))))))))))
  have hsw : IntKind.i64.wrap ((rm : Int) - (h.us : Int)) = (rm : Int) - (h.us : Int) := by rw [IntKind.wrap_i64]; omega
  have hl : ¬ (l : Int) = 0 := by omega
  have HDH := Lib.hid hdh
  have HJ := Lib.hid hj
  have HRD := Lib.hid hrd
  have HLF : RowKit.Hid (40 + lenF rss ≤ 1000000000) := Lib.hid (by omega)
  have q0 := cell_al hj.c0
  have q2 := cell_al hj.c2
  have q8 := cell_al hj.c8
  have q0a := q0 (.cells (hcells h hv) 57)
  have q2a := q2 (.cells (hcells h hv) 57)
  have q3 := (blk_cell (heap_alloc_new w (.cells (hcells h hv) 57)) 2).trans (show (hcells h hv)[2]? = some (.int .i64 h.us) from rfl)
  clear hj hD hdh hrd hn hwf hr hP hB hBl hdec hBb hb hFR hk
  go_enter Tryd.func35, Tryd.ntmps35
  go_wp2_with (go_at_call 16; refine (dDown (blk_alloc HDH.out _)).mono ?_; rintro e w' ⟨rfl, rfl⟩)
  obtain ⟨w1, hw1⟩ : ∃ w1, w.alloc (.cells (hcells h hv) 57) = w1 := ⟨_, rfl⟩
  have hc1 : Chg (fun _ => False) w w1 := by rw [← hw1]; exact (Chg.refl _ _).alloc _
  rw [hw1] at q0a q2a q3 ⊢
  have HC1 := Lib.hid hc1
  obtain ⟨b0, hb0⟩ : ∃ b0, w.heap.size = b0 := ⟨_, rfl⟩
  rw [hb0] at q3 ⊢
  have HROW := Lib.hid (show w1.heap[b0]? = some (.cells (hcells h hv) 57 (0, 0)) from by rw [← hw1, ← hb0]; exact heap_alloc_new _ _)
  clear q0 q2 q8 hw1 hc1 hb0
  go_region_held3 (fun W => W.cell? ⟨j, 2, none⟩ = some (.int .i64 rm) ∧ W.cell? ⟨b0, 2, none⟩ = some (.int .i64 h.us)) (go_keep) (first
    | (go_at_call 43; refine (jLenG HRD.out (HC1.out.trans (Drw.chg (by exact ⟨rfl, rfl, rfl, rfl⟩))) hlc hl1 (by omega)).mono ?_; rintro e w7 ⟨rfl, h7⟩; rw [h7]; clear h7)
    | (go_at_call 40; refine (jSectorsG HJ.out HDH.out (HC1.out.trans (Drw.chg (by exact ⟨rfl, rfl, rfl, rfl⟩))) HLF.out hs0 (by omega)).mono ?_; rintro e w7 ⟨rfl, k7, h7⟩; rw [h7, HND.out]; clear h7)
    | fail)
  go_wp2_with (first
    | ((with_reducible show wpList _ _ _ _ _ _); refine wpl_load_H HROW.out rfl (by rfl) (by rfl) ?_))
  obtain ⟨hD, hwf, hr, hP, hB, hBl, hdec, hBb, hb, hFR, hk⟩ := HX.out
  have hc2 := HC1.out.drewN (1 + k7)
  refine (jWrite (HJ.out.chg hc2 (fun h => h)) ((hD.mono (F' := fun k => F k) (fun _ _ h => h)).chg hc2 (fun _ _ _ h => h)) hs0 hs1 hm hrm hfi hfit hwf (hr.fit.chg hc2 (fun _ _ h => h) (fun _ _ h => h)) (HRD.out.chg hc2 (fun _ _ h => h)) (fun k hk => Nat.lt_of_lt_of_le (hP k hk) hc2.size) hlc hl1 hlf hB hBl hc0 hcu hdec hBb hb hFj (fun h => hRj h.1) (fun k hk => ⟨fun h => (hFR k hk).1 h.1, (hFR k hk).2⟩) (hk.chg hc2 (fun h => h)) hFk (fun h => hRk h.1)).mono ?_
  rintro e w2 ⟨rv', R', E', F', rfl, hcw, hd', hF', hr', hR', hE', hdis⟩
  obtain ⟨A2, c2, rfl⟩ := hr'.slice
  have hjw := (HJ.out.chg hc2 (fun h => h)).chg hcw (fun h => by rcases h with h | h; exact hFj h; exact hRj h.1)
  have HJW := Lib.hid hjw
  have HFIN := Lib.hid (And.intro hcw (And.intro hd' (And.intro hF' (And.intro hr' (And.intro hR' (And.intro hE' hdis))))))
  have HXX := Lib.hid (And.intro hr (And.intro hFR hc2))
  have r3 : ∀ o, (w2.alloc o).cell? ⟨j, 3, none⟩ = some (.int .i64 h0.ep) := cell_al hjw.c3
  have r4 : ∀ o, (w2.alloc o).cell? ⟨j, 4, none⟩ = some (.int .i64 h0.ba) := cell_al hjw.c4
  have r5 : ∀ o, (w2.alloc o).cell? ⟨j, 5, none⟩ = some (.int .i64 h0.us) := cell_al hjw.c5
  have r6 : ∀ o, (w2.alloc o).cell? ⟨j, 6, none⟩ = some (.string h0.la) := cell_al hjw.c6
  have r7 : ∀ o, (w2.alloc o).cell? ⟨j, 7, none⟩ = some rv0 := cell_al hjw.c7
  have f3 : ∀ o, (w2.alloc o).frozen? ⟨j, 3, none⟩ = false := frozen_al hjw.c3 (blk_frozen hjw 3)
  have f4 : ∀ o, (w2.alloc o).frozen? ⟨j, 4, none⟩ = false := frozen_al hjw.c4 (blk_frozen hjw 4)
  have f5 : ∀ o, (w2.alloc o).frozen? ⟨j, 5, none⟩ = false := frozen_al hjw.c5 (blk_frozen hjw 5)
  have f6 : ∀ o, (w2.alloc o).frozen? ⟨j, 6, none⟩ = false := frozen_al hjw.c6 (blk_frozen hjw 6)
  have f7 : ∀ o, (w2.alloc o).frozen? ⟨j, 7, none⟩ = false := frozen_al hjw.c7 (blk_frozen hjw 7)
  clear hD hwf hr hP hB hBl hdec hBb hb hFR hk hcw hd' hF' hr' hR' hE' hdis hjw hc2
  unfold hcells
  go_wp2
  go_ret
  rw [j_set (x := h0) (rv0 := rv0) (dn := false) (blk_alloc HJW.out _)]
  obtain ⟨hcw, hd', hF', hr', hR', hE', hdis⟩ := HFIN.out
  obtain ⟨hr, hFR, hc2⟩ := HXX.out
  have hjl := blk_lt HJ.out
  have hs2 := hc2.size
  have hsc := hcw.size
  have hV : ∀ (o : Obj) cs, Chg (fun k => k = j) w2 ((w2.alloc o).setRow j cs) := fun o cs => ((Chg.refl (fun k => k = j) w2).alloc o).trans' (setRow_chgS _ _ _) (fun _ _ h => h) (fun _ _ h => h)
  have n1 : ¬ F' j := fun h => hFj (hF' j (by omega) h)
  have n2 : ¬ R' j := fun h => hRj (hR' j (by omega) h).1
  have n3 : ¬ E' j := fun h => hEj (hE' j (by omega) h)
  refine ⟨.slice A2 h'.rs.length c2, R', E', F', rfl, setRow_heap _ _ _ _ _ _ (blk_alloc HJW.out _), ?_, hd'.chg (hV _ _) (fun k _ h e => n1 (e ▸ h)), fun k hk h => hF' k (by omega) h, hr'.chg (hV _ _) (fun k h e => n2 (e ▸ h)) (fun k h e => n3 (e ▸ h)), fun k hk h => (hR' k (by omega) h).1, fun k hk h => hE' k (by omega) h, hdis⟩
  exact (hc2.trans' hcw (U := fun k => (F k ∨ R k) ∨ k = j) (fun _ _ h => h.elim) (fun k _ h => by rcases h with h | h; exact .inl (.inl h); exact .inl (.inr h.1))).trans' (hV _ _) (fun _ _ h => h) (fun _ _ h => .inr h)
end
end Go.Proofs.YtapapedpecpfgaaDoor.J
