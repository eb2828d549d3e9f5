/- The Journal's write. -/
import Derived.Test.YtapapedpecpfgaaDoorKG
import Derived.Deep.CutRange
set_option linter.unusedVariables false
set_option linter.unusedSimpArgs false
namespace Go.Proofs.YtapapedpecpfgaaDoor.J
open Go.RowKit Go.Shelf Go.Proofs.YtapapedpecpfgaaDoorW.PrintWords

attribute [local go_sem] Oper.semAt_some
def newC (cont : Nat → List Int) (a cnt : Nat) (clr : Bool) (sz : Nat) (B : List Int) : Nat → List Int := fun i => if a ≤ i ∧ i < a + cnt then cutP B sz (i - a) else if i = a + cnt ∧ clr = true then List.replicate sz 0 else cont i
def WJPost (w : World) (d sz n : Nat) (F R E : Nat → Prop) (cont' : Nat → List Int) (h' : Hf) (e : Ending) (w' : World) : Prop :=
  ∃ rv' R' E' F', e = .returned (.tuple #[.agg (hcells h' rv'), .int .i64 0]) ∧ Chg (fun k => F k ∨ R k) w w' ∧ DiskAt w' d sz n cont' 0 F' ∧ (∀ k, k < w.heap.size → F' k → F k) ∧ RecsAt w' R' E' rv' h'.rs ∧
    (∀ k, k < w.heap.size → R' k → R k) ∧ (∀ k, k < w.heap.size → E' k → E k) ∧ (∀ k, F' k → ¬ R' k ∧ ¬ E' k)
theorem alloc4 (w : World) (a b c d : Obj) : ((((w.alloc a).alloc b).alloc c).alloc d).heap[w.heap.size]? = some a ∧ ((((w.alloc a).alloc b).alloc c).alloc d).heap[w.heap.size + 1]? = some b ∧ ((((w.alloc a).alloc b).alloc c).alloc d).heap[w.heap.size + 1 + 1]? = some c ∧ ((((w.alloc a).alloc b).alloc c).alloc d).heap[w.heap.size + 1 + 1 + 1]? = some d ∧ ((((w.alloc a).alloc b).alloc c).alloc d).heap.size = w.heap.size + 4 := by
  have h1 := heap_alloc_new w a
  have h2 := heap_alloc_new (w.alloc a) b
  have h3 := heap_alloc_new ((w.alloc a).alloc b) c
  have h4 := heap_alloc_new (((w.alloc a).alloc b).alloc c) d
  simp only [World.size_alloc] at h2 h3 h4
  refine ⟨?_, ?_, ?_, h4, by simp only [World.size_alloc]⟩
  · exact (Below.heap_alloc _ _ _ (by simp only [World.size_alloc]; omega)).trans ((Below.heap_alloc _ _ _ (by simp only [World.size_alloc]; omega)).trans ((Below.heap_alloc _ _ _ (by simp only [World.size_alloc]; omega)).trans h1))
  · exact (Below.heap_alloc _ _ _ (by simp only [World.size_alloc]; omega)).trans ((Below.heap_alloc _ _ _ (by simp only [World.size_alloc]; omega)).trans h2)
  · exact (Below.heap_alloc _ _ _ (by simp only [World.size_alloc]; omega)).trans h3

def ClrRel (w6 : World) (F : Nat → Prop) (b0 d sz n m : Nat) (cont : Nat → List Int) (bg en rm : Nat) (wx : World) : Prop :=
  ∃ F', DiskAt wx d sz n (fun i => if i = bg + en ∧ en < rm then List.replicate sz 0 else cont i) m F' ∧ (∀ k, k < w6.heap.size → F' k → F k ∧ k < b0) ∧ Chg (fun k => F k ∧ k < b0) w6 wx

theorem alloc3 (w : World) (a b c : Obj) : (((w.alloc a).alloc b).alloc c).heap[w.heap.size]? = some a ∧ (((w.alloc a).alloc b).alloc c).heap[w.heap.size + 1]? = some b ∧ (((w.alloc a).alloc b).alloc c).heap[w.heap.size + 1 + 1]? = some c ∧ (((w.alloc a).alloc b).alloc c).heap.size = w.heap.size + 3 := by
  have h1 := heap_alloc_new w a
  have h2 := heap_alloc_new (w.alloc a) b
  have h3 := heap_alloc_new ((w.alloc a).alloc b) c
  simp only [World.size_alloc] at h2 h3
  refine ⟨?_, ?_, h3, by simp only [World.size_alloc]⟩
  · exact (Below.heap_alloc _ _ _ (by simp only [World.size_alloc]; omega)).trans ((Below.heap_alloc _ _ _ (by simp only [World.size_alloc]; omega)).trans h1)
  · exact (Below.heap_alloc _ _ _ (by simp only [World.size_alloc]; omega)).trans h2
/-- The writes of a round. -/
def WrI (wl : World) (d sz n m a0 b14 : Nat) (cont1 : Nat → List Int) (B : List Int) (Fl : Nat → Prop) {cnt : Nat} (pre : List (Fin cnt)) (W : World) : Prop :=
  (∃ Fx, DiskAt W d sz n (wrP cont1 a0 B sz (pre.map (·.1))) (m + pre.length) Fx ∧ ∀ k, k < wl.heap.size → Fx k → Fl k) ∧ Boxed W b14 3 (.int .i64 ((a0 + pre.length : Nat) : Int)) ∧ Chg (fun k => Fl k ∨ k = b14) wl W
theorem WrI.own {wl : World} {d sz n m a0 b14 : Nat} {cont1 : Nat → List Int} {B : List Int} {Fl : Nat → Prop} {cnt : Nat} : OwnFrom wl.heap.size (fun (pre : List (Fin cnt)) W => WrI wl d sz n m a0 b14 cont1 B Fl pre W) := fun pre W W' row ⟨⟨Fx, hd, hf⟩, hb, hc⟩ hg hr => by
  have hch : Chg (fun k => row = some k) W W' := ⟨hg.os, hg.tape, hg.output, hg.size, fun k hk h => hg.block k hk (fun e => h e.symm)⟩
  refine ⟨⟨Fx, (hd.fit.chg hch (fun k _ hk e => ?_)).mono (fun k _ h => h.1), hf⟩, ?_, hc.trans' hch (fun _ _ h => h) (fun k hk e => ?_)⟩
  · obtain ⟨_, o, ho, hoc⟩ := hr k e
    obtain ⟨_, _, o', ho', hoc'⟩ := hk
    rw [ho] at ho'
    injection ho' with ho'
    rw [ho', hoc'] at hoc
    cases hoc
  · refine hb.kept hg (fun e => ?_)
    obtain ⟨_, o, ho, hoc⟩ := hr b14 e.symm
    have hb' : W.heap[b14]? = some (.cells #[.int .i64 ((a0 + pre.length : Nat) : Int)] 3 (0, 0)) := hb
    rw [hb'] at ho
    injection ho with ho
    rw [← ho] at hoc
    cases hoc
  · obtain ⟨hl, _⟩ := hr k e
    omega
theorem results_row_cell {P : Program} {fn : Func} {p q : Tmp} {ty tq : TypeId} (h : fn.results = #[.cell p ty, .cell q tq]) (tmps : Array Value) (w : World) (g gq : Nat) (t : TypeId) (cs : Array Value) (fr : Nat × Nat) (d : TypeDesc) (v : Value)
    (hp : tmps.getD p undef = .pointer (some ⟨g, 0, none⟩)) (hg : w.heap[g]? = some (.cells cs t fr)) (hu : P.underlying ty = some d) (hd : (match d with | .struct _ | .array _ _ => true | _ => false) = true) (hi : (P.info? ty).map (·.size) = some cs.size)
    (hq : tmps.getD q undef = .pointer (some ⟨gq, 0, none⟩)) (hv : (loadVar tq ⟨gq, 0, none⟩).run P w = .ok v w) :
    (results fn tmps).run P w = .ok (.tuple #[.agg cs, v]) w := by
  have hp' : tmps[p]?.getD undef = .pointer (some ⟨g, 0, none⟩) := by simpa using hp
  have hq' : tmps[q]?.getD undef = .pointer (some ⟨gq, 0, none⟩) := by simpa using hq
  simp [results, h, hp', hq', asAddr, run_loadVar_row w g t ty cs fr d hg hu hd hi, hv]
set_option maxRecDepth 100000 in
set_option maxHeartbeats 8000000 in
theorem jWrite {w : World} {P R E F : Nat → Prop} {j d fi rm ep0 ba0 us0 sz n m l c cnt : Nat} {h h' : Hf} {la0 : ByteArray} {rv0 hv : Value} {dn : Bool} {A : Option Addr} {rss : List (List Int)} {cont : Nat → List Int} {B : List Int}
    (hj : JHd w j d fi rm ep0 ba0 us0 la0 rv0 dn) (hD : DiskAt w d sz n cont m F) (hs0 : 0 < sz) (hs1 : sz ≤ 1000) (hm : m ≤ 1000) (hrm : rm ≤ 100) (hfi : fi ≤ 1000000) (hfit : fi + 2 * rm ≤ n)
    (hwf : Wf sz rm h) (hr : RecsAt w R E hv h.rs) (hrd : RdRecs w P A l rss) (hP : ∀ k, P k → k < w.heap.size) (hlc : l ≤ c) (hl1 : l ≤ 1000) (hlf : lenF rss ≤ 100000) (hB : encF sz h.la h.us h.ep rss = B) (hBl : B.length = cnt * sz) (hc0 : 0 < cnt) (hcu : h.us + cnt ≤ rm)
    (hdec : decF sz h B = some h') (hBb : ∀ x ∈ B, 0 ≤ x ∧ x ≤ 255) (hb : ∀ s, s < n → ∀ x ∈ cont s, 0 ≤ x ∧ x ≤ 255)
    (hFj : ¬ F j) (hRj : ¬ R j) (hFR : ∀ k, F k → ¬ R k ∧ ¬ E k) (hk : Kst w) (hFk : ¬ F 0) (hRk : ¬ R 0) :
    Calls Tryd.prog 44 #[.pointer (some ⟨j, 0, none⟩), .agg (hcells h hv), .slice A l c] w (WJPost w d sz n F R E (newC cont (fi + h.ep % 2 * rm + h.us) cnt (decide (h.us + cnt < rm)) sz B) h') := by
  refine (callsIn_wide (n := 6)).1 ?_
  refine callsIn_of_wp_marks Tryd.func44 rfl trivial (wpIn_wide.2 ?_) rfl
  simp only [Tryd.ntmps44, List.size_toArray, List.length_cons, List.length_nil, Nat.reduceAdd, Nat.reduceSub, Array.replicate_succ, Array.replicate_zero, List.push_toArray, List.append_toArray, List.nil_append, List.cons_append]
  obtain ⟨hA, hc, rfl⟩ := hr.slice
  obtain ⟨dg, dpv, hdh⟩ := hD.hd
  have HJ := Lib.hid hj
  have HD := Lib.hid hD
  have HDH := Lib.hid hdh
  have HWF := Lib.hid hwf
  have HR := Lib.hid hr
  have HRD := Lib.hid hrd
  have HP := Lib.hid hP
  have HB := Lib.hid hB
  have HBL := Lib.hid hBl
  have HDEC := Lib.hid hdec
  have HBB := Lib.hid hBb
  have HCB := Lib.hid hb
  have HFR := Lib.hid hFR
  have HK := Lib.hid hk
  clear hj hD hdh hr hrd hP hB hBl hdec hBb hb hFR hk
  obtain ⟨x1, x2, x3, x4, x5⟩ := alloc4 w (.cells #[.pointer (some ⟨j, 0, none⟩)] 29) (.cells (hcells h (.slice hA h.rs.length hc)) 57) (.cells zH 57) (.cells #[.int .i64 0] 26)
  have hch4 : Chg (fun _ => False) w ((((w.alloc (.cells #[.pointer (some ⟨j, 0, none⟩)] 29)).alloc (.cells (hcells h (.slice hA h.rs.length hc)) 57)).alloc (.cells zH 57)).alloc (.cells #[.int .i64 0] 26)) := ((((Chg.refl (fun _ => False) w).alloc _).alloc _).alloc _).alloc _
  go_upto_region 1 with fail
  rw [show (#[Value.int IntKind.i64 0, Value.int IntKind.i64 0, Value.int IntKind.i64 0, Value.string { data := #[] }, Value.slice none 0 0] : Array Value) = zH from rfl]
  obtain ⟨w4, hw4⟩ : ∃ w4, (((w.alloc (.cells #[.pointer (some ⟨j, 0, none⟩)] 29)).alloc (.cells (hcells h (.slice hA h.rs.length hc)) 57)).alloc (.cells zH 57)).alloc (.cells #[.int .i64 0] 26) = w4 := ⟨_, rfl⟩
  rw [hw4] at x1 x2 x3 x4 x5 hch4 ⊢
  obtain ⟨b0, hb0⟩ : ∃ b0, w.heap.size = b0 := ⟨_, rfl⟩
  rw [hb0] at x1 x2 x3 x4 x5 ⊢
  have HX1 := Lib.hid x1
  have HX2 := Lib.hid x2
  have HX3 := Lib.hid x3
  have HX4 := Lib.hid x4
  have HZ4 := Lib.hid x5
  have HB0 := Lib.hid hb0
  have HC4 := Lib.hid hch4
  have q0 := (blk_cell x1 0).trans (show (#[Value.pointer (some ⟨j, 0, none⟩)] : Array Value)[0]? = some (.pointer (some ⟨j, 0, none⟩)) from rfl)
  clear hw4 hb0 x1 x2 x3 x4 x5 hch4
  go_wp2_with (first
    | ((with_reducible show wpList _ _ _ _ _ _); refine wpl_load_H HX2.out rfl (by rfl) (by rfl) ?_))
  refine (jEnc (HJ.out.chg HC4.out (fun h => h)) (HC4.out.blk HDH.out (fun h => h)) hs0 (by omega) (HRD.out.chg HC4.out (fun _ _ h => h)) (fun k hk => by have := HP.out k hk; have := HB0.out; have := HZ4.out; omega) hlc hl1 hlf hwf.ep (by have := hwf.us; omega) (by have := hwf.la; omega) (HK.out.chg HC4.out (fun h => h))).mono ?_
  rintro e w5 ⟨g, cap, rfl, hRM, hch5⟩
  obtain ⟨M, hM⟩ : ∃ M, cnt * sz = M := ⟨_, rfl⟩
  rw [HB.out] at hRM ⊢
  rw [HBL.out, hM]
  have hgw : w4.heap.size ≤ g := by
    obtain ⟨_, _, _, _, _, _, _, _, hge⟩ := hRM
    exact hge
  have HRM := Lib.hid hRM
  have HM := Lib.hid hM
  have HC5 := Lib.hid (HC4.out.trans hch5)
  have HC45 := Lib.hid hch5
  have HY1 := Lib.hid (hch5.blk HX1.out (fun h => h))
  have HY2 := Lib.hid (hch5.blk HX2.out (fun h => h))
  have HY3 := Lib.hid (hch5.blk HX3.out (fun h => h))
  have HY4 := Lib.hid (hch5.blk HX4.out (fun h => h))
  have HJ5 := Lib.hid (HJ.out.chg HC5.out (fun h => h))
  have HD5 := Lib.hid (HC5.out.blk HDH.out (fun h => h))
  clear q0 hRM hM hch5
  have q0 := (blk_cell HY1.out 0).trans (show (#[Value.pointer (some ⟨j, 0, none⟩)] : Array Value)[0]? = some (.pointer (some ⟨j, 0, none⟩)) from rfl)
  have q1 := (blk_cell HY2.out 0).trans (show (hcells h (.slice hA h.rs.length hc))[0]? = some (.int .i64 h.ep) from rfl)
  have q2 := (blk_cell HY2.out 2).trans (show (hcells h (.slice hA h.rs.length hc))[2]? = some (.int .i64 h.us) from rfl)
  have q3 := HJ5.out.c0
  have q4 := HJ5.out.c2
  obtain ⟨bg, hbg⟩ : ∃ bg, fi + h.ep % 2 * rm = bg := ⟨_, rfl⟩
  have hbg1 : bg ≤ 1000200 ∧ bg + rm ≤ n := by
    have := Nat.mul_le_mul_right rm (show h.ep % 2 ≤ 1 by omega)
    omega
  have HBG := Lib.hid hbg
  obtain ⟨en, hen⟩ : ∃ en, h.us + cnt = en := ⟨_, rfl⟩
  have heni : (h.us : Int) + (cnt : Int) = (en : Int) := by omega
  have hq1 : (M : Int) / (sz : Int) = (cnt : Int) := by rw [← HM.out]; simp; rw [Int.mul_ediv_cancel _ (by omega)]
  have hq2 : (M : Int).tdiv (sz : Int) = (cnt : Int) := by rw [← HM.out]; simp; rw [Int.mul_tdiv_cancel _ (by omega)]
  have hsz : ¬ (sz : Int) = 0 := by omega
  rw [hbg]
  have HEN := Lib.hid hen
  have henr : en ≤ rm := by omega
  have hus : h.us ≤ 100 := by have := hwf.us; omega
  have hwf' := Lib.hid hwf
  have hcu' : cnt ≤ 100 := by omega
  clear hbg hen hwf
  go_wp2_with (first
    | (go_at_call 27; refine (dSizeG HD5.out (Chg.refl _ _)).mono ?_; rintro e w7 ⟨rfl, h7⟩; rw [h7]; clear h7)
    | (go_at_call 37; refine (jBegin HJ5.out h.ep hfi (by omega) (by have := hwf'.out.ep; omega)).mono ?_; rintro e w6 ⟨rfl, k7, rfl⟩; rw [HBG.out]))
  go_quiet (fail)
  go_upto_if 43 with fail
  obtain ⟨w6, hw6⟩ : ∃ w6, w5.drewN (k7 + nq) = w6 := ⟨_, rfl⟩
  have hd56 : Chg (fun _ => False) w5 w6 := by rw [← hw6]; exact (Chg.refl _ _).drewN _
  have hh56 : w6.heap = w5.heap := by rw [← hw6]; rfl
  rw [hw6]
  have HC6 := Lib.hid (HC5.out.trans hd56)
  have HRM6 := Lib.hid (HRM.out.mv (w' := w6) (by rw [hh56]))
  have HZ6 : RowKit.Hid (b0 + 4 ≤ w6.heap.size) := Lib.hid (by rw [hh56]; have := HC45.out.size; have := HZ4.out; omega)
  have HD6 := Lib.hid ((HD.out.fit.mono (F' := fun k => F k ∧ k < b0) (fun k _ hk => ⟨hk.1, by have := HB0.out; have := hk.2.1; omega⟩)).chg HC6.out (fun _ _ _ h => h))
  have HJ6 := Lib.hid (HJ.out.chg HC6.out (fun h => h))
  have HDH6 := Lib.hid (HC6.out.blk HDH.out (fun h => h))
  have HY1' := Lib.hid (hd56.blk HY1.out (fun h => h))
  have HY2' := Lib.hid (hd56.blk HY2.out (fun h => h))
  have HY3' := Lib.hid (hd56.blk HY3.out (fun h => h))
  have HY4' := Lib.hid (hd56.blk HY4.out (fun h => h))
  have hjb : j < b0 := by have := blk_lt HJ.out; have := HB0.out; omega
  have q0 := (blk_cell HY1'.out 0).trans (show (#[Value.pointer (some ⟨j, 0, none⟩)] : Array Value)[0]? = some (.pointer (some ⟨j, 0, none⟩)) from rfl)
  have q3 := HJ6.out.c0
  clear hw6 hd56 hh56
  go_cut [13] from 18 to 115 (fun v13 wx => ClrRel w6 F b0 d sz n m cont bg en rm wx)
  case first =>
    by_cases hlt : en < rm
    · have hltd : decide (en < rm) = true := by simp [hlt]
      obtain ⟨s, hs⟩ : ∃ s, bg + en = s := ⟨_, rfl⟩
      have hsi : (bg : Int) + (en : Int) = (s : Int) := by omega
      have hsn : s < n := by omega
      have HS := Lib.hid hs
      have HLEN := Lib.hid (HD6.out.len hsn)
      have hsw : IntKind.i64.wrap (s : Int) = (s : Int) := by rw [IntKind.wrap_i64]; omega
      clear hs
      go_wp2_with fail
      refine (dRead HD6.out hs0 (by omega) hsn (by omega)).mono ?_
      rintro e w7 ⟨bq, cq, rfl, hbq, hbp, hbel⟩
      rw [HLEN.out]
      have hch7 : Chg (fun _ => False) w6 w7 := ⟨hbel.os, hbel.tape, hbel.output, hbel.size, fun k hk _ => hbel.block k hk⟩
      have hrd : ReadsInt w7 .u8 (some ⟨bq, 0, none⟩) sz (cont s) := by
        have h1 := HLEN.out
        have h2 := hbp.reads (by omega)
        rw [h1] at h2
        exact h2
      have HRDQ := Lib.hid hrd
      have HC7 := Lib.hid hch7
      have q5 := hch7.cell q0 (fun h => h)
      have q6 := hch7.cell q3 (fun h => h)
      clear hbq hbp hbel hrd hch7
      go_upto_if 61 with (go_at_call 53; refine (sMax HRDQ.out hs0 (by omega) (HCB.out s hsn)).mono ?_; rintro e w8 ⟨r, rfl, hrm0, hr0, hr1, h78⟩; rw [← h78]; clear h78; have HRM0 := Lib.hid hrm0; clear hrm0)
      have HLN := Lib.hid (HD6.out.congr (cont' := fun i => if i = bg + en ∧ en < rm then List.replicate sz 0 else cont i))
      by_cases hr : (0 : Int) < r
      · have hch7 := HC7.out
        have HD7 : RowKit.Hid (∀ W, Chg (fun _ => False) w7 W → DiskAt W d sz n cont m (fun k => F k ∧ k < b0)) := Lib.hid (fun W hW => HD6.out.chg (HC7.out.trans hW) (fun _ _ _ h => h))
        have hmk := print_make (P := Tryd.prog) 39 5 .u8 1 Tryd.underlying39 info5 (by decide) sz (by omega)
        have HZR : RowKit.Hid (∀ W : World, W.heap = (w7.alloc (.cells (madeCells #[.int .u8 0] sz) 5)).heap → ReadsInt W .u8 (some ⟨w7.heap.size, 0, none⟩) sz (List.replicate sz 0)) := Lib.hid (fun W hW => rd_heap (own_reads' (own_made w7 0 5 .u8 sz (Nat.zero_le _) (by omega))) hW)
        clear hch7
        go_wp2
        go_region_held3 (fun W => W.cell? ⟨b0, 0, none⟩ = some (.pointer (some ⟨j, 0, none⟩)) ∧ W.cell? ⟨j, 0, none⟩ = some (.pointer (some ⟨d, 0, none⟩))) (go_keep) (first
          | (go_at_call 54; refine (dWrite (HD7.out _ (by repeat (first | exact Chg.refl _ _ | apply Chg.drewN | apply Chg.drew | apply Chg.alloc))) hs0 (by omega) hsn (by omega) (HZR.out _ (by exact rfl))).mono ?_; rintro e w8 ⟨rfl, hc8, F8, hd8, hf8⟩; have k0 := hc8.cell (a := ⟨b0, 0, none⟩) (v := .pointer (some ⟨j, 0, none⟩)) (by exact cell_al q5 _) (fun h => absurd h.2 (Nat.lt_irrefl _)); have k1 := hc8.cell (a := ⟨j, 0, none⟩) (v := .pointer (some ⟨d, 0, none⟩)) (by exact cell_al q6 _) (fun h => hFj h.1); have HC8 := Lib.hid hc8; have HD8 := Lib.hid hd8; have HF8 := Lib.hid hf8; clear hc8 hd8 hf8)
          | fail)
        all_goals (
          go_wp2_with fail
          refine (dSync HD8.out hs0 (by omega) (by omega)).mono ?_
          rintro e w9 ⟨rfl, hc9, F9, hd9, hf9⟩
          have HC9 := Lib.hid hc9
          have HD9 := Lib.hid hd9
          have HF9 := Lib.hid hf9
          clear hc9 hd9 hf9
          go_wp2
          go_meet
          case rel =>
            have e7 := HC7.out.size
            have e8 := HC8.out.size
            simp at e8
            have h8 : ∀ k, k < w6.heap.size → F8 k → F k ∧ k < b0 := fun k hk h => HF8.out k (by simp; omega) h
            refine ⟨F9, (HD9.out.more (Nat.zero_le _)).congr (fun i hi => ?_), fun k hk h => h8 k hk (HF9.out k (by omega) h), ?_⟩
            · unfold upd
              by_cases e : i = s
              · rw [if_pos e, if_pos ⟨by rw [e, HS.out], hlt⟩]
              · rw [if_neg e, if_neg (fun h => e (by rw [← HS.out]; exact h.1))]
            · have ha : Chg (fun k => F k ∧ k < b0) w6 w8 := HC7.out.trans' (U := fun k => F k ∧ k < b0) (show Chg (fun k => F k ∧ k < b0) w7 w8 from ⟨HC8.out.os, HC8.out.tape, HC8.out.output, by omega, fun k hk h => (HC8.out.block k (by simp; omega) h).trans (Below.heap_alloc w7 _ k hk)⟩) (fun _ _ h => h.elim) (fun _ _ h => h)
              exact ha.trans' HC9.out (fun _ _ h => h) (fun k hk h => h8 k hk h))
      · go_wp2
        go_meet
        case rel => 
          refine ⟨_, (HD6.out.congr (fun i hi => ?_)).chg HC7.out (fun _ _ _ h => h), fun k _ hk => hk, HC7.out.mono (fun _ _ h => h.elim)⟩
          by_cases hi2 : i = bg + en ∧ en < rm
          · rw [if_pos hi2, hi2.1, HS.out]
            have hz : ∀ j, j < sz → (cont s).getD j 0 = 0 := fun j hj => by
              have h1 : ¬ 0 < (cont s).getD j 0 := fun h => absurd (HRM0.out.2 ⟨j, by rw [HLEN.out]; exact hj, h⟩) (by omega)
              have h2 := getB (HCB.out s hsn) j
              omega
            refine (List.eq_replicate_iff.2 ⟨HLEN.out, fun b hb => ?_⟩).symm
            obtain ⟨j, hj, rfl⟩ := List.mem_iff_getElem.1 hb
            have := hz j (by rw [← HLEN.out]; exact hj)
            rw [List.getD_eq_getElem?_getD, List.getElem?_eq_getElem hj] at this
            exact this
          · rw [if_neg hi2]
    · have hltd : decide (en < rm) = false := by simp [hlt]
      go_wp2
      go_meet
      case rel => exact ⟨_, HD6.out.congr (fun i hi => by rw [if_neg (fun h => hlt h.2)]), fun k _ hk => hk, Chg.refl _ _⟩
  case rest =>
    obtain ⟨F6, hd6, hf6, hc6⟩ := hcut
    have HDC := Lib.hid hd6.fit
    have HFC := Lib.hid hf6
    have HCC := Lib.hid hc6
    have HW1 := Lib.hid (hc6.blk HY1'.out (fun h => absurd h.2 (Nat.lt_irrefl _)))
    have HW2 := Lib.hid (hc6.blk HY2'.out (fun h => by have := h.2; omega))
    have HW3 := Lib.hid (hc6.blk HY3'.out (fun h => by have := h.2; omega))
    have HW4 := Lib.hid (hc6.blk HY4'.out (fun h => by have := h.2; omega))
    have HJC := Lib.hid (HJ6.out.chg hc6 (fun h => hFj h.1))
    have hsc := hc6.size
    have hgc : b0 + 4 ≤ g := by have := HZ4.out; omega
    have HRMC := Lib.hid (HRM6.out.mv (hc6.block g HRM6.out.lt (fun h => by have := h.2; omega)))
    obtain ⟨a0, ha0⟩ : ∃ a0, bg + h.us = a0 := ⟨_, rfl⟩
    have ha0i : (bg : Int) + (h.us : Int) = (a0 : Int) := by omega
    have HA0 := Lib.hid ha0
    have ha0b : a0 + cnt ≤ n ∧ a0 ≤ 1000300 := by omega
    clear q0 q3 hd6 hf6 hc6 ha0
    have q2 := (blk_cell HW2.out 2).trans (show (hcells h (.slice hA h.rs.length hc))[2]? = some (.int .i64 h.us) from rfl)
    go_wp2_with (go_at_call 56; refine (callsIn_wide.1 (chunk_in 6 _ _ _ _ hs0 _)).mono ?_; rintro e w8 ⟨rfl, h8⟩; rw [h8]; clear h8)
    obtain ⟨y1, y2, y3, y4⟩ := alloc3 wc (.cells #[.int .i64 a0] 3) (.cells #[.slice (some ⟨g, 0, none⟩) M cap] 39) (.cells #[.int .i64 sz] 3)
    have hcl : Chg (fun _ => False) wc (((wc.alloc (.cells #[.int .i64 a0] 3)).alloc (.cells #[.slice (some ⟨g, 0, none⟩) M cap] 39)).alloc (.cells #[.int .i64 sz] 3)) := (((Chg.refl (fun _ => False) wc).alloc _).alloc _).alloc _
    obtain ⟨wl, hwl⟩ : ∃ wl, ((wc.alloc (.cells #[.int .i64 a0] 3)).alloc (.cells #[.slice (some ⟨g, 0, none⟩) M cap] 39)).alloc (.cells #[.int .i64 sz] 3) = wl := ⟨_, rfl⟩
    rw [hwl] at y1 y2 y3 y4 hcl ⊢
    obtain ⟨b14, hb14⟩ : ∃ b14, wc.heap.size = b14 := ⟨_, rfl⟩
    rw [hb14] at y1 y2 y3 y4 ⊢
    have hgl := HRMC.out.lt
    have hgl14 : g < b14 := by omega
    have hMe : M = cnt * sz := HM.out.symm
    have hcapM : M ≤ cap := by have := HRMC.out.le; rw [HBL.out, ← hMe] at this; exact this
    have hseq := chunk_stopsF 5 (by omega) (b14 + 1) (b14 + 1 + 1) g sz cnt M cap hMe hs0 (by omega) (by omega) hcapM wl (by omega) (by omega) ((blk_cell y2 0).trans rfl) ((blk_cell y3 0).trans rfl)
    have hdl := HDC.out.chg hcl (fun _ _ _ h => h)
    have hFl14 : ¬ (fun k => F6 k ∧ k < wc.heap.size ∧ ∃ o : Obj, wc.heap[k]? = some o ∧ o.isCells = true) b14 := fun h => by have := h.2.1; omega
    have HCL := Lib.hid hcl
    have HWL1 := Lib.hid (hcl.blk HW1.out (fun h => h))
    have HWL2 := Lib.hid (hcl.blk HW2.out (fun h => h))
    have HWL3 := Lib.hid (hcl.blk HW3.out (fun h => h))
    have HWL4 := Lib.hid (hcl.blk HW4.out (fun h => h))
    have HJL := Lib.hid (HJC.out.chg hcl (fun h => h))
    have HRML := Lib.hid (HRMC.out.mv (hcl.block g hgl (fun h => h)))
    have hFb : ∀ k, b0 ≤ k → k < b0 + 4 ∨ k = g → ¬ F6 k := fun k h1 h2 hk => by
      have h3 : k < w6.heap.size := by
        have := HZ6.out
        rcases h2 with h2 | h2
        · omega
        · rw [h2]; exact HRM6.out.lt
      have := (HFC.out k h3 hk).2
      omega
    have hFj6 : ¬ F6 j := fun hk => hFj (HFC.out j (by have := HZ6.out; omega) hk).1
    have HFB := Lib.hid hFb
    have HY14 := Lib.hid y1
    have HYL := Lib.hid y4
    have HB14 := Lib.hid hb14
    clear y1 y2 y3 y4 hcl hwl q2 hb14 hFb hMe hcapM
    refine (wpIn_wide (n := 6)).1 ?_
    refine wpIn_rangeFunc_ownH (F := Fence.wide) rfl (by omega) (gf := 61) (lb := #[.pointer (some ⟨b14 + 1, 0, none⟩), .pointer (some ⟨b14 + 1 + 1, 0, none⟩)]) rfl trivial (enters_of Tryd.func61 (by kernel_rfl) rfl)
      hseq (fun h k => Same3.trans h k) (fun W l o o' hl ho _ _ => by
        have e := HYL.out
        refine ⟨?_, ?_, ?_⟩ <;> exact (grownBy_putObj' W l o').block _ (by have := blk_lt ho; omega) (fun e => by injection e with e; omega)) (Below.refl _ _) (fun _ => rfl)
      (fun pre W => WrI wl d sz n m a0 b14 (fun i => if i = bg + en ∧ en < rm then List.replicate sz 0 else cont i) B (fun k => F6 k ∧ k < wc.heap.size ∧ ∃ o : Obj, wc.heap[k]? = some o ∧ o.isCells = true) pre W)
      (fun _ _ _ => False)
      WrI.own (fun _ _ _ _ _ h _ _ => h)
      ⟨⟨_, by rw [List.map_nil, wrP_nil]; exact hdl, fun k _ h => h⟩, HY14.out, Chg.refl _ _⟩
      (fun x a' (_ : World) => a' = ({ tmps := #[.pointer (some ⟨j, 0, none⟩), .agg (hcells h (.slice hA h.rs.length hc)), .slice A l c, .pointer (some ⟨b0, 0, none⟩), .pointer (some ⟨b0 + 1, 0, none⟩), undef, .pointer (some ⟨b0 + 1 + 1, 0, none⟩), .pointer (some ⟨b0 + 1 + 1 + 1, 0, none⟩), .slice (some ⟨g, 0, none⟩) M cap, .int .i64 sz, .int .i64 bg, .int .i64 en, u12, u13, .pointer (some ⟨b14, 0, none⟩), .slice (some ⟨g, x.1 * sz, none⟩) sz sz, undef, undef, u18, u19, u20, u21, u22, u23, u24, u25, u26, u27, u28, u29, u30, u31, u32, u33, u34, u35, u36, u37, u38, u39, u40, u41, u42, u43, u44, u45, u46, u47, u48, u49, u50, u51, u52, u53, u54, u55, u56, u57, u58, u59, u60, u61, u62, u63, u64, u65, u66, u67, u68, u69, u70, u71, u72, u73, u74, u75, u76, u77, u78, u79, u80, u81, .int .i64 bg, .pointer (some ⟨b0 + 1, 2, none⟩), .int .i64 h.us, .int .i64 a0, .slice (some ⟨g, 0, none⟩) M cap, .int .i64 sz, .func (.func 61) #[] #[.pointer (some ⟨b14 + 1, 0, none⟩), .pointer (some ⟨b14 + 1 + 1, 0, none⟩)], .slice (some ⟨g, x.1 * sz, none⟩) sz sz, u90, u91, u92, u93, u94, u95, u96, u97, u98, u99, u100, u101, u102, u103, u104, u105, u106, u107, u108, u109, u110, u111, u112, u113, u114, u115], defers := [] } : Act))
      (fun x a' u W W' row h hg hr => h) ?assign ?body ?done ?stop
    case assign =>
      rintro lp pre x W K hI hK
      dsimp only [cEncF]
      gi_wp2
      exact hK _ _ (KeepsFrom.refl _ _) (Same3.refl _ _ _ _) hI rfl
    case stop =>
      rintro D' c pre W hD hS h hK
      exact h.elim
    case body =>
      rintro lp pre x a' W hl ⟨r, hr⟩ ⟨⟨Fx, hdx, hfx⟩, hbx, hcx⟩ rfl hlt
      dsimp only
      obtain ⟨s, hs⟩ : ∃ s, a0 + pre.length = s := ⟨_, rfl⟩
      rw [hs] at hbx
      have hsn : s < n := by omega
      have hsb : s ≤ 1000500 := by omega
      have hnb0 : ∀ k, b0 ≤ k → k < b0 + 4 ∨ k = g → ¬ (((fun k => F6 k ∧ k < wc.heap.size ∧ ∃ o : Obj, wc.heap[k]? = some o ∧ o.isCells = true) k) ∨ k = b14) := fun k h1 h2 h => by
        rcases h with h | h
        · exact HFB.out k h1 h2 h.1
        · have := HB14.out
          have := HZ6.out
          rcases h2 with h2 | h2 <;> omega
      have hnj : ¬ (((fun k => F6 k ∧ k < wc.heap.size ∧ ∃ o : Obj, wc.heap[k]? = some o ∧ o.isCells = true) j) ∨ j = b14) := fun h => by
        rcases h with h | h
        · exact hFj6 h.1
        · have := HB14.out
          have := HZ6.out
          omega
      have c0 := hcx.cell ((blk_cell HWL1.out 0).trans (show (#[Value.pointer (some ⟨j, 0, none⟩)] : Array Value)[0]? = some (.pointer (some ⟨j, 0, none⟩)) from rfl)) (hnb0 b0 (Nat.le_refl _) (.inl (by omega)))
      have c1 := hcx.cell HJL.out.c0 hnj
      have c2 := hbx.cell
      have c2f := hbx.frozen
      have hrm := HRML.out.mv (hcx.block g HRML.out.lt (hnb0 g (by omega) (.inr rfl)))
      have hxl : x.1 * sz + sz ≤ M := by
        have := Nat.mul_le_mul_right sz (show x.1 + 1 ≤ cnt from x.2)
        rw [Nat.succ_mul] at this
        have h2 := HM.out
        omega
      have hM6 : M ≤ 100000 := by
        have h2 := HM.out
        rw [← h2]
        exact Nat.mul_le_mul hcu' hs1
      have hrx : ReadsInt W .u8 (some ⟨g, x.1 * sz, none⟩) sz (cutP B sz x.1) := by
        have h1 := hrm.reads (by rw [HBL.out, HM.out]; omega)
        rw [HBL.out, HM.out] at h1
        have h2 := (h1.drop_ (c := M + 1) (x.1 * sz) (by omega) (by omega)).take_ sz (by omega)
        rw [if_neg (by omega)] at h2
        have e : (some ⟨g, 0, none⟩ : Option Addr).map (·.add (x.1 * sz)) = some ⟨g, x.1 * sz, none⟩ := by
          simp only [Option.map_some, Addr.add]
          split <;> simp_all
        rw [e] at h2
        exact h2
      have HDX := Lib.hid hdx.fit
      have HFX := Lib.hid hfx
      have HBX := Lib.hid hbx
      have HCX := Lib.hid hcx
      have HRX := Lib.hid hrx
      have HS := Lib.hid hs
      have HNB := Lib.hid hnb0
      have hmp : m + pre.length ≤ 1000000 := by omega
      clear hdx hfx hbx hcx hrx hrm hs hr hnb0 hnj
      have hsw : IntKind.i64.wrap ((s : Int) + 1) = (s : Int) + 1 := by rw [IntKind.wrap_i64]; omega
      gi_wp2
      gi_region_with (refine ⟨trivial, ?_⟩; gi_at_call 54; refine (CallsIn.inRound lp (callsIn_wide.2 (dWrite (HDX.out.chg (Drw.chg (by exact ⟨rfl, rfl, rfl, rfl⟩)) (fun _ _ _ h => h)) hs0 (by omega) hsn hmp (rd_heap HRX.out (by exact rfl))))).mono ?_; rintro e W2 ⟨rfl, hc2, F2, hd2, hf2⟩)
      all_goals (
        have hw2 : ∀ k, k < wl.heap.size → ((fun k => Fx k ∧ k < W.heap.size ∧ ∃ o : Obj, W.heap[k]? = some o ∧ o.isCells = true) k) → F6 k ∧ k < wc.heap.size := fun k hk h => by
          have := HFX.out k hk h.1
          exact ⟨this.1, this.2.1⟩
        have hn14 : ¬ ((fun k => Fx k ∧ k < W.heap.size ∧ ∃ o : Obj, W.heap[k]? = some o ∧ o.isCells = true) b14) := fun h => by
          have h1 := (hw2 b14 (by have := HYL.out; omega) h).2
          have h2 := HB14.out
          omega
        have hn15 : ¬ ((fun k => Fx k ∧ k < W.heap.size ∧ ∃ o : Obj, W.heap[k]? = some o ∧ o.isCells = true) (b14 + 1)) := fun h => by
          have h1 := (hw2 (b14 + 1) (by have := HYL.out; omega) h).2
          have h2 := HB14.out
          omega
        have hn16 : ¬ ((fun k => Fx k ∧ k < W.heap.size ∧ ∃ o : Obj, W.heap[k]? = some o ∧ o.isCells = true) (b14 + 1 + 1)) := fun h => by
          have h1 := (hw2 (b14 + 1 + 1) (by have := HYL.out; omega) h).2
          have h2 := HB14.out
          omega
        have hng : ¬ ((fun k => Fx k ∧ k < W.heap.size ∧ ∃ o : Obj, W.heap[k]? = some o ∧ o.isCells = true) g) := fun h => by
          have h1 := hw2 g (by have := HYL.out; omega) h
          exact HFB.out g (by omega) (.inr rfl) h1.1
        have HCW : RowKit.Hid (Chg (fun k => Fx k ∧ k < W.heap.size ∧ ∃ o : Obj, W.heap[k]? = some o ∧ o.isCells = true) W W2) := Lib.hid ⟨hc2.os, hc2.tape, hc2.output, hc2.size, hc2.block⟩
        have HD2 := Lib.hid hd2
        have HF2 := Lib.hid hf2
        have k2 := HCW.out.cell c2 hn14
        have hb2 : Boxed W2 b14 3 (.int .i64 s) := HCW.out.blk HBX.out hn14
        have k2f := hb2.frozen
        have HB2 := Lib.hid hb2
        have HN := Lib.hid (And.intro hw2 (And.intro hn14 (And.intro hn15 (And.intro hn16 hng))))
        clear hc2 hd2 hf2 hb2 hw2 hn14 hn15 hn16 hng
        gi_wp2
        obtain ⟨hw2, hn14, hn15, hn16, hng⟩ := HN.out
        have hsz := HCX.out.size
        have hylz := HYL.out
        have hcw := HCW.out
        have hszw := hcw.size
        refine ⟨⟨by simpa using hszw, fun k o hk hko ho => ?_⟩, ⟨?_, ?_, ?_⟩, ⟨F2, ?_, fun k hk h2 => ?_⟩, ?_, ?_⟩
        · refine (Below.heap_setCell _ _ _ k (show k ≠ b14 by omega)).trans ((hcw.block k (blk_lt hko) (fun h => ?_)).trans hko)
          obtain ⟨_, _, o', ho', hoc⟩ := h
          rw [hko] at ho'
          injection ho' with ho'
          rw [ho', hoc] at ho
          cases ho
        · exact (Below.heap_setCell _ _ _ _ (show b14 + 1 ≠ b14 by omega)).trans (hcw.block _ (by omega) hn15)
        · exact (Below.heap_setCell _ _ _ _ (show b14 + 1 + 1 ≠ b14 by omega)).trans (hcw.block _ (by omega) hn16)
        · exact (Below.heap_setCell _ _ _ _ (show g ≠ b14 by omega)).trans (hcw.block _ (by omega) hng)
        · have h3 := HD2.out.chg (S := fun k => k = b14) ((Chg.refl (fun k => k = b14) W2).setCell (p := ⟨b14, 0, none⟩) (fun _ => rfl) (.int .i64 ((s : Int) + 1))) (fun k hk h2 e => by
            subst e
            exact hn14 (HF2.out _ (by show _ < W.heap.size; omega) h2))
          rw [List.map_append, List.length_append]
          have e1 : m + (pre.length + [x].length) = m + pre.length + 1 := by simp; omega
          rw [e1]
          have e2 := wrP_snoc (fun i => if i = bg + en ∧ en < rm then List.replicate sz 0 else cont i) a0 B sz (pre.map (·.1)) x.1
          rw [List.length_map, HS.out] at e2
          rw [show [x].map (fun x => x.1) = [x.1] from rfl, ← e2]
          exact h3
        · have h3 := HF2.out k (show k < W.heap.size by omega) h2
          exact HFX.out k hk h3.1
        · have h4 := Boxed.set (.int .i64 ((s : Int) + 1)) HB2.out
          rw [List.length_append, show a0 + (pre.length + [x].length) = s + 1 by have := HS.out; simp; omega]
          exact h4
        · exact HCX.out.trans' (T := fun k => (Fx k ∧ k < W.heap.size ∧ ∃ o : Obj, W.heap[k]? = some o ∧ o.isCells = true) ∨ k = b14) ((hcw.mono (fun _ _ h => .inl h)).setCell (p := ⟨b14, 0, none⟩) (fun _ => .inr rfl) _) (fun _ _ h => h) (fun k hk h => by
            rcases h with h | h
            · exact .inl (HFX.out k hk h.1)
            · exact .inr h))
    case done =>
      rintro D' ys W hD hS ⟨⟨Fx, hdx, hfx⟩, hbx, hcx⟩ hK
      have hyl : ys.length = cnt := hS.len
      have hym : ys.map (·.1) = List.range cnt := hS
      rw [hym, hyl] at hdx
      have hsz := hcx.size
      have hylz := HYL.out
      have h14e := HB14.out
      have h6e := HZ6.out
      have hnb0 : ∀ k, b0 ≤ k → k < b0 + 4 ∨ k = g → ¬ (((fun k => F6 k ∧ k < wc.heap.size ∧ ∃ o : Obj, wc.heap[k]? = some o ∧ o.isCells = true) k) ∨ k = b14) := fun k h1 h2 h => by
        rcases h with h | h
        · exact HFB.out k h1 h2 h.1
        · rcases h2 with h2 | h2 <;> omega
      have hlow : ∀ k, k < b0 → ((fun k => F6 k ∧ k < wc.heap.size ∧ ∃ o : Obj, wc.heap[k]? = some o ∧ o.isCells = true) k) ∨ k = b14 → F k := fun k hk h => by
        rcases h with h | h
        · exact (HFC.out k (by omega) h.1).1
        · omega
      have hSync := dSync hdx.fit hs0 (by omega) (by omega)
      have hrow3 := hcx.blk HWL1.out (hnb0 b0 (Nat.le_refl _) (.inl (by omega)))
      have hrow4 := hcx.blk HWL2.out (hnb0 (b0 + 1) (by omega) (.inl (by omega)))
      have hrow6 := hcx.blk HWL3.out (hnb0 (b0 + 1 + 1) (by omega) (.inl (by omega)))
      have hrow7 := hcx.blk HWL4.out (hnb0 (b0 + 1 + 1 + 1) (by omega) (.inl (by omega)))
      have hjW := HJL.out.chg hcx (fun h => hFj (hlow j hjb h))
      have hgW := HRML.out.mv (hcx.block g HRML.out.lt (hnb0 g (by omega) (.inr rfl)))
      have hcw : Chg F w W := ((HC6.out.trans' HCC.out (U := F) (fun _ _ h => h.elim) (fun _ _ h => h.1)).trans' HCL.out (fun _ _ h => h) (fun _ _ h => h.elim)).trans' hcx (fun _ _ h => h) (fun k hk h => hlow k (by have := HB0.out; omega) h)
      have hDl := blk_lt hK
      have hfitn : ∀ k, ((fun k => Fx k ∧ k < W.heap.size ∧ ∃ o : Obj, W.heap[k]? = some o ∧ o.isCells = true) k) → (b0 ≤ k → k < b0 + 4 ∨ k = g → False) ∧ (k < b0 → F k) ∧ k ≠ D' := fun k h => by
        refine ⟨fun h1 h2 => ?_, fun h1 => ?_, fun e => ?_⟩
        · have := hfx k (by rcases h2 with h2 | h2 <;> omega) h.1
          exact HFB.out k h1 h2 this.1
        · have := hfx k (by omega) h.1
          exact (HFC.out k (by omega) this.1).1
        · obtain ⟨_, _, o, ho, hoc⟩ := h
          rw [e, hK] at ho
          injection ho with ho
          rw [← ho] at hoc
          cases hoc
      have HSY := Lib.hid hSync
      have HFN := Lib.hid hfitn
      have HR3 := Lib.hid hrow3
      have HR4 := Lib.hid hrow4
      have HR6 := Lib.hid hrow6
      have HR7 := Lib.hid hrow7
      have HJW := Lib.hid hjW
      have HGW := Lib.hid hgW
      have HCWW := Lib.hid hcw
      have HKD := Lib.hid hK
      have HSZ := Lib.hid (And.intro hsz (And.intro hylz (And.intro h14e h6e)))
      have HDD := Lib.hid (And.intro hD hDl)
      have c0 := (blk_cell hrow3 0).trans (show (#[Value.pointer (some ⟨j, 0, none⟩)] : Array Value)[0]? = some (.pointer (some ⟨j, 0, none⟩)) from rfl)
      have c1 := hjW.c0
      clear hdx hfx hbx hcx hK hyl hym hS hsz hylz h14e h6e hnb0 hlow hSync hrow3 hrow4 hrow6 hrow7 hjW hgW hcw hDl hfitn hD
      go_wp2_with fail
      refine HSY.out.mono ?_
      rintro e w9 ⟨rfl, hc9, F9, hd9, hf9⟩
      have hs9 := hc9.size
      have HD9 := Lib.hid hd9.fit
      have HF9 : RowKit.Hid (∀ k, F9 k → (b0 ≤ k → k < b0 + 4 ∨ k = g → False) ∧ (k < b0 → F k) ∧ k ≠ D') := Lib.hid (fun k h => by
        by_cases hk : k < W.heap.size
        · exact HFN.out k (hf9 k hk h)
        · obtain ⟨e1, e2, e3, e4⟩ := HSZ.out
          have e5 := HDD.out.2
          have e6 := HRML.out.lt
          exact ⟨fun h1 h2 => by rcases h2 with h2 | h2 <;> omega, fun h1 => by omega, by omega⟩)
      have HA3 := Lib.hid (hc9.blk HR3.out (fun h => (HFN.out _ h).1 (Nat.le_refl _) (.inl (by omega))))
      have HA4 := Lib.hid (hc9.blk HR4.out (fun h => (HFN.out _ h).1 (by omega) (.inl (by omega))))
      have HA6 := Lib.hid (hc9.blk HR6.out (fun h => (HFN.out _ h).1 (by omega) (.inl (by omega))))
      have HA7 := Lib.hid (hc9.blk HR7.out (fun h => (HFN.out _ h).1 (by omega) (.inl (by omega))))
      have HJ9 := Lib.hid (HJW.out.chg hc9 (fun h => hFj ((HFN.out _ h).2.1 hjb)))
      have HG9 := Lib.hid (HGW.out.mv (hc9.block g HGW.out.lt (fun h => (HFN.out _ h).1 (by omega) (.inr rfl))))
      have HKD9 := Lib.hid (hc9.blk HKD.out (fun h => (HFN.out _ h).2.2 rfl))
      have HC9 : RowKit.Hid (Chg F w w9) := Lib.hid (HCWW.out.trans' hc9 (fun _ _ h => h) (fun k hk h => (HFN.out _ h).2.1 (by have := HB0.out; omega)))
      have HRX9 : RowKit.Hid (RecsAt w9 (fun k => R k ∧ k < b0) E (.slice hA h.rs.length hc) h.rs) := Lib.hid ((HR.out.mono (R' := fun k => R k ∧ k < b0) (fun k a b => ⟨a, by have := HB0.out; omega⟩)).chg HC9.out (fun k a b => (HFR.out k b).1 a.1) (fun k a b => (HFR.out k b).2 a))
      have HK9 := Lib.hid (HK.out.chg HC9.out hFk)
      obtain ⟨dg9, dpv9, hdh9⟩ := hd9.hd
      have HDH9 := Lib.hid hdh9
      have HEB := Lib.hid HR.out.eb
      have HMM : RowKit.Hid (M ≤ 100000 ∧ M ≤ cap) := Lib.hid (by
        have h2 := HM.out
        refine ⟨by rw [← h2]; exact Nat.mul_le_mul hcu' hs1, ?_⟩
        have := HG9.out.le
        rw [HBL.out, h2] at this
        exact this)
      have HRB9 : RowKit.Hid (ReadsInt w9 .u8 (some ⟨g, 0, none⟩) M B) := Lib.hid (by
        have h1 := HG9.out.reads (by rw [HBL.out, HM.out]; have := HMM.out.1; omega)
        rw [HBL.out, HM.out] at h1
        exact h1)
      have k0 := (blk_cell HA3.out 0).trans (show (#[Value.pointer (some ⟨j, 0, none⟩)] : Array Value)[0]? = some (.pointer (some ⟨j, 0, none⟩)) from rfl)
      have HS9 : RowKit.Hid (W.heap.size ≤ w9.heap.size) := Lib.hid hs9
      clear hc9 hd9 hf9 hdh9 c0 c1 hs9
      go_wp2_with (first
        | ((with_reducible show wpList _ _ _ _ _ _); refine wpl_load_H HA4.out rfl (by rfl) (by rfl) ?_))
      refine (jDecG (wr := w9) (rm' := rm) HJ9.out HDH9.out HRX9.out HRB9.out HK9.out HG9.out.lt (Chg.refl _ _) hs0 (by omega) HBB.out HMM.out.1 HMM.out.2 hwf'.out (by omega) (Nat.le_trans (Nat.mul_le_mul hrm hs1) (by decide))).mono ?_
      rintro e w10 hp
      rw [HDEC.out] at hp
      obtain ⟨rv', R', E', rfl, hc10, _, hr10, hR10, hE10⟩ := hp
      obtain ⟨A10, c10, rfl⟩ := hr10.slice
      have HC10 := Lib.hid hc10
      have HR10 := Lib.hid hr10
      have HRE := Lib.hid (And.intro hR10 hE10)
      have hz := HSZ.out
      have HB6 := Lib.hid (hc10.blk HA6.out (fun h => by have := h.1.2; omega))
      have HB7 := Lib.hid (hc10.blk HA7.out (fun h => by have := h.1.2; omega))
      have HKD10 := Lib.hid (hc10.blk HKD9.out (fun h => by have := h.1.2; have := HDD.out.1; have := hz.2.1; omega))
      have hb10 : b0 + 1 + 1 < w10.heap.size ∧ b0 + 1 + 1 + 1 < w10.heap.size := ⟨blk_lt HB6.out, blk_lt HB7.out⟩
      have HB67 := Lib.hid hb10
      clear hc10 hr10 hR10 hE10 k0 hz hb10
      go_wp2_with (first
        | ((with_reducible show wpList _ _ _ _ _ _); refine wpl_load_H HROW11.out rfl (by rfl) (by rfl) ?_)
        | ((with_reducible show wpList _ _ _ _ _ _); refine wpl_store_H (h := h') (rv := .slice A10 h'.rs.length c10) (heap_alloc_new w10 (.cells zH 57)) rfl rfl rfl (by rfl) (by rfl) (by rfl) (by rfl) ?_; intro w11 hw11; have HW11 := Lib.hid hw11; have HROW11 := Lib.hid (show w11.heap[w10.heap.size]? = some (.cells (hcells h' (.slice A10 h'.rs.length c10)) 57 (0, 0)) from by rw [hw11]; exact setRow_heap _ _ _ _ _ _ (heap_alloc_new w10 _)); have HB6' := Lib.hid (show w11.heap[b0 + 1 + 1]? = some (.cells zH 57 (0, 0)) from by rw [hw11]; exact (setRow_other _ _ _ _ (by have := HB67.out; omega)).trans ((Below.heap_alloc _ _ _ HB67.out.1).trans HB6.out)); have HB7' := Lib.hid (show w11.heap[b0 + 1 + 1 + 1]? = some (.cells #[.int .i64 0] 26 (0, 0)) from by rw [hw11]; exact (setRow_other _ _ _ _ (by have := HB67.out; omega)).trans ((Below.heap_alloc _ _ _ HB67.out.2).trans HB7.out)); clear hw11)
        | ((with_reducible show wpList _ _ _ _ _ _); refine wpl_store_H (h := h') (rv := .slice A10 h'.rs.length c10) HB6'.out rfl rfl rfl (by rfl) (by rfl) (by rfl) (by rfl) ?_; intro w12 hw12; have HW12 := Lib.hid hw12; have hb7 := (show w12.heap[b0 + 1 + 1 + 1]? = some (.cells #[.int .i64 0] 26 (0, 0)) from by rw [hw12]; exact (setRow_other _ _ _ _ (by omega)).trans HB7'.out); have m0 := (blk_cell hb7 0).trans (show (#[Value.int .i64 0] : Array Value)[0]? = some (.int .i64 0) from rfl); have m1 := blk_frozen hb7 0; have HB7'' := Lib.hid hb7; clear hw12 hb7))
      obtain ⟨X, hX⟩ : ∃ X, w12.setCell ⟨b0 + 1 + 1 + 1, 0, none⟩ (.int .i64 0) = X := ⟨_, rfl⟩
      rw [hX]
      have hz := HSZ.out
      have hs9 := HS9.out
      have h67 := HB67.out
      have hc10 := HC10.out
      have hs10 := hc10.size
      have hDl := HDD.out
      have hb0e := HB0.out
      have hfr := HFR.out
      have heb := HEB.out
      have hre := HRE.out
      have hf9 := HF9.out
      have hU : Chg (fun k => k = b0 + 1 + 1 ∨ k = b0 + 1 + 1 + 1) w10 X := by
        rw [← hX, HW12.out, HW11.out]
        have e1 : Chg (fun k => k = b0 + 1 + 1 ∨ k = b0 + 1 + 1 + 1) w10 ((w10.alloc (.cells zH 57)).setRow w10.heap.size (hcells h' (.slice A10 h'.rs.length c10))) := setRow_chg ((Chg.refl _ _).alloc _) (Nat.le_refl _)
        exact (e1.trans' (setRow_chgS _ (b0 + 1 + 1) _) (fun _ _ h => h) (fun _ _ h => .inl h)).setCell (p := ⟨b0 + 1 + 1 + 1, 0, none⟩) (fun _ => .inr rfl) _
      have hKX : X.heap[D']? = some (.deferred (some [])) := hU.blk HKD10.out (fun h => by have := hz.2.1; have := hDl.1; omega)
      have hrowX : X.heap[b0 + 1 + 1]? = some (.cells (hcells h' (.slice A10 h'.rs.length c10)) 57 (0, 0)) := by
        rw [← hX, HW12.out]
        exact (Below.heap_setCell _ _ _ _ (show b0 + 1 + 1 ≠ b0 + 1 + 1 + 1 by omega)).trans (setRow_heap _ _ _ _ _ _ HB6'.out)
      have hcellX : X.heap[b0 + 1 + 1 + 1]? = some (.cells #[.int .i64 0] 26 (0, 0)) := by
        rw [← hX]
        exact blk_set HB7''.out 0 (.int .i64 0)
      have hgr := grownBy_putObj' X D' (.deferred none)
      have hrowY := (hgr.block (b0 + 1 + 1) (blk_lt hrowX) (fun e => by injection e with e; have := hz.2.1; have := hDl.1; omega)).trans hrowX
      have hcellY := (hgr.block (b0 + 1 + 1 + 1) (blk_lt hcellX) (fun e => by injection e with e; have := hz.2.1; have := hDl.1; omega)).trans hcellX
      have q2 : (X.putObj D' (.deferred none)).cell? ⟨b0 + 1 + 1 + 1, 0, none⟩ = some (.int .i64 0) := (blk_cell hcellY 0).trans rfl
      have hY : Chg (fun k => (k = b0 + 1 + 1 ∨ k = b0 + 1 + 1 + 1) ∨ k = D') w10 (X.putObj D' (.deferred none)) := hU.trans' (T := fun k => k = D') ⟨hgr.os, hgr.tape, hgr.output, hgr.size, fun k hk h => hgr.block k hk (fun e => by injection e with e; exact h e)⟩ (fun _ _ h => .inl h) (fun _ _ h => .inr h)
      refine ⟨by simp, .inl ⟨_, _, rfl, run_takeDeferred hKX, ?_⟩⟩
      refine ⟨.tuple #[.agg (hcells h' (.slice A10 h'.rs.length c10)), .int .i64 0], results_row_cell rfl _ _ (b0 + 1 + 1) (b0 + 1 + 1 + 1) 57 _ (0, 0) _ _ rfl hrowY Tryd.underlying57 rfl (by rw [info57]; rfl) rfl (by simp [go_sem, q2]), ?_⟩
      have hlow : ∀ k, k < b0 → ¬ ((k = b0 + 1 + 1 ∨ k = b0 + 1 + 1 + 1) ∨ k = D') := fun k hk h => by have := hz.2.1; have := hDl.1; omega
      have hD9' := (HD9.out.chg hc10 (fun k _ h e => (hfr k ((hf9 k h.1).2.1 e.1.2)).1 e.1.1)).chg hY (fun k hk h e => by
        obtain ⟨f1, f2, f3⟩ := hf9 k h.1
        rcases e with e | e
        · exact f1 (by omega) (.inl (by omega))
        · exact f3 e)
      refine ⟨_, R', E', _, rfl, ?_, hD9'.congr (fun i hi => ?_), fun k hk h => (hf9 k h.1).2.1 (by omega), HR10.out.chg hY (fun k hk h => ?_) (fun k hk h => ?_), fun k hk h => ?_, fun k hk h => ?_, fun k h => ⟨fun h2 => ?_, fun h2 => ?_⟩⟩
      · exact (HC9.out.trans' hc10 (U := fun k => F k ∨ R k) (fun _ _ h => .inl h) (fun _ _ h => .inr h.1.1)).trans' hY (fun _ _ h => h) (fun k hk h => absurd h (hlow k (by omega)))
      · have e1 := HBG.out
        have e2 := HEN.out
        have e3 := HA0.out
        unfold newC wrP
        rw [e1, e2, e3, List.length_range]
        by_cases h1 : a0 ≤ i ∧ i < a0 + cnt
        · rw [if_pos h1, if_pos h1]
          congr 1
          simp [List.getD_eq_getElem?_getD, List.getElem?_range (show i - a0 < cnt by omega)]
        · rw [if_neg h1, if_neg h1]
          show _ = if i = bg + en ∧ en < rm then List.replicate sz 0 else cont i
          by_cases h2 : i = bg + en ∧ en < rm
          · rw [if_pos h2, if_pos ⟨by omega, by simp [h2.2]⟩]
          · rw [if_neg h2, if_neg (fun h3 => h2 ⟨by omega, by simpa using h3.2⟩)]
      · rcases hre.1 k hk with h1 | h1
        · exact hlow k h1.1.2 h
        · have := hz.2.1
          have := hDl
          omega
      · rcases hre.2 k hk with h1 | h1
        · exact hlow k (by have := heb k h1.1; omega) h
        · have := hz.2.1
          have := hDl
          omega
      · rcases hre.1 k h with h1 | h1
        · exact h1.1.1
        · omega
      · rcases hre.2 k h with h1 | h1
        · exact h1.1
        · omega
      · rcases hre.1 k h2 with h1 | h1
        · exact (hfr k ((hf9 k h.1).2.1 h1.1.2)).1 h1.1.1
        · have := h.2.1
          omega
      · rcases hre.2 k h2 with h1 | h1
        · exact (hfr k ((hf9 k h.1).2.1 (by have := heb k h1.1; omega))).2 h1.1
        · have := h.2.1
          omega
end Go.Proofs.YtapapedpecpfgaaDoor.J
