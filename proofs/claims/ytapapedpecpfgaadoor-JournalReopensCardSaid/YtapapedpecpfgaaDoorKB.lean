/- The Journal's decode. -/
import Derived.Test.YtapapedpecpfgaaDoorKC
import Derived.Deep.DeepCutAuto
import Derived.Deep.RegionHeld3
set_option linter.unusedVariables false
set_option linter.unusedSimpArgs false
namespace Go.Proofs.YtapapedpecpfgaaDoor.J
open Go.RowKit Go.Proofs.YtapapedpecpfgaaDoorW.PrintWords

def hcells (h : Hf) (rv : Value) : Array Value := #[.int .i64 h.ep, .int .i64 h.ba, .int .i64 h.us, .string h.la, rv]
theorem info57 : (Tryd.prog.info? 57).map (·.size) = some 5 := by kernel_rfl

theorem wpl_load_H {ops : Array Oper} {rest : List Oper} {o : Oper} {a : Act} {w : World} {Q : Exit → Act → World → Prop} {g : Nat} {h : Hf} {rv : Value} {x : Operand} (hb : w.heap[g]? = some (.cells (hcells h rv) 57 (0, 0))) (hgd : o.guard = none) (ho : o.op = .load 57 x)
    (hx : a.eval x = .pointer (some ⟨g, 0, none⟩)) (hq : wpList Tryd.prog ops Q rest (a.put o.dst (.agg (hcells h rv))) w) : wpList Tryd.prog ops Q (o :: rest) a w :=
  wpList_load_row hgd 57 _ ho g hx 57 _ (0, 0) _ hb Tryd.underlying57 rfl (by rw [info57]; rfl) hq
theorem wpl_store_H {ops : Array Oper} {rest : List Oper} {o : Oper} {a : Act} {w : World} {Q : Exit → Act → World → Prop} {g : Nat} {h : Hf} {rv : Value} {x y : Operand} {old : Array Value} (hb : w.heap[g]? = some (.cells old 57 (0, 0))) (hs : old.size = 5) (hrv : rv.oneCell' = true) (hgd : o.guard = none) (ho : o.op = .store 57 x y) (hd : o.dst = none)
    (hx : a.eval x = .pointer (some ⟨g, 0, none⟩)) (hy : a.eval y = .agg (hcells h rv)) (hq : ∀ w', w' = w.setRow g (hcells h rv) → wpList Tryd.prog ops Q rest a w') : wpList Tryd.prog ops Q (o :: rest) a w :=
  wpList_store_row hgd 57 _ _ ho g _ hx hy 57 old hb (by rw [info57]; rfl) hs (by show (#[Value.int IntKind.i64 h.ep, .int .i64 h.ba, .int .i64 h.us, .string h.la, rv].all (·.oneCell')) = true; simp [hrv]; exact ⟨rfl, rfl, rfl, rfl⟩) (by rw [hd]; exact hq _ rfl)
theorem results_row_tmp {P : Program} {fn : Func} {p u : Tmp} {ty : TypeId} (h : fn.results = #[.cell p ty, .tmp u]) (tmps : Array Value) (w : World) (g : Nat) (t : TypeId) (cs : Array Value) (fr : Nat × Nat) (d : TypeDesc)
    (hp : tmps.getD p undef = .pointer (some ⟨g, 0, none⟩)) (hg : w.heap[g]? = some (.cells cs t fr))
    (hu : P.underlying ty = some d) (hd : (match d with | .struct _ | .array _ _ => true | _ => false) = true) (hi : (P.info? ty).map (·.size) = some cs.size) :
    (results fn tmps).run P w = .ok (.tuple #[.agg cs, tmps.getD u undef]) w := by
  have hp' : tmps[p]?.getD undef = .pointer (some ⟨g, 0, none⟩) := by simpa using hp
  simp [results, h, hp', asAddr, run_loadVar_row w g t ty cs fr d hg hu hd hi]
theorem setRow_chg {S : Nat → Prop} {w w1 : World} {g : Nat} {cs : Array Value} (hc : Chg S w w1) (hg : w.heap.size ≤ g) : Chg S w (w1.setRow g cs) :=
  hc.trans' (T := fun k => k = g) ⟨rfl, rfl, rfl, by simp, fun k _ hk => setRow_other w1 g k _ hk⟩ (fun _ _ h => h) (fun i hi e => by omega)

def zH : Array Value := #[.int .i64 0, .int .i64 0, .int .i64 0, .string { data := #[] }, .slice none 0 0]
theorem step_store_row {W : World} {ops : Array Oper} {o : Oper} {a : Act} {K : Act → World → Prop} {Q : Exit → Act → World → Prop} {X : Prop} (hgd : o.guard = none) (ty : TypeId) (x y : Operand) (ho : o.op = .store ty x y) (hd : o.dst = none) (g : Nat) (cells : Array Value)
    (hx : a.eval x = .pointer (some ⟨g, 0, none⟩)) (hy : a.eval y = .agg cells) (t : TypeId) (old : Array Value) (hg : W.heap[g]? = some (.cells old t (0, 0))) (hi : (Tryd.prog.info? ty).map (·.size) = some cells.size) (hold : old.size = cells.size) (h1 : cells.all (·.oneCell') = true)
    (h : ∀ w', w' = W.setRow g cells → K a w') : if Region.wanted o (yielded ops a.tmps) = true then Oper.wp Tryd.prog o a W K Q else X := by
  rw [if_pos (show Region.wanted o (yielded ops a.tmps) = true by simp [Region.wanted, hgd])]
  exact wp_store_row ty x y ho g cells hx hy t old hg hi hold h1 (by rw [hd]; exact h _ rfl)
theorem five_set {w : World} {g : Nat} {a b c d e : Value} (h : w.heap[g]? = some (.cells zH 57 (0, 0))) : (((((w.setCell ⟨g, 0, none⟩ a).setCell ⟨g, 1, none⟩ b).setCell ⟨g, 2, none⟩ c).setCell ⟨g, 3, none⟩ d).setCell ⟨g, 4, none⟩ e) = w.setRow g #[a, b, c, d, e] := by
  rw [setCell_eq_setRow _ _ _ _ _ _ _ h, setCell_eq_setRow _ _ _ _ _ _ _ (setRow_heap _ _ _ _ _ _ h), setRow_setRow, setCell_eq_setRow _ _ _ _ _ _ _ (setRow_heap _ _ _ _ _ _ h), setRow_setRow, setCell_eq_setRow _ _ _ _ _ _ _ (setRow_heap _ _ _ _ _ _ h), setRow_setRow, setCell_eq_setRow _ _ _ _ _ _ _ (setRow_heap _ _ _ _ _ _ h), setRow_setRow]
  rfl
theorem step_load_H {W : World} {ops : Array Oper} {o : Oper} {a : Act} {K : Act → World → Prop} {Q : Exit → Act → World → Prop} {X : Prop} (hgd : o.guard = none) (x : Operand) (ho : o.op = .load 57 x) (g : Nat) (hx : a.eval x = .pointer (some ⟨g, 0, none⟩)) (cs : Array Value) (hg : W.heap[g]? = some (.cells cs 57 (0, 0))) (hi : cs.size = 5)
    (h : K (a.put o.dst (.agg cs)) W) : if Region.wanted o (yielded ops a.tmps) = true then Oper.wp Tryd.prog o a W K Q else X := by
  rw [if_pos (show Region.wanted o (yielded ops a.tmps) = true by simp [Region.wanted, hgd])]
  exact wp_load_row 57 x ho g hx 57 cs (0, 0) _ hg Tryd.underlying57 rfl (by rw [info57, hi]) h
theorem rd_heap {w w' : World} {A : Option Addr} {n : Nat} {xs : List Int} (h : ReadsInt w .u8 A n xs) (he : w'.heap = w.heap) : ReadsInt w' .u8 A n xs := by
  obtain ⟨h1, h2, h3⟩ := h
  refine ⟨h1, h2, fun h0 => ?_⟩
  obtain ⟨ad, e, hc⟩ := h3 h0
  refine ⟨ad, e, fun j hj => ?_⟩
  rw [← hc j hj]
  unfold World.cell?
  rw [he]
theorem Drw.chg {w W : World} (h : Drw w W) : Chg (fun _ => False) w W := ⟨h.1, h.2.1, h.2.2.1, by rw [h.2.2.2]; exact Nat.le_refl _, fun k _ _ => by rw [h.2.2.2]⟩
def DecRel (w0 : World) (bs : List Int) (N m : Nat) (av tv iv : Value) (wr : World) : Prop :=
  ∃ (i a : Nat) (acc : List (List Int)) (E1 : Nat → Prop), i ≤ N ∧ iv = .int .i64 i ∧ a ≤ m ∧ av = .int .i64 a ∧ i * 4 ≤ a ∧ acc.length = i ∧ RecsAt wr (fun k => w0.heap.size ≤ k) E1 tv acc ∧ (∀ k, E1 k → w0.heap.size ≤ k) ∧ parseF bs N 40 = (parseF bs (N - i) a).map (fun p => (acc ++ p.1, p.2)) ∧ Chg (fun _ => False) w0 wr
theorem decF_ok {sz : Nat} {h : Hf} {b : List Int} {rs : List (List Int)} {a : Nat} (hl : ¬ b.length < 40) (hp : parseF b (numAt b 36).toNat 40 = some (rs, a))
    (hc : ¬ ((numAt b 36).toNat = 0 ∨ (0 < h.ba ∧ (numAt b 32).toNat ≠ h.ep) ∨ strOfNums (b.take 32) ≠ sumJ h.la h.us ((b.take a).drop 32))) : decF sz h b = some ⟨(numAt b 32).toNat, h.ba + 1, h.us + (a + sz - 1) / sz, strOfNums (b.take 32), h.rs ++ rs⟩ := by
  unfold decF
  rw [if_neg hl, hp]
  exact if_neg hc
theorem decF_bad {sz : Nat} {h : Hf} {b : List Int} {rs : List (List Int)} {a : Nat} (hl : ¬ b.length < 40) (hp : parseF b (numAt b 36).toNat 40 = some (rs, a))
    (hc : (numAt b 36).toNat = 0 ∨ (0 < h.ba ∧ (numAt b 32).toNat ≠ h.ep) ∨ strOfNums (b.take 32) ≠ sumJ h.la h.us ((b.take a).drop 32)) : decF sz h b = none := by
  unfold decF
  rw [if_neg hl, hp]
  exact if_pos hc
theorem decF_none {sz : Nat} {h : Hf} {b : List Int} (hl : ¬ b.length < 40) (hp : parseF b (numAt b 36).toNat 40 = none) : decF sz h b = none := by
  unfold decF
  rw [if_neg hl, hp]
def DecPost (w : World) (R E : Nat → Prop) (h : Hf) (rv : Value) (r : Option Hf) (e : Ending) (w' : World) : Prop :=
  match r with
  | none => e = .returned (.tuple #[.agg (hcells h rv), .bool false]) ∧ Chg (fun _ => False) w w'
  | some h' => ∃ rv' R' E', e = .returned (.tuple #[.agg (hcells h' rv'), .bool true]) ∧ Chg R w w' ∧ RecsAt w' R' E' rv' h'.rs ∧ (∀ k, k < w.heap.size → R' k → R k) ∧ (∀ k, k < w.heap.size → E' k → E k)

set_option maxRecDepth 100000 in
set_option maxHeartbeats 8000000 in
theorem jDec {w : World} {R E : Nat → Prop} {j d fi rm ep0 ba0 us0 m c sz : Nat} {h : Hf} {la0 : ByteArray} {rv0 rv du pe : Value} {dn : Bool} {A : Option Addr} {bs : List Int}
    (hj : JHd w j d fi rm ep0 ba0 us0 la0 rv0 dn) (hd : DHd w d sz du pe) (hs0 : 0 < sz) (hs1 : sz ≤ 4096) (hr : RecsAt w R E rv h.rs) (hx : ReadsInt w .u8 A m bs) (hA : ∀ ad, A = some ad → ad.block < w.heap.size) (hb : ∀ x ∈ bs, 0 ≤ x ∧ x ≤ 255) (hm : m ≤ 100000) (hc : m ≤ c)
    (hep : h.ep < 4294967296) (hba : h.ba ≤ 1000000) (hus : h.us ≤ 1000000) (hla : h.la.size ≤ 1000) (hrs : h.rs.length ≤ 100000) (hk : Kst w) :
    Calls Tryd.prog 29 #[.pointer (some ⟨j, 0, none⟩), .agg (hcells h rv), .slice A m c] w (DecPost w R E h rv (decF sz h bs)) := by
  have HJ := Lib.hid hj
  have HD := Lib.hid hd
  have HR := Lib.hid hr
  have HX := Lib.hid hx
  have HXL := Lib.hid hx.1
  have HB := Lib.hid hb
  have HK := Lib.hid hk
  obtain ⟨rA, rc, hrv⟩ := hr.slice
  have h1v : rv.oneCell' = true := by rw [hrv]; rfl
  have H1V := Lib.hid h1v
  have HRV := Lib.hid hrv
  clear hj hd hr hx hb hk hrv h1v
  go_enter Tryd.func29, Tryd.ntmps29
  by_cases h40 : m < 40
  · have hlt : (m : Int) < 40 := by omega
    go_wp2_with (first
      | ((with_reducible show wpList _ _ _ _ _ _); refine wpl_load_H (heap_alloc2_old w _ _) rfl (by rfl) (by rfl) ?_)
      | ((with_reducible show wpList _ _ _ _ _ _); refine wpl_store_H (h := h) (rv := rv) (heap_alloc2_new w _ _) rfl H1V.out rfl (by rfl) (by rfl) (by rfl) (by rfl) ?_; intro w9 hw9; have HW9 := Lib.hid hw9; clear hw9))
    have hd : decF sz h bs = none := by unfold decF; rw [if_pos (by rw [HXL.out]; exact h40)]
    refine bodyPost_ret (results_row_tmp rfl _ _ (w.heap.size + 1) 57 (hcells h rv) (0, 0) _ rfl (by rw [HW9.out]; exact setRow_heap _ _ _ _ _ _ (heap_alloc2_new w _ _)) Tryd.underlying57 rfl (by rw [info57]; rfl)) rfl ?_
    rw [hd]
    exact ⟨rfl, by rw [HW9.out]; exact setRow_chg (((Chg.refl (fun _ => False) w).alloc _).alloc _) (by omega)⟩
  · have hlt : ¬ (m : Int) < 40 := by omega
    obtain ⟨bx, hbx⟩ : ∃ bx, bx = w.heap.size := ⟨_, rfl⟩
    have hb0 := heap_alloc2_old w (.cells (hcells h rv) 57) (.cells zH 57)
    have hr0 := heap_alloc2_new w (.cells (hcells h rv) 57) (.cells zH 57)
    have hc0 : Chg (fun _ => False) w ((w.alloc (.cells (hcells h rv) 57)).alloc (.cells zH 57)) := ((Chg.refl (fun _ => False) w).alloc _).alloc _
    have hz0 : ((w.alloc (.cells (hcells h rv) 57)).alloc (.cells zH 57)).heap.size = w.heap.size + 2 := by simp
    go_wp2_with fail
    rw [show (#[Value.int IntKind.i64 0, Value.int IntKind.i64 0, Value.int IntKind.i64 0, Value.string { data := #[] }, Value.slice none 0 0] : Array Value) = zH from rfl]
    obtain ⟨w0, hw0⟩ : ∃ w0, (w.alloc (.cells (hcells h rv) 57)).alloc (.cells zH 57) = w0 := ⟨_, rfl⟩
    rw [hw0] at hb0 hr0 hc0 hz0 ⊢
    rw [← hbx] at hb0 hr0 hz0 ⊢
    have HBX := Lib.hid hbx
    have HC0 := Lib.hid hc0
    have HB0 := Lib.hid hb0
    have HR0 := Lib.hid hr0
    have HZ0 := Lib.hid hz0
    have HX0 := Lib.hid (rd_chg HX.out hc0 (fun _ _ h => h))
    clear hw0 hbx hb0 hr0 hc0 hz0
    refine (jNumbered (k := 32) HX0.out (by omega) (by omega) HB.out).mono ?_
    rintro e w1 ⟨rfl, n1, rfl⟩
    go_wp2_with fail
    refine (jNumbered (w := w0.drewN n1) (k := 36) (rd_heap HX0.out (w' := w0.drewN n1) rfl) (by omega) (by omega) HB.out).mono ?_
    rintro e w1 ⟨rfl, n2, rfl⟩
    obtain ⟨ep, hepv⟩ : ∃ ep : Nat, numAt bs 32 = (ep : Int) := Int.eq_ofNat_of_zero_le (numAt_range bs 32 HB.out).1
    obtain ⟨N, hN⟩ : ∃ N : Nat, numAt bs 36 = (N : Int) := Int.eq_ofNat_of_zero_le (numAt_range bs 36 HB.out).1
    have hNb : N < 4294967296 := by have := (numAt_range bs 36 HB.out).2; omega
    have hepb : ep < 4294967296 := by have := (numAt_range bs 32 HB.out).2; omega
    rw [hepv, hN]
    have HEP := Lib.hid hepv
    have HN := Lib.hid hN
    obtain ⟨w1, hw1⟩ : ∃ w1, (w0.drewN n1).drewN n2 = w1 := ⟨_, rfl⟩
    have HD1 : RowKit.Hid (Drw w0 w1) := Lib.hid (by rw [← hw1]; exact ⟨rfl, rfl, rfl, rfl⟩)
    rw [hw1]
    clear hw1 hepv hN
    go_wp2
    go_loopw [10, 11, 23] (fun av tv iv wr => DecRel w0 bs N m av tv iv wr) (fun av _ _ _ => m - (intOf av).toNat)
    case atStart => exact ⟨0, 40, [], fun _ => False, by omega, rfl, by omega, rfl, by omega, rfl, RecsAt.nil _ _, fun _ h => h.elim, by simp [Option.map_id'], HD1.out.chg⟩
    case round =>
      obtain ⟨i, a, acc, E1, hi, rfl, ha, rfl, hia, hal, hrec, hE1, hpar, hch⟩ := hrel
      obtain ⟨tA, tc, htv⟩ := hrec.slice
      have HREC := Lib.hid hrec
      have HE1 := Lib.hid hE1
      have HPAR := Lib.hid hpar
      have HCH := Lib.hid hch
      have HTV := Lib.hid htv
      have HAL := Lib.hid hal
      have HBW := Lib.hid (hch.blk HB0.out (fun h => h))
      have HRW := Lib.hid (hch.blk HR0.out (fun h => h))
      have HCW := Lib.hid (HC0.out.trans hch)
      have HXW := Lib.hid (rd_chg HX0.out hch (fun _ _ h => h))
      clear hrec hE1 hpar hch htv hal
      by_cases hiN : i < N
      · have hlt : (i : Int) < (N : Int) := by omega
        obtain ⟨q, hq⟩ : ∃ q, N - i = q + 1 := ⟨N - i - 1, by omega⟩
        have HQ := Lib.hid hq
        clear hq
        by_cases h4 : m < a + 4
        · have h4i : (m : Int) - (a : Int) < 4 := by omega
          have hdn : decF sz h bs = none := decF_none (by rw [HXL.out]; exact h40) (by rw [HN.out, Int.toNat_natCast, HPAR.out, HQ.out]; simp [parseF, HXL.out, h4])
          go_wp2_with (first
            | ((with_reducible show wpList _ _ _ _ _ _); refine wpl_load_H HBW.out rfl (by rfl) (by rfl) ?_)
            | ((with_reducible show wpList _ _ _ _ _ _); refine wpl_store_H (h := h) (rv := rv) HRW.out rfl H1V.out rfl (by rfl) (by rfl) (by rfl) (by rfl) ?_; intro w9 hw9; have HW9 := Lib.hid hw9; clear hw9))
          refine bodyPost_ret (results_row_tmp rfl _ _ (bx + 1) 57 (hcells h rv) (0, 0) _ rfl (by rw [HW9.out]; exact setRow_heap _ _ _ _ _ _ HRW.out) Tryd.underlying57 rfl (by rw [info57]; rfl)) rfl ?_
          first | rw [hdn] | skip
          exact ⟨rfl, by rw [HW9.out]; exact setRow_chg HCW.out (by have := HBX.out; omega)⟩
        · have h4i : ¬ (m : Int) - (a : Int) < 4 := by omega
          obtain ⟨k, hkv⟩ : ∃ k : Nat, numAt bs a = (k : Int) := Int.eq_ofNat_of_zero_le (numAt_range bs a HB.out).1
          have HKV := Lib.hid hkv
          have hkb : k < 4294967296 := by have := (numAt_range bs a HB.out).2; omega
          obtain ⟨a4, ha4⟩ : ∃ a4, a + 4 = a4 := ⟨_, rfl⟩
          have HA4 := Lib.hid ha4
          have ha4i : (a : Int) + 4 = (a4 : Int) := by omega
          have ha4b : a4 ≤ m := by omega
          clear hkv ha4
          go_wp2_with fail
          refine (jNumbered (k := a) HXW.out (by omega) (by omega) HB.out).mono ?_
          rintro e w2 ⟨rfl, n3, rfl⟩
          rw [HKV.out]
          by_cases hkm : m < a4 + k
          · have hki : (m : Int) - (a4 : Int) < (k : Int) := by omega
            have hdn : decF sz h bs = none := decF_none (by rw [HXL.out]; exact h40) (by rw [HN.out, Int.toNat_natCast, HPAR.out, HQ.out]; have e1 := HA4.out; simp [parseF, HXL.out, HKV.out, h4, show m < a + 4 + k by omega])
            go_wp2_with (first
              | ((with_reducible show wpList _ _ _ _ _ _); refine wpl_load_H HBW.out rfl (by rfl) (by rfl) ?_)
              | ((with_reducible show wpList _ _ _ _ _ _); refine wpl_store_H (h := h) (rv := rv) HRW.out rfl H1V.out rfl (by rfl) (by rfl) (by rfl) (by rfl) ?_; intro w9 hw9; have HW9 := Lib.hid hw9; clear hw9))
            refine bodyPost_ret (results_row_tmp rfl _ _ (bx + 1) 57 (hcells h rv) (0, 0) _ rfl (by rw [HW9.out]; exact setRow_heap _ _ _ _ _ _ HRW.out) Tryd.underlying57 rfl (by rw [info57]; rfl)) rfl ?_
            first | rw [hdn] | skip
            exact ⟨rfl, by rw [HW9.out]; exact setRow_chg (HCW.out.drewN n3) (by have := HBX.out; omega)⟩
          · have hki : ¬ (m : Int) - (a4 : Int) < (k : Int) := by omega
            obtain ⟨a5, ha5⟩ : ∃ a5, a4 + k = a5 := ⟨_, rfl⟩
            have ha5i : (a4 : Int) + (k : Int) = (a5 : Int) := by omega
            have ha5b : a5 ≤ m := by omega
            have hkb2 : k ≤ m := by omega
            obtain ⟨A', hcut, hcr, hcc⟩ := cutMid (A := A) (m := m) (c := c) (a := a4) (k := k) (by omega) hc (by omega)
            rw [ha5] at hcut
            have HA5 := Lib.hid ha5
            have HCR := Lib.hid (hcr (wr.drewN n3) bs (rd_heap HXW.out rfl))
            have hrl : ((bs.drop a4).take k).length = k := by rw [List.length_take, List.length_drop, HXL.out]; omega
            have HRL := Lib.hid hrl
            clear ha5 hcr hrl
            go_wp2_with fail
            refine (bClone HCR.out (by omega)).mono ?_
            rintro e w3 ⟨v3, rfl, ho3, hb3⟩
            rw [HRL.out] at ho3
            obtain ⟨A3, c3, rfl⟩ := own_slice ho3
            have hcd : Chg (fun k => ¬ k < wr.heap.size) wr w3 := ⟨hb3.os, hb3.tape, hb3.output, hb3.size, fun x hx h => hb3.block x (by simpa using h)⟩
            have hrec3 : RecsAt w3 (fun k => w0.heap.size ≤ k ∧ k < wr.heap.size) E1 u11 acc := (HREC.out.mono (fun k h1 h2 => ⟨h1, h2⟩)).chg hcd (fun k h1 h2 => h2 h1.2) (fun k h1 h2 => by obtain ⟨_, _, _, hs, _⟩ := HREC.out; exact h2 (hs k h1))
            have hu3 : RdRec w3 (fun k => wr.heap.size ≤ k ∧ k < w3.heap.size) (.slice A3 k c3) ((bs.drop a4).take k) := by
              obtain ⟨A4, c4, e4, hr4⟩ := own_reads ho3
              refine ⟨A4, c4, by rw [HRL.out]; exact e4, by rw [HRL.out]; rw [e4] at ho3; exact own_le ho3, by rw [HRL.out]; exact hr4, fun ad e _ => ?_⟩
              have hob : (Value.slice A3 k c3).ownBlock = some ad.block := by rw [e4, e]; rfl
              exact ⟨(own_base ho3) _ hob, own_lt ho3 _ hob⟩
            have hE23 : ∀ x, (fun k => wr.heap.size ≤ k ∧ k < w3.heap.size) x → x < w3.heap.size ∧ u11.ownBlock ≠ some x := fun x hx => ⟨hx.2, fun e => by
              obtain ⟨_, ho, _, _, _⟩ := HREC.out
              have := own_lt ho x e
              have := hx.1
              omega⟩
            have hcw3 : Chg (fun _ => False) w0 w3 := HCH.out.trans' hcd (fun _ _ h => h) (fun x hx h => by have := HCH.out.size; omega)
            have HREC3 := Lib.hid hrec3
            have HU3 := Lib.hid hu3
            have HE23 := Lib.hid hE23
            have HCW3 := Lib.hid hcw3
            have hsz3 : wr.heap.size ≤ w3.heap.size := hb3.size
            clear ho3 hb3 hcd hrec3 hu3 hE23 hcw3
            go_wp2_with (at_builtin; refine wpl_push HREC3.out HU3.out HE23.out (by have := HAL.out; omega) (by rfl) (.tmp 43) (.tmp 51) (by rfl) (by rfl) (by rfl) ?_; intro v4 w4 hR4 hg4; have HR4 := Lib.hid hR4; have HG4 := Lib.hid hg4; clear hR4 hg4)
            have hown : ∀ x, u11.ownBlock = some x → w0.heap.size ≤ x := fun x e => by
              obtain ⟨_, _, hv, _, _⟩ := HREC.out
              exact (hv x e).1
            have HOWN := Lib.hid hown
            clear hown
            go_roundw
            case rel =>
              refine ⟨i + 1, a5, acc ++ [(bs.drop a4).take k], _, by omega, by simp, ha5b, rfl, by have := HA4.out; have := HA5.out; omega, by simp [HAL.out], HR4.out.mono (fun x h1 h2 => ?_), fun x hx => ?_, ?_, ?_⟩
              · rcases h1 with h1 | h1
                · exact h1.1
                · have := HCW3.out.size
                  omega
              · have := HCH.out.size
                rcases hx with hx | hx
                · exact HE1.out x hx
                · have := hx.1
                  omega
              · have e1 := HA4.out
                have e2 := HA5.out
                have e3 : N - (i + 1) = q := by have := HQ.out; omega
                rw [HPAR.out, HQ.out, e3]
                have hun : parseF bs (q + 1) a = (parseF bs q a5).map (fun p => ((bs.drop a4).take k :: p.1, p.2)) := by
                  rw [parseF, if_neg (by rw [HXL.out]; omega), HKV.out, Int.toNat_natCast, if_neg (by rw [HXL.out]; omega), e1, e2]
                rw [hun, Option.map_map]
                congr 1
                funext p
                simp
              · exact HCW3.out.trans' (T := fun x => u11.ownBlock = some x) ⟨HG4.out.os, HG4.out.tape, HG4.out.output, HG4.out.size, fun x hx h => HG4.out.block x hx (fun e => h e.symm)⟩ (fun _ _ h => h) (fun x hx e => by have := HOWN.out x e; omega)
            case measure => simp [intOf]; have := HA4.out; have := HA5.out; omega
      · have hlt : ¬ (i : Int) < (N : Int) := by omega
        have hie : i = N := by omega
        have HPE : RowKit.Hid (parseF bs N 40 = some (acc, a)) := Lib.hid (by rw [HPAR.out, hie, Nat.sub_self]; simp [parseF])
        clear hie
        obtain ⟨ad, rfl⟩ : ∃ ad, A = some ad := by
          obtain ⟨_, _, h3⟩ := HXW.out
          obtain ⟨ad, e, _⟩ := h3 (by omega)
          exact ⟨ad, e⟩
        obtain ⟨b, off, rfl, hra, hbw⟩ := rd_addr HXW.out (by omega)
        have ha40 : 40 ≤ a := (parseF_le N 40 HPE.out (by rw [HXL.out]; omega)).1
        obtain ⟨S, hS⟩ : ∃ S, strOfNums (bs.take 32) = S := ⟨_, rfl⟩
        have hcv : ∀ W, Drw wr W → (convert 39 9 (.slice (some ⟨b, off, none⟩) 32 c)).run Tryd.prog W = .ok (.string S) W := fun W hW => by
          rw [← hS]
          refine run_convert_bytes_arg W 39 5 Tryd.underlying39 Tryd.underlying5 b off 32 c (bs.take 32) (by rw [List.length_take, HXL.out]; omega) (fun x hx => ?_) 9 Tryd.underlying9
          have h1 := hra x (by rw [HXL.out]; omega)
          unfold World.cell? at h1 ⊢
          rw [hW.2.2.2, h1]
          simp [List.getD_eq_getElem?_getD, List.getElem?_take, hx]
        have hcv0 := hcv wr ⟨rfl, rfl, rfl, rfl⟩
        have HS := Lib.hid hS
        have HRA := Lib.hid hra
        have hc32 : (32 : Int) ≤ (c : Int) := by omega
        have hbc0 := (blk_cell HBW.out 0).trans (show (hcells h rv)[0]? = some (.int .i64 h.ep) from rfl)
        have hbc1 := (blk_cell HBW.out 1).trans (show (hcells h rv)[1]? = some (.int .i64 h.ba) from rfl)
        have hbc2 := (blk_cell HBW.out 2).trans (show (hcells h rv)[2]? = some (.int .i64 h.us) from rfl)
        have hbc3 := (blk_cell HBW.out 3).trans (show (hcells h rv)[3]? = some (.string h.la) from rfl)
        have hbc4 := (blk_cell HBW.out 4).trans (show (hcells h rv)[4]? = some rv from rfl)
        clear hcv hS hra
        obtain ⟨A2, hcut, hcr, hcc⟩ := cutMid (A := some ⟨b, off, none⟩) (m := m) (c := c) (a := 32) (k := a - 32) (by omega) hc (by omega)
        rw [show ((32 + (a - 32) : Nat) : Int) = (a : Int) by omega, show ((32 : Nat) : Int) = 32 from rfl] at hcut
        have hr2 := hcr wr bs HXW.out
        obtain ⟨ad2, rfl⟩ : ∃ ad, A2 = some ad := by
          obtain ⟨_, _, h3⟩ := hr2
          obtain ⟨ad, e, _⟩ := h3 (by omega)
          exact ⟨ad, e⟩
        obtain ⟨b2, off2, rfl, _, hb2⟩ := rd_addr hr2 (by omega)
        obtain ⟨l, hl⟩ : ∃ l, a - 32 = l := ⟨_, rfl⟩
        have HL := Lib.hid hl
        rw [hl] at hcut hcc hr2
        have hl8 : 0 < l := by omega
        have hlm : l ≤ 1000000 := by omega
        obtain ⟨xs, hxs⟩ : ∃ xs, (bs.drop 32).take l = xs := ⟨_, rfl⟩
        rw [hxs] at hr2
        have HXS := Lib.hid hxs
        have HR2 := Lib.hid (show ReadsInt wr.drew .u8 (some ⟨b2, off2, none⟩) l xs from hr2)
        have hb2d : b2 < wr.drew.heap.size := hb2
        have hkw : Kst wr := HK.out.chg HCW.out (fun h => h)
        have HKD := Lib.hid (show Kst wr.drew from hkw)
        clear hkw
        obtain ⟨T, hT⟩ : ∃ T, sumJ h.la h.us xs = T := ⟨_, rfl⟩
        have HT := Lib.hid hT
        have hus4 : h.us < 4294967296 := by omega
        have hla6 : h.la.size ≤ 1000000 := by omega
        clear hl hxs hT hr2 hcr
        have hdrop : (bs.take a).drop 32 = xs := by rw [← HXS.out, List.drop_take, HL.out]
        have HDROP := Lib.hid hdrop
        clear hdrop
        have hDbad : (N = 0 ∨ (0 < h.ba ∧ ep ≠ h.ep) ∨ S ≠ T) → decF sz h bs = none := fun hx => decF_bad (by rw [HXL.out]; exact h40) (by rw [HN.out, Int.toNat_natCast]; exact HPE.out) (by rw [HN.out, HEP.out, Int.toNat_natCast, Int.toNat_natCast, HDROP.out, HS.out, HT.out]; exact hx)
        have hDgood : ¬ (N = 0 ∨ (0 < h.ba ∧ ep ≠ h.ep) ∨ S ≠ T) → decF sz h bs = some ⟨ep, h.ba + 1, h.us + (a + sz - 1) / sz, S, h.rs ++ acc⟩ := fun hx => by
          rw [decF_ok (by rw [HXL.out]; exact h40) (by rw [HN.out, Int.toNat_natCast]; exact HPE.out) (by rw [HN.out, HEP.out, Int.toNat_natCast, Int.toNat_natCast, HDROP.out, HS.out, HT.out]; exact hx)]
          rw [HEP.out, HS.out]
          rfl
        have HDB := Lib.hid hDbad
        have HDG := Lib.hid hDgood
        clear hDbad hDgood
        go_upto_region 18 with fail
        go_cut [84] (fun v84 wx => ∃ X : Bool, v84 = .bool X ∧ (X = true ↔ (N = 0 ∨ (0 < h.ba ∧ ep ≠ h.ep) ∨ S ≠ T)) ∧ Chg (fun _ => False) wr wx)
        case first =>
          by_cases hN0 : N = 0
          · have hN0b : ((N : Int) == 0) = true := by simp; omega
            have HN0 := Lib.hid hN0
            clear hN0
            go_quiet (fail)
            go_wp2
            go_meet
            case rel => exact ⟨true, rfl, ⟨fun _ => .inl HN0.out, fun _ => rfl⟩, Drw.chg ⟨rfl, rfl, rfl, rfl⟩⟩
          · have hN0i : ¬ (N : Int) = 0 := by omega
            have hN0b : ((N : Int) == 0) = false := by simp; omega
            by_cases hba0 : 0 < h.ba
            · have hbai : (0 : Int) < (h.ba : Int) := by omega
              have hbab : decide ((0 : Int) < (h.ba : Int)) = true := by simp; omega
              have hbab2 : decide (0 < h.ba) = true := by simp; omega
              by_cases hepe : ep = h.ep
              · have hepb2 : ((ep : Int) != (h.ep : Int)) = false := by simp; omega
                have HEPE := Lib.hid hepe
                clear hepe
                go_region_held3 (fun W => W.cell? ⟨bx, 0, none⟩ = some (.int .i64 h.ep) ∧ W.cell? ⟨bx, 1, none⟩ = some (.int .i64 h.ba) ∧ W.cell? ⟨bx, 2, none⟩ = some (.int .i64 h.us) ∧ W.cell? ⟨bx, 3, none⟩ = some (.string h.la)) (go_keep) ((go_at_call 39; ((with_reducible refine (jSum HR2.out hcc hl8 hlm hla6 hus4 hb2d HKD.out).mono ?_); rintro e w5 ⟨rfl, hc5⟩; have k0 := hc5.cell (a := ⟨bx, 0, none⟩) hbc0 (fun h => h); have k1 := hc5.cell (a := ⟨bx, 1, none⟩) hbc1 (fun h => h); have k2 := hc5.cell (a := ⟨bx, 2, none⟩) hbc2 (fun h => h); have k3 := hc5.cell (a := ⟨bx, 3, none⟩) hbc3 (fun h => h); rw [HT.out])))
                have HC5 := Lib.hid (show Chg (fun _ => False) wr w5 from ⟨hc5.os, hc5.tape, hc5.output, hc5.size, hc5.block⟩)
                clear hc5
                go_wp2
                go_meet
                case rel => exact ⟨_, rfl, ⟨fun hX => .inr (.inr (by first | exact bne_iff_ne.1 hX | exact of_decide_eq_true hX | (intro e; subst e; simp at hX))), fun hX => by rcases hX with e | e | e; exact absurd e hN0; exact absurd HEPE.out e.2; first | exact bne_iff_ne.2 e | exact decide_eq_true e | (rw [ByteArray.toList_eq, ByteArray.toList_eq]; simp only [Bool.not_eq_true', beq_eq_false_iff_ne]; exact fun q => e (ByteArray.ext (Array.toList_inj.1 q)))⟩, HC5.out⟩
              · have hepi : ¬ (ep : Int) = (h.ep : Int) := by omega
                go_quiet (fail)
                go_wp2
                go_meet
                case rel => exact ⟨true, rfl, ⟨fun _ => .inr (.inl ⟨hba0, hepe⟩), fun _ => rfl⟩, Drw.chg ⟨rfl, rfl, rfl, rfl⟩⟩
            · have hbai : ¬ (0 : Int) < (h.ba : Int) := by omega
              have hbz : wr.cell? ⟨bx, 1, none⟩ = some (.int .i64 0) := by rw [hbc1]; congr 2; omega
              clear hbc1
              refine wp_region_held_drew (S := (fun W => W.cell? ⟨bx, 0, none⟩ = some (.int .i64 h.ep) ∧ W.cell? ⟨bx, 1, none⟩ = some (.int .i64 0) ∧ W.cell? ⟨bx, 2, none⟩ = some (.int .i64 h.us) ∧ W.cell? ⟨bx, 3, none⟩ = some (.string h.la))) (by kernel_rfl) (by go_keep) (fun hHeld => ?_)
              refine wpAnyH_take (i := 0) (v := ?v0) rfl (by kernel_rfl) (by kernel_rfl) (by kernel_rfl) (fun _ _ _ h => h) (Or.inl ⟨by rfl, ?hy0⟩) (by assumption) ?rest0
              case hy0 => (intro w hSw; (try dsimp only at hSw); go_simp; try with_reducible rfl)
              try simp only [Act.put, List.setIfInBounds_toArray, List.set_cons_zero, List.set_cons_succ, List.getElem_toArray, List.getElem_cons_succ, List.getElem_cons_zero]
              refine wpAnyH_take (i := 1) (v := ?v1) rfl (by kernel_rfl) (by kernel_rfl) (by kernel_rfl) (fun _ _ _ h => h) (Or.inl ⟨by rfl, ?hy1⟩) (by assumption) ?rest1
              case hy1 => (intro w hSw; (try dsimp only at hSw); go_simp; try with_reducible rfl)
              try simp only [Act.put, List.setIfInBounds_toArray, List.set_cons_zero, List.set_cons_succ, List.getElem_toArray, List.getElem_cons_succ, List.getElem_cons_zero]
              refine wpAnyH_take (i := 2) (v := ?v2) rfl (by kernel_rfl) (by kernel_rfl) (by kernel_rfl) (fun _ _ _ h => h) (Or.inl ⟨by rfl, ?hy2⟩) (by assumption) ?rest2
              case hy2 => (intro w hSw; (try dsimp only at hSw); go_simp; try with_reducible rfl)
              try simp only [Act.put, List.setIfInBounds_toArray, List.set_cons_zero, List.set_cons_succ, List.getElem_toArray, List.getElem_cons_succ, List.getElem_cons_zero]
              refine wpAnyH_take (i := 3) (v := ?v3) rfl (by kernel_rfl) (by kernel_rfl) (by kernel_rfl) (fun _ _ _ h => h) (Or.inl ⟨by rfl, ?hy3⟩) (by assumption) ?rest3
              case hy3 => (intro w hSw; (try dsimp only at hSw); go_simp; try with_reducible rfl)
              try simp only [Act.put, List.setIfInBounds_toArray, List.set_cons_zero, List.set_cons_succ, List.getElem_toArray, List.getElem_cons_succ, List.getElem_cons_zero]
              refine wpAnyH_take (i := 4) (v := ?v4) rfl (by kernel_rfl) (by kernel_rfl) (by kernel_rfl) (fun _ _ _ h => h) (Or.inl ⟨by rfl, ?hy4⟩) (by assumption) ?rest4
              case hy4 => (intro w hSw; (try dsimp only at hSw); go_simp; try with_reducible rfl)
              try simp only [Act.put, List.setIfInBounds_toArray, List.set_cons_zero, List.set_cons_succ, List.getElem_toArray, List.getElem_cons_succ, List.getElem_cons_zero]
              refine wpAnyH_take (i := 5) (v := ?v5) rfl (by kernel_rfl) (by kernel_rfl) (by kernel_rfl) (fun _ _ _ h => h) (Or.inl ⟨by rfl, ?hy5⟩) (by assumption) ?rest5
              case hy5 => (intro w hSw; (try dsimp only at hSw); go_simp; try with_reducible rfl)
              try simp only [Act.put, List.setIfInBounds_toArray, List.set_cons_zero, List.set_cons_succ, List.getElem_toArray, List.getElem_cons_succ, List.getElem_cons_zero]
              refine wpAnyH_take (i := 6) (v := ?v6) rfl (by kernel_rfl) (by kernel_rfl) (by kernel_rfl) (fun _ _ _ h => h) (Or.inl ⟨by rfl, ?hy6⟩) (by assumption) ?rest6
              case hy6 => (intro w hSw; (try dsimp only at hSw); go_simp; try with_reducible rfl)
              try simp only [Act.put, List.setIfInBounds_toArray, List.set_cons_zero, List.set_cons_succ, List.getElem_toArray, List.getElem_cons_succ, List.getElem_cons_zero]
              refine wpAnyH_take (i := 7) (v := undef) rfl (by kernel_rfl) (by kernel_rfl) (by kernel_rfl) (fun _ _ _ h => h) (Or.inr ⟨by rfl, rfl⟩) (by assumption) ?rest7
              try simp only [Act.put, List.setIfInBounds_toArray, List.set_cons_zero, List.set_cons_succ, List.getElem_toArray, List.getElem_cons_succ, List.getElem_cons_zero]
              refine wpAnyH_take (i := 8) (v := undef) rfl (by kernel_rfl) (by kernel_rfl) (by kernel_rfl) (fun _ _ _ h => h) (Or.inr ⟨by rfl, rfl⟩) (by assumption) ?rest8
              try simp only [Act.put, List.setIfInBounds_toArray, List.set_cons_zero, List.set_cons_succ, List.getElem_toArray, List.getElem_cons_succ, List.getElem_cons_zero]
              refine wpAnyH_take (i := 9) (v := undef) rfl (by kernel_rfl) (by kernel_rfl) (by kernel_rfl) (fun _ _ _ h => h) (Or.inr ⟨by rfl, rfl⟩) (by assumption) ?rest9
              try simp only [Act.put, List.setIfInBounds_toArray, List.set_cons_zero, List.set_cons_succ, List.getElem_toArray, List.getElem_cons_succ, List.getElem_cons_zero]
              refine wpAnyH_take (i := 10) (v := undef) rfl (by kernel_rfl) (by kernel_rfl) (by kernel_rfl) (fun _ _ _ h => h) (Or.inr ⟨by rfl, rfl⟩) (by assumption) ?rest10
              try simp only [Act.put, List.setIfInBounds_toArray, List.set_cons_zero, List.set_cons_succ, List.getElem_toArray, List.getElem_cons_succ, List.getElem_cons_zero]
              refine wpAnyH_take (i := 11) (v := ?v11) rfl (by kernel_rfl) (by kernel_rfl) (by kernel_rfl) (fun _ _ _ h => h) (Or.inl ⟨by rfl, ?hy11⟩) (by assumption) ?rest11
              case hy11 => (intro w hSw; (try dsimp only at hSw); go_simp; try with_reducible rfl)
              try simp only [Act.put, List.setIfInBounds_toArray, List.set_cons_zero, List.set_cons_succ, List.getElem_toArray, List.getElem_cons_succ, List.getElem_cons_zero]
              refine wpAnyH_take (i := 12) (v := ?v12) rfl (by kernel_rfl) (by kernel_rfl) (by kernel_rfl) (fun _ _ _ h => h) (Or.inl ⟨by rfl, ?hy12⟩) (by assumption) ?rest12
              case hy12 => (intro w hSw; (try dsimp only at hSw); go_simp; try with_reducible rfl)
              try simp only [Act.put, List.setIfInBounds_toArray, List.set_cons_zero, List.set_cons_succ, List.getElem_toArray, List.getElem_cons_succ, List.getElem_cons_zero]
              refine wpAnyH_take (i := 13) (v := ?v13) rfl (by kernel_rfl) (by kernel_rfl) (by kernel_rfl) (fun _ _ _ h => h) (Or.inl ⟨by rfl, ?hy13⟩) (by assumption) ?rest13
              case hy13 => (intro w hSw; (try dsimp only at hSw); go_simp; try with_reducible rfl)
              try simp only [Act.put, List.setIfInBounds_toArray, List.set_cons_zero, List.set_cons_succ, List.getElem_toArray, List.getElem_cons_succ, List.getElem_cons_zero]
              refine wpAnyH_take (i := 14) (v := ?v14) rfl (by kernel_rfl) (by kernel_rfl) (by kernel_rfl) (fun _ _ _ h => h) (Or.inl ⟨by rfl, ?hy14⟩) (by assumption) ?rest14
              case hy14 => (intro w hSw; (try dsimp only at hSw); go_simp; try with_reducible rfl)
              try simp only [Act.put, List.setIfInBounds_toArray, List.set_cons_zero, List.set_cons_succ, List.getElem_toArray, List.getElem_cons_succ, List.getElem_cons_zero]
              refine wpAnyH_take (i := 15) (v := ?v15) rfl (by kernel_rfl) (by kernel_rfl) (by kernel_rfl) (fun _ _ _ h => h) (Or.inl ⟨by rfl, ?hy15⟩) (by assumption) ?rest15
              case hy15 => (intro w hSw; (try dsimp only at hSw); go_simp; try with_reducible rfl)
              try simp only [Act.put, List.setIfInBounds_toArray, List.set_cons_zero, List.set_cons_succ, List.getElem_toArray, List.getElem_cons_succ, List.getElem_cons_zero]
              refine wpAnyH_take (i := 16) (v := ?v16) rfl (by kernel_rfl) (by kernel_rfl) (by kernel_rfl) (fun _ _ _ h => h) (Or.inl ⟨by rfl, ?hy16⟩) (by assumption) ?rest16
              case hy16 => (intro w hSw; (try dsimp only at hSw); go_simp; try with_reducible rfl)
              try simp only [Act.put, List.setIfInBounds_toArray, List.set_cons_zero, List.set_cons_succ, List.getElem_toArray, List.getElem_cons_succ, List.getElem_cons_zero]
              refine wpAnyH_take (i := 17) (v := ?v17) rfl (by kernel_rfl) (by kernel_rfl) (by kernel_rfl) (fun _ _ _ h => h) (Or.inl ⟨by rfl, ?hy17⟩) (by assumption) ?rest17
              case hy17 => (intro w hSw; (try dsimp only at hSw); go_simp; try with_reducible rfl)
              try simp only [Act.put, List.setIfInBounds_toArray, List.set_cons_zero, List.set_cons_succ, List.getElem_toArray, List.getElem_cons_succ, List.getElem_cons_zero]
              refine wpAnyH_take (i := 18) (v := ?v18) rfl (by kernel_rfl) (by kernel_rfl) (by kernel_rfl) (fun _ _ _ h => h) (Or.inl ⟨by rfl, ?hy18⟩) (by assumption) ?rest18
              case hy18 => (intro w hSw; (try dsimp only at hSw); go_simp; try with_reducible rfl)
              try simp only [Act.put, List.setIfInBounds_toArray, List.set_cons_zero, List.set_cons_succ, List.getElem_toArray, List.getElem_cons_succ, List.getElem_cons_zero]
              refine wpAnyH_take (i := 19) (v := ?v19) rfl (by kernel_rfl) (by kernel_rfl) (by kernel_rfl) (fun _ _ _ h => h) (Or.inl ⟨by rfl, ?hy19⟩) (by assumption) ?rest19
              case hy19 => (intro w hSw; (try dsimp only at hSw); go_simp; try with_reducible rfl)
              try simp only [Act.put, List.setIfInBounds_toArray, List.set_cons_zero, List.set_cons_succ, List.getElem_toArray, List.getElem_cons_succ, List.getElem_cons_zero]
              refine wpAnyH_take (i := 20) (v := ?v20) rfl (by kernel_rfl) (by kernel_rfl) (by kernel_rfl) (fun _ _ _ h => h) (Or.inl ⟨by rfl, ?hy20⟩) (by assumption) ?rest20
              case hy20 => (intro w hSw; (try dsimp only at hSw); go_simp; try with_reducible rfl)
              try simp only [Act.put, List.setIfInBounds_toArray, List.set_cons_zero, List.set_cons_succ, List.getElem_toArray, List.getElem_cons_succ, List.getElem_cons_zero]
              refine wpAnyH_take (i := 21) (v := ?v21) rfl (by kernel_rfl) (by kernel_rfl) (by kernel_rfl) (fun _ _ _ h => h) (Or.inl ⟨by rfl, ?hy21⟩) (by assumption) ?rest21
              case hy21 => (intro w hSw; (try dsimp only at hSw); go_simp; try with_reducible rfl)
              try simp only [Act.put, List.setIfInBounds_toArray, List.set_cons_zero, List.set_cons_succ, List.getElem_toArray, List.getElem_cons_succ, List.getElem_cons_zero]
              refine wpAnyH_ready (rs := [22]) (by kernel_rfl) (by simp) ?_
              refine AllReadyH.cons rfl (fun K hK => ?_) AllReadyH.nil
              go_simp
              ((go_at_call 39; ((with_reducible refine (jSum HR2.out hcc hl8 hlm hla6 hus4 hb2d HKD.out).mono ?_); rintro e w5 ⟨rfl, hc5⟩; have k0 := hc5.cell (a := ⟨bx, 0, none⟩) hbc0 (fun h => h); have k1 := hc5.cell (a := ⟨bx, 1, none⟩) hbz (fun h => h); have k2 := hc5.cell (a := ⟨bx, 2, none⟩) hbc2 (fun h => h); have k3 := hc5.cell (a := ⟨bx, 3, none⟩) hbc3 (fun h => h); rw [HT.out])))
              try (go_wp2_with fail)
              refine hK.out _ _ (by (try dsimp only); go_keep) (fun hHeld2 => ?_)
              clear hK K
              try simp only [Act.put, List.setIfInBounds_toArray, List.set_cons_zero, List.set_cons_succ, List.getElem_toArray, List.getElem_cons_succ, List.getElem_cons_zero]
              refine wpAnyH_take (i := 23) (v := ?v23) rfl (by kernel_rfl) (by kernel_rfl) (by kernel_rfl) (fun _ _ _ h => h) (Or.inl ⟨by rfl, ?hy23⟩) (by assumption) ?rest23
              case hy23 => (intro w hSw; (try dsimp only at hSw); go_simp; try with_reducible rfl)
              try simp only [Act.put, List.setIfInBounds_toArray, List.set_cons_zero, List.set_cons_succ, List.getElem_toArray, List.getElem_cons_succ, List.getElem_cons_zero]
              refine wpAnyH_take (i := 24) (v := ?v24) rfl (by kernel_rfl) (by kernel_rfl) (by kernel_rfl) (fun _ _ _ h => h) (Or.inl ⟨by rfl, ?hy24⟩) (by assumption) ?rest24
              case hy24 => (intro w hSw; (try dsimp only at hSw); go_simp; try with_reducible rfl)
              try simp only [Act.put, List.setIfInBounds_toArray, List.set_cons_zero, List.set_cons_succ, List.getElem_toArray, List.getElem_cons_succ, List.getElem_cons_zero]
              refine wpAnyH_done (by kernel_rfl) ?_ _
              have HC5 := Lib.hid (show Chg (fun _ => False) wr w5 from ⟨hc5.os, hc5.tape, hc5.output, hc5.size, hc5.block⟩)
              clear hc5
              go_wp2
              go_meet
              case rel => exact ⟨_, rfl, ⟨fun hX => .inr (.inr (by first | exact bne_iff_ne.1 hX | exact of_decide_eq_true hX | (intro e; subst e; simp at hX))), fun hX => by rcases hX with e | e | e; exact absurd e hN0; exact absurd e.1 hba0; first | exact bne_iff_ne.2 e | exact decide_eq_true e | (rw [ByteArray.toList_eq, ByteArray.toList_eq]; simp only [Bool.not_eq_true', beq_eq_false_iff_ne]; exact fun q => e (ByteArray.ext (Array.toList_inj.1 q)))⟩, HC5.out⟩
        case rest =>
          obtain ⟨X, rfl, hX, hch⟩ := hcut
          have HBC := Lib.hid (hch.blk HBW.out (fun h => h))
          have HRC := Lib.hid (hch.blk HRW.out (fun h => h))
          have HCC := Lib.hid (HCW.out.trans hch)
          have HCX := Lib.hid hch
          cases X with
          | true =>
            have hdn : decF sz h bs = none := HDB.out (hX.1 rfl)
            clear hX hch
            go_wp2_with (first
              | ((with_reducible show wpList _ _ _ _ _ _); refine wpl_load_H HBC.out rfl (by rfl) (by rfl) ?_)
              | ((with_reducible show wpList _ _ _ _ _ _); refine wpl_store_H (h := h) (rv := rv) HRC.out rfl H1V.out rfl (by rfl) (by rfl) (by rfl) (by rfl) ?_; intro w9 hw9; have HW9 := Lib.hid hw9; clear hw9))
            refine bodyPost_ret (results_row_tmp rfl _ _ (bx + 1) 57 (hcells h rv) (0, 0) _ rfl (by rw [HW9.out]; exact setRow_heap _ _ _ _ _ _ HRC.out) Tryd.underlying57 rfl (by rw [info57]; rfl)) rfl ?_
            first | rw [hdn] | skip
            exact ⟨rfl, by rw [HW9.out]; exact setRow_chg HCC.out (by have := HBX.out; omega)⟩
          | false =>
            have hdn : decF sz h bs = some ⟨ep, h.ba + 1, h.us + (a + sz - 1) / sz, S, h.rs ++ acc⟩ := HDG.out (fun e => by have := hX.2 e; cases this)
            have HDN := Lib.hid hdn
            have hN0 : ¬ N = 0 := fun e => by have := hX.2 (.inl e); cases this
            clear hdn hX hch
            obtain ⟨q, hq⟩ : ∃ q, (a + sz - 1) / sz = q := ⟨_, rfl⟩
            have hqb : q ≤ 1000000 := by
              have := Nat.div_le_self (a + sz - 1) sz
              omega
            have hal0 : 0 < acc.length := by have := HAL.out; omega
            have hall : h.rs.length + acc.length ≤ 1000000 := by have := HAL.out; omega
            have HQ := Lib.hid hq
            have hbd1 := (blk_cell HBC.out 1).trans (show (hcells h rv)[1]? = some (.int .i64 h.ba) from rfl)
            have hbd2 := (blk_cell HBC.out 2).trans (show (hcells h rv)[2]? = some (.int .i64 h.us) from rfl)
            have hbd4 := (blk_cell HBC.out 4).trans (show (hcells h rv)[4]? = some rv from rfl)
            have HJ6 : RowKit.Hid (∀ W, Drw wc W → JHd W j d fi rm ep0 ba0 us0 la0 rv0 dn) := Lib.hid (fun W hW => hW.keep (HJ.out.chg HCC.out (fun h => h)))
            have HD6 : RowKit.Hid (∀ W, Drw wc W → DHd W d sz du pe) := Lib.hid (fun W hW => hW.keep (HCC.out.blk HD.out (fun h => h)))
            have HR6 : RowKit.Hid (∀ W, Drw wc W → RecsAt W (fun k => R k ∧ k < w.heap.size) E rv h.rs) := Lib.hid (fun W hW => (HR.out.mono (fun k a b => ⟨a, b⟩)).chg (HCC.out.trans hW.chg) (fun _ _ h => h) (fun _ _ h => h))
            have HT6 : RowKit.Hid (∀ W, Drw wc W → RecsAt W (fun k => w0.heap.size ≤ k) E1 u11 acc) := Lib.hid (fun W hW => HREC.out.chg (HCX.out.trans hW.chg) (fun _ _ h => h) (fun _ _ h => h))
            have hown : ∀ k, rv.ownBlock = some k → k < w.heap.size := fun k hk => by
              obtain ⟨_, ho, _⟩ := HR.out
              exact own_lt ho k hk
            have hw00 : w.heap.size ≤ w0.heap.size := HC0.out.size
            have HE6 : RowKit.Hid (∀ k, E1 k → rv.ownBlock ≠ some k) := Lib.hid (fun k hk e => by have := hown k e; have := HE1.out k hk; omega)
            have HN0 : RowKit.Hid (some bx ≠ rv.ownBlock) := Lib.hid (fun e => by have := hown _ e.symm; have := HBX.out; omega)
            have HN1 : RowKit.Hid (some (bx + 1) ≠ rv.ownBlock) := Lib.hid (fun e => by have := hown _ e.symm; have := HBX.out; omega)
            have hw1 : IntKind.i64.wrap ((h.ba : Int) + 1) = (h.ba : Int) + 1 := by rw [IntKind.wrap_i64]; omega
            have hw2 : IntKind.i64.wrap ((h.us : Int) + (q : Int)) = (h.us : Int) + (q : Int) := by rw [IntKind.wrap_i64]; omega
            clear hbc0 hbc1 hbc2 hbc3 hbc4 hcv0 hown hq
            go_wp2_with fail
            go_region_held3 (fun W => W.cell? ⟨bx, 1, none⟩ = some (.int .i64 h.ba) ∧ W.cell? ⟨bx, 2, none⟩ = some (.int .i64 h.us) ∧ W.cell? ⟨bx, 4, none⟩ = some rv) (go_keep) (first
              | (go_at_call 40; refine (jSectors (HJ6.out _ (by exact ⟨rfl, rfl, rfl, rfl⟩)) (HD6.out _ (by exact ⟨rfl, rfl, rfl, rfl⟩)) (by omega) hs0 hs1).mono ?_; rintro e w7 ⟨rfl, k7, rfl⟩; rw [HQ.out])
              | (refine step_append_recs (by rfl) _ _ (by rfl) (by rfl) (by rfl) (HR6.out _ (by exact ⟨rfl, rfl, rfl, rfl⟩)) (HT6.out _ (by exact ⟨rfl, rfl, rfl, rfl⟩)) hal0 HE6.out (by omega) ?_; intro v8 w8 hR8 hg8; obtain ⟨A8, c8, rfl⟩ := hR8.slice; have k1 := (hg8.cell_far ⟨bx, 1, none⟩ (World.block_lt_of_cell? _ _ hbd1) HN0.out).trans hbd1; have k2 := (hg8.cell_far ⟨bx, 2, none⟩ (World.block_lt_of_cell? _ _ hbd2) HN0.out).trans hbd2; have kr := (hg8.block (bx + 1) (blk_lt HRC.out) HN1.out).trans HRC.out; have k4 := (hg8.cell_far ⟨bx, 4, none⟩ (World.block_lt_of_cell? _ _ hbd4) HN0.out).trans hbd4; have HKR := Lib.hid kr; have kc0 := (blk_cell kr 0).trans (show zH[0]? = some (.int .i64 0) from rfl); have kc1 := (blk_cell kr 1).trans (show zH[1]? = some (.int .i64 0) from rfl); have kc2 := (blk_cell kr 2).trans (show zH[2]? = some (.int .i64 0) from rfl); have kc3 := (blk_cell kr 3).trans (show zH[3]? = some (.string { data := #[] }) from rfl); have kc4 := (blk_cell kr 4).trans (show zH[4]? = some (.slice none 0 0) from rfl); have kf0 := blk_frozen kr 0; have kf1 := blk_frozen kr 1; have kf2 := blk_frozen kr 2; have kf3 := blk_frozen kr 3; have kf4 := blk_frozen kr 4; have HR8 := Lib.hid hR8; have HG8 := Lib.hid hg8; clear kr hR8 hg8)
              | fail)
            have hrow := setRow_heap w8 (bx + 1) _ #[.int .i64 ep, .int .i64 (h.ba + 1), .int .i64 (h.us + q), .string S, .slice A8 (h.rs.length + acc.length) c8] _ _ HKR.out
            rw [five_set HKR.out]
            obtain ⟨w9, hw9⟩ : ∃ w9, w8.setRow (bx + 1) #[.int .i64 ep, .int .i64 (h.ba + 1), .int .i64 (h.us + q), .string S, .slice A8 (h.rs.length + acc.length) c8] = w9 := ⟨_, rfl⟩
            rw [hw9] at hrow ⊢
            have HROW := Lib.hid hrow
            have HW9 := Lib.hid hw9
            clear hrow hw9 kc0 kc1 kc2 kc3 kc4 kf0 kf1 kf2 kf3 kf4 k1 k2 k4 hbd1 hbd2 hbd4
            go_wp2
            refine bodyPost_ret (results_row_tmp rfl _ _ (bx + 1) 57 _ (0, 0) _ rfl HROW.out Tryd.underlying57 rfl (by rw [info57]; rfl)) rfl ?_
            rw [HDN.out]
            have hg9 := HG8.out
            have hch8 : Chg (fun k => rv.ownBlock = some k) wc w8 := ⟨hg9.os, hg9.tape, hg9.output, hg9.size, fun k hk hne => hg9.block k hk (fun e => hne e.symm)⟩
            have hvR : ∀ k, rv.ownBlock = some k → R k := fun k hk => by
              obtain ⟨_, _, hv, _⟩ := HR.out
              exact (hv k hk).1
            have hEs : ∀ k, E k → k < w.heap.size := by
              obtain ⟨_, _, _, hs, _⟩ := HR.out
              exact hs
            have hsz := HCC.out.size
            have hbxe := HBX.out
            have hz0 := HZ0.out
            have hrcl := blk_lt HRC.out
            have hs9 : Chg (fun k => k = bx + 1) w8 w9 := by
              rw [← HW9.out]
              exact ⟨rfl, rfl, rfl, by simp, fun k _ hk => setRow_other _ _ k _ hk⟩
            refine ⟨.slice A8 (h.rs.length + acc.length) c8, fun k => (R k ∧ k < w.heap.size) ∨ wc.heap.size ≤ k, fun k => E k ∨ E1 k, ?_, ?_, ?_, ?_, ?_⟩
            rotate_left 2
            · have e9 := HR8.out.chg hs9 (fun k hk e => by
                rcases hk with hk | hk
                · have := hk.2
                  omega
                · have hk2 : wc.heap.size ≤ k := hk
                  omega) (fun k hk e => by
                rcases hk with hk | hk
                · have := hEs k hk
                  omega
                · have := HE1.out k hk
                  omega)
              rw [List.length_append] at e9
              exact e9
            · intro k hk h2
              rcases h2 with h2 | h2
              · exact h2.1
              · have hk2 : wc.heap.size ≤ k := h2
                omega
            · intro k hk h2
              rcases h2 with h2 | h2
              · exact h2
              · have := HE1.out k h2
                omega
            · rw [HQ.out]
              rfl
            · rw [← HW9.out]
              exact setRow_chg (HCC.out.trans' hch8 (fun _ _ h => h.elim) (fun k _ hk => hvR k hk)) (by omega)
