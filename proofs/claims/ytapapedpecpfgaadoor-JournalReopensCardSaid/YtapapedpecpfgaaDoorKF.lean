/- The Journal's Open. -/
import Derived.Test.YtapapedpecpfgaaDoorKE
set_option linter.unusedVariables false
set_option linter.unusedSimpArgs false
namespace Go.Proofs.YtapapedpecpfgaaDoor.J
open Go.RowKit Go.Proofs.YtapapedpecpfgaaDoorW.PrintWords

theorem cutFrom {g M c k : Nat} (hk : k ≤ M) (hc : M ≤ c) (hm : M ≤ 1000000) : ∃ off, (∀ W : World, (Instr.slice 39 (.slice (some ⟨g, 0, none⟩) M c) (some (.int .i64 (k : Int))) none none).run Tryd.prog W = .ok (.slice (some ⟨g, off, none⟩) (M - k) (c - k)) W) ∧
    (∀ (w : World) (bs : List Int), ReadsInt w .u8 (some ⟨g, 0, none⟩) M bs → ReadsInt w .u8 (some ⟨g, off, none⟩) (M - k) (bs.drop k)) := by
  obtain ⟨i0, hi, hz0, hz1, hz2⟩ := info_parts info5
  have hel : (Tryd.prog).elem 39 = 5 := by simp [Program.elem, Tryd.underlying39]
  have hu : (Tryd.prog).underlying 39 = some (.slice ((Tryd.prog).elem 39)) := by rw [hel]; exact Tryd.underlying39
  refine ⟨if c = k then 0 else k, fun W => ?_, fun w bs h' => ?_⟩
  · rw [run_slice_l W 39 _ M c hu .i64 (k : Int) (by omega) (by omega), hel]
    simp [sizeOf, typeInfo, hi, hz1, sliced, Result.andThen]
    by_cases e : c = k
    · simp [e]
    · simp [e, Addr.add]; intro q; exact q.symm
  · have h2 := h'.drop_ (c := c) k (by omega) (by omega)
    have e : (if c = k then (some ⟨g, 0, none⟩ : Option Addr) else (some ⟨g, 0, none⟩ : Option Addr).map (·.add k)) = some ⟨g, if c = k then 0 else k, none⟩ := by
      by_cases e : c = k
      · simp [e]
      · simp [e, Addr.add]; intro q; exact q.symm
    rw [← e]
    exact h2
def acells (x0 : Hf) (rv0 : Value) (x1 : Hf) (rv1 : Value) : Array Value := #[.int .i64 x0.ep, .int .i64 x0.ba, .int .i64 x0.us, .string x0.la, rv0, .int .i64 x1.ep, .int .i64 x1.ba, .int .i64 x1.us, .string x1.la, rv1]
def zA : Array Value := #[.int .i64 0, .int .i64 0, .int .i64 0, .string { data := #[] }, .slice none 0 0, .int .i64 0, .int .i64 0, .int .i64 0, .string { data := #[] }, .slice none 0 0]

theorem Ends.inv {sz i : Nat} {b : List Int} {h hf : Hf} (he : Ends sz b i h hf) : (decF sz h (b.drop (h.us * sz)) = none ∧ h = hf) ∨ ∃ h', decF sz h (b.drop (h.us * sz)) = some h' ∧ h'.ep % 2 = i ∧ Ends sz b i h' hf := by
  cases he with
  | stop _ hd => exact .inl ⟨hd, rfl⟩
  | step _ h' _ hd hp he => exact .inr ⟨h', hd, hp, he⟩
theorem RecsAt.fit {w : World} {R E : Nat → Prop} {v : Value} {rss : List (List Int)} (h : RecsAt w R E v rss) : RecsAt w (fun k => R k ∧ k < w.heap.size) E v rss := h.mono (fun k a b => ⟨a, b⟩)
theorem RecsAt.eb {w : World} {R E : Nat → Prop} {v : Value} {rss : List (List Int)} (h : RecsAt w R E v rss) : ∀ k, E k → k < w.heap.size := by
  obtain ⟨_, _, _, hs, _⟩ := h
  exact hs
theorem secB_byte {cont : Nat → List Int} {a : Nat} : ∀ k, (∀ i, i < k → ∀ x ∈ cont (a + i), 0 ≤ x ∧ x ≤ 255) → ∀ x ∈ secB cont a k, 0 ≤ x ∧ x ≤ 255
  | 0, _, x, hx => by simp [secB] at hx
  | k + 1, h, x, hx => by
    rw [secB_succ, List.mem_append] at hx
    rcases hx with hx | hx
    · exact secB_byte k (fun i hi => h i (by omega)) x hx
    · exact h k (by omega) x hx
/-- The two halves behind round i. -/
def OpnRel (w0 : World) (bh : Nat) (h0 h1 : Hf) (iv : Value) (wr : World) : Prop :=
  ∃ i x0 rv0 R0 E0 x1 rv1 R1 E1, i ≤ 2 ∧ iv = .int .i64 (i : Nat) ∧ wr.heap[bh]? = some (.cells (acells x0 rv0 x1 rv1) 60 (0, 0)) ∧ RecsAt wr R0 E0 rv0 x0.rs ∧ RecsAt wr R1 E1 rv1 x1.rs ∧
    (∀ k, R0 k → w0.heap.size ≤ k) ∧ (∀ k, E0 k → w0.heap.size ≤ k) ∧ (∀ k, R1 k → w0.heap.size ≤ k) ∧ (∀ k, E1 k → w0.heap.size ≤ k) ∧
    (i = 0 → x0 = zeroH ∧ rv0 = .slice none 0 0) ∧ (0 < i → x0 = h0) ∧ (i ≤ 1 → x1 = zeroH ∧ rv1 = .slice none 0 0) ∧ (i = 2 → x1 = h1) ∧ Chg (fun k => k = bh) w0 wr
/-- A half on its way. -/
def InRel (wi : World) (bh sz rm i : Nat) (mk : Hf → Value → Array Value) (b : List Int) (hf : Hf) (wr : World) : Prop :=
  ∃ x rv R E, wr.heap[bh]? = some (.cells (mk x rv) 60 (0, 0)) ∧ RecsAt wr R E rv x.rs ∧ (∀ k, R k → wi.heap.size ≤ k) ∧ (∀ k, E k → wi.heap.size ≤ k) ∧ Ends sz b i x hf ∧ Wf sz rm x ∧ Chg (fun k => k = bh) wi wr
def CutRel (wi wr : World) (h' : Hf) (v13 v14 : Value) (wx : World) : Prop :=
  ∃ g13 rv' R' E' T, v13 = .pointer (some ⟨g13, 0, none⟩) ∧ wr.heap.size ≤ g13 ∧ wx.heap[g13]? = some (.cells (hcells h' rv') 57 (0, 0)) ∧ v14 = .bool true ∧ Chg T wr wx ∧ RecsAt wx R' E' rv' h'.rs ∧ (∀ k, R' k → wi.heap.size ≤ k) ∧ (∀ k, E' k → wi.heap.size ≤ k) ∧ (∀ k, T k → wi.heap.size ≤ k)
def CutNo (wi wr : World) (v14 : Value) (wx : World) : Prop := v14 = .bool false ∧ Chg (fun _ => False) wr wx
theorem dSizeG {wr wd : World} {d : Nat} {sz : Int} {du pe : Value} (h : DHd wr d sz du pe) (hc : Chg (fun _ => False) wr wd) :
    Calls Tryd.prog 27 #[.pointer (some ⟨d, 0, none⟩)] wd fun e w' => e = .returned (.int .i64 sz) ∧ w' = wd :=
  (dSize (w := wd) (hc.blk h (fun h => h))).mono (fun _ _ ⟨a, b⟩ => ⟨a, b.symm⟩)
def DecG (wr wd : World) (R E : Nat → Prop) (h : Hf) (rv : Value) (r : Option Hf) (e : Ending) (w' : World) : Prop :=
  match r with
  | none => e = .returned (.tuple #[.agg (hcells h rv), .bool false]) ∧ Chg (fun k => R k ∧ k < wr.heap.size) wr w' ∧ Chg (fun _ => False) wr w' ∧ Chg (fun k => R k ∧ k < wr.heap.size) wd w'
  | some h' => ∃ rv' R' E', e = .returned (.tuple #[.agg (hcells h' rv'), .bool true]) ∧ Chg (fun k => R k ∧ k < wr.heap.size) wr w' ∧ Chg (fun k => R k ∧ k < wr.heap.size) wd w' ∧ RecsAt w' R' E' rv' h'.rs ∧ (∀ k, R' k → (R k ∧ k < wr.heap.size) ∨ (wr.heap.size ≤ k ∧ wd.heap.size ≤ k ∧ k < w'.heap.size)) ∧ (∀ k, E' k → (E k ∧ k < wr.heap.size) ∨ (wr.heap.size ≤ k ∧ wd.heap.size ≤ k ∧ k < w'.heap.size))
theorem jDecG {wr wd : World} {R E : Nat → Prop} {j d fi rm ep0 ba0 us0 m c sz g off : Nat} {h : Hf} {la0 : ByteArray} {rv0 rv du pe : Value} {dn : Bool} {bs : List Int}
    (hj : JHd wr j d fi rm ep0 ba0 us0 la0 rv0 dn) (hd : DHd wr d sz du pe) (hr : RecsAt wr R E rv h.rs) (hx : ReadsInt wr .u8 (some ⟨g, off, none⟩) m bs) (hk : Kst wr) (hg : g < wr.heap.size) (hc : Chg (fun _ => False) wr wd)
    (hs0 : 0 < sz) (hs1 : sz ≤ 4096) (hb : ∀ x ∈ bs, 0 ≤ x ∧ x ≤ 255) (hm : m ≤ 100000) (hmc : m ≤ c) {rm' : Nat} (hwf : Wf sz rm' h) (hrm : rm' ≤ 1000) (hrs : rm' * sz ≤ 100000) :
    Calls Tryd.prog 29 #[.pointer (some ⟨j, 0, none⟩), .agg (hcells h rv), .slice (some ⟨g, off, none⟩) m c] wd (DecG wr wd R E h rv (decF sz h bs)) := by
  have h1 : h.us * sz ≤ rm' * sz := Nat.mul_le_mul_right _ hwf.us
  have hfit := hr.fit.chg hc (fun _ _ h => h) (fun _ _ h => h)
  refine (jDec (hj.chg hc (fun h => h)) (hc.blk hd (fun h => h)) hs0 hs1 hfit (rd_chg hx hc (fun _ _ h => h)) (fun ad e => by injection e with e; subst e; exact Nat.lt_of_lt_of_le hg hc.size) hb hm hmc hwf.ep (by have := hwf.ba; have := hwf.us; omega) (by have := hwf.us; omega) (by have := hwf.la; omega) (by have := hwf.rs; omega) (hk.chg hc (fun h => h))).mono ?_
  intro e w8 hp
  cases hdf : decF sz h bs with
  | none =>
    rw [hdf] at hp
    obtain ⟨rfl, hc8⟩ := hp
    exact ⟨rfl, (hc.trans hc8).mono (fun _ _ h => h.elim), hc.trans hc8, hc8.mono (fun _ _ h => h.elim)⟩
  | some h' =>
    rw [hdf] at hp
    obtain ⟨rv', R', E', rfl, hc8, hr8, hR8, hE8⟩ := hp
    have heb := hr8.eb
    have hes := hr.eb
    refine ⟨rv', fun k => R' k ∧ k < w8.heap.size, E', rfl, hc.trans' hc8 (fun _ _ h => h.elim) (fun _ _ h => h), hc8, hr8.fit, fun k hk => ?_, fun k hk => ?_⟩
    · by_cases hlt : k < wd.heap.size
      · exact .inl (hR8 k hlt hk.1)
      · exact .inr ⟨Nat.le_trans hc.size (Nat.le_of_not_lt hlt), Nat.le_of_not_lt hlt, hk.2⟩
    · by_cases hlt : k < wd.heap.size
      · have := hE8 k hlt hk
        exact .inl ⟨this, hes k this⟩
      · exact .inr ⟨Nat.le_trans hc.size (Nat.le_of_not_lt hlt), Nat.le_of_not_lt hlt, heb k hk⟩
theorem setRow_chgS (w : World) (g : Nat) (cs : Array Value) : Chg (fun k => k = g) w (w.setRow g cs) := ⟨rfl, rfl, rfl, by simp, fun k _ hk => setRow_other _ _ k _ hk⟩
theorem cut_after {wi wr w8 : World} {R' E' T : Nat → Prop} {y : Hf} {rv' : Value} (hc8 : Chg T wr w8) (hr8 : RecsAt w8 R' E' rv' y.rs) (hR : ∀ k, R' k → wi.heap.size ≤ k) (hE : ∀ k, E' k → wi.heap.size ≤ k) (hT : ∀ k, T k → wi.heap.size ≤ k) :
    CutRel wi wr y (.pointer (some ⟨w8.heap.size, 0, none⟩)) (.bool true) (w8.alloc (.cells (hcells y rv') 57)) :=
  ⟨w8.heap.size, rv', R', E', T, rfl, hc8.size, heap_alloc_new _ _, rfl, hc8.alloc _, hr8.chg ((Chg.refl (fun _ => False) w8).alloc _) (fun _ _ h => h) (fun _ _ h => h), hR, hE, hT⟩
theorem cut_first {wi wr w8 : World} {R' E' T : Nat → Prop} {y : Hf} {rv' : Value} (hc8 : Chg T wr w8) (hr8 : RecsAt w8 R' E' rv' y.rs) (hR : ∀ k, R' k → wi.heap.size ≤ k) (hE : ∀ k, E' k → wi.heap.size ≤ k) (hT : ∀ k, T k → wi.heap.size ≤ k)
    (kz : w8.heap[wr.heap.size]? = some (.cells zH 57 (0, 0))) (h1 : ¬ R' wr.heap.size) (h2 : ¬ E' wr.heap.size) :
    CutRel wi wr y (.pointer (some ⟨wr.heap.size, 0, none⟩)) (.bool true) (w8.setRow wr.heap.size (hcells y rv')) :=
  ⟨wr.heap.size, rv', R', E', T, rfl, Nat.le_refl _, setRow_heap _ _ _ _ _ _ kz, rfl, setRow_chg hc8 (Nat.le_refl _), hr8.chg (S := fun k => k = wr.heap.size) (setRow_chgS w8 wr.heap.size _) (fun k hk e => h1 (e ▸ hk)) (fun k hk e => h2 (e ▸ hk)), hR, hE, hT⟩
def jcells (d fi rm : Nat) (y : Hf) (rv : Value) (dn : Bool) : Array Value := #[.pointer (some ⟨d, 0, none⟩), .int .i64 fi, .int .i64 rm, .int .i64 y.ep, .int .i64 y.ba, .int .i64 y.us, .string y.la, rv, .bool dn]
theorem j_set {w : World} {j d fi rm : Nat} {x y : Hf} {rv0 rv : Value} {dn : Bool} (h : w.heap[j]? = some (.cells (jcells d fi rm x rv0 dn) 59 (0, 0))) : (((((w.setCell ⟨j, 3, none⟩ (.int .i64 y.ep)).setCell ⟨j, 4, none⟩ (.int .i64 y.ba)).setCell ⟨j, 5, none⟩ (.int .i64 y.us)).setCell ⟨j, 6, none⟩ (.string y.la)).setCell ⟨j, 7, none⟩ rv) = w.setRow j (jcells d fi rm y rv dn) := by
  rw [setCell_eq_setRow _ _ _ _ _ _ _ h, setCell_eq_setRow _ _ _ _ _ _ _ (setRow_heap _ _ _ _ _ _ h), setRow_setRow, setCell_eq_setRow _ _ _ _ _ _ _ (setRow_heap _ _ _ _ _ _ h), setRow_setRow, setCell_eq_setRow _ _ _ _ _ _ _ (setRow_heap _ _ _ _ _ _ h), setRow_setRow, setCell_eq_setRow _ _ _ _ _ _ _ (setRow_heap _ _ _ _ _ _ h), setRow_setRow]
  rfl
theorem ten_lo {w : World} {g : Nat} {x0 x1 y : Hf} {rv0 rv1 rv : Value} (h : w.heap[g]? = some (.cells (acells x0 rv0 x1 rv1) 60 (0, 0))) : (((((w.setCell ⟨g, 0, none⟩ (.int .i64 y.ep)).setCell ⟨g, 1, none⟩ (.int .i64 y.ba)).setCell ⟨g, 2, none⟩ (.int .i64 y.us)).setCell ⟨g, 3, none⟩ (.string y.la)).setCell ⟨g, 4, none⟩ rv) = w.setRow g (acells y rv x1 rv1) := by
  rw [setCell_eq_setRow _ _ _ _ _ _ _ h, setCell_eq_setRow _ _ _ _ _ _ _ (setRow_heap _ _ _ _ _ _ h), setRow_setRow, setCell_eq_setRow _ _ _ _ _ _ _ (setRow_heap _ _ _ _ _ _ h), setRow_setRow, setCell_eq_setRow _ _ _ _ _ _ _ (setRow_heap _ _ _ _ _ _ h), setRow_setRow, setCell_eq_setRow _ _ _ _ _ _ _ (setRow_heap _ _ _ _ _ _ h), setRow_setRow]
  rfl
theorem ten_hi {w : World} {g : Nat} {x0 x1 y : Hf} {rv0 rv1 rv : Value} (h : w.heap[g]? = some (.cells (acells x0 rv0 x1 rv1) 60 (0, 0))) : (((((w.setCell ⟨g, 5, none⟩ (.int .i64 y.ep)).setCell ⟨g, 6, none⟩ (.int .i64 y.ba)).setCell ⟨g, 7, none⟩ (.int .i64 y.us)).setCell ⟨g, 8, none⟩ (.string y.la)).setCell ⟨g, 9, none⟩ rv) = w.setRow g (acells x0 rv0 y rv) := by
  rw [setCell_eq_setRow _ _ _ _ _ _ _ h, setCell_eq_setRow _ _ _ _ _ _ _ (setRow_heap _ _ _ _ _ _ h), setRow_setRow, setCell_eq_setRow _ _ _ _ _ _ _ (setRow_heap _ _ _ _ _ _ h), setRow_setRow, setCell_eq_setRow _ _ _ _ _ _ _ (setRow_heap _ _ _ _ _ _ h), setRow_setRow, setCell_eq_setRow _ _ _ _ _ _ _ (setRow_heap _ _ _ _ _ _ h), setRow_setRow]
  rfl
def OpenPost (w : World) (d fi rm : Nat) (h : Hf) (e : Ending) (w' : World) : Prop :=
  ∃ jn rv R E, e = .returned (.tuple #[.pointer (some ⟨jn, 0, none⟩), .int .i64 0]) ∧ w.heap.size ≤ jn ∧ JHd w' jn d fi rm h.ep h.ba h.us h.la rv false ∧ RecsAt w' R E rv h.rs ∧ (∀ k, R k → w.heap.size ≤ k ∧ k ≠ jn) ∧ (∀ k, E k → w.heap.size ≤ k ∧ k ≠ jn) ∧ Chg (fun _ => False) w w'

theorem opn_end {w w0 wr : World} {bh jn d fi rm : Nat} {R E : Nat → Prop} {y : Hf} {rv : Value} (hc0 : Chg (fun _ => False) w w0) (hch : Chg (fun k => k = bh) w0 wr) (hz0 : w0.heap.size = w.heap.size + 2) (hjn : w.heap.size = jn) (hbh : w.heap.size + 1 = bh)
    (hx : wr.heap[jn]? = some (.cells (jcells d fi rm zeroH (.slice none 0 0) false) 59 (0, 0))) (hr : RecsAt wr R E rv y.rs) (hR : ∀ k, R k → w0.heap.size ≤ k) (hE : ∀ k, E k → w0.heap.size ≤ k) :
    OpenPost w d fi rm y (.returned (.tuple #[.pointer (some ⟨jn, 0, none⟩), .int .i64 0])) (wr.setRow jn (jcells d fi rm y rv false)) :=
  ⟨jn, rv, R, E, rfl, by omega, setRow_heap _ _ _ _ _ _ hx, hr.chg (setRow_chgS wr jn _) (fun k hk e => by have := hR k hk; omega) (fun k hk e => by have := hE k hk; omega), fun k hk => by have := hR k hk; exact ⟨by omega, by omega⟩, fun k hk => by have := hE k hk; exact ⟨by omega, by omega⟩,
    setRow_chg (hc0.trans' hch (fun _ _ h => h) (fun k hk e => by omega)) (by omega)⟩

set_option maxRecDepth 100000 in
set_option maxHeartbeats 8000000 in
theorem jOpen {w : World} {d fi cnt rm sz n m : Nat} {cont : Nat → List Int} {F : Nat → Prop} {h0 h1 : Hf}
    (hD : DiskAt w d sz n cont m F) (hs0 : 64 ≤ sz) (hs1 : sz ≤ 1000) (hc4 : 4 ≤ cnt) (hcn : fi + cnt ≤ n) (hn : n ≤ 65536) (hrm : cnt / 2 = rm) (hrm1 : rm ≤ 100) (hm : m ≤ 1000000)
    (hb : ∀ s, s < n → ∀ x ∈ cont s, 0 ≤ x ∧ x ≤ 255)
    (he0 : Ends sz (secB cont fi rm) 0 zeroH h0) (he1 : Ends sz (secB cont (fi + rm) rm) 1 zeroH h1) (hk : Kst w) :
    Calls Tryd.prog 10 #[.pointer (some ⟨d, 0, none⟩), .int .i64 fi, .int .i64 cnt] w (OpenPost w d fi rm (if 0 < h1.ba ∧ h0.ep < h1.ep then h1 else h0)) := by
  obtain ⟨g, pv, hh⟩ := hD.hd
  have HD := Lib.hid hD
  have HH := Lib.hid hh
  have HB := Lib.hid hb
  have HE0 := Lib.hid he0
  have HE1 := Lib.hid he1
  have HK := Lib.hid hk
  have hl1 : ¬ (sz : Int) < 64 := by omega
  have hl2 : ¬ (fi : Int) < 0 := by omega
  have hl3 : ¬ (cnt : Int) < 4 := by omega
  have hl4 : ¬ (fi : Int) > (n : Int) - (cnt : Int) := by omega
  have hl5 : ¬ (n : Int) - (cnt : Int) < (fi : Int) := by omega
  have hq : (cnt : Int).tdiv 2 = (rm : Int) := by rw [← hrm]; simp
  have hq2 : (cnt : Int) / 2 = (rm : Int) := by rw [← hrm]; simp
  have HRM := Lib.hid hrm
  have hr2 : 2 ≤ rm := by omega
  have hr3 : rm + rm ≤ cnt := by omega
  obtain ⟨hr, hhr⟩ : ∃ hr, (if 0 < h1.ba ∧ h0.ep < h1.ep then h1 else h0) = hr := ⟨_, rfl⟩
  rw [hhr]
  have HHR := Lib.hid hhr
  clear hD hh hb he0 he1 hk hrm hhr
  go_enter Tryd.func10, Tryd.ntmps10
  go_wp2
  go_step3
  go_wp2_with (first
    | (go_at_call 27; refine (dSize HH.out).mono ?_; rintro e w' ⟨rfl, rfl⟩)
    | (go_at_call 26; refine (dSectors HH.out).mono ?_; rintro e w' ⟨rfl, rfl⟩)
    | (go_at_call 16; refine (dDown HH.out).mono ?_; rintro e w' ⟨rfl, rfl⟩))
  go_step3
  go_wp2
  have hb0 := heap_alloc2_old w (.cells #[.pointer (some ⟨d, 0, none⟩), .int .i64 fi, .int .i64 rm, .int .i64 0, .int .i64 0, .int .i64 0, .string { data := #[] }, .slice none 0 0, .bool false] 59) (.cells zA 60)
  have hr0 := heap_alloc2_new w (.cells #[.pointer (some ⟨d, 0, none⟩), .int .i64 fi, .int .i64 rm, .int .i64 0, .int .i64 0, .int .i64 0, .string { data := #[] }, .slice none 0 0, .bool false] 59) (.cells zA 60)
  have hc0 : Chg (fun _ => False) w ((w.alloc (.cells #[.pointer (some ⟨d, 0, none⟩), .int .i64 fi, .int .i64 rm, .int .i64 0, .int .i64 0, .int .i64 0, .string { data := #[] }, .slice none 0 0, .bool false] 59)).alloc (.cells zA 60)) := ((Chg.refl (fun _ => False) w).alloc _).alloc _
  have hz0 : ((w.alloc (.cells #[.pointer (some ⟨d, 0, none⟩), .int .i64 fi, .int .i64 rm, .int .i64 0, .int .i64 0, .int .i64 0, .string { data := #[] }, .slice none 0 0, .bool false] 59)).alloc (.cells zA 60)).heap.size = w.heap.size + 2 := by simp
  rw [show (#[Value.int IntKind.i64 0, Value.int IntKind.i64 0, Value.int IntKind.i64 0, Value.string { data := #[] }, Value.slice none 0 0, Value.int IntKind.i64 0, Value.int IntKind.i64 0, Value.int IntKind.i64 0, Value.string { data := #[] }, Value.slice none 0 0] : Array Value) = zA from rfl]
  obtain ⟨w0, hw0⟩ : ∃ w0, (w.alloc (.cells #[.pointer (some ⟨d, 0, none⟩), .int .i64 fi, .int .i64 rm, .int .i64 0, .int .i64 0, .int .i64 0, .string { data := #[] }, .slice none 0 0, .bool false] 59)).alloc (.cells zA 60) = w0 := ⟨_, rfl⟩
  rw [hw0] at hb0 hr0 hc0 hz0 ⊢
  obtain ⟨bh, hbh⟩ : ∃ bh, w.heap.size + 1 = bh := ⟨_, rfl⟩
  rw [hbh] at hr0 ⊢
  obtain ⟨jn, hjn⟩ : ∃ jn, w.heap.size = jn := ⟨_, rfl⟩
  rw [hjn] at hb0 ⊢
  have HJN := Lib.hid hjn
  have HBH := Lib.hid hbh
  have HJ0 : RowKit.Hid (JHd w0 jn d fi rm 0 0 0 { data := #[] } (.slice none 0 0) false) := Lib.hid hb0
  have HR0 := Lib.hid hr0
  have HC0 := Lib.hid hc0
  have HZ0 := Lib.hid hz0
  obtain ⟨M, hM⟩ : ∃ M, rm * sz = M := ⟨_, rfl⟩
  have hM0 : 0 < M := by rw [← hM]; exact Nat.mul_pos (by omega) (by omega)
  have hM1 : M ≤ 100000 := by rw [← hM]; exact Nat.mul_le_mul hrm1 hs1
  have HM := Lib.hid hM
  clear hw0 hbh hjn hb0 hr0 hc0 hz0 hM
  go_wp2
  go_loopw [42] (fun iv wr => OpnRel w0 bh h0 h1 iv wr) (fun iv _ => 2 - (intOf iv).toNat)
  case atStart => exact ⟨0, zeroH, .slice none 0 0, fun k => w0.heap.size ≤ k, fun _ => False, zeroH, .slice none 0 0, fun k => w0.heap.size ≤ k, fun _ => False, by omega, rfl, HR0.out, RecsAt.nil _ _, RecsAt.nil _ _, fun _ h => h, fun _ h => h.elim, fun _ h => h, fun _ h => h.elim, fun _ => ⟨rfl, rfl⟩, fun h => by omega, fun _ => ⟨rfl, rfl⟩, fun h => by omega, Chg.refl _ _⟩
  case round =>
    obtain ⟨i, x0, rv0, R0, E0, x1, rv1, R1, E1, hi2, rfl, hrow, hrec0, hrec1, hR0, hE0, hR1, hE1, hq0, hq0', hq1, hq1', hch⟩ := hrel
    have hjne : ¬ jn = bh := by have := HJN.out; have := HBH.out; omega
    have hdlt : d < w.heap.size := HD.out.inF.2
    have hdne : ¬ d = bh := by have := HBH.out; omega
    have hF0 : ∀ k, k < w.heap.size → ¬ k = bh := fun k hk e => by have := HBH.out; omega
    have HROW := Lib.hid hrow
    have HREC0 := Lib.hid hrec0
    have HREC1 := Lib.hid hrec1
    have HRE := Lib.hid (And.intro hR0 (And.intro hE0 (And.intro hR1 hE1)))
    have HCH := Lib.hid hch
    have HJr := Lib.hid (HJ0.out.chg hch hjne)
    have HDr := Lib.hid (((HD.out.mono (F' := fun k => k < w.heap.size) (fun k hk _ => hk)).chg HC0.out (fun _ _ _ h => h)).chg hch (fun k _ hk => hF0 k hk))
    have HKr := Lib.hid ((HK.out.chg HC0.out (fun h => h)).chg hch (hF0 _ HK.out.lt))
    have HDH := Lib.hid (hch.blk (HC0.out.blk HH.out (fun h => h)) hdne)
    clear hrow hrec0 hrec1 hR0 hE0 hR1 hE1 hch
    rcases (show i = 0 ∨ i = 1 ∨ i = 2 by omega) with rfl | rfl | rfl
    · obtain ⟨rfl, rfl⟩ := hq0 rfl
      obtain ⟨rfl, rfl⟩ := hq1 (by omega)
      clear hq0 hq0' hq1 hq1'
      obtain ⟨B, hB⟩ : ∃ B, secB cont fi rm = B := ⟨_, rfl⟩
      have hBl : B.length = M := by rw [← hB, ← HM.out]; exact secB_len rm (fun i hi => HD.out.len (by omega))
      have hBb : ∀ x ∈ B, 0 ≤ x ∧ x ≤ 255 := by rw [← hB]; exact secB_byte rm (fun i hi => HB.out _ (by omega))
      have HBL := Lib.hid hBl
      have HBB := Lib.hid hBb
      have HEN := Lib.hid (show Ends sz B 0 zeroH h0 by rw [← hB]; exact HE0.out)
      have HAB := Lib.hid (show secB cont (fi + 0 * rm) rm = B by rw [← hB]; congr 1; omega)
      clear hB hBl hBb
      go_wp2_with (go_at_call 28; go_loud (refine (jRead (idx := 0) HJr.out HDr.out (by omega) (by omega) hrm1 (by omega) (by omega) (by omega) hm).mono ?_); rintro e w3 ⟨vb, rfl, hob, hbel⟩; rw [HAB.out, HBL.out] at hob; obtain ⟨gB, cB, rfl, hRM⟩ := RowM.of hob hM0)
      have HRM3 := Lib.hid hRM
      have HBEL3 := Lib.hid hbel
      have hch3 : Chg (fun _ => False) wr w3 := ⟨hbel.os, hbel.tape, hbel.output, hbel.size, fun k hk _ => hbel.block k hk⟩
      have HROW3 := Lib.hid (hch3.blk HROW.out (fun h => h))
      have HJ3 := Lib.hid (HJr.out.chg hch3 (fun h => h))
      have HD3 := Lib.hid (hch3.blk HDH.out (fun h => h))
      have HK3 := Lib.hid (HKr.out.chg hch3 (fun h => h))
      have HC3 := Lib.hid hch3
      have hb3 : bh < w3.heap.size := blk_lt HROW3.out
      clear hob hRM hbel hch3
      go_loopw [] (fun wx => InRel w3 bh sz rm 0 (fun x rv => acells x rv zeroH (.slice none 0 0)) B h0 wx) (fun wx => rm - (intOf ((wx.cell? ⟨bh, 2, none⟩).getD undef)).toNat)
      case atStart => exact ⟨zeroH, .slice none 0 0, fun k => w3.heap.size ≤ k, fun _ => False, HROW3.out, RecsAt.nil _ _, fun _ h => h, fun _ h => h.elim, HEN.out, wf_zero _ _, Chg.refl _ _⟩
      case round =>
        obtain ⟨x, rv, R, E, hrw, hrec, hR, hE, hen, hwf, hch⟩ := hrel
        obtain ⟨rA, rc, rfl⟩ := hrec.slice
        have hus := hwf.us
        obtain ⟨q, hq⟩ : ∃ q, x.us * sz = q := ⟨_, rfl⟩
        have hqM : q ≤ M := by rw [← hq, ← HM.out]; exact Nat.mul_le_mul_right _ hus
        have hqi : (x.us : Int) * (sz : Int) = (q : Int) := by rw [← hq]; simp
        have hqw : IntKind.i64.wrap (q : Int) = (q : Int) := by rw [IntKind.wrap_i64]; omega
        have hqI : (q : Int) ≤ (M : Int) := by omega
        have hgne : ¬ gB = bh := by
          obtain ⟨_, _, _, _, _, _, _, _, hge⟩ := HRM3.out
          have := blk_lt HROW.out
          omega
        have hg3 := HRM3.out.lt
        have hgl : gB < wr.heap.size := Nat.lt_of_lt_of_le hg3 hch.size
        have hRMx := HRM3.out.mv (hch.block gB hg3 hgne)
        have hcB : M ≤ cB := by have := hRMx.le; rw [HBL.out] at this; exact this
        obtain ⟨off, hcut, hcr⟩ := cutFrom (g := gB) hqM hcB (by omega)
        have hx8 := hcr wr B (by have := hRMx.reads (by rw [HBL.out]; omega); rw [HBL.out] at this; exact this)
        obtain ⟨L, hL⟩ : ∃ L, M - q = L := ⟨_, rfl⟩
        obtain ⟨cL, hcL⟩ : ∃ cL, cB - q = cL := ⟨_, rfl⟩
        rw [hL] at hx8 hcut
        rw [hcL] at hcut
        have hLc : L ≤ cL := by omega
        have hLm : L ≤ 100000 := by omega
        have HX8 := Lib.hid hx8
        have HB8 : RowKit.Hid (∀ y ∈ B.drop q, 0 ≤ y ∧ y ≤ 255) := Lib.hid (fun y hy => HBB.out y (List.mem_of_mem_drop hy))
        have HJ8 := Lib.hid (HJ3.out.chg hch hjne)
        have HD8 := Lib.hid (hch.blk HD3.out hdne)
        have HK8 := Lib.hid (HK3.out.chg hch (hF0 _ HK.out.lt))
        have HR8 := Lib.hid hrec
        have HWF := Lib.hid hwf
        have HRR := Lib.hid (And.intro hR hE)
        have HCX := Lib.hid hch
        have HRW := Lib.hid hrw
        have HQ := Lib.hid hq
        have HL := Lib.hid hL
        have HBR : RowKit.Hid (¬ (R bh ∧ bh < wr.heap.size)) := Lib.hid (fun h => by have := hR bh h.1; omega)
        have HGL := Lib.hid hgl
        have hbx : bh < wr.heap.size := blk_lt hrw
        have hbn1 : ¬ bh = wr.heap.size := by omega
        have hbn2 : ¬ wr.heap.size = bh := by omega
        have HSZ3 := Lib.hid hch.size
        have HRS : RowKit.Hid (rm * sz ≤ 100000) := Lib.hid (by rw [HM.out]; exact hM1)
        have HZN : RowKit.Hid (¬ (R wr.heap.size ∧ wr.heap.size < wr.heap.size)) := Lib.hid (fun h => by have := h.2; omega)
        have hk0 := (blk_cell hrw 0).trans (show ((fun x rv => acells x rv zeroH (.slice none 0 0)) x (.slice rA x.rs.length rc))[0]? = some (.int .i64 x.ep) from rfl)
        have hf0 := blk_frozen hrw 0
        have hk1 := (blk_cell hrw 1).trans (show ((fun x rv => acells x rv zeroH (.slice none 0 0)) x (.slice rA x.rs.length rc))[1]? = some (.int .i64 x.ba) from rfl)
        have hf1 := blk_frozen hrw 1
        have hk2 := (blk_cell hrw 2).trans (show ((fun x rv => acells x rv zeroH (.slice none 0 0)) x (.slice rA x.rs.length rc))[2]? = some (.int .i64 x.us) from rfl)
        have hf2 := blk_frozen hrw 2
        have hk3 := (blk_cell hrw 3).trans (show ((fun x rv => acells x rv zeroH (.slice none 0 0)) x (.slice rA x.rs.length rc))[3]? = some (.string x.la) from rfl)
        have hf3 := blk_frozen hrw 3
        have hk4 := (blk_cell hrw 4).trans (show ((fun x rv => acells x rv zeroH (.slice none 0 0)) x (.slice rA x.rs.length rc))[4]? = some (.slice rA x.rs.length rc) from rfl)
        have hf4 := blk_frozen hrw 4
        clear hrec hR hE hwf hch hrw hq hL hcL hx8 hRMx hg3 hgl
        rcases hen.inv with ⟨hdf, hxe⟩ | ⟨y, hdf, hod⟩
        · rw [HQ.out] at hdf
          have HDF := Lib.hid hdf
          have HXE := Lib.hid hxe
          clear hdf hxe hen
          go_upto_region 13 with fail
          go_cut [14] (fun v14 wx => CutNo w3 wr v14 wx)
          case first =>
            go_region_held3 (fun W => W.cell? ⟨bh, 0, none⟩ = some (.int .i64 x.ep) ∧ W.cell? ⟨bh, 1, none⟩ = some (.int .i64 x.ba) ∧ W.cell? ⟨bh, 2, none⟩ = some (.int .i64 x.us) ∧ W.cell? ⟨bh, 3, none⟩ = some (.string x.la) ∧ W.cell? ⟨bh, 4, none⟩ = some (.slice rA x.rs.length rc)) (go_keep) (first
              | (go_at_call 27; refine (dSizeG HD8.out (by repeat (first | exact Chg.refl _ _ | apply Chg.drewN | apply Chg.drew | apply Chg.alloc))).mono ?_; rintro e w7 ⟨rfl, rfl⟩)
              | (go_at_call 29; refine (jDecG HJ8.out HD8.out HR8.out HX8.out HK8.out HGL.out (by repeat (first | exact Chg.refl _ _ | apply Chg.drewN | apply Chg.drew | apply Chg.alloc)) (by omega) (by omega) HB8.out hLm hLc HWF.out (by omega) HRS.out).mono ?_; rintro e w8 hp; rw [HDF.out] at hp; obtain ⟨rfl, hc8, hcf8, hcd8⟩ := hp; unfold hcells; have k0 := hc8.cell (a := ⟨bh, 0, none⟩) hk0 HBR.out; have k1 := hc8.cell (a := ⟨bh, 1, none⟩) hk1 HBR.out; have k2 := hc8.cell (a := ⟨bh, 2, none⟩) hk2 HBR.out; have k3 := hc8.cell (a := ⟨bh, 3, none⟩) hk3 HBR.out; have k4 := hc8.cell (a := ⟨bh, 4, none⟩) hk4 HBR.out; have hbn8 : ¬ bh = w8.heap.size := (by have := hc8.size; omega); have hbn9 : ¬ w8.heap.size = bh := (by have := hc8.size; omega); try (have kz := (hcd8).blk (heap_alloc_new _ _) HZN.out; have z0 := (blk_cell kz 0).trans (show zH[0]? = some (.int .i64 0) from rfl); have zf0 := blk_frozen kz 0; have z1 := (blk_cell kz 1).trans (show zH[1]? = some (.int .i64 0) from rfl); have zf1 := blk_frozen kz 1; have z2 := (blk_cell kz 2).trans (show zH[2]? = some (.int .i64 0) from rfl); have zf2 := blk_frozen kz 2; have z3 := (blk_cell kz 3).trans (show zH[3]? = some (.string { data := #[] }) from rfl); have zf3 := blk_frozen kz 3; have z4 := (blk_cell kz 4).trans (show zH[4]? = some (.slice none 0 0) from rfl); have zf4 := blk_frozen kz 4))
              | fail)
            all_goals (
              go_wp2
              go_meet
              case rel => first
                | (rw [five_set kz]; exact ⟨rfl, setRow_chg hcf8 (Nat.le_refl _)⟩)
                | exact ⟨rfl, hcf8.alloc _⟩)
          case rest =>
            obtain ⟨rfl, hcx⟩ := hcut
            have HCC := Lib.hid hcx
            clear hcx
            clear hf0 hf1 hf2 hf3 hf4
            go_wp2
            go_roundw
            case rel =>
              have e1 := HCH.out.size
              have e2 := HC3.out.size
              have hE1 := HREC1.out
              have hchx : Chg (fun k => k = bh) w0 wc := HCH.out.trans' (HC3.out.trans' (HCX.out.trans' HCC.out (fun _ _ h => h) (fun _ _ h => h.elim)) (fun _ _ h => h.elim) (fun _ _ h => h)) (fun _ _ h => h) (fun _ _ h => h)
              have hrx := HR8.out.chg HCC.out (fun _ _ h => h) (fun _ _ h => h)
              have hbw := HCC.out.blk HRW.out (fun h => h)
              rw [HXE.out] at hrx hbw
              exact ⟨1, h0, _, R, E, zeroH, .slice none 0 0, fun k => w0.heap.size ≤ k, fun _ => False, by omega, by simp, hbw, hrx, RecsAt.nil _ _, fun k hk => by have := HRR.out.1 k hk; omega, fun k hk => by have := HRR.out.2 k hk; omega, fun _ h => h, fun _ h => h.elim, fun h => by omega, fun _ => rfl, fun _ => ⟨rfl, rfl⟩, fun h => by omega, hchx⟩
            case measure => simp [intOf]
        · rw [HQ.out] at hdf
          have HDF := Lib.hid hdf
          have hwd := decF_wf (by omega) HWF.out HB8.out (by rw [List.length_drop, HBL.out, ← HM.out, ← HQ.out, Nat.sub_mul]) hdf
          have HWD := Lib.hid hwd
          have HEY := Lib.hid hod.2
          have hyp := hod.1
          have HYP := Lib.hid hyp
          clear hdf hen hod hwd hyp
          go_upto_region 13 with fail
          go_cut [13, 14] (fun v13 v14 wx => CutRel w3 wr y v13 v14 wx)
          case first =>
            go_region_held3 (fun W => W.cell? ⟨bh, 0, none⟩ = some (.int .i64 x.ep) ∧ W.cell? ⟨bh, 1, none⟩ = some (.int .i64 x.ba) ∧ W.cell? ⟨bh, 2, none⟩ = some (.int .i64 x.us) ∧ W.cell? ⟨bh, 3, none⟩ = some (.string x.la) ∧ W.cell? ⟨bh, 4, none⟩ = some (.slice rA x.rs.length rc)) (go_keep) (first
              | (go_at_call 27; refine (dSizeG HD8.out (by repeat (first | exact Chg.refl _ _ | apply Chg.drewN | apply Chg.drew | apply Chg.alloc))).mono ?_; rintro e w7 ⟨rfl, rfl⟩)
              | (go_at_call 29; refine (jDecG HJ8.out HD8.out HR8.out HX8.out HK8.out HGL.out (by repeat (first | exact Chg.refl _ _ | apply Chg.drewN | apply Chg.drew | apply Chg.alloc)) (by omega) (by omega) HB8.out hLm hLc HWF.out (by omega) HRS.out).mono ?_; rintro e w8 hp; rw [HDF.out] at hp; obtain ⟨rv', R', E', rfl, hc8, hcd8, hr8, hR8, hE8⟩ := hp; obtain ⟨A8, c8, rfl⟩ := hr8.slice; have HRr8 := Lib.hid hr8; have HRR8 := Lib.hid hR8; have HRE8 := Lib.hid hE8; clear hr8 hR8 hE8; unfold hcells; have k0 := hc8.cell (a := ⟨bh, 0, none⟩) hk0 HBR.out; have k1 := hc8.cell (a := ⟨bh, 1, none⟩) hk1 HBR.out; have k2 := hc8.cell (a := ⟨bh, 2, none⟩) hk2 HBR.out; have k3 := hc8.cell (a := ⟨bh, 3, none⟩) hk3 HBR.out; have k4 := hc8.cell (a := ⟨bh, 4, none⟩) hk4 HBR.out; have hbn8 : ¬ bh = w8.heap.size := (by have := hc8.size; omega); have hbn9 : ¬ w8.heap.size = bh := (by have := hc8.size; omega); try (have kz := (hcd8).blk (heap_alloc_new _ _) HZN.out; have z0 := (blk_cell kz 0).trans (show zH[0]? = some (.int .i64 0) from rfl); have zf0 := blk_frozen kz 0; have z1 := (blk_cell kz 1).trans (show zH[1]? = some (.int .i64 0) from rfl); have zf1 := blk_frozen kz 1; have z2 := (blk_cell kz 2).trans (show zH[2]? = some (.int .i64 0) from rfl); have zf2 := blk_frozen kz 2; have z3 := (blk_cell kz 3).trans (show zH[3]? = some (.string { data := #[] }) from rfl); have zf3 := blk_frozen kz 3; have z4 := (blk_cell kz 4).trans (show zH[4]? = some (.slice none 0 0) from rfl); have zf4 := blk_frozen kz 4))
              | fail)
            all_goals (
              go_wp2
              go_meet
              case rel =>
                have hr8 := HRr8.out
                have hR8 := HRR8.out
                have hE8 := HRE8.out
                have hRb : ∀ k, R' k → w3.heap.size ≤ k := fun k hk => by
                  have := HSZ3.out
                  rcases hR8 k hk with h | h
                  · exact HRR.out.1 k h.1
                  · exact Nat.le_trans this h.1
                have hEb : ∀ k, E' k → w3.heap.size ≤ k := fun k hk => by
                  have := HSZ3.out
                  rcases hE8 k hk with h | h
                  · exact HRR.out.2 k h.1
                  · exact Nat.le_trans this h.1
                first
                  | (rw [five_set kz]; exact cut_first hc8 hr8 hRb hEb (fun k hk => HRR.out.1 k hk.1) kz (fun h => by rcases hR8 _ h with h | h; exact absurd h.2 (Nat.lt_irrefl _); exact absurd (show wr.heap.size + 1 ≤ wr.heap.size by simpa using h.2.1) (by omega)) (fun h => by rcases hE8 _ h with h | h; exact absurd h.2 (Nat.lt_irrefl _); exact absurd (show wr.heap.size + 1 ≤ wr.heap.size by simpa using h.2.1) (by omega)))
                  | exact cut_after hc8 hr8 hRb hEb (fun k hk => HRR.out.1 k hk.1))
          case rest =>
            obtain ⟨g13, rv', R', E', T, rfl, hg13, hrow13, rfl, hcx, hr9, hR9, hE9, hT9⟩ := hcut
            obtain ⟨A9, c9, rfl⟩ := hr9.slice
            have hpi1 : (y.ep : Int) % 2 = 0 := by have := HYP.out; omega
            have hpi2 : (y.ep : Int).tmod 2 = 0 := by rw [Int.tmod_eq_emod_of_nonneg (by omega)]; exact hpi1
            have HCC := Lib.hid hcx
            have HR9 := Lib.hid hr9
            have H13 := Lib.hid hrow13
            have HRE9 := Lib.hid (And.intro hR9 (And.intro hE9 hT9))
            have hrwc := hcx.blk HRW.out (fun h => by have := hT9 _ h; omega)
            have hc13 := (blk_cell hrow13 0).trans (show (hcells y (.slice A9 y.rs.length c9))[0]? = some (.int .i64 y.ep) from rfl)
            have hm0 := (blk_cell hrwc 0).trans (show ((fun x rv => acells x rv zeroH (.slice none 0 0)) x (.slice rA x.rs.length rc))[0]? = some (.int .i64 x.ep) from rfl)
            have hn0 := blk_frozen hrwc 0
            have hm1 := (blk_cell hrwc 1).trans (show ((fun x rv => acells x rv zeroH (.slice none 0 0)) x (.slice rA x.rs.length rc))[1]? = some (.int .i64 x.ba) from rfl)
            have hn1 := blk_frozen hrwc 1
            have hm2 := (blk_cell hrwc 2).trans (show ((fun x rv => acells x rv zeroH (.slice none 0 0)) x (.slice rA x.rs.length rc))[2]? = some (.int .i64 x.us) from rfl)
            have hn2 := blk_frozen hrwc 2
            have hm3 := (blk_cell hrwc 3).trans (show ((fun x rv => acells x rv zeroH (.slice none 0 0)) x (.slice rA x.rs.length rc))[3]? = some (.string x.la) from rfl)
            have hn3 := blk_frozen hrwc 3
            have hm4 := (blk_cell hrwc 4).trans (show ((fun x rv => acells x rv zeroH (.slice none 0 0)) x (.slice rA x.rs.length rc))[4]? = some (.slice rA x.rs.length rc) from rfl)
            have hn4 := blk_frozen hrwc 4
            have HRWC := Lib.hid hrwc
            clear hcx hr9 hrow13 hR9 hE9 hT9 hrwc
            clear hf0 hf1 hf2 hf3 hf4
            go_wp2_with (first
              | ((with_reducible show wpList _ _ _ _ _ _); refine wpl_load_H H13.out rfl (by rfl) (by rfl) ?_; simp only [hcells]))
            go_roundw
            case rel =>
              rw [ten_lo HRWC.out]
              refine ⟨y, .slice A9 y.rs.length c9, R', E', setRow_heap _ _ _ _ _ _ HRWC.out, HR9.out.chg (setRow_chgS wc bh _) (fun k hk e => by have := HRE9.out.1 k hk; omega) (fun k hk e => by have := HRE9.out.2.1 k hk; omega), HRE9.out.1, HRE9.out.2.1, HEY.out, HWD.out.1, ?_⟩
              exact HCX.out.trans' (HCC.out.trans' (setRow_chgS wc bh _) (U := fun k => T k ∨ k = bh) (fun _ _ h => .inl h) (fun _ _ h => .inr h)) (fun _ _ h => h) (fun k hk h => by
                rcases h with h | h
                · have := HRE9.out.2.2 k h
                  omega
                · exact h)
            case measure =>
              rw [ten_lo HRWC.out, (blk_cell (setRow_heap _ _ _ _ _ _ HRWC.out) 2).trans (show (acells y (.slice A9 y.rs.length c9) zeroH (.slice none 0 0))[2]? = some (.int .i64 y.us) from rfl), hk2]
              have e1 := HWD.out.2
              have e2 := HWD.out.1.us
              simp [intOf]
              omega
    · obtain rfl := hq0' (by omega)
      obtain ⟨rfl, rfl⟩ := hq1 (by omega)
      clear hq0 hq0' hq1 hq1'
      obtain ⟨B, hB⟩ : ∃ B, secB cont (fi + rm) rm = B := ⟨_, rfl⟩
      have hBl : B.length = M := by rw [← hB, ← HM.out]; exact secB_len rm (fun i hi => HD.out.len (by omega))
      have hBb : ∀ x ∈ B, 0 ≤ x ∧ x ≤ 255 := by rw [← hB]; exact secB_byte rm (fun i hi => HB.out _ (by omega))
      have HBL := Lib.hid hBl
      have HBB := Lib.hid hBb
      have HEN := Lib.hid (show Ends sz B 1 zeroH h1 by rw [← hB]; exact HE1.out)
      have HAB := Lib.hid (show secB cont (fi + 1 * rm) rm = B by rw [← hB]; congr 1; omega)
      clear hB hBl hBb
      go_wp2_with (go_at_call 28; go_loud (refine (jRead (idx := 1) HJr.out HDr.out (by omega) (by omega) hrm1 (by omega) (by omega) (by omega) hm).mono ?_); rintro e w3 ⟨vb, rfl, hob, hbel⟩; rw [HAB.out, HBL.out] at hob; obtain ⟨gB, cB, rfl, hRM⟩ := RowM.of hob hM0)
      have HRM3 := Lib.hid hRM
      have HBEL3 := Lib.hid hbel
      have hch3 : Chg (fun _ => False) wr w3 := ⟨hbel.os, hbel.tape, hbel.output, hbel.size, fun k hk _ => hbel.block k hk⟩
      have HROW3 := Lib.hid (hch3.blk HROW.out (fun h => h))
      have HJ3 := Lib.hid (HJr.out.chg hch3 (fun h => h))
      have HD3 := Lib.hid (hch3.blk HDH.out (fun h => h))
      have HK3 := Lib.hid (HKr.out.chg hch3 (fun h => h))
      have HC3 := Lib.hid hch3
      have hb3 : bh < w3.heap.size := blk_lt HROW3.out
      clear hob hRM hbel hch3
      go_loopw [] (fun wx => InRel w3 bh sz rm 1 (fun x rv => acells x0 rv0 x rv) B h1 wx) (fun wx => rm - (intOf ((wx.cell? ⟨bh, 7, none⟩).getD undef)).toNat)
      case atStart => exact ⟨zeroH, .slice none 0 0, fun k => w3.heap.size ≤ k, fun _ => False, HROW3.out, RecsAt.nil _ _, fun _ h => h, fun _ h => h.elim, HEN.out, wf_zero _ _, Chg.refl _ _⟩
      case round =>
        obtain ⟨x, rv, R, E, hrw, hrec, hR, hE, hen, hwf, hch⟩ := hrel
        obtain ⟨rA, rc, rfl⟩ := hrec.slice
        have hus := hwf.us
        obtain ⟨q, hq⟩ : ∃ q, x.us * sz = q := ⟨_, rfl⟩
        have hqM : q ≤ M := by rw [← hq, ← HM.out]; exact Nat.mul_le_mul_right _ hus
        have hqi : (x.us : Int) * (sz : Int) = (q : Int) := by rw [← hq]; simp
        have hqw : IntKind.i64.wrap (q : Int) = (q : Int) := by rw [IntKind.wrap_i64]; omega
        have hqI : (q : Int) ≤ (M : Int) := by omega
        have hgne : ¬ gB = bh := by
          obtain ⟨_, _, _, _, _, _, _, _, hge⟩ := HRM3.out
          have := blk_lt HROW.out
          omega
        have hg3 := HRM3.out.lt
        have hgl : gB < wr.heap.size := Nat.lt_of_lt_of_le hg3 hch.size
        have hRMx := HRM3.out.mv (hch.block gB hg3 hgne)
        have hcB : M ≤ cB := by have := hRMx.le; rw [HBL.out] at this; exact this
        obtain ⟨off, hcut, hcr⟩ := cutFrom (g := gB) hqM hcB (by omega)
        have hx8 := hcr wr B (by have := hRMx.reads (by rw [HBL.out]; omega); rw [HBL.out] at this; exact this)
        obtain ⟨L, hL⟩ : ∃ L, M - q = L := ⟨_, rfl⟩
        obtain ⟨cL, hcL⟩ : ∃ cL, cB - q = cL := ⟨_, rfl⟩
        rw [hL] at hx8 hcut
        rw [hcL] at hcut
        have hLc : L ≤ cL := by omega
        have hLm : L ≤ 100000 := by omega
        have HX8 := Lib.hid hx8
        have HB8 : RowKit.Hid (∀ y ∈ B.drop q, 0 ≤ y ∧ y ≤ 255) := Lib.hid (fun y hy => HBB.out y (List.mem_of_mem_drop hy))
        have HJ8 := Lib.hid (HJ3.out.chg hch hjne)
        have HD8 := Lib.hid (hch.blk HD3.out hdne)
        have HK8 := Lib.hid (HK3.out.chg hch (hF0 _ HK.out.lt))
        have HR8 := Lib.hid hrec
        have HWF := Lib.hid hwf
        have HRR := Lib.hid (And.intro hR hE)
        have HCX := Lib.hid hch
        have HRW := Lib.hid hrw
        have HQ := Lib.hid hq
        have HL := Lib.hid hL
        have HBR : RowKit.Hid (¬ (R bh ∧ bh < wr.heap.size)) := Lib.hid (fun h => by have := hR bh h.1; omega)
        have HGL := Lib.hid hgl
        have hbx : bh < wr.heap.size := blk_lt hrw
        have hbn1 : ¬ bh = wr.heap.size := by omega
        have hbn2 : ¬ wr.heap.size = bh := by omega
        have HSZ3 := Lib.hid hch.size
        have HRS : RowKit.Hid (rm * sz ≤ 100000) := Lib.hid (by rw [HM.out]; exact hM1)
        have HZN : RowKit.Hid (¬ (R wr.heap.size ∧ wr.heap.size < wr.heap.size)) := Lib.hid (fun h => by have := h.2; omega)
        have hk0 := (blk_cell hrw 5).trans (show ((fun x rv => acells x0 rv0 x rv) x (.slice rA x.rs.length rc))[5]? = some (.int .i64 x.ep) from rfl)
        have hf0 := blk_frozen hrw 5
        have hk1 := (blk_cell hrw 6).trans (show ((fun x rv => acells x0 rv0 x rv) x (.slice rA x.rs.length rc))[6]? = some (.int .i64 x.ba) from rfl)
        have hf1 := blk_frozen hrw 6
        have hk2 := (blk_cell hrw 7).trans (show ((fun x rv => acells x0 rv0 x rv) x (.slice rA x.rs.length rc))[7]? = some (.int .i64 x.us) from rfl)
        have hf2 := blk_frozen hrw 7
        have hk3 := (blk_cell hrw 8).trans (show ((fun x rv => acells x0 rv0 x rv) x (.slice rA x.rs.length rc))[8]? = some (.string x.la) from rfl)
        have hf3 := blk_frozen hrw 8
        have hk4 := (blk_cell hrw 9).trans (show ((fun x rv => acells x0 rv0 x rv) x (.slice rA x.rs.length rc))[9]? = some (.slice rA x.rs.length rc) from rfl)
        have hf4 := blk_frozen hrw 9
        clear hrec hR hE hwf hch hrw hq hL hcL hx8 hRMx hg3 hgl
        rcases hen.inv with ⟨hdf, hxe⟩ | ⟨y, hdf, hod⟩
        · rw [HQ.out] at hdf
          have HDF := Lib.hid hdf
          have HXE := Lib.hid hxe
          clear hdf hxe hen
          go_upto_region 13 with fail
          go_cut [14] (fun v14 wx => CutNo w3 wr v14 wx)
          case first =>
            go_region_held3 (fun W => W.cell? ⟨bh, 5, none⟩ = some (.int .i64 x.ep) ∧ W.cell? ⟨bh, 6, none⟩ = some (.int .i64 x.ba) ∧ W.cell? ⟨bh, 7, none⟩ = some (.int .i64 x.us) ∧ W.cell? ⟨bh, 8, none⟩ = some (.string x.la) ∧ W.cell? ⟨bh, 9, none⟩ = some (.slice rA x.rs.length rc)) (go_keep) (first
              | (go_at_call 27; refine (dSizeG HD8.out (by repeat (first | exact Chg.refl _ _ | apply Chg.drewN | apply Chg.drew | apply Chg.alloc))).mono ?_; rintro e w7 ⟨rfl, rfl⟩)
              | (go_at_call 29; refine (jDecG HJ8.out HD8.out HR8.out HX8.out HK8.out HGL.out (by repeat (first | exact Chg.refl _ _ | apply Chg.drewN | apply Chg.drew | apply Chg.alloc)) (by omega) (by omega) HB8.out hLm hLc HWF.out (by omega) HRS.out).mono ?_; rintro e w8 hp; rw [HDF.out] at hp; obtain ⟨rfl, hc8, hcf8, hcd8⟩ := hp; unfold hcells; have k0 := hc8.cell (a := ⟨bh, 5, none⟩) hk0 HBR.out; have k1 := hc8.cell (a := ⟨bh, 6, none⟩) hk1 HBR.out; have k2 := hc8.cell (a := ⟨bh, 7, none⟩) hk2 HBR.out; have k3 := hc8.cell (a := ⟨bh, 8, none⟩) hk3 HBR.out; have k4 := hc8.cell (a := ⟨bh, 9, none⟩) hk4 HBR.out; have hbn8 : ¬ bh = w8.heap.size := (by have := hc8.size; omega); have hbn9 : ¬ w8.heap.size = bh := (by have := hc8.size; omega); try (have kz := (hcd8).blk (heap_alloc_new _ _) HZN.out; have z0 := (blk_cell kz 0).trans (show zH[0]? = some (.int .i64 0) from rfl); have zf0 := blk_frozen kz 0; have z1 := (blk_cell kz 1).trans (show zH[1]? = some (.int .i64 0) from rfl); have zf1 := blk_frozen kz 1; have z2 := (blk_cell kz 2).trans (show zH[2]? = some (.int .i64 0) from rfl); have zf2 := blk_frozen kz 2; have z3 := (blk_cell kz 3).trans (show zH[3]? = some (.string { data := #[] }) from rfl); have zf3 := blk_frozen kz 3; have z4 := (blk_cell kz 4).trans (show zH[4]? = some (.slice none 0 0) from rfl); have zf4 := blk_frozen kz 4))
              | fail)
            all_goals (
              go_wp2
              go_meet
              case rel => first
                | (rw [five_set kz]; exact ⟨rfl, setRow_chg hcf8 (Nat.le_refl _)⟩)
                | exact ⟨rfl, hcf8.alloc _⟩)
          case rest =>
            obtain ⟨rfl, hcx⟩ := hcut
            have HCC := Lib.hid hcx
            clear hcx
            clear hf0 hf1 hf2 hf3 hf4
            go_wp2
            go_roundw
            case rel =>
              have e1 := HCH.out.size
              have e2 := HC3.out.size
              have hE1 := HREC1.out
              have hchx : Chg (fun k => k = bh) w0 wc := HCH.out.trans' (HC3.out.trans' (HCX.out.trans' HCC.out (fun _ _ h => h) (fun _ _ h => h.elim)) (fun _ _ h => h.elim) (fun _ _ h => h)) (fun _ _ h => h) (fun _ _ h => h)
              have hrx := HR8.out.chg HCC.out (fun _ _ h => h) (fun _ _ h => h)
              have hbw := HCC.out.blk HRW.out (fun h => h)
              rw [HXE.out] at hrx hbw
              have hbl0 : bh < w0.heap.size := by have := HBH.out; have := HZ0.out; omega
              have hrx0 := ((HREC0.out.chg HC3.out (fun _ _ h => h) (fun _ _ h => h)).chg HCX.out (fun k hk e => by have := HRE.out.1 k hk; omega) (fun k hk e => by have := HRE.out.2.1 k hk; omega)).chg HCC.out (fun _ _ h => h) (fun _ _ h => h)
              exact ⟨2, x0, rv0, R0, E0, h1, _, R, E, by omega, by simp, hbw, hrx0, hrx, HRE.out.1, HRE.out.2.1, fun k hk => by have := HRR.out.1 k hk; omega, fun k hk => by have := HRR.out.2 k hk; omega, fun h => by omega, fun _ => rfl, fun h => by omega, fun _ => rfl, hchx⟩
            case measure => simp [intOf]
        · rw [HQ.out] at hdf
          have HDF := Lib.hid hdf
          have hwd := decF_wf (by omega) HWF.out HB8.out (by rw [List.length_drop, HBL.out, ← HM.out, ← HQ.out, Nat.sub_mul]) hdf
          have HWD := Lib.hid hwd
          have HEY := Lib.hid hod.2
          have hyp := hod.1
          have HYP := Lib.hid hyp
          clear hdf hen hod hwd hyp
          go_upto_region 13 with fail
          go_cut [13, 14] (fun v13 v14 wx => CutRel w3 wr y v13 v14 wx)
          case first =>
            go_region_held3 (fun W => W.cell? ⟨bh, 5, none⟩ = some (.int .i64 x.ep) ∧ W.cell? ⟨bh, 6, none⟩ = some (.int .i64 x.ba) ∧ W.cell? ⟨bh, 7, none⟩ = some (.int .i64 x.us) ∧ W.cell? ⟨bh, 8, none⟩ = some (.string x.la) ∧ W.cell? ⟨bh, 9, none⟩ = some (.slice rA x.rs.length rc)) (go_keep) (first
              | (go_at_call 27; refine (dSizeG HD8.out (by repeat (first | exact Chg.refl _ _ | apply Chg.drewN | apply Chg.drew | apply Chg.alloc))).mono ?_; rintro e w7 ⟨rfl, rfl⟩)
              | (go_at_call 29; refine (jDecG HJ8.out HD8.out HR8.out HX8.out HK8.out HGL.out (by repeat (first | exact Chg.refl _ _ | apply Chg.drewN | apply Chg.drew | apply Chg.alloc)) (by omega) (by omega) HB8.out hLm hLc HWF.out (by omega) HRS.out).mono ?_; rintro e w8 hp; rw [HDF.out] at hp; obtain ⟨rv', R', E', rfl, hc8, hcd8, hr8, hR8, hE8⟩ := hp; obtain ⟨A8, c8, rfl⟩ := hr8.slice; have HRr8 := Lib.hid hr8; have HRR8 := Lib.hid hR8; have HRE8 := Lib.hid hE8; clear hr8 hR8 hE8; unfold hcells; have k0 := hc8.cell (a := ⟨bh, 5, none⟩) hk0 HBR.out; have k1 := hc8.cell (a := ⟨bh, 6, none⟩) hk1 HBR.out; have k2 := hc8.cell (a := ⟨bh, 7, none⟩) hk2 HBR.out; have k3 := hc8.cell (a := ⟨bh, 8, none⟩) hk3 HBR.out; have k4 := hc8.cell (a := ⟨bh, 9, none⟩) hk4 HBR.out; have hbn8 : ¬ bh = w8.heap.size := (by have := hc8.size; omega); have hbn9 : ¬ w8.heap.size = bh := (by have := hc8.size; omega); try (have kz := (hcd8).blk (heap_alloc_new _ _) HZN.out; have z0 := (blk_cell kz 0).trans (show zH[0]? = some (.int .i64 0) from rfl); have zf0 := blk_frozen kz 0; have z1 := (blk_cell kz 1).trans (show zH[1]? = some (.int .i64 0) from rfl); have zf1 := blk_frozen kz 1; have z2 := (blk_cell kz 2).trans (show zH[2]? = some (.int .i64 0) from rfl); have zf2 := blk_frozen kz 2; have z3 := (blk_cell kz 3).trans (show zH[3]? = some (.string { data := #[] }) from rfl); have zf3 := blk_frozen kz 3; have z4 := (blk_cell kz 4).trans (show zH[4]? = some (.slice none 0 0) from rfl); have zf4 := blk_frozen kz 4))
              | fail)
            all_goals (
              go_wp2
              go_meet
              case rel =>
                have hr8 := HRr8.out
                have hR8 := HRR8.out
                have hE8 := HRE8.out
                have hRb : ∀ k, R' k → w3.heap.size ≤ k := fun k hk => by
                  have := HSZ3.out
                  rcases hR8 k hk with h | h
                  · exact HRR.out.1 k h.1
                  · exact Nat.le_trans this h.1
                have hEb : ∀ k, E' k → w3.heap.size ≤ k := fun k hk => by
                  have := HSZ3.out
                  rcases hE8 k hk with h | h
                  · exact HRR.out.2 k h.1
                  · exact Nat.le_trans this h.1
                first
                  | (rw [five_set kz]; exact cut_first hc8 hr8 hRb hEb (fun k hk => HRR.out.1 k hk.1) kz (fun h => by rcases hR8 _ h with h | h; exact absurd h.2 (Nat.lt_irrefl _); exact absurd (show wr.heap.size + 1 ≤ wr.heap.size by simpa using h.2.1) (by omega)) (fun h => by rcases hE8 _ h with h | h; exact absurd h.2 (Nat.lt_irrefl _); exact absurd (show wr.heap.size + 1 ≤ wr.heap.size by simpa using h.2.1) (by omega)))
                  | exact cut_after hc8 hr8 hRb hEb (fun k hk => HRR.out.1 k hk.1))
          case rest =>
            obtain ⟨g13, rv', R', E', T, rfl, hg13, hrow13, rfl, hcx, hr9, hR9, hE9, hT9⟩ := hcut
            obtain ⟨A9, c9, rfl⟩ := hr9.slice
            have hpi1 : (y.ep : Int) % 2 = 1 := by have := HYP.out; omega
            have hpi2 : (y.ep : Int).tmod 2 = 1 := by rw [Int.tmod_eq_emod_of_nonneg (by omega)]; exact hpi1
            have HCC := Lib.hid hcx
            have HR9 := Lib.hid hr9
            have H13 := Lib.hid hrow13
            have HRE9 := Lib.hid (And.intro hR9 (And.intro hE9 hT9))
            have hrwc := hcx.blk HRW.out (fun h => by have := hT9 _ h; omega)
            have hc13 := (blk_cell hrow13 0).trans (show (hcells y (.slice A9 y.rs.length c9))[0]? = some (.int .i64 y.ep) from rfl)
            have hm0 := (blk_cell hrwc 5).trans (show ((fun x rv => acells x0 rv0 x rv) x (.slice rA x.rs.length rc))[5]? = some (.int .i64 x.ep) from rfl)
            have hn0 := blk_frozen hrwc 5
            have hm1 := (blk_cell hrwc 6).trans (show ((fun x rv => acells x0 rv0 x rv) x (.slice rA x.rs.length rc))[6]? = some (.int .i64 x.ba) from rfl)
            have hn1 := blk_frozen hrwc 6
            have hm2 := (blk_cell hrwc 7).trans (show ((fun x rv => acells x0 rv0 x rv) x (.slice rA x.rs.length rc))[7]? = some (.int .i64 x.us) from rfl)
            have hn2 := blk_frozen hrwc 7
            have hm3 := (blk_cell hrwc 8).trans (show ((fun x rv => acells x0 rv0 x rv) x (.slice rA x.rs.length rc))[8]? = some (.string x.la) from rfl)
            have hn3 := blk_frozen hrwc 8
            have hm4 := (blk_cell hrwc 9).trans (show ((fun x rv => acells x0 rv0 x rv) x (.slice rA x.rs.length rc))[9]? = some (.slice rA x.rs.length rc) from rfl)
            have hn4 := blk_frozen hrwc 9
            have HRWC := Lib.hid hrwc
            clear hcx hr9 hrow13 hR9 hE9 hT9 hrwc
            clear hf0 hf1 hf2 hf3 hf4
            go_wp2_with (first
              | ((with_reducible show wpList _ _ _ _ _ _); refine wpl_load_H H13.out rfl (by rfl) (by rfl) ?_; simp only [hcells]))
            go_roundw
            case rel =>
              rw [ten_hi HRWC.out]
              refine ⟨y, .slice A9 y.rs.length c9, R', E', setRow_heap _ _ _ _ _ _ HRWC.out, HR9.out.chg (setRow_chgS wc bh _) (fun k hk e => by have := HRE9.out.1 k hk; omega) (fun k hk e => by have := HRE9.out.2.1 k hk; omega), HRE9.out.1, HRE9.out.2.1, HEY.out, HWD.out.1, ?_⟩
              exact HCX.out.trans' (HCC.out.trans' (setRow_chgS wc bh _) (U := fun k => T k ∨ k = bh) (fun _ _ h => .inl h) (fun _ _ h => .inr h)) (fun _ _ h => h) (fun k hk h => by
                rcases h with h | h
                · have := HRE9.out.2.2 k h
                  omega
                · exact h)
            case measure =>
              rw [ten_hi HRWC.out, (blk_cell (setRow_heap _ _ _ _ _ _ HRWC.out) 7).trans (show (acells x0 rv0 y (.slice A9 y.rs.length c9))[7]? = some (.int .i64 y.us) from rfl), hk2]
              have e1 := HWD.out.2
              have e2 := HWD.out.1.us
              simp [intOf]
              omega
    · obtain rfl := hq0' (by omega)
      obtain rfl := hq1' rfl
      clear hq0 hq0' hq1 hq1'
      obtain ⟨rA0, rc0, rfl⟩ := HREC0.out.slice
      obtain ⟨rA1, rc1, rfl⟩ := HREC1.out.slice
      have hk0 := (blk_cell HROW.out 0).trans (show (acells x0 (.slice rA0 x0.rs.length rc0) x1 (.slice rA1 x1.rs.length rc1))[0]? = some (.int .i64 x0.ep) from rfl)
      have hf0 := blk_frozen HROW.out 0
      have hk1 := (blk_cell HROW.out 1).trans (show (acells x0 (.slice rA0 x0.rs.length rc0) x1 (.slice rA1 x1.rs.length rc1))[1]? = some (.int .i64 x0.ba) from rfl)
      have hf1 := blk_frozen HROW.out 1
      have hk2 := (blk_cell HROW.out 2).trans (show (acells x0 (.slice rA0 x0.rs.length rc0) x1 (.slice rA1 x1.rs.length rc1))[2]? = some (.int .i64 x0.us) from rfl)
      have hf2 := blk_frozen HROW.out 2
      have hk3 := (blk_cell HROW.out 3).trans (show (acells x0 (.slice rA0 x0.rs.length rc0) x1 (.slice rA1 x1.rs.length rc1))[3]? = some (.string x0.la) from rfl)
      have hf3 := blk_frozen HROW.out 3
      have hk4 := (blk_cell HROW.out 4).trans (show (acells x0 (.slice rA0 x0.rs.length rc0) x1 (.slice rA1 x1.rs.length rc1))[4]? = some (.slice rA0 x0.rs.length rc0) from rfl)
      have hf4 := blk_frozen HROW.out 4
      have hk5 := (blk_cell HROW.out 5).trans (show (acells x0 (.slice rA0 x0.rs.length rc0) x1 (.slice rA1 x1.rs.length rc1))[5]? = some (.int .i64 x1.ep) from rfl)
      have hf5 := blk_frozen HROW.out 5
      have hk6 := (blk_cell HROW.out 6).trans (show (acells x0 (.slice rA0 x0.rs.length rc0) x1 (.slice rA1 x1.rs.length rc1))[6]? = some (.int .i64 x1.ba) from rfl)
      have hf6 := blk_frozen HROW.out 6
      have hk7 := (blk_cell HROW.out 7).trans (show (acells x0 (.slice rA0 x0.rs.length rc0) x1 (.slice rA1 x1.rs.length rc1))[7]? = some (.int .i64 x1.us) from rfl)
      have hf7 := blk_frozen HROW.out 7
      have hk8 := (blk_cell HROW.out 8).trans (show (acells x0 (.slice rA0 x0.rs.length rc0) x1 (.slice rA1 x1.rs.length rc1))[8]? = some (.string x1.la) from rfl)
      have hf8 := blk_frozen HROW.out 8
      have hk9 := (blk_cell HROW.out 9).trans (show (acells x0 (.slice rA0 x0.rs.length rc0) x1 (.slice rA1 x1.rs.length rc1))[9]? = some (.slice rA1 x1.rs.length rc1) from rfl)
      have hf9 := blk_frozen HROW.out 9
      have hj3 := HJr.out.c3
      have hjf3 := blk_frozen HJr.out 3
      have hj4 := HJr.out.c4
      have hjf4 := blk_frozen HJr.out 4
      have hj5 := HJr.out.c5
      have hjf5 := blk_frozen HJr.out 5
      have hj6 := HJr.out.c6
      have hjf6 := blk_frozen HJr.out 6
      have hj7 := HJr.out.c7
      have hjf7 := blk_frozen HJr.out 7
      by_cases hba : 0 < x1.ba
      · have hbai : (0 : Int) < (x1.ba : Int) := by omega
        by_cases hep : x0.ep < x1.ep
        · have hepi : (x0.ep : Int) < (x1.ep : Int) := by omega
          have hre : RowKit.Hid (hr = x1) := Lib.hid (by rw [← HHR.out, if_pos ⟨hba, hep⟩])
          clear hba hep
          go_wp2
          try rw [Exit.noGoto_ret]
          go_ret2
          rw [hre.out, j_set (x := zeroH) HJr.out, j_set (x := x0) (setRow_heap _ _ _ _ _ _ HJr.out), setRow_setRow]
          exact opn_end HC0.out HCH.out HZ0.out HJN.out HBH.out HJr.out HREC1.out HRE.out.2.2.1 HRE.out.2.2.2
        · have hepi : ¬ (x0.ep : Int) < (x1.ep : Int) := by omega
          have hre : RowKit.Hid (hr = x0) := Lib.hid (by rw [← HHR.out, if_neg (fun h => hep h.2)])
          clear hba hep
          go_wp2
          try rw [Exit.noGoto_ret]
          go_ret2
          rw [hre.out, j_set (x := zeroH) HJr.out]
          exact opn_end HC0.out HCH.out HZ0.out HJN.out HBH.out HJr.out HREC0.out HRE.out.1 HRE.out.2.1
      · have hbai : ¬ (0 : Int) < (x1.ba : Int) := by omega
        have hre : RowKit.Hid (hr = x0) := Lib.hid (by rw [← HHR.out, if_neg (fun h => hba h.1)])
        clear hba
        go_wp2
        try rw [Exit.noGoto_ret]
        go_ret2
        rw [hre.out, j_set (x := zeroH) HJr.out]
        exact opn_end HC0.out HCH.out HZ0.out HJN.out HBH.out HJr.out HREC0.out HRE.out.1 HRE.out.2.1
end Go.Proofs.YtapapedpecpfgaaDoor.J
