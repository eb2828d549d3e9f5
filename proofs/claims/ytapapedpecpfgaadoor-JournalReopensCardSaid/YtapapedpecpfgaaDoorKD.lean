/- The disk kept; the Journal's read. -/
import Derived.Test.YtapapedpecpfgaaDoorKB
set_option linter.unusedVariables false
set_option linter.unusedSimpArgs false
namespace Go.Proofs.YtapapedpecpfgaaDoor.J
open Go.RowKit Go.Proofs.YtapapedpecpfgaaDoorW.PrintWords

theorem DFoot.lt {w : World} {d g sz n : Nat} {D : Nat → Option Nat} {dc : Nat → List Int} {pv : Value} {ps : List PW} (hI : DiskIs w d g sz n D dc pv ps) {k : Nat} (hk : DFoot d g n D pv ps k) : k < w.heap.size := by
  rcases hk with rfl | rfl | h | ⟨i, hi, h⟩ | ⟨p, hp, rfl⟩
  · exact blk_lt hI.hd
  · obtain ⟨cs, hb, _⟩ := hI.du.arr
    exact blk_lt hb
  · exact own_lt hI.pe.own k h
  · exact blk_lt (hI.du.some_ i k hi h)
  · exact (hI.pe.rd p hp).1.lt
theorem DiskAt.chg {w w' : World} {d sz n m : Nat} {cont : Nat → List Int} {F S : Nat → Prop} (hD : DiskAt w d sz n cont m F) (hc : Chg S w w') (hS : ∀ k, k < w.heap.size → F k → ¬ S k) : DiskAt w' d sz n cont m F := by
  obtain ⟨g, D, dc, pv, ps, hI, hpm, hct, hF⟩ := hD
  have f : ∀ k, DFoot d g n D pv ps k → ¬ S k := fun k h => hS k (DFoot.lt hI h) (hF k h)
  exact ⟨g, D, dc, pv, ps, ⟨hc.blk hI.hd (f d (.inl rfl)), hI.du.chg hc (f g (.inr (.inl rfl))) (fun i b hi he => f b (.inr (.inr (.inr (.inl ⟨i, hi, he⟩))))),
    ⟨own_move hI.pe.own (fun k hk => hc.block k (own_lt hI.pe.own k hk) (f k (.inr (.inr (.inl hk))))), fun p hp => ⟨(hI.pe.rd p hp).1.mv (hc.block _ (hI.pe.rd p hp).1.lt (f _ (.inr (.inr (.inr (.inr ⟨p, hp, rfl⟩)))))), (hI.pe.rd p hp).2⟩, hI.pe.sec, hI.pe.ap⟩⟩, hpm, hct, hF⟩
theorem DiskAt.mono {w : World} {d sz n m : Nat} {cont : Nat → List Int} {F F' : Nat → Prop} (hD : DiskAt w d sz n cont m F) (h : ∀ k, k < w.heap.size → F k → F' k) : DiskAt w d sz n cont m F' := by
  obtain ⟨g, D, dc, pv, ps, hI, hpm, hct, hF⟩ := hD
  exact ⟨g, D, dc, pv, ps, hI, hpm, hct, fun k hk => h k (DFoot.lt hI hk) (hF k hk)⟩
theorem DiskAt.more {w : World} {d sz n m m' : Nat} {cont : Nat → List Int} {F : Nat → Prop} (hD : DiskAt w d sz n cont m F) (h : m ≤ m') : DiskAt w d sz n cont m' F := by
  obtain ⟨g, D, dc, pv, ps, hI, hpm, hct, hF⟩ := hD
  exact ⟨g, D, dc, pv, ps, hI, Nat.le_trans hpm h, hct, hF⟩
theorem DiskAt.hd {w : World} {d sz n m : Nat} {cont : Nat → List Int} {F : Nat → Prop} (hD : DiskAt w d sz n cont m F) : ∃ g pv, DHd w d sz (.slice (some ⟨g, 0, none⟩) n n) pv := by
  obtain ⟨g, D, dc, pv, ps, hI, hpm, hct, hF⟩ := hD
  exact ⟨g, pv, hI.hd⟩
theorem DiskAt.inF {w : World} {d sz n m : Nat} {cont : Nat → List Int} {F : Nat → Prop} (hD : DiskAt w d sz n cont m F) : F d ∧ d < w.heap.size := by
  obtain ⟨g, D, dc, pv, ps, hI, hpm, hct, hF⟩ := hD
  exact ⟨hF d (.inl rfl), blk_lt hI.hd⟩
theorem contOf_len {dc : Nat → List Int} {sz i : Nat} : ∀ (ps : List PW) (dc : Nat → List Int), (∀ p ∈ ps, p.dat.length = sz) → (dc i).length = sz → (contOf dc ps i).length = sz
  | [], dc, _, h => h
  | p :: ps, dc, hp, h => contOf_len (dc := dc) ps (upd dc p.sec p.dat) (fun q hq => hp q (by simp [hq])) (by
      unfold upd
      by_cases e : i = p.sec
      · rw [if_pos e]; exact hp p (by simp)
      · rw [if_neg e]; exact h)
theorem DiskAt.len {w : World} {d sz n m : Nat} {cont : Nat → List Int} {F : Nat → Prop} (hD : DiskAt w d sz n cont m F) {s : Nat} (hs : s < n) : (cont s).length = sz := by
  obtain ⟨g, D, dc, pv, ps, hI, hpm, hct, hF⟩ := hD
  rw [hct s hs]
  exact contOf_len (dc := dc) ps dc (fun p hp => (hI.pe.rd p hp).2) (hI.du.len s hs)

/-- The bytes of sectors. -/
def secB (cont : Nat → List Int) (a k : Nat) : List Int := (List.range k).flatMap (fun i => cont (a + i))
theorem secB_succ (cont : Nat → List Int) (a k : Nat) : secB cont a (k + 1) = secB cont a k ++ cont (a + k) := by
  unfold secB
  rw [List.range_succ, List.flatMap_append]
  simp
theorem secB_len {cont : Nat → List Int} {sz a : Nat} : ∀ k, (∀ i, i < k → (cont (a + i)).length = sz) → (secB cont a k).length = k * sz
  | 0, _ => by simp [secB]
  | k + 1, h => by rw [secB_succ, List.length_append, secB_len k (fun i hi => h i (by omega)), h k (by omega), Nat.succ_mul]
def ReadPost (w : World) (bs : List Int) (e : Ending) (w' : World) : Prop :=
  ∃ v, e = .returned (.tuple #[v, .int .i64 0]) ∧ w'.ownsRow w.heap.size 5 1 v bs.length (nums .u8 bs) ∧ Below w.heap.size w w'
def ReadRel (w : World) (cont : Nat → List Int) (a rm sz : Nat) (iv v : Value) (wr : World) : Prop :=
  ∃ i L bs, i ≤ rm ∧ iv = .int .i64 i ∧ bs = secB cont a i ∧ bs.length = L ∧ L = i * sz ∧ wr.ownsRow w.heap.size 5 1 v L (nums .u8 bs) ∧ Below w.heap.size w wr
theorem below_chgN {w w' : World} (h : Below w.heap.size w w') : Chg (fun k => ¬ k < w.heap.size) w w' := ⟨h.os, h.tape, h.output, h.size, fun x _ hn => h.block x (by simpa using hn)⟩

set_option maxRecDepth 100000 in
set_option maxHeartbeats 4000000 in
theorem jRead {w : World} {j d fi rm ep ba us sz n m idx : Nat} {la : ByteArray} {rv : Value} {dn : Bool} {cont : Nat → List Int} {F : Nat → Prop}
    (hj : JHd w j d fi rm ep ba us la rv dn) (hD : DiskAt w d sz n cont m F) (hs0 : 0 < sz) (hs1 : sz ≤ 4096) (hrm : rm ≤ 100) (hfi : fi ≤ 1000000) (hi2 : idx ≤ 1) (hfit : fi + 2 * rm ≤ n) (hm : m ≤ 1000000) :
    Calls Tryd.prog 28 #[.pointer (some ⟨j, 0, none⟩), .int .i64 idx] w (ReadPost w (secB cont (fi + idx * rm) rm)) := by
  have h0 := hj.c0
  have h2 := hj.c2
  have HJ := Lib.hid hj
  have HD := Lib.hid hD
  obtain ⟨a, ha⟩ : ∃ a, fi + idx * rm = a := ⟨_, rfl⟩
  have hidm : idx % 2 = idx := by omega
  have hirm : idx * rm ≤ rm := by
    have := Nat.mul_le_mul_right rm hi2
    omega
  have HA := Lib.hid ha
  have HIM := Lib.hid hidm
  have han : a + rm ≤ n := by omega
  have hab : a ≤ 1000100 := by omega
  rw [ha]
  clear hj hD ha hidm
  go_enter Tryd.func28, Tryd.ntmps28
  go_wp2
  go_loopw [14, 6] (fun iv v wr => ReadRel w cont a rm sz iv v wr) (fun iv _ _ => rm - (intOf iv).toNat)
  case atStart => exact ⟨0, 0, [], by omega, rfl, rfl, rfl, by omega, own_nil _ _ _ _, Below.refl _ _⟩
  case round =>
    obtain ⟨i, L, bs, hi, rfl, hbs, hbl, hL, hown, hbel⟩ := hrel
    obtain ⟨A, c, rfl⟩ := own_slice hown
    have HBS := Lib.hid hbs
    have HBL := Lib.hid hbl
    have HL := Lib.hid hL
    have HOWN := Lib.hid hown
    have HBEL := Lib.hid hbel
    have hLb : L ≤ 100 * 4096 := by rw [hL]; exact Nat.mul_le_mul (by omega) hs1
    have hc0 := pw_cell_below hbel h0
    clear hbs hbl hL hown hbel
    by_cases hlt : i < rm
    · have hlti : (i : Int) < (rm : Int) := by omega
      have HJr : RowKit.Hid (∀ W, Drw wr W → JHd W j d fi rm ep ba us la rv dn) := Lib.hid (fun W hW => hW.keep (HJ.out.chg (below_chgN HBEL.out) (fun h => h (blk_lt HJ.out))))
      have HDr : RowKit.Hid (∀ W, Drw wr W → DiskAt W d sz n cont m F) := Lib.hid (fun W hW => (HD.out.chg (below_chgN HBEL.out) (fun k hk _ h => h hk)).chg hW.chg (fun _ _ _ h => h))
      obtain ⟨s, hs⟩ : ∃ s, a + i = s := ⟨_, rfl⟩
      have hsn : s < n := by omega
      have hsi : (a : Int) + (i : Int) = (s : Int) := by omega
      have HS := Lib.hid hs
      have hsw : IntKind.i64.wrap (s : Int) = (s : Int) := by rw [IntKind.wrap_i64]; omega
      have HLEN := Lib.hid (HD.out.len hsn)
      clear hs
      go_wp2
      go_region_held3 (fun W => W.cell? ⟨j, 0, none⟩ = some (.pointer (some ⟨d, 0, none⟩))) (go_keep) (first
        | (go_at_call 37; refine (jBegin (HJr.out _ (by exact ⟨rfl, rfl, rfl, rfl⟩)) idx hfi (by omega) (by omega)).mono ?_; rintro e w7 ⟨rfl, k7, rfl⟩; rw [HIM.out, HA.out])
        | (go_at_call 36; refine (dRead (HDr.out _ (by exact ⟨rfl, rfl, rfl, rfl⟩)) hs0 hs1 hsn hm).mono ?_; rintro e w8 ⟨b8, c8, rfl, hb8, hbp8, hbel8⟩; rw [HLEN.out]; have hbel9 : Below wr.heap.size wr w8 := ⟨hbel8.os, hbel8.tape, hbel8.output, hbel8.size, hbel8.block⟩; have k0 := pw_cell_below hbel9 hc0)
        | fail)
      have hsl := HLEN.out
      have HR8 : RowKit.Hid (ReadsInt w8 .u8 (some ⟨b8, 0, none⟩) sz (cont s)) := Lib.hid (by have h := hbp8.reads (by omega); rw [hsl] at h; exact h)
      have HO8 : RowKit.Hid (w8.ownsRow w.heap.size 5 1 (.slice A L c) bs.length (nums .u8 bs)) := Lib.hid (by rw [HBL.out]; exact own_move HOWN.out (fun k hk => hbel9.block k (by have := own_lt HOWN.out k hk; simpa using this)))
      have HB8 : RowKit.Hid (Below w.heap.size w w8) := Lib.hid ⟨hbel9.os.trans HBEL.out.os, hbel9.tape.trans HBEL.out.tape, hbel9.output.trans HBEL.out.output, Nat.le_trans HBEL.out.size hbel9.size, fun i hi => (hbel9.block i (Nat.lt_of_lt_of_le hi HBEL.out.size)).trans (HBEL.out.block i hi)⟩
      clear hbp8 hb8 hbel8 hbel9 hsl
      go_wp2_with (at_builtin; refine print_append_row (w0 := w) w.heap.size rfl _ _ 39 5 .u8 1 rfl Tryd.underlying39 info5 (by decide) (.slice A L c) bs (cont s) (some ⟨b8, 0, none⟩) sz c8 rfl rfl HO8.out HR8.out HB8.out HB8.out.size (by rw [HBL.out]; omega) ?_; intro v1 w9 ho9 hb9 hg9 hat9; have HO9 := Lib.hid ho9; have HB9 := Lib.hid hb9; clear ho9 hb9 hg9 hat9)
      go_roundw
      case rel => exact ⟨i + 1, (bs ++ cont s).length, bs ++ cont s, by omega, by simp, by rw [secB_succ, HBS.out, HS.out], rfl, by rw [List.length_append, HBL.out, HL.out, HLEN.out, Nat.succ_mul], HO9.out, HB9.out⟩
      case measure => simp [intOf]; omega
    · have hlti : ¬ (i : Int) < (rm : Int) := by omega
      have hie : RowKit.Hid (i = rm) := Lib.hid (by omega)
      go_wp2
      go_ret2
      have h1 := HBS.out
      rw [hie.out] at h1
      refine ⟨.slice A L c, rfl, ?_, HBEL.out⟩
      rw [← h1, HBL.out]
      exact HOWN.out
end Go.Proofs.YtapapedpecpfgaaDoor.J
