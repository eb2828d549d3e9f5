/- The Journal's sum. -/
import Derived.Test.YtapapedpecpfgaaDoorJU
set_option linter.unusedVariables false
set_option linter.unusedSimpArgs false
namespace Go.Proofs.YtapapedpecpfgaaDoor.J
open Go.RowKit Go.Proofs.YtapapedpecpfgaaDoorW.PrintWords

theorem StAt.cut {w : World} {s n : Nat} {v rest : List Int} {F : Nat → Prop} (h : StAt w s v rest n F) : StAt w s v rest n (fun k => F k ∧ k < w.heap.size) := by
  obtain ⟨rv, hI, hs, hr⟩ := h
  exact ⟨rv, hI, ⟨hs, blk_lt hI.blk.1⟩, fun k hk => ⟨hr k hk, own_lt hI.own k hk⟩⟩
theorem StAt.chg {w w' : World} {s n : Nat} {v rest : List Int} {F S : Nat → Prop} (h : StAt w s v rest n F) (hc : Chg S w w') (hS : ∀ k, F k → ¬ S k) : StAt w' s v rest n F := by
  obtain ⟨rv, hI, hs, hr⟩ := h
  exact ⟨rv, hI.chg hc (hS s hs) (fun k hk => hS k (hr k hk)), hs, hr⟩
theorem StAt.v8 {w : World} {s n : Nat} {v rest : List Int} {F : Nat → Prop} (h : StAt w s v rest n F) : v.length = 8 := by
  obtain ⟨rv, hI, hs, hr⟩ := h
  exact hI.blk.2
theorem Kst.chg {w w' : World} {S : Nat → Prop} (h : Kst w) (hc : Chg S w w') (hS : ¬ S 0) : Kst w' := by
  obtain ⟨t, fr, h0⟩ := h
  exact ⟨t, fr, hc.blk h0 hS⟩
theorem Kst.lt {w : World} (h : Kst w) : 0 < w.heap.size := by
  obtain ⟨t, fr, h0⟩ := h
  exact blk_lt h0
theorem Below.chg {w w' : World} (h : Below w.heap.size w w') : Chg (fun _ => False) w w' := ⟨h.os, h.tape, h.output, h.size, fun k hk _ => h.block k hk⟩

def st1 (last : ByteArray) : List Int × List Int := blocksF initF (bytesOf last)
def st2 (last : ByteArray) (us : Int) : List Int × List Int := blocksF (st1 last).1 ((st1 last).2 ++ num4 us)
def st3 (last : ByteArray) (us : Int) (xs : List Int) : List Int × List Int := blocksF (st2 last us).1 ((st2 last us).2 ++ xs)
/-- The sum of a batch. -/
def sumJ (last : ByteArray) (us : Int) (xs : List Int) : ByteArray := sumF (st3 last us xs).1 (st3 last us xs).2 (last.size + 4 + xs.length)

def SumJPost (w : World) (last : ByteArray) (us : Int) (xs : List Int) (e : Ending) (w' : World) : Prop := e = .returned (.string (sumJ last us xs)) ∧ Chg (fun _ => False) w w'

set_option maxRecDepth 100000 in
set_option maxHeartbeats 1000000 in
theorem jSum {w : World} {last : ByteArray} {us m c b off : Nat} {xs : List Int} (hx : ReadsInt w .u8 (some ⟨b, off, none⟩) m xs) (hc : m ≤ c) (hm0 : 0 < m) (hm : m ≤ 1000000) (hl : last.size ≤ 1000000) (hus : us < 4294967296) (hbw : b < w.heap.size) (hk : Kst w) :
    Calls Tryd.prog 39 #[.string last, .int .i64 us, .slice (some ⟨b, off, none⟩) m c] w (SumJPost w last us xs) := by
  have HX := Lib.hid hx
  have HK := Lib.hid hk
  have HXL := Lib.hid hx.1
  have hbs := fun W => print_bytes (P := Tryd.prog) 9 39 5 Tryd.underlying9 Tryd.underlying39 Tryd.underlying5 last W
  clear hx hk
  go_enter Tryd.func39, Tryd.ntmps39
  go_wp2_with fail
  refine (sNew).mono ?_
  rintro e w1 ⟨s, rfl, hs, hch1, hst1⟩
  have HS := Lib.hid hs
  have HC1 := Lib.hid hch1
  have HST1 := Lib.hid hst1
  clear hs hch1 hst1
  go_wp2_with fail
  have hcb : Chg (fun _ => False) w1 (Lib.bytesWorld w1 5 last) := Below.chg (bytes_below (Below.refl _ _) (Nat.le_refl _) _ last)
  have hrb : ReadsInt (Lib.bytesWorld w1 5 last) .u8 (some ⟨w1.heap.size, 0, none⟩) last.size (bytesOf last) := bytes_reads w1 5 last (by omega)
  have hzb : w1.heap.size < (Lib.bytesWorld w1 5 last).heap.size := by rw [Lib.bytesWorld_size]; omega
  refine (sWrite (b := w1.heap.size) (HST1.out.chg hcb (fun _ _ h => h)) hrb (grownCap_ge _ _ _ _) hl (by simp) (.inr rfl) (by omega) (fun e => by have e : w1.heap.size = s := e; obtain ⟨_, hI, _⟩ := HST1.out; have := blk_lt hI.blk.1; omega) hzb ((HK.out.chg HC1.out (fun h => h)).chg hcb (fun h => h)) (fun e => by have e : 0 = s := e; have := HK.out.lt; have := HS.out; omega)).mono ?_
  rintro e w2 ⟨rfl, hc2, F1, hst2, hF1⟩
  have hst2 := hst2.cut
  rw [List.nil_append] at hst2
  have hg2 : Chg (fun k => w.heap.size ≤ k) w w2 := (HC1.out.trans' hcb (U := fun k => w.heap.size ≤ k) (fun _ _ h => h.elim) (fun _ _ h => h.elim)).trans' hc2 (fun _ _ h => h) (fun k _ e => by have e : k = s := e; have := HS.out; omega)
  have hF2 : ∀ k, F1 k ∧ k < w2.heap.size → w.heap.size ≤ k := fun k ⟨hk, _⟩ => by
    rcases Nat.lt_or_ge k (Lib.bytesWorld w1 5 last).heap.size with h | h
    · have : k = s := hF1 k h hk
      have := HS.out
      omega
    · have := HC1.out.size
      omega
  generalize hF2e : (fun k => F1 k ∧ k < w2.heap.size) = F2 at hst2
  replace hF2 : ∀ k, F2 k → w.heap.size ≤ k ∧ k < w2.heap.size := fun k hk => by rw [← hF2e] at hk; exact ⟨hF2 k hk, hk.2⟩
  have hr2 := blocksF_rest initF (bytesOf last) rfl
  have hn2 : (0 : Nat) + (bytesOf last).length = last.size := by rw [bytesOf_length]; omega
  rw [hn2] at hst2
  change StAt w2 s (st1 last).1 (st1 last).2 last.size F2 at hst2
  have HST2 := Lib.hid hst2
  have HG2 := Lib.hid hg2
  have HF2 := Lib.hid hF2
  have HR2 := Lib.hid hr2
  clear hcb hrb hzb hc2 hF1 hst2 hg2 hF2 hF2e hr2 hn2 hbs
  go_wp2_with fail
  refine (jNum (B := w2.heap.size) (xs := []) (own_nil _ _ _ _) (Nat.le_refl _) (by simp) hus).mono ?_
  rintro e w3 ⟨v3, rfl, ho3, hb3⟩
  obtain ⟨g, cap, rfl, hgB, _⟩ := ho3.form (by simp [num4])
  obtain ⟨A3, c3, e3, hr3⟩ := own_reads ho3
  injection e3 with e31 e32 e33
  subst e31 e33
  rw [List.nil_append] at hr3 ho3 ⊢
  have hl4 : (num4 (us : Int)).length = 4 := rfl
  rw [hl4] at hr3 ho3 ⊢
  have hc3 := Below.chg hb3
  have hg3 : g < w3.heap.size := own_lt ho3 g rfl
  have hle3 : 4 ≤ cap := own_le ho3
  have HST3 := Lib.hid (HST2.out.chg hc3 (fun _ _ h => h))
  have HG3 := Lib.hid (HG2.out.trans' hc3 (U := fun k => w.heap.size ≤ k) (fun _ _ h => h) (fun _ _ h => h.elim))
  have HR3 := Lib.hid hr3
  have HC3 := Lib.hid hc3
  clear hr3 ho3 hb3 hc3 hl4
  go_wp2_with fail
  refine (sWrite (b := g) HST3.out HR3.out hle3 (by omega) HR2.out.1 (.inl (by omega)) (by omega) (fun hF => by have := (HF2.out g hF).2; omega) hg3 (HK.out.chg HG3.out (fun h => by have := HK.out.lt; omega)) (fun e => by have := (HF2.out _ e).1; have := HK.out.lt; omega)).mono ?_
  rintro e w4 ⟨rfl, hc4, F3, hst4, hF3⟩
  have hst4 := hst4.cut
  have hg4 : Chg (fun k => w.heap.size ≤ k) w w4 := HG3.out.trans' hc4 (fun _ _ h => h) (fun k _ e => (HF2.out k e).1)
  have hF4 : ∀ k, F3 k ∧ k < w4.heap.size → w.heap.size ≤ k := fun k ⟨hk, _⟩ => by
    rcases Nat.lt_or_ge k w3.heap.size with h | h
    · exact (HF2.out k (hF3 k h hk)).1
    · have := HG3.out.size
      omega
  generalize hF4e : (fun k => F3 k ∧ k < w4.heap.size) = F4 at hst4
  replace hF4 : ∀ k, F4 k → w.heap.size ≤ k := fun k hk => by rw [← hF4e] at hk; exact hF4 k hk
  have hr4 := blocksF_rest (st1 last).1 ((st1 last).2 ++ num4 (us : Int)) HR2.out.2
  rw [show (num4 (us : Int)).length = 4 from rfl] at hst4
  change StAt w4 s (st2 last us).1 (st2 last us).2 (last.size + 4) F4 at hst4
  change (st2 last us).2.length < 64 ∧ (st2 last us).1.length = 8 at hr4
  have HST4 := Lib.hid hst4
  have HG4 := Lib.hid hg4
  have HF4 := Lib.hid hF4
  have HR4 := Lib.hid hr4
  clear hc4 hF3 hst4 hg4 hF4 hF4e hr4
  go_wp2_with fail
  have hx4 : ReadsInt w4 .u8 (some ⟨b, off, none⟩) m xs := rd_chg HX.out HG4.out (fun ad e h => by injection e with e; subst e; have h : w.heap.size ≤ b := h; omega)
  refine (sWrite (b := b) HST4.out hx4 hc hm HR4.out.1 (.inl hm0) (by omega) (fun hF => by have := HF4.out b hF; omega) (Nat.lt_of_lt_of_le hbw HG4.out.size) (HK.out.chg HG4.out (fun h => by have := HK.out.lt; omega)) (fun e => by have := HF4.out _ e; have := HK.out.lt; omega)).mono ?_
  rintro e w5 ⟨rfl, hc5, F5, hst5, hF5⟩
  have hg5 : Chg (fun k => w.heap.size ≤ k) w w5 := HG4.out.trans' hc5 (fun _ _ h => h) (fun k _ e => HF4.out k e)
  have hr5 := blocksF_rest (st2 last us).1 ((st2 last us).2 ++ xs) HR4.out.2
  change StAt w5 s (st3 last us xs).1 (st3 last us xs).2 (last.size + 4 + xs.length) F5 at hst5
  change (st3 last us xs).2.length < 64 ∧ (st3 last us xs).1.length = 8 at hr5
  have HST5 := Lib.hid hst5
  have HG5 := Lib.hid hg5
  have HR5 := Lib.hid hr5
  clear hc5 hF5 hst5 hg5 hr5 hx4
  go_wp2_with fail
  refine (sSum HST5.out HR5.out.1 (by have := HXL.out; omega) (HK.out.chg HG5.out (fun h => by have := HK.out.lt; omega))).mono ?_
  rintro e w6 ⟨rfl, hc6⟩
  have hg6 : Chg (fun k => w.heap.size ≤ k) w w6 := HG5.out.trans' hc6 (fun _ _ h => h) (fun _ _ h => h.elim)
  have HG6 := Lib.hid (hg6.mono (T := fun _ => False) (fun k hk h => by omega))
  clear hc6 hg6
  go_wp2
  go_ret
  exact ⟨rfl, HG6.out⟩
end Go.Proofs.YtapapedpecpfgaaDoor.J
