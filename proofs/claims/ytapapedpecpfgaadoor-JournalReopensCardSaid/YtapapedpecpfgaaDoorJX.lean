/- Records that are read; the length of a batch. -/
import Derived.Test.YtapapedpecpfgaaDoorJW
set_option linter.unusedVariables false
set_option linter.unusedSimpArgs false
namespace Go.Proofs.YtapapedpecpfgaaDoor.J
open Go.RowKit Go.Proofs.YtapapedpecpfgaaDoorW.PrintWords

/-- A record that is read: its slice's value, its blocks in P. -/
def RdRec (w : World) (P : Nat → Prop) (v : Value) (rs : List Int) : Prop := ∃ A c, v = .slice A rs.length c ∧ rs.length ≤ c ∧ ReadsInt w .u8 A rs.length rs ∧ ∀ ad, A = some ad → 0 < rs.length → P ad.block
/-- Records that are read. -/
def RdRecs (w : World) (P : Nat → Prop) (A : Option Addr) (n : Nat) (rss : List (List Int)) : Prop :=
  rss.length = n ∧ (0 < n → ∃ ad, A = some ad ∧ P ad.block ∧ ∀ i, i < n → ∃ v, w.cell? (ad.add i) = some v ∧ RdRec w P v (rss.getD i []))
theorem RdRec.chg {w w' : World} {P S : Nat → Prop} {v : Value} {rs : List Int} (h : RdRec w P v rs) (hc : Chg S w w') (hS : ∀ k, P k → ¬ S k) : RdRec w' P v rs := by
  obtain ⟨A, c, e, hl, hr, hP⟩ := h
  refine ⟨A, c, e, hl, ?_, hP⟩
  obtain ⟨h1, h2, h3⟩ := hr
  refine ⟨h1, h2, fun h0 => ?_⟩
  obtain ⟨ad, rfl, hcl⟩ := h3 h0
  refine ⟨ad, rfl, fun j hj => hc.cell (hcl j hj) ?_⟩
  rw [show (ad.add j).block = ad.block by unfold Addr.add; split <;> rfl]
  exact hS _ (hP ad rfl h0)
theorem RdRecs.chg {w w' : World} {P S : Nat → Prop} {A : Option Addr} {n : Nat} {rss : List (List Int)} (h : RdRecs w P A n rss) (hc : Chg S w w') (hS : ∀ k, P k → ¬ S k) : RdRecs w' P A n rss := by
  obtain ⟨hl, h⟩ := h
  refine ⟨hl, fun h0 => ?_⟩
  obtain ⟨ad, e, hP, h⟩ := h h0
  refine ⟨ad, e, hP, fun i hi => ?_⟩
  obtain ⟨v, hv, hr⟩ := h i hi
  refine ⟨v, hc.cell hv ?_, hr.chg hc hS⟩
  rw [show (ad.add i).block = ad.block by unfold Addr.add; split <;> rfl]
  exact hS _ hP

/-- The bytes of a batch of records. -/
def lenF : List (List Int) → Nat
  | [] => 0
  | r :: rs => 4 + r.length + lenF rs
theorem lenF_append (a b : List (List Int)) : lenF (a ++ b) = lenF a + lenF b := by
  induction a with
  | nil => simp [lenF]
  | cons r a ih => simp [lenF, ih]; omega
theorem lenF_take (rss : List (List Int)) (i : Nat) (hi : i < rss.length) : lenF (rss.take (i + 1)) = lenF (rss.take i) + (4 + (rss.getD i []).length) := by
  rw [List.take_add_one, lenF_append]
  simp [lenF, List.getElem?_eq_getElem hi, List.getD_eq_getElem?_getD]
theorem lenF_take_le (rss : List (List Int)) (i : Nat) : lenF (rss.take i) ≤ lenF rss := by
  conv => rhs; rw [← List.take_append_drop i rss, lenF_append]
  omega

set_option maxRecDepth 100000 in
set_option maxHeartbeats 400000 in
theorem jLen {w : World} {P : Nat → Prop} {A : Option Addr} {n c : Nat} {rss : List (List Int)} (h : RdRecs w P A n rss) (hc : n ≤ c) (hn : n ≤ 1000) (hl : lenF rss ≤ 1000000) :
    Calls Tryd.prog 43 #[.slice A n c] w (fun e w' => e = .returned (.int .i64 ((40 + lenF rss : Nat) : Int)) ∧ w' = w) := by
  have H := Lib.hid h
  have HL := Lib.hid h.1
  clear h
  go_enter Tryd.func43, Tryd.ntmps43
  go_wp2
  go_loopw [3, 8] (fun tv iv wr => ∃ i : Nat, i ≤ n ∧ tv = .int .i64 ((40 + lenF (rss.take i) : Nat) : Int) ∧ iv = .int .i64 i ∧ w = wr) (fun _ iv _ => n - (intOf iv).toNat)
  case atStart => exact ⟨0, by omega, rfl, rfl, rfl⟩
  case round =>
    obtain ⟨i, hi, rfl, rfl, rfl⟩ := hrel
    by_cases hin : i < n
    · have hlt : (i : Int) < (n : Int) := by omega
      obtain ⟨ad, rfl, _, hcl⟩ := H.out.2 (by omega)
      obtain ⟨v, hv, A', c', rfl, hrl, hrr, _⟩ := hcl i hin
      have HRR := Lib.hid hrr
      have hle := lenF_take rss i (by rw [HL.out]; exact hin)
      have hle2 := lenF_take_le rss (i + 1)
      have HLE := Lib.hid hle
      have hadd : ((40 + lenF (rss.take i) : Nat) : Int) + (4 + (((rss.getD i []).length : Nat) : Int)) = ((40 + lenF (rss.take (i + 1)) : Nat) : Int) := by omega
      obtain ⟨q, hq⟩ : ∃ q, lenF (rss.take i) = q := ⟨_, rfl⟩
      obtain ⟨l, hll⟩ : ∃ l, (rss.getD i []).length = l := ⟨_, rfl⟩
      obtain ⟨q2, hq2⟩ : ∃ q, lenF (rss.take (i + 1)) = q := ⟨_, rfl⟩
      rw [hq, hll, hq2] at hadd
      rw [hq] at *
      rw [hll] at hv
      have HQ2 := Lib.hid hq2
      clear hcl hrr hrl hle hq hll
      go_wp2
      exact ⟨⟨i + 1, by omega, by rw [HQ2.out]; first | rfl | (congr 1; done) | (congr 1; omega), by simp, trivial⟩, by simp [intOf]; omega⟩
    · have hlt : ¬ (i : Int) < (n : Int) := by omega
      have hie : rss.take i = rss := List.take_of_length_le (by rw [HL.out]; omega)
      rw [hie]
      go_wp2
      go_ret
      exact ⟨rfl, rfl⟩
end Go.Proofs.YtapapedpecpfgaaDoor.J
