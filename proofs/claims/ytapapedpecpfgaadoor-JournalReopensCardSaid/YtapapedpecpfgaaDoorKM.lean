/- A journal on a disk; what its getters say. -/
import Derived.Test.YtapapedpecpfgaaDoorKL
set_option linter.unusedVariables false
set_option linter.unusedSimpArgs false
namespace Go.Proofs.YtapapedpecpfgaaDoor.J
open Go.RowKit Go.Proofs.YtapapedpecpfgaaDoorW.PrintWords

/-- A journal at j, of state x, on a disk at d with these contents; all of its memory from B0 on. -/
def JOn (w : World) (B0 j d fi rm sz n : Nat) (x : Hf) (cont : Nat → List Int) : Prop :=
  ∃ rv R E F, JHd w j d fi rm x.ep x.ba x.us x.la rv false ∧ DiskAt w d sz n cont 0 F ∧ RecsAt w R E rv x.rs ∧ (∀ k, F k → ¬ R k ∧ ¬ E k) ∧ ¬ F j ∧ ¬ R j ∧ ¬ E j ∧ B0 ≤ j ∧ (∀ k, F k → B0 ≤ k) ∧ (∀ k, R k → B0 ≤ k) ∧ (∀ k, E k → B0 ≤ k)
theorem JOn.chg {w w' : World} {B0 j d fi rm sz n : Nat} {x : Hf} {cont : Nat → List Int} (h : JOn w B0 j d fi rm sz n x cont) (hc : Chg (fun _ => False) w w') : JOn w' B0 j d fi rm sz n x cont := by
  obtain ⟨rv, R, E, F, h1, h2, h3, h4⟩ := h
  exact ⟨rv, R, E, F, h1.chg hc (fun h => h), h2.chg hc (fun _ _ _ h => h), h3.chg hc (fun _ _ h => h) (fun _ _ h => h), h4⟩
/-- Opened again: a journal of the same state. -/
theorem jOpenJ {w : World} {B0 j d fi cnt rm sz n : Nat} {x : Hf} {cont : Nat → List Int} (h : JOn w B0 j d fi rm sz n x cont) (hi : Inv sz fi rm n cont x) (hs0 : 64 ≤ sz) (hs1 : sz ≤ 1000) (hc4 : 4 ≤ cnt) (hcn : fi + cnt ≤ n) (hn : n ≤ 65536) (hrm : cnt / 2 = rm) (hrm1 : rm ≤ 100) (hk : Kst w) :
    Calls Tryd.prog 10 #[.pointer (some ⟨d, 0, none⟩), .int .i64 fi, .int .i64 cnt] w (fun e w' => ∃ j', e = .returned (.tuple #[.pointer (some ⟨j', 0, none⟩), .int .i64 0]) ∧ JOn w' B0 j' d fi rm sz n x cont ∧ w.heap.size ≤ j' ∧ Chg (fun _ => False) w w') := by
  obtain ⟨rv, R, E, F, h1, h2, h3, h4, h5, h6, h7, h8, h9, h10, h11⟩ := h
  obtain ⟨h0, h1', he0, he1, hx⟩ := hi.opens (by omega)
  have hb := h2.inF.1
  refine (jOpen h2 hs0 hs1 hc4 hcn hn hrm hrm1 (by omega) (fun s hs => hi.byt s hs) he0 he1 hk).mono ?_
  rintro e w' ⟨j', rv', R', E', rfl, hj, hjd, hr, hR, hE, hc⟩
  rw [hx] at hjd hr
  have hBs : B0 ≤ w.heap.size := Nat.le_of_lt (Nat.lt_of_le_of_lt h8 (blk_lt h1))
  exact ⟨j', rfl, ⟨rv', R', E', fun k => F k ∧ k < w.heap.size, hjd, (h2.fit.mono (fun k _ h => ⟨h.1, h.2.1⟩)).chg hc (fun _ _ _ h => h), hr, fun k h => ⟨fun e => by have := (hR k e).1; omega, fun e => by have := (hE k e).1; omega⟩, fun h => by omega, fun h => (hR _ h).2 rfl, fun h => (hE _ h).2 rfl, by omega, fun k h => h9 k h.1, fun k h => by have := (hR k h).1; omega, fun k h => by have := (hE k h).1; omega⟩, hj, hc⟩
end Go.Proofs.YtapapedpecpfgaaDoor.J
