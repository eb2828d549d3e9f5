/- The list of operations; small. -/
import Derived.Test.YtapapedpecpfgaaDoorKP
set_option linter.unusedVariables false
set_option linter.unusedSimpArgs false
namespace Go.Proofs.YtapapedpecpfgaaDoor.J
open Go.RowKit Go.Proofs.YtapapedpecpfgaaDoorW.PrintWords

def op0 : OpV := ⟨0, []⟩
def OpsAt (w : World) (P : Nat → Prop) (A : Option Addr) (n : Nat) (ops : List OpV) : Prop :=
  ops.length = n ∧ ∀ i, i < n → ∃ ad A1 n1 c1 N v3, A = some ad ∧ P ad.block ∧ w.cell? (ad.add (i * 4)) = some (.int .i64 (ops.getD i op0).kind) ∧ w.cell? ⟨(ad.add (i * 4)).block, (ad.add (i * 4)).off + 1, none⟩ = some (.slice A1 n1 c1) ∧
    w.cell? ⟨(ad.add (i * 4)).block, (ad.add (i * 4)).off + 2, none⟩ = some N ∧ w.cell? ⟨(ad.add (i * 4)).block, (ad.add (i * 4)).off + 3, none⟩ = some v3 ∧ n1 ≤ c1 ∧ RdRecs w P A1 n1 (ops.getD i op0).batch
theorem OpsAt.chg {w w' : World} {P S : Nat → Prop} {A : Option Addr} {n : Nat} {ops : List OpV} (h : OpsAt w P A n ops) (hc : Chg S w w') (hS : ∀ k, P k → ¬ S k) : OpsAt w' P A n ops := by
  obtain ⟨hl, h⟩ := h
  refine ⟨hl, fun i hi => ?_⟩
  obtain ⟨ad, A1, n1, c1, N, v3, e, hp, h0, h1, h2, h3, h4, h5⟩ := h i hi
  have hb : ¬ S (ad.add (i * 4)).block := by rw [show (ad.add (i * 4)).block = ad.block by unfold Addr.add; split <;> rfl]; exact hS _ hp
  exact ⟨ad, A1, n1, c1, N, v3, e, hp, hc.cell h0 hb, hc.cell h1 hb, hc.cell h2 hb, hc.cell h3 hb, h4, h5.chg hc hS⟩
theorem get_some (l : List (List Int)) (k : Nat) (h : k < l.length) : l[k]? = some (l.getD k []) := by
  rw [List.getD_eq_getElem?_getD, List.getElem?_eq_getElem h]
  rfl
def SmallOp (o : OpV) : Prop := o.batch.length ≤ 4 ∧ ∀ r ∈ o.batch, r.length ≤ 300
def SmallPost (w : World) (n : Nat) (ops : List OpV) (size cnt : Int) (e : Ending) (w' : World) : Prop := w' = w ∧ ∃ b : Bool, e = .returned (.bool b) ∧ (b = true → 64 ≤ size ∧ size ≤ 100 ∧ 4 ≤ cnt ∧ cnt ≤ 24 ∧ n ≤ 30 ∧ ∀ i, i < n → SmallOp (ops.getD i op0))
def SmRel (w : World) (n : Nat) (ops : List OpV) (iv : Value) (wr : World) : Prop := ∃ i : Nat, i ≤ n ∧ iv = .int .i64 i ∧ wr = w ∧ ∀ q, q < i → SmallOp (ops.getD q op0)
def SmRel2 (w : World) (n1 : Nat) (b : List (List Int)) (kv : Value) (wr : World) : Prop := ∃ k : Nat, k ≤ n1 ∧ kv = .int .i64 k ∧ wr = w ∧ ∀ r ∈ b.take k, r.length ≤ 300
set_option maxRecDepth 100000 in
set_option maxHeartbeats 4000000 in
theorem jSmall {w : World} {P : Nat → Prop} {A : Option Addr} {n c : Nat} {ops : List OpV} {size cnt : Int} (h : OpsAt w P A n ops) (hn : n ≤ 9223372036854775807) :
    Calls Tryd.prog 8 #[.int .i64 size, .int .i64 cnt, .slice A n c] w (SmallPost w n ops size cnt) := by
  obtain ⟨hl, hc⟩ := h
  have HC := Lib.hid hc
  clear hc
  go_enter Tryd.func8, Tryd.ntmps8
  go_wp2
  go_loopw [7] (fun iv wr => SmRel w n ops iv wr) (fun iv _ => n - (intOf iv).toNat)
  case atStart => exact ⟨0, Nat.zero_le _, rfl, rfl, fun q hq => by omega⟩
  case round =>
    obtain ⟨i, hi, rfl, rfl, hsm⟩ := hrel
    have HSM := Lib.hid hsm
    clear hsm
    by_cases hlt : i < n
    · have hlti : (i : Int) < (n : Int) := by omega
      obtain ⟨ad, A1, n1, c1, N, v3, rfl, _, h0, h1, h2, h3, h4, h5⟩ := HC.out i hlt
      have HR := Lib.hid h5
      have HL := Lib.hid h5.1
      clear h5
      by_cases hb : n1 ≤ 4
      · have hbi : ¬ (4 : Int) < (n1 : Int) := by omega
        go_wp2
        go_loopw [8] (fun kv w2 => SmRel2 wr n1 (ops.getD i op0).batch kv w2) (fun kv _ => n1 - (intOf kv).toNat)
        case atStart => exact ⟨0, Nat.zero_le _, rfl, rfl, fun r hr => by simp at hr⟩
        case round =>
          obtain ⟨k, hk, rfl, rfl, hrs⟩ := hrel
          have HRS := Lib.hid hrs
          clear hrs
          by_cases hlk : k < n1
          · have hlki : (k : Int) < (n1 : Int) := by omega
            obtain ⟨ad1, rfl, _, hcr⟩ := HR.out.2 (by omega)
            obtain ⟨v, hv, A2, c2, rfl, _⟩ := hcr k hlk
            obtain ⟨rl, hrl⟩ : ∃ rl, ((ops.getD i op0).batch.getD k []).length = rl := ⟨_, rfl⟩
            rw [hrl] at hv
            have HRL := Lib.hid hrl
            clear hcr hrl
            by_cases hr3 : rl ≤ 300
            · have hr3i : ¬ (300 : Int) < (rl : Int) := by omega
              go_wp2
              go_roundw
              case rel =>
                refine ⟨k + 1, by omega, by simp, rfl, fun r hr => ?_⟩
                have hg : (ops.getD i op0).batch[k]? = some ((ops.getD i op0).batch.getD k []) := get_some _ k (by rw [HL.out]; exact hlk)
                rw [List.take_add_one, hg] at hr
                rcases List.mem_append.1 hr with hr | hr
                · exact HRS.out r hr
                · simp only [Option.toList_some, List.mem_singleton] at hr
                  rw [hr, HRL.out]
                  exact hr3
              case measure => simp [intOf]; omega
            · have hr3i : (300 : Int) < (rl : Int) := by omega
              go_wp2
              go_ret
              exact ⟨rfl, false, rfl, fun h => by cases h⟩
          · have hlki : ¬ (k : Int) < (n1 : Int) := by omega
            have HKE : RowKit.Hid (k = n1) := Lib.hid (by omega)
            go_wp2
            go_roundw
            case rel =>
              refine ⟨i + 1, by omega, by simp, rfl, fun q hq => ?_⟩
              by_cases e : q < i
              · exact HSM.out q e
              · obtain rfl : q = i := by omega
                refine ⟨by rw [HL.out]; exact hb, fun r hr => HRS.out r ?_⟩
                rw [List.take_of_length_le (by rw [HL.out, HKE.out]; exact Nat.le_refl _)]
                exact hr
            case measure => simp [intOf]; omega
      · have hbi : (4 : Int) < (n1 : Int) := by omega
        go_wp2
        go_ret
        exact ⟨rfl, false, rfl, fun h => by cases h⟩
    · have hlti : ¬ (i : Int) < (n : Int) := by omega
      have HIE : RowKit.Hid (i = n) := Lib.hid (by omega)
      by_cases s1 : (64 : Int) ≤ size
      · by_cases s2 : size ≤ (100 : Int)
        · by_cases s3 : (4 : Int) ≤ cnt
          · by_cases s4 : cnt ≤ (24 : Int)
            · by_cases s5 : n ≤ 30
              · have s5i : (n : Int) ≤ 30 := by omega
                go_wp2
                go_ret
                refine ⟨rfl, true, by simp, fun _ => ⟨s1, s2, s3, s4, s5, fun q hq => HSM.out q (by rw [HIE.out]; exact hq)⟩⟩
              · have s5i : ¬ (n : Int) ≤ 30 := by omega
                go_wp2
                go_ret
                exact ⟨rfl, false, by simp, fun h => by cases h⟩
            · go_wp2
              go_ret
              exact ⟨rfl, false, by simp, fun h => by cases h⟩
          · go_wp2
            go_ret
            exact ⟨rfl, false, by simp, fun h => by cases h⟩
        · go_wp2
          go_ret
          exact ⟨rfl, false, by simp, fun h => by cases h⟩
      · go_wp2
        go_ret
        exact ⟨rfl, false, by simp, fun h => by cases h⟩
end Go.Proofs.YtapapedpecpfgaaDoor.J
