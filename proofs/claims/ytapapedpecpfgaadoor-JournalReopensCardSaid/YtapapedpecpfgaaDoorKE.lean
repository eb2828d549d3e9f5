/- What Open finds. -/
import Derived.Test.YtapapedpecpfgaaDoorKD
set_option linter.unusedVariables false
set_option linter.unusedSimpArgs false
namespace Go.Proofs.YtapapedpecpfgaaDoor.J
open Go.RowKit Go.Proofs.YtapapedpecpfgaaDoorW.PrintWords

def zeroH : Hf := ⟨0, 0, 0, { data := #[] }, []⟩
/-- From h on the bytes of half i lead to hf. -/
inductive Ends (sz : Nat) (b : List Int) (i : Nat) : Hf → Hf → Prop where
  | stop (h : Hf) (hd : decF sz h (b.drop (h.us * sz)) = none) : Ends sz b i h h
  | step (h h' hf : Hf) (hd : decF sz h (b.drop (h.us * sz)) = some h') (hp : h'.ep % 2 = i) (he : Ends sz b i h' hf) : Ends sz b i h hf

structure Wf (sz rm : Nat) (h : Hf) : Prop where
  ep : h.ep < 4294967296
  ba : h.ba ≤ h.us
  us : h.us ≤ rm
  la : h.la.size ≤ 32
  rs : h.rs.length * 4 ≤ h.us * sz
theorem wf_zero (sz rm : Nat) : Wf sz rm zeroH := ⟨by decide, by decide, Nat.zero_le _, by decide, by simp [zeroH]⟩
theorem lenF_ge : ∀ rs : List (List Int), rs.length * 4 ≤ lenF rs
  | [] => by simp
  | r :: rs => by
    have := lenF_ge rs
    simp only [lenF, List.length_cons]
    omega
theorem ceil_mul {a sz : Nat} (h : 0 < sz) : a ≤ (a + sz - 1) / sz * sz := by
  have h1 := Nat.div_add_mod (a + sz - 1) sz
  have h2 := Nat.mod_lt (a + sz - 1) h
  rw [Nat.mul_comm] at h1
  omega
theorem ceil_le {a k sz : Nat} (h : 0 < sz) (ha : a ≤ k * sz) : (a + sz - 1) / sz ≤ k := by
  have : (a + sz - 1) / sz < k + 1 := by
    rw [Nat.div_lt_iff_lt_mul h, Nat.succ_mul]
    omega
  omega

theorem decF_wf {sz rm : Nat} {h h' : Hf} {b : List Int} (hs : 0 < sz) (hw : Wf sz rm h) (hb : ∀ x ∈ b, 0 ≤ x ∧ x ≤ 255) (hl : b.length = (rm - h.us) * sz) (hd : decF sz h b = some h') : Wf sz rm h' ∧ h.us < h'.us := by
  unfold decF at hd
  split at hd
  · cases hd
  · rename_i h40
    split at hd
    · cases hd
    · rename_i rs a hp
      split at hd
      · cases hd
      · injection hd with hd
        subst hd
        obtain ⟨p1, p2, p3, p4⟩ := parseF_le _ 40 hp (by omega)
        have hc := ceil_mul (a := a) hs
        have hk := ceil_le (a := a) (k := rm - h.us) hs (by omega)
        have hge := lenF_ge rs
        have hpos : 0 < (a + sz - 1) / sz := by
          rcases Nat.eq_zero_or_pos ((a + sz - 1) / sz) with e | e
          · rw [e] at hc
            omega
          · exact e
        obtain ⟨w1, w2, w3, w4, w5⟩ := hw
        refine ⟨⟨?_, ?_, ?_, ?_, ?_⟩, ?_⟩
        · have := (numAt_range b 32 hb).2
          have := (numAt_range b 32 hb).1
          show (numAt b 32).toNat < 4294967296
          omega
        · show h.ba + 1 ≤ h.us + (a + sz - 1) / sz
          omega
        · show h.us + (a + sz - 1) / sz ≤ rm
          omega
        · show (strOfNums (b.take 32)).size ≤ 32
          rw [strOfNums_size, List.length_take]
          omega
        · show (h.rs ++ rs).length * 4 ≤ (h.us + (a + sz - 1) / sz) * sz
          rw [List.length_append, Nat.add_mul, Nat.add_mul]
          omega
        · show h.us < h.us + (a + sz - 1) / sz
          omega
end Go.Proofs.YtapapedpecpfgaaDoor.J
