/- The two halves behind an operation. -/
import Derived.Test.YtapapedpecpfgaaDoorKJ
set_option linter.unusedVariables false
set_option linter.unusedSimpArgs false
namespace Go.Proofs.YtapapedpecpfgaaDoor.J
open Go.RowKit Go.Proofs.YtapapedpecpfgaaDoorW.PrintWords

theorem numAt_congr {b b' : List Int} {k : Nat} (h : ∀ j, j < 4 → b[k + j]? = b'[k + j]?) : numAt b k = numAt b' k := by
  unfold numAt
  have h0 := h 0 (by omega)
  rw [Nat.add_zero] at h0
  rw [h0, h 1 (by omega), h 2 (by omega), h 3 (by omega)]
theorem cut_congr {b b' : List Int} {a k : Nat} (h : ∀ j, j < k → b[a + j]? = b'[a + j]?) : (b.drop a).take k = (b'.drop a).take k := by
  apply List.ext_getElem?
  intro j
  rw [List.getElem?_take, List.getElem?_take]
  split
  · rename_i hj
    rw [List.getElem?_drop, List.getElem?_drop, h j hj]
  · rfl
theorem parse_loc {b b' : List Int} : ∀ (n a : Nat) {rs : List (List Int)} {e : Nat}, parseF b n a = some (rs, e) → a ≤ b.length → (∀ i, i < e → b[i]? = b'[i]?) → e ≤ b'.length → parseF b' n a = some (rs, e)
  | 0, a, rs, e, h, _, _, _ => h
  | n + 1, a, rs, e, h, ha, hb, he => by
    have hle := parseF_le (n + 1) a h ha
    unfold parseF at h
    split at h
    · cases h
    · split at h
      · cases h
      · rename_i h1 h2
        obtain ⟨⟨rs', e'⟩, hp, hq⟩ := Option.map_eq_some_iff.1 h
        simp only [Prod.mk.injEq] at hq
        obtain ⟨rfl, rfl⟩ := hq
        have hl2 := parseF_le n _ hp (by omega)
        have hn : numAt b a = numAt b' a := numAt_congr (fun j hj => hb _ (by omega))
        have ih := parse_loc n _ hp (by omega) hb he
        rw [parseF, if_neg (by omega), ← hn, if_neg (by omega), ih]
        simp only [Option.map_some]
        congr 2
        rw [cut_congr (fun j hj => hb _ (by omega))]
theorem decF_us {sz : Nat} {h h' : Hf} {b : List Int} (hs : 0 < sz) (hd : decF sz h b = some h') : ∃ rs a, parseF b (numAt b 36).toNat 40 = some (rs, a) ∧ ¬ b.length < 40 ∧ h'.us = h.us + (a + sz - 1) / sz ∧ 40 ≤ a ∧ a ≤ b.length ∧ h'.ba = h.ba + 1 ∧ h.us ≤ h'.us := by
  unfold decF at hd
  split at hd
  · cases hd
  · rename_i h40
    split at hd
    · cases hd
    · rename_i rs a hp
      split at hd
      · cases hd
      · injection hd with hd
        subst hd
        obtain ⟨p1, p2, p3, p4⟩ := parseF_le _ 40 hp (by omega)
        exact ⟨rs, a, hp, h40, rfl, p1, p2, rfl, Nat.le_add_right _ _⟩
theorem decF_loc {sz : Nat} {h h' : Hf} {b b' : List Int} (hs : 0 < sz) (hd : decF sz h b = some h') (hb : ∀ i, i < (h'.us - h.us) * sz → b[i]? = b'[i]?) (hl : (h'.us - h.us) * sz ≤ b'.length) : decF sz h b' = some h' := by
  obtain ⟨rs, a, hp, h40, hu, ha, hal, _, _⟩ := decF_us hs hd
  have hc := ceil_mul (a := a) hs
  have hk : h'.us - h.us = (a + sz - 1) / sz := by rw [hu]; exact Nat.add_sub_cancel_left ..
  rw [hk] at hb hl
  have hag : ∀ i, i < a → b[i]? = b'[i]? := fun i hi => hb i (by omega)
  have hN : numAt b 36 = numAt b' 36 := numAt_congr (fun j hj => hag _ (by omega))
  have hE : numAt b 32 = numAt b' 32 := numAt_congr (fun j hj => hag _ (by omega))
  have hp' := parse_loc _ 40 hp (by omega) hag (by omega)
  have ht : ∀ k, k ≤ a → b.take k = b'.take k := fun k hk => by
    have := cut_congr (b := b) (b' := b') (a := 0) (k := k) (fun j hj => hag _ (by omega))
    simpa using this
  unfold decF at hd ⊢
  rw [if_neg h40, hp] at hd
  rw [if_neg (by omega), ← hN, hp']
  simp only at hd ⊢
  rw [← hE, ← ht 32 (by omega), ← ht a (Nat.le_refl _)]
  exact hd
theorem Ends.mono {sz i : Nat} {b : List Int} {h x : Hf} (hs : 0 < sz) (he : Ends sz b i h x) : h.us ≤ x.us := by
  induction he with
  | stop h hd => exact Nat.le_refl _
  | step h h' hf hd hp he ih =>
    obtain ⟨_, _, _, _, _, _, _, _, hu⟩ := decF_us hs hd
    omega
theorem Ends.loc {sz i : Nat} {b b' : List Int} {h x y : Hf} (hs : 0 < sz) (he : Ends sz b i h x) (hb : ∀ j, j < x.us * sz → b[j]? = b'[j]?) (hl : x.us * sz ≤ b'.length) (hy : Ends sz b' i x y) : Ends sz b' i h y := by
  induction he with
  | stop h hd => exact hy
  | step h h' hf hd hp he ih =>
    have hm := he.mono hs
    obtain ⟨_, _, _, _, _, _, _, _, hu⟩ := decF_us hs hd
    have hmul : h'.us * sz ≤ hf.us * sz := Nat.mul_le_mul_right _ hm
    have hsub : (h'.us - h.us) * sz + h.us * sz = h'.us * sz := by rw [← Nat.add_mul]; congr 1; omega
    refine .step h h' y (decF_loc hs hd (fun j hj => ?_) (by rw [List.length_drop]; omega)) hp (ih hb hl hy)
    rw [List.getElem?_drop, List.getElem?_drop]
    exact hb _ (by omega)
theorem Ends.ba {sz i : Nat} {b : List Int} {h x : Hf} (hs : 0 < sz) (he : Ends sz b i h x) : x = h ∨ 0 < x.ba := by
  induction he with
  | stop h hd => exact .inl rfl
  | step h h' hf hd hp he ih =>
    obtain ⟨_, _, _, _, _, _, _, hb, _⟩ := decF_us hs hd
    rcases ih with e | e
    · exact .inr (by rw [e]; omega)
    · exact .inr e

theorem dec_zero {sz : Nat} {h : Hf} {T : List Int} (hs : 64 ≤ sz) (hT : Byts (List.replicate sz 0 ++ T)) : decF sz h (List.replicate sz 0 ++ T) = none := by
  have hn : numAt (List.replicate sz 0 ++ T) 36 = 0 := by
    have e : ∀ k, k < 64 → (List.replicate sz (0 : Int) ++ T)[k]? = some 0 := fun k hk => by
      rw [List.getElem?_append_left (by simp; omega)]
      simp [List.getElem?_replicate]
      omega
    rw [numAt_val _ _ hT, e 36 (by omega), e 37 (by omega), e 38 (by omega), e 39 (by omega)]
    rfl
  exact decF_bad (by simp; omega) (by rw [hn]; rfl) (.inl (by rw [hn]; rfl))
theorem dec_nil {sz : Nat} {h : Hf} : decF sz h [] = none := rfl
/-- A batch behind what is there. -/
theorem half_step {sz p ep : Nat} {hd : Hf} {pre T : List Int} {rss : List (List Int)} (hs : 64 ≤ sz) (hr : Recs rss) (hT : Byts T) (hep : ep < 4294967296) (hn : rss.length < 4294967296) (h0 : rss ≠ []) (hc : 0 < hd.ba → ep = hd.ep) (hp : ep % 2 = p) (hl : pre.length = hd.us * sz)
    (hz : T = [] ∨ ∃ T', T = List.replicate sz 0 ++ T') : Ends sz (pre ++ encF sz hd.la hd.us ep rss ++ T) p hd (nextH sz hd ep rss) := by
  have e1 : (pre ++ encF sz hd.la hd.us ep rss ++ T).drop (hd.us * sz) = encF sz hd.la hd.us ep rss ++ T := by
    rw [← hl, List.append_assoc, List.drop_left]
  have e2 : (pre ++ encF sz hd.la hd.us ep rss ++ T).drop ((nextH sz hd ep rss).us * sz) = T := by
    have : (pre ++ encF sz hd.la hd.us ep rss).length = (nextH sz hd ep rss).us * sz := by
      rw [List.length_append, enc_len (by omega), hl, ← Nat.add_mul]
      rfl
    rw [← this, List.drop_left]
  refine .step hd _ _ (by rw [e1]; exact dec_enc hr hT hep hn h0 hc) hp (.stop _ ?_)
  rw [e2]
  rcases hz with rfl | ⟨T', rfl⟩
  · exact dec_nil
  · exact dec_zero hs hT

theorem secB_add (cont : Nat → List Int) (a k l : Nat) : secB cont a (k + l) = secB cont a k ++ secB cont (a + k) l := by
  induction l with
  | zero => simp [secB]
  | succ l ih => rw [← Nat.add_assoc, secB_succ, ih, secB_succ, List.append_assoc]; congr 3; omega
theorem secB_congr {cont cont' : Nat → List Int} {a : Nat} : ∀ k, (∀ i, i < k → cont (a + i) = cont' (a + i)) → secB cont a k = secB cont' a k
  | 0, _ => by simp [secB]
  | k + 1, h => by rw [secB_succ, secB_succ, secB_congr k (fun i hi => h i (by omega)), h k (by omega)]
theorem cut_take {B : List Int} {sz : Nat} : ∀ k, k * sz ≤ B.length → (List.range k).flatMap (cutP B sz) = B.take (k * sz)
  | 0, _ => by simp
  | k + 1, h => by
    rw [Nat.succ_mul] at h
    rw [List.range_succ, List.flatMap_append, cut_take k (by omega), Nat.succ_mul]
    simp only [List.flatMap_cons, List.flatMap_nil, List.append_nil]
    unfold cutP
    rw [List.take_add]
theorem cut_all {B : List Int} {sz k : Nat} (h : B.length = k * sz) : (List.range k).flatMap (cutP B sz) = B := by
  rw [cut_take k (by omega), ← h, List.take_length]
end Go.Proofs.YtapapedpecpfgaaDoor.J
