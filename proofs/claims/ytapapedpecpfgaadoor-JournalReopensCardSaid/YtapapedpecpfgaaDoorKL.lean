/- The disk's contents between two operations. -/
import Derived.Test.YtapapedpecpfgaaDoorKK
set_option linter.unusedVariables false
set_option linter.unusedSimpArgs false
namespace Go.Proofs.YtapapedpecpfgaaDoor.J
open Go.RowKit Go.Proofs.YtapapedpecpfgaaDoorW.PrintWords

structure Inv (sz fi rm n : Nat) (cont : Nat → List Int) (x : Hf) : Prop where
  wf : Wf sz rm x
  len : ∀ s, s < n → (cont s).length = sz
  byt : ∀ s, s < n → Byts (cont s)
  cur : Ends sz (secB cont (fi + x.ep % 2 * rm) rm) (x.ep % 2) zeroH x
  oth : ∃ y, Ends sz (secB cont (fi + (1 - x.ep % 2) * rm) rm) (1 - x.ep % 2) zeroH y ∧ (y.ba = 0 ∨ y.ep < x.ep)
theorem Inv.opens {sz fi rm n : Nat} {cont : Nat → List Int} {x : Hf} (hs : 0 < sz) (h : Inv sz fi rm n cont x) :
    ∃ h0 h1, Ends sz (secB cont fi rm) 0 zeroH h0 ∧ Ends sz (secB cont (fi + rm) rm) 1 zeroH h1 ∧ (if 0 < h1.ba ∧ h0.ep < h1.ep then h1 else h0) = x := by
  obtain ⟨y, hy, hyx⟩ := h.oth
  have hc := h.cur
  rcases (show x.ep % 2 = 0 ∨ x.ep % 2 = 1 by omega) with e | e
  · rw [e] at hc hy
    simp only [Nat.zero_mul, Nat.add_zero, Nat.sub_zero, Nat.one_mul] at hc hy
    refine ⟨x, y, hc, hy, ?_⟩
    rw [if_neg (by rintro ⟨h1, h2⟩; rcases hyx with h3 | h3 <;> omega)]
  · rw [e] at hc hy
    simp only [Nat.sub_self, Nat.zero_mul, Nat.add_zero, Nat.one_mul] at hc hy
    refine ⟨y, x, hy, hc, ?_⟩
    have hxb : 0 < x.ba := by
      rcases hc.ba hs with h1 | h1
      · rw [h1] at e
        simp [zeroH] at e
      · exact h1
    have hlt : y.ep < x.ep := by
      rcases hyx with h3 | h3
      · rcases hy.ba hs with h4 | h4
        · rw [h4]
          simp only [zeroH]
          omega
        · omega
      · exact h3
    rw [if_pos ⟨hxb, hlt⟩]
theorem secB_is {cont : Nat → List Int} {f : Nat → List Int} {a : Nat} : ∀ k, (∀ i, i < k → cont (a + i) = f i) → secB cont a k = (List.range k).flatMap f
  | 0, _ => by simp [secB]
  | k + 1, h => by
    rw [secB_succ, secB_is k (fun i hi => h i (by omega)), h k (by omega), List.range_succ, List.flatMap_append]
    simp
theorem inv_zero {sz fi rm n : Nat} (hs : 64 ≤ sz) (hr : 0 < rm) : Inv sz fi rm n (fun _ => List.replicate sz 0) zeroH := by
  have hz : ∀ a, Ends sz (secB (fun _ => List.replicate sz 0) a rm) 0 zeroH zeroH ∧ Ends sz (secB (fun _ => List.replicate sz 0) a rm) 1 zeroH zeroH := fun a => by
    have hb : Byts (secB (fun _ => List.replicate sz (0 : Int)) a rm) := secB_byte rm (fun i _ => Byts.zeros sz)
    obtain ⟨T, hT⟩ : ∃ T, secB (fun _ => List.replicate sz (0 : Int)) a rm = List.replicate sz 0 ++ T := ⟨secB (fun _ => List.replicate sz (0 : Int)) (a + 1) (rm - 1), by
      have := secB_add (fun _ => List.replicate sz (0 : Int)) a 1 (rm - 1)
      rw [show 1 + (rm - 1) = rm by omega] at this
      rw [this]
      congr 1
      simp [secB]⟩
    rw [hT] at hb ⊢
    have hd : decF sz zeroH ((List.replicate sz 0 ++ T).drop (zeroH.us * sz)) = none := by
      rw [show zeroH.us * sz = 0 by simp [zeroH], List.drop_zero]
      exact dec_zero hs hb
    exact ⟨.stop _ hd, .stop _ hd⟩
  exact ⟨wf_zero _ _, fun _ _ => by simp, fun _ _ => Byts.zeros _, (hz _).1, zeroH, (hz _).2, .inl rfl⟩
theorem Byts.sub {a b : List Int} (h : Byts b) (hs : ∀ x ∈ a, x ∈ b) : Byts a := fun x hx => h x (hs x hx)
theorem get_pre {a b c : List Int} {j : Nat} (h : j < a.length) : (a ++ b)[j]? = (a ++ c)[j]? := by
  rw [List.getElem?_append_left h, List.getElem?_append_left h]

def resetH (x : Hf) : Hf := ⟨x.ep + 1, 0, 0, { data := #[] }, []⟩
theorem Inv.step {sz fi rm n nd : Nat} {cont : Nat → List Int} {x after : Hf} {rss : List (List Int)} (hi : Inv sz fi rm n cont x) (ha : after = x ∨ after = resetH x) (hs : 64 ≤ sz) (hfit : fi + 2 * rm ≤ n) (hr : Recs rss) (h0 : rss ≠ []) (hn : rss.length < 4294967296) (hep : x.ep + 1 < 4294967296)
    (hnd : (40 + lenF rss + sz - 1) / sz = nd) (hf : after.us + nd ≤ rm) :
    Inv sz fi rm n (newC cont (fi + after.ep % 2 * rm + after.us) nd (decide (after.us + nd < rm)) sz (encF sz after.la after.us after.ep rss)) (nextH sz after after.ep rss) := by
  obtain ⟨B, hB⟩ : ∃ B, encF sz after.la after.us after.ep rss = B := ⟨_, rfl⟩
  have hae : after.ep < 4294967296 := by
    rcases ha with rfl | rfl
    · omega
    · exact hep
  have hBl : B.length = nd * sz := by rw [← hB, enc_len (by omega), hnd]
  have hBb : Byts B := by rw [← hB]; exact enc_byts hr hae hn
  obtain ⟨p, hp⟩ : ∃ p, after.ep % 2 = p := ⟨_, rfl⟩
  have hp1 : p ≤ 1 := by omega
  obtain ⟨pr, hpr⟩ : ∃ pr, p * rm = pr := ⟨_, rfl⟩
  obtain ⟨qr, hqr⟩ : ∃ qr, (1 - p) * rm = qr := ⟨_, rfl⟩
  have hpq : (pr = 0 ∧ qr = rm) ∨ (pr = rm ∧ qr = 0) := by
    rcases (show p = 0 ∨ p = 1 by omega) with e | e
    · left; subst e; rw [← hpr, ← hqr]; simp
    · right; subst e; rw [← hpr, ← hqr]; simp
  obtain ⟨C, hC⟩ : ∃ C, newC cont (fi + pr + after.us) nd (decide (after.us + nd < rm)) sz B = C := ⟨_, rfl⟩
  rw [hp, hpr, hB, hC]
  have hin : ∀ i, i < nd → C (fi + pr + after.us + i) = cutP B sz i := fun i hi => by
    rw [← hC]
    unfold newC
    rw [if_pos (by omega)]
    congr 1
    omega
  have hout : ∀ i, ¬ (fi + pr + after.us ≤ i ∧ i < fi + pr + after.us + nd) → ¬ (i = fi + pr + after.us + nd ∧ after.us + nd < rm) → C i = cont i := fun i h1 h2 => by
    rw [← hC]
    unfold newC
    rw [if_neg h1, if_neg (by simpa using h2)]
  have hclr : after.us + nd < rm → C (fi + pr + after.us + nd) = List.replicate sz 0 := fun h => by
    rw [← hC]
    unfold newC
    rw [if_neg (by omega), if_pos ⟨rfl, by simpa using h⟩]
  have hlen : ∀ s, s < n → (C s).length = sz := fun s hs' => by
    by_cases h1 : fi + pr + after.us ≤ s ∧ s < fi + pr + after.us + nd
    · have := hin (s - (fi + pr + after.us)) (by omega)
      rw [show fi + pr + after.us + (s - (fi + pr + after.us)) = s by omega] at this
      rw [this]
      unfold cutP
      have hm := Nat.mul_le_mul_right sz (show s - (fi + pr + after.us) + 1 ≤ nd by omega)
      rw [Nat.succ_mul] at hm
      rw [List.length_take, List.length_drop]
      omega
    · by_cases h2 : s = fi + pr + after.us + nd ∧ after.us + nd < rm
      · rw [h2.1, hclr h2.2]
        simp
      · rw [hout s h1 h2]
        exact hi.len s hs'
  have hbyt : ∀ s, s < n → Byts (C s) := fun s hs' => by
    by_cases h1 : fi + pr + after.us ≤ s ∧ s < fi + pr + after.us + nd
    · have := hin (s - (fi + pr + after.us)) (by omega)
      rw [show fi + pr + after.us + (s - (fi + pr + after.us)) = s by omega] at this
      rw [this]
      exact hBb.sub (fun y hy => List.mem_of_mem_drop (List.mem_of_mem_take hy))
    · by_cases h2 : s = fi + pr + after.us + nd ∧ after.us + nd < rm
      · rw [h2.1, hclr h2.2]
        exact Byts.zeros _
      · rw [hout s h1 h2]
        exact hi.byt s hs'
  have hother : secB C (fi + qr) rm = secB cont (fi + qr) rm := secB_congr rm (fun i hi => hout _ (by omega) (by omega))
  have hpre : secB C (fi + pr) after.us = secB cont (fi + pr) after.us := secB_congr _ (fun i hi => hout _ (by omega) (by omega))
  obtain ⟨pre, hpred⟩ : ∃ pre, secB C (fi + pr) after.us = pre := ⟨_, rfl⟩
  have hpl : pre.length = after.us * sz := by rw [← hpred]; exact secB_len _ (fun i hi => hlen _ (by omega))
  obtain ⟨T, hT⟩ : ∃ T, secB C (fi + pr + after.us + nd) (rm - after.us - nd) = T := ⟨_, rfl⟩
  have hall : secB C (fi + pr) rm = pre ++ B ++ T := by
    have h1 := secB_add C (fi + pr) (after.us + nd) (rm - after.us - nd)
    rw [show after.us + nd + (rm - after.us - nd) = rm by omega, secB_add C (fi + pr) after.us nd, ← Nat.add_assoc, hT, hpred, secB_is nd hin, cut_all hBl] at h1
    exact h1
  have hTb : Byts T := by rw [← hT]; exact secB_byte _ (fun i hi => hbyt _ (by omega))
  have hTl : T.length = (rm - after.us - nd) * sz := by rw [← hT]; exact secB_len _ (fun i hi => hlen _ (by omega))
  have hTz : T = [] ∨ ∃ T', T = List.replicate sz 0 ++ T' := by
    by_cases h : after.us + nd < rm
    · right
      have h1 := secB_add C (fi + pr + after.us + nd) 1 (rm - after.us - nd - 1)
      rw [show 1 + (rm - after.us - nd - 1) = rm - after.us - nd by omega, hT] at h1
      refine ⟨secB C (fi + pr + after.us + nd + 1) (rm - after.us - nd - 1), h1.trans ?_⟩
      congr 1
      have h2 := secB_succ C (fi + pr + after.us + nd) 0
      rw [Nat.add_zero (fi + pr + after.us + nd), hclr h] at h2
      rw [h2]
      simp [secB]
    · left
      rw [← hT, show rm - after.us - nd = 0 by omega]
      rfl
  have hBTl : (B ++ T).length = (rm - after.us) * sz := by
    rw [List.length_append, hBl, hTl, ← Nat.add_mul]
    congr 1
    omega
  rcases ha with rfl | rfl
  · have hst : Ends sz (pre ++ B ++ T) p after (nextH sz after after.ep rss) := by
      rw [← hB]
      exact half_step hs hr hTb hae hn h0 (fun _ => rfl) hp hpl hTz
    have hcur := hi.cur
    rw [hp, hpr] at hcur
    have hold : secB cont (fi + pr) rm = pre ++ secB cont (fi + pr + after.us) (rm - after.us) := by
      have h1 := secB_add cont (fi + pr) after.us (rm - after.us)
      rw [show after.us + (rm - after.us) = rm by have := hi.wf.us; omega, ← hpre, hpred] at h1
      exact h1
    have hwf : Wf sz rm (nextH sz after after.ep rss) := (decF_wf (b := B ++ T) (by omega) hi.wf (hBb.append hTb) hBTl (by rw [← hB]; exact dec_enc hr hTb hae hn h0 (fun _ => rfl))).1
    refine ⟨hwf, hlen, hbyt, ?_, ?_⟩
    · show Ends sz (secB C (fi + after.ep % 2 * rm) rm) (after.ep % 2) zeroH _
      rw [hp, hpr, hall]
      refine hcur.loc (by omega) (fun j hj => ?_) (by rw [List.length_append, List.length_append]; omega) hst
      rw [hold, List.append_assoc]
      exact get_pre (by omega)
    · obtain ⟨y, hy, hyx⟩ := hi.oth
      refine ⟨y, ?_, hyx⟩
      show Ends sz (secB C (fi + (1 - after.ep % 2) * rm) rm) (1 - after.ep % 2) zeroH y
      rw [hp, hqr] at hy ⊢
      rw [hother]
      exact hy
  · have hst : Ends sz (pre ++ B ++ T) p zeroH (nextH sz (resetH x) (x.ep + 1) rss) := by
      rw [← hB]
      exact half_step (hd := zeroH) hs hr hTb hae hn h0 (fun h => absurd h (by decide)) hp hpl hTz
    have hwf : Wf sz rm (nextH sz (resetH x) (x.ep + 1) rss) := (decF_wf (h := zeroH) (b := B ++ T) (by omega) (wf_zero _ _) (hBb.append hTb) hBTl (by rw [← hB]; exact dec_enc (hd := zeroH) hr hTb hae hn h0 (fun h => absurd h (by decide)))).1
    refine ⟨hwf, hlen, hbyt, ?_, ?_⟩
    · show Ends sz (secB C (fi + (x.ep + 1) % 2 * rm) rm) ((x.ep + 1) % 2) zeroH _
      have hp' : (x.ep + 1) % 2 = p := hp
      rw [hp', hpr, hall]
      exact hst
    · refine ⟨x, ?_, .inr (Nat.lt_succ_self _)⟩
      show Ends sz (secB C (fi + (1 - (x.ep + 1) % 2) * rm) rm) (1 - (x.ep + 1) % 2) zeroH x
      have hp' : (x.ep + 1) % 2 = p := hp
      have hcur := hi.cur
      rw [hp', hqr, hother]
      rw [show x.ep % 2 = 1 - p by omega, hqr] at hcur
      exact hcur
end Go.Proofs.YtapapedpecpfgaaDoor.J
