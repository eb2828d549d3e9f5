/- The operations of a list; play. -/
import Derived.Test.YtapapedpecpfgaaDoorKO
set_option linter.unusedVariables false
set_option linter.unusedSimpArgs false
namespace Go.Proofs.YtapapedpecpfgaaDoor.J
open Go.RowKit Go.Proofs.YtapapedpecpfgaaDoorW.PrintWords

structure OpV where
  kind : Int
  batch : List (List Int)
theorem RdRec.nil (w : World) (P : Nat → Prop) : RdRec w P (.slice none 0 0) [] := ⟨none, 0, rfl, Nat.le_refl _, ⟨rfl, by simp, fun h => absurd h (by simp)⟩, fun ad h _ => by cases h⟩
set_option maxHeartbeats 1000000 in
theorem jFirst {w : World} {P : Nat → Prop} {A : Option Addr} {n c : Nat} {rss : List (List Int)} {f : List Int} (h : RdRecs w P A n rss) (hc : n ≤ c) (hf : rss.headD [] = f) :
    Calls Tryd.prog 24 #[.slice A n c] w (fun e w' => ∃ A' c', e = .returned (.slice A' f.length c') ∧ RdRec w P (.slice A' f.length c') f ∧ w' = w) := by
  obtain ⟨hl, hcs⟩ := h
  rcases Nat.eq_zero_or_pos n with h0 | h0
  · subst h0
    have hnil : rss = [] := List.length_eq_zero_iff.1 hl
    subst hnil
    subst hf
    clear hl hcs
    go_enter Tryd.func24, Tryd.ntmps24
    go_wp2
    go_ret
    exact ⟨none, 0, rfl, RdRec.nil w P, rfl⟩
  · obtain ⟨ad, rfl, _, hc0⟩ := hcs h0
    obtain ⟨v, hv, hr⟩ := hc0 0 h0
    obtain ⟨A', c', rfl, hq⟩ := id hr
    have hg : rss.getD 0 [] = f := by rw [← hf]; cases rss <;> rfl
    rw [hg] at hv hr hq
    have h1 : ¬ (n : Int) = 0 := by omega
    have h2 : (0 : Int) < (n : Int) := by omega
    rw [add_zero'] at hv
    have HR := Lib.hid hr
    clear hl hcs hc0 hr hq hg hf
    go_enter Tryd.func24, Tryd.ntmps24
    go_wp2
    go_ret
    exact ⟨A', c', rfl, HR.out, rfl⟩
def playH (k : Int) (x : Hf) : Hf := if k = 0 ∨ k = 1 then x else resetH x
def playR (k : Int) (b : List (List Int)) : List (List Int) := if k = 1 then b else [b.headD []]
theorem head_byt {rss : List (List Int)} (h : Recs rss) : Byts (rss.headD []) := by
  cases rss with
  | nil => exact fun y hy => by simp at hy
  | cons r rs => exact (h r (by simp)).1
theorem head_len {rss : List (List Int)} : (rss.headD []).length ≤ lenF rss := by
  cases rss with
  | nil => simp
  | cons r rs => simp [lenF]; omega
section
variable {w : World} {P : Nat → Prop} {B0 j d fi rm sz n l c : Nat} {x : Hf} {A : Option Addr} {rss : List (List Int)} {cont : Nat → List Int}
set_option maxHeartbeats 1500000 in
theorem jPlay {k : Int} {N v3 : Value} (h : JOn w B0 j d fi rm sz n x cont) (hi : Inv sz fi rm n cont x) (hs0 : 64 ≤ sz) (hs1 : sz ≤ 1000) (hrm : rm ≤ 100) (hfi : fi ≤ 1000000) (hfit : fi + 2 * rm ≤ n) (hep : x.ep + 1 < 4294967296)
    (hrd : RdRecs w P A l rss) (hP : ∀ k, P k → k < w.heap.size) (hlc : l ≤ c) (hl1 : l ≤ 1000) (hlf : lenF rss ≤ 90000) (hrecs : Recs rss) (hk : Kst w) (hkB : 0 < B0) :
    Calls Tryd.prog 13 #[.pointer (some ⟨j, 0, none⟩), .agg #[.int .i64 k, .slice A l c, N, v3]] w (AppJ w B0 j d fi rm sz n cont x (playH k x) (playR k rss)) := by
  have hc := (Chg.refl (fun _ => False) w).alloc (.cells #[.int .i64 k, .slice A l c, N, v3] 35)
  have hP' : ∀ q, P q → q < (w.alloc (.cells #[.int .i64 k, .slice A l c, N, v3] 35)).heap.size := fun q hq => by have := hP q hq; simp; omega
  obtain ⟨f, hf⟩ : ∃ f, rss.headD [] = f := ⟨_, rfl⟩
  have HF := Lib.hid (jFirst (hrd.chg hc (fun _ _ h => h)) hlc hf)
  have hfb : Byts f := by rw [← hf]; exact head_byt hrecs
  have hfl : f.length ≤ 90000 := by rw [← hf]; have := head_len (rss := rss); omega
  have HFF := Lib.hid hf
  have HC := Lib.hid hc
  by_cases h0 : k = 0
  · subst h0
    have HX : RowKit.Hid (∀ A' c', RdRec _ P (.slice A' f.length c') f → _) := Lib.hid (fun A' c' hq => jAppend (A := A') (c := c') (h.chg hc) hi hs0 hs1 hrm hfi hfit hep hq hP' hfl hfb (hk.chg hc (fun h => h)) hkB)
    rw [show playH 0 x = x from if_pos (.inl rfl), show playR 0 rss = [rss.headD []] from if_neg (by decide), hf]
    clear h hi hrd hP hP' hrecs hk hc hf hfb
    go_enter Tryd.func13, Tryd.ntmps13
    go_wp2_with fail
    refine HF.out.mono ?_
    rintro e w1 ⟨A', c', rfl, hr, rfl⟩
    have HR := Lib.hid hr
    clear hr
    go_wp2_with fail
    refine (HX.out A' c' HR.out).mono ?_
    rintro e w' ⟨r, x', cont', rfl, h1, h2, h3, h4⟩
    have HQ := Lib.hid (And.intro h1 (And.intro h2 (And.intro h3 (HC.out.trans' h4 (fun _ _ h => h.elim) (fun _ _ h => h)))))
    clear h1 h2 h3 h4
    go_wp2
    go_ret
    exact ⟨r, x', cont', rfl, HQ.out⟩
  · by_cases h1 : k = 1
    · subst h1
      have HX := Lib.hid (jAppendAll (h.chg hc) hi hs0 hs1 hrm hfi hfit hep (hrd.chg hc (fun _ _ h => h)) hP' hlc hl1 (by omega) hrecs (hk.chg hc (fun h => h)) hkB)
      rw [show playH 1 x = x from if_pos (.inr rfl), show playR 1 rss = rss from if_pos rfl]
      clear h hi hrd hP hP' hrecs hk hc hf hfb
      go_enter Tryd.func13, Tryd.ntmps13
      go_wp2_with fail
      refine HX.out.mono ?_
      rintro e w' ⟨r, x', cont', rfl, h1, h2, h3, h4⟩
      have HQ := Lib.hid (And.intro h1 (And.intro h2 (And.intro h3 (HC.out.trans' h4 (fun _ _ h => h.elim) (fun _ _ h => h)))))
      clear h1 h2 h3 h4
      go_wp2
      go_ret
      exact ⟨r, x', cont', rfl, HQ.out⟩
    · have HX : RowKit.Hid (∀ A' c', RdRec _ P (.slice A' f.length c') f → _) := Lib.hid (fun A' c' hq => jReset (A := A') (c := c') (h.chg hc) hi hs0 hs1 hrm hfi hfit hep hq hP' hfl hfb (hk.chg hc (fun h => h)) hkB)
      rw [show playH k x = resetH x from if_neg (by omega), show playR k rss = [rss.headD []] from if_neg h1, hf]
      clear h hi hrd hP hP' hrecs hk hc hf hfb
      go_enter Tryd.func13, Tryd.ntmps13
      go_wp2_with fail
      refine HF.out.mono ?_
      rintro e w1 ⟨A', c', rfl, hr, rfl⟩
      have HR := Lib.hid hr
      clear hr
      go_wp2_with fail
      refine (HX.out A' c' HR.out).mono ?_
      rintro e w' ⟨r, x', cont', rfl, h1, h2, h3, h4⟩
      have HQ := Lib.hid (And.intro h1 (And.intro h2 (And.intro h3 (HC.out.trans' h4 (fun _ _ h => h.elim) (fun _ _ h => h)))))
      clear h1 h2 h3 h4
      go_wp2
      go_ret
      exact ⟨r, x', cont', rfl, HQ.out⟩
end
end Go.Proofs.YtapapedpecpfgaaDoor.J
