/- The Journal's operations. -/
import Derived.Test.YtapapedpecpfgaaDoorKN
set_option linter.unusedVariables false
set_option linter.unusedSimpArgs false
namespace Go.Proofs.YtapapedpecpfgaaDoor.J
open Go.RowKit Go.Proofs.YtapapedpecpfgaaDoorW.PrintWords

def needF (sz : Nat) (rss : List (List Int)) : Nat := (40 + lenF rss + sz - 1) / sz
def AppR (sz fi rm : Nat) (cont : Nat → List Int) (x after : Hf) (rss : List (List Int)) (r : Int) (x' : Hf) (cont' : Nat → List Int) : Prop :=
  (r ≠ 0 ∧ x' = x ∧ cont' = cont ∧ (rss = [] ∨ rm < after.us + needF sz rss)) ∨
  (r = 0 ∧ rss ≠ [] ∧ after.us + needF sz rss ≤ rm ∧ x' = nextH sz after after.ep rss ∧ cont' = newC cont (fi + after.ep % 2 * rm + after.us) (needF sz rss) (decide (after.us + needF sz rss < rm)) sz (encF sz after.la after.us after.ep rss))
def AppJ (w : World) (B0 j d fi rm sz n : Nat) (cont : Nat → List Int) (x after : Hf) (rss : List (List Int)) (e : Ending) (w' : World) : Prop :=
  ∃ r x' cont', e = .returned (.int .i64 r) ∧ AppR sz fi rm cont x after rss r x' cont' ∧ JOn w' B0 j d fi rm sz n x' cont' ∧ Inv sz fi rm n cont' x' ∧ Chg (fun k => B0 ≤ k) w w'
theorem wf_reset {sz rm : Nat} {x : Hf} (h : x.ep + 1 < 4294967296) : Wf sz rm (resetH x) := ⟨h, Nat.le_refl _, Nat.zero_le _, by show (0 : Nat) ≤ 32; omega, by simp [resetH]⟩

section
variable {w : World} {P R E F Ra Ea : Nat → Prop} {B0 j d fi rm sz n l c : Nat} {x after : Hf} {rv hv : Value} {A : Option Addr} {rss : List (List Int)} {cont : Nat → List Int}
theorem jAppCore (hj : JHd w j d fi rm x.ep x.ba x.us x.la rv false) (hD : DiskAt w d sz n cont 0 F) (hr : RecsAt w R E rv x.rs) (hra : RecsAt w Ra Ea hv after.rs) (hdis : ∀ k, F k → ¬ R k ∧ ¬ E k) (hdisa : ∀ k, F k → ¬ Ra k ∧ ¬ Ea k)
    (hFj : ¬ F j) (hRj : ¬ R j) (hEj : ¬ E j) (hRaj : ¬ Ra j) (hEaj : ¬ Ea j) (hBj : B0 ≤ j) (hBF : ∀ k, F k → B0 ≤ k) (hBR : ∀ k, R k → B0 ≤ k) (hBE : ∀ k, E k → B0 ≤ k) (hBRa : ∀ k, Ra k → B0 ≤ k) (hBEa : ∀ k, Ea k → B0 ≤ k)
    (ha : after = x ∨ after = resetH x) (hi : Inv sz fi rm n cont x) (hs0 : 64 ≤ sz) (hs1 : sz ≤ 1000) (hrm : rm ≤ 100) (hfi : fi ≤ 1000000) (hfit : fi + 2 * rm ≤ n) (hep : x.ep + 1 < 4294967296)
    (hrd : RdRecs w P A l rss) (hP : ∀ k, P k → k < w.heap.size) (hlc : l ≤ c) (hl1 : l ≤ 1000) (hlf : lenF rss ≤ 100000) (hrecs : Recs rss) (hk : Kst w) (hkB : 0 < B0) :
    Calls Tryd.prog 35 #[.pointer (some ⟨j, 0, none⟩), .agg (hcells after hv), .slice A l c] w (AppJ w B0 j d fi rm sz n cont x after rss) := by
  have hwa : Wf sz rm after := by
    rcases ha with rfl | rfl
    · exact hi.wf
    · exact wf_reset hep
  have hJ : JOn w B0 j d fi rm sz n x cont := ⟨rv, R, E, F, hj, hD, hr, hdis, hFj, hRj, hEj, hBj, hBF, hBR, hBE⟩
  have hl := hrd.1
  rcases Nat.eq_zero_or_pos l with h0 | h0
  · subst h0
    have hnil : rss = [] := List.length_eq_zero_iff.1 hl
    refine (jAppNo hj hD).mono ?_
    rintro e w' ⟨rfl, hc⟩
    exact ⟨1, x, cont, rfl, .inl ⟨by decide, rfl, rfl, .inl hnil⟩, hJ.chg hc, hi, hc.mono (fun _ _ h => h.elim)⟩
  · have hne : rss ≠ [] := fun e => by rw [e] at hl; simp at hl; omega
    by_cases hf : after.us + needF sz rss ≤ rm
    · have hdec : decF sz after (encF sz after.la after.us after.ep rss) = some (nextH sz after after.ep rss) := by
        have := dec_enc (sz := sz) (hd := after) (ep := after.ep) (rss := rss) (post := []) hrecs (fun y hy => by simp at hy) hwa.ep (by omega) hne (fun _ => rfl)
        rwa [List.append_nil] at this
      have hnd0 : 0 < needF sz rss := by
        unfold needF
        exact Nat.div_pos (by omega) (by omega)
      refine (jAppOk hj hD (by omega) hs1 (by omega) hrm hfi hfit hwa hra hrd hP hlc h0 hl1 hlf rfl rfl (enc_len (by omega) _ _ _ _) hnd0 hf hdec (enc_byts hrecs hwa.ep (by omega)) (fun s hs => hi.byt s hs) hFj hRaj hEaj hdisa hk (fun h => by have := hBF _ h; omega) (fun h => by have := hBRa _ h; omega)).mono ?_
      rintro e w' ⟨rv', R', E', F', rfl, hjd, hch, hd', hF', hr', hR', hE', hdis'⟩
      have hlt := blk_lt hj
      have hsz := hch.size
      refine ⟨0, _, _, rfl, .inr ⟨rfl, hne, hf, rfl, rfl⟩, ⟨rv', R', E', F', hjd, hd', hr', hdis', fun h => hFj (hF' j hlt h), fun h => hRaj (hR' j hlt h), fun h => hEaj (hE' j hlt h), hBj, fun k h => ?_, fun k h => ?_, fun k h => ?_⟩, hi.step ha hs0 hfit hrecs hne (by omega) hep rfl hf, hch.mono (fun k _ h => ?_)⟩
      · by_cases hk : k < w.heap.size
        · exact hBF k (hF' k hk h)
        · omega
      · by_cases hk : k < w.heap.size
        · exact hBRa k (hR' k hk h)
        · omega
      · by_cases hk : k < w.heap.size
        · exact hBEa k (hE' k hk h)
        · omega
      · rcases h with (h | h) | h
        · exact hBF k h
        · exact hBRa k h
        · omega
    · have hus := hwa.us
      refine (jAppFull hj hD (by omega) hs1 hrm hus hrd hlc h0 hl1 hlf (by show rm - after.us < needF sz rss; omega)).mono ?_
      rintro e w' ⟨rfl, hc⟩
      exact ⟨7, x, cont, rfl, .inl ⟨by decide, rfl, rfl, .inr (by omega)⟩, hJ.chg hc, hi, hc.mono (fun _ _ h => h.elim)⟩
end
/-- One record, boxed. -/
theorem rd_one {w : World} {P : Nat → Prop} {A : Option Addr} {c : Nat} {rs : List Int} (h : RdRec w P (.slice A rs.length c) rs) : RdRecs (w.alloc (.cells #[.slice A rs.length c] 39)) (fun k => P k ∨ k = w.heap.size) (some ⟨w.heap.size, 0, none⟩) 1 [rs] := by
  refine ⟨rfl, fun _ => ⟨_, rfl, .inr rfl, fun i hi => ?_⟩⟩
  obtain rfl : i = 0 := by omega
  refine ⟨_, (blk_cell (heap_alloc_new w _) 0).trans rfl, ?_⟩
  obtain ⟨A', c', e, h1, h2, h3⟩ := h.chg ((Chg.refl (fun _ => False) w).alloc (.cells #[.slice A rs.length c] 39)) (fun _ _ h => h)
  exact ⟨A', c', e, h1, h2, fun ad a b => .inl (h3 ad a b)⟩
section
variable {w : World} {P : Nat → Prop} {B0 j d fi rm sz n l c : Nat} {x : Hf} {A : Option Addr} {rss : List (List Int)} {rs : List Int} {cont : Nat → List Int}
set_option maxHeartbeats 2000000 in
theorem jAppendAll (h : JOn w B0 j d fi rm sz n x cont) (hi : Inv sz fi rm n cont x) (hs0 : 64 ≤ sz) (hs1 : sz ≤ 1000) (hrm : rm ≤ 100) (hfi : fi ≤ 1000000) (hfit : fi + 2 * rm ≤ n) (hep : x.ep + 1 < 4294967296)
    (hrd : RdRecs w P A l rss) (hP : ∀ k, P k → k < w.heap.size) (hlc : l ≤ c) (hl1 : l ≤ 1000) (hlf : lenF rss ≤ 100000) (hrecs : Recs rss) (hk : Kst w) (hkB : 0 < B0) :
    Calls Tryd.prog 22 #[.pointer (some ⟨j, 0, none⟩), .slice A l c] w (AppJ w B0 j d fi rm sz n cont x x rss) := by
  obtain ⟨rv, R, E, F, h1, h2, h3, h4, h5, h6, h7, h8, h9, h10, h11⟩ := h
  have c3 := h1.c3
  have c4 := h1.c4
  have c5 := h1.c5
  have c6 := h1.c6
  have c7 := h1.c7
  have HX := Lib.hid (jAppCore (after := x) (hv := rv) h1 h2 h3 h3 h4 h4 h5 h6 h7 h6 h7 h8 h9 h10 h11 h10 h11 (.inl rfl) hi hs0 hs1 hrm hfi hfit hep hrd hP hlc hl1 hlf hrecs hk hkB)
  clear h1 h2 h3 h4 h5 h6 h7 h8 h9 h10 h11 hi hrd hP hrecs hk
  go_enter Tryd.func22, Tryd.ntmps22
  go_wp2_with fail
  refine HX.out.mono ?_
  rintro e w' ⟨r, x', cont', rfl, hq⟩
  have HQ := Lib.hid hq
  clear hq
  go_wp2
  go_ret
  exact ⟨r, x', cont', rfl, HQ.out⟩
set_option maxHeartbeats 2000000 in
theorem jAppend (h : JOn w B0 j d fi rm sz n x cont) (hi : Inv sz fi rm n cont x) (hs0 : 64 ≤ sz) (hs1 : sz ≤ 1000) (hrm : rm ≤ 100) (hfi : fi ≤ 1000000) (hfit : fi + 2 * rm ≤ n) (hep : x.ep + 1 < 4294967296)
    (hrd : RdRec w P (.slice A rs.length c) rs) (hP : ∀ k, P k → k < w.heap.size) (hlf : rs.length ≤ 90000) (hrecs : Byts rs) (hk : Kst w) (hkB : 0 < B0) :
    Calls Tryd.prog 23 #[.pointer (some ⟨j, 0, none⟩), .slice A rs.length c] w (AppJ w B0 j d fi rm sz n cont x x [rs]) := by
  have hc := (Chg.refl (fun _ => False) w).alloc (.cells #[.slice A rs.length c] 39)
  have h' := h
  obtain ⟨rv, R, E, F, h1, _⟩ := h
  have c3 := h1.c3
  have c4 := h1.c4
  have c5 := h1.c5
  have c6 := h1.c6
  have c7 := h1.c7
  obtain ⟨rv2, R, E, F, h1', h2, h3, h4, h5, h6, h7, h8, h9, h10, h11⟩ := h'
  obtain rfl : rv2 = rv := by
    have := h1'.c7
    rw [c7] at this
    injection this with this
    exact this.symm
  have HX := Lib.hid (jAppCore (after := x) (hv := rv2) (h1'.chg hc (fun h => h)) (h2.chg hc (fun _ _ _ h => h)) (h3.chg hc (fun _ _ h => h) (fun _ _ h => h)) (h3.chg hc (fun _ _ h => h) (fun _ _ h => h)) h4 h4 h5 h6 h7 h6 h7 h8 h9 h10 h11 h10 h11 (.inl rfl) hi hs0 hs1 hrm hfi hfit hep (rd_one hrd) (fun k hk => by
      rcases hk with hk | hk
      · have := hP k hk; simp; omega
      · simp; omega) (Nat.le_refl _) (by omega) (by simp [lenF]; omega) (fun r hr => by
        obtain rfl := List.mem_singleton.1 hr
        exact ⟨hrecs, by omega⟩) (hk.chg hc (fun h => h)) hkB)
  have HC := Lib.hid hc
  clear h1 h1' h2 h3 h4 h5 h6 h7 h8 h9 h10 h11 hi hrd hP hrecs hk hc
  go_enter Tryd.func23, Tryd.ntmps23
  go_wp2_with fail
  refine HX.out.mono ?_
  rintro e w' ⟨r, x', cont', rfl, h1, h2, h3, h4⟩
  have HQ := Lib.hid (And.intro h1 (And.intro h2 (And.intro h3 (HC.out.trans' h4 (fun _ _ h => h.elim) (fun _ _ h => h)))))
  clear h1 h2 h3 h4
  go_wp2
  go_ret
  exact ⟨r, x', cont', rfl, HQ.out⟩
set_option maxHeartbeats 2000000 in
theorem jReset (h : JOn w B0 j d fi rm sz n x cont) (hi : Inv sz fi rm n cont x) (hs0 : 64 ≤ sz) (hs1 : sz ≤ 1000) (hrm : rm ≤ 100) (hfi : fi ≤ 1000000) (hfit : fi + 2 * rm ≤ n) (hep : x.ep + 1 < 4294967296)
    (hrd : RdRec w P (.slice A rs.length c) rs) (hP : ∀ k, P k → k < w.heap.size) (hlf : rs.length ≤ 90000) (hrecs : Byts rs) (hk : Kst w) (hkB : 0 < B0) :
    Calls Tryd.prog 25 #[.pointer (some ⟨j, 0, none⟩), .slice A rs.length c] w (AppJ w B0 j d fi rm sz n cont x (resetH x) [rs]) := by
  have hc := (Chg.refl (fun _ => False) w).alloc (.cells #[.slice A rs.length c] 39)
  obtain ⟨rv, R, E, F, h1', h2, h3, h4, h5, h6, h7, h8, h9, h10, h11⟩ := h
  have c3 := h1'.c3
  have hw : IntKind.i64.wrap ((x.ep : Int) + 1) = (x.ep : Int) + 1 := by rw [IntKind.wrap_i64]; omega
  have HX := Lib.hid (jAppCore (after := resetH x) (hv := .slice none 0 0) (h1'.chg hc (fun h => h)) (h2.chg hc (fun _ _ _ h => h)) (h3.chg hc (fun _ _ h => h) (fun _ _ h => h)) (RecsAt.nil _ (fun _ => False)) h4 (fun _ _ => ⟨fun h => h, fun h => h⟩) h5 h6 h7 (fun h => h) (fun h => h) h8 h9 h10 h11 (fun _ h => h.elim) (fun _ h => h.elim) (.inr rfl) hi hs0 hs1 hrm hfi hfit hep (rd_one hrd) (fun k hk => by
      rcases hk with hk | hk
      · have := hP k hk; simp; omega
      · simp; omega) (Nat.le_refl _) (by omega) (by simp [lenF]; omega) (fun r hr => by
        obtain rfl := List.mem_singleton.1 hr
        exact ⟨hrecs, by omega⟩) (hk.chg hc (fun h => h)) hkB)
  have HC := Lib.hid hc
  clear h1' h2 h3 h4 h5 h6 h7 h8 h9 h10 h11 hi hrd hP hrecs hk hc
  go_enter Tryd.func25, Tryd.ntmps25
  go_wp2_with fail
  refine HX.out.mono ?_
  rintro e w' ⟨r, x', cont', rfl, h1, h2, h3, h4⟩
  have HQ := Lib.hid (And.intro h1 (And.intro h2 (And.intro h3 (HC.out.trans' h4 (fun _ _ h => h.elim) (fun _ _ h => h)))))
  clear h1 h2 h3 h4
  go_wp2
  go_ret
  exact ⟨r, x', cont', rfl, HQ.out⟩
end
end Go.Proofs.YtapapedpecpfgaaDoor.J
