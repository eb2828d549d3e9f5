/- What is written is what is decoded. -/
import Derived.Test.YtapapedpecpfgaaDoorKI
set_option linter.unusedVariables false
set_option linter.unusedSimpArgs false
namespace Go.Proofs.YtapapedpecpfgaaDoor.J
open Go.RowKit Go.Proofs.YtapapedpecpfgaaDoorW.PrintWords

def Byts (b : List Int) : Prop := ∀ x ∈ b, 0 ≤ x ∧ x ≤ 255
theorem Byts.append {a b : List Int} (h : Byts a) (k : Byts b) : Byts (a ++ b) := fun x hx => by
  rcases List.mem_append.1 hx with h1 | h1
  · exact h x h1
  · exact k x h1
theorem Byts.num4 {n : Int} (h0 : 0 ≤ n) (h1 : n < 4294967296) : Byts (num4 n) := fun x hx => by
  simp only [J.num4, List.mem_cons, List.not_mem_nil, or_false] at hx
  omega
theorem Byts.ofString (s : ByteArray) : Byts (bytesOf s) := fun x hx => by
  simp only [bytesOf, List.mem_map] at hx
  obtain ⟨u, _, rfl⟩ := hx
  have := u.toNat_lt
  omega
theorem Byts.zeros (n : Nat) : Byts (List.replicate n 0) := fun x hx => by
  have := List.eq_of_mem_replicate hx
  omega
theorem strOf_bytesOf (s : ByteArray) : strOfNums (bytesOf s) = s := by
  apply ByteArray.ext
  apply Array.ext'
  rw [strOfNums_data]
  simp only [bytesOf, List.map_map]
  rw [List.map_congr_left (g := id)]
  · simp
  · intro u _
    simp
def Recs (rss : List (List Int)) : Prop := ∀ r ∈ rss, Byts r ∧ r.length < 4294967296
theorem Byts.recF : ∀ {rss : List (List Int)}, Recs rss → Byts (recF rss)
  | [], _ => fun x hx => by simp [J.recF] at hx
  | r :: rs, h => by
    have h1 := h r (by simp)
    exact ((Byts.num4 (by omega) (by omega)).append h1.1).append (Byts.recF (fun q hq => h q (by simp [hq])))

theorem numAt_num4 {pre post : List Int} {n : Int} (hp : Byts pre) (hq : Byts post) (h0 : 0 ≤ n) (h1 : n < 4294967296) {k : Nat} (hk : pre.length = k) : numAt (pre ++ num4 n ++ post) k = n := by
  subst hk
  rw [numAt_val _ _ ((hp.append (Byts.num4 h0 h1)).append hq)]
  have e : ∀ j, j < 4 → (pre ++ num4 n ++ post)[pre.length + j]? = (num4 n)[j]? := fun j hj => by
    rw [List.append_assoc, List.getElem?_append_right (by omega), Nat.add_sub_cancel_left, List.getElem?_append_left (by simpa [num4] using hj)]
  have e0 := e 0 (by omega)
  rw [Nat.add_zero] at e0
  rw [e0, e 1 (by omega), e 2 (by omega), e 3 (by omega)]
  simp [num4]
  omega
theorem parse_rec : ∀ (rss : List (List Int)) (pre post : List Int) (a : Nat), Recs rss → Byts pre → Byts post → pre.length = a → parseF (pre ++ recF rss ++ post) rss.length a = some (rss, a + lenF rss)
  | [], pre, post, a, _, _, _, ha => by simp [parseF, lenF]
  | r :: rs, pre, post, a, hr, hp, hq, ha => by
    have h1 := hr r (by simp)
    have hrs : Recs rs := fun q hq => hr q (by simp [hq])
    have hn : numAt (pre ++ recF (r :: rs) ++ post) a = (r.length : Int) := by
      have : pre ++ recF (r :: rs) ++ post = pre ++ num4 (r.length : Int) ++ (r ++ recF rs ++ post) := by simp [recF]
      rw [this]
      exact numAt_num4 hp ((h1.1.append (Byts.recF hrs)).append hq) (by omega) (by omega) ha
    have hl : (pre ++ recF (r :: rs) ++ post).length = a + 4 + r.length + (recF rs).length + post.length := by
      simp [recF, num4]
      omega
    rw [List.length_cons, parseF, if_neg (by omega), hn, Int.toNat_natCast, if_neg (by omega)]
    have e : pre ++ recF (r :: rs) ++ post = (pre ++ num4 (r.length : Int) ++ r) ++ recF rs ++ post := by simp [recF]
    have ih := parse_rec rs (pre ++ num4 (r.length : Int) ++ r) post (a + 4 + r.length) hrs ((hp.append (Byts.num4 (by omega) (by omega))).append h1.1) hq (by simp [num4]; omega)
    rw [e, ih]
    simp only [Option.map_some, lenF]
    congr 2
    · congr 1
      have h4 : (pre ++ num4 (r.length : Int)).length = a + 4 := by simp [num4]; omega
      rw [← h4, show pre ++ num4 (r.length : Int) ++ r ++ recF rs ++ post = (pre ++ num4 (r.length : Int)) ++ (r ++ (recF rs ++ post)) by simp, List.drop_left, List.take_left]
    · omega

theorem dec_raw {sz : Nat} {hd : Hf} {ep : Nat} {rss : List (List Int)} {post : List Int} (hr : Recs rss) (hq : Byts post) (hep : ep < 4294967296) (hn : rss.length < 4294967296) (h0 : rss ≠ []) (hc : 0 < hd.ba → ep = hd.ep) :
    decF sz hd (rawF hd.la hd.us ep rss ++ post) = some ⟨ep, hd.ba + 1, hd.us + (40 + lenF rss + sz - 1) / sz, sumJ hd.la hd.us (bodyF ep rss), hd.rs ++ rss⟩ := by
  obtain ⟨S, hS⟩ : ∃ S, sumJ hd.la hd.us (bodyF ep rss) = S := ⟨_, rfl⟩
  have hSl : (bytesOf S).length = 32 := by rw [bytesOf_length, ← hS, sumJ_size]
  have hraw : rawF hd.la hd.us ep rss = bytesOf S ++ num4 (ep : Int) ++ num4 (rss.length : Int) ++ recF rss := by
    unfold rawF bodyF
    rw [show num4 (ep : Int) ++ num4 (rss.length : Int) ++ recF rss = bodyF ep rss from rfl, hS]
    simp [bodyF]
  have hbs := Byts.ofString S
  have hne : Byts (num4 (ep : Int)) := Byts.num4 (by omega) (by omega)
  have hnn : Byts (num4 (rss.length : Int)) := Byts.num4 (by omega) (by omega)
  have hre := Byts.recF hr
  rw [hraw]
  have e1 : numAt (bytesOf S ++ num4 (ep : Int) ++ num4 (rss.length : Int) ++ recF rss ++ post) 32 = (ep : Int) := by
    rw [show bytesOf S ++ num4 (ep : Int) ++ num4 (rss.length : Int) ++ recF rss ++ post = bytesOf S ++ num4 (ep : Int) ++ (num4 (rss.length : Int) ++ recF rss ++ post) by simp]
    exact numAt_num4 hbs ((hnn.append hre).append hq) (by omega) (by omega) hSl
  have e2 : numAt (bytesOf S ++ num4 (ep : Int) ++ num4 (rss.length : Int) ++ recF rss ++ post) 36 = (rss.length : Int) := by
    rw [show bytesOf S ++ num4 (ep : Int) ++ num4 (rss.length : Int) ++ recF rss ++ post = (bytesOf S ++ num4 (ep : Int)) ++ num4 (rss.length : Int) ++ (recF rss ++ post) by simp]
    exact numAt_num4 (hbs.append hne) (hre.append hq) (by omega) (by omega) (by simp [num4]; omega)
  have hl : ¬ (bytesOf S ++ num4 (ep : Int) ++ num4 (rss.length : Int) ++ recF rss ++ post).length < 40 := by simp [num4]; omega
  have e3 := parse_rec rss (bytesOf S ++ num4 (ep : Int) ++ num4 (rss.length : Int)) post 40 hr ((hbs.append hne).append hnn) hq (by simp [num4]; omega)
  have hlr : (bytesOf S ++ num4 (ep : Int) ++ num4 (rss.length : Int) ++ recF rss).length = 40 + lenF rss := by
    have := bodyF_length ep rss
    simp only [bodyF, List.length_append] at this ⊢
    omega
  have e4 : (bytesOf S ++ num4 (ep : Int) ++ num4 (rss.length : Int) ++ recF rss ++ post).take 32 = bytesOf S := by
    rw [← hSl, show bytesOf S ++ num4 (ep : Int) ++ num4 (rss.length : Int) ++ recF rss ++ post = bytesOf S ++ (num4 (ep : Int) ++ num4 (rss.length : Int) ++ recF rss ++ post) by simp, List.take_left]
  have e5 : ((bytesOf S ++ num4 (ep : Int) ++ num4 (rss.length : Int) ++ recF rss ++ post).take (40 + lenF rss)).drop 32 = bodyF ep rss := by
    rw [← hlr, List.take_left, ← hSl, show bytesOf S ++ num4 (ep : Int) ++ num4 (rss.length : Int) ++ recF rss = bytesOf S ++ bodyF ep rss by simp [bodyF], List.drop_left]
  have e6 := decF_ok (sz := sz) (h := hd) hl (by rw [e2, Int.toNat_natCast]; exact e3) (by
    rw [e1, e2, Int.toNat_natCast, Int.toNat_natCast, e4, e5, strOf_bytesOf, hS]
    rintro (h | h | h)
    · exact h0 (List.length_eq_zero_iff.1 h)
    · exact h.2 (hc h.1)
    · exact h rfl)
  rw [e6, e1, Int.toNat_natCast, e4, strOf_bytesOf, hS]
theorem raw_len (la : ByteArray) (us ep : Nat) (rss : List (List Int)) : (rawF la us ep rss).length = 40 + lenF rss := by
  unfold rawF
  rw [List.length_append, bytesOf_length, sumJ_size, bodyF_length]
  omega
theorem enc_len {sz : Nat} (hs : 0 < sz) (la : ByteArray) (us ep : Nat) (rss : List (List Int)) : (encF sz la us ep rss).length = (40 + lenF rss + sz - 1) / sz * sz := by
  unfold encF
  rw [List.length_append, List.length_replicate, raw_len]
  have := ceil_mul (a := 40 + lenF rss) hs
  omega
theorem raw_byts {la : ByteArray} {us ep : Nat} {rss : List (List Int)} (hr : Recs rss) (hep : ep < 4294967296) (hn : rss.length < 4294967296) : Byts (rawF la us ep rss) := by
  unfold rawF bodyF
  exact (Byts.ofString _).append (((Byts.num4 (by omega) (by omega)).append (Byts.num4 (by omega) (by omega))).append (Byts.recF hr))
theorem enc_byts {sz : Nat} {la : ByteArray} {us ep : Nat} {rss : List (List Int)} (hr : Recs rss) (hep : ep < 4294967296) (hn : rss.length < 4294967296) : Byts (encF sz la us ep rss) := (raw_byts hr hep hn).append (Byts.zeros _)
/-- The half behind a batch. -/
def nextH (sz : Nat) (hd : Hf) (ep : Nat) (rss : List (List Int)) : Hf := ⟨ep, hd.ba + 1, hd.us + (40 + lenF rss + sz - 1) / sz, sumJ hd.la hd.us (bodyF ep rss), hd.rs ++ rss⟩
theorem dec_enc {sz : Nat} {hd : Hf} {ep : Nat} {rss : List (List Int)} {post : List Int} (hr : Recs rss) (hq : Byts post) (hep : ep < 4294967296) (hn : rss.length < 4294967296) (h0 : rss ≠ []) (hc : 0 < hd.ba → ep = hd.ep) :
    decF sz hd (encF sz hd.la hd.us ep rss ++ post) = some (nextH sz hd ep rss) := by
  unfold encF nextH
  rw [List.append_assoc]
  exact dec_raw hr ((Byts.zeros _).append hq) hep hn h0 hc
end Go.Proofs.YtapapedpecpfgaaDoor.J
