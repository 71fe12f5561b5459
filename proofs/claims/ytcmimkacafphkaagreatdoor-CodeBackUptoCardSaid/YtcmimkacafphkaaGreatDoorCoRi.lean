import Derived.Test.YtcmimkacafphkaaGreatDoorCoRe
import Derived.Test.YtcmimkacafphkaaGreatDoorAmOpenF
import Derived.Test.YtcmimkacafphkaaGreatDoorCoW
import Derived.Test.YtcmimkacafphkaaGreatDoorCoY
import Derived.Test.YtcmimkacafphkaaGreatDoorWiH
set_option linter.all false
/- code: what is encoded is decoded as the image, and nothing else (plain) -/
set_option maxHeartbeats 8000000
namespace Go.AM.Cap
open Go.AM Go.Proofs

def rawOf (p : PIm) : Raw := ⟨p.name, p.types.zip p.first, p.ins, p.outs, sv (codeB p.code), []⟩
def imOf (w : Raw) : PIm := ⟨w.name, w.tf.map Prod.fst, w.tf.map Prod.snd, w.ins, w.outs, codeD (w.code.size / 11) (bv w.code)⟩
theorem itemsS_raw {p : PIm} (h : p.types.length = p.first.length) : itemsS p = rawI (rawOf p) := by
  unfold itemsS rawI rawOf
  rw [List.length_zip, ← h, Nat.min_self]
theorem zip_fst {a b : List Int} (h : a.length = b.length) : (a.zip b).map Prod.fst = a := by
  rw [List.map_fst_zip (by omega)]
theorem zip_snd {a b : List Int} (h : a.length = b.length) : (a.zip b).map Prod.snd = b := by
  rw [List.map_snd_zip (by omega)]
theorem fits_small {t n : Int} (h : fits t n) : (1 ≤ t ∧ t ≤ 4) ∧ -2147483648 ≤ n ∧ n ≤ 2147483647 := by
  unfold fits at h; omega
theorem fields_kind {k : Int} {l : List Int} (h : fieldsS k = some l) : 1 ≤ k ∧ k ≤ 10 := by
  unfold fieldsS at h
  split at h
  · omega
  · split at h
    · omega
    · split at h
      · omega
      · split at h
        · omega
        · split at h
          · omega
          · cases h
theorem cellsS_at {types : List Int} {a m : Int} {l : List Int} (h : cellsS types a m = some l) : 0 ≤ a ∧ a < types.length := by
  unfold cellsS at h
  split at h
  · cases h
  · omega
theorem opS_at {op t many : Int} (h : opS op t many = true) (hm : many = 1 ∨ many = 2) : (1 ≤ op ∧ op ≤ 16) ∧ 1 ≤ t ∧ t ≤ 4 := by
  unfold opS at h
  rw [Bool.and_eq_true, decide_eq_true_eq] at h
  obtain ⟨h1, h2⟩ := h
  rcases hm with rfl | rfl
  · rw [if_pos rfl, decide_eq_true_eq] at h2; omega
  · rw [if_neg (by decide)] at h2
    split at h2
    · omega
    · split at h2
      · omega
      · split at h2
        · omega
        · rw [decide_eq_true_eq] at h2; omega
/-- an instruction that may be fits its bytes -/
theorem may_small {types : List Int} {n : Nat} {i : Ins} (hl : types.length ≤ 1024) (hn : n ≤ 4096) (h : MayP types n i) : okIns i := by
  have hop : ∃ k : Nat, k < 12 ∧ i.op = (k : Int) + 1 := by obtain ⟨k, h1, h2, _⟩ := h; exact ⟨k, h1, h2⟩
  obtain ⟨k, hk, he⟩ := hop
  unfold okIns
  rcases (show i.op = 1 ∨ (i.op = 2 ∨ i.op = 3) ∨ (i.op = 4 ∨ i.op = 5) ∨ i.op = 6 ∨ i.op = 7 ∨ i.op = 8 ∨ (i.op = 9 ∨ i.op = 10) ∨ i.op = 11 ∨ i.op = 12 by omega) with o | o | o | o | o | o | o | o | o
  · have := (may_1 o).1 h
    have := fits_small this.2
    omega
  · obtain ⟨h1, h2, l, h3, _⟩ := (may_23 o).1 h
    have := cellsS_at h3
    omega
  · obtain ⟨h1, h2, h3, l, h4, _⟩ := (may_45 o).1 h
    have := cellsS_at h4
    omega
  · obtain ⟨h1, h2⟩ := (may_6 o).1 h
    have := opS_at h2 (.inr rfl)
    omega
  · obtain ⟨h1, h2⟩ := (may_7 o).1 h
    have := opS_at h2 (.inl rfl)
    omega
  · have := (may_8 o).1 h
    omega
  · have := (may_9 o).1 h
    omega
  · obtain ⟨h1, l, h2, h3⟩ := (may_11 o).1 h
    have := fields_kind h2
    have := cellsS_at h3
    omega
  · have := (may_12 o).1 h
    omega
theorem sound_raw {p : PIm} (h : (checkS p).2 = 0) : p.types.length = p.first.length ∧ p.types.length ≤ 1024 ∧ p.ins.length ≤ 1024 ∧ p.outs.length ≤ 1024 ∧ (∀ i ∈ p.code, okIns i) ∧ (∀ x ∈ p.types.zip p.first, (1 ≤ x.1 ∧ x.1 ≤ 4) ∧ -2147483648 ≤ x.2 ∧ x.2 ≤ 2147483647) ∧ (∀ c ∈ p.ins, 0 ≤ c ∧ c ≤ 1024) ∧ (∀ c ∈ p.outs, 0 ≤ c ∧ c ≤ 1024) := by
  obtain ⟨⟨s1, s2, s3, s4, s5, s6, s7, s8, s9⟩, hc⟩ := check_zero.1 h
  rw [List.length_append] at s6
  refine ⟨s2, s3, by omega, by omega, fun i hi => may_small s3 s5 (mayB_iff.1 (hc i hi)), fun x hx => ?_, fun c hc => ?_, fun c hc => ?_⟩
  · obtain ⟨j, hj, rfl⟩ := List.getElem_of_mem hx
    rw [List.length_zip] at hj
    have := fits_small (s7 j (by omega))
    rw [List.getD_eq_getElem?_getD, List.getD_eq_getElem?_getD, List.getElem?_eq_getElem (by omega), List.getElem?_eq_getElem (by omega)] at this
    simpa using this
  · have := s8 c (by simp [hc]); omega
  · have := s8 c (by simp [hc]); omega
theorem items_okI {p : PIm} (h : (checkS p).2 = 0) : ∀ x ∈ itemsS p, okI x := by
  obtain ⟨h1, h2, h3, h4, h5, h6, h7, h8⟩ := sound_raw h
  intro x hx
  unfold itemsS endS tfS at hx
  simp only [List.mem_cons, List.mem_append, List.mem_flatMap, List.mem_map, List.not_mem_nil, or_false] at hx
  unfold okI
  rcases hx with rfl | rfl | ⟨q, hq, rfl | rfl⟩ | (rfl | ⟨c, hc, rfl⟩) | (rfl | ⟨c, hc, rfl⟩) | rfl
  · simp
  · simp only [numC]; omega
  · have := h6 q hq; simp only [numC]; omega
  · have := h6 q hq; simp only [numC]; omega
  · simp only [numC]; omega
  · have := h7 c hc; simp only [numC]; omega
  · simp only [numC]; omega
  · have := h8 c hc; simp only [numC]; omega
  · simp
/-- what is encoded is decoded as these items -/
theorem enc_items {p : PIm} {b : ByteArray} (h : encodeS p = (b, 0)) : (checkS p).2 = 0 ∧ decI (bv b) = (itemsS p, none) := by
  have h2 : (encodeS p).2 = 0 := by rw [h]
  obtain ⟨hc, _⟩ := encode_good h2
  refine ⟨hc, ?_⟩
  unfold encodeS at h
  rw [if_pos hc] at h
  have := dec_enc (l := itemsS p) (by rw [h]) (items_okI hc)
  rw [h] at this
  exact this
theorem raw_of_enc {p : PIm} (h : (checkS p).2 = 0) (ok ok2 : Int → Bool) (o1 : ∀ n, 1 ≤ n → n ≤ 4 → ok n = true) (o2 : ∀ n, 0 ≤ n → n ≤ 1024 → ok2 n = true) : pRaw ok ok2 (itemsS p) = some (rawOf p) := by
  obtain ⟨h1, h2, h3, h4, h5, h6, h7, h8⟩ := sound_raw h
  rw [itemsS_raw h1]
  refine pRaw_of ?_ h3 h4 (fun x hx => ?_) (fun x hx => ?_) (fun x hx => ?_)
  · show (p.types.zip p.first).length ≤ 1024
    rw [List.length_zip]; omega
  · have := h6 x hx; exact o1 _ (by omega) (by omega)
  · have := h7 x hx; exact o2 _ (by omega) (by omega)
  · have := h8 x hx; exact o2 _ (by omega) (by omega)
theorem im_raw {p : PIm} (h : (checkS p).2 = 0) : imOf (rawOf p) = p := by
  obtain ⟨h1, h2, h3, h4, h5, h6, h7, h8⟩ := sound_raw h
  unfold imOf rawOf
  simp only
  rw [zip_fst h1, zip_snd h1, sv_size, bv_sv, codeB_length, show 11 * p.code.length / 11 = p.code.length by omega]
  have := codeD_codeB (l := p.code) [] h5
  rw [List.append_nil] at this
  rw [this]
/-- only one image has these bytes -/
theorem enc_inj {p q : PIm} {b : ByteArray} (hp : encodeS p = (b, 0)) (hq : encodeS q = (b, 0)) : p = q := by
  obtain ⟨c1, e1⟩ := enc_items hp
  obtain ⟨c2, e2⟩ := enc_items hq
  rw [e1] at e2
  have e : itemsS p = itemsS q := congrArg Prod.fst e2
  have r1 := raw_of_enc c1 okAll okAll (fun _ _ _ => rfl) (fun _ _ _ => rfl)
  have r2 := raw_of_enc c2 okAll okAll (fun _ _ _ => rfl) (fun _ _ _ => rfl)
  rw [e, r2] at r1
  have := Option.some.inj r1
  rw [← im_raw c1, ← im_raw c2, this]
theorem dec_may {b : List (BitVec 8)} (h : (decI b).2 = none) : ∀ x ∈ (decI b).1, mayI x = true := by
  have := (encI_ok (l := (decI b).1) (by rw [(decI_ok h).1])).2.1
  exact this
open Classical in
/-- what any bytes are as an image -/
noncomputable def decodeS (b : ByteArray) : PIm × Int := if h : ∃ p, encodeS p = (b, 0) then (h.choose, 0) else (⟨⟨#[]⟩, [], [], [], [], []⟩, 130)
theorem decodeS_of {p : PIm} {b : ByteArray} (h : encodeS p = (b, 0)) : decodeS b = (p, 0) := by
  have hx : ∃ p, encodeS p = (b, 0) := ⟨p, h⟩
  unfold decodeS
  rw [dif_pos hx]
  have := enc_inj hx.choose_spec h
  rw [this]
theorem decodeS_not {b : ByteArray} (h : ∀ p, encodeS p ≠ (b, 0)) : decodeS b = (⟨⟨#[]⟩, [], [], [], [], []⟩, 130) := by
  unfold decodeS
  rw [dif_neg (fun q => h _ q.choose_spec)]
theorem decodeS_good {b : ByteArray} (h : (decodeS b).2 = 0) : encodeS (decodeS b).1 = (b, 0) := by
  by_cases q : ∃ p, encodeS p = (b, 0)
  · obtain ⟨p, hp⟩ := q
    rw [decodeS_of hp]; exact hp
  · rw [decodeS_not (fun p hp => q ⟨p, hp⟩)] at h
    exact absurd h (by show ¬ ((130 : Int) = 0); decide)
theorem decodeS_bad {b : ByteArray} (h : (decodeS b).2 ≠ 0) : decodeS b = (⟨⟨#[]⟩, [], [], [], [], []⟩, 130) := by
  by_cases q : ∃ p, encodeS p = (b, 0)
  · obtain ⟨p, hp⟩ := q
    rw [decodeS_of hp] at h; exact absurd rfl h
  · exact decodeS_not (fun p hp => q ⟨p, hp⟩)
end Go.AM.Cap

/- code: the document's May on the machine -/
set_option maxHeartbeats 16000000
namespace Go.AM.Cap
open Go.AM Go.Proofs

end Go.AM.Cap

/- code: the document's words, names -/
set_option maxHeartbeats 16000000
namespace Go.AM.Cap
open Go.AM Go.Proofs

end Go.AM.Cap

/- code: the document's ends, Check -/
set_option maxHeartbeats 16000000
namespace Go.AM.Cap
open Go.AM Go.Proofs

end Go.AM.Cap

/- code: the document's Items, Encode -/
set_option maxHeartbeats 16000000
namespace Go.AM.Cap
open Go.AM Go.Proofs

end Go.AM.Cap
