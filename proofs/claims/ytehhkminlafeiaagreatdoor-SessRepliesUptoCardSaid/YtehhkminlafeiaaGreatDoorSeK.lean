import Derived.Test.YtehhkminlafeiaaGreatDoorSeJ
import Derived.Test.YtehhkminlafeiaaGreatDoorAmSep
set_option linter.all false
/- sess: the laws SessMakes, SessReplies -/
set_option maxHeartbeats 16000000
namespace Go.AM.Cap
open Go.AM Go.Proofs

/-! ### SessReplies -/
def amongJ (x n : Int) : Int := (IntKind.i64.wrap (x.tmod n + n)).tmod n
theorem samong_eq (x n : Int) (hn : n ≠ 0) : A_law25_among [i64 x, i64 n] = ret (i64 (amongJ x n)) := eq_ret fun H => by
  show wp (F_law25_among (i64 x) (i64 n)) _ H
  (try simp (maxSteps := 1000000) (disch := first | omega | (simp only [Heap.next_push', Heap.next_set']; omega) | (simp; done) | assumption | decide | (refine not_not_intro ?_; assumption)) only [Z1, Z2, splice, F_law25_among, int_rem])
  exact ⟨rfl, trivial⟩
theorem amongJ_range (x n : Int) (h0 : 0 < n) (h1 : n ≤ 1000000) : 0 ≤ amongJ x n ∧ amongJ x n < n := by
  have a := Int.lt_tmod_of_pos x h0
  have b := Int.tmod_lt_of_pos x h0
  unfold amongJ
  rw [i64_in (n := x.tmod n + n) (by omega) (by omega)]
  exact ⟨Int.tmod_nonneg _ (by omega), Int.tmod_lt_of_pos _ h0⟩
theorem read_reply {k : ByteArray} {id n : Int} {says : List It} (h : (packS k (replyI :: numI id :: numI n :: says)).2 = 0) (hid : 1 ≤ id ∧ id ≤ 1073741824) (hn : 1 ≤ n ∧ n ≤ 1073741824) (hs : ∀ x ∈ says, okI x) :
    readS k (packS k (replyI :: numI id :: numI n :: says)).1 = (id, n, says, 0) ∧ saysOf (packS k (replyI :: numI id :: numI n :: says)).1 = none := by
  rw [packS_two] at h
  have hd := dec_enc h (fun x hx => by
    rcases List.mem_cons.1 hx with rfl | hx
    · exact ⟨by decide, by decide⟩
    · rcases List.mem_cons.1 hx with rfl | hx
      · exact ⟨by show -9223372036854775808 ≤ id; omega, by show id ≤ 9223372036854775807; omega⟩
      · rcases List.mem_cons.1 hx with rfl | hx
        · exact ⟨by show -9223372036854775808 ≤ n; omega, by show n ≤ 9223372036854775807; omega⟩
        · exact hs x hx)
  have e : (packS k (replyI :: numI id :: numI n :: says)).1 = sealS k (encI (replyI :: numI id :: numI n :: says)).1 := by unfold packS; rw [if_pos h]
  rw [e]
  constructor
  · unfold readS
    rw [open_seal]
    dsimp only
    rw [if_neg (by simp), hd, if_pos rfl]
    dsimp only
    rw [readL_cons, if_pos rfl, numbersS_num hid hn]
    rfl
  · unfold saysOf
    rw [if_neg (by rw [seal_size]; omega), body_seal, hd, if_pos rfl]
    rfl
theorem read_message {k : ByteArray} {id n : Int} {says : List It} (h : (messageS k id n says).2 = 0) (hid : 1 ≤ id ∧ id ≤ 1073741824) (hn : 1 ≤ n ∧ n ≤ 1073741824) (hs : ∀ x ∈ says, okI x) : (readS k (messageS k id n says).1).2.2.2 = 3 := by
  obtain ⟨he, hm⟩ := message_form h
  rw [hm]
  have hd := dec_enc he (fun x hx => by
    rcases List.mem_cons.1 hx with rfl | hx
    · exact ⟨by show -9223372036854775808 ≤ id; omega, by show id ≤ 9223372036854775807; omega⟩
    · rcases List.mem_cons.1 hx with rfl | hx
      · exact ⟨by show -9223372036854775808 ≤ n; omega, by show n ≤ 9223372036854775807; omega⟩
      · exact hs x hx)
  unfold readS
  rw [open_seal]
  dsimp only
  rw [if_neg (by simp), hd, if_pos rfl]
  dsimp only
  rw [readL_cons, if_neg (by simp [numI, replyI])]
  rfl

set_option maxRecDepth 20000 in
theorem SessReplies_ok {H : Heap} {G : List V → M V} (hb : Base H) (hT : Tok H) (number : Int) {v : V} {says : List It} (hs : Sl H v says) (hok : ∀ x ∈ says, okI x) (hsl : says.length ≤ 1048576) (Q : V → Heap → Prop) (hQ : ∀ H', Keeps [] H H' → Q (.bool true) H') :
    wp (A_law25_SessReplies G asF [i64 number, v]) Q H := by
  show wp (F_law25_SessReplies G asF (i64 number) v) Q H
  unfold F_law25_SessReplies
  rw [wp_bnd, wp_bnd]
  refine desk_ok (Hp.start H) hb 1000 (by decide) _ fun d H1 h1 ok1 => ?_
  have h1' := h1
  obtain ⟨uv, icv, cv, isv, sv', st1⟩ := h1
  (try simp (maxSteps := 1000000) (disch := first | omega | (simp only [Heap.next_push', Heap.next_set']; omega) | (simp; done) | assumption | decide | (refine not_not_intro ?_; assumption)) only [Z1, Z2, splice])
  refine sworks_ok st1 hb hT _ fun H2 st2 => ?_
  have h2 : DeskAt H H2 d (oneD 1000) [] := ⟨_, _, _, _, _, st2⟩
  have hm := samong_eq number 1000 (by decide)
  obtain ⟨r1, r2⟩ := amongJ_range number 1000 (by decide) (by decide)
  generalize amongJ number 1000 = z at *
  (try simp (maxSteps := 1000000) (disch := first | omega | (simp only [Heap.next_push', Heap.next_set']; omega) | (simp; done) | assumption | decide | (refine not_not_intro ?_; assumption)) only [Z1, Z2, splice, law25_SessReplies_k2, hm])
  have hk32 : keyK.size = 32 := prove_size _ _ _
  refine reply_ok hb h2 ok1 (hs.keep0 h2.keeps) hsl 1 (1 + z) _ fun H3 k3 => ?_
  have h3 := h2.keep0 k3
  (try simp (maxSteps := 1000000) (disch := first | omega | (simp only [Heap.next_push', Heap.next_set']; omega) | (simp; done) | assumption | decide | (refine not_not_intro ?_; assumption)) only [Z1, Z2, splice])
  refine message_ok (hb.keep h3.keeps) keyK (by omega) (hs.keep0 h3.keeps) hsl 1 (1 + z) _ fun H4 k4 => ?_
  have h4 := h3.keep0 k4
  have er : replyD (oneD 1000) 1 (1 + z) says = packS keyK (replyI :: numI 1 :: numI (1 + z) :: says) := by
    unfold replyD
    rw [show idxP (fun e : Int × Se => decide (1 = e.1)) (oneD 1000).sl = some 0 from rfl]
    dsimp only
    rw [if_neg (by omega)]
    rfl
  rw [er]
  by_cases he : (packS keyK (replyI :: numI 1 :: numI (1 + z) :: says)).2 = 0
  case neg =>
    have e1 : (packS keyK (replyI :: numI 1 :: numI (1 + z) :: says)).1 = ⟨#[]⟩ := by
      rw [packS_two] at he
      unfold packS
      rw [if_neg he]
    (try simp (maxSteps := 1000000) (disch := first | omega | (simp only [Heap.next_push', Heap.next_set']; omega) | (simp; done) | assumption | decide | (refine not_not_intro ?_; assumption)) only [Z1, Z2, splice, e1])
    exact hQ _ h4.keeps
  obtain ⟨hrd, hsy⟩ := read_reply he (by decide) (show 1 ≤ 1 + z ∧ 1 + z ≤ 1073741824 by omega) hok
  have hmg := fun h => read_message (k := keyK) (id := 1) (n := 1 + z) (says := says) h (by decide) (by omega) hok
  have hz1 : (packS keyK (replyI :: numI 1 :: numI (1 + z) :: says)).1.size ≤ 65568 := by
    have hz := encI_size (replyI :: numI 1 :: numI (1 + z) :: says)
    unfold packS
    split
    · show (sealS keyK _).size ≤ _
      rw [seal_size]; omega
    · show (⟨#[]⟩ : ByteArray).size ≤ 65568
      decide
  have hz2 := message_size (k := keyK) (id := 1) (n := 1 + z) (says := says)
  generalize packS keyK (replyI :: numI 1 :: numI (1 + z) :: says) = p at *
  generalize messageS keyK 1 (1 + z) says = m at *
  rw [he]
  (try simp (maxSteps := 1000000) (disch := first | omega | (simp only [Heap.next_push', Heap.next_set']; omega) | (simp; done) | assumption | decide | (refine not_not_intro ?_; assumption)) only [Z1, Z2, splice, law25_SessReplies_k1])
  refine read_ok (hb.keep h4.keeps) (hT.keep0 h4.keeps) keyK p.1 (by omega) (by omega) _ fun w H5 k5 s5 => ?_
  have h5 := h4.keep0 k5
  rw [hrd] at s5 ⊢
  dsimp only at s5 ⊢
  (try simp (maxSteps := 1000000) (disch := first | omega | (simp only [Heap.next_push', Heap.next_set']; omega) | (simp; done) | assumption | decide | (refine not_not_intro ?_; assumption)) only [Z1, Z2, splice])
  refine same_ok s5 (hs.keep0 h5.keeps) (by omega) _ ?_
  rw [decide_eq_true rfl]
  (try simp (maxSteps := 1000000) (disch := first | omega | (simp only [Heap.next_push', Heap.next_set']; omega) | (simp; done) | assumption | decide | (refine not_not_intro ?_; assumption)) only [Z1, Z2, splice, law25_SessReplies_k0])
  have hop : openD (oneD 1000) p.1 = ((0, ⟨#[]⟩, [], 3), oneD 1000) := by unfold openD; rw [hsy]
  refine open_ok hb hT h5 ok1 (by omega) p.1 (by omega) _ fun w6 H6 h6 => ?_
  rw [hop] at h6 ⊢
  dsimp only
  (try simp (maxSteps := 1000000) (disch := first | omega | (simp only [Heap.next_push', Heap.next_set']; omega) | (simp; done) | assumption | decide | (refine not_not_intro ?_; assumption)) only [Z1, Z2, splice])
  refine read_ok (hb.keep h6.keeps) (hT.keep0 h6.keeps) keyK m.1 (by omega) (by omega) _ fun w7 H7 k7 s7 => ?_
  have h7 := h6.keep0 k7
  by_cases hf : m.2 = 0
  · have hmg' := hmg hf
    (try simp (maxSteps := 1000000) (disch := first | omega | (simp only [Heap.next_push', Heap.next_set']; omega) | (simp; done) | assumption | decide | (refine not_not_intro ?_; assumption)) only [Z1, Z2, splice, hmg', hf])
    exact hQ _ h7.keeps
  · (try simp (maxSteps := 1000000) (disch := first | omega | (simp only [Heap.next_push', Heap.next_set']; omega) | (simp; done) | assumption | decide | (refine not_not_intro ?_; assumption)) only [Z1, Z2, splice])
    exact hQ _ h7.keeps
end Go.AM.Cap
