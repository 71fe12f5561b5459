import Derived.Test.YtehhkminlafeiaaGreatDoorSeJ
import Derived.Test.YtehhkminlafeiaaGreatDoorAmIn
set_option linter.all false
/- sess: the laws SessMakes, SessReplies -/
set_option maxHeartbeats 16000000
namespace Go.AM.Cap
open Go.AM Go.Proofs

/-- what a message is made of -/
structure Gv where
  key : ByteArray
  ses : Int
  num : Int
  says : In It
instance : Inhabited Gv := ⟨⟨⟨#[]⟩, 0, 0, default⟩⟩
instance : Flat Gv := ⟨4, fun g => [.string g.key, i64 g.ses, i64 g.num, g.says.v], fun _ => rfl, fun g => by simp [g.says.one], by decide⟩
theorem enc_gv (g : Gv) : Flat.enc g = [.string g.key, i64 g.ses, i64 g.num, g.says.v] := rfl
theorem gv_one (g : Gv) : ([.string g.key, i64 g.ses, i64 g.num, g.says.v] : List V).all Value.isOne = true := by simp [g.says.one]

theorem decI_len (b : List (BitVec 8)) : (decI b).1.length ≤ 1000 := by
  cases hd : (decI b).2 with
  | none => exact (decI_ok hd).2
  | some e => rw [(decI_bad hd).1]; simp
theorem numbersS_len {l : List It} {a b : Int} {r : List It} (h : numbersS l = some (a, b, r)) : r.length ≤ l.length := by
  obtain ⟨rfl, _⟩ := numbersS_drop h
  rw [List.length_drop]; omega
theorem readS_len (k s : ByteArray) : (readS k s).2.2.1.length ≤ 1000 := by
  unfold readS
  split
  · simp
  · split
    · have hd := decI_len (bv (openS k s).1)
      cases hr : readL (decI (bv (openS k s).1)).1 with
      | none => simp [readR]
      | some p =>
        obtain ⟨a, b, r⟩ := p
        obtain ⟨x, t, e, _, hn⟩ := readL_need hr
        rw [e] at hd
        have := numbersS_len hn
        simp only [readR]
        simp only [List.length_cons] at hd
        omega
    · simp [readR]

set_option maxRecDepth 20000 in
theorem SessMakes_ok {H : Heap} {G : List V → M V} (hb : Base H) (hT : Tok H) (g : Gv) (hs : Sl H g.says.v g.says.xs) (hk : g.key.size ≤ 1048576) (hsl : g.says.xs.length ≤ 1048576) (nonce reply : ByteArray) (hn : nonce.size ≤ 1048576) (hr : reply.size ≤ 1048576) (Q : V → Heap → Prop) (hQ : ∀ H', Keeps [] H H' → Q (.bool true) H') :
    wp (A_law25_SessMakes asF G [.agg (Flat.enc g).toArray, .string nonce, .string reply]) Q H := by
  show wp (F_law25_SessMakes asF G (.agg (Flat.enc g).toArray) (.string nonce) (.string reply)) Q H
  have ho := gv_one g
  unfold F_law25_SessMakes
  rw [wp_bnd, wp_bnd, enc_gv]
  refine (wp_boxg ho).mpr ?_
  have k1 : Keeps [] H (H.push (some (.cells true [.string g.key, i64 g.ses, i64 g.num, g.says.v]))) := Keeps.push _ _ _
  have g1 : (H.push (some (.cells true [.string g.key, i64 g.ses, i64 g.num, g.says.v]))).get H.next = some (.cells true [.string g.key, i64 g.ses, i64 g.num, g.says.v]) := Heap.get_push_self _ _
  generalize H.push (some (.cells true [.string g.key, i64 g.ses, i64 g.num, g.says.v])) = H1 at *
  (try simp (maxSteps := 1000000) (disch := first | omega | (simp only [Heap.next_push', Heap.next_set']; omega) | (simp; done) | assumption | decide | (refine not_not_intro ?_; assumption)) only [Z1, Z2, splice, g1])
  refine prove_ok (hb.keep k1) g.key nonce g.ses hk hn _ fun H2 k2 => ?_
  have g2 := k2.get g1 (by simp)
  have k02 : Keeps [] H H2 := k1.trans k2 (by simp)
  (try simp (maxSteps := 1000000) (disch := first | omega | (simp only [Heap.next_push', Heap.next_set']; omega) | (simp; done) | assumption | decide | (refine not_not_intro ?_; assumption)) only [Z1, Z2, splice, g2])
  refine rprove_ok g.key nonce g.ses hk hn _ fun H3 k3 => ?_
  have g3 := k3.get g2 (by simp)
  have k03 : Keeps [] H H3 := k02.trans k3 (by simp)
  (try simp (maxSteps := 1000000) (disch := first | omega | (simp only [Heap.next_push', Heap.next_set']; omega) | (simp; done) | assumption | decide | (refine not_not_intro ?_; assumption)) only [Z1, Z2, splice, g3])
  refine message_ok (hb.keep k03) g.key hk (hs.keep0 k03) hsl g.ses g.num _ fun H4 k4 => ?_
  have g4 := k4.get g3 (by simp)
  have k04 : Keeps [] H H4 := k03.trans k4 (by simp)
  (try simp (maxSteps := 1000000) (disch := first | omega | (simp only [Heap.next_push', Heap.next_set']; omega) | (simp; done) | assumption | decide | (refine not_not_intro ?_; assumption)) only [Z1, Z2, splice, g4])
  refine rmessage_ok g.key hk (hs.keep0 k04) hsl g.ses g.num _ fun H5 k5 => ?_
  have g5 := k5.get g4 (by simp)
  have k05 : Keeps [] H H5 := k04.trans k5 (by simp)
  (try simp (maxSteps := 1000000) (disch := first | omega | (simp only [Heap.next_push', Heap.next_set']; omega) | (simp; done) | assumption | decide | (refine not_not_intro ?_; assumption)) only [Z1, Z2, splice, g5])
  refine read_ok (hb.keep k05) (hT.keep0 k05) g.key reply hk hr _ fun w6 H6 k6 s6 => ?_
  have g6 := k6.get g5 (by simp)
  have k06 : Keeps [] H H6 := k05.trans k6 (by simp)
  (try simp (maxSteps := 1000000) (disch := first | omega | (simp only [Heap.next_push', Heap.next_set']; omega) | (simp; done) | assumption | decide | (refine not_not_intro ?_; assumption)) only [Z1, Z2, splice, g6])
  refine rread_ok g.key reply hk hr _ fun w7 H7 k7 s7 => ?_
  have k07 : Keeps [] H H7 := k06.trans k7 (by simp)
  have hlen : (readS g.key reply).2.2.1.length ≤ 1000000000 := by have := readS_len g.key reply; omega
  (try simp (maxSteps := 1000000) (disch := first | omega | (simp only [Heap.next_push', Heap.next_set']; omega) | (simp; done) | assumption | decide | (refine not_not_intro ?_; assumption)) only [Z1, Z2, splice])
  refine same_ok (s6.keep0 k7) s7 hlen _ ?_
  rw [decide_eq_true rfl]
  (try simp (maxSteps := 1000000) (disch := first | omega | (simp only [Heap.next_push', Heap.next_set']; omega) | (simp; done) | assumption | decide | (refine not_not_intro ?_; assumption)) only [Z1, Z2, splice])
  refine sworks_ok (Hp.start H7) (hb.keep k07) (hT.keep0 k07) _ fun H8 h8 => ?_
  (try simp (maxSteps := 1000000) (disch := first | omega | (simp only [Heap.next_push', Heap.next_set']; omega) | (simp; done) | assumption | decide | (refine not_not_intro ?_; assumption)) only [Z1, Z2, splice])
  exact hQ _ (k07.trans h8.keeps (by simp))

end Go.AM.Cap
