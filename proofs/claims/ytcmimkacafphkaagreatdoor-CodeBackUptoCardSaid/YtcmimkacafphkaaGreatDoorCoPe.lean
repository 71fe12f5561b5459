import Derived.Test.YtcmimkacafphkaaGreatDoorCoPd
import Derived.Test.YtcmimkacafphkaaGreatDoorAmOpenF
set_option linter.all false
/- code: Decode on the machine -/
set_option maxHeartbeats 16000000
namespace Go.AM.Cap
open Go.AM Go.Proofs

def im0 : Im := ⟨⟨#[]⟩, default, default, default, default, default⟩
theorem im0_at (H : Heap) : ImAt H im0 := ⟨Sl.nil _, Sl.nil _, Sl.nil _, Sl.nil _, Sl.nil _⟩
theorem fault_iff {d : List It × Option (Int × Int)} (h : ∀ e, d.2 = some e → e.2 ≠ 0) : decide ((faultOf d.2).1 = 0 ∧ (faultOf d.2).2 = 0) = d.2.isNone := by
  cases hd : d.2 with
  | none => rfl
  | some e =>
    have := h e hd
    simp [faultOf, this]
theorem code_decode_ok {H : Heap} {G : List V → M V} (hT : Tok H) (hm : MaxL H) (b : ByteArray)
    (Q : V → Heap → Prop) (hQ : ∀ (y : Im) H', Keeps [] H H' → ImAt H' y → y.p = (decodeS b).1 → Q (.tuple #[.agg (Flat.enc y).toArray, i64 (decodeS b).2]) H') : wp (A_code_Decode asF G containsF [.string b]) Q H := by
  show wp (F_code_Decode asF G containsF (.string b)) Q H
  unfold F_code_Decode
  rw [wp_bnd, wp_bnd]
  refine (wp_newcg (by rfl)).mpr ?_
  have k1 := Keeps.push [] H (some (.cells true [.string ⟨#[]⟩, .slice none 0 0, .slice none 0 0, .slice none 0 0, .slice none 0 0, .slice none 0 0]))
  have g1 := Heap.get_push_self H (some (.cells true [.string ⟨#[]⟩, .slice none 0 0, .slice none 0 0, .slice none 0 0, .slice none 0 0, .slice none 0 0]))
  have n1 : (H.push (some (.cells true [.string ⟨#[]⟩, .slice none 0 0, .slice none 0 0, .slice none 0 0, .slice none 0 0, .slice none 0 0]))).next = H.next + 1 := by simp
  generalize H.push (some (.cells true [.string ⟨#[]⟩, .slice none 0 0, .slice none 0 0, .slice none 0 0, .slice none 0 0, .slice none 0 0])) = H1 at *
  generalize hr : H.next = r at *
  (try simp (maxSteps := 1000000) (disch := first | omega | (simp only [Z3]; omega) | (simp; done) | assumption | decide | (refine not_not_intro ?_; assumption)) only [Z1, Z2, splice])
  refine dec_ok (hT.keep0 k1) b _ fun w H2 k2 ow _ => ?_
  have g2 := k2.get g1 (by simp)
  have hr2 := Heap.get_lt g2
  have hdb : ∀ e, (decI (bv b)).2 = some e → e.2 ≠ 0 := fun e he => (decI_bad he).2
  have hdl : ∀ e, (decI (bv b)).2 = some e → (decI (bv b)).1 = [] := fun e he => (decI_bad he).1
  have hmay : ∀ x ∈ (decI (bv b)).1, mayI x = true := fun x hx => by
    cases hd : (decI (bv b)).2 with
    | none => exact dec_may hd x hx
    | some e => rw [hdl e hd] at hx; simp at hx
  have hf := fault_iff hdb
  -- the state with which reading begins
  let σ0 : Option (List It) := if (decI (bv b)).2.isNone then some (decI (bv b)).1 else none
  have hσl : Sl H2 w (σ0.getD []) := by
    cases hd : (decI (bv b)).2 with
    | none =>
      have : σ0 = some (decI (bv b)).1 := by show (if _ then _ else _) = _; rw [hd]; rfl
      rw [this]; exact ow.sl
    | some e =>
      have : σ0 = none := by show (if _ then _ else _) = _; rw [hd]; rfl
      rw [this]
      have hs := ow.sl
      rw [hdl e hd] at hs
      exact hs
  have hσn : σ0.isNone = !(decI (bv b)).2.isNone := by
    show Option.isNone (if _ then _ else _) = _
    cases (decI (bv b)).2.isNone <;> rfl
  have hσm : ∀ x ∈ σ0.getD [], mayI x = true := by
    intro x hx
    cases hd : (decI (bv b)).2 with
    | none =>
      have : σ0 = some (decI (bv b)).1 := by show (if _ then _ else _) = _; rw [hd]; rfl
      rw [this] at hx; exact hmay x hx
    | some e =>
      have : σ0 = none := by show (if _ then _ else _) = _; rw [hd]; rfl
      rw [this] at hx; simp at hx
  have hσs : (decI (bv b)).2 = none → σ0 = some (decI (bv b)).1 := fun hd => by
    show (if _ then _ else _) = _; rw [hd]; rfl
  generalize hFo : faultOf (decI (bv b)).2 = fo at *
  generalize hDI : decI (bv b) = d at *
  have how := ow.isOne
  clear_value σ0
  (try simp (maxSteps := 1000000) (disch := first | omega | (simp only [Z3]; omega) | (simp; done) | assumption | decide | (refine not_not_intro ?_; assumption)) only [Z1, Z2, splice, how, eq_two, notIf_t, hf, hσn.symm])
  have hname : (tk true σ0).1 = (rd1 σ0).1 := rfl
  refine (wp_boxg (vs := [w, .bool σ0.isNone]) (by simp [how])).mpr ?_
  have s3 := ((Hp.start H2).push (some (Blk.cells true [i64 fo.fst, i64 fo.snd]))).newc [w, .bool σ0.isNone]
  generalize (H2.push (some (Blk.cells true [i64 fo.fst, i64 fo.snd]))).push (some (.cells true [w, .bool σ0.isNone])) = H3 at *
  generalize (H2.push (some (Blk.cells true [i64 fo.fst, i64 fo.snd]))).next = p at *
  refine take_ok hσl s3 true _ fun lv4 H4 hl4 s4 => ?_
  rw [enc_it]
  have hl4 : Sl H2 lv4 ((rd1 σ0).2.getD []) := hl4
  have s4 : Hp H2 H4 (cel p [lv4, .bool (rd1 σ0).2.isNone] :: []) := s4
  rw [hname]
  (try simp (maxSteps := 1000000) (disch := first | omega | (simp only [Z3]; omega) | (simp; done) | assumption | decide | (refine not_not_intro ?_; assumption)) only [Z1, Z2, splice])
  have s5 := (s4.newc [.string (rd1 σ0).1.s, .slice none 0 0, .slice none 0 0, .slice none 0 0, .slice none 0 0, .slice none 0 0]).perm (List.Perm.swap _ _ _)
  generalize H4.push (some (.cells true [.string (rd1 σ0).1.s, .slice none 0 0, .slice none 0 0, .slice none 0 0, .slice none 0 0, .slice none 0 0])) = H5 at *
  generalize H4.next = q at *
  refine many_ok hl4 s5 _ fun lv6 H6 hl6 s6 => ?_
  have hle := manyS_le (rd1 σ0).2
  obtain ⟨n, hn⟩ : ∃ n : Nat, (manyS (rd1 σ0).2).1 = n := ⟨(manyS (rd1 σ0).2).1.toNat, by omega⟩
  have hn2 : (rd2 σ0).1.toNat = n := by show (manyS (rd1 σ0).2).1.toNat = n; omega
  rw [hn] at hle ⊢
  have hl6 : Sl H2 lv6 ((rd2 σ0).2.getD []) := hl6
  have s6 : Hp H2 H6 (cel p [lv6, .bool (rd2 σ0).2.isNone] :: cel q [.string (rd1 σ0).1.s, .slice none 0 0, .slice none 0 0, .slice none 0 0, .slice none 0 0, .slice none 0 0] :: []) := s6
  (try simp (maxSteps := 1000000) (disch := first | omega | (simp only [Z3]; omega) | (simp; done) | assumption | decide | (refine not_not_intro ?_; assumption)) only [Z1, Z2, splice])
  refine dpairs_ok (by rfl) hl6 n (by omega) s6 _ fun lv7 w1 w2 H7 hl7 s7 => ?_
  have e3 : pairsS n (rd2 σ0).2 = rd3 σ0 := by unfold rd3; rw [hn2]
  rw [e3] at hl7 s7
  have len3 : (rd3 σ0).1.length ≤ 1024 := by rw [← e3, pairsS_length]; omega
  have o1 := (s7.own (i := 1) rfl).isOne
  have o2 := (s7.own (i := 2) rfl).isOne
  (try simp (maxSteps := 1000000) (disch := first | omega | (simp only [Z3]; omega) | (simp; done) | assumption | decide | (refine not_not_intro ?_; assumption)) only [Z1, Z2, splice, code_Decode_k8])
  refine rdList_ok hl7 s7 _ fun w3 lv8 H8 hl8 s8 => ?_
  have hl8 : Sl H2 lv8 ((rd4 σ0).2.getD []) := hl8
  have s8 : Hp H2 H8 (own w3 (rd4 σ0).1 :: cel p [lv8, .bool (rd4 σ0).2.isNone] :: own w1 ((rd3 σ0).1.map Prod.fst) :: own w2 ((rd3 σ0).1.map Prod.snd) :: cel q [.string (rd1 σ0).1.s, w1, w2, .slice none 0 0, .slice none 0 0, .slice none 0 0] :: []) := s8
  have g8 := s8.get (i := 4) rfl
  have h8 := Heap.get_lt g8
  have o3 := (s8.own (i := 0) rfl).isOne
  have s9 := (s8.set (i := 4) rfl [.string (rd1 σ0).1.s, w1, w2, w3, .slice none 0 0, .slice none 0 0]).perm (List.Perm.swap _ _ _)
  (try simp (maxSteps := 1000000) (disch := first | omega | (simp only [Z3]; omega) | (simp; done) | assumption | decide | (refine not_not_intro ?_; assumption)) only [Z1, Z2, splice, g8, o3])
  generalize H8.set q (some (.cells true [.string (rd1 σ0).1.s, w1, w2, w3, .slice none 0 0, .slice none 0 0])) = H9 at *
  refine rdList_ok hl8 s9 _ fun w4 lv10 H10 hl10 s10 => ?_
  have hl10 : Sl H2 lv10 ((rd5 σ0).2.getD []) := hl10
  have s10 : Hp H2 H10 (own w4 (rd5 σ0).1 :: cel p [lv10, .bool (rd5 σ0).2.isNone] :: own w3 (rd4 σ0).1 :: own w1 ((rd3 σ0).1.map Prod.fst) :: own w2 ((rd3 σ0).1.map Prod.snd) :: cel q [.string (rd1 σ0).1.s, w1, w2, w3, .slice none 0 0, .slice none 0 0] :: []) := s10
  have g10 := s10.get (i := 5) rfl
  have h10 := Heap.get_lt g10
  have o4 := (s10.own (i := 0) rfl).isOne
  have s11 := (s10.set (i := 5) rfl [.string (rd1 σ0).1.s, w1, w2, w3, w4, .slice none 0 0]).perm (List.Perm.swap _ _ _)
  (try simp (maxSteps := 1000000) (disch := first | omega | (simp only [Z3]; omega) | (simp; done) | assumption | decide | (refine not_not_intro ?_; assumption)) only [Z1, Z2, splice, g10, o4])
  generalize H10.set q (some (.cells true [.string (rd1 σ0).1.s, w1, w2, w3, w4, .slice none 0 0])) = H11 at *
  refine take_ok hl10 s11 true _ fun lv12 H12 hl12 s12 => ?_
  have s12 : Hp H2 H12 (cel p [lv12, .bool (rd6 σ0).2.isNone] :: own w4 (rd5 σ0).1 :: own w3 (rd4 σ0).1 :: own w1 ((rd3 σ0).1.map Prod.fst) :: own w2 ((rd3 σ0).1.map Prod.snd) :: cel q [.string (rd1 σ0).1.s, w1, w2, w3, w4, .slice none 0 0] :: []) := s12
  rw [enc_it, show (tk true (rd5 σ0).2).1 = (rd6 σ0).1 from rfl]
  have s13 := s12.rotN [] [cel p [lv12, .bool (rd6 σ0).2.isNone], own w4 (rd5 σ0).1, own w3 (rd4 σ0).1, own w1 ((rd3 σ0).1.map Prod.fst), own w2 ((rd3 σ0).1.map Prod.snd)] [cel q [.string (rd1 σ0).1.s, w1, w2, w3, w4, .slice none 0 0]]
  (try simp (maxSteps := 1000000) (disch := first | omega | (simp only [Z3]; omega) | (simp; done) | assumption | decide | (refine not_not_intro ?_; assumption)) only [Z1, Z2, splice])
  refine dcode_ok (rd6 σ0).1.s (code_small hσm) s13 _ fun w5 H14 s14 => ?_
  have s14 : Hp H2 H14 (own w5 (codeD ((rd6 σ0).1.s.size / 11) (bv (rd6 σ0).1.s)) :: cel q [.string (rd1 σ0).1.s, w1, w2, w3, w4, w5] :: cel p [lv12, .bool (rd6 σ0).2.isNone] :: own w4 (rd5 σ0).1 :: own w3 (rd4 σ0).1 :: own w1 ((rd3 σ0).1.map Prod.fst) :: own w2 ((rd3 σ0).1.map Prod.snd) :: []) := s14
  have g14 := s14.get (i := 1) rfl
  have p14 := s14.get (i := 2) rfl
  have o5 := (s14.own (i := 0) rfl).isOne
  let y : Im := ⟨(rd1 σ0).1.s, ⟨w1, (rd3 σ0).1.map Prod.fst, o1⟩, ⟨w2, (rd3 σ0).1.map Prod.snd, o2⟩, ⟨w3, (rd4 σ0).1, o3⟩, ⟨w4, (rd5 σ0).1, o4⟩, ⟨w5, codeD ((rd6 σ0).1.s.size / 11) (bv (rd6 σ0).1.s), o5⟩⟩
  have hyp : y.p = ownP σ0 := rfl
  have hya : ImAt H14 y := ⟨(s14.own (i := 5) rfl).sl, (s14.own (i := 6) rfl).sl, (s14.own (i := 4) rfl).sl, (s14.own (i := 3) rfl).sl, (s14.own (i := 0) rfl).sl⟩
  have hye : (Flat.enc y) = [.string (rd1 σ0).1.s, w1, w2, w3, w4, w5] := rfl
  have len4 : (rd4 σ0).1.length ≤ 1024 := by
    have := manyS_le (rd3 σ0).2
    show (numsS _ _).1.length ≤ 1024
    rw [numsS_length]; omega
  have len5 : (rd5 σ0).1.length ≤ 1024 := by
    have := manyS_le (rd4 σ0).2
    show (numsS _ _).1.length ≤ 1024
    rw [numsS_length]; omega
  have len6 : (codeD ((rd6 σ0).1.s.size / 11) (bv (rd6 σ0).1.s)).length ≤ 65535 := by
    have := code_small hσm
    rw [codeD_length]; omega
  have k014 : Keeps [] H H14 := (k1.trans k2 (by simp)).trans s14.keeps (by simp)
  have nw : ∀ i v (xs : List Int), (own w5 (codeD ((rd6 σ0).1.s.size / 11) (bv (rd6 σ0).1.s)) :: cel q [.string (rd1 σ0).1.s, w1, w2, w3, w4, w5] :: cel p [lv12, .bool (rd6 σ0).2.isNone] :: own w4 (rd5 σ0).1 :: own w3 (rd4 σ0).1 :: own w1 ((rd3 σ0).1.map Prod.fst) :: own w2 ((rd3 σ0).1.map Prod.snd) :: [])[i]? = some (own v xs) → r ∉ vb v := fun i v xs h hm => by
    have := s14.newAt h r hm
    omega
  have n1' := nw 5 w1 _ rfl
  have n2' := nw 6 w2 _ rfl
  have n3' := nw 4 w3 _ rfl
  have n4' := nw 3 w4 _ rfl
  have n5' : r ∉ vb w5 := fun hm => by
    have := s14.newAt (i := 0) rfl r hm
    omega
  clear nw
  have hσd : ∀ pm, encodeS pm = (b, 0) → ownP σ0 = pm ∧ (rd6 σ0).2.isNone = false := fun pm hpm => by
    obtain ⟨c1, c2⟩ := enc_items hpm
    rw [hDI] at c2
    have hd1 : d.1 = itemsS pm := by rw [c2]
    have hd2 : d.2 = none := by rw [c2]
    rw [hσs hd2, hd1]
    obtain ⟨z1, z2⟩ := own_raw (raw_of_enc c1 okAll okAll (fun _ _ _ => rfl) (fun _ _ _ => rfl))
    rw [z2]
    exact ⟨z1.trans (im_raw c1), rfl⟩
  generalize hbad : (rd6 σ0).2.isNone = bad at *
  clear s4 s5 s6 s7 s8 s9 s10 s11 s12 s13 hl4 hl6 hl7 hl8 hl10 hl12 e3 hn2 hn
  (try simp (maxSteps := 1000000) (disch := first | omega | (simp only [Z3]; omega) | (simp; done) | assumption | decide | (refine not_not_intro ?_; assumption)) only [Z1, Z2, splice, code_Decode_k7, g14])
  rw [← hye]
  refine encode_ok (hm.keep k014) hya (by show (List.map _ _).length ≤ _; rw [List.length_map]; omega) (by show (List.map _ _).length ≤ _; rw [List.length_map]; omega) (by show (rd4 σ0).1.length ≤ _; omega) (by show (rd5 σ0).1.length ≤ _; omega) (by show (codeD _ _).length ≤ _; omega) _ fun H15 k15 => ?_
  have g15 := k15.get g14 (by simp)
  have p15 := k15.get p14 (by simp)
  have r15 := k15.get (s14.keeps.get g2 (by simp)) (by simp)
  have hr15 := Heap.get_lt r15
  have k015 := k014.trans k15 (by simp)
  have hya15 := hya.keep0 k15
  have kset : ∀ cs, Keeps [] H (H15.set r (some (.cells true cs))) := fun cs => keeps_set k015 (.inr (by omega))
  rw [hyp]
  have fail : (∀ pm, encodeS pm ≠ (b, 0)) → Q (.tuple #[.agg #[.string ⟨#[]⟩, .slice none 0 0, .slice none 0 0, .slice none 0 0, .slice none 0 0, .slice none 0 0], i64 130]) (H15.set r (some (.cells true [.string ⟨#[]⟩, .slice none 0 0, .slice none 0 0, .slice none 0 0, .slice none 0 0, .slice none 0 0]))) := fun hn => by
    have := hQ im0 (H15.set r (some (.cells true [.string ⟨#[]⟩, .slice none 0 0, .slice none 0 0, .slice none 0 0, .slice none 0 0, .slice none 0 0]))) (kset _) (im0_at _) (by rw [decodeS_not hn]; rfl)
    rw [decodeS_not hn] at this
    exact this
  cases bad with
  | true =>
    (try simp (maxSteps := 1000000) (disch := first | omega | (simp only [Z3]; omega) | (simp; done) | assumption | decide | (refine not_not_intro ?_; assumption)) only [Z1, Z2, splice, p15, r15])
    exact fail (fun pm hpm => by have := (hσd pm hpm).2; cases this)
  | false =>
  by_cases he : (encodeS (ownP σ0)).2 = 0
  case neg =>
    (try simp (maxSteps := 1000000) (disch := first | omega | (simp only [Z3]; omega) | (simp; done) | assumption | decide | (refine not_not_intro ?_; assumption)) only [Z1, Z2, splice, p15, r15, decide_eq_false he])
    exact fail (fun pm hpm => by rw [(hσd pm hpm).1, hpm] at he; exact he rfl)
  by_cases hs : (encodeS (ownP σ0)).1 = b
  case neg =>
    (try simp (maxSteps := 1000000) (disch := first | omega | (simp only [Z3]; omega) | (simp; done) | assumption | decide | (refine not_not_intro ?_; assumption)) only [Z1, Z2, splice, p15, r15, decide_eq_true he, decide_eq_false hs])
    exact fail (fun pm hpm => by rw [(hσd pm hpm).1, hpm] at hs; exact hs rfl)
  have henc : encodeS (ownP σ0) = (b, 0) := Prod.ext hs he
  have hds := decodeS_of henc
  have fin := hQ y (H15.set r (some (.cells true (Flat.enc y)))) (kset _) (by
    have kk : Keeps [r] H15 (H15.set r (some (.cells true (Flat.enc y)))) := Keeps.set (by simp)
    have nn : ∀ v : V, r ∉ vb v → ∀ b ∈ vb v, b ∉ [r] := fun v hv b hb hm => by simp at hm; subst hm; exact hv hb
    exact ⟨hya15.types.keep kk (nn _ n1'), hya15.first.keep kk (nn _ n2'), hya15.ins.keep kk (nn _ n3'), hya15.outs.keep kk (nn _ n4'), hya15.code.keep kk (nn _ n5')⟩) (by rw [hds]; exact hyp)
  rw [hds] at fin
  have ho : ([.string (rd1 σ0).1.s, w1, w2, w3, w4, w5] : List V).all Value.isOne = true := im_one y
  (try simp (maxSteps := 1000000) (disch := first | omega | (simp only [Z3]; omega) | (simp; done) | assumption | decide | (refine not_not_intro ?_; assumption)) only [Z1, Z2, splice, p15, r15, decide_eq_true he, decide_eq_true hs, code_Decode_k6, g15])
  exact fin
end Go.AM.Cap
