import Derived.Test.YtcmimkacafphkaaGreatDoorCoX
import Derived.Test.YtcmimkacafphkaaGreatDoorAmOpenF
set_option linter.all false
/- code: Encode -/
set_option maxHeartbeats 16000000
namespace Go.AM.Cap
open Go.AM Go.Proofs

/-- an image's items -/
def itemsS (p : PIm) : List It := ⟨true, 0, p.name⟩ :: numC p.types.length :: (tfS (p.types.zip p.first) ++ (endS p.ins ++ (endS p.outs ++ [⟨true, 0, sv (codeB p.code)⟩])))
noncomputable def encodeS (p : PIm) : ByteArray × Int := if (checkS p).2 = 0 then encI (itemsS p) else (⟨#[]⟩, 130)
theorem encode_ok {H : Heap} {G : List V → M V} (hm : MaxL H) {x : Im} (h : ImAt H x) (hl : x.types.xs.length ≤ 10000000) (hf : x.first.xs.length ≤ 10000000) (hi : x.ins.xs.length ≤ 10000000) (hu : x.outs.xs.length ≤ 10000000) (hc : x.code.xs.length ≤ 10000000)
    (Q : V → Heap → Prop) (hQ : ∀ H', Keeps [] H H' → Q (.tuple #[.string (encodeS x.p).1, i64 (encodeS x.p).2]) H') : wp (A_code_Encode G containsF [.agg (Flat.enc x).toArray]) Q H := by
  show wp (F_code_Encode G containsF (.agg (Flat.enc x).toArray)) Q H
  have ho := im_one x
  unfold F_code_Encode
  rw [wp_bnd, wp_bnd, enc_im]
  refine (wp_boxg ho).mpr ?_
  have k1 : Keeps [] H (H.push (some (.cells true [.string x.name, x.types.v, x.first.v, x.ins.v, x.outs.v, x.code.v]))) := Keeps.push _ _ _
  have g1 : (H.push (some (.cells true [.string x.name, x.types.v, x.first.v, x.ins.v, x.outs.v, x.code.v]))).get H.next = some (.cells true [.string x.name, x.types.v, x.first.v, x.ins.v, x.outs.v, x.code.v]) := Heap.get_push_self _ _
  generalize H.push (some (.cells true [.string x.name, x.types.v, x.first.v, x.ins.v, x.outs.v, x.code.v])) = H1 at *
  generalize hp : H.next = p at *
  (try simp (maxSteps := 1000000) (disch := first | omega | (simp only [Z3]; omega) | (simp; done) | assumption | decide | (refine not_not_intro ?_; assumption)) only [Z1, Z2, splice, g1])
  rw [← enc_im]
  refine imCheck_ok (hm.keep k1) (h.keep0 k1) (by omega) (by omega) (by omega) (by omega) (by omega) _ fun H2 k2 => ?_
  have k02 := k1.trans k2 (by simp)
  have g2 := k2.get g1 (by simp)
  rcases check_code x.p with hz | hz
  case inr =>
    have hq := hQ H2 k02
    have e : encodeS x.p = (⟨#[]⟩, 130) := by unfold encodeS; rw [if_neg (by rw [hz]; decide)]
    rw [e] at hq
    rw [hz]
    (try simp (maxSteps := 1000000) (disch := first | omega | (simp only [Z3]; omega) | (simp; done) | assumption | decide | (refine not_not_intro ?_; assumption)) only [Z1, Z2, splice])
    exact hq
  have hsnd := (check_zero.1 hz).1
  obtain ⟨_, s2, s3, s4, s5, s6, _⟩ := hsnd
  have hs2 : x.types.xs.length = x.first.xs.length := s2
  have hs3 : x.types.xs.length ≤ 1024 := s3
  have hs5 : x.code.xs.length ≤ 4096 := s5
  have hs6 : (x.ins.xs ++ x.outs.xs).length ≤ x.types.xs.length := s6
  rw [List.length_append] at hs6
  have e : encodeS x.p = encI (itemsS x.p) := by unfold encodeS; rw [if_pos hz]
  rw [e] at hQ
  rw [hz]
  have lt := h.types.len
  have lc := h.code.len
  have h2 := h.keep0 k02
  (try simp (maxSteps := 1000000) (disch := first | omega | (simp only [Z3]; omega) | (simp; done) | assumption | decide | (refine not_not_intro ?_; assumption)) only [Z1, Z2, splice, code_Encode_k15])
  refine wp_withResv.mpr ?_
  have kr := resv_keeps 2 H2
  have nr := resv_next 2 H2
  have f0 : ∀ b, H2.next ≤ b → (resv H2 2).get b = none := fun b hb => resv_free hb
  generalize resv H2 2 = H3 at *
  generalize hB : H2.next = B at *
  have g3 := kr.get g2 (by simp)
  (try simp (maxSteps := 1000000) (disch := first | omega | (simp only [Z3]; omega) | (simp; done) | assumption | decide | (refine not_not_intro ?_; assumption)) only [Z1, Z2, splice, g3, lt])
  refine wp_flt_bslc (cs := encs [(x.types.xs.length : Int)]) (f0 _ (by omega)) (by omega) (by rfl) (by rfl) ?_
  have k4 : Keeps [] H2 (H3.set (B + 1) (some (.cells true (encs [(x.types.xs.length : Int)])))) := keeps_set kr (.inr (by omega))
  have g4 : (H3.set (B + 1) (some (.cells true (encs [(x.types.xs.length : Int)])))).get (B + 1) = some (.cells true (encs [(x.types.xs.length : Int)])) := Heap.get_set_self (by omega)
  have f4 : (H3.set (B + 1) (some (.cells true (encs [(x.types.xs.length : Int)])))).get B = none := by rw [Heap.get_set_ne _ _ _ (by omega)]; exact f0 B (by omega)
  have n4 : (H3.set (B + 1) (some (.cells true (encs [(x.types.xs.length : Int)])))).next = B + 2 := by simp [nr]
  generalize H3.set (B + 1) (some (.cells true (encs [(x.types.xs.length : Int)]))) = H4 at *
  have st4 : Hp H2 H4 [own (slc (B + 1) 0 1 1 1) [(x.types.xs.length : Int)]] := ⟨k4, fun t ht b hb => by
    simp only [List.mem_singleton] at ht; subst ht
    have : b = B + 1 := by simpa [own] using hb
    omega, fun t ht => by
    simp only [List.mem_singleton] at ht; subst ht
    exact .inr ⟨_, rfl, g4⟩, List.pairwise_singleton _ _⟩
  refine numI_ok st4 (st4.own (i := 0) rfl).sl (by simp) _ fun w3 H5 st5 k5 => ?_
  have f5 : H5.get B = none := by rw [k5.same B (by omega) (by simp)]; exact f4
  have n5 := k5.next
  have fr4 : freeIn H4 [B] = true := by rw [freeIn_cons f4 (by omega)]; rfl
  have fr5 : freeIn H5 [B] = true := by rw [freeIn_cons f5 (by omega)]; rfl
  have g5 := st5.keeps.get g2 (by simp)
  (try simp (maxSteps := 1000000) (disch := first | omega | (simp only [Z3]; omega) | (simp; done) | assumption | decide | (refine not_not_intro ?_; assumption)) only [Z1, Z2, splice, fr4, fr5, Bool.and_self, g5])
  refine wp_flt_bslc (cs := encs [(⟨true, 0, x.name⟩ : It)]) f5 (by omega) (by rfl) (by rfl) ?_
  have k6 : Keeps [B] H5 (H5.set B (some (.cells true (encs [(⟨true, 0, x.name⟩ : It)])))) := Keeps.set (by simp)
  have g6 : (H5.set B (some (.cells true (encs [(⟨true, 0, x.name⟩ : It)])))).get B = some (.cells true (encs [(⟨true, 0, x.name⟩ : It)])) := Heap.get_set_self (by omega)
  have o3 := st5.own (i := 0) rfl
  have hne : B ∉ vb w3 := fun q => by
    rcases o3 with ⟨rfl, _⟩ | ⟨b, rfl, hb⟩
    · simp at q
    · have : B = b := by simpa using q
      rw [← this, f5] at hb; cases hb
  have st6 : Hp H2 (H5.set B (some (.cells true (encs [(⟨true, 0, x.name⟩ : It)])))) [own (slc B 0 3 1 1) [(⟨true, 0, x.name⟩ : It)], own w3 ([(x.types.xs.length : Int)].map numC)] := ⟨keeps_set st5.keeps (.inr (by omega)), fun t ht => by
    simp only [List.mem_cons, List.not_mem_nil, or_false] at ht
    rcases ht with rfl | rfl
    · intro b hb
      have : b = B := by simpa [own] using hb
      omega
    · exact st5.newAt (i := 0) rfl, fun t ht => by
    simp only [List.mem_cons, List.not_mem_nil, or_false] at ht
    rcases ht with rfl | rfl
    · exact .inr ⟨_, rfl, g6⟩
    · exact o3.keep k6 (fun b hb hm => by simp at hm; subst hm; exact hne hb), by
    refine List.pairwise_cons.2 ⟨fun t ht => ?_, List.pairwise_singleton _ _⟩
    simp only [List.mem_singleton] at ht; subst ht
    intro b hb hb2
    have : b = B := by simpa [own] using hb
    subst this
    exact hne hb2⟩
  generalize H5.set B (some (.cells true (encs [(⟨true, 0, x.name⟩ : It)]))) = H6 at *
  refine st_appV st6 (i := 0) rfl rfl (st6.own (i := 1) rfl).sl (by simp) (by simp) fun w7 H7 st7 => ?_
  have g7 := st7.keeps.get g2 (by simp)
  (try simp (maxSteps := 1000000) (disch := first | omega | (simp only [Z3]; omega) | (simp; done) | assumption | decide | (refine not_not_intro ?_; assumption)) only [Z1, Z2, splice, g7, lt])
  refine tloop_ok g2 h2.types h2.first (by omega) (by omega) (by simp) (st7.sub (L' := [own w7 ([(⟨true, 0, x.name⟩ : It)] ++ [(x.types.xs.length : Int)].map numC)]) (by exact List.Sublist.cons_cons _ (List.nil_sublist _))) _ fun w8 H8 st8 => ?_
  have g8 := st8.keeps.get g2 (by simp)
  (try simp (maxSteps := 1000000) (disch := first | omega | (simp only [Z3]; omega) | (simp; done) | assumption | decide | (refine not_not_intro ?_; assumption)) only [Z1, Z2, splice, code_Encode_k14, g8])
  have hfa : fillA (rep 2 [(.slice none 0 0 : V)]) [(0, 1, x.ins.v), (1, 1, x.outs.v)] = some (encs [x.ins, x.outs]) := by
    rw [fillA_one x.ins.one (by simp [rep]), fillA_one x.outs.one (by simp [rep])]
    rfl
  refine (wp_bslc (by rfl) (cs := encs [x.ins, x.outs]) hfa).mpr ?_
  have st9 := (st8.newo (n := 1) (m := 2) [x.ins, x.outs] rfl rfl).perm (List.Perm.swap _ _ _)
  generalize H8.push (some (.cells true (encs [x.ins, x.outs]))) = H9 at *
  (try simp (maxSteps := 1000000) (disch := first | omega | (simp only [Z3]; omega) | (simp; done) | assumption | decide | (refine not_not_intro ?_; assumption)) only [Z1, Z2, splice])
  have hei : ∀ e ∈ [x.ins, x.outs], Sl H2 e.v e.xs := by
    intro e he
    simp only [List.mem_cons, List.not_mem_nil, or_false] at he
    rcases he with rfl | rfl
    · exact h2.ins
    · exact h2.outs
  have htl : (tfS (x.types.xs.zip x.first.xs)).length ≤ 2048 := by rw [tfS_length, List.length_zip]; omega
  have hee : endsS [x.ins, x.outs] = endS x.ins.xs ++ endS x.outs.xs := by simp [endsS]
  have hel : (endS x.ins.xs ++ endS x.outs.xs).length ≤ 2000 := by simp [endS]; omega
  refine eloop_ok (es := [x.ins, x.outs]) (fun w a H' s => (s.own (i := 1) rfl).sl) hei (by simp) (fun e he => by
    simp only [List.mem_cons, List.not_mem_nil, or_false] at he
    rcases he with rfl | rfl <;> omega) (by rw [hee]; simp only [List.length_append, List.length_cons, List.length_nil, List.length_map] at hel ⊢; omega) st9 _ fun w10 H10 st10 => ?_
  have g10 := st10.keeps.get g2 (by simp)
  (try simp (maxSteps := 1000000) (disch := first | omega | (simp only [Z3]; omega) | (simp; done) | assumption | decide | (refine not_not_intro ?_; assumption)) only [Z1, Z2, splice, code_Encode_k13, g10, lc])
  refine cloop_ok h2.code (by omega) st10.nilo _ fun w11 H11 st11 => ?_
  (try simp (maxSteps := 1000000) (disch := first | omega | (simp only [Z3]; omega) | (simp; done) | assumption | decide | (refine not_not_intro ?_; assumption)) only [Z1, Z2, splice, code_Encode_k12])
  refine ownF_b2s (st11.own (i := 0) rfl) ?_
  (try simp (maxSteps := 1000000) (disch := first | omega | (simp only [Z3]; omega) | (simp; done) | assumption | decide | (refine not_not_intro ?_; assumption)) only [Z1, Z2, splice])
  refine (wp_bslc (by rfl) (cs := encs [(⟨true, 0, sv (codeB x.code.xs)⟩ : It)]) (by rfl)).mpr ?_
  have st12 := st11.newo (n := 3) (m := 1) [(⟨true, 0, sv (codeB x.code.xs)⟩ : It)] rfl rfl
  generalize H11.push (some (.cells true (encs [(⟨true, 0, sv (codeB x.code.xs)⟩ : It)]))) = H12 at *
  (try simp (maxSteps := 1000000) (disch := first | omega | (simp only [Z3]; omega) | (simp; done) | assumption | decide | (refine not_not_intro ?_; assumption)) only [Z1, Z2, splice])
  refine st_appV st12 (i := 2) rfl rfl (st12.own (i := 0) rfl).sl (by rw [hee]; simp only [List.length_append, List.length_cons, List.length_nil, List.length_map] at hel ⊢; omega) (by rw [hee]; simp only [List.length_append, List.length_cons, List.length_nil, List.length_map] at hel ⊢; omega) fun w13 H13 st13 => ?_
  (try simp (maxSteps := 1000000) (disch := first | omega | (simp only [Z3]; omega) | (simp; done) | assumption | decide | (refine not_not_intro ?_; assumption)) only [Z1, Z2, splice])
  refine enc_ok (st13.own (i := 2) rfl).sl _ fun H14 k14 => ?_
  have hit : itemsS x.p = [(⟨true, 0, x.name⟩ : It)] ++ [(x.types.xs.length : Int)].map numC ++ tfS (x.types.xs.zip x.first.xs) ++ endsS [x.ins, x.outs] ++ [(⟨true, 0, sv (codeB x.code.xs)⟩ : It)] := by
    rw [hee]
    simp [itemsS, Im.p]
  rw [← hit]
  have hq := hQ H14 ((k02.trans st13.keeps (by simp)).trans k14 (by simp))
  (try simp (maxSteps := 1000000) (disch := first | omega | (simp only [Z3]; omega) | (simp; done) | assumption | decide | (refine not_not_intro ?_; assumption)) only [Z1, Z2, splice])
  exact hq
end Go.AM.Cap
