import Derived.Test.YtcmimkacafphkaaGreatDoorCoY
import Derived.Test.YtcmimkacafphkaaGreatDoorAmOpenF
set_option linter.all false
/- code: CodeLong on the machine -/
set_option maxHeartbeats 8000000
namespace Go.AM.Cap
open Go.AM Go.Proofs

theorem oneI_text (s : ByteArray) : (oneI ⟨true, 0, s⟩).length = 3 + s.size := by simp [oneI, w2, bv_length]; omega
theorem oneI_num (n : Int) : (oneI (numC n)).length = 9 := by simp [oneI, numC, be8_length]
theorem long_nums {l : List It} (h : ∀ x ∈ l, (oneI x).length = 9) : (l.flatMap oneI).length = 9 * l.length := by
  induction l with
  | nil => rfl
  | cons x l ih =>
    rw [List.flatMap_cons, List.length_append, h x (by simp), ih (fun y hy => h y (by simp [hy]))]
    simp; omega
theorem nums_nine {l : List Int} : ∀ x ∈ l.map numC, (oneI x).length = 9 := by
  intro x hx
  obtain ⟨n, _, rfl⟩ := List.mem_map.1 hx
  exact oneI_num n
theorem items_long (p : PIm) : (fullI (itemsS p)).length = 2 + 3 + p.name.size + 9 * (3 + (tfS (p.types.zip p.first)).length + p.ins.length + p.outs.length) + 3 + 11 * p.code.length := by
  have h1 : ∀ x ∈ tfS (p.types.zip p.first), (oneI x).length = 9 := by
    intro x hx
    unfold tfS at hx
    obtain ⟨q, _, hq⟩ := List.mem_flatMap.1 hx
    simp only [List.mem_cons, List.not_mem_nil, or_false] at hq
    rcases hq with rfl | rfl <;> exact oneI_num _
  unfold fullI itemsS endS
  simp only [List.flatMap_cons, List.flatMap_append, List.flatMap_nil, List.length_append, List.length_nil, List.cons_append, oneI_text, oneI_num, long_nums h1, long_nums nums_nine, List.length_map, sv_size, codeB_length]
  simp only [w2, List.length_cons, List.length_nil]
  omega
theorem encI_no {l : List It} (h : (encI l).2 ≠ 0) : (encI l).1 = ⟨#[]⟩ := by
  unfold encI at *
  split
  · rfl
  · split
    · rfl
    · split
      · rfl
      · rename_i h1 h2 h3
        rw [if_neg h1, if_neg h2, if_neg h3] at h
        exact absurd rfl h
theorem encI_yes {l : List It} (h : (encI l).2 = 0) : (encI l).1 = sv (fullI l) := by
  unfold encI at *
  split
  · rename_i h1
    rw [if_pos h1] at h; exact absurd h (by show ¬ ((2 : Int) = 0); decide)
  · rename_i h1
    rw [if_neg h1] at h
    split
    · rename_i h2
      rw [if_pos h2] at h; exact absurd h (by show ¬ ((4 : Int) = 0); decide)
    · rename_i h2
      rw [if_neg h2] at h
      split
      · rename_i h3
        rw [if_pos h3] at h; exact absurd h (by show ¬ ((2 : Int) = 0); decide)
      · rfl
theorem encode_bad {p : PIm} (h : (encodeS p).2 ≠ 0) : (encodeS p).1 = ⟨#[]⟩ := by
  unfold encodeS at *
  split
  · rename_i h1; rw [if_pos h1] at h; exact encI_no h
  · rfl
theorem encode_good {p : PIm} (h : (encodeS p).2 = 0) : (checkS p).2 = 0 ∧ (encodeS p).1 = sv (fullI (itemsS p)) := by
  unfold encodeS at *
  split
  · rename_i h1; rw [if_pos h1] at h; exact ⟨h1, encI_yes h⟩
  · rename_i h1; rw [if_neg h1] at h; exact absurd h (by show ¬ ((130 : Int) = 0); decide)
theorem long_ok {H : Heap} {G : List V → M V} (hm : MaxL H) (hp : Pow10 H) (ho : OpNames H) {x : Im} (h : ImAt H x) (hn : x.name.size ≤ 10000000) (hl : x.types.xs.length ≤ 10000000) (hf : x.first.xs.length ≤ 10000000) (hi : x.ins.xs.length ≤ 10000000) (hu : x.outs.xs.length ≤ 10000000) (hc : x.code.xs.length ≤ 10000000) : wp (A_law13_CodeLong G containsF itoaF formatF joinF [.agg (Flat.enc x).toArray]) (fun r _ => r = .bool true) H := by
  show wp (F_law13_CodeLong G containsF itoaF formatF joinF (.agg (Flat.enc x).toArray)) _ H
  have h1 := im_one x
  unfold F_law13_CodeLong
  rw [wp_bnd, wp_bnd, enc_im]
  refine (wp_boxg h1).mpr ?_
  have k1 : Keeps [] H (H.push (some (.cells true [.string x.name, x.types.v, x.first.v, x.ins.v, x.outs.v, x.code.v]))) := Keeps.push _ _ _
  have g1 : (H.push (some (.cells true [.string x.name, x.types.v, x.first.v, x.ins.v, x.outs.v, x.code.v]))).get H.next = some (.cells true [.string x.name, x.types.v, x.first.v, x.ins.v, x.outs.v, x.code.v]) := Heap.get_push_self _ _
  generalize H.push (some (.cells true [.string x.name, x.types.v, x.first.v, x.ins.v, x.outs.v, x.code.v])) = H1 at *
  generalize hpp : H.next = p at *
  (try simp (maxSteps := 1000000) (disch := first | omega | (simp only [Z3]; omega) | (simp; done) | assumption | decide | (refine not_not_intro ?_; assumption)) only [Z1, Z2, splice])
  refine imWorks_ok (hm.keep k1) (k1.get hp (by simp)) (k1.get ho (by simp)) _ fun H2 k2 => ?_
  have k02 := k1.trans k2 (by simp)
  have g2 := k2.get g1 (by simp)
  (try simp (maxSteps := 1000000) (disch := first | omega | (simp only [Z3]; omega) | (simp; done) | assumption | decide | (refine not_not_intro ?_; assumption)) only [Z1, Z2, splice, law13_CodeLong_k1, g2])
  rw [← enc_im]
  refine encode_ok (hm.keep k02) (h.keep0 k02) hl hf hi hu hc _ fun H3 k3 => ?_
  have g3 := k3.get g2 (by simp)
  by_cases hz : (encodeS x.p).2 = 0
  case neg =>
    rw [encode_bad hz]
    (try simp (maxSteps := 1000000) (disch := first | omega | (simp only [Z3]; omega) | (simp; done) | assumption | decide | (refine not_not_intro ?_; assumption)) only [Z1, Z2, splice, decide_eq_false hz])
    simp
  obtain ⟨hck, hs⟩ := encode_good hz
  obtain ⟨s1, s2, s3, _⟩ := (check_zero.1 hck).1
  have hzl : (tfS (x.types.xs.zip x.first.xs)).length = 2 * x.types.xs.length := by
    rw [tfS_length, List.length_zip]
    have : x.types.xs.length = x.first.xs.length := s2
    omega
  have hlen : (encodeS x.p).1.size = 2 + 3 + x.name.size + 9 * (3 + (tfS (x.types.xs.zip x.first.xs)).length + x.ins.xs.length + x.outs.xs.length) + 3 + 11 * x.code.xs.length := by
    rw [hs, sv_size, items_long]; rfl
  rw [hzl] at hlen
  have lt := h.types.len
  have li := h.ins.len
  have lu := h.outs.len
  have lc := h.code.len
  generalize (encodeS x.p).1 = s at *
  (try simp (maxSteps := 1000000) (disch := first | omega | (simp only [Z3]; omega) | (simp; done) | assumption | decide | (refine not_not_intro ?_; assumption)) only [Z1, Z2, splice, decide_eq_true hz, law13_CodeLong_k0, g3, lt, li, lu, lc])
  refine congrArg Value.bool ?_
  apply decide_eq_true
  omega
end Go.AM.Cap
