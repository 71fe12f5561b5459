import Derived.Test.YtcmimkacafphkaaGreatDoorCoN
import Derived.Test.YtcmimkacafphkaaGreatDoorAmOpenF
set_option linter.all false
/- code: the chapter's example -/
set_option maxHeartbeats 16000000
namespace Go.AM.Cap
open Go.AM Go.Proofs

theorem sl_lit {α : Type} [Flat α] {H : Heap} {b n m : Nat} {xs : List α} (hn : n = Flat.size α) (hm : xs.length = m) (h : H.get b = some (.cells true (encs xs))) : Sl H (slc b 0 n m m) xs := by
  subst hn; subst hm
  exact .inr ⟨b, 0, _, _, rfl, Nat.le_refl _, Heap.get_lt h, .inr ⟨true, _, h, by rw [encs_length]; omega, by rw [List.drop_zero, ← encs_length xs, List.take_length]⟩, .inr rfl⟩
/-- the example's images -/
def exI (c : List Ins) : PIm := ⟨⟨#[80]⟩, [2], [0], [], [], c⟩
def exC1 : List Ins := [⟨1, 2, 0, 5⟩, ⟨3, 0, 0, 0⟩, ⟨12, 0, 0, 0⟩]
def exC2 : List Ins := [⟨1, 2, 0, 5⟩, ⟨2, 1, 0, 0⟩, ⟨12, 0, 0, 0⟩]
theorem ex_sound (c : List Ins) (hc : c.length = 3) : SoundP (exI c) := by
  refine ⟨by show nameB ⟨#[80]⟩ = true; decide +kernel, rfl, by show 1 ≤ 1024; omega, ?_, ?_, by show 0 ≤ 1; omega, fun j hj => ?_, by simp [exI], by simp [exI]⟩
  · show 1 ≤ c.length; omega
  · show c.length ≤ 4096; omega
  · have : j = 0 := by simpa [exI] using hj
    subst this
    show fits 2 0
    decide
theorem ex_push : mayB [2] 3 ⟨1, 2, 0, 5⟩ = true := mayB_iff.2 ⟨0, by decide, rfl, by decide, by decide, by decide, by
  show AskP [2] 3 fid_code_rules_4 _
  unfold AskP
  rw [if_neg (by decide), if_neg (by decide), if_neg (by decide), if_pos rfl]
  decide⟩
theorem ex_store : mayB [2] 3 ⟨3, 0, 0, 0⟩ = true := mayB_iff.2 ⟨2, by decide, rfl, by decide, by decide, by decide, by
  show AskP [2] 3 fid_code_rules_1 _
  unfold AskP
  rw [if_pos rfl]
  exact ⟨[2], rfl⟩⟩
theorem ex_end : mayB [2] 3 ⟨12, 0, 0, 0⟩ = true := mayB_iff.2 ⟨11, by decide, rfl, by decide, by decide, by decide, by
  show AskP [2] 3 fid_code_rules_9 _
  unfold AskP
  rw [if_neg (by decide), if_neg (by decide), if_neg (by decide), if_neg (by decide), if_neg (by decide), if_neg (by decide), if_neg (by decide), if_neg (by decide)]
  trivial⟩
theorem ex_load : mayB [2] 3 ⟨2, 1, 0, 0⟩ = false := by
  rw [← Bool.not_eq_true, mayB_iff]
  rintro ⟨k, _, hk, _, _, _, ha⟩
  have : k = 1 := by simp only at hk; omega
  subst this
  have ha : AskP [2] 3 fid_code_rules_1 ⟨2, 1, 0, 0⟩ := ha
  unfold AskP at ha
  rw [if_pos rfl] at ha
  obtain ⟨l, hl⟩ := ha
  cases hl
theorem ex_check1 : checkS (exI exC1) = (0, 0) := by
  unfold checkS
  rw [if_pos (ex_sound _ rfl)]
  have : idxP (fun i => !mayB [2] 3 i) exC1 = none := by
    rw [idxP_none]
    intro x hx
    simp only [exC1, List.mem_cons, List.not_mem_nil, or_false] at hx
    rcases hx with rfl | rfl | rfl
    · rw [ex_push]; rfl
    · rw [ex_store]; rfl
    · rw [ex_end]; rfl
  have e : idxP (fun i => !mayB (exI exC1).types (exI exC1).code.length i) (exI exC1).code = none := this
  rw [e]
theorem ex_check2 : checkS (exI exC2) = (1, 130) := by
  unfold checkS
  rw [if_pos (ex_sound _ rfl)]
  have : idxP (fun i => !mayB [2] 3 i) exC2 = some 1 := by
    unfold exC2
    rw [idxP, ex_push]
    rw [if_neg (by decide), idxP, ex_load]
    rfl
  have e : idxP (fun i => !mayB (exI exC2).types (exI exC2).code.length i) (exI exC2).code = some 1 := this
  rw [e]
  rfl
theorem ex_show : bya (showS ⟨1, 2, 0, -5⟩) = ⟨#[80, 85, 83, 72, 32, 50, 32, 48, 32, 45, 53]⟩ := by
  have e1 : Lib.itoa 2 = [50] := by rw [Lib.itoa, if_neg (by decide), show (2 : Int).toNat = 2 from rfl, dec_small (by decide)]; rfl
  have e2 : Lib.itoa 0 = [48] := by rw [Lib.itoa, if_neg (by decide), show (0 : Int).toNat = 0 from rfl, dec_small (by decide)]; rfl
  have e3 : Lib.itoa (-5) = [45, 53] := by rw [Lib.itoa, if_pos (by decide), show (-5 : Int).natAbs = 5 from rfl, dec_small (by decide)]; rfl
  unfold showS
  rw [e1, e2, e3]
  rfl
theorem imWorks_ok {H : Heap} {G : List V → M V} (hm : MaxL H) (hp : Pow10 H) (ho : OpNames H) (Q : V → Heap → Prop) (hQ : ∀ H', Keeps [] H H' → Q (.bool true) H') : wp (A_law13_works G containsF itoaF formatF joinF []) Q H := by
  show wp (F_law13_works G containsF itoaF formatF joinF) Q H
  unfold F_law13_works
  rw [wp_bnd, wp_bnd]
  refine (wp_bslc (by rfl) (cs := encs [(2 : Int)]) (by rfl)).mpr ?_
  have k1 := Keeps.push [] H (some (.cells true (encs [(2 : Int)])))
  have g1 : (H.push (some (.cells true (encs [(2 : Int)])))).get H.next = some (.cells true (encs [(2 : Int)])) := Heap.get_push_self _ _
  generalize H.push (some (.cells true (encs [(2 : Int)]))) = H1 at *
  generalize hb1 : H.next = b1 at *
  rw [wp_bnd]
  refine (wp_bslc (by rfl) (cs := encs [(0 : Int)]) (by rfl)).mpr ?_
  have k2 := Keeps.push [] H1 (some (.cells true (encs [(0 : Int)])))
  have g2 : (H1.push (some (.cells true (encs [(0 : Int)])))).get H1.next = some (.cells true (encs [(0 : Int)])) := Heap.get_push_self _ _
  have g21 := k2.get g1 (by simp)
  generalize H1.push (some (.cells true (encs [(0 : Int)]))) = H2 at *
  generalize hb2 : H1.next = b2 at *
  (try simp (maxSteps := 1000000) (disch := first | omega | (simp only [Z3]; omega) | (simp; done) | assumption | decide | (refine not_not_intro ?_; assumption)) only [Z1, Z2, splice])
  refine (wp_bslc (by rfl) (cs := encs exC1) (by rfl)).mpr ?_
  have k3 := Keeps.push [] H2 (some (.cells true (encs exC1)))
  have g3 : (H2.push (some (.cells true (encs exC1)))).get H2.next = some (.cells true (encs exC1)) := Heap.get_push_self _ _
  have g31 := k3.get g21 (by simp)
  have g32 := k3.get g2 (by simp)
  generalize H2.push (some (.cells true (encs exC1))) = H3 at *
  generalize hb3 : H2.next = b3 at *
  have k03 := (k1.trans k2 (by simp)).trans k3 (by simp)
  (try simp (maxSteps := 1000000) (disch := first | omega | (simp only [Z3]; omega) | (simp; done) | assumption | decide | (refine not_not_intro ?_; assumption)) only [Z1, Z2, splice])
  have s1 : Sl H3 (slc b1 0 1 1 1) [(2 : Int)] := sl_lit rfl rfl g31
  have s2 : Sl H3 (slc b2 0 1 1 1) [(0 : Int)] := sl_lit rfl rfl g32
  have s3 : Sl H3 (slc b3 0 4 3 3) exC1 := sl_lit rfl rfl g3
  have hn3 : b3 < H3.next := Heap.get_lt g3
  have hb13 : b1 ≠ b3 := by have := k2.next; have := Heap.get_lt g1; omega
  have hb23 : b2 ≠ b3 := by have := Heap.get_lt g2; omega
  have k4 := Keeps.push [] H3 (some (.cells true [Value.string ⟨#[80]⟩, slc b1 0 1 1 1, slc b2 0 1 1 1, .slice none 0 0, .slice none 0 0, slc b3 0 4 3 3]))
  have g4 : (H3.push (some (.cells true [Value.string ⟨#[80]⟩, slc b1 0 1 1 1, slc b2 0 1 1 1, .slice none 0 0, .slice none 0 0, slc b3 0 4 3 3]))).get H3.next = some (.cells true [Value.string ⟨#[80]⟩, slc b1 0 1 1 1, slc b2 0 1 1 1, .slice none 0 0, .slice none 0 0, slc b3 0 4 3 3]) := Heap.get_push_self _ _
  generalize H3.push (some (.cells true [Value.string ⟨#[80]⟩, slc b1 0 1 1 1, slc b2 0 1 1 1, .slice none 0 0, .slice none 0 0, slc b3 0 4 3 3])) = H4 at *
  generalize hb4 : H3.next = b4 at *
  have k04 := k03.trans k4 (by simp)
  refine imCheck_ok (hm.keep k04) (x := ⟨⟨#[80]⟩, ⟨slc b1 0 1 1 1, [2], rfl⟩, ⟨slc b2 0 1 1 1, [0], rfl⟩, ⟨.slice none 0 0, [], rfl⟩, ⟨.slice none 0 0, [], rfl⟩, ⟨slc b3 0 4 3 3, exC1, rfl⟩⟩)
    ⟨s1.keep0 k4, s2.keep0 k4, Sl.nil _, Sl.nil _, s3.keep0 k4⟩ (by show 1 ≤ 100000000; omega) (by show 1 ≤ 100000000; omega) (by show 0 ≤ 100000000; omega) (by show 0 ≤ 100000000; omega) (by show 3 ≤ 100000000; omega) _ fun H5 k5 => ?_
  rw [show Im.p _ = exI exC1 from rfl, ex_check1]
  have g5 := k5.get g4 (by simp)
  have g53 := (k4.trans k5 (by simp)).get g3 (by simp)
  have k05 := k04.trans k5 (by simp)
  have ia : iaddrS 4 (slc b3 0 4 3 3) (Value.int .i64 1) = some (ptr b3 4) := rfl
  have hb34 : b4 ≠ b3 := by omega
  (try simp (maxSteps := 1000000) (disch := first | omega | (simp only [Z3]; omega) | (simp; done) | assumption | decide | (refine not_not_intro ?_; assumption)) only [Z1, Z2, splice, g5, ia, g53])
  have g51 := (k4.trans k5 (by simp)).get g31 (by simp)
  have g52 := (k4.trans k5 (by simp)).get g32 (by simp)
  show wp (A_code_Check G containsF [_]) _ (H5.set b3 (some (.cells true (encs exC2))))
  have hb3H : H.next ≤ b3 := by have := k1.next; have := k2.next; omega
  have k6 : Keeps [] H (H5.set b3 (some (.cells true (encs exC2)))) := keeps_set k05 (.inr hb3H)
  have g61 : (H5.set b3 (some (.cells true (encs exC2)))).get b1 = some (.cells true (encs [(2 : Int)])) := by rw [Heap.get_set_ne _ _ _ hb13]; exact g51
  have g62 : (H5.set b3 (some (.cells true (encs exC2)))).get b2 = some (.cells true (encs [(0 : Int)])) := by rw [Heap.get_set_ne _ _ _ hb23]; exact g52
  have g63 : (H5.set b3 (some (.cells true (encs exC2)))).get b3 = some (.cells true (encs exC2)) := Heap.get_set_eq (Heap.get_lt g53)
  generalize H5.set b3 (some (.cells true (encs exC2))) = H6 at *
  have s61 : Sl H6 (slc b1 0 1 1 1) [(2 : Int)] := sl_lit rfl rfl g61
  have s62 : Sl H6 (slc b2 0 1 1 1) [(0 : Int)] := sl_lit rfl rfl g62
  have s63 : Sl H6 (slc b3 0 4 3 3) exC2 := sl_lit rfl rfl g63
  refine imCheck_ok (hm.keep k6) (x := ⟨⟨#[80]⟩, ⟨slc b1 0 1 1 1, [2], rfl⟩, ⟨slc b2 0 1 1 1, [0], rfl⟩, ⟨.slice none 0 0, [], rfl⟩, ⟨.slice none 0 0, [], rfl⟩, ⟨slc b3 0 4 3 3, exC2, rfl⟩⟩)
    ⟨s61, s62, Sl.nil _, Sl.nil _, s63⟩ (by show 1 ≤ 100000000; omega) (by show 1 ≤ 100000000; omega) (by show 0 ≤ 100000000; omega) (by show 0 ≤ 100000000; omega) (by show 3 ≤ 100000000; omega) _ fun H7 k7 => ?_
  rw [show Im.p _ = exI exC2 from rfl, ex_check2]
  have k07 := k6.trans k7 (by simp)
  (try simp (maxSteps := 1000000) (disch := first | omega | (simp only [Z3]; omega) | (simp; done) | assumption | decide | (refine not_not_intro ?_; assumption)) only [Z1, Z2, splice])
  refine show_ok (k07.get hp (by simp)) (k07.get ho (by simp)) ⟨1, 2, 0, -5⟩ ⟨by decide, by decide, by decide⟩ _ fun H8 k8 => ?_
  rw [ex_show]
  (try simp (maxSteps := 1000000) (disch := first | omega | (simp only [Z3]; omega) | (simp; done) | assumption | decide | (refine not_not_intro ?_; assumption)) only [Z1, Z2, splice])
  exact hQ _ (k07.trans k8 (by simp))
end Go.AM.Cap

/- code: CodeShows on the machine -/
set_option maxHeartbeats 8000000
namespace Go.AM.Cap
open Go.AM Go.Proofs

end Go.AM.Cap
