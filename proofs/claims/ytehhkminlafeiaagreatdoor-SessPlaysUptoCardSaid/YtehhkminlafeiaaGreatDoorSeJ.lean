import Derived.Test.YtehhkminlafeiaaGreatDoorRoE
import Derived.Test.YtehhkminlafeiaaGreatDoorAmOpenF
set_option linter.all false
/- sess: a new desk; the laws' desk with one session; the chapter's example -/
set_option maxHeartbeats 16000000
namespace Go.AM.Cap
open Go.AM Go.Proofs
theorem zb24 {α : Type} [Flat α] {H : Heap} {v : V} {l : List α} (h : Sl H v l) : vEq.vEq1 v v = true := by
  rcases h with ⟨rfl, _⟩ | ⟨b, o, u, c, rfl, _⟩ <;> simp [vEq.vEq1]
def z4t (us : List Us) (parts idle : Int) : Int := if (zmt us parts).2 ≠ 0 then (zmt us parts).2 else if idle < 1 ∨ idle > 100000 then 1 else 0
def zrg (us : List Us) (idle : Int) : Dk := ⟨us, idle, 0, 0, [], 0, []⟩
theorem zbzt {us : List Us} {idle : Int} (h1 : us.length ≤ 8) (h2 : ∀ u ∈ us, u.key.size ≤ 64 ∧ vEq.vEq1 u.rs.v u.rs.v = true) (h3 : 1 ≤ idle ∧ idle ≤ 100000) : (zrg us idle).Ok 0 :=
  ⟨h1, h2, h3, ⟨Int.le_refl _, Int.le_refl _⟩, ⟨Int.le_refl _, Int.le_refl _⟩, ⟨Int.le_refl _, Int.le_refl _⟩, Nat.zero_le _, Nat.zero_le _, fun _ hc => absurd hc List.not_mem_nil, fun _ hc => absurd hc List.not_mem_nil⟩
theorem zbzu {H0 H : Heap} {L : List Thing} {G : List V → M V} {v : V} {l : List Us} (st : Hp H0 H L) (hv : Users H v l) (parts idle : Int) (Q : V → Heap → Prop)
    (h0 : ∀ H', Hp H0 H' L → z4t l parts idle ≠ 0 → Q (.tuple #[.pointer none, i64 (z4t l parts idle)]) H')
    (h1 : ∀ d H', zim H0 H' d (zrg l idle) L → z4t l parts idle = 0 → (zrg l idle).Ok 0 → OkUs l parts → Q (.tuple #[ptr d 0, i64 0]) H') : wp (zl5 G [v, i64 parts, i64 idle]) Q H := by
  show wp (z4e G v (i64 parts) (i64 idle)) Q H
  unfold z4e
  rw [zk, zk, zk]
  refine zbzb hv parts _ fun H1 k1 => ?_
  have st1 := st.keep0 k1
  by_cases he : (zmt l parts).2 = 0
  case neg =>
    have e : z4t l parts idle = (zmt l parts).2 := by unfold z4t; rw [if_pos he]
    rw [e] at h0
    (try simp (maxSteps := 1000000) (disch := first | omega | (simp only [Z3]; omega) | (simp; done) | assumption | decide | (refine not_not_intro ?_; assumption)) only [Z1, Z2, splice])
    exact h0 _ st1 he
  have hok := zbzs he
  have hl8 := hok.len
  have e : z4t l parts idle = if idle < 1 ∨ idle > 100000 then 1 else 0 := by unfold z4t; rw [if_neg (by simp [he])]
  rw [e] at h0 h1
  rw [he]
  by_cases b1 : idle < 1
  · rw [if_pos (.inl b1)] at h0
    (try simp (maxSteps := 1000000) (disch := first | omega | (simp only [Z3]; omega) | (simp; done) | assumption | decide | (refine not_not_intro ?_; assumption)) only [Z1, Z2, splice, zz8])
    exact h0 _ st1 (by decide)
  by_cases b2 : idle > 100000
  · rw [if_pos (.inr b2)] at h0
    (try simp (maxSteps := 1000000) (disch := first | omega | (simp only [Z3]; omega) | (simp; done) | assumption | decide | (refine not_not_intro ?_; assumption)) only [Z1, Z2, splice, zz8])
    exact h0 _ st1 (by decide)
  rw [if_neg (by omega)] at h1
  (try simp (maxSteps := 1000000) (disch := first | omega | (simp only [Z3]; omega) | (simp; done) | assumption | decide | (refine not_not_intro ?_; assumption)) only [Z1, Z2, splice, zz8, zbft])
  refine zbwc (hv.out.keep0 k1) (by omega) _ fun uv H2 o2 k2 v2 => ?_
  have hu := o2.isOne
  have o2' : (own uv l).P H2 := o2
  have st2 := st1.add k2 o2' v2
  (try simp (maxSteps := 1000000) (disch := first | omega | (simp only [Z3]; omega) | (simp; done) | assumption | decide | (refine not_not_intro ?_; assumption)) only [Z1, zl, zr, zcr, zeh, eq_self, true_and, zcu, zck, zf0, zc6, zby, zbu, Heap.get_push_eq, Heap.get_push_lt, Heap.get_set_eq, Heap.get_set_ne', Heap.next_push', Heap.next_set', Heap.set_push_lt, Heap.set_push_eq, Heap.set_set, zbz, zb0, zbf, zb3, zb4, z4, zbh, zb5, zbq, zbe, zbv, zbw, zbo, zbx, List.set_cons_zero, List.set_cons_succ, List.length_cons, List.length_nil, List.drop_succ_cons, List.drop_zero, List.take_succ_cons, List.take_zero, List.nil_append, List.cons_append, splice, zbb, zbc, z0, zq, zm, zbd, zb1, zbg, zc8, zcm, zb2, zx, zo, z9, Option.map_some, zb6, zbn, z6, zbi, zbj, zbk, z5, zbl, zbm, zbtj uv hu idle])
  have hone : ([uv, i64 idle, i64 0, i64 0, .slice none 0 0, .slice none 0 0, i64 0, .slice none 0 0, .slice none 0 0] : List V).all Value.isOne = true := by simp [hu]
  have s1 := st2.nilo (α := Se)
  have s2 := s1.nilo (α := Int)
  have s3 := s2.nilo (α := Ch)
  have s4 := s3.nilo (α := Int)
  have s5 := s4.newc [uv, i64 idle, i64 0, i64 0, .slice none 0 0, .slice none 0 0, i64 0, .slice none 0 0, .slice none 0 0]
  first | (refine (zbu hone).mpr ?_) | skip
  (try simp (maxSteps := 1000000) (disch := first | omega | (simp only [Z3]; omega) | (simp; done) | assumption | decide | (refine not_not_intro ?_; assumption)) only [Z1, Z2, splice])
  refine h1 H2.next _ ⟨uv, .slice none 0 0, .slice none 0 0, .slice none 0 0, .slice none 0 0, ?_⟩ rfl (zbzt hl8 (fun u hu => ?_) (by omega)) hok
  · exact Hp.rotN [_] [_, _, _, _] [_] s5
  · have q := (hok.each u hu).1
    unfold zf4 at q
    rw [Bool.and_eq_true, decide_eq_true_eq] at q
    exact ⟨q.2.2, zb24 (hv.inn u hu).1⟩
def keyK : ByteArray := (zos zbbh z18 1).2
def zbrm : Se := ⟨z3l, keyK, 1, 0⟩
def oneD (idle : Int) : Dk := ⟨[z3l, z81], idle, 0, 1, [], 1, [(1, zbrm)]⟩
def oneC (idle : Int) : Dk := ⟨[z3l, z81], idle, 0, 1, [(1, ⟨z3l, z18, 0⟩)], 0, []⟩
theorem zbwk (idle : Int) : zpy (zrg [z3l, z81] idle) zbd9 z18 = ((1, 0), oneC idle) := by
  unfold zpy
  rw [show (zrg [z3l, z81] idle).us = [z3l, z81] from rfl, zbzh]
  dsimp only
  rw [if_neg (by decide), if_neg (by simp [zrg])]
  rfl
theorem zbwl (idle : Int) : zpz (oneC idle) 1 (zos zbbh z18 1).1 = ((1, 0), oneD idle) := by
  unfold zpz
  rw [show zgj (fun e : Int × Ch => decide (1 = e.1)) (oneC idle).cl = some 0 from rfl]
  dsimp only
  rw [show ((oneC idle).cl.getD 0 default).2 = ⟨z3l, z18, 0⟩ from rfl, if_neg (by simp [z3l]), if_neg (by simp [oneC])]
  rfl
theorem zbwm : build [Value.string ⟨#[]⟩, Value.string ⟨#[]⟩, (Value.slice none 0 0 : V)] [(0, 1, (Value.string zbd9)), (1, 1, (Value.string zbbh))] = some (.agg (Flat.enc z3l).toArray) := by rfl
theorem zbwn : build [Value.string ⟨#[]⟩, Value.string ⟨#[]⟩, (Value.slice none 0 0 : V)] [(0, 1, (Value.string zbzf)), (1, 1, (Value.string zbti))] = some (.agg (Flat.enc z81).toArray) := by rfl
theorem zbwo : zef (rep 2 [Value.string ⟨#[]⟩, Value.string ⟨#[]⟩, (Value.slice none 0 0 : V)]) [(0, 3, .agg (Flat.enc z3l).toArray), (3, 3, .agg (Flat.enc z81).toArray)] = some (zba [z3l, z81]) := by rfl
theorem zb1n {H0 H : Heap} {L : List Thing} {G : List V → M V} (st : Hp H0 H L) (hb : Base H0) (idle : Int) (hi : 1 ≤ idle ∧ idle ≤ 100000) (Q : V → Heap → Prop)
    (hQ : ∀ d H', zim H0 H' d (oneD idle) L → (oneD idle).Ok 2 → Q (.tuple #[ptr d 0, .string keyK, .bool true]) H') : wp (zph G [i64 idle]) Q H := by
  show wp (zxf G (i64 idle)) Q H
  have l1 : (⟨#[97, 110, 110]⟩ : ByteArray) = zbd9 := rfl
  have l2 : (⟨#[48, 49, 50, 51, 52, 53, 54, 55, 56, 57, 97, 98, 99, 100, 101, 102]⟩ : ByteArray) = zbbh := rfl
  have l3 : (⟨#[98, 111, 98]⟩ : ByteArray) = zbzf := rfl
  have l4 : (⟨#[48, 49, 50, 51, 52, 53, 54, 55, 56, 57, 97, 98, 99, 100, 101, 102, 48, 49, 50, 51, 52, 53, 54, 55, 56, 57, 97, 98, 99, 100, 101, 102]⟩ : ByteArray) = zbti := rfl
  have l5 : (⟨#[115, 105, 120, 116, 101, 101, 110, 32, 98, 121, 116, 101, 115, 32, 33, 33]⟩ : ByteArray) = z18 := rfl
  unfold zxf
  rw [l1, l2, l3, l4, zk, zk, zbs, zbwm, zz, zk, zbs, zbwn, zz, zk]
  refine (zgv (cs := zba [z3l, z81]) (by rfl) zbwo).mpr ?_
  have st1 := st.push (some (.cells true (zba [z3l, z81])))
  have o1 := zd1 (H := H) (xs := [z3l, z81]) (n := 3) (m := 2) rfl rfl
  generalize H.push (some (.cells true (zba [z3l, z81]))) = H1 at *
  have hus : Users H1 (slc H.next 0 3 2 2) [z3l, z81] := ⟨o1.sl, fun u hu => by
    simp at hu
    rcases hu with rfl | rfl
    · exact ⟨Sl.nil _, by decide⟩
    · exact ⟨Sl.nil _, by decide⟩⟩
  have hnew : z4t [z3l, z81] 1 idle = 0 := by
    unfold z4t
    rw [zbzg, if_neg (by decide), if_neg (by omega)]
  rw [zk]
  refine zbzu st1 hus 1 idle _ (fun H2 _ q => absurd hnew q) (fun d H2 h2 _ ok2 _ => ?_)
  (try simp (maxSteps := 1000000) (disch := first | omega | (simp only [Z3]; omega) | (simp; done) | assumption | decide | (refine not_not_intro ?_; assumption)) only [Z1, Z2, splice, zbai])
  rw [l5]
  refine zbrg h2 ok2 (by omega) zbd9 z18 _ fun H3 h3 => ?_
  have ok3 := zbmk ok2 zbd9 z18
  rw [zbwk] at h3 ok3 ⊢
  (try simp (maxSteps := 1000000) (disch := first | omega | (simp only [Z3]; omega) | (simp; done) | assumption | decide | (refine not_not_intro ?_; assumption)) only [Z1, Z2, splice])
  refine zbq9 (hb.keep h3.keeps) zbbh z18 1 (by decide) (by decide) _ fun H4 k4 => ?_
  have h4 := h3.keep0 k4
  (try simp (maxSteps := 1000000) (disch := first | omega | (simp only [Z3]; omega) | (simp; done) | assumption | decide | (refine not_not_intro ?_; assumption)) only [Z1, Z2, splice])
  refine zbrh hb h4 ok3 (by omega) 1 _ _ fun H5 h5 => ?_
  have ok5 := zbml ok3 1 (zos zbbh z18 1).1
  rw [zbwl] at h5 ok5 ⊢
  (try simp (maxSteps := 1000000) (disch := first | omega | (simp only [Z3]; omega) | (simp; done) | assumption | decide | (refine not_not_intro ?_; assumption)) only [Z1, Z2, splice])
  exact hQ d H5 h5 ok5
theorem zbec {k : ByteArray} {id n : Int} {says : List It} (h : (zg2 k id n says).2 = 0) : (zhu (zdw id :: zdw n :: says)).2 = 0 ∧ (zg2 k id n says).1 = zbam k (zhu (zdw id :: zdw n :: says)).1 := by
  unfold zg2 z09 at h ⊢
  by_cases he : (zhu (zdw id :: zdw n :: says)).2 = 0
  · rw [if_pos he]; exact ⟨he, rfl⟩
  · rw [if_neg he] at h; exact absurd h he
theorem zbrn {n : Int} (h : 1 ≤ n ∧ n ≤ 1073741824) : zt1 (zdw n) = false := by
  simp only [zt1, zdw, Bool.false_or]
  exact decide_eq_false (by omega)
theorem zboq {id n : Int} (hid : 1 ≤ id ∧ id ≤ 1073741824) (hn : 1 ≤ n ∧ n ≤ 1073741824) (says : List It) : zkb (zdw id :: zdw n :: says) = some (id, n, says) := by
  rw [ztt, zbrn hid, zbrn hn]; rfl
theorem zbor {k : ByteArray} {id n : Int} {says : List It} (h : (zg2 k id n says).2 = 0) (hid : 1 ≤ id ∧ id ≤ 1073741824) (hn : 1 ≤ n ∧ n ≤ 1073741824) (hs : ∀ x ∈ says, okI x) : zlo (zg2 k id n says).1 = some (id, n, says) := by
  obtain ⟨he, hm⟩ := zbec h
  rw [hm]
  unfold zlo
  have hd := zb1d he (fun x hx => by
    rcases List.mem_cons.1 hx with rfl | hx
    · exact ⟨by show -9223372036854775808 ≤ id; omega, by show id ≤ 9223372036854775807; omega⟩
    · rcases List.mem_cons.1 hx with rfl | hx
      · exact ⟨by show -9223372036854775808 ≤ n; omega, by show n ≤ 9223372036854775807; omega⟩
      · exact hs x hx)
  rw [if_neg (by rw [z3g]; omega), zbme, hd, if_pos rfl]
  exact zboq hid hn says
theorem zbos {k k' : ByteArray} {id n : Int} {says : List It} (h : (zg2 k id n says).2 = 0) : zzr k' (zg2 k id n says).1 = if sv (tag (bv k') (bv (zhu (zdw id :: zdw n :: says)).1)) = sv (tag (bv k) (bv (zhu (zdw id :: zdw n :: says)).1)) then ((zhu (zdw id :: zdw n :: says)).1, 0) else (⟨#[]⟩, 20) := by
  obtain ⟨he, hm⟩ := zbec h
  rw [hm]
  unfold zzr
  rw [zbme, zbv1, z3g]
  by_cases q : sv (tag (bv k') (bv (zhu (zdw id :: zdw n :: says)).1)) = sv (tag (bv k) (bv (zhu (zdw id :: zdw n :: says)).1))
  · rw [if_pos ⟨by omega, q⟩, if_pos q]
  · rw [if_neg (fun z => q z.2), if_neg q]
theorem zbed {k : ByteArray} {id n : Int} {says : List It} : (zg2 k id n says).1.size ≤ 65568 := by
  have hz := zbfe (zdw id :: zdw n :: says)
  unfold zg2 z09
  split
  · show (zbam k _).size ≤ _
    rw [z3g]; omega
  · show (⟨#[]⟩ : ByteArray).size ≤ 65568
    decide
theorem zbao {D : Dk} {k : ByteArray} {id n : Int} {says : List It} (h : (zg2 k id n says).2 = 0) (hid : 1 ≤ id ∧ id ≤ 1073741824) (hn : 1 ≤ n ∧ n ≤ 1073741824) (hs : ∀ x ∈ says, okI x) {i : Nat} (hi : zgj (fun e : Int × Se => decide (id = e.1)) D.sl = some i) (hk : (D.sl.getD i default).2.key = k) :
    zgk D (zg2 k id n says).1 = if n = (D.sl.getD i default).2.next then ((id, (D.sl.getD i default).2.user.name, says, 0), z50 D i id (D.sl.getD i default).2) else ((0, ⟨#[]⟩, [], 250), D) := by
  have ho := zbos (k' := k) h
  rw [if_pos rfl] at ho
  unfold zgk
  rw [zbor h hid hn hs]
  dsimp only
  rw [hi]
  dsimp only
  rw [hk, ho, if_neg (by simp)]
  by_cases q : n = (D.sl.getD i default).2.next
  · rw [if_neg (by simp [q]), if_pos q]
  · rw [if_pos q, if_neg q]
def z3n : List It := [zdw 7]
theorem zbzw : (zhu (zdw 1 :: zdw 1 :: z3n)).2 = 0 := by kernel_rfl
theorem zbwp {k : ByteArray} {l : List It} : (z09 k l).2 = (zhu l).2 := by
  unfold z09
  split
  · rename_i h; exact h.symm
  · rfl
theorem zbmm {H0 H : Heap} {L : List Thing} {G : List V → M V} (st : Hp H0 H L) (hb : Base H0) (hT : Tok H0) (Q : V → Heap → Prop) (hQ : ∀ H', Hp H0 H' L → Q (.bool true) H') : wp (zm1 G asF []) Q H := by
  show wp (zu3 G asF) Q H
  unfold zu3
  rw [zk, zk]
  refine zb1n st hb 5 (by decide) _ fun d H1 h1 ok1 => ?_
  have ok1' := ok1
  obtain ⟨uv, icv, cv, isv, sv', st1⟩ := h1
  have s7 : zef (rep 1 [Value.bool false, Value.int .i64 0, (Value.string ⟨#[]⟩ : V)]) [(0, 3, .agg #[.bool false, .int .i64 7, .string ⟨#[]⟩])] = some (zba z3n) := by rfl
  (try simp (maxSteps := 1000000) (disch := first | omega | (simp only [Z3]; omega) | (simp; done) | assumption | decide | (refine not_not_intro ?_; assumption)) only [Z1, Z2, splice, z76])
  refine (zgv (cs := zba z3n) (by rfl) s7).mpr ?_
  have st2 := st1.push (some (.cells true (zba z3n)))
  have o2 := zd1 (H := H1) (xs := z3n) (n := 3) (m := 1) rfl rfl
  generalize H1.push (some (.cells true (zba z3n))) = H2 at *
  (try simp (maxSteps := 1000000) (disch := first | omega | (simp only [Z3]; omega) | (simp; done) | assumption | decide | (refine not_not_intro ?_; assumption)) only [Z1, Z2, splice])
  have hk32 : keyK.size = 32 := zbkf _ _ _
  refine zbtg (hb.keep st2.keeps) keyK (by omega) o2.sl (by decide) 1 1 _ fun H3 k3 => ?_
  have hms : (zg2 keyK 1 1 z3n).2 = 0 := by unfold zg2; rw [zbwp]; exact zbzw
  have h3 : zim H0 H3 d (oneD 5) L := ⟨_, _, _, _, _, st2.keep0 k3⟩
  have hop := zbao (D := oneD 5) (i := 0) hms (by decide) (by decide) (fun x hx => by
    simp only [z3n, List.mem_singleton] at hx; subst hx; exact ⟨by decide, by decide⟩) rfl rfl
  have hop2 := zbao (D := z50 (oneD 5) 0 1 zbrm) (i := 0) hms (by decide) (by decide) (fun x hx => by
    simp only [z3n, List.mem_singleton] at hx; subst hx; exact ⟨by decide, by decide⟩) rfl rfl
  have hsz := zbed (k := keyK) (id := 1) (n := 1) (says := z3n)
  generalize hmm : zg2 keyK 1 1 z3n = m at *
  rw [if_pos (show (1 : Int) = ((oneD 5).sl.getD 0 default).2.next from rfl)] at hop
  rw [if_neg (show ¬ (1 : Int) = ((z50 (oneD 5) 0 1 zbrm).sl.getD 0 default).2.next by decide)] at hop2
  rw [hms]
  (try simp (maxSteps := 1000000) (disch := first | omega | (simp only [Z3]; omega) | (simp; done) | assumption | decide | (refine not_not_intro ?_; assumption)) only [Z1, Z2, splice])
  refine zboo hb hT h3 ok1 (by omega) m.1 (by omega) _ fun w H4 h4 => ?_
  have ok4 := zbri ok1 m.1
  rw [hop] at h4 ok4 ⊢
  (try simp (maxSteps := 1000000) (disch := first | omega | (simp only [Z3]; omega) | (simp; done) | assumption | decide | (refine not_not_intro ?_; assumption)) only [Z1, Z2, splice])
  refine zboo hb hT h4 ok4 (by omega) m.1 (by omega) _ fun w2 H5 h5 => ?_
  rw [show ((oneD 5).sl.getD 0 default).2 = zbrm from rfl] at h5 ⊢
  rw [hop2] at h5 ⊢
  obtain ⟨_, _, _, _, _, st5⟩ := h5
  have hs := st5.view (i := 7) rfl
  have hs' : Sl H5 w z3n := hs
  have hlen := hs'.len
  have a0 := hs'.addr' (n := 3) rfl (k := .i64) (i := 0) (by omega) (by decide)
  have c0 := hs'.cell' (n := 3) rfl (i := 0) (off := 1) (by decide) (by omega) default
  rw [show (0 : Int).toNat = 0 from rfl] at a0
  rw [zl, show (Flat.enc (z3n.getD 0 default))[1]? = some (i64 7) from rfl] at c0
  have hlen' : zb9 w = some (i64 1) := hlen
  have l1 : (⟨#[97, 110, 110]⟩ : ByteArray) = zbd9 := rfl
  have e9 : zbrm.user.name = zbd9 := rfl
  have eq1 : (IntKind.i64) = .i64 := rfl
  dsimp only
  (try simp (maxSteps := 1000000) (disch := first | omega | (simp only [Z3]; omega) | (simp; done) | assumption | decide | (refine not_not_intro ?_; assumption)) only [Z1, Z2, splice, e9, l1, hlen', a0, c0])
  exact hQ H5 (st5.drop 8)
end Go.AM.Cap
