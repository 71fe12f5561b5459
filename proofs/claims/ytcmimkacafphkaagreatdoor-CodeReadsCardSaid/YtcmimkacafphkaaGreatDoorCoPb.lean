import Derived.Test.YtcmimkacafphkaaGreatDoorCoRc
import Derived.Test.YtcmimkacafphkaaGreatDoorAmOpenF
import Derived.Test.YtcmimkacafphkaaGreatDoorCoPa
set_option linter.all false
/- code: the document's block -/
set_option maxHeartbeats 8000000
namespace Go.AM.Cap
open Go.AM Go.Proofs
def z9n (types : List Int) (kind a : Int) : Prop := ∃ l, zj5 kind = some l ∧ zh5 types a l.length = some l
theorem zbqt {types : List Int} {kind : Int} {fs : List Fd} {a : Nat} (hk : zj5 kind = some (fs.map Fd.type)) (ha : a < types.length) (hm : a + fs.length ≤ types.length) : z9n types kind a ↔ ∀ i, i < fs.length → types.getD (a + i) 0 = (fs.getD i default).type := by
  have e : zh5 types a ((fs.map Fd.type).length : Int) = some ((types.drop a).take fs.length) := by
    unfold zh5; rw [List.length_map, if_neg (by omega)]; rfl
  have hl : ((types.drop a).take fs.length).length = fs.length := by rw [List.length_take, List.length_drop]; omega
  have g : ∀ j, j < fs.length → ((types.drop a).take fs.length).getD j 0 = types.getD (a + j) 0 := fun j hj => by
    rw [List.getD_eq_getElem?_getD, List.getD_eq_getElem?_getD, List.getElem?_take_of_lt hj, List.getElem?_drop]
  have g2 : ∀ j, j < fs.length → (fs.map Fd.type).getD j 0 = (fs.getD j default).type := fun j hj => by
    rw [List.getD_eq_getElem?_getD, List.getD_eq_getElem?_getD, List.getElem?_map, List.getElem?_eq_getElem hj]; rfl
  unfold z9n
  rw [hk]
  constructor
  · rintro ⟨l, hl2, h⟩ i hi
    cases hl2
    rw [e] at h
    have h2 := Option.some.inj h
    rw [← g i hi, h2, g2 i hi]
  · intro h
    refine ⟨_, rfl, ?_⟩
    rw [e]
    congr 1
    apply List.ext_getElem (by rw [hl, List.length_map])
    intro j hj hj2
    rw [hl] at hj
    have h1 := g j hj
    have h2 := g2 j hj
    rw [h j hj, ← h2] at h1
    rw [List.getD_eq_getElem?_getD, List.getD_eq_getElem?_getD, List.getElem?_eq_getElem, List.getElem?_eq_getElem hj2] at h1
    exact h1
theorem zbqu {H : Heap} {x : Im} (h : ImAt H x) (hl : x.types.xs.length ≤ 100000000) (kind a : Int) (Q : V → Heap → Prop) (hQ : ∀ H' b, Keeps [] H H' → (b = true ↔ z9n x.types.xs kind a) → Q (.bool b) H') : wp (znv [.agg (Flat.enc x).toArray, i64 kind, i64 a]) Q H := by
  show wp (zry (.agg (Flat.enc x).toArray) (i64 kind) (i64 a)) Q H
  have hne : ∀ {p : Prop}, ¬ p → ((false = true) ↔ p) := fun q => ⟨Bool.noConfusion, fun e => (q e).elim⟩
  have hye : ∀ {p : Prop}, p → ((true = true) ↔ p) := fun q => ⟨fun _ => q, fun _ => rfl⟩
  have ho := zhd x
  have hlen := h.types.len
  unfold zry
  rw [zc4, zc4, zbc]
  refine (zd8 ho).mpr ?_
  have k1 : Keeps [] H (H.push (some (.cells true [.string x.name, x.types.v, x.first.v, x.ins.v, x.outs.v, x.code.v]))) := Keeps.push _ _ _
  have g1 : (H.push (some (.cells true [.string x.name, x.types.v, x.first.v, x.ins.v, x.outs.v, x.code.v]))).get H.next = some (.cells true [.string x.name, x.types.v, x.first.v, x.ins.v, x.outs.v, x.code.v]) := Heap.get_push_self _ _
  generalize H.push (some (.cells true [.string x.name, x.types.v, x.first.v, x.ins.v, x.outs.v, x.code.v])) = H1 at *
  generalize hpp : H.next = p at *
  (try simp (maxSteps := 1000000) (disch := first | omega | (simp only [Z3]; omega) | (simp; done) | assumption | decide | (refine not_not_intro ?_; assumption)) only [Z1, Z2, splice])
  refine zbns _ _ (fun H2 k2 hn => ?_) (fun H2 v fs k2 hs hv => ?_)
  · (try simp (maxSteps := 1000000) (disch := first | omega | (simp only [Z3]; omega) | (simp; done) | assumption | decide | (refine not_not_intro ?_; assumption)) only [Z1, Z2, splice])
    exact hQ _ _ (k1.trans k2 (by simp)) (hne (by rintro ⟨l, e, _⟩; rw [hn] at e; cases e))
  have k02 := k1.trans k2 (by simp)
  have g2 := k2.get g1 (by simp)
  have hfl : fs.length ≤ 6 := by
    have := zbd5 hs
    rwa [List.length_map] at this
  have hvl := hv.len
  have out : (a < 0 ∨ a ≥ x.types.xs.length ∨ (fs.length : Int) > x.types.xs.length - a) → ¬ z9n x.types.xs kind a := fun q => by
    rintro ⟨l, e, e2⟩
    rw [hs] at e
    cases e
    unfold zh5 at e2
    rw [List.length_map, if_pos q] at e2; cases e2
  by_cases q1 : a < 0
  · (try simp (maxSteps := 1000000) (disch := first | omega | (simp only [Z3]; omega) | (simp; done) | assumption | decide | (refine not_not_intro ?_; assumption)) only [Z1, Z2, splice, decide_eq_true q1])
    exact hQ _ _ k02 (hne (out (.inl q1)))
  by_cases q2 : a ≥ x.types.xs.length
  · (try simp (maxSteps := 1000000) (disch := first | omega | (simp only [Z3]; omega) | (simp; done) | assumption | decide | (refine not_not_intro ?_; assumption)) only [Z1, Z2, splice, decide_eq_false q1, decide_eq_true q2, g2, hlen])
    exact hQ _ _ k02 (hne (out (.inr (.inl q2))))
  by_cases q3 : (fs.length : Int) > x.types.xs.length - a
  · (try simp (maxSteps := 1000000) (disch := first | omega | (simp only [Z3]; omega) | (simp; done) | assumption | decide | (refine not_not_intro ?_; assumption)) only [Z1, Z2, splice, decide_eq_false q1, decide_eq_false q2, decide_eq_true q3, g2, hlen, hvl])
    exact hQ _ _ k02 (hne (out (.inr (.inr q3))))
  obtain ⟨an, rfl⟩ : ∃ n : Nat, a = n := ⟨a.toNat, by omega⟩
  have hiff := zbqt (types := x.types.xs) (a := an) hs (by omega) (by omega)
  have v2 := h.types.keep0 k02
  (try simp (maxSteps := 1000000) (disch := first | omega | (simp only [Z3]; omega) | (simp; done) | assumption | decide | (refine not_not_intro ?_; assumption)) only [Z1, Z2, splice, decide_eq_false q1, decide_eq_false q2, decide_eq_false q3, g2, hlen, hvl, z2d])
  refine zb9 (Inv := fun k vs H' => ∃ j : Nat, k = fs.length - j ∧ j ≤ fs.length ∧ vs = [i64 an, ptr p 0, v, i64 j] ∧ H2 = H' ∧ (∀ i, i < j → x.types.xs.getD (an + i) 0 = (fs.getD i default).type)) (n := fs.length) (by unfold zcb; omega)
    ⟨0, by omega, by omega, rfl, rfl, by omega⟩ ?_
  rintro k vs H' ⟨j, hk, hj, rfl, rfl, hall⟩
  by_cases hlt : j < fs.length
  case neg =>
    have : j = fs.length := by omega
    subst this
    (try simp (maxSteps := 1000000) (disch := first | omega | (simp only [Z3]; omega) | (simp; done) | assumption | decide | (refine not_not_intro ?_; assumption)) only [Z1, Z2, splice, zqh, hvl, z2c])
    exact hQ _ _ k02 (hye (hiff.2 hall))
  have a1 := v2.addr1 rfl (k := .i64) (i := (an : Int) + (j : Int)) (by omega) (by omega)
  rw [show ((an : Int) + (j : Int)).toNat = an + j by omega] at a1
  have d1 := v2.cell1 rfl (i := an + j) (by omega) 0
  have a2 := hv.addr' (n := 3) rfl (k := .i64) (i := (j : Int)) (by omega) (by omega)
  rw [Int.toNat_natCast] at a2
  have d2 := hv.cell' (n := 3) rfl (off := 1) hlt (by omega) default
  rw [zv] at d2
  by_cases hq : x.types.xs.getD (an + j) 0 = (fs.getD j default).type
  · have hall' : ∀ i, i < j + 1 → x.types.xs.getD (an + i) 0 = (fs.getD i default).type := fun i h3 => by
      rcases Nat.lt_or_eq_of_le (Nat.lt_succ_iff.1 h3) with z | rfl
      · exact hall i z
      · exact hq
    (try simp (maxSteps := 1000000) (disch := first | omega | (simp only [Z3]; omega) | (simp; done) | assumption | decide | (refine not_not_intro ?_; assumption)) only [Z1, Z2, splice, zqh, hvl, zu7, g2, a1, d1, a2, d2, zbnj, decide_eq_true hq, z2b])
    exact ⟨fs.length - (j + 1), by omega, j + 1, rfl, by omega, by push_cast; rfl, hall'⟩
  · (try simp (maxSteps := 1000000) (disch := first | omega | (simp only [Z3]; omega) | (simp; done) | assumption | decide | (refine not_not_intro ?_; assumption)) only [Z1, Z2, splice, zqh, hvl, zu7, g2, a1, d1, a2, d2, zbnj, decide_eq_false hq])
    exact hQ _ _ k02 (hne (fun z => hq (hiff.1 z _ hlt)))
end Go.AM.Cap

/- code: the document's May -/
set_option maxHeartbeats 16000000
namespace Go.AM.Cap
open Go.AM Go.Proofs
theorem zsr {types : List Int} {n : Nat} {i : Ins} {k : Nat} (hk : k < 12) (h : i.op = (k : Int) + 1) : zx3 types n i ↔ ((zh6.getD k default).a = true ∨ i.a = 0) ∧ ((zh6.getD k default).b = true ∨ i.b = 0) ∧ ((zh6.getD k default).n = true ∨ i.n = 0) ∧ zfz types n (zh6.getD k default).f i := by
  refine ⟨?_, fun q => ⟨k, hk, h, q⟩⟩
  rintro ⟨k', _, e, q⟩
  have : k' = k := by omega
  subst this
  exact q
theorem zbt2 {types : List Int} {a : Int} : z2s types a 1 ↔ ∃ l, zh5 types a 1 = some l := by
  constructor
  · rintro ⟨l, e, _⟩; exact ⟨l, e⟩
  · rintro ⟨l, e⟩
    refine ⟨l, e, fun t ht => ?_⟩
    have hl := (z9h e (by omega)).1
    have : l.length = 1 := by omega
    match l, this with
    | [y], _ => simpa using ht
theorem zbt3 {types : List Int} {n : Nat} {i : Ins} (h : i.op = 1) : zx3 types n i ↔ i.b = 0 ∧ fits i.a i.n := by
  rw [zsr (k := 0) (by omega) h]
  show (true = true ∨ i.a = 0) ∧ (false = true ∨ i.b = 0) ∧ (true = true ∨ i.n = 0) ∧ zfz types n zdh i ↔ _
  unfold zfz
  rw [if_neg (by decide), if_neg (by decide), if_neg (by decide), if_pos rfl]
  simp
theorem zbt4 {types : List Int} {n : Nat} {i : Ins} (h : i.op = 2 ∨ i.op = 3) : zx3 types n i ↔ i.b = 0 ∧ i.n = 0 ∧ z2s types i.a 1 := by
  rw [zbt2]
  have key : ((true = true ∨ i.a = 0) ∧ (false = true ∨ i.b = 0) ∧ (false = true ∨ i.n = 0) ∧ zfz types n zcl i) ↔ (i.b = 0 ∧ i.n = 0 ∧ ∃ l, zh5 types i.a 1 = some l) := by
    unfold zfz
    rw [if_pos rfl]
    simp
  rcases h with h | h
  · rw [zsr (k := 1) (by omega) h]; exact key
  · rw [zsr (k := 2) (by omega) h]; exact key
theorem zbt5 {types : List Int} {n : Nat} {i : Ins} (h : i.op = 4 ∨ i.op = 5) : zx3 types n i ↔ i.n = 0 ∧ 1 ≤ i.b ∧ i.b ≤ 32 ∧ z2s types i.a i.b := by
  have key : ((true = true ∨ i.a = 0) ∧ (true = true ∨ i.b = 0) ∧ (false = true ∨ i.n = 0) ∧ zfz types n zdf i) ↔ (i.n = 0 ∧ 1 ≤ i.b ∧ i.b ≤ 32 ∧ z2s types i.a i.b) := by
    unfold zfz z2s
    rw [if_neg (by decide), if_pos rfl]
    simp
  rcases h with h | h
  · rw [zsr (k := 3) (by omega) h]; exact key
  · rw [zsr (k := 4) (by omega) h]; exact key
theorem zbwf {types : List Int} {n : Nat} {i : Ins} (h : i.op = 6) : zx3 types n i ↔ i.n = 0 ∧ opS i.a i.b 2 = true := by
  rw [zsr (k := 5) (by omega) h]
  show (true = true ∨ i.a = 0) ∧ (true = true ∨ i.b = 0) ∧ (false = true ∨ i.n = 0) ∧ zfz types n zdy i ↔ _
  unfold zfz
  rw [if_neg (by decide), if_neg (by decide), if_neg (by decide), if_neg (by decide), if_pos rfl]
  simp
theorem zbwg {types : List Int} {n : Nat} {i : Ins} (h : i.op = 7) : zx3 types n i ↔ i.n = 0 ∧ opS i.a i.b 1 = true := by
  rw [zsr (k := 6) (by omega) h]
  show (true = true ∨ i.a = 0) ∧ (true = true ∨ i.b = 0) ∧ (false = true ∨ i.n = 0) ∧ zfz types n zdz i ↔ _
  unfold zfz
  rw [if_neg (by decide), if_neg (by decide), if_neg (by decide), if_neg (by decide), if_neg (by decide), if_pos rfl]
  simp
theorem zbwh {types : List Int} {n : Nat} {i : Ins} (h : i.op = 8) : zx3 types n i ↔ i.n = 0 ∧ (1 ≤ i.a ∧ i.a ≤ 4) ∧ (1 ≤ i.b ∧ i.b ≤ 4) ∧ (i.a = 1 ↔ i.b = 1) := by
  rw [zsr (k := 7) (by omega) h]
  show (true = true ∨ i.a = 0) ∧ (true = true ∨ i.b = 0) ∧ (false = true ∨ i.n = 0) ∧ zfz types n zd0 i ↔ _
  unfold zfz
  rw [if_neg (by decide), if_neg (by decide), if_neg (by decide), if_neg (by decide), if_neg (by decide), if_neg (by decide), if_pos rfl]
  simp
theorem zbwi {types : List Int} {n : Nat} {i : Ins} (h : i.op = 9 ∨ i.op = 10) : zx3 types n i ↔ i.b = 0 ∧ i.n = 0 ∧ 0 ≤ i.a ∧ i.a < n := by
  have key : ((true = true ∨ i.a = 0) ∧ (false = true ∨ i.b = 0) ∧ (false = true ∨ i.n = 0) ∧ zfz types n zdg i) ↔ (i.b = 0 ∧ i.n = 0 ∧ 0 ≤ i.a ∧ i.a < n) := by
    unfold zfz
    rw [if_neg (by decide), if_neg (by decide), if_pos rfl]
    simp
  rcases h with h | h
  · rw [zsr (k := 8) (by omega) h]; exact key
  · rw [zsr (k := 9) (by omega) h]; exact key
theorem zbt6 {types : List Int} {n : Nat} {i : Ins} (h : i.op = 11) : zx3 types n i ↔ i.n = 0 ∧ z9n types i.a i.b := by
  rw [zsr (k := 10) (by omega) h]
  show (true = true ∨ i.a = 0) ∧ (true = true ∨ i.b = 0) ∧ (false = true ∨ i.n = 0) ∧ zfz types n zd1 i ↔ _
  unfold zfz z9n
  rw [if_neg (by decide), if_neg (by decide), if_neg (by decide), if_neg (by decide), if_neg (by decide), if_neg (by decide), if_neg (by decide), if_pos rfl]
  simp
theorem zbt7 {types : List Int} {n : Nat} {i : Ins} (h : i.op = 12) : zx3 types n i ↔ i.n = 0 ∧ i.a = 0 ∧ i.b = 0 := by
  rw [zsr (k := 11) (by omega) h]
  show (false = true ∨ i.a = 0) ∧ (false = true ∨ i.b = 0) ∧ (false = true ∨ i.n = 0) ∧ zfz types n zd2 i ↔ _
  unfold zfz
  rw [if_neg (by decide), if_neg (by decide), if_neg (by decide), if_neg (by decide), if_neg (by decide), if_neg (by decide), if_neg (by decide), if_neg (by decide)]
  simp
  exact ⟨fun q => ⟨q.2.2, q.1, q.2.1⟩, fun q => ⟨q.2.1, q.2.2, q.1⟩⟩
end Go.AM.Cap

/- code: what is encoded is decoded as the image, and nothing else (plain) -/
set_option maxHeartbeats 8000000
namespace Go.AM.Cap
open Go.AM Go.Proofs
def zbeh (p : PIm) : Raw := ⟨p.name, p.types.zip p.first, p.ins, p.outs, sv (zju p.code), []⟩
def imOf (w : Raw) : PIm := ⟨w.name, w.tf.map Prod.fst, w.tf.map Prod.snd, w.ins, w.outs, zho (w.code.size / 11) (bv w.code)⟩
theorem zbnt {p : PIm} (h : p.types.length = p.first.length) : zma p = rawI (zbeh p) := by
  unfold zma rawI zbeh
  rw [List.length_zip, ← h, Nat.min_self]
theorem zbov {a b : List Int} (h : a.length = b.length) : (a.zip b).map Prod.fst = a := by
  rw [List.map_fst_zip (by omega)]
theorem zbow {a b : List Int} (h : a.length = b.length) : (a.zip b).map Prod.snd = b := by
  rw [List.map_snd_zip (by omega)]
theorem zbei {t n : Int} (h : fits t n) : (1 ≤ t ∧ t ≤ 4) ∧ -2147483648 ≤ n ∧ n ≤ 2147483647 := by
  unfold fits at h; omega
theorem zblu {k : Int} {l : List Int} (h : zj5 k = some l) : 1 ≤ k ∧ k ≤ 10 := by
  unfold zj5 at h
  split at h
  · omega
  · split at h
    · omega
    · split at h
      · omega
      · split at h
        · omega
        · split at h
          · omega
          · cases h
theorem z9o {types : List Int} {a m : Int} {l : List Int} (h : zh5 types a m = some l) : 0 ≤ a ∧ a < types.length := by
  unfold zh5 at h
  split at h
  · cases h
  · omega
theorem zbt8 {op t many : Int} (h : opS op t many = true) (hm : many = 1 ∨ many = 2) : (1 ≤ op ∧ op ≤ 16) ∧ 1 ≤ t ∧ t ≤ 4 := by
  unfold opS at h
  rw [Bool.and_eq_true, decide_eq_true_eq] at h
  obtain ⟨h1, h2⟩ := h
  rcases hm with rfl | rfl
  · rw [if_pos rfl, decide_eq_true_eq] at h2; omega
  · rw [if_neg (by decide)] at h2
    split at h2
    · omega
    · split at h2
      · omega
      · split at h2
        · omega
        · rw [decide_eq_true_eq] at h2; omega
theorem zbqv {types : List Int} {n : Nat} {i : Ins} (hl : types.length ≤ 1024) (hn : n ≤ 4096) (h : zx3 types n i) : zblt i := by
  have hop : ∃ k : Nat, k < 12 ∧ i.op = (k : Int) + 1 := by obtain ⟨k, h1, h2, _⟩ := h; exact ⟨k, h1, h2⟩
  obtain ⟨k, hk, he⟩ := hop
  unfold zblt
  rcases (show i.op = 1 ∨ (i.op = 2 ∨ i.op = 3) ∨ (i.op = 4 ∨ i.op = 5) ∨ i.op = 6 ∨ i.op = 7 ∨ i.op = 8 ∨ (i.op = 9 ∨ i.op = 10) ∨ i.op = 11 ∨ i.op = 12 by omega) with o | o | o | o | o | o | o | o | o
  · have := (zbt3 o).1 h
    have := zbei this.2
    omega
  · obtain ⟨h1, h2, l, h3, _⟩ := (zbt4 o).1 h
    have := z9o h3
    omega
  · obtain ⟨h1, h2, h3, l, h4, _⟩ := (zbt5 o).1 h
    have := z9o h4
    omega
  · obtain ⟨h1, h2⟩ := (zbwf o).1 h
    have := zbt8 h2 (.inr rfl)
    omega
  · obtain ⟨h1, h2⟩ := (zbwg o).1 h
    have := zbt8 h2 (.inl rfl)
    omega
  · have := (zbwh o).1 h
    omega
  · have := (zbwi o).1 h
    omega
  · obtain ⟨h1, l, h2, h3⟩ := (zbt6 o).1 h
    have := zblu h2
    have := z9o h3
    omega
  · have := (zbt7 o).1 h
    omega
theorem z29 {p : PIm} (h : (zfa p).2 = 0) : p.types.length = p.first.length ∧ p.types.length ≤ 1024 ∧ p.ins.length ≤ 1024 ∧ p.outs.length ≤ 1024 ∧ (∀ i ∈ p.code, zblt i) ∧ (∀ x ∈ p.types.zip p.first, (1 ≤ x.1 ∧ x.1 ≤ 4) ∧ -2147483648 ≤ x.2 ∧ x.2 ≤ 2147483647) ∧ (∀ c ∈ p.ins, 0 ≤ c ∧ c ≤ 1024) ∧ (∀ c ∈ p.outs, 0 ≤ c ∧ c ≤ 1024) := by
  obtain ⟨⟨s1, s2, s3, s4, s5, s6, s7, s8, s9⟩, hc⟩ := z5u.1 h
  rw [List.length_append] at s6
  refine ⟨s2, s3, by omega, by omega, fun i hi => zbqv s3 s5 (zny.1 (hc i hi)), fun x hx => ?_, fun c hc => ?_, fun c hc => ?_⟩
  · obtain ⟨j, hj, rfl⟩ := List.getElem_of_mem hx
    rw [List.length_zip] at hj
    have := zbei (s7 j (by omega))
    rw [List.getD_eq_getElem?_getD, List.getD_eq_getElem?_getD, List.getElem?_eq_getElem (by omega), List.getElem?_eq_getElem (by omega)] at this
    simpa using this
  · have := s8 c (by simp [hc]); omega
  · have := s8 c (by simp [hc]); omega
theorem zbqw {p : PIm} (h : (zfa p).2 = 0) : ∀ x ∈ zma p, okI x := by
  obtain ⟨h1, h2, h3, h4, h5, h6, h7, h8⟩ := z29 h
  intro x hx
  unfold zma z2q tfS at hx
  simp only [List.mem_cons, List.mem_append, List.mem_flatMap, List.mem_map, List.not_mem_nil, or_false] at hx
  unfold okI
  rcases hx with rfl | rfl | ⟨q, hq, rfl | rfl⟩ | (rfl | ⟨c, hc, rfl⟩) | (rfl | ⟨c, hc, rfl⟩) | rfl
  · simp
  · simp only [zjo]; omega
  · have := h6 q hq; simp only [zjo]; omega
  · have := h6 q hq; simp only [zjo]; omega
  · simp only [zjo]; omega
  · have := h7 c hc; simp only [zjo]; omega
  · simp only [zjo]; omega
  · have := h8 c hc; simp only [zjo]; omega
  · simp
theorem zt7 {p : PIm} {b : ByteArray} (h : zdj p = (b, 0)) : (zfa p).2 = 0 ∧ zeu (bv b) = (zma p, none) := by
  have h2 : (zdj p).2 = 0 := by rw [h]
  obtain ⟨hc, _⟩ := zblk h2
  refine ⟨hc, ?_⟩
  unfold zdj at h
  rw [if_pos hc] at h
  have := zbvp (l := zma p) (by rw [h]) (zbqw hc)
  rw [h] at this
  exact this
theorem zy9 {p : PIm} (h : (zfa p).2 = 0) (ok ok2 : Int → Bool) (o1 : ∀ n, 1 ≤ n → n ≤ 4 → ok n = true) (o2 : ∀ n, 0 ≤ n → n ≤ 1024 → ok2 n = true) : z7z ok ok2 (zma p) = some (zbeh p) := by
  obtain ⟨h1, h2, h3, h4, h5, h6, h7, h8⟩ := z29 h
  rw [zbnt h1]
  refine zbvq ?_ h3 h4 (fun x hx => ?_) (fun x hx => ?_) (fun x hx => ?_)
  · show (p.types.zip p.first).length ≤ 1024
    rw [List.length_zip]; omega
  · have := h6 x hx; exact o1 _ (by omega) (by omega)
  · have := h7 x hx; exact o2 _ (by omega) (by omega)
  · have := h8 x hx; exact o2 _ (by omega) (by omega)
theorem zbjj {p : PIm} (h : (zfa p).2 = 0) : imOf (zbeh p) = p := by
  obtain ⟨h1, h2, h3, h4, h5, h6, h7, h8⟩ := z29 h
  unfold imOf zbeh
  simp only
  rw [zbov h1, zbow h1, z22, zvp, zy8, show 11 * p.code.length / 11 = p.code.length by omega]
  have := zbar (l := p.code) [] h5
  rw [List.append_nil] at this
  rw [this]
theorem zbvr {p q : PIm} {b : ByteArray} (hp : zdj p = (b, 0)) (hq : zdj q = (b, 0)) : p = q := by
  obtain ⟨c1, e1⟩ := zt7 hp
  obtain ⟨c2, e2⟩ := zt7 hq
  rw [e1] at e2
  have e : zma p = zma q := congrArg Prod.fst e2
  have r1 := zy9 c1 zvc zvc (fun _ _ _ => rfl) (fun _ _ _ => rfl)
  have r2 := zy9 c2 zvc zvc (fun _ _ _ => rfl) (fun _ _ _ => rfl)
  rw [e, r2] at r1
  have := Option.some.inj r1
  rw [← zbjj c1, ← zbjj c2, this]
theorem zbjk {b : List (BitVec 8)} (h : (zeu b).2 = none) : ∀ x ∈ (zeu b).1, zhe x = true := by
  have := (zbot (l := (zeu b).1) (by rw [(zbjh h).1])).2.1
  exact this
theorem zbvs {b : ByteArray} {ok ok2 : Int → Bool} {w : Raw} (hd : (zeu (bv b)).2 = none) (h : z7z ok ok2 (zeu (bv b)).1 = some w) (hr : w.rest = []) (h11 : w.code.size % 11 = 0) (hc : (zfa (imOf w)).2 = 0) : zdj (imOf w) = (b, 0) := by
  obtain ⟨e, _⟩ := zbgw (zbjk hd) h
  have hz : (w.tf.map Prod.fst).zip (w.tf.map Prod.snd) = w.tf := by
    rw [List.zip_map']; simp
  have hcode : zju (zho (w.code.size / 11) (bv w.code)) = bv w.code := zbas _ (by rw [zbl]; omega)
  have hi : zma (imOf w) = (zeu (bv b)).1 := by
    rw [e]
    unfold zma rawI imOf
    simp only
    rw [hz, hcode, z92, hr, List.length_map]
  unfold zdj
  rw [if_pos hc, hi, (zbjh hd).1, z92]
open Classical in
noncomputable def zh8 (b : ByteArray) : PIm × Int := if h : ∃ p, zdj p = (b, 0) then (h.choose, 0) else (⟨⟨#[]⟩, [], [], [], [], []⟩, 130)
theorem zza {p : PIm} {b : ByteArray} (h : zdj p = (b, 0)) : zh8 b = (p, 0) := by
  have hx : ∃ p, zdj p = (b, 0) := ⟨p, h⟩
  unfold zh8
  rw [dif_pos hx]
  have := zbvr hx.choose_spec h
  rw [this]
theorem zo2 {b : ByteArray} (h : ∀ p, zdj p ≠ (b, 0)) : zh8 b = (⟨⟨#[]⟩, [], [], [], [], []⟩, 130) := by
  unfold zh8
  rw [dif_neg (fun q => h _ q.choose_spec)]
theorem zbjl {b : ByteArray} (h : (zh8 b).2 = 0) : zdj (zh8 b).1 = (b, 0) := by
  by_cases q : ∃ p, zdj p = (b, 0)
  · obtain ⟨p, hp⟩ := q
    rw [zza hp]; exact hp
  · rw [zo2 (fun p hp => q ⟨p, hp⟩)] at h
    exact absurd h (by show ¬ ((130 : Int) = 0); decide)
theorem zblv {b : ByteArray} (h : (zh8 b).2 ≠ 0) : zh8 b = (⟨⟨#[]⟩, [], [], [], [], []⟩, 130) := by
  by_cases q : ∃ p, zdj p = (b, 0)
  · obtain ⟨p, hp⟩ := q
    rw [zza hp] at h; exact absurd rfl h
  · exact zo2 (fun p hp => q ⟨p, hp⟩)
end Go.AM.Cap
