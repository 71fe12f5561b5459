import Derived.Test.YtehhkminlafeiaaGreatDoorSeD
import Derived.Test.YtehhkminlafeiaaGreatDoorAmOpenF
set_option linter.all false
/- sess: a desk with one session -/
set_option maxHeartbeats 16000000
namespace Go.AM.Cap
open Go.AM Go.Proofs
theorem zbwc {H : Heap} {v : V} {l : List Us} (h : Sl H v l) (hl : l.length ≤ 1000) (Q : V → Heap → Prop) (hQ : ∀ w H', zcj H' w l → Keeps [] H H' → (∀ b ∈ vb w, H.next ≤ b) → Q w H') : wp (zcz [v]) Q H := by
  show wp (zdk v) Q H
  by_cases hn : v = .slice none 0 0
  · subst hn
    have hl0 : l = [] := by
      rcases h with ⟨_, rfl⟩ | ⟨b, o, u, c, e, _⟩
      · rfl
      · cases e
    subst hl0
    have e : zia false (isNil .s (Value.slice none 0 0 : V)) = some (.bool true) := rfl
    (try simp (maxSteps := 1000000) (disch := first | omega | (simp only [Z3]; omega) | (simp; done) | assumption | decide | (refine not_not_intro ?_; assumption)) only [Z1, Z2, splice, zdk, e])
    exact hQ _ H (zcj.nil _) (Keeps.refl _ _) (by simp)
  · have e : zia false (isNil .s v) = some (.bool false) := by
      rcases h with ⟨rfl, _⟩ | ⟨b, o, u, c, rfl, _⟩
      · exact absurd rfl hn
      · rfl
    (try simp (maxSteps := 1000000) (disch := first | omega | (simp only [Z3]; omega) | (simp; done) | assumption | decide | (refine not_not_intro ?_; assumption)) only [Z1, Z2, splice, zdk, e, zin])
    refine (zgv (cs := zba ([] : List Us)) (by rfl) (by rfl)).mpr ?_
    have k1 : Keeps [] H (H.push (some (.cells true (zba ([] : List Us))))) := Keeps.push _ _ _
    have o1 := zd1 (H := H) (xs := ([] : List Us)) (n := 3) (m := 0) rfl rfl
    have n1 : (H.push (some (.cells true (zba ([] : List Us))))).next = H.next + 1 := by simp
    generalize H.push (some (.cells true (zba ([] : List Us)))) = H1 at *
    (try simp (maxSteps := 1000000) (disch := first | omega | (simp only [Z3]; omega) | (simp; done) | assumption | decide | (refine not_not_intro ?_; assumption)) only [Z1, Z2, splice])
    refine zfk (α := Us) rfl o1 (h.keep0 k1) (by simp; omega) (by simp; omega) fun w H2 o2 k2 v2 => ?_
    rw [List.nil_append] at o2
    (try simp (maxSteps := 1000000) (disch := first | omega | (simp only [Z3]; omega) | (simp; done) | assumption | decide | (refine not_not_intro ?_; assumption)) only [Z1, Z2, splice])
    refine hQ w H2 o2 (k1.trans k2 fun b hb hm => by simp at hm; omega) fun b hb => ?_
    rcases v2 b hb with q | q
    · simp at q; omega
    · omega
def zbd9 : ByteArray := ⟨#[97, 110, 110]⟩
def zbbh : ByteArray := ⟨#[48, 49, 50, 51, 52, 53, 54, 55, 56, 57, 97, 98, 99, 100, 101, 102]⟩
def zbzf : ByteArray := ⟨#[98, 111, 98]⟩
def zbti : ByteArray := ⟨#[48, 49, 50, 51, 52, 53, 54, 55, 56, 57, 97, 98, 99, 100, 101, 102, 48, 49, 50, 51, 52, 53, 54, 55, 56, 57, 97, 98, 99, 100, 101, 102]⟩
def z3l : Us := ⟨zbd9, zbbh, default⟩
def z81 : Us := ⟨zbzf, zbti, default⟩
def z18 : ByteArray := ⟨#[115, 105, 120, 116, 101, 101, 110, 32, 98, 121, 116, 101, 115, 32, 33, 33]⟩
theorem zbzg : zmt [z3l, z81] 1 = (0, 0) := by kernel_rfl
theorem zbzh : zg1 [z3l, z81] zbd9 = some 0 := by kernel_rfl
theorem zbtj (uv : V) (hu : uv.isOne = true) (idle : Int) : build [Value.slice none 0 0, Value.int .i64 0, Value.int .i64 0, Value.int .i64 0, Value.slice none 0 0, Value.slice none 0 0, Value.int .i64 0, Value.slice none 0 0, (Value.slice none 0 0 : V)] [(0, 1, uv), (1, 1, i64 idle)] = some (.agg (#[uv, i64 idle, i64 0, i64 0, .slice none 0 0, .slice none 0 0, i64 0, .slice none 0 0, .slice none 0 0] : Array V)) := by
  rw [zb8 (by rfl), zo hu (by decide), zo rfl (by rw [List.length_set]; decide), zx]
  rfl
theorem zbzi (u : Us) (n : ByteArray) (f : Int) : build [Value.string ⟨#[]⟩, Value.string ⟨#[]⟩, Value.slice none 0 0, Value.string ⟨#[]⟩, (Value.int .i64 0 : V)] [(0, 3, .agg (Flat.enc u).toArray), (3, 1, .string n), (4, 1, i64 f)] = some (.agg (Flat.enc (⟨u, n, f⟩ : Ch)).toArray) := by
  rw [zb8 (by rfl), z9 (n := 3) (vs := Flat.enc u) (z8b u) rfl (by decide), zo rfl (by simp [splice, zzt]), zo rfl (by simp [splice, zzt]), zx]
  rfl
theorem zbzj (u : Us) (k : ByteArray) (f : Int) : build [Value.string ⟨#[]⟩, Value.string ⟨#[]⟩, Value.slice none 0 0, Value.string ⟨#[]⟩, Value.int .i64 0, (Value.int .i64 0 : V)] [(0, 3, .agg (Flat.enc u).toArray), (3, 1, .string k), (4, 1, i64 1), (5, 1, i64 f)] = some (.agg (Flat.enc (⟨u, k, 1, f⟩ : Se)).toArray) := by
  rw [zb8 (by rfl), z9 (n := 3) (vs := Flat.enc u) (z8b u) rfl (by decide), zo rfl (by simp [splice, zzt]), zo rfl (by simp [splice, zzt]), zo rfl (by simp [splice, zzt]), zx]
  rfl
end Go.AM.Cap

/- sess: shelves, on things that lie apart (written by gense2.py) -/
set_option maxHeartbeats 16000000
namespace Go.AM.Cap
open Go.AM Go.Proofs
theorem z3m {α β : Type} : ∀ l : List (α × β), (l.map (·.1)).zip (l.map (·.2)) = l
  | [] => rfl
  | (a, b) :: l => by simp [z3m l]
theorem zvo {α β : Type} (f : α → β) (p : β → Bool) : ∀ l : List α, zgj p (l.map f) = zgj (fun x => p (f x)) l
  | [] => rfl
  | x :: l => by simp [zgj, zvo f p l]
theorem zbzk {H0 H : Heap} {L : List Thing} {d : Nat} {c0 c1 c2 c6 c7 c8 : V} {iv lv : V} {last : Int} {xs : List (Int × Ch)} (st : Hp H0 H (cel d [c0, c1, c2, i64 last, iv, lv, c6, c7, c8] :: own iv (xs.map (·.1)) :: own lv (xs.map (·.2)) :: L)) (hlast : 0 ≤ last ∧ last ≤ 1000000) (hxl : xs.length < 8) (x : Ch) (hv : vEq.vEq1 x.user.rs.v x.user.rs.v = true) (Q : V → Heap → Prop)
    (hQ : ∀ w3 w5 H', Hp H0 H' (cel d [c0, c1, c2, i64 (last + 1), w3, w5, c6, c7, c8] :: own w3 ((xs ++ [(last + 1, x)]).map (·.1)) :: own w5 ((xs ++ [(last + 1, x)]).map (·.2)) :: L) → Q (.tuple #[i64 (last + 1), .bool true]) H') :
    wp (zcv [ptr d 3, .agg (Flat.enc x).toArray]) Q H := by
  have h1 := st.apart2 (i := 0) (j := 1) rfl rfl (by omega) d (by simp [cel])
  have h2 := st.apart2 (i := 0) (j := 2) rfl rfl (by omega) d (by simp [cel])
  have h3 := st.apart2 (i := 1) (j := 2) rfl rfl (by omega)
  refine zb20 (st.get (i := 0) rfl) (st.own (i := 1) rfl) (st.own (i := 2) rfl) h1 h2 h3 hlast (by simpa using hxl) (by simp; omega) x hv Q fun w3 w5 H' g o3 o5 k n3 n5 dis => ?_
  refine hQ w3 w5 H' (st.steps3 k ?_ g ?_ ?_ rfl n3 n5 dis)
  · intro b hb
    simp only [List.mem_cons, List.mem_append] at hb
    rcases hb with rfl | hb | hb
    · exact .inl (by simp [cel])
    · exact .inr (.inl hb)
    · exact .inr (.inr (.inl hb))
  · rw [List.map_append]; exact o3
  · rw [List.map_append]; exact o5
theorem zbwd {H0 H : Heap} {L : List Thing} {d : Nat} {c0 c1 c2 c6 c7 c8 : V} {iv lv : V} {last : Int} {xs : List (Int × Ch)} (st : Hp H0 H (cel d [c0, c1, c2, i64 last, iv, lv, c6, c7, c8] :: own iv (xs.map (·.1)) :: own lv (xs.map (·.2)) :: L)) (hxl : xs.length = 8) (x : Ch) (Q : V → Heap → Prop)
    (hQ : ∀ H', Hp H0 H' (cel d [c0, c1, c2, i64 last, iv, lv, c6, c7, c8] :: own iv (xs.map (·.1)) :: own lv (xs.map (·.2)) :: L) → Q (.tuple #[i64 0, .bool false]) H') :
    wp (zcv [ptr d 3, .agg (Flat.enc x).toArray]) Q H := by
  show wp (zda (ptr d 3) (.agg (Flat.enc x).toArray)) Q H
  have ho := zbbg x
  unfold zda
  rw [zk, zk, zbff]
  refine (zbu ho).mpr ?_
  have st1 := st.push (some (.cells true [.string x.user.name, .string x.user.key, x.user.rs.v, .string x.nonce, i64 x.frame]))
  generalize H.push (some (.cells true [.string x.user.name, .string x.user.key, x.user.rs.v, .string x.nonce, i64 x.frame])) = H1 at *
  have d1 := st1.get (i := 0) rfl
  have hlen := (st1.own (i := 2) rfl).len
  rw [List.length_map, hxl] at hlen
  (try simp (maxSteps := 1000000) (disch := first | omega | (simp only [Z3]; omega) | (simp; done) | assumption | decide | (refine not_not_intro ?_; assumption)) only [Z1, Z2, splice, d1, hlen])
  exact hQ _ st1
theorem zbwe {S : zp} {f : V} {H0 H : Heap} {L : List Thing} {d : Nat} {c0 c1 c2 c6 c7 c8 : V} {iv lv : V} {last : Int} {xs : List (Int × Ch)} (st : Hp H0 H (cel d [c0, c1, c2, i64 last, iv, lv, c6, c7, c8] :: own iv (xs.map (·.1)) :: own lv (xs.map (·.2)) :: L)) (hxl : xs.length ≤ 8) (hvs : ∀ x ∈ xs, vEq.vEq1 x.2.user.rs.v x.2.user.rs.v = true)
    (p : Int → Ch → Bool) (hp : ∀ (H2 : Heap) (i : Int) (x : Ch) (Q : V → Heap → Prop), Keeps [] H H2 → (∀ H', Keeps [] H2 H' → Q (.bool (p i x)) H') → wp (zxn (ovr [] S) f [i64 i, .agg (Flat.enc x).toArray]) Q H2) (Q : V → Heap → Prop)
    (hQ : ∀ w3 w5 H', Hp H0 H' (cel d [c0, c1, c2, i64 last, w3, w5, c6, c7, c8] :: own w3 ((xs.filter fun e => p e.1 e.2).map (·.1)) :: own w5 ((xs.filter fun e => p e.1 e.2).map (·.2)) :: L) → Q (.tuple #[]) H') :
    wp (zci S [ptr d 3, f]) Q H := by
  refine zbka (st.get (i := 0) rfl) (st.own (i := 1) rfl) (st.own (i := 2) rfl) (by simp) (by simpa using hxl) (fun x hx => ?_) p hp Q fun w3 w5 H' g o3 o5 k n3 n5 dis => ?_
  · obtain ⟨e, he, rfl⟩ := List.mem_map.1 hx
    exact hvs e he
  · unfold zpi at o3 o5
    rw [z3m] at o3 o5
    refine hQ w3 w5 H' (st.steps3 k ?_ g o3 o5 rfl (fun b hb => .inr (n3 b hb)) (fun b hb => .inr (n5 b hb)) dis)
    intro b hb
    simp only [List.mem_singleton] at hb
    subst hb
    exact .inl (by simp [cel])
theorem zbwf {H0 H : Heap} {L : List Thing} {d : Nat} {c0 c1 c2 c6 c7 c8 : V} {iv lv : V} {last : Int} {xs : List (Int × Ch)} (st : Hp H0 H (cel d [c0, c1, c2, i64 last, iv, lv, c6, c7, c8] :: own iv (xs.map (·.1)) :: own lv (xs.map (·.2)) :: L)) (hxl : xs.length ≤ 8) (hvs : ∀ x ∈ xs, vEq.vEq1 x.2.user.rs.v x.2.user.rs.v = true) (id : Int) (Q : V → Heap → Prop)
    (hQ : ∀ w3 w5 H', Hp H0 H' (cel d [c0, c1, c2, i64 last, w3, w5, c6, c7, c8] :: own w3 ((xs.filter fun e => decide (e.1 ≠ id)).map (·.1)) :: own w5 ((xs.filter fun e => decide (e.1 ≠ id)).map (·.2)) :: L) → Q (.tuple #[]) H') :
    wp (zc5 [ptr d 3, i64 id]) Q H := by
  refine zb1j (st.get (i := 0) rfl) (st.own (i := 1) rfl) (st.own (i := 2) rfl) (by simp) (by simpa using hxl) (fun x hx => ?_) id Q fun w3 w5 H' g o3 o5 k n3 n5 dis => ?_
  · obtain ⟨e, he, rfl⟩ := List.mem_map.1 hx
    exact hvs e he
  · unfold zpi at o3 o5
    rw [z3m] at o3 o5
    refine hQ w3 w5 H' (st.steps3 k ?_ g o3 o5 rfl (fun b hb => .inr (n3 b hb)) (fun b hb => .inr (n5 b hb)) dis)
    intro b hb
    simp only [List.mem_singleton] at hb
    subst hb
    exact .inl (by simp [cel])
theorem zbzl {H0 H : Heap} {L : List Thing} {d : Nat} {c0 c1 c2 c6 c7 c8 : V} {iv lv : V} {last : Int} {xs : List (Int × Ch)} (st : Hp H0 H (cel d [c0, c1, c2, i64 last, iv, lv, c6, c7, c8] :: own iv (xs.map (·.1)) :: own lv (xs.map (·.2)) :: L)) (hxl : xs.length ≤ 8) (id : Int) (Q : V → Heap → Prop)
    (h0 : zgj (fun e : Int × Ch => decide (id = e.1)) xs = none → Q (.pointer none) H) (h1 : ∀ i, zgj (fun e : Int × Ch => decide (id = e.1)) xs = some i → Q (ptr (slB lv) (slO lv + i * 5)) H) :
    wp (zdb [ptr d 3, i64 id]) Q H := by
  refine zb21 (st.get (i := 0) rfl) (st.own (i := 1) rfl) (st.own (i := 2) rfl) (by simp) (by simp; omega) id Q ?_
  rw [zvo]
  cases hi : zgj (fun e : Int × Ch => decide (id = e.1)) xs with
  | none => exact h0 hi
  | some i => exact h1 i hi
theorem zbzm {H0 H : Heap} {L : List Thing} {d : Nat} {c0 c1 c2 c3 c4 c5 : V} {iv lv : V} {last : Int} {xs : List (Int × Se)} (st : Hp H0 H (cel d [c0, c1, c2, c3, c4, c5, i64 last, iv, lv] :: own iv (xs.map (·.1)) :: own lv (xs.map (·.2)) :: L)) (hlast : 0 ≤ last ∧ last ≤ 1000000) (hxl : xs.length < 8) (x : Se) (hv : vEq.vEq1 x.user.rs.v x.user.rs.v = true) (Q : V → Heap → Prop)
    (hQ : ∀ w3 w5 H', Hp H0 H' (cel d [c0, c1, c2, c3, c4, c5, i64 (last + 1), w3, w5] :: own w3 ((xs ++ [(last + 1, x)]).map (·.1)) :: own w5 ((xs ++ [(last + 1, x)]).map (·.2)) :: L) → Q (.tuple #[i64 (last + 1), .bool true]) H') :
    wp (zc2 [ptr d 6, .agg (Flat.enc x).toArray]) Q H := by
  have h1 := st.apart2 (i := 0) (j := 1) rfl rfl (by omega) d (by simp [cel])
  have h2 := st.apart2 (i := 0) (j := 2) rfl rfl (by omega) d (by simp [cel])
  have h3 := st.apart2 (i := 1) (j := 2) rfl rfl (by omega)
  refine zb22 (st.get (i := 0) rfl) (st.own (i := 1) rfl) (st.own (i := 2) rfl) h1 h2 h3 hlast (by simpa using hxl) (by simp; omega) x hv Q fun w3 w5 H' g o3 o5 k n3 n5 dis => ?_
  refine hQ w3 w5 H' (st.steps3 k ?_ g ?_ ?_ rfl n3 n5 dis)
  · intro b hb
    simp only [List.mem_cons, List.mem_append] at hb
    rcases hb with rfl | hb | hb
    · exact .inl (by simp [cel])
    · exact .inr (.inl hb)
    · exact .inr (.inr (.inl hb))
  · rw [List.map_append]; exact o3
  · rw [List.map_append]; exact o5
theorem zbwg {H0 H : Heap} {L : List Thing} {d : Nat} {c0 c1 c2 c3 c4 c5 : V} {iv lv : V} {last : Int} {xs : List (Int × Se)} (st : Hp H0 H (cel d [c0, c1, c2, c3, c4, c5, i64 last, iv, lv] :: own iv (xs.map (·.1)) :: own lv (xs.map (·.2)) :: L)) (hxl : xs.length = 8) (x : Se) (Q : V → Heap → Prop)
    (hQ : ∀ H', Hp H0 H' (cel d [c0, c1, c2, c3, c4, c5, i64 last, iv, lv] :: own iv (xs.map (·.1)) :: own lv (xs.map (·.2)) :: L) → Q (.tuple #[i64 0, .bool false]) H') :
    wp (zc2 [ptr d 6, .agg (Flat.enc x).toArray]) Q H := by
  show wp (zdm (ptr d 6) (.agg (Flat.enc x).toArray)) Q H
  have ho := zbfg x
  unfold zdm
  rw [zk, zk, zbj9]
  refine (zbu ho).mpr ?_
  have st1 := st.push (some (.cells true [.string x.user.name, .string x.user.key, x.user.rs.v, .string x.key, i64 x.next, i64 x.frame]))
  generalize H.push (some (.cells true [.string x.user.name, .string x.user.key, x.user.rs.v, .string x.key, i64 x.next, i64 x.frame])) = H1 at *
  have d1 := st1.get (i := 0) rfl
  have hlen := (st1.own (i := 2) rfl).len
  rw [List.length_map, hxl] at hlen
  (try simp (maxSteps := 1000000) (disch := first | omega | (simp only [Z3]; omega) | (simp; done) | assumption | decide | (refine not_not_intro ?_; assumption)) only [Z1, Z2, splice, d1, hlen])
  exact hQ _ st1
theorem zbwh {S : zp} {f : V} {H0 H : Heap} {L : List Thing} {d : Nat} {c0 c1 c2 c3 c4 c5 : V} {iv lv : V} {last : Int} {xs : List (Int × Se)} (st : Hp H0 H (cel d [c0, c1, c2, c3, c4, c5, i64 last, iv, lv] :: own iv (xs.map (·.1)) :: own lv (xs.map (·.2)) :: L)) (hxl : xs.length ≤ 8) (hvs : ∀ x ∈ xs, vEq.vEq1 x.2.user.rs.v x.2.user.rs.v = true)
    (p : Int → Se → Bool) (hp : ∀ (H2 : Heap) (i : Int) (x : Se) (Q : V → Heap → Prop), Keeps [] H H2 → (∀ H', Keeps [] H2 H' → Q (.bool (p i x)) H') → wp (zxn (ovr [] S) f [i64 i, .agg (Flat.enc x).toArray]) Q H2) (Q : V → Heap → Prop)
    (hQ : ∀ w3 w5 H', Hp H0 H' (cel d [c0, c1, c2, c3, c4, c5, i64 last, w3, w5] :: own w3 ((xs.filter fun e => p e.1 e.2).map (·.1)) :: own w5 ((xs.filter fun e => p e.1 e.2).map (·.2)) :: L) → Q (.tuple #[]) H') :
    wp (zcn S [ptr d 6, f]) Q H := by
  refine zbkb (st.get (i := 0) rfl) (st.own (i := 1) rfl) (st.own (i := 2) rfl) (by simp) (by simpa using hxl) (fun x hx => ?_) p hp Q fun w3 w5 H' g o3 o5 k n3 n5 dis => ?_
  · obtain ⟨e, he, rfl⟩ := List.mem_map.1 hx
    exact hvs e he
  · unfold zpj at o3 o5
    rw [z3m] at o3 o5
    refine hQ w3 w5 H' (st.steps3 k ?_ g o3 o5 rfl (fun b hb => .inr (n3 b hb)) (fun b hb => .inr (n5 b hb)) dis)
    intro b hb
    simp only [List.mem_singleton] at hb
    subst hb
    exact .inl (by simp [cel])
theorem zbmj {H0 H : Heap} {L : List Thing} {d : Nat} {c0 c1 c2 c3 c4 c5 : V} {iv lv : V} {last : Int} {xs : List (Int × Se)} (st : Hp H0 H (cel d [c0, c1, c2, c3, c4, c5, i64 last, iv, lv] :: own iv (xs.map (·.1)) :: own lv (xs.map (·.2)) :: L)) (hxl : xs.length ≤ 8) (hvs : ∀ x ∈ xs, vEq.vEq1 x.2.user.rs.v x.2.user.rs.v = true) (id : Int) (Q : V → Heap → Prop)
    (hQ : ∀ w3 w5 H', Hp H0 H' (cel d [c0, c1, c2, c3, c4, c5, i64 last, w3, w5] :: own w3 ((xs.filter fun e => decide (e.1 ≠ id)).map (·.1)) :: own w5 ((xs.filter fun e => decide (e.1 ≠ id)).map (·.2)) :: L) → Q (.tuple #[]) H') :
    wp (zcb [ptr d 6, i64 id]) Q H := by
  refine zb1l (st.get (i := 0) rfl) (st.own (i := 1) rfl) (st.own (i := 2) rfl) (by simp) (by simpa using hxl) (fun x hx => ?_) id Q fun w3 w5 H' g o3 o5 k n3 n5 dis => ?_
  · obtain ⟨e, he, rfl⟩ := List.mem_map.1 hx
    exact hvs e he
  · unfold zpj at o3 o5
    rw [z3m] at o3 o5
    refine hQ w3 w5 H' (st.steps3 k ?_ g o3 o5 rfl (fun b hb => .inr (n3 b hb)) (fun b hb => .inr (n5 b hb)) dis)
    intro b hb
    simp only [List.mem_singleton] at hb
    subst hb
    exact .inl (by simp [cel])
theorem zbkc {H0 H : Heap} {L : List Thing} {d : Nat} {c0 c1 c2 c3 c4 c5 : V} {iv lv : V} {last : Int} {xs : List (Int × Se)} (st : Hp H0 H (cel d [c0, c1, c2, c3, c4, c5, i64 last, iv, lv] :: own iv (xs.map (·.1)) :: own lv (xs.map (·.2)) :: L)) (hxl : xs.length ≤ 8) (id : Int) (Q : V → Heap → Prop)
    (h0 : zgj (fun e : Int × Se => decide (id = e.1)) xs = none → Q (.pointer none) H) (h1 : ∀ i, zgj (fun e : Int × Se => decide (id = e.1)) xs = some i → Q (ptr (slB lv) (slO lv + i * 6)) H) :
    wp (zbr [ptr d 6, i64 id]) Q H := by
  refine zb23 (st.get (i := 0) rfl) (st.own (i := 1) rfl) (st.own (i := 2) rfl) (by simp) (by simp; omega) id Q ?_
  rw [zvo]
  cases hi : zgj (fun e : Int × Se => decide (id = e.1)) xs with
  | none => exact h0 hi
  | some i => exact h1 i hi
end Go.AM.Cap
