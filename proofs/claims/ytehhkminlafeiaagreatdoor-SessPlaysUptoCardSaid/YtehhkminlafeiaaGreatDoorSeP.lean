import Derived.Test.YtehhkminlafeiaaGreatDoorSeO
import Derived.Test.YtehhkminlafeiaaGreatDoorAmOpenF
set_option linter.all false
/- sess: the reference's desk: New, Hello, find, over, Logout -/
set_option maxHeartbeats 16000000
namespace Go.AM.Cap
open Go.AM Go.Proofs
structure Rch where
  id : Int
  user : Int
  frame : Int
  nonce : ByteArray
instance : Inhabited Rch := ⟨⟨0, 0, 0, ⟨#[]⟩⟩⟩
instance : Flat Rch := ⟨4, fun c => [i64 c.id, i64 c.user, i64 c.frame, .string c.nonce], fun _ => rfl, fun _ => rfl, by decide⟩
theorem zbut (c : Rch) : Flat.enc c = [i64 c.id, i64 c.user, i64 c.frame, .string c.nonce] := rfl
structure Rse where
  id : Int
  user : Int
  next : Int
  frame : Int
  key : ByteArray
instance : Inhabited Rse := ⟨⟨0, 0, 0, 0, ⟨#[]⟩⟩⟩
instance : Flat Rse := ⟨5, fun c => [i64 c.id, i64 c.user, i64 c.next, i64 c.frame, .string c.key], fun _ => rfl, fun _ => rfl, by decide⟩
theorem zbuu (c : Rse) : Flat.enc c = [i64 c.id, i64 c.user, i64 c.next, i64 c.frame, .string c.key] := rfl
def zhv (us : List Us) (u : Us) : Nat := (zg1 us u.name).getD 0
def zgb (us : List Us) (e : Int × Ch) : Rch := ⟨e.1, zhv us e.2.user, e.2.frame, e.2.nonce⟩
def zd6 (us : List Us) (e : Int × Se) : Rse := ⟨e.1, zhv us e.2.user, e.2.next, e.2.frame, e.2.key⟩
def ze0 (H0 H : Heap) (r : Nat) (D : Dk) (uv : V) (L : List Thing) : Prop :=
  ∃ cv sv' : V, Hp H0 H (cel r [uv, i64 D.idle, i64 D.frame, cv, sv', i64 D.lc, i64 D.ls] :: own cv (D.cl.map (zgb D.us)) :: own sv' (D.sl.map (zd6 D.us)) :: L)
theorem ze0.keep0 {H0 H H' : Heap} {r : Nat} {D : Dk} {uv : V} {L : List Thing} (h : ze0 H0 H r D uv L) (hk : Keeps [] H H') : ze0 H0 H' r D uv L := by
  obtain ⟨cv, sv', st⟩ := h; exact ⟨cv, sv', st.keep0 hk⟩
theorem ze0.keeps {H0 H : Heap} {r : Nat} {D : Dk} {uv : V} {L : List Thing} (h : ze0 H0 H r D uv L) : Keeps [] H0 H := by
  obtain ⟨cv, sv', st⟩ := h; exact st.keeps
def Like (a b : List Us) : Prop := a.map (fun u => (u.name, u.key)) = b.map (fun u => (u.name, u.key))
theorem Like.len {a b : List Us} (h : Like a b) : a.length = b.length := by have := congrArg List.length h; simpa using this
theorem Like.at {a b : List Us} (h : Like a b) (i : Nat) : (a.getD i default).name = (b.getD i default).name ∧ (a.getD i default).key = (b.getD i default).key := by
  have hl := h.len
  by_cases hi : i < a.length
  · have e : (a.map (fun u => (u.name, u.key))).getD i default = (b.map (fun u => (u.name, u.key))).getD i default := by rw [h]
    rw [zkc (d' := default) hi, zkc (d' := default) (by omega)] at e
    exact ⟨congrArg Prod.fst e, congrArg Prod.snd e⟩
  · rw [List.getD_eq_getElem?_getD, List.getD_eq_getElem?_getD, List.getElem?_eq_none (by omega), List.getElem?_eq_none (by omega)]
    exact ⟨rfl, rfl⟩
theorem Like.find {a b : List Us} (h : Like a b) (n : ByteArray) : zg1 a n = zg1 b n := by
  unfold zg1
  have e : ∀ l : List Us, zgj (fun u => decide (u.name = n)) l = zgj (fun p : ByteArray × ByteArray => decide (p.1 = n)) (l.map (fun u => (u.name, u.key))) := fun l => (zvo (fun u : Us => (u.name, u.key)) (fun p : ByteArray × ByteArray => decide (p.1 = n)) l).symm
  rw [e, e, h]
structure Dk.Un (D : Dk) : Prop where
  c : (D.cl.map (·.1)).Nodup
  s : (D.sl.map (·.1)).Nodup
  users : ∀ u ∈ D.us, D.us.getD (zhv D.us u) default = u
theorem zxh {α : Type} : ∀ {l : List (Int × α)} {id : Int} {i : Nat}, (l.map (·.1)).Nodup → zgj (fun e : Int × α => decide (id = e.1)) l = some i → l.filter (fun e => decide (e.1 ≠ id)) = l.eraseIdx i
  | [], _, _, _, h => by cases h
  | x :: l, id, i, hn, h => by
    unfold zgj at h
    rw [List.map_cons, List.nodup_cons] at hn
    by_cases hx : id = x.1
    · rw [if_pos (decide_eq_true hx)] at h
      cases h
      subst hx
      rw [List.filter_cons, if_neg (by simp), List.eraseIdx_cons_zero, List.filter_eq_self]
      intro e he
      refine decide_eq_true fun q => hn.1 ?_
      rw [← q]
      exact List.mem_map_of_mem he
    · rw [if_neg (by simp [hx])] at h
      cases hq : zgj (fun e : Int × α => decide (id = e.1)) l with
      | none => rw [hq] at h; cases h
      | some j =>
        rw [hq] at h
        cases h
        rw [List.filter_cons, if_pos (by simpa using fun q : x.1 = id => hx q.symm), List.eraseIdx_cons_succ, zxh hn.2 hq]
theorem zbz3 {us : List Us} {n : ByteArray} {i : Nat} (h : zg1 us n = some i) : zhv us (us.getD i default) = i := by
  obtain ⟨_, hp, _⟩ := zey (d := default) h
  unfold zhv
  rw [of_decide_eq_true hp, h]
  rfl
theorem zbz4 (us : List Us) (id : Int) (l : List (Int × Se)) : zgj (fun c : Rse => decide (c.id = id)) (l.map (zd6 us)) = zgj (fun e : Int × Se => decide (id = e.1)) l := by
  rw [zvo]
  congr 1
  funext e
  exact decide_eq_decide.2 ⟨fun q => q.symm, fun q => q.symm⟩
theorem zbuv {H0 H : Heap} {L : List Thing} {v : V} {l us : List Us} (st : Hp H0 H L) (hv : Users H v l) (hnm : ∀ u ∈ l, u.name.size ≤ 1048576) (parts idle : Int) (Q : V → Heap → Prop)
    (h0 : ∀ H', Hp H0 H' L → z4t l parts idle ≠ 0 → Q (.tuple #[.pointer none, i64 (z4t l parts idle)]) H')
    (h1 : ∀ d H', ze0 H0 H' d (zrg us idle) v L → z4t l parts idle = 0 → Q (.tuple #[ptr d 0, i64 0]) H') : wp (zru [v, i64 parts, i64 idle]) Q H := by
  show wp (zz9 v (i64 parts) (i64 idle)) Q H
  unfold zz9
  rw [zk, zk, zk]
  refine zbwr hv hnm parts _ fun H1 k1 => ?_
  have st1 := st.keep0 k1
  by_cases he : (zmt l parts).2 = 0
  case neg =>
    have e : z4t l parts idle = (zmt l parts).2 := by unfold z4t; rw [if_pos he]
    rw [e] at h0
    (try simp (maxSteps := 1000000) (disch := first | omega | (simp only [Z3]; omega) | (simp; done) | assumption | decide | (refine not_not_intro ?_; assumption)) only [Z1, Z2, splice])
    exact h0 _ st1 he
  have e : z4t l parts idle = if idle < 1 ∨ idle > 100000 then 1 else 0 := by unfold z4t; rw [if_neg (by simp [he])]
  rw [e] at h0 h1
  rw [he]
  by_cases b1 : idle < 1
  · rw [if_pos (.inl b1)] at h0
    (try simp (maxSteps := 1000000) (disch := first | omega | (simp only [Z3]; omega) | (simp; done) | assumption | decide | (refine not_not_intro ?_; assumption)) only [Z1, Z2, splice, zw2])
    exact h0 _ st1 (by decide)
  by_cases b2 : idle > 100000
  · rw [if_pos (.inr b2)] at h0
    (try simp (maxSteps := 1000000) (disch := first | omega | (simp only [Z3]; omega) | (simp; done) | assumption | decide | (refine not_not_intro ?_; assumption)) only [Z1, Z2, splice, zw2])
    exact h0 _ st1 (by decide)
  rw [if_neg (by omega)] at h1
  have hu := hv.out.isOne
  have hb : build [Value.slice none 0 0, Value.int .i64 0, Value.int .i64 0, Value.slice none 0 0, Value.slice none 0 0, Value.int .i64 0, (Value.int .i64 0 : V)] [(0, 1, v), (1, 1, i64 idle)] = some (.agg (#[v, i64 idle, i64 0, .slice none 0 0, .slice none 0 0, i64 0, i64 0] : Array V)) := by
    rw [zb8 (by rfl), zo hu (by decide), zo rfl (by rw [List.length_set]; decide), zx]
    rfl
  have hone : ([v, i64 idle, i64 0, .slice none 0 0, .slice none 0 0, i64 0, i64 0] : List V).all Value.isOne = true := by simp [hu]
  (try simp (maxSteps := 1000000) (disch := first | omega | (simp only [Z3]; omega) | (simp; done) | assumption | decide | (refine not_not_intro ?_; assumption)) only [Z1, zl, zr, zcr, zeh, eq_self, true_and, zcu, zck, zf0, zc6, zby, zbu, Heap.get_push_eq, Heap.get_push_lt, Heap.get_set_eq, Heap.get_set_ne', Heap.next_push', Heap.next_set', Heap.set_push_lt, Heap.set_push_eq, Heap.set_set, zbz, zb0, zbf, zb3, zb4, z4, zbh, zb5, zbq, zbe, zbv, zbw, zbo, zbx, List.set_cons_zero, List.set_cons_succ, List.length_cons, List.length_nil, List.drop_succ_cons, List.drop_zero, List.take_succ_cons, List.take_zero, List.nil_append, List.cons_append, splice, zbb, zbc, z0, zq, zm, zbd, zb1, zbg, zc8, zcm, zb2, zx, zo, z9, Option.map_some, zb6, zbn, z6, zbi, zbj, zbk, z5, zbl, zbm, zw2, zbck, hb])
  first | (refine (zbu hone).mpr ?_) | skip
  (try simp (maxSteps := 1000000) (disch := first | omega | (simp only [Z3]; omega) | (simp; done) | assumption | decide | (refine not_not_intro ?_; assumption)) only [Z1, Z2, splice])
  have s1 := st1.nilo (α := Rse)
  have s2 := s1.nilo (α := Rch)
  exact h1 _ _ ⟨_, _, s2.newc [v, i64 idle, i64 0, .slice none 0 0, .slice none 0 0, i64 0, i64 0]⟩ rfl
theorem zbhg {α : Type} [Flat α] {H0 H K : Heap} {L : List Thing} {b : Nat} {x : V} {xs ys : List α} {n bytes : Nat} {Q : V → Heap → Prop} (st : Hp H0 H L) (hK : Keeps [] H K) (hb : H.next ≤ b) (ho : zcj K (slc b 0 n ys.length ys.length) ys) (hs : Flat.size α = n) (hx : Sl K x xs) (h1 : (ys.length + xs.length) * bytes ≤ 35184372088832) (h2 : ys.length + xs.length ≤ 35184372088832)
    (hQ : ∀ w K', Hp H0 K' (own w (ys ++ xs) :: L) → zcj K' w (ys ++ xs) → Keeps [] H K' → (∀ c, c ≠ b → c < K.next → K'.get c = K.get c) → K.next ≤ K'.next → (∀ c ∈ vb w, c = b ∨ K.next ≤ c) → Q w K') : wp (ze6 n bytes (slc b 0 n ys.length ys.length) x) Q K := by
  refine zfk hs ho hx h1 h2 fun w K' o k v => ?_
  have hk : Keeps [] H K' := hK.trans k fun c hc hm => by simp at hm; omega
  have o' : (own w (ys ++ xs)).P K' := o
  have hnew : ∀ c ∈ (own w (ys ++ xs)).fp, H.next ≤ c := fun c hc => by
    rcases v c hc with q | q
    · simp at q; omega
    · have := hK.next; omega
  refine hQ w K' (st.add hk o' hnew) o hk (fun c hc hl => k.same c hl (by simpa using hc)) k.next (fun c hc => ?_)
  rcases v c hc with q | q
  · exact .inl (by simpa using q)
  · exact .inr q
theorem zboy {H0 H : Heap} {L : List Thing} {a c o v : Thing} (h : Hp H0 H (a :: c :: o :: v :: L)) : Hp H0 H (c :: a :: v :: L) :=
  (h.perm (List.Perm.swap _ _ _)).sub (((List.sublist_cons_self o (v :: L)).cons_cons a).cons_cons c)
theorem zboz {H0 H : Heap} {L : List Thing} {a c o v : Thing} (h : Hp H0 H (a :: c :: o :: v :: L)) : Hp H0 H (c :: o :: a :: L) :=
  (Hp.rotN [] [a] [c, o] h).sub (((List.sublist_cons_self v L).cons_cons a |>.cons_cons o |>.cons_cons c) |> fun q => by
    have : (c :: o :: a :: L).Sublist (c :: o :: a :: v :: L) := (((List.sublist_cons_self v L).cons_cons a).cons_cons o).cons_cons c
    exact this)
theorem zbz5 (H : Heap) : Keeps [] H ((H.push none).push none) ∧ ((H.push none).push none).get H.next = none ∧ ((H.push none).push none).get (H.next + 1) = none ∧ ((H.push none).push none).next = H.next + 2 :=
  ⟨zh8 (Keeps.push _ _ _), by rw [Heap.get_push_lt (by simp)]; exact Heap.get_push_self _ _, Heap.get_push_eq (by simp), by simp⟩
theorem zbz6 (x : Rch) : zef (rep 1 [Value.int .i64 0, Value.int .i64 0, Value.int .i64 0, (Value.string ⟨#[]⟩ : V)]) [(0, 4, .agg #[i64 x.id, i64 x.user, i64 x.frame, .string x.nonce])] = some (zba [x]) := by rfl
theorem zbz7 (x : Rse) : zef (rep 1 [Value.int .i64 0, Value.int .i64 0, Value.int .i64 0, Value.int .i64 0, (Value.string ⟨#[]⟩ : V)]) [(0, 5, .agg #[i64 x.id, i64 x.user, i64 x.next, i64 x.frame, .string x.key])] = some (zba [x]) := by rfl
set_option maxRecDepth 20000 in
theorem zbws {H0 H : Heap} {r : Nat} {D : Dk} {uv : V} {ul : List Us} {L : List Thing} {n : Int} (h : ze0 H0 H r D uv L) (hul : Sl H0 uv ul) (hlk : Like ul D.us) (ok : D.Ok n) (hn : n ≤ 1000000) (name nonce : ByteArray) (Q : V → Heap → Prop)
    (hQ : ∀ H', ze0 H0 H' r (zpy D name nonce).2 uv L → Q (.tuple #[i64 (zpy D name nonce).1.1, i64 (zpy D name nonce).1.2]) H') : wp (zg5 [ptr r 0, .string name, .string nonce]) Q H := by
  show wp (zl6 (ptr r 0) (.string name) (.string nonce)) Q H
  obtain ⟨cv, sv', st⟩ := h
  have g := st.get (i := 0) rfl
  have hus := ok.us
  have hll := hlk.len
  (try simp (maxSteps := 1000000) (disch := first | omega | (simp only [Z3]; omega) | (simp; done) | assumption | decide | (refine not_not_intro ?_; assumption)) only [Z1, Z2, splice, zl6, g])
  refine zbz0 (hul.keep0 st.keeps) (by omega) name _ ?_
  rw [hlk.find]
  unfold zpy at hQ
  cases hf : zg1 D.us name with
  | none =>
    rw [hf] at hQ
    (try simp (maxSteps := 1000000) (disch := first | omega | (simp only [Z3]; omega) | (simp; done) | assumption | decide | (refine not_not_intro ?_; assumption)) only [Z1, Z2, splice])
    exact hQ _ ⟨_, _, st⟩
  | some i =>
    rw [hf] at hQ
    dsimp only at hQ ⊢
    by_cases hz : nonce.size = 16
    case neg =>
      rw [if_pos hz] at hQ
      have hz' : ¬ ((nonce.size : Int) = 16) := by omega
      (try simp (maxSteps := 1000000) (disch := first | omega | (simp only [Z3]; omega) | (simp; done) | assumption | decide | (refine not_not_intro ?_; assumption)) only [Z1, Z2, splice, zkx])
      exact hQ _ ⟨_, _, st⟩
    rw [if_neg (by simp [hz])] at hQ
    have hz' : ((nonce.size : Int) = 16) := by omega
    have hlen := (st.own (i := 1) rfl).len
    rw [List.length_map] at hlen
    have hcl := ok.cl
    have hlc := ok.lc
    by_cases h8 : D.cl.length = 8
    · rw [if_pos h8] at hQ
      (try simp (maxSteps := 1000000) (disch := first | omega | (simp only [Z3]; omega) | (simp; done) | assumption | decide | (refine not_not_intro ?_; assumption)) only [Z1, Z2, splice, zkx, zpt, g, hlen])
      exact hQ _ ⟨_, _, st⟩
    rw [if_neg h8] at hQ
    (try simp (maxSteps := 1000000) (disch := first | omega | (simp only [Z3]; omega) | (simp; done) | assumption | decide | (refine not_not_intro ?_; assumption)) only [Z1, Z2, splice, zkx, zpt, g, hlen, zv9])
    have st1 := st.set (i := 0) rfl [uv, i64 D.idle, i64 D.frame, cv, sv', i64 (D.lc + 1), i64 D.ls]
    have st1' : Hp H0 (H.set r (some (.cells true [uv, i64 D.idle, i64 D.frame, cv, sv', i64 (D.lc + 1), i64 D.ls]))) (cel r [uv, i64 D.idle, i64 D.frame, cv, sv', i64 (D.lc + 1), i64 D.ls] :: own cv (D.cl.map (zgb D.us)) :: own sv' (D.sl.map (zd6 D.us)) :: L) := st1
    clear st1
    generalize H.set r (some (.cells true [uv, i64 D.idle, i64 D.frame, cv, sv', i64 (D.lc + 1), i64 D.ls])) = H1 at *
    have hx0 : ∀ K : Nat, Option.map (fun cs : List V => Value.agg cs.toArray) (zef [Value.int .i64 0, Value.int .i64 0, Value.int .i64 0, (Value.string ⟨#[]⟩ : V)] [(0, 1, i64 (D.lc + 1)), (1, 1, i64 (i : Int)), (2, 1, i64 D.frame), (3, 1, .string nonce)]) = some (.agg (Flat.enc (⟨D.lc + 1, i, D.frame, nonce⟩ : Rch)).toArray) := fun _ => by rfl
    refine zrj.mpr ?_
    rw [zbn]
    obtain ⟨k2, f20, f21, n2⟩ := zbz5 H1
    generalize (H1.push none).push none = H2 at *
    have st2 := st1'.keep0 k2
    have g2 := st2.get (i := 0) rfl
    (try simp (maxSteps := 1000000) (disch := first | omega | (simp only [Z3]; omega) | (simp; done) | assumption | decide | (refine not_not_intro ?_; assumption)) only [Z1, Z2, splice, g2])
    refine zgq (cs := zba ([] : List Rch)) f20 (by omega) (by rfl) (by rfl) ?_
    have k3 : Keeps [H1.next] H2 (H2.set H1.next (some (.cells true (zba ([] : List Rch))))) := Keeps.set (by simp)
    have o3 : zcj (H2.set H1.next (some (.cells true (zba ([] : List Rch))))) (slc H1.next 0 4 0 0) ([] : List Rch) := .inr ⟨H1.next, rfl, Heap.get_set_eq (by omega)⟩
    have n3 : (H2.set H1.next (some (.cells true (zba ([] : List Rch))))).next = H2.next := by simp
    generalize H2.set H1.next (some (.cells true (zba ([] : List Rch)))) = H3 at *
    have kk3 : Keeps [] H1 H3 := k2.trans k3 (fun b hb hm => by simp at hm; omega)
    have f31 : H3.get (H1.next + 1) = none := by rw [k3.same _ (by omega) (by simp)]; exact f21
    (try simp (maxSteps := 1000000) (disch := first | omega | (simp only [Z3]; omega) | (simp; done) | assumption | decide | (refine not_not_intro ?_; assumption)) only [Z1, Z2, splice])
    refine zbhg (ys := ([] : List Rch)) st1' kk3 (Nat.le_refl _) o3 rfl ((st1'.keep0 kk3).own (i := 1) rfl).sl (by simp; omega) (by simp; omega) fun w H4 st4 o4 k4 same4 nx4 v4 => ?_
    have f41 : H4.get (H1.next + 1) = none := by rw [same4 _ (by omega) (by omega)]; exact f31
    have fr3 : zej H3 [H1.next + 1] = true := by rw [zgp f31 (by omega)]; rfl
    have fr4 : zej H4 [H1.next + 1] = true := by rw [zgp f41 (by omega)]; rfl
    have g4 := st4.get (i := 1) rfl
    (try simp (maxSteps := 1000000) (disch := first | omega | (simp only [Z3]; omega) | (simp; done) | assumption | decide | (refine not_not_intro ?_; assumption)) only [Z1, Z2, splice, fr3, fr4, Bool.and_self])
    refine zgq (cs := zba [(⟨D.lc + 1, i, D.frame, nonce⟩ : Rch)]) f41 (by omega) (by rfl) (by rfl) ?_
    have k5 : Keeps [H1.next + 1] H4 (H4.set (H1.next + 1) (some (.cells true (zba [(⟨D.lc + 1, i, D.frame, nonce⟩ : Rch)])))) := Keeps.set (by simp)
    have o5 : zcj (H4.set (H1.next + 1) (some (.cells true (zba [(⟨D.lc + 1, i, D.frame, nonce⟩ : Rch)])))) (slc (H1.next + 1) 0 4 1 1) [(⟨D.lc + 1, i, D.frame, nonce⟩ : Rch)] := .inr ⟨_, rfl, Heap.get_set_eq (by omega)⟩
    generalize H4.set (H1.next + 1) (some (.cells true (zba [(⟨D.lc + 1, i, D.frame, nonce⟩ : Rch)]))) = H5 at *
    have hn0 := st1'.keeps.next
    have st5 := st4.keep k5 (fun b hb => by
      simp at hb
      subst hb
      refine ⟨by omega, fun t ht => ?_⟩
      rcases List.mem_cons.1 ht with rfl | ht
      · intro q
        rcases v4 _ q with z | z
        · omega
        · omega
      · intro q
        have := t.lt (st1'.all t ht) _ q
        omega)
    (try simp (maxSteps := 1000000) (disch := first | omega | (simp only [Z3]; omega) | (simp; done) | assumption | decide | (refine not_not_intro ?_; assumption)) only [Z1, Z2, splice])
    refine zbcc (i := 0) st5 rfl rfl o5.sl (by simp; omega) (by simp; omega) fun w2 H6 st6 => ?_
    have st6' : Hp H0 H6 (own w2 (([] ++ D.cl.map (zgb D.us)) ++ [(⟨D.lc + 1, i, D.frame, nonce⟩ : Rch)]) :: cel r [uv, i64 D.idle, i64 D.frame, cv, sv', i64 (D.lc + 1), i64 D.ls] :: own cv (D.cl.map (zgb D.us)) :: own sv' (D.sl.map (zd6 D.us)) :: L) := st6
    have g6 := st6'.get (i := 1) rfl
    have l6 := Heap.get_lt g6
    have ow := (st6'.own (i := 0) rfl).isOne
    (try simp (maxSteps := 1000000) (disch := first | omega | (simp only [Z3]; omega) | (simp; done) | assumption | decide | (refine not_not_intro ?_; assumption)) only [Z1, Z2, splice, g6, g4, ow])
    have st7 := st6'.set (i := 1) rfl [uv, i64 D.idle, i64 D.frame, w2, sv', i64 (D.lc + 1), i64 D.ls]
    have hpos := zbz3 hf
    refine hQ _ ⟨w2, sv', ?_⟩
    have e1 : (D.cl ++ [(D.lc + 1, (⟨D.us.getD i default, nonce, D.frame⟩ : Ch))]).map (zgb D.us) = ([] ++ D.cl.map (zgb D.us)) ++ [(⟨D.lc + 1, i, D.frame, nonce⟩ : Rch)] := by
      rw [List.map_append, List.nil_append, List.map_cons, List.map_nil]
      congr 1
      unfold zgb
      rw [hpos]
    dsimp only
    rw [e1]
    exact zboy st7
end Go.AM.Cap
