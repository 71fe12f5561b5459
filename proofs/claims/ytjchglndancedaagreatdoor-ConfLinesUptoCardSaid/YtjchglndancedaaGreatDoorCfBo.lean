import Derived.Test.YtjchglndancedaaGreatDoorCfBn
import Derived.Test.YtjchglndancedaaGreatDoorCfJ
import Derived.Lib.ItoaLen
import Derived.Test.YtjchglndancedaaGreatDoorAmIn
set_option linter.all false
/- conf: builders among things; a line that is written -/
set_option maxHeartbeats 8000000
namespace Go.AM.Cap
open Go.AM Go.Proofs
variable {H0 H : Heap} {L : List Thing}
def wrt (b : Nat) (bf : Option Nat) (l : List UInt8) : Thing :=
  ⟨b :: bf.toList, fun H => (∃ used, H.get b = some (.bld 74 used bf l.length)) ∧ (match bf with | none => l = [] | some g => H.get g = some (.buf 5 l) ∧ l ≠ []),
    fun _ h p => by
      obtain ⟨⟨u, hu⟩, q⟩ := p
      refine ⟨⟨u, by rw [h b (by simp)]; exact hu⟩, ?_⟩
      cases bf with
      | none => exact q
      | some g => exact ⟨by rw [h g (by simp)]; exact q.1, q.2⟩,
    fun p c hc => by
      obtain ⟨⟨u, hu⟩, q⟩ := p
      rcases List.mem_cons.1 hc with rfl | hc
      · exact Heap.get_lt hu
      · cases bf with
        | none => simp at hc
        | some g =>
          simp at hc
          subst hc
          exact Heap.get_lt q.1⟩
theorem zbtj {H : Heap} {Q : V → Heap → Prop} (t : TypeId) : wp (bldM t (.agg [.pointer none, .slice none 0 0].toArray)) Q H ↔ Q (ptr H.next 0) (H.push (some (.bld t false none 0))) := by
  constructor
  · rintro ⟨r, H', h1, h2⟩
    cases h1
    exact h2
  · intro hq; exact ⟨_, _, rfl, hq⟩
theorem zbtk (h : Hp H0 H L) : Hp H0 (H.push (some (.bld 74 false none 0))) (wrt H.next none [] :: L) :=
  h.add (Keeps.push _ _ _) ⟨⟨false, Heap.get_push_self _ _⟩, rfl⟩ (fun b hb => by
    have hb' : b ∈ [H.next] := hb
    simp at hb'; omega)
theorem zbl8 {i b : Nat} {bf : Option Nat} {l : List UInt8} (h : Hp H0 H L) (hi : L[i]? = some (wrt b bf l)) (x : List UInt8) (hx : x ≠ []) (hl : l.length + x.length ≤ 10000000000000) :
    ∃ H' bf', addM b x H = some H' ∧ Hp H0 H' (L.set i (wrt b bf' (l ++ x))) := by
  obtain ⟨⟨u, hu⟩, q⟩ := h.at hi
  have hlt := Heap.get_lt hu
  cases bf with
  | none =>
    have q : l = [] := q
    subst q
    refine ⟨_, some H.next, ?_, h.step (t' := wrt b (some H.next) ([] ++ x)) hi (H' := (H.push (some (.buf 5 x))).set b (some (.bld 74 true (some H.next) x.length))) ?_ ⟨⟨true, ?_⟩, ?_, ?_⟩ ?_⟩
    · unfold addM
      rw [hu]
      exact if_pos ⟨rfl, rfl, hx, by simpa using hl⟩
    · exact zc3 (Keeps.push _ _ _) (.inl (by simp [wrt]))
    · rw [Heap.get_set_self (by simp; omega)]; rfl
    · rw [Heap.get_set_ne _ _ _ (by omega), Heap.get_push_self]; rfl
    · simpa using hx
    · intro c hc
      simp only [wrt, Option.toList_some, List.mem_cons, List.not_mem_nil, or_false] at hc
      rcases hc with rfl | rfl
      · exact .inl (by simp [wrt])
      · exact .inr (Nat.le_refl _)
  | some g =>
    obtain ⟨q1, q2⟩ : H.get g = some (.buf 5 l) ∧ l ≠ [] := q
    have hgl := Heap.get_lt q1
    have hgb : g ≠ b := fun e => by subst e; rw [hu] at q1; cases q1
    have hl0 : l.length ≠ 0 := by simpa using q2
    refine ⟨_, some H.next, ?_, h.step (t' := wrt b (some H.next) (l ++ x)) hi (H' := ((H.set g none).push (some (.buf 5 (l ++ x)))).set b (some (.bld 74 true (some H.next) (l.length + x.length)))) ?_ ⟨⟨true, ?_⟩, ?_, ?_⟩ ?_⟩
    · unfold addM
      rw [hu]
      simp only [q1]
      exact if_pos ⟨trivial, trivial, trivial, hl0, hl⟩
    · refine zc3 (zbu (Keeps.set (by simp [wrt]))) (.inl (by simp [wrt]))
    · rw [Heap.get_set_self (by simp; omega), List.length_append]
    · have : (H.set g none).next = H.next := by simp
      rw [Heap.get_set_ne _ _ _ (by omega), ← this, Heap.get_push_self]
    · simp [q2]
    · intro c hc
      simp only [wrt, Option.toList_some, List.mem_cons, List.not_mem_nil, or_false] at hc
      rcases hc with rfl | rfl
      · exact .inl (by simp [wrt])
      · exact .inr (Nat.le_refl _)
theorem zbq4 {i b : Nat} {bf : Option Nat} {l : List UInt8} {Q : V → Heap → Prop} (h : Hp H0 H L) (hi : L[i]? = some (wrt b bf l)) (s : ByteArray) (hs : s.size ≠ 0) (hl : l.length + s.size ≤ 10000000000000)
    (hQ : ∀ bf' H', Hp H0 H' (L.set i (wrt b bf' (l ++ s.data.toList))) → Q (.tuple #[i64 s.size, .nilIface]) H') : wp (zjj [ptr b 0, .string s]) Q H := by
  have hz : s.data.toList.length = s.size := by rw [Array.length_toList]; rfl
  obtain ⟨H', bf', h1, h2⟩ := zbl8 h hi s.data.toList (fun e => hs (by rw [← hz, e]; rfl)) (by rw [hz]; exact hl)
  refine ⟨_, H', ?_, hQ bf' H' h2⟩
  show zjj [.pointer (some ⟨b, 0, none⟩), .string s] H = _
  unfold zjj
  simp only [h1]
theorem zbue {i b : Nat} {bf : Option Nat} {l : List UInt8} {Q : V → Heap → Prop} (h : Hp H0 H L) (hi : L[i]? = some (wrt b bf l)) (c : Int) (h0 : 0 ≤ c) (h1 : c < 256) (hl : l.length + 1 ≤ 10000000000000)
    (hQ : ∀ bf' H', Hp H0 H' (L.set i (wrt b bf' (l ++ [UInt8.ofNat c.toNat]))) → Q .nilIface H') : wp (zf6 [ptr b 0, .int .u8 c]) Q H := by
  obtain ⟨H', bf', g1, g2⟩ := zbl8 h hi [UInt8.ofNat c.toNat] (by simp) (by simpa using hl)
  refine ⟨_, H', ?_, hQ bf' H' g2⟩
  show zf6 [.pointer (some ⟨b, 0, none⟩), .int .u8 c] H = _
  unfold zf6
  simp only [h0, h1, and_self, if_true, g1]
def zl7 (H : Heap) : Prop := H.get 5 = some (.cells false (Lib.pow10Tab.map fun z => Value.int .u64 z))
theorem zl7.keep0 {H H' : Heap} (h : zl7 H) (hk : Keeps [] H H') : zl7 H' := hk.get h (by simp)
open Classical in
noncomputable def zjk (args : List V) : M V := fun H => match args with
  | [.int .i64 n] => if -9223372036854775808 ≤ n ∧ n ≤ 9223372036854775807 ∧ zl7 H then some (.string ⟨(Lib.itoa n).toArray⟩, H) else none
  | _ => none
theorem zbtl {Q : V → Heap → Prop} (n : Int) (hp : zl7 H) (h0 : -9223372036854775808 ≤ n) (h1 : n ≤ 9223372036854775807) (hQ : Q (.string ⟨(Lib.itoa n).toArray⟩) H) : wp (zjk [i64 n]) Q H :=
  ⟨_, _, by show zjk [.int .i64 n] H = _; unfold zjk; simp only [h0, h1, hp, and_self, if_true], hQ⟩
inductive Wd where
  | n (i : Int)
  | s (x : ByteArray)
def Wd.v : Wd → V
  | .n i => .iface zew (i64 i)
  | .s x => .iface zcn (.string x)
instance : Inhabited Wd := ⟨.n 0⟩
instance : Flat Wd := ⟨1, fun d => [d.v], fun _ => rfl, fun d => by cases d <;> rfl, by decide⟩
def zbcl : Wd → List UInt8
  | .n i => Lib.itoa i
  | .s x => x.data.toList
def Wd.Ok : Wd → Prop
  | .n i => -9223372036854775808 ≤ i ∧ i ≤ 9223372036854775807
  | .s x => x.size ≠ 0 ∧ x.size ≤ 10000
def zt9 (ws : List Wd) : List UInt8 := ws.flatMap fun d => 32 :: zbcl d
def zer (w : ByteArray) (ws : List Wd) : List UInt8 := w.data.toList ++ zt9 ws ++ [10]
theorem zbi0 (n : Int) : (Lib.itoa n).length ≠ 0 := by
  unfold Lib.itoa
  split
  · simp
  · rw [Lib.decDigits_length]; have := Lib.nDigits_pos n.toNat; omega
theorem zbeq {d : Wd} (h : d.Ok) : (zbcl d).length ≠ 0 ∧ (zbcl d).length ≤ 10000 := by
  cases d with
  | n i =>
    have := Lib.itoa_length_le i h.1 h.2
    exact ⟨zbi0 i, by show (Lib.itoa i).length ≤ _; omega⟩
  | s x =>
    have hz : x.data.toList.length = x.size := by rw [Array.length_toList]; rfl
    exact ⟨by show x.data.toList.length ≠ 0; rw [hz]; exact h.1, by show x.data.toList.length ≤ _; rw [hz]; exact h.2⟩
theorem z4n : ∀ {ws : List Wd}, (∀ d ∈ ws, d.Ok) → (zt9 ws).length ≤ 10001 * ws.length
  | [], _ => by simp [zt9]
  | d :: ws, h => by
    have h1 := zbeq (h d (by simp))
    have h2 := z4n (ws := ws) (fun e he => h e (by simp [he]))
    simp only [zt9, List.flatMap_cons, List.length_append, List.length_cons] at h2 ⊢
    omega
theorem z6t (s : ByteArray) : s.data.toList.length = s.size := by rw [Array.length_toList]; rfl
theorem zbi1 {b : Nat} {bf : Option Nat} {l : List UInt8} {v : V} {w : ByteArray} {ws : List Wd} (hP : zl7 H0) (h : Hp H0 H (wrt b bf l :: own v ws :: L)) (hw : w.size ≠ 0 ∧ w.size ≤ 10000) (hws : ∀ d ∈ ws, d.Ok) (hn : ws.length ≤ 10) (hl : l.length ≤ 9000000000000) (Q : V → Heap → Prop)
    (hQ : ∀ bf' H', Hp H0 H' (wrt b bf' (l ++ zer w ws) :: own v ws :: L) → Q (.tuple #[]) H') : wp (z6 zjj zf6 zjk [ptr b 0, .string w, v]) Q H := by
  show wp (znl zjj zf6 zjk (ptr b 0) (.string w) v) Q H
  have hvl := (h.own (i := 1) rfl).sl.len
  (try simp (maxSteps := 1000000) (disch := first | omega | (simp only [Z3]; omega) | (simp; done) | assumption | decide | (apply not_not_intro; assumption)) only [ZB, znl])
  refine zbq4 h (i := 0) rfl w hw.1 (by omega) fun bf1 H1 s1 => ?_
  simp only [List.set_cons_zero] at s1
  (try simp (maxSteps := 1000000) (disch := first | omega | (simp only [Z3]; omega) | (simp; done) | assumption | decide | (apply not_not_intro; assumption)) only [ZB, hvl])
  refine zck ws.length (by omega) (fun j vs H' => ∃ bf', vs = [ptr b 0, v, i64 ws.length, i64 j] ∧ Hp H0 H' (wrt b bf' (l ++ w.data.toList ++ zt9 (ws.take j)) :: own v ws :: L)) ⟨bf1, rfl, by simpa [zt9] using s1⟩ ?_
  rintro j vs H2 hj ⟨bf2, rfl, s2⟩
  have hwl := z4n (ws := ws.take j) (fun d hd => hws d (List.mem_of_mem_take hd))
  have htl : (ws.take j).length = j := by rw [List.length_take]; omega
  rw [htl] at hwl
  have hdl := z6t w
  by_cases hlt : j < ws.length
  case neg =>
    have : j = ws.length := by omega
    subst this
    rw [List.take_length] at s2 hwl
    (try simp (maxSteps := 1000000) (disch := first | omega | (simp only [Z3]; omega) | (simp; done) | assumption | decide | (apply not_not_intro; assumption)) only [ZB, zmk, zru])
    refine zbue s2 (i := 0) rfl 10 (by decide) (by decide) (by simp only [List.length_append]; omega) fun bf3 H3 s3 => ?_
    simp only [List.set_cons_zero] at s3
    (try simp (maxSteps := 1000000) (disch := first | omega | (simp only [Z3]; omega) | (simp; done) | assumption | decide | (apply not_not_intro; assumption)) only [ZB])
    exact hQ bf3 H3 (by simpa [zer] using s3)
  have hts : ws.take (j + 1) = ws.take j ++ [ws.getD j default] := by
    rw [List.getD_eq_getElem?_getD, List.getElem?_eq_getElem hlt]; exact List.take_succ_eq_append_getElem hlt
  have hok := hws _ (zby (d := default) hlt)
  have o2 := (s2.own (i := 1) rfl).sl
  have a1 := o2.addr1 rfl (k := .i64) (i := j) (by omega) (by omega)
  rw [Int.toNat_natCast] at a1
  have c1 := o2.cell1 rfl hlt default
  rw [zc2] at c1
  have e1 : (Flat.enc (ws.getD j default))[0]? = some (ws.getD j default).v := rfl
  rw [e1] at c1
  have hnext : zt9 (ws.take (j + 1)) = zt9 (ws.take j) ++ (32 :: zbcl (ws.getD j default)) := by
    rw [hts]; simp [zt9]
  rw [hnext]
  generalize ws.getD j default = d at *
  (try simp (maxSteps := 1000000) (disch := first | omega | (simp only [Z3]; omega) | (simp; done) | assumption | decide | (apply not_not_intro; assumption)) only [ZB, zmk, zrt, a1, c1])
  refine zbue s2 (i := 0) rfl 32 (by decide) (by decide) (by simp only [List.length_append]; omega) fun bf3 H3 s3 => ?_
  simp only [List.set_cons_zero] at s3
  have hlen := zbeq hok
  cases d with
  | n i =>
    have t1 : zuo zew (some (Value.int .i64 0)) true (Wd.v (.n i)) = some (.tuple #[i64 i, .bool true]) := rfl
    (try simp (maxSteps := 1000000) (disch := first | omega | (simp only [Z3]; omega) | (simp; done) | assumption | decide | (apply not_not_intro; assumption)) only [ZB, t1])
    refine zbtl i (hP.keep0 s3.keeps) hok.1 hok.2 ?_
    have hz : (⟨(Lib.itoa i).toArray⟩ : ByteArray).size = (Lib.itoa i).length := by rw [← z6t]
    (try simp (maxSteps := 1000000) (disch := first | omega | (simp only [Z3]; omega) | (simp; done) | assumption | decide | (apply not_not_intro; assumption)) only [ZB])
    refine zbq4 s3 (i := 0) rfl ⟨(Lib.itoa i).toArray⟩ (by rw [hz]; exact zbi0 i) (by rw [hz]; have : (Lib.itoa i).length ≤ 10000 := hlen.2; simp only [List.length_append, List.length_cons, List.length_nil]; omega) fun bf4 H4 s4 => ?_
    simp only [List.set_cons_zero] at s4
    (try simp (maxSteps := 1000000) (disch := first | omega | (simp only [Z3]; omega) | (simp; done) | assumption | decide | (apply not_not_intro; assumption)) only [ZB, zmj])
    exact ⟨hlt, bf4, rfl, by simpa [zbcl] using s4⟩
  | s x =>
    have t1 : zuo zew (some (Value.int .i64 0)) true (Wd.v (.s x)) = some (.tuple #[.int .i64 0, .bool false]) := rfl
    have t2 : zuo zcn (some (Value.string ⟨#[]⟩)) true (Wd.v (.s x)) = some (.tuple #[.string x, .bool true]) := rfl
    (try simp (maxSteps := 1000000) (disch := first | omega | (simp only [Z3]; omega) | (simp; done) | assumption | decide | (apply not_not_intro; assumption)) only [ZB, t1, t2])
    refine zbq4 s3 (i := 0) rfl x hok.1 (by have := hok.2; simp only [List.length_append, List.length_cons, List.length_nil]; omega) fun bf4 H4 s4 => ?_
    simp only [List.set_cons_zero] at s4
    (try simp (maxSteps := 1000000) (disch := first | omega | (simp only [Z3]; omega) | (simp; done) | assumption | decide | (apply not_not_intro; assumption)) only [ZB, zmj])
    exact ⟨hlt, bf4, rfl, by simpa [zbcl] using s4⟩
end Go.AM.Cap
