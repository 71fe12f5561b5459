import Derived.Test.YtbnjeldcndpdoaaPnW
set_option linter.all false
/- points: the plain law of PointsPlay -/
set_option maxHeartbeats 4000000
namespace Go.AM.Cap
open Go.AM Go.Proofs

def Stg.key (e : Stg) : Int × Int := (e.part, e.point)
/-- what was staged last -/
def lastS : List Stg → Int × Int → Option Int
  | [], _ => none
  | e :: ss, k => match lastS ss k with
    | some n => some n
    | none => if e.key = k then some e.n else none
theorem lastS_snoc (e : Stg) (k : Int × Int) : ∀ ss : List Stg, lastS (ss ++ [e]) k = if e.key = k then some e.n else lastS ss k
  | [] => rfl
  | f :: ss => by
    rw [List.cons_append, lastS, lastS_snoc e k ss, lastS]
    by_cases h : e.key = k
    · simp only [if_pos h]
    · simp only [if_neg h]
theorem lastS_filter (part : Int) (k : Int × Int) : ∀ ss : List Stg, lastS (ss.filter fun e => decide (e.part ≠ part)) k = if k.1 = part then none else lastS ss k
  | [] => by simp [lastS]
  | e :: ss => by
    have ih := lastS_filter part k ss
    by_cases h : e.part = part
    · rw [List.filter_cons_of_neg (by simpa using h), ih]
      by_cases q : k.1 = part
      · rw [if_pos q, if_pos q]
      · rw [if_neg q, if_neg q, lastS]
        have : e.key ≠ k := fun r => q (by rw [← r]; exact h)
        rw [if_neg this]
        cases lastS ss k <;> rfl
    · rw [List.filter_cons_of_pos (by simpa using h), lastS, ih]
      by_cases q : k.1 = part
      · rw [if_pos q, if_pos q]
        have : e.key ≠ k := fun r => h (by rw [← q, ← r]; rfl)
        simp only [if_neg this]
      · rw [if_neg q, if_neg q, lastS]
theorem foldR_at (part : Int) (i : Nat) : ∀ (ss : List Stg) (vs : List Int), (∀ e ∈ ss, 0 ≤ e.point) → (ss.foldl (updR part true) vs)[i]? = match lastS ss (part, (i : Int)) with
    | some n => if i < vs.length then some n else none
    | none => vs[i]?
  | [], vs, _ => rfl
  | e :: ss, vs, h => by
    rw [List.foldl_cons, foldR_at part i ss _ (fun e he => h e (by simp [he])), lastS, updR_len]
    cases lastS ss (part, (i : Int)) with
    | some n => rfl
    | none =>
      have h0 := h e (by simp)
      simp only
      unfold updR Stg.key
      by_cases c : e.part = part
      · by_cases d : e.point = (i : Int)
        · rw [if_pos ⟨c, rfl⟩, if_pos (by rw [c, d])]
          have : e.point.toNat = i := by omega
          rw [this, List.getElem?_set]
          simp
        · rw [if_pos ⟨c, rfl⟩, if_neg (fun q => d (congrArg Prod.snd q))]
          rw [List.getElem?_set_ne (by omega)]
      · rw [if_neg (fun q => c q.1), if_neg (fun q => c (congrArg Prod.fst q))]
theorem foldB_at (part : Int) (i : Nat) : ∀ (st : List ((Int × Int) × Int)) (vs : List Int), (∀ e ∈ st, 0 ≤ e.1.2) → (st.map (·.1)).Nodup → (st.foldl (upd1 part true) vs)[i]? = match aget st (part, (i : Int)) with
    | some n => if i < vs.length then some n else none
    | none => vs[i]?
  | [], vs, _, _ => rfl
  | e :: st, vs, h, hn => by
    simp only [List.map_cons, List.nodup_cons] at hn
    rw [List.foldl_cons, foldB_at part i st _ (fun e he => h e (by simp [he])) hn.2, aget, upd1_len]
    have h0 := h e (by simp)
    by_cases q : (part, (i : Int)) = e.1
    · have hg : aget st (part, (i : Int)) = none := aget_none fun f hf r => hn.1 (by rw [← q, ← r]; exact List.mem_map_of_mem hf)
      rw [hg, if_pos q]
      simp only
      unfold upd1
      have q1 : e.1.1 = part := by rw [← q]
      have q2 : e.1.2.toNat = i := by rw [← q]; exact Int.toNat_natCast _
      rw [if_pos ⟨q1, rfl⟩, q2, List.getElem?_set]
      simp
    · rw [if_neg q]
      cases aget st (part, (i : Int)) with
      | some n => rfl
      | none =>
        simp only
        unfold upd1
        by_cases c : e.1.1 = part
        · rw [if_pos ⟨c, rfl⟩, List.getElem?_set_ne (fun r => q (by rw [← c, show (i : Int) = e.1.2 by omega]))]
        · rw [if_neg (fun r => c r.1)]
theorem foldR_false (part : Int) : ∀ (ss : List Stg) (vs : List Int), ss.foldl (updR part false) vs = vs
  | [], vs => rfl
  | e :: ss, vs => by rw [List.foldl_cons, show updR part false vs e = vs by unfold updR; rw [if_neg (by simp)], foldR_false part ss]

/-- both banks hold the same -/
structure Sim (B : Bk) (R : Rk) : Prop where
  ls : R.ls = B.ls
  vs : R.vs = B.vs
  gr : B.gr = grOf [] R.gs
  fo : ∀ p : Int, aget B.fo p = if (0 ≤ p ∧ p < B.ls.length) ∧ R.fb.getD p.toNat false = true then some (R.tv.getD p.toNat 0) else none
  st : ∀ k : Int × Int, aget B.st k = lastS R.ss k
theorem sim_new (ls : List Pt) (gs : List Gr) : Sim (newB ls gs) (newR ls gs) := by
  refine ⟨rfl, rfl, rfl, fun p => ?_, fun k => rfl⟩
  have : (newR ls gs).fb.getD p.toNat false = false := by
    show (List.replicate ls.length false).getD p.toNat false = false
    rw [List.getD_eq_getElem?_getD, List.getElem?_replicate]; split <;> rfl
  rw [this, if_neg (by simp)]
  rfl
theorem grOf_at (k : Int × Int) : ∀ (gs : List Gr) (es : List ((Int × Int) × Bool)), aget (grOf es gs) k = if ∃ g ∈ gs, (g.part, g.point) = k then some ((aget es k).getD false || decide (∃ g ∈ gs, (g.part, g.point) = k ∧ g.write = true)) else aget es k
  | [], es => by simp [grOf]
  | g :: gs, es => by
    rw [grOf, grOf_at k gs, aget_aset]
    by_cases h : (g.part, g.point) = k
    · rw [if_pos (c := k = (g.part, g.point)) h.symm, if_pos (c := ∃ f ∈ g :: gs, (f.part, f.point) = k) ⟨g, by simp, h⟩, h]
      have e : decide (∃ f ∈ g :: gs, (f.part, f.point) = k ∧ f.write = true) = (g.write || decide (∃ f ∈ gs, (f.part, f.point) = k ∧ f.write = true)) := by
        cases gw : g.write with
        | true => exact decide_eq_true ⟨g, by simp, h, gw⟩
        | false =>
          rw [Bool.false_or]
          refine decide_eq_decide.2 ⟨fun ⟨f, hf, h1, h2⟩ => ?_, fun ⟨f, hf, h1, h2⟩ => ⟨f, by simp [hf], h1, h2⟩⟩
          rcases List.mem_cons.1 hf with rfl | hf
          · rw [gw] at h2; cases h2
          · exact ⟨f, hf, h1, h2⟩
      rw [e]
      by_cases c : ∃ f ∈ gs, (f.part, f.point) = k
      · rw [if_pos c, Option.getD_some, Bool.or_assoc]
      · rw [if_neg c]
        have : decide (∃ f ∈ gs, (f.part, f.point) = k ∧ f.write = true) = false := decide_eq_false fun ⟨f, hf, h1, _⟩ => c ⟨f, hf, h1⟩
        rw [this, Bool.or_false]
    · rw [if_neg (c := k = (g.part, g.point)) (fun q => h q.symm)]
      have e : decide (∃ f ∈ g :: gs, (f.part, f.point) = k ∧ f.write = true) = decide (∃ f ∈ gs, (f.part, f.point) = k ∧ f.write = true) := by
        refine decide_eq_decide.2 ⟨fun ⟨f, hf, h1, h2⟩ => ?_, fun ⟨f, hf, h1, h2⟩ => ⟨f, by simp [hf], h1, h2⟩⟩
        rcases List.mem_cons.1 hf with rfl | hf
        · exact absurd h1 h
        · exact ⟨f, hf, h1, h2⟩
      rw [e]
      by_cases c : ∃ f ∈ gs, (f.part, f.point) = k
      · have c2 : ∃ f ∈ g :: gs, (f.part, f.point) = k := by
          obtain ⟨f, hf, h1⟩ := c
          exact ⟨f, by simp [hf], h1⟩
        rw [if_pos c, if_pos c2]
      · have c2 : ¬ ∃ f ∈ g :: gs, (f.part, f.point) = k := by
          rintro ⟨f, hf, h1⟩
          rcases List.mem_cons.1 hf with rfl | hf
          · exact h h1
          · exact c ⟨f, hf, h1⟩
        rw [if_neg c, if_neg c2]
theorem may_false {gs : List Gr} {part point : Int} : (∃ g ∈ gs, (g.part, g.point) = (part, point)) ↔ mayP gs part point false := by
  unfold mayP
  constructor
  · rintro ⟨g, hg, q⟩; exact ⟨g, hg, congrArg Prod.fst q, congrArg Prod.snd q, .inr rfl⟩
  · rintro ⟨g, hg, q1, q2, _⟩; exact ⟨g, hg, by rw [q1, q2]⟩
theorem may_true {gs : List Gr} {part point : Int} : (∃ g ∈ gs, (g.part, g.point) = (part, point) ∧ g.write = true) ↔ mayP gs part point true := by
  unfold mayP
  constructor
  · rintro ⟨g, hg, q, w⟩; exact ⟨g, hg, congrArg Prod.fst q, congrArg Prod.snd q, .inl w⟩
  · rintro ⟨g, hg, q1, q2, w | w⟩
    · exact ⟨g, hg, by rw [q1, q2], w⟩
    · cases w
theorem may_mono {gs : List Gr} {part point : Int} (h : mayP gs part point true) : mayP gs part point false := by
  obtain ⟨g, hg, q1, q2, _⟩ := h; exact ⟨g, hg, q1, q2, .inr rfl⟩
section
variable {B : Bk} {R : Rk}
theorem Sim.grant (s : Sim B R) (part point : Int) : grantS B part point = if ¬ thereP R.ls part point then (false, 1) else if ¬ mayP R.gs part point false then (false, 190) else (decide (mayP R.gs part point true), 0) := by
  unfold grantS
  by_cases c : thereP R.ls part point
  rotate_left
  · have c' : ¬ (0 ≤ part ∧ part < 8) ∨ point < 0 ∨ point ≥ (B.ls.length : Int) := by
      unfold thereP at c; rw [s.ls] at c; omega
    rw [if_pos c', if_pos c]
  have c' : ¬ (¬ (0 ≤ part ∧ part < 8) ∨ point < 0 ∨ point ≥ (B.ls.length : Int)) := by
    unfold thereP at c; rw [s.ls] at c; omega
  rw [if_neg c', if_neg (fun q => q c), s.gr, grOf_at]
  by_cases d : mayP R.gs part point false
  · rw [if_pos (may_false.2 d), if_neg (fun q => q d)]
    have : decide (∃ g ∈ R.gs, (g.part, g.point) = (part, point) ∧ g.write = true) = decide (mayP R.gs part point true) := decide_eq_decide.2 may_true
    rw [this]
    simp [aget]
  · rw [if_neg (fun q => d (may_false.1 q)), if_pos d]
    rfl
theorem Sim.value (s : Sim B R) {p : Int} (h : 0 ≤ p ∧ p < B.ls.length) : valueS B p = valueR R p := by
  unfold valueS valueR
  rw [s.fo]
  by_cases c : R.fb.getD p.toNat false = true
  · rw [if_pos ⟨h, c⟩, if_pos c]; rfl
  · rw [if_neg (fun q => c q.2), if_neg c, s.vs]; rfl
theorem Sim.read (s : Sim B R) (part point : Int) : readS B part point = readR R part point := by
  unfold readS readR
  have hg := s.grant part point
  by_cases c : thereP R.ls part point
  rotate_left
  · rw [if_pos c] at hg
    rw [hg, if_pos c]; rfl
  rw [if_neg (fun q => q c)] at hg
  rw [if_neg (c := ¬ thereP R.ls part point) (fun q => q c)]
  by_cases d : mayP R.gs part point false
  rotate_left
  · rw [if_pos d] at hg
    rw [hg, if_pos d]; rfl
  rw [if_neg (fun q => q d)] at hg
  rw [if_neg (c := ¬ mayP R.gs part point false) (fun q => q d), hg, if_neg (by simp), s.value (by have := c.2; rw [s.ls] at this; exact this)]
theorem Sim.write (s : Sim B R) (part point n : Int) : (writeS B part point n).2 = (writeR R part point n).2 ∧ Sim (writeS B part point n).1 (writeR R part point n).1 := by
  have hg := s.grant part point
  by_cases c : thereP R.ls part point
  rotate_left
  · rw [if_pos c] at hg
    have e1 : writeS B part point n = (B, 1) := by unfold writeS; rw [hg]; rfl
    have e2 : writeR R part point n = (R, 1) := by unfold writeR; rw [if_pos c]
    rw [e1, e2]; exact ⟨rfl, s⟩
  rw [if_neg (fun q => q c)] at hg
  by_cases d : mayP R.gs part point false
  rotate_left
  · rw [if_pos d] at hg
    have e1 : writeS B part point n = (B, 190) := by unfold writeS; rw [hg]; rfl
    have e2 : writeR R part point n = (R, 190) := by unfold writeR; rw [if_neg (fun q => q c), if_pos (fun q => d (may_mono q))]
    rw [e1, e2]; exact ⟨rfl, s⟩
  rw [if_neg (fun q => q d)] at hg
  by_cases e : mayP R.gs part point true
  rotate_left
  · rw [decide_eq_false e] at hg
    have e1 : writeS B part point n = (B, 190) := by unfold writeS; rw [hg]; rfl
    have e2 : writeR R part point n = (R, 190) := by unfold writeR; rw [if_neg (fun q => q c), if_pos e]
    rw [e1, e2]; exact ⟨rfl, s⟩
  rw [decide_eq_true e] at hg
  have hc := c.2
  rw [s.ls] at hc
  by_cases f : fits (ptAt B.ls point).typ n
  rotate_left
  · have e1 : writeS B part point n = (B, 1) := by unfold writeS; rw [hg, if_neg (by simp), if_neg (by simp), if_pos (fun q : fitsB B.ls point n => f q.2)]
    have e2 : writeR R part point n = (R, 1) := by unfold writeR; rw [if_neg (fun q => q c), if_neg (fun q => q e), if_pos (by rw [s.ls]; exact f)]
    rw [e1, e2]; exact ⟨rfl, s⟩
  have e1 : writeS B part point n = ({ B with st := aset B.st (part, point) n }, 0) := by unfold writeS; rw [hg, if_neg (by simp), if_neg (by simp), if_neg (fun q => q ⟨hc, f⟩)]
  have e2 : writeR R part point n = ({ R with ss := R.ss ++ [⟨part, point, n⟩] }, 0) := by unfold writeR; rw [if_neg (fun q => q c), if_neg (fun q => q e), if_neg (fun q => q (by rw [s.ls]; exact f))]
  rw [e1, e2]
  refine ⟨rfl, s.ls, s.vs, s.gr, s.fo, fun k => ?_⟩
  show aget (aset B.st (part, point) n) k = lastS (R.ss ++ [⟨part, point, n⟩]) k
  rw [aget_aset, lastS_snoc, s.st]
  by_cases q : k = (part, point)
  · rw [if_pos q, if_pos (show (⟨part, point, n⟩ : Stg).key = k from q.symm)]
  · rw [if_neg q, if_neg (show ¬ (⟨part, point, n⟩ : Stg).key = k from fun r => q r.symm)]
theorem Sim.end (s : Sim B R) (part : Int) (c : Bool) (hs : ∀ e ∈ B.st, 0 ≤ e.1.2) (hk : (B.st.map (·.1)).Nodup) (hr : ∀ e ∈ R.ss, 0 ≤ e.point) : (endS B part c).2 = (endR R part c).2 ∧ Sim (endS B part c).1 (endR R part c).1 := by
  unfold endS endR
  by_cases h : ¬ (0 ≤ part ∧ part < 8)
  · rw [if_pos h, if_pos h]; exact ⟨rfl, s⟩
  rw [if_neg h, if_neg h]
  refine ⟨rfl, s.ls, ?_, s.gr, s.fo, fun k => ?_⟩
  · show R.ss.foldl (updR part c) R.vs = B.st.foldl (upd1 part c) B.vs
    cases c with
    | false => rw [foldR_false, foldl_false]; exact s.vs
    | true =>
      refine List.ext_getElem? fun i => ?_
      rw [foldR_at part i _ _ hr, foldB_at part i _ _ hs hk, s.st, s.vs]
  · show aget (B.st.filter fun e => !decide (e.1.1 = part)) k = lastS (R.ss.filter fun e => decide (e.part ≠ part)) k
    rw [aget_filter (fun k : Int × Int => !decide (k.1 = part)), lastS_filter, s.st]
    by_cases q : k.1 = part
    · rw [if_pos q, if_neg (by simp [q])]
    · rw [if_neg q, if_pos (by simp [q])]
theorem Sim.latch (s : Sim B R) (ns : List Int) : (latchS B ns).2 = (latchR R ns).2 ∧ Sim (latchS B ns).1 (latchR R ns).1 := by
  by_cases h : (ofN B.ls false).length ≠ ns.length
  · have e1 : latchS B ns = (B, 4) := by unfold latchS; rw [if_pos h]
    have e2 : latchR R ns = (R, 4) := by unfold latchR; rw [if_pos (by rw [s.ls]; exact h)]
    rw [e1, e2]; exact ⟨rfl, s⟩
  have h' : ¬ (ofN R.ls false).length ≠ ns.length := by rw [s.ls]; exact h
  have hc : (∀ j, j < (ofN R.ls false).length → fitsB R.ls (((ofN R.ls false).getD j 0 : Nat) : Int) (ns.getD j 0)) ↔ latchOK B ns := by rw [s.ls]; exact Iff.rfl
  by_cases c : latchOK B ns
  · have e1 : latchS B ns = ({ B with vs := setAll B.vs (ofN B.ls false) ns }, 0) := by unfold latchS; rw [if_neg h, if_neg (fun q => q c)]
    have e2 : latchR R ns = ({ R with vs := setAll R.vs (ofN R.ls false) ns }, 0) := by unfold latchR; rw [if_neg h', if_neg (fun q => q (hc.2 c))]
    rw [e1, e2]
    refine ⟨rfl, s.ls, ?_, s.gr, s.fo, s.st⟩
    show setAll R.vs _ ns = setAll B.vs _ ns
    rw [s.vs, s.ls]
  · have e1 : latchS B ns = (B, 1) := by unfold latchS; rw [if_neg h, if_pos c]
    have e2 : latchR R ns = (R, 1) := by unfold latchR; rw [if_neg h', if_pos (fun q => c (hc.1 q))]
    rw [e1, e2]; exact ⟨rfl, s⟩
theorem getD_set {α : Type} (l : List α) (i j : Nat) (v d : α) : (l.set i v).getD j d = if i = j ∧ i < l.length then v else l.getD j d := by
  rw [List.getD_eq_getElem?_getD, List.getElem?_set, List.getD_eq_getElem?_getD]
  by_cases h : i = j
  · subst h
    by_cases q : i < l.length
    · simp [q]
    · simp [q]
  · simp [h]
theorem Sim.force (s : Sim B R) (point n : Int) (lf : R.fb.length = R.ls.length) (lt : R.tv.length = R.ls.length) : (forceS B point n).2 = (forceR R point n).2 ∧ Sim (forceS B point n).1 (forceR R point n).1 := by
  unfold forceS forceR
  have e : fitsB B.ls point n ↔ (thereP R.ls 0 point ∧ fits (ptAt R.ls point).typ n) := by
    rw [s.ls]
    exact ⟨fun q => ⟨⟨by omega, q.1⟩, q.2⟩, fun q => ⟨q.1.2, q.2⟩⟩
  by_cases c : fitsB B.ls point n
  rotate_left
  · rw [if_pos c, if_pos (fun q => c (e.2 q))]; exact ⟨rfl, s⟩
  rw [if_neg (fun q => q c), if_neg (fun q => q (e.1 c))]
  refine ⟨rfl, s.ls, s.vs, s.gr, fun p => ?_, s.st⟩
  show aget (aset B.fo point n) p = if (0 ≤ p ∧ p < B.ls.length) ∧ (R.fb.set point.toNat true).getD p.toNat false = true then some ((R.tv.set point.toNat n).getD p.toNat 0) else none
  have hc := c.1
  have hl := congrArg List.length s.ls
  rw [aget_aset, getD_set, getD_set]
  by_cases q : p = point
  · subst q
    rw [if_pos (c := p = p) rfl, if_pos (c := p.toNat = p.toNat ∧ p.toNat < R.fb.length) ⟨rfl, by omega⟩, if_pos (c := p.toNat = p.toNat ∧ p.toNat < R.tv.length) ⟨rfl, by omega⟩, if_pos ⟨hc, rfl⟩]
  · rw [if_neg q, s.fo]
    by_cases h0 : 0 ≤ p ∧ p < B.ls.length
    · rw [if_neg (show ¬ (point.toNat = p.toNat ∧ point.toNat < R.fb.length) by omega), if_neg (show ¬ (point.toNat = p.toNat ∧ point.toNat < R.tv.length) by omega)]
    · rw [if_neg (fun r => h0 r.1), if_neg (fun r => h0 r.1)]
theorem Sim.free (s : Sim B R) (point : Int) (lf : R.fb.length = R.ls.length) (hk : (B.fo.map (·.1)).Nodup) : (freeS B point).2 = (freeR R point).2 ∧ Sim (freeS B point).1 (freeR R point).1 := by
  unfold freeS freeR
  have hl := congrArg List.length s.ls
  by_cases c : point < 0 ∨ point ≥ (B.ls.length : Int)
  · rw [if_pos c, if_pos (by unfold thereP; rw [s.ls]; omega)]; exact ⟨rfl, s⟩
  rw [if_neg c, if_neg (by unfold thereP; rw [s.ls]; omega)]
  refine ⟨rfl, s.ls, s.vs, s.gr, fun p => ?_, s.st⟩
  show aget (adel B.fo point) p = if (0 ≤ p ∧ p < B.ls.length) ∧ (R.fb.set point.toNat false).getD p.toNat false = true then some (R.tv.getD p.toNat 0) else none
  rw [aget_adel _ _ hk, getD_set]
  by_cases q : p = point
  · subst q
    rw [if_pos (c := p = p) rfl, if_pos (c := p.toNat = p.toNat ∧ p.toNat < R.fb.length) ⟨rfl, by omega⟩, if_neg (fun q => by cases q.2)]
  · rw [if_neg q, s.fo]
    by_cases h0 : 0 ≤ p ∧ p < B.ls.length
    · rw [if_neg (show ¬ (point.toNat = p.toNat ∧ point.toNat < R.fb.length) by omega)]
    · rw [if_neg (fun r => h0 r.1), if_neg (fun r => h0 r.1)]
theorem Sim.out (s : Sim B R) : outS B = outR R := by
  unfold outS outR
  rw [s.ls]
  refine List.map_congr_left fun i hi => s.value ?_
  have := ofN_lt i hi
  omega
theorem Sim.forced (s : Sim B R) {l : List Int} (hk : (B.fo.map (·.1)).Nodup) (hl : l.Perm (B.fo.map (·.1))) : l.mergeSort (fun x y => decide (x ≤ y)) = forcedR R := by
  have hmem : ∀ p, p ∈ B.fo.map (·.1) ↔ p ∈ forcedR R := fun p => by
    have h1 : p ∈ B.fo.map (·.1) ↔ aget B.fo p ≠ none := by
      constructor
      · intro h e
        obtain ⟨f, hf, rfl⟩ := List.mem_map.1 h
        have := mem_aget hk (k := f.1) (v := f.2) hf
        rw [this] at e; cases e
      · intro h
        cases hg : aget B.fo p with
        | none => exact absurd hg h
        | some v => exact List.mem_map.2 ⟨_, aget_mem hg, rfl⟩
    rw [h1, s.fo]
    unfold forcedR
    rw [List.mem_map]
    constructor
    · intro h
      by_cases c : (0 ≤ p ∧ p < B.ls.length) ∧ R.fb.getD p.toNat false = true
      · exact ⟨p.toNat, List.mem_filter.2 ⟨List.mem_range.2 (by rw [s.ls]; omega), c.2⟩, by omega⟩
      · rw [if_neg c] at h; exact absurd rfl h
    · rintro ⟨i, hi, rfl⟩
      have h2 := List.mem_filter.1 hi
      have h3 := List.mem_range.1 h2.1
      rw [s.ls] at h3
      rw [if_pos ⟨⟨by omega, by omega⟩, by rw [Int.toNat_natCast]; exact h2.2⟩]
      intro q; cases q
  have hs : (forcedR R).Pairwise (fun a b => a < b) := by
    unfold forcedR
    rw [List.pairwise_map]
    refine (List.Pairwise.filter _ (List.pairwise_lt_range (n := R.ls.length))).imp fun h => by omega
  have hnd : (forcedR R).Nodup := hs.imp fun h => by omega
  have hp : (l.mergeSort (fun x y => decide (x ≤ y))).Perm (forcedR R) := (List.mergeSort_perm l _).trans (hl.trans ((List.perm_ext_iff_of_nodup hk hnd).2 hmem))
  have hq : (l.mergeSort (fun x y => decide (x ≤ y))).Pairwise (fun a b => a ≤ b) := (List.pairwise_mergeSort (le := fun x y : Int => decide (x ≤ y)) (fun a b c h1 h2 => by simp at *; omega) (fun a b => by simp; omega) l).imp fun h => by simpa using h
  exact hp.eq_of_pairwise (le := fun a b => a ≤ b) (fun a b _ _ h1 h2 => by omega) hq (hs.imp fun h => by omega)
end
end Go.AM.Cap
