import Derived.Test.YtjchglndancedaaGreatDoorCfR
import Derived.Test.YtjchglndancedaaGreatDoorAmIn
set_option linter.all false
/- conf: a line -/
set_option maxHeartbeats 16000000
namespace Go.AM.Cap
open Go.AM Go.Proofs
variable {H0 H : Heap} {R : Nat} {v : RV} {st : RSt} {L : List Thing}
theorem eqB (a b : BitVec 8) : zw .eql (B a) (B b) = some (.bool (decide (a = b))) := by
  have : (((a.toNat : Int) == (b.toNat : Int))) = decide (a = b) := by
    by_cases h : a = b
    · subst h; simp
    · rw [decide_eq_false h]
      have : ¬ a.toNat = b.toNat := fun q => h (BitVec.eq_of_toNat_eq q)
      simp; omega
  show some (Value.bool ((a.toNat : Int) == (b.toNat : Int))) = _
  rw [this]
structure Fid where
  f : Nat
def Fid.val (f : Fid) : V := .func (.func f.f) #[] #[]
instance : ValE Fid := ⟨Fid.val, fun _ => rfl⟩
instance : KeyE ByteArray := ⟨.one .s, .string, fun a b => by simp only [zst, eqK], fun _ => rfl, fun _ => rfl⟩
def zm2 : Kw → Fid
  | .single => ⟨zbk⟩
  | .point => ⟨zbv⟩
  | .grant => ⟨zbw⟩
  | .port => ⟨zb4⟩
  | .window => ⟨zcm⟩
  | .engs => ⟨zb3⟩
  | .unit => ⟨zc9⟩
  | .bind => ⟨zb5⟩
  | .user => ⟨zda⟩
  | .role => ⟨zdb⟩
def tabF : List (ByteArray × Fid) := [(zh8, zm2 .single), (zlc, zm2 .single), (zrz, zm2 .single), (kIn, zm2 .point), (z9g, zm2 .point), (zblr, zm2 .grant), (zrg, zm2 .grant), (z9r, zm2 .port), (zx8, zm2 .port), (z9s, zm2 .window), (zbls, zm2 .engs), (zbca, zm2 .unit), (z03, zm2 .bind), (kPut, zm2 .bind), (zbcb, zm2 .user), (zblt, zm2 .role)]
theorem zbs0 (w : ByteArray) : zmp tabF w = (kwOf w).map zm2 := by
  simp only [kwOf, apply_ite (Option.map zm2), Option.map_some, Option.map_none, tabF, zmp]
def z4l (M : Nat) : Thing := ⟨[M], fun H => H.get M = some (.map true (tabF.map zj6)), fun _ h p => by rw [h M (by simp)]; exact p, fun p b hb => by simp at hb; subst hb; exact Heap.get_lt p⟩
theorem stSF (es : List (ByteArray × Fid)) (k : ByteArray) (f : Nat) (K : Option Blk → Prop) : setG (some (.map true (es.map zj6))) (.one .s) (.string k) (.func (.func f) #[] #[]) K ↔ K (some (.map true ((ziz es k ⟨f⟩).map zj6))) := z5j es k (⟨f⟩ : Fid) K
theorem lkSF (rw_ : Bool) (es : List (ByteArray × Fid)) (k : ByteArray) : zux (some (.map rw_ (es.map zj6))) (.one .s) .nilFunc false (.string k) = some ((zmp es k).elim .nilFunc ValE.enc) := z1o rw_ es .nilFunc rfl k
theorem zbk0 {G1 : List V → M V} (h : Hp H0 H L) (Q : V → Heap → Prop) (hQ : ∀ H', Hp H0 H' (z4l H.next :: L) → Q (.map (some H.next)) H') : wp (zos G1 zcq zum []) Q H := by
  show wp (zth G1 zcq zum) Q H
  have e0 : (some (.map true []) : Option Blk) = some (.map true (([] : List (ByteArray × Fid)).map zj6)) := rfl
  (try simp (maxSteps := 1000000) (disch := first | omega | (simp only [Z3]; omega) | (simp; done) | assumption | decide | (apply not_not_intro; assumption)) only [ZB, zth, zbhl, e0, zs4, stSF])
  have e1 : ziz (ziz (ziz (ziz (ziz (ziz (ziz (ziz (ziz (ziz (ziz (ziz (ziz (ziz (ziz (ziz [] (⟨#[109, 105, 108, 108, 105, 115]⟩ : ByteArray) (⟨zbk⟩ : Fid)) ⟨#[102, 114, 97, 109, 101]⟩ ⟨zbk⟩) ⟨#[105, 100, 108, 101]⟩ ⟨zbk⟩) ⟨#[105, 110]⟩ ⟨zbv⟩) ⟨#[111, 117, 116]⟩ ⟨zbv⟩) ⟨#[114, 101, 97, 100]⟩ ⟨zbw⟩) ⟨#[119, 114, 105, 116, 101]⟩ ⟨zbw⟩) ⟨#[115, 97, 109, 112, 108, 101]⟩ ⟨zb4⟩) ⟨#[113, 117, 101, 117, 101]⟩ ⟨zb4⟩) ⟨#[119, 105, 110, 100, 111, 119]⟩ ⟨zcm⟩) ⟨#[101, 110, 103, 105, 110, 101, 101, 114, 115]⟩ ⟨zb3⟩) ⟨#[117, 110, 105, 116]⟩ ⟨zc9⟩) ⟨#[103, 101, 116]⟩ ⟨zb5⟩) ⟨#[112, 117, 116]⟩ ⟨zb5⟩) ⟨#[117, 115, 101, 114]⟩ ⟨zda⟩) ⟨#[114, 111, 108, 101]⟩ ⟨zdb⟩ = tabF := by kernel_rfl
  rw [e1]
  refine hQ _ (h.add (t := z4l H.next) (Keeps.push _ _ _) (Heap.get_push_self _ _) (by simp [z4l]))
theorem zbqq {σ : zu} {g : Nat} {args : List V} : zlz σ (.func (.func g) #[] #[]) args = σ g args := by simp [zlz]
noncomputable def zbub (G : List V → M V) : Kw → List V → M V
  | .single => zd5 G zcq
  | .point => zek
  | .grant => zel G zcq
  | .port => ze5 G zcq
  | .window => zd6 G zcq
  | .engs => zc4 G zcq
  | .unit => ze6
  | .bind => ze7 G zcq
  | .user => ze8 G zum
  | .role => ze9 G zcq
theorem zbn3 {w : ByteArray} (h : kwOf w = some .single) : w = zh8 ∨ w = zlc ∨ w = zrz := by
  unfold kwOf at h
  by_cases h1 : w = zh8
  · exact .inl h1
  by_cases h2 : w = zlc
  · exact .inr (.inl h2)
  by_cases h3 : w = zrz
  · exact .inr (.inr h3)
  rw [if_neg h1, if_neg h2, if_neg h3] at h
  by_cases g0 : w = kIn
  · rw [if_pos g0] at h; cases h
  rw [if_neg g0] at h
  by_cases g1 : w = z9g
  · rw [if_pos g1] at h; cases h
  rw [if_neg g1] at h
  by_cases g2 : w = zblr
  · rw [if_pos g2] at h; cases h
  rw [if_neg g2] at h
  by_cases g3 : w = zrg
  · rw [if_pos g3] at h; cases h
  rw [if_neg g3] at h
  by_cases g4 : w = z9r
  · rw [if_pos g4] at h; cases h
  rw [if_neg g4] at h
  by_cases g5 : w = zx8
  · rw [if_pos g5] at h; cases h
  rw [if_neg g5] at h
  by_cases g6 : w = z9s
  · rw [if_pos g6] at h; cases h
  rw [if_neg g6] at h
  by_cases g7 : w = zbls
  · rw [if_pos g7] at h; cases h
  rw [if_neg g7] at h
  by_cases g8 : w = zbca
  · rw [if_pos g8] at h; cases h
  rw [if_neg g8] at h
  by_cases g9 : w = z03
  · rw [if_pos g9] at h; cases h
  rw [if_neg g9] at h
  by_cases g10 : w = kPut
  · rw [if_pos g10] at h; cases h
  rw [if_neg g10] at h
  by_cases g11 : w = zbcb
  · rw [if_pos g11] at h; cases h
  rw [if_neg g11] at h
  by_cases g12 : w = zblt
  · rw [if_pos g12] at h; cases h
  rw [if_neg g12] at h
  cases h
theorem zbs1 {G : List V → M V} {wv : V} {ws : List ByteArray} (hT : Tabs H0) (h : ReadAt H0 H R v st (view wv ws :: L)) (hs : Sm st 1000000) (hw : 1 ≤ ws.length) (hb : ws.length ≤ 1000000) (hwz : ∀ w ∈ ws, w.size ≤ 1000000) (k : Kw) (hk : kwOf (wAt ws 0) = some k) : zle H0 H R (view wv ws :: L) (z6l st ws k) (zbub G k [ptr R 0, wv]) := by
  cases k with
  | single => exact zbn2 h hs hw hb hwz (zbn3 hk)
  | point => exact zbqm hT h hs hw
  | grant => exact zbqn h hs hw hb hwz
  | port => exact zbsz hT h hs hw hwz
  | window => exact zbn1 h hs hw hb hwz
  | engs => exact zbsu h hs hw hb hwz
  | unit => exact zbsv h hs
  | bind => exact zbsx h hs hwz
  | user => exact zbsw h hs hwz
  | role => exact zbsy hT h hs hwz
theorem zbn4 (G : List V → M V) (k : Kw) (args : List V) : zlz (ovr [(zbk, zd5 G zcq), (zbv, zek), (zbw, zel G zcq), (zb4, ze5 G zcq), (zcm, zd6 G zcq), (zb3, zc4 G zcq), (zc9, ze6), (zb5, ze7 G zcq), (zda, ze8 G zum), (zdb, ze9 G zcq), (zch, znp), (zci, zbg)] noC) (zm2 k).val args = zbub G k args := by
  unfold Fid.val
  rw [zbqq]
  cases k <;> rfl
end Go.AM.Cap

/- conf: a line, lines -/
set_option maxHeartbeats 16000000
namespace Go.AM.Cap
open Go.AM Go.Proofs
variable {H0 H : Heap} {R : Nat} {v : RV} {st : RSt} {L : List Thing}
theorem zbeo {c : BitVec 8} {s w : ByteArray} (h : w ∈ zcp c s) : w.size ≤ s.size := by
  obtain ⟨l, hl, rfl⟩ := List.mem_map.1 h
  rw [z5g, ← zc1 s]
  exact zx7 c _ l hl
theorem zbcf (c : BitVec 8) (s : ByteArray) : (zcp c s).length ≤ s.size + 1 := by
  rw [zcp, List.length_map, ← zc1 s]
  exact zv5 c _
theorem zbcg (c : BitVec 8) (s : ByteArray) : 1 ≤ (zcp c s).length := by
  have := zbek c s
  cases h : zcp c s with
  | nil => exact absurd h this
  | cons a l => simp
theorem z74 : v.things R st L = v.things R st [] ++ L := by
  simp only [RV.things, List.append_nil, List.cons_append, List.append_assoc]
theorem Hp.look {α : Type} [Flat α] {w : V} {xs : List α} (h : Hp H0 H (own w xs :: L)) : Hp H0 H (view w xs :: L) :=
  ⟨h.keeps, fun t ht => by
    rcases List.mem_cons.1 ht with rfl | ht
    · exact h.new (own w xs) (by simp)
    · exact h.new t (by simp [ht]), fun t ht => by
    rcases List.mem_cons.1 ht with rfl | ht
    · exact (h.own (i := 0) rfl).sl
    · exact h.all t (by simp [ht]), by
    have := List.pairwise_cons.1 h.apart
    exact List.pairwise_cons.2 ⟨this.1, this.2⟩⟩
theorem ReadAt.view_in {w : V} {ws : List ByteArray} {H' : Heap} (h : ReadAt H0 H R v st L) (s : Hp H0 H' (own w ws :: v.things R st L)) : ReadAt H0 H' R v st (view w ws :: L) := by
  refine ⟨?_, h.uns, h.us⟩
  have s1 := Hp.look s
  rw [z74] at s1 ⊢
  exact s1.perm List.perm_middle.symm
theorem zbs2 {G : List V → M V} {M : Nat} (hT : Tabs H0) (h : ReadAt H0 H R v st (z4l M :: L)) (hs : Sm st 1000000) (s : ByteArray) (hz : s.size ≤ 100000) (Q : V → Heap → Prop)
    (hok : ∀ st', z07 st s = .ok st' → ∀ v' H', ReadAt H0 H' R v' st' (z4l M :: L) → Q (i64 0) H') (hbad : ∀ e, z07 st s = .error e → e ≠ 0 → ∀ H', Hp H0 H' (z4l M :: L) → Q (i64 e) H') : wp (zi4 znp G zcq zum [ptr R 0, .string s, .map (some M)]) Q H := by
  show wp (zg8 znp G zcq zum (ptr R 0) (.string s) (.map (some M))) Q H
  by_cases c1 : s.size = 0
  · have e : z07 st s = .ok st := by rw [z07, if_pos (.inl c1)]
    have e1 : decide (s = (⟨#[]⟩ : ByteArray)) = true := decide_eq_true (z87 c1)
    (try simp (maxSteps := 1000000) (disch := first | omega | (simp only [Z3]; omega) | (simp; done) | assumption | decide | (apply not_not_intro; assumption)) only [ZB, zg8, e1])
    exact hok _ e _ _ h
  have e1 : decide (s = (⟨#[]⟩ : ByteArray)) = false := decide_eq_false fun h => c1 (by rw [h]; rfl)
  have ix := zqg (s := s) (k := .i64) (i := 0) (by omega) (by omega)
  have hhd : (bv s).getD (0 : Int).toNat 0 = (bv s).headD 0 := by cases bv s <;> rfl
  rw [hhd] at ix
  have e35 : (Value.int .u8 35 : V) = B 35#8 := rfl
  by_cases c2 : (bv s).headD 0 = 35#8
  · have e : z07 st s = .ok st := by rw [z07, if_pos (.inr c2)]
    have e2 : decide ((((bv s).headD 0).toNat : Int) = ((35#8).toNat : Int)) = true := decide_eq_true (by rw [c2])
    (try simp (maxSteps := 1000000) (disch := first | omega | (simp only [Z3]; omega) | (simp; done) | assumption | decide | (apply not_not_intro; assumption)) only [ZB, zg8, e1, ix, e35, e2])
    exact hok _ e _ _ h
  have e2 : decide ((((bv s).headD 0).toNat : Int) = ((35#8).toNat : Int)) = false := decide_eq_false fun q => c2 (BitVec.eq_of_toNat_eq (by omega))
  have hline : z07 st s = match kwOf (wAt (zcp 32 s) 0) with
    | none => .error 3
    | some k => if z9h (zcp 32 s) zji = true then .error 3 else match z6l st (zcp 32 s) k with
      | none => .error 3
      | some st' => if z9h st.once (wAt (zcp 32 s) 0) = true then .error 6 else .ok st' := by
    rw [z07, if_neg (by rintro (q | q); exact c1 q; exact c2 q)]
    rfl
  have hwz : ∀ w ∈ zcp 32 s, w.size ≤ 1000000 := fun w hw => by have := zbeo hw; omega
  have hwl := zbcf 32 s
  have hwp := zbcg 32 s
  generalize hws : zcp 32 s = ws at *
  (try simp (maxSteps := 1000000) (disch := first | omega | (simp only [Z3]; omega) | (simp; done) | assumption | decide | (apply not_not_intro; assumption)) only [ZB, zg8, e1, ix, e35, e2, zrs])
  refine zbim (hT.ml.keep0 h.hp.keeps) h.hp s ⟨#[32]⟩ 32 (by decide) (by omega) _ fun w H1 k1 s1 => ?_
  rw [hws] at s1
  have r1 := h.view_in s1
  obtain ⟨a0, b0⟩ := wd0 r1.words (by omega)
  have gM : H1.get M = some (.map true (tabF.map zj6)) := r1.rest.all (z4l M) (by simp)
  have etab := lkSF true tabF (wAt ws 0)
  rw [zbs0] at etab
  cases hk : kwOf (wAt ws 0) with
  | none =>
    rw [hk] at hline etab
    have et : zux (some (.map true (tabF.map zj6))) (.one .s) .nilFunc false (.string (wAt ws 0)) = some .nilFunc := etab
    have en : zgp false (zd2 .f (.nilFunc : V)) = some (.bool true) := rfl
    (try simp (maxSteps := 1000000) (disch := first | omega | (simp only [Z3]; omega) | (simp; done) | assumption | decide | (apply not_not_intro; assumption)) only [ZB, a0, b0, zg0, gM, et, en])
    exact hbad 3 hline (by decide) _ r1.rest.tail
  | some k =>
    rw [hk] at hline etab
    have et : zux (some (.map true (tabF.map zj6))) (.one .s) .nilFunc false (.string (wAt ws 0)) = some (zm2 k).val := etab
    have en : zgp false (zd2 .f (zm2 k).val) = some (.bool false) := by cases k <;> rfl
    (try simp (maxSteps := 1000000) (disch := first | omega | (simp only [Z3]; omega) | (simp; done) | assumption | decide | (apply not_not_intro; assumption)) only [ZB, a0, b0, zg0, gM, et, en])
    refine z6o r1.words (by omega) _ _ ?_
    cases hn : z9h ws zji with
    | true =>
      simp only [hn, if_true] at hline
      have hn' : z9h ws (⟨#[]⟩ : ByteArray) = true := hn
      (try simp (maxSteps := 1000000) (disch := first | omega | (simp only [Z3]; omega) | (simp; done) | assumption | decide | (apply not_not_intro; assumption)) only [ZB, hn'])
      exact hbad 3 hline (by decide) _ r1.rest.tail
    | false =>
      simp only [hn] at hline
      have g := r1.get
      have hone := r1.hp.own (i := 7) rfl
      unfold RV.cells at g
      have hn' : z9h ws (⟨#[]⟩ : ByteArray) = false := hn
      (try simp (maxSteps := 1000000) (disch := first | omega | (simp only [Z3]; omega) | (simp; done) | assumption | decide | (apply not_not_intro; assumption)) only [ZB, hn', zrr, g, a0, b0])
      refine z6o hone.sl (by have := hs.once; omega) (wAt ws 0) _ ?_
      (try simp (maxSteps := 1000000) (disch := first | omega | (simp only [Z3]; omega) | (simp; done) | assumption | decide | (apply not_not_intro; assumption)) only [ZB, zbn4])
      refine zbs1 hT r1 hs (by omega) (by omega) hwz k hk _ (fun st' hst v' H2 r2 => ?_) fun hst H2 s2 => ?_
      · rw [hst] at hline
        cases ho : z9h st.once (wAt ws 0) with
        | true =>
          simp only [ho, if_true] at hline
          (try simp (maxSteps := 1000000) (disch := first | omega | (simp only [Z3]; omega) | (simp; done) | assumption | decide | (apply not_not_intro; assumption)) only [ZB])
          exact hbad 6 hline (by decide) _ r2.rest.tail
        | false =>
          simp only [ho] at hline
          (try simp (maxSteps := 1000000) (disch := first | omega | (simp only [Z3]; omega) | (simp; done) | assumption | decide | (apply not_not_intro; assumption)) only [ZB, zrq])
          refine hok st' hline v' _ ⟨?_, r2.uns, r2.us⟩
          have := r2.hp
          rw [z74] at this ⊢
          exact (this.perm List.perm_middle).tail
      · rw [hst] at hline
        (try simp (maxSteps := 1000000) (disch := first | omega | (simp only [Z3]; omega) | (simp; done) | assumption | decide | (apply not_not_intro; assumption)) only [ZB])
        exact hbad 3 hline (by decide) _ s2.tail
end Go.AM.Cap
