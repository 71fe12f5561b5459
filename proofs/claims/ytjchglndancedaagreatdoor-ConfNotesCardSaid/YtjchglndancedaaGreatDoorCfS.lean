import Derived.Test.YtjchglndancedaaGreatDoorCfR
import Derived.Test.YtjchglndancedaaGreatDoorAmOpenF
set_option linter.all false
/- conf: a line -/
set_option maxHeartbeats 16000000
namespace Go.AM.Cap
open Go.AM Go.Proofs
variable {H0 H : Heap} {R : Nat} {v : RV} {st : RSt} {L : List Thing}
theorem eqB (a b : BitVec 8) : bin .eql (B a) (B b) = some (.bool (decide (a = b))) := by
  have : (((a.toNat : Int) == (b.toNat : Int))) = decide (a = b) := by
    by_cases h : a = b
    · subst h; simp
    · rw [decide_eq_false h]
      have : ¬ a.toNat = b.toNat := fun q => h (BitVec.eq_of_toNat_eq q)
      simp; omega
  show some (Value.bool ((a.toNat : Int) == (b.toNat : Int))) = _
  rw [this]
structure Fid where
  f : Nat
def Fid.val (f : Fid) : V := .func (.func f.f) #[] #[]
instance : ValE Fid := ⟨Fid.val, fun _ => rfl⟩
instance : KeyE ByteArray := ⟨.one .s, .string, fun a b => by simp only [zu3, eqK], fun _ => rfl, fun _ => rfl⟩
def zpg : Kw → Fid
  | .single => ⟨zce⟩
  | .point => ⟨zcs⟩
  | .grant => ⟨zct⟩
  | .port => ⟨zc1⟩
  | .window => ⟨zdf⟩
  | .engs => ⟨zcq⟩
  | .unit => ⟨zd1⟩
  | .bind => ⟨zc2⟩
  | .user => ⟨zd2⟩
  | .role => ⟨zd3⟩
def tabF : List (ByteArray × Fid) := [(zoc, zpg .single), (zry, zpg .single), (zy9, zpg .single), (kIn, zpg .point), (kOut, zpg .point), (zbqf, zpg .grant), (zwk, zpg .grant), (zbgy, zpg .port), (z2j, zpg .port), (zbgz, zpg .window), (zbqg, zpg .engs), (zbqh, zpg .unit), (kGet, zpg .bind), (kPut, zpg .bind), (zbqi, zpg .user), (zbqj, zpg .role)]
theorem zbr2 (w : ByteArray) : zoy tabF w = (kwOf w).map zpg := by
  simp only [kwOf, apply_ite (Option.map zpg), Option.map_some, Option.map_none, tabF, zoy]
def z5z (M : Nat) : Thing := ⟨[M], fun H => H.get M = some (.map true (tabF.map zmj)), fun _ h p => by rw [h M (by simp)]; exact p, fun p b hb => by simp at hb; subst hb; exact Heap.get_lt p⟩
theorem stSF (es : List (ByteArray × Fid)) (k : ByteArray) (f : Nat) (K : Option Blk → Prop) : setG (some (.map true (es.map zmj))) (.one .s) (.string k) (.func (.func f) #[] #[]) K ↔ K (some (.map true ((zll es k ⟨f⟩).map zmj))) := z6w es k (⟨f⟩ : Fid) K
theorem lkSF (rw_ : Bool) (es : List (ByteArray × Fid)) (k : ByteArray) : zw3 (some (.map rw_ (es.map zmj))) (.one .s) .nilFunc false (.string k) = some ((zoy es k).elim .nilFunc ValE.enc) := z2z rw_ es .nilFunc rfl k
theorem zblb {G1 : List V → M V} (h : Hp H0 H L) (Q : V → Heap → Prop) (hQ : ∀ H', Hp H0 H' (z5z H.next :: L) → Q (.map (some H.next)) H') : wp (zk2 G1 zej zwn []) Q H := by
  show wp (zrk G1 zej zwn) Q H
  have e0 : (some (.map true []) : Option Blk) = some (.map true (([] : List (ByteArray × Fid)).map zmj)) := rfl
  (try simp (maxSteps := 1000000) (disch := first | omega | (simp only [Z3]; omega) | (simp; done) | assumption | decide | (refine not_not_intro ?_; assumption)) only [Z1, Z2, splice, zrk, zbif, e0, zve, stSF])
  have e1 : zll (zll (zll (zll (zll (zll (zll (zll (zll (zll (zll (zll (zll (zll (zll (zll [] (⟨#[109, 105, 108, 108, 105, 115]⟩ : ByteArray) (⟨zce⟩ : Fid)) ⟨#[102, 114, 97, 109, 101]⟩ ⟨zce⟩) ⟨#[105, 100, 108, 101]⟩ ⟨zce⟩) ⟨#[105, 110]⟩ ⟨zcs⟩) ⟨#[111, 117, 116]⟩ ⟨zcs⟩) ⟨#[114, 101, 97, 100]⟩ ⟨zct⟩) ⟨#[119, 114, 105, 116, 101]⟩ ⟨zct⟩) ⟨#[115, 97, 109, 112, 108, 101]⟩ ⟨zc1⟩) ⟨#[113, 117, 101, 117, 101]⟩ ⟨zc1⟩) ⟨#[119, 105, 110, 100, 111, 119]⟩ ⟨zdf⟩) ⟨#[101, 110, 103, 105, 110, 101, 101, 114, 115]⟩ ⟨zcq⟩) ⟨#[117, 110, 105, 116]⟩ ⟨zd1⟩) ⟨#[103, 101, 116]⟩ ⟨zc2⟩) ⟨#[112, 117, 116]⟩ ⟨zc2⟩) ⟨#[117, 115, 101, 114]⟩ ⟨zd2⟩) ⟨#[114, 111, 108, 101]⟩ ⟨zd3⟩ = tabF := by kernel_rfl
  rw [e1]
  refine hQ _ (h.add (t := z5z H.next) (Keeps.push _ _ _) (Heap.get_push_self _ _) (by simp [z5z]))
theorem zbqv {σ : zbz} {g : Nat} {args : List V} : zod σ (.func (.func g) #[] #[]) args = σ g args := by simp [zod]
noncomputable def zbs4 (G : List V → M V) : Kw → List V → M V
  | .single => zeh G zej
  | .point => ze1
  | .grant => ze2 G zej
  | .port => zfg G zej
  | .window => zei G zej
  | .engs => zdt G zej
  | .unit => zfh
  | .bind => zfi G zej
  | .user => zfj G zwn
  | .role => zfk G zej
theorem zboa {w : ByteArray} (h : kwOf w = some .single) : w = zoc ∨ w = zry ∨ w = zy9 := by
  unfold kwOf at h
  by_cases h1 : w = zoc
  · exact .inl h1
  by_cases h2 : w = zry
  · exact .inr (.inl h2)
  by_cases h3 : w = zy9
  · exact .inr (.inr h3)
  rw [if_neg h1, if_neg h2, if_neg h3] at h
  by_cases g0 : w = kIn
  · rw [if_pos g0] at h; cases h
  rw [if_neg g0] at h
  by_cases g1 : w = kOut
  · rw [if_pos g1] at h; cases h
  rw [if_neg g1] at h
  by_cases g2 : w = zbqf
  · rw [if_pos g2] at h; cases h
  rw [if_neg g2] at h
  by_cases g3 : w = zwk
  · rw [if_pos g3] at h; cases h
  rw [if_neg g3] at h
  by_cases g4 : w = zbgy
  · rw [if_pos g4] at h; cases h
  rw [if_neg g4] at h
  by_cases g5 : w = z2j
  · rw [if_pos g5] at h; cases h
  rw [if_neg g5] at h
  by_cases g6 : w = zbgz
  · rw [if_pos g6] at h; cases h
  rw [if_neg g6] at h
  by_cases g7 : w = zbqg
  · rw [if_pos g7] at h; cases h
  rw [if_neg g7] at h
  by_cases g8 : w = zbqh
  · rw [if_pos g8] at h; cases h
  rw [if_neg g8] at h
  by_cases g9 : w = kGet
  · rw [if_pos g9] at h; cases h
  rw [if_neg g9] at h
  by_cases g10 : w = kPut
  · rw [if_pos g10] at h; cases h
  rw [if_neg g10] at h
  by_cases g11 : w = zbqi
  · rw [if_pos g11] at h; cases h
  rw [if_neg g11] at h
  by_cases g12 : w = zbqj
  · rw [if_pos g12] at h; cases h
  rw [if_neg g12] at h
  cases h
theorem zbr3 {G : List V → M V} {wv : V} {ws : List ByteArray} (hT : Tabs H0) (h : ReadAt H0 H R v st (view wv ws :: L)) (hs : Sm st 1000000) (hw : 1 ≤ ws.length) (hb : ws.length ≤ 1000000) (hwz : ∀ w ∈ ws, w.size ≤ 1000000) (k : Kw) (hk : kwOf (wAt ws 0) = some k) : znq H0 H R (view wv ws :: L) (z72 st ws k) (zbs4 G k [ptr R 0, wv]) := by
  cases k with
  | single => exact zbn9 h hs hw hb hwz (zboa hk)
  | point => exact zbqr hT h hs hw
  | grant => exact zbqs h hs hw hb hwz
  | port => exact zbr1 hT h hs hw hwz
  | window => exact zbn8 h hs hw hb hwz
  | engs => exact zbrw h hs hw hb hwz
  | unit => exact zbrx h hs
  | bind => exact zbrz h hs hwz
  | user => exact zbry h hs hwz
  | role => exact zbr0 hT h hs hwz
theorem zbob (G : List V → M V) (k : Kw) (args : List V) : zod (ovr [(zce, zeh G zej), (zcs, ze1), (zct, ze2 G zej), (zc1, zfg G zej), (zdf, zei G zej), (zcq, zdt G zej), (zd1, zfh), (zc2, zfi G zej), (zd2, zfj G zwn), (zd3, zfk G zej), (zdk, zow), (zco, zcb)] noC) (zpg k).val args = zbs4 G k args := by
  unfold Fid.val
  rw [zbqv]
  cases k <;> rfl
end Go.AM.Cap
