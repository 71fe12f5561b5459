import Derived.Test.YtehhkminlafeiaaGreatDoorSeD
import Derived.Test.YtehhkminlafeiaaGreatDoorAmOpenF
set_option linter.all false
/- sess: a desk with one session -/
set_option maxHeartbeats 16000000
namespace Go.AM.Cap
open Go.AM Go.Proofs

theorem cloneU_ok {H : Heap} {v : V} {l : List Us} (h : Sl H v l) (hl : l.length ≤ 1000) (Q : V → Heap → Prop) (hQ : ∀ w H', OwnF H' w l → Keeps [] H H' → (∀ b ∈ vb w, H.next ≤ b) → Q w H') : wp (A_slices_Clone_S_api_User_api_User [v]) Q H := by
  show wp (F_slices_Clone_S_api_User_api_User v) Q H
  by_cases hn : v = .slice none 0 0
  · subst hn
    have hl0 : l = [] := by
      rcases h with ⟨_, rfl⟩ | ⟨b, o, u, c, e, _⟩
      · rfl
      · cases e
    subst hl0
    have e : notIf false (isNil .s (Value.slice none 0 0 : V)) = some (.bool true) := rfl
    (try simp (maxSteps := 1000000) (disch := first | omega | (simp only [Z3]; omega) | (simp; done) | assumption | decide | (refine not_not_intro ?_; assumption)) only [Z1, Z2, splice, F_slices_Clone_S_api_User_api_User, e])
    exact hQ _ H (OwnF.nil _) (Keeps.refl _ _) (by simp)
  · have e : notIf false (isNil .s v) = some (.bool false) := by
      rcases h with ⟨rfl, _⟩ | ⟨b, o, u, c, rfl, _⟩
      · exact absurd rfl hn
      · rfl
    (try simp (maxSteps := 1000000) (disch := first | omega | (simp only [Z3]; omega) | (simp; done) | assumption | decide | (refine not_not_intro ?_; assumption)) only [Z1, Z2, splice, F_slices_Clone_S_api_User_api_User, e, slices_Clone_S_api_User_api_User_k0])
    refine (wp_bslc (cs := encs ([] : List Us)) (by rfl) (by rfl)).mpr ?_
    have k1 : Keeps [] H (H.push (some (.cells true (encs ([] : List Us))))) := Keeps.push _ _ _
    have o1 := ownF_push (H := H) (xs := ([] : List Us)) (n := 3) (m := 0) rfl rfl
    have n1 : (H.push (some (.cells true (encs ([] : List Us))))).next = H.next + 1 := by simp
    generalize H.push (some (.cells true (encs ([] : List Us)))) = H1 at *
    (try simp (maxSteps := 1000000) (disch := first | omega | (simp only [Z3]; omega) | (simp; done) | assumption | decide | (refine not_not_intro ?_; assumption)) only [Z1, Z2, splice])
    refine ownF_appV (α := Us) rfl o1 (h.keep0 k1) (by simp; omega) (by simp; omega) fun w H2 o2 k2 v2 => ?_
    rw [List.nil_append] at o2
    (try simp (maxSteps := 1000000) (disch := first | omega | (simp only [Z3]; omega) | (simp; done) | assumption | decide | (refine not_not_intro ?_; assumption)) only [Z1, Z2, splice])
    refine hQ w H2 o2 (k1.trans k2 fun b hb hm => by simp at hm; omega) fun b hb => ?_
    rcases v2 b hb with q | q
    · simp at q; omega
    · omega

def annS' : ByteArray := ⟨#[97, 110, 110]⟩
def key16' : ByteArray := ⟨#[48, 49, 50, 51, 52, 53, 54, 55, 56, 57, 97, 98, 99, 100, 101, 102]⟩
def bobS' : ByteArray := ⟨#[98, 111, 98]⟩
def key32' : ByteArray := ⟨#[48, 49, 50, 51, 52, 53, 54, 55, 56, 57, 97, 98, 99, 100, 101, 102, 48, 49, 50, 51, 52, 53, 54, 55, 56, 57, 97, 98, 99, 100, 101, 102]⟩
def annU : Us := ⟨annS', key16', default⟩
def bobU : Us := ⟨bobS', key32', default⟩
def nonceS : ByteArray := ⟨#[115, 105, 120, 116, 101, 101, 110, 32, 98, 121, 116, 101, 115, 32, 33, 33]⟩
theorem users_ok : chkUs [annU, bobU] 1 = (0, 0) := by kernel_rfl
theorem find_ann : findS [annU, bobU] annS' = some 0 := by kernel_rfl
theorem desk_build (uv : V) (hu : uv.isOne = true) (idle : Int) : build [Value.slice none 0 0, Value.int .i64 0, Value.int .i64 0, Value.int .i64 0, Value.slice none 0 0, Value.slice none 0 0, Value.int .i64 0, Value.slice none 0 0, (Value.slice none 0 0 : V)] [(0, 1, uv), (1, 1, i64 idle)] = some (.agg (#[uv, i64 idle, i64 0, i64 0, .slice none 0 0, .slice none 0 0, i64 0, .slice none 0 0, .slice none 0 0] : Array V)) := by
  rw [build_eq (by rfl), fillA_one hu (by decide), fillA_one rfl (by rw [List.length_set]; decide), fillA_nil]
  rfl
theorem ch_build (u : Us) (n : ByteArray) (f : Int) : build [Value.string ⟨#[]⟩, Value.string ⟨#[]⟩, Value.slice none 0 0, Value.string ⟨#[]⟩, (Value.int .i64 0 : V)] [(0, 3, .agg (Flat.enc u).toArray), (3, 1, .string n), (4, 1, i64 f)] = some (.agg (Flat.enc (⟨u, n, f⟩ : Ch)).toArray) := by
  rw [build_eq (by rfl), fillA_agg (n := 3) (vs := Flat.enc u) (us_one u) rfl (by decide), fillA_one rfl (by simp [splice, enc_us]), fillA_one rfl (by simp [splice, enc_us]), fillA_nil]
  rfl
theorem se_build (u : Us) (k : ByteArray) (f : Int) : build [Value.string ⟨#[]⟩, Value.string ⟨#[]⟩, Value.slice none 0 0, Value.string ⟨#[]⟩, Value.int .i64 0, (Value.int .i64 0 : V)] [(0, 3, .agg (Flat.enc u).toArray), (3, 1, .string k), (4, 1, i64 1), (5, 1, i64 f)] = some (.agg (Flat.enc (⟨u, k, 1, f⟩ : Se)).toArray) := by
  rw [build_eq (by rfl), fillA_agg (n := 3) (vs := Flat.enc u) (us_one u) rfl (by decide), fillA_one rfl (by simp [splice, enc_us]), fillA_one rfl (by simp [splice, enc_us]), fillA_one rfl (by simp [splice, enc_us]), fillA_nil]
  rfl

end Go.AM.Cap
