import Derived.Test.YtcmimkacafphkaaGreatDoorCoA
import Derived.Test.YtcmimkacafphkaaGreatDoorFun2
import Derived.Test.YtcmimkacafphkaaGreatDoorAmOpenF
set_option linter.all false
/- code: operations: which may be (written by genco.py) -/
set_option maxHeartbeats 16000000
namespace Go.AM.Cap
open Go.AM Go.Proofs

structure Opn where
  of : Int
  one : Bool
  f : Nat
  truth : Bool
instance : Inhabited Opn := ⟨⟨0, false, 0, false⟩⟩
instance : Flat Opn := ⟨4, fun x => [i64 x.of, .bool x.one, .func (.func x.f) #[] #[], .bool x.truth], fun _ => rfl, fun _ => rfl, by decide⟩
theorem enc_opn (x : Opn) : Flat.enc x = [i64 x.of, .bool x.one, .func (.func x.f) #[] #[], .bool x.truth] := rfl
theorem opn_one (x : Opn) : ([i64 x.of, .bool x.one, .func (.func x.f) #[] #[], .bool x.truth] : List V).all Value.isOne = true := rfl
def opsT : List Opn := [⟨28, false, fid_num_find_1, false⟩, ⟨28, false, fid_num_find_2, false⟩, ⟨12, false, fid_num_find_3, false⟩, ⟨12, false, fid_num_find_4, false⟩, ⟨12, false, fid_num_find_5, false⟩, ⟨14, false, fid_num_find_6, false⟩, ⟨14, false, fid_num_find_7, false⟩, ⟨14, false, fid_num_find_8, false⟩, ⟨30, false, fid_num_find_9, true⟩, ⟨30, false, fid_num_find_10, true⟩, ⟨28, false, fid_num_find_11, true⟩, ⟨28, false, fid_num_find_12, true⟩, ⟨28, false, fid_num_find_13, true⟩, ⟨28, false, fid_num_find_14, true⟩, ⟨28, true, fid_num_find_15, false⟩, ⟨14, true, fid_num_find_16, false⟩]
def opTbl : Calls' := ovr [(fid_num_find_1, A_num_find_1), (fid_num_find_2, A_num_find_2), (fid_num_find_3, A_num_find_3), (fid_num_find_4, A_num_find_4), (fid_num_find_5, A_num_find_5), (fid_num_find_6, A_num_find_6), (fid_num_find_7, A_num_find_7), (fid_num_find_8, A_num_find_8), (fid_num_find_9, A_num_find_9), (fid_num_find_10, A_num_find_10), (fid_num_find_11, A_num_find_11), (fid_num_find_12, A_num_find_12), (fid_num_find_13, A_num_find_13), (fid_num_find_14, A_num_find_14), (fid_num_find_15, A_num_find_15), (fid_num_find_16, A_num_find_16), (fid_num_find, A_num_find), (fid_num_op_has, A_num_op_has), (fid_num_Fits, A_num_Fits), (fid_num_wrap, A_num_wrap)] noC
theorem opc_1 {H : Heap} (Q : V → Heap → Prop) (hQ : ∀ n, Q (i64 n) H) : wp (callM opTbl (.func (.func fid_num_find_1) #[] #[]) [i64 1, i64 1]) Q H := by
  show wp (F_num_find_1 (i64 1) (i64 1)) Q H
  (try simp (maxSteps := 1000000) (disch := first | omega | (simp only [Z3]; omega) | (simp; done) | assumption | decide | (refine not_not_intro ?_; assumption)) only [Z1, Z2, splice, F_num_find_1, i64_and1, A_num_flag, F_num_flag, num_flag_k0])
  first | exact hQ _ | exact ⟨_, rfl, hQ _⟩
theorem opc_2 {H : Heap} (Q : V → Heap → Prop) (hQ : ∀ n, Q (i64 n) H) : wp (callM opTbl (.func (.func fid_num_find_2) #[] #[]) [i64 1, i64 1]) Q H := by
  show wp (F_num_find_2 (i64 1) (i64 1)) Q H
  (try simp (maxSteps := 1000000) (disch := first | omega | (simp only [Z3]; omega) | (simp; done) | assumption | decide | (refine not_not_intro ?_; assumption)) only [Z1, Z2, splice, F_num_find_2, i64_and1, A_num_flag, F_num_flag, num_flag_k0])
  first | exact hQ _ | exact ⟨_, rfl, hQ _⟩
theorem opc_3 {H : Heap} (Q : V → Heap → Prop) (hQ : ∀ n, Q (i64 n) H) : wp (callM opTbl (.func (.func fid_num_find_3) #[] #[]) [i64 1, i64 1]) Q H := by
  show wp (F_num_find_3 (i64 1) (i64 1)) Q H
  (try simp (maxSteps := 1000000) (disch := first | omega | (simp only [Z3]; omega) | (simp; done) | assumption | decide | (refine not_not_intro ?_; assumption)) only [Z1, Z2, splice, F_num_find_3, i64_and1, A_num_flag, F_num_flag, num_flag_k0])
  first | exact hQ _ | exact ⟨_, rfl, hQ _⟩
theorem opc_4 {H : Heap} (Q : V → Heap → Prop) (hQ : ∀ n, Q (i64 n) H) : wp (callM opTbl (.func (.func fid_num_find_4) #[] #[]) [i64 1, i64 1]) Q H := by
  show wp (F_num_find_4 (i64 1) (i64 1)) Q H
  (try simp (maxSteps := 1000000) (disch := first | omega | (simp only [Z3]; omega) | (simp; done) | assumption | decide | (refine not_not_intro ?_; assumption)) only [Z1, Z2, splice, F_num_find_4, i64_and1, A_num_flag, F_num_flag, num_flag_k0])
  first | exact hQ _ | exact ⟨_, rfl, hQ _⟩
theorem opc_5 {H : Heap} (Q : V → Heap → Prop) (hQ : ∀ n, Q (i64 n) H) : wp (callM opTbl (.func (.func fid_num_find_5) #[] #[]) [i64 1, i64 1]) Q H := by
  show wp (F_num_find_5 (i64 1) (i64 1)) Q H
  (try simp (maxSteps := 1000000) (disch := first | omega | (simp only [Z3]; omega) | (simp; done) | assumption | decide | (refine not_not_intro ?_; assumption)) only [Z1, Z2, splice, F_num_find_5, i64_and1, A_num_flag, F_num_flag, num_flag_k0])
  first | exact hQ _ | exact ⟨_, rfl, hQ _⟩
theorem opc_6 {H : Heap} (Q : V → Heap → Prop) (hQ : ∀ n, Q (i64 n) H) : wp (callM opTbl (.func (.func fid_num_find_6) #[] #[]) [i64 1, i64 1]) Q H := by
  show wp (F_num_find_6 (i64 1) (i64 1)) Q H
  (try simp (maxSteps := 1000000) (disch := first | omega | (simp only [Z3]; omega) | (simp; done) | assumption | decide | (refine not_not_intro ?_; assumption)) only [Z1, Z2, splice, F_num_find_6, i64_and1, A_num_flag, F_num_flag, num_flag_k0])
  first | exact hQ _ | exact ⟨_, rfl, hQ _⟩
theorem opc_7 {H : Heap} (Q : V → Heap → Prop) (hQ : ∀ n, Q (i64 n) H) : wp (callM opTbl (.func (.func fid_num_find_7) #[] #[]) [i64 1, i64 1]) Q H := by
  show wp (F_num_find_7 (i64 1) (i64 1)) Q H
  (try simp (maxSteps := 1000000) (disch := first | omega | (simp only [Z3]; omega) | (simp; done) | assumption | decide | (refine not_not_intro ?_; assumption)) only [Z1, Z2, splice, F_num_find_7, i64_and1, A_num_flag, F_num_flag, num_flag_k0])
  first | exact hQ _ | exact ⟨_, rfl, hQ _⟩
theorem opc_8 {H : Heap} (Q : V → Heap → Prop) (hQ : ∀ n, Q (i64 n) H) : wp (callM opTbl (.func (.func fid_num_find_8) #[] #[]) [i64 1, i64 1]) Q H := by
  show wp (F_num_find_8 (i64 1) (i64 1)) Q H
  (try simp (maxSteps := 1000000) (disch := first | omega | (simp only [Z3]; omega) | (simp; done) | assumption | decide | (refine not_not_intro ?_; assumption)) only [Z1, Z2, splice, F_num_find_8, i64_and1, A_num_flag, F_num_flag, num_flag_k0])
  first | exact hQ _ | exact ⟨_, rfl, hQ _⟩
theorem opc_9 {H : Heap} (Q : V → Heap → Prop) (hQ : ∀ n, Q (i64 n) H) : wp (callM opTbl (.func (.func fid_num_find_9) #[] #[]) [i64 1, i64 1]) Q H := by
  show wp (F_num_find_9 (i64 1) (i64 1)) Q H
  (try simp (maxSteps := 1000000) (disch := first | omega | (simp only [Z3]; omega) | (simp; done) | assumption | decide | (refine not_not_intro ?_; assumption)) only [Z1, Z2, splice, F_num_find_9, i64_and1, A_num_flag, F_num_flag, num_flag_k0])
  first | exact hQ _ | exact ⟨_, rfl, hQ _⟩
theorem opc_10 {H : Heap} (Q : V → Heap → Prop) (hQ : ∀ n, Q (i64 n) H) : wp (callM opTbl (.func (.func fid_num_find_10) #[] #[]) [i64 1, i64 1]) Q H := by
  show wp (F_num_find_10 (i64 1) (i64 1)) Q H
  (try simp (maxSteps := 1000000) (disch := first | omega | (simp only [Z3]; omega) | (simp; done) | assumption | decide | (refine not_not_intro ?_; assumption)) only [Z1, Z2, splice, F_num_find_10, i64_and1, A_num_flag, F_num_flag, num_flag_k0])
  first | exact hQ _ | exact ⟨_, rfl, hQ _⟩
theorem opc_11 {H : Heap} (Q : V → Heap → Prop) (hQ : ∀ n, Q (i64 n) H) : wp (callM opTbl (.func (.func fid_num_find_11) #[] #[]) [i64 1, i64 1]) Q H := by
  show wp (F_num_find_11 (i64 1) (i64 1)) Q H
  (try simp (maxSteps := 1000000) (disch := first | omega | (simp only [Z3]; omega) | (simp; done) | assumption | decide | (refine not_not_intro ?_; assumption)) only [Z1, Z2, splice, F_num_find_11, i64_and1, A_num_flag, F_num_flag, num_flag_k0])
  first | exact hQ _ | exact ⟨_, rfl, hQ _⟩
theorem opc_12 {H : Heap} (Q : V → Heap → Prop) (hQ : ∀ n, Q (i64 n) H) : wp (callM opTbl (.func (.func fid_num_find_12) #[] #[]) [i64 1, i64 1]) Q H := by
  show wp (F_num_find_12 (i64 1) (i64 1)) Q H
  (try simp (maxSteps := 1000000) (disch := first | omega | (simp only [Z3]; omega) | (simp; done) | assumption | decide | (refine not_not_intro ?_; assumption)) only [Z1, Z2, splice, F_num_find_12, i64_and1, A_num_flag, F_num_flag, num_flag_k0])
  first | exact hQ _ | exact ⟨_, rfl, hQ _⟩
theorem opc_13 {H : Heap} (Q : V → Heap → Prop) (hQ : ∀ n, Q (i64 n) H) : wp (callM opTbl (.func (.func fid_num_find_13) #[] #[]) [i64 1, i64 1]) Q H := by
  show wp (F_num_find_13 (i64 1) (i64 1)) Q H
  (try simp (maxSteps := 1000000) (disch := first | omega | (simp only [Z3]; omega) | (simp; done) | assumption | decide | (refine not_not_intro ?_; assumption)) only [Z1, Z2, splice, F_num_find_13, i64_and1, A_num_flag, F_num_flag, num_flag_k0])
  first | exact hQ _ | exact ⟨_, rfl, hQ _⟩
theorem opc_14 {H : Heap} (Q : V → Heap → Prop) (hQ : ∀ n, Q (i64 n) H) : wp (callM opTbl (.func (.func fid_num_find_14) #[] #[]) [i64 1, i64 1]) Q H := by
  show wp (F_num_find_14 (i64 1) (i64 1)) Q H
  (try simp (maxSteps := 1000000) (disch := first | omega | (simp only [Z3]; omega) | (simp; done) | assumption | decide | (refine not_not_intro ?_; assumption)) only [Z1, Z2, splice, F_num_find_14, i64_and1, A_num_flag, F_num_flag, num_flag_k0])
  first | exact hQ _ | exact ⟨_, rfl, hQ _⟩
theorem opc_15 {H : Heap} (Q : V → Heap → Prop) (hQ : ∀ n, Q (i64 n) H) : wp (callM opTbl (.func (.func fid_num_find_15) #[] #[]) [i64 1, i64 1]) Q H := by
  show wp (F_num_find_15 (i64 1) (i64 1)) Q H
  (try simp (maxSteps := 1000000) (disch := first | omega | (simp only [Z3]; omega) | (simp; done) | assumption | decide | (refine not_not_intro ?_; assumption)) only [Z1, Z2, splice, F_num_find_15, i64_and1, A_num_flag, F_num_flag, num_flag_k0])
  first | exact hQ _ | exact ⟨_, rfl, hQ _⟩
theorem opc_16 {H : Heap} (Q : V → Heap → Prop) (hQ : ∀ n, Q (i64 n) H) : wp (callM opTbl (.func (.func fid_num_find_16) #[] #[]) [i64 1, i64 1]) Q H := by
  show wp (F_num_find_16 (i64 1) (i64 1)) Q H
  (try simp (maxSteps := 1000000) (disch := first | omega | (simp only [Z3]; omega) | (simp; done) | assumption | decide | (refine not_not_intro ?_; assumption)) only [Z1, Z2, splice, F_num_find_16, i64_and1, A_num_flag, F_num_flag, num_flag_k0])
  first | exact hQ _ | exact ⟨_, rfl, hQ _⟩
theorem opc_all {H : Heap} (x : Opn) (hx : x ∈ opsT) (Q : V → Heap → Prop) (hQ : ∀ n, Q (i64 n) H) : wp (callM opTbl (.func (.func x.f) #[] #[]) [i64 1, i64 1]) Q H := by
  simp only [opsT, List.mem_cons, List.not_mem_nil, or_false] at hx
  rcases hx with rfl | rfl | rfl | rfl | rfl | rfl | rfl | rfl | rfl | rfl | rfl | rfl | rfl | rfl | rfl | rfl
  · exact opc_1 Q hQ
  · exact opc_2 Q hQ
  · exact opc_3 Q hQ
  · exact opc_4 Q hQ
  · exact opc_5 Q hQ
  · exact opc_6 Q hQ
  · exact opc_7 Q hQ
  · exact opc_8 Q hQ
  · exact opc_9 Q hQ
  · exact opc_10 Q hQ
  · exact opc_11 Q hQ
  · exact opc_12 Q hQ
  · exact opc_13 Q hQ
  · exact opc_14 Q hQ
  · exact opc_15 Q hQ
  · exact opc_16 Q hQ

end Go.AM.Cap
