import Derived.Test.YtbnjeldcndpdoaaAmSlc
import Derived.Test.YtbnjeldcndpdoaaProg
set_option linter.all false
/- Printed by amprint2.py: functions of Ytbnjeldcndpdoaa on the abstract machine. -/
set_option linter.unusedVariables false
set_option maxRecDepth 100000
namespace Go.AM.Cap
open Go.AM Go.Proofs

def fid_law19_PointsPlay : Nat := 5
def fid_law19_works : Nat := 7
def fid_law19_among : Nat := 8
def fid_points_New : Nat := 9
def fid_points_Bank_Outputs : Nat := 11
def fid_book_SameNums : Nat := 12
def fid_points_Bank_Drop : Nat := 13
def fid_points_Bank_Commit : Nat := 14
def fid_points_Check : Nat := 15
def fid_ref19_Check : Nat := 16
def fid_ref19_New : Nat := 17
def fid_law19_step : Nat := 18
def fid_ref19_Bank_Outputs : Nat := 19
def fid_book_SameInts : Nat := 20
def fid_points_Bank_Forced : Nat := 21
def fid_ref19_Bank_Forced : Nat := 22
def fid_book_SpoilNums : Nat := 23
def fid_points_Bank_Force : Nat := 24
def fid_points_Bank_Free : Nat := 25
def fid_points_Bank_Latch : Nat := 26
def fid_points_Bank_Read : Nat := 27
def fid_points_Bank_Write : Nat := 28
def fid_slices_Clone_S_api_Point_api_Point : Nat := 29
def fid_points_Bank_of : Nat := 30
def fid_points_Bank_value : Nat := 31
def fid_points_Bank_end : Nat := 32
def fid_slices_ContainsFunc_S_api_Point_api_Point : Nat := 33
def fid_points_Check_1 : Nat := 34
def fid_points_there : Nat := 35
def fid_book_LendNums : Nat := 36
def fid_ref19_Bank_Latch : Nat := 37
def fid_book_KeptNums : Nat := 38
def fid_ref19_Bank_Read : Nat := 39
def fid_ref19_Bank_Write : Nat := 40
def fid_ref19_Bank_Commit : Nat := 41
def fid_ref19_Bank_Drop : Nat := 42
def fid_ref19_Bank_Force : Nat := 43
def fid_ref19_Bank_Free : Nat := 44
def fid_ref19_Bank_value : Nat := 45
def fid_points_Bank_fits : Nat := 48
def fid_points_Bank_grant : Nat := 49
def fid_maps_DeleteFunc_map_points_pair_int64_points_pair_int64 : Nat := 50
def fid_points_Bank_end_1 : Nat := 51
def fid_slices_IndexFunc_S_api_Point_api_Point : Nat := 52
def fid_ref04_Fits : Nat := 53
def fid_ref19_Bank_there : Nat := 54
def fid_ref19_Bank_may : Nat := 55
def fid_ref19_Bank_end : Nat := 56
def fid_num_Fits : Nat := 60
def fid_ref04_Type : Nat := 61
def fid_ref04_size : Nat := 62
def fid_num_known : Nat := 66
def fid_num_wrap : Nat := 67

/-! ### slices.IndexFunc[[]capstan/api.Point,capstan/api.Point] -/
def slices_IndexFunc_S_api_Point_api_Point_k0 (S : Calls') (vs_3 : List V) : M Out :=
  bnd (lift (bin .add (at_ vs_3 3) (Value.int .i64 1))) fun x18 =>
  ret (.nxt [(at_ vs_3 0), (at_ vs_3 1), (at_ vs_3 2), x18])
def slices_IndexFunc_S_api_Point_api_Point_k1 (S : Calls') (vs_2 : List V) : M Out :=
  bnd (
  bnd (
    bnd (lift (iaddrS 2 (at_ vs_2 0) (at_ vs_2 3))) fun x14 =>
    bnd (ldn 2 x14) fun x15 =>
    bnd (callM (ovr [] S) (at_ vs_2 1) [x15]) fun x16 =>
    condM x16 (
      ret (.ret [(at_ vs_2 3)])
      ) (
      ret (.nxt [(at_ vs_2 0), (at_ vs_2 1), (at_ vs_2 2), (at_ vs_2 3)])
      )
    ) fun o => ret (unblk 1 o)
  ) fun o => nx o (slices_IndexFunc_S_api_Point_api_Point_k0 S)
def slices_IndexFunc_S_api_Point_api_Point_l2 (S : Calls') (vs : List V) : M Out :=
  bnd (lift (bin .lss (at_ vs 3) (at_ vs 2))) fun x9 =>
  bnd (
  condM x9 (
    ret (.nxt [(at_ vs 0), (at_ vs 1), (at_ vs 2), (at_ vs 3)])
    ) (
    ret (.brk 0 [])
    )
  ) fun o => nx o (slices_IndexFunc_S_api_Point_api_Point_k1 S)
def slices_IndexFunc_S_api_Point_api_Point_k3 (S : Calls') (vs_4 : List V) : M Out :=
  ret (.ret [(Value.int .i64 (-1))])
def F_slices_IndexFunc_S_api_Point_api_Point (S : Calls') (x0 x1 : V) : M V :=
  bnd (
    bnd (
      bnd (lift (lenSlc x0)) fun x7 =>
      bnd (
        loopM FUEL (slices_IndexFunc_S_api_Point_api_Point_l2 S) [x0, x1, x7, (Value.int .i64 0)]
        ) fun o => ret (unblk 0 o)
      ) fun o => nx o (slices_IndexFunc_S_api_Point_api_Point_k3 S)
    ) fun o => finM o fun vs => ret (outV [(at_ vs 0)])
def h_slices_IndexFunc_S_api_Point_api_Point : Hint := (.seq [] .leaf (.seq [] (.seq [] .leaf (.blk (.loop [0, 1, 7, 8] (.seq [] .leaf (.seq [0, 1, 7, 8] (.cond .leaf .leaf) (.seq [0, 1, 7, 8] (.blk (.seq [] .leaf (.seq [] .leaf (.cond (.seq [] .leaf .leaf) .leaf)))) .leaf)))))) (.seq [] .leaf .leaf)))
def A_slices_IndexFunc_S_api_Point_api_Point (S : Calls') (l : List V) : M V := match l with | [x0, x1] => F_slices_IndexFunc_S_api_Point_api_Point S x0 x1 | _ => fail
theorem e_slices_IndexFunc_S_api_Point_api_Point (S : Calls') (x0 x1 : V) : funM Try.prog (ovr [] S) fid_slices_IndexFunc_S_api_Point_api_Point h_slices_IndexFunc_S_api_Point_api_Point [x0, x1] = F_slices_IndexFunc_S_api_Point_api_Point S x0 x1 := by kernel_rfl
theorem K_slices_IndexFunc_S_api_Point_api_Point {S : Calls'} (hS : SimAll Try.prog S) : Known Try.prog fid_slices_IndexFunc_S_api_Point_api_Point (A_slices_IndexFunc_S_api_Point_api_Point S) := known_of (σ := ovr [] S) (hint := h_slices_IndexFunc_S_api_Point_api_Point) (by kernel_rfl) (simAll_base hS) fun l H r H' h => by
  unfold A_slices_IndexFunc_S_api_Point_api_Point at h; split at h
  · rw [e_slices_IndexFunc_S_api_Point_api_Point]; exact h
  · exact (fail_ne h).elim

/-! ### slices.ContainsFunc[[]capstan/api.Point,capstan/api.Point] -/
def F_slices_ContainsFunc_S_api_Point_api_Point (S : Calls') (x0 x1 : V) : M V :=
  bnd (
    bnd ((A_slices_IndexFunc_S_api_Point_api_Point S) [x0, x1]) fun x7 =>
    bnd (lift (bin .geq x7 (Value.int .i64 0))) fun x8 =>
    ret (.ret [x8])
    ) fun o => finM o fun vs => ret (outV [(at_ vs 0)])
def h_slices_ContainsFunc_S_api_Point_api_Point : Hint := (.seq [] .leaf (.seq [] .leaf .leaf))
def A_slices_ContainsFunc_S_api_Point_api_Point (S : Calls') (l : List V) : M V := match l with | [x0, x1] => F_slices_ContainsFunc_S_api_Point_api_Point S x0 x1 | _ => fail
theorem e_slices_ContainsFunc_S_api_Point_api_Point (S : Calls') (x0 x1 : V) : funM Try.prog (ovr [(fid_slices_IndexFunc_S_api_Point_api_Point, A_slices_IndexFunc_S_api_Point_api_Point S)] S) fid_slices_ContainsFunc_S_api_Point_api_Point h_slices_ContainsFunc_S_api_Point_api_Point [x0, x1] = F_slices_ContainsFunc_S_api_Point_api_Point S x0 x1 := by kernel_rfl
theorem K_slices_ContainsFunc_S_api_Point_api_Point {S : Calls'} (hS : SimAll Try.prog S) : Known Try.prog fid_slices_ContainsFunc_S_api_Point_api_Point (A_slices_ContainsFunc_S_api_Point_api_Point S) := known_of (σ := ovr [(fid_slices_IndexFunc_S_api_Point_api_Point, A_slices_IndexFunc_S_api_Point_api_Point S)] S) (hint := h_slices_ContainsFunc_S_api_Point_api_Point) (by kernel_rfl) (simAll_ovr (K_slices_IndexFunc_S_api_Point_api_Point (simAll_base hS)) (simAll_base hS)) fun l H r H' h => by
  unfold A_slices_ContainsFunc_S_api_Point_api_Point at h; split at h
  · rw [e_slices_ContainsFunc_S_api_Point_api_Point]; exact h
  · exact (fail_ne h).elim

/-! ### capstan/points.Check$1 -/
def F_points_Check_1 (x0 : V) : M V :=
  bnd (
    bnd (boxv x0) fun x1 =>
    bnd (lift (faddr 0 x1)) fun x3 =>
    bnd (ld1 x3) fun x4 =>
    bnd (lift (bin .lss x4 (Value.int .i64 1))) fun x5 =>
    bnd (gd x5 false (lift (faddr 0 x1))) fun x7 =>
    bnd (gd x5 false (ld1 x7)) fun x8 =>
    bnd (gd x5 false (lift (bin .gtr x8 (Value.int .i64 3)))) fun x9 =>
    bnd (lift (pickV x5 (Value.bool true) x9)) fun x10 =>
    ret (.ret [x10])
    ) fun o => finM o fun vs => ret (outV [(at_ vs 0)])
def h_points_Check_1 : Hint := (.seq [] .leaf (.seq [] .leaf .leaf))
def A_points_Check_1 (l : List V) : M V := match l with | [x0] => F_points_Check_1 x0 | _ => fail
theorem e_points_Check_1 (x0 : V) : funM Try.prog (ovr [] noC) fid_points_Check_1 h_points_Check_1 [x0] = F_points_Check_1 x0 := by kernel_rfl
theorem K_points_Check_1 : Known Try.prog fid_points_Check_1 (A_points_Check_1) := known_of (σ := ovr [] noC) (hint := h_points_Check_1) (by kernel_rfl) simAll_nil0 fun l H r H' h => by
  unfold A_points_Check_1 at h; split at h
  · rw [e_points_Check_1]; exact h
  · exact (fail_ne h).elim

/-! ### capstan/points.there -/
def F_points_there (x0 : V) : M V :=
  bnd (
    bnd (lift (bin .geq x0 (Value.int .i64 0))) fun x4 =>
    bnd (gd x4 true (lift (some x0))) fun x6 =>
    bnd (gd x4 true (lift (bin .lss x6 (Value.int .i64 8)))) fun x7 =>
    bnd (lift (pickV x4 x7 (Value.bool false))) fun x8 =>
    ret (.ret [x8])
    ) fun o => finM o fun vs => ret (outV [(at_ vs 0)])
def h_points_there : Hint := (.seq [] .leaf (.seq [] .leaf .leaf))
def A_points_there (l : List V) : M V := match l with | [x0] => F_points_there x0 | _ => fail
theorem e_points_there (x0 : V) : funM Try.prog (ovr [] noC) fid_points_there h_points_there [x0] = F_points_there x0 := by kernel_rfl
theorem K_points_there : Known Try.prog fid_points_there (A_points_there) := known_of (σ := ovr [] noC) (hint := h_points_there) (by kernel_rfl) simAll_nil0 fun l H r H' h => by
  unfold A_points_there at h; split at h
  · rw [e_points_there]; exact h
  · exact (fail_ne h).elim

/-! ### capstan/points.Check -/
def points_Check_k0 (vs_4 : List V) : M Out :=
    bnd (ldn 3 (at_ vs_4 3)) fun x73 =>
    bnd (mapSet (.agg [.i, .i, .b]) (at_ vs_4 1) x73 (Value.bool true)) fun _ =>
    bnd (lift (faddr 1 (at_ vs_4 3))) fun x75 =>
    bnd (ld1 x75) fun x76 =>
    bnd (lift (faddr 1 (at_ vs_4 3))) fun x78 =>
    bnd (ld1 x78) fun x79 =>
    bnd (lookup (.one .i) (Value.bool false) false (at_ vs_4 2) x79) fun x80 =>
    bnd (gd x80 false (lift (faddr 2 (at_ vs_4 3)))) fun x82 =>
    bnd (gd x80 false (ld1 x82)) fun x83 =>
    bnd (lift (pickV x80 (Value.bool true) x83)) fun x84 =>
    bnd (mapSet (.one .i) (at_ vs_4 2) x76 x84) fun _ =>
    ret (.nxt [(at_ vs_4 0), (at_ vs_4 1), (at_ vs_4 2), (at_ vs_4 4), (at_ vs_4 5), (at_ vs_4 6)])
def points_Check_k1 (vs_5 : List V) : M Out :=
  bnd (lift (bin .add (at_ vs_5 5) (Value.int .i64 1))) fun x85 =>
  ret (.nxt [(at_ vs_5 0), (at_ vs_5 1), (at_ vs_5 2), (at_ vs_5 3), (at_ vs_5 4), x85])
def points_Check_k2 (vs_3 : List V) : M Out :=
  bnd (
  bnd (
    bnd (lift (iaddrS 3 (at_ vs_3 3) (at_ vs_3 5))) fun x24 =>
    bnd (ldn 3 x24) fun x25 =>
    bnd (newc [Value.int .i64 0, Value.int .i64 0, Value.bool false]) fun x9 =>
    bnd (stn 3 x9 x25) fun _ =>
    bnd (
      bnd (
        bnd (lift (faddr 0 x9)) fun x27 =>
        bnd (ld1 x27) fun x28 =>
        bnd (A_points_there [x28]) fun x29 =>
        bnd (lift (un .not x29)) fun x30 =>
        bnd (gd x30 false (lift (faddr 1 x9))) fun x32 =>
        bnd (gd x30 false (ld1 x32)) fun x33 =>
        bnd (gd x30 false (lift (bin .lss x33 (Value.int .i64 0)))) fun x34 =>
        bnd (lift (pickV x30 (Value.bool true) x34)) fun x35 =>
        bnd (gd x35 false (lift (faddr 1 x9))) fun x37 =>
        bnd (gd x35 false (ld1 x37)) fun x38 =>
        bnd (gd x35 false (lift (some (at_ vs_3 0)))) fun x39 =>
        bnd (gd x35 false (lift (lenSlc x39))) fun x40 =>
        bnd (gd x35 false (lift (bin .geq x38 x40))) fun x41 =>
        bnd (lift (pickV x35 (Value.bool true) x41)) fun x42 =>
        condM x42 (
          ret (.ret [(at_ vs_3 5), (Value.int .i64 1)])
          ) (
          bnd (lift (faddr 2 x9)) fun x45 =>
          bnd (ld1 x45) fun x46 =>
          bnd (gd x46 true (lift (some (at_ vs_3 0)))) fun x48 =>
          bnd (gd x46 true (lift (faddr 1 x9))) fun x49 =>
          bnd (gd x46 true (ld1 x49)) fun x50 =>
          bnd (gd x46 true (lift (iaddrS 2 x48 x50))) fun x51 =>
          bnd (gd x46 true (lift (faddr 1 x51))) fun x52 =>
          bnd (gd x46 true (ld1 x52)) fun x53 =>
          bnd (gd x46 true (lift (un .not x53))) fun x54 =>
          bnd (lift (pickV x46 x54 (Value.bool false))) fun x55 =>
          condM x55 (
            ret (.ret [(at_ vs_3 5), (Value.int .i64 91)])
            ) (
            bnd (ldn 3 x9) fun x59 =>
            bnd (lookup (.agg [.i, .i, .b]) (Value.bool false) false (at_ vs_3 1) x59) fun x60 =>
            bnd (gd x60 false (lift (faddr 2 x9))) fun x62 =>
            bnd (gd x60 false (ld1 x62)) fun x63 =>
            bnd (gd x60 false (lift (some x63))) fun x64 =>
            bnd (gd x64 true (lift (some (at_ vs_3 2)))) fun x65 =>
            bnd (gd x64 true (lift (faddr 1 x9))) fun x66 =>
            bnd (gd x64 true (ld1 x66)) fun x67 =>
            bnd (gd x64 true (lookup (.one .i) (Value.bool false) false x65 x67)) fun x68 =>
            bnd (gd x60 false (lift (pickV x64 x68 (Value.bool false)))) fun x69 =>
            bnd (lift (pickV x60 (Value.bool true) x69)) fun x70 =>
            condM x70 (
              ret (.ret [(at_ vs_3 5), (Value.int .i64 190)])
              ) (
              ret (.nxt [(at_ vs_3 0), (at_ vs_3 1), (at_ vs_3 2), x9, (at_ vs_3 3), (at_ vs_3 4), (at_ vs_3 5)])
              )
            )
          )
        ) fun o => ret (unblk 3 o)
      ) fun o => nx o points_Check_k0
    ) fun o => ret (unblk 2 o)
  ) fun o => nx o points_Check_k1
def points_Check_l3 (vs_2 : List V) : M Out :=
  bnd (lift (bin .lss (at_ vs_2 5) (at_ vs_2 4))) fun x22 =>
  bnd (
  condM x22 (
    ret (.nxt [(at_ vs_2 0), (at_ vs_2 1), (at_ vs_2 2), (at_ vs_2 3), (at_ vs_2 4), (at_ vs_2 5)])
    ) (
    ret (.brk 1 [])
    )
  ) fun o => nx o points_Check_k2
def points_Check_k4 (vs_6 : List V) : M Out :=
  ret (.ret [(Value.int .i64 0), (Value.int .i64 0)])
def points_Check_k5 (vs : List V) : M Out :=
  bnd (mkmap) fun x17 =>
  bnd (mkmap) fun x18 =>
  bnd (
    bnd (lift (lenSlc (at_ vs 1))) fun x20 =>
    bnd (
      loopM FUEL points_Check_l3 [(at_ vs 0), x17, x18, (at_ vs 1), x20, (Value.int .i64 0)]
      ) fun o => ret (unblk 1 o)
    ) fun o => nx o points_Check_k4
def F_points_Check (x0 x1 : V) : M V :=
  bnd (
    bnd (
      bnd (
        bnd (lift (lenSlc x0)) fun x12 =>
        bnd (lift (bin .gtr x12 (Value.int .i64 64))) fun x13 =>
        condM x13 (
          ret (.ret [(Value.int .i64 (-1)), (Value.int .i64 2)])
          ) (
          bnd ((A_slices_ContainsFunc_S_api_Point_api_Point (ovr [(fid_points_Check_1, A_points_Check_1)] noC)) [x0, (Value.func (.func fid_points_Check_1) #[] #[])]) fun x16 =>
          condM x16 (
            ret (.ret [(Value.int .i64 (-1)), (Value.int .i64 40)])
            ) (
            ret (.nxt [x0, x1])
            )
          )
        ) fun o => ret (unblk 0 o)
      ) fun o => nx o points_Check_k5
    ) fun o => finM o fun vs => ret (outV [(at_ vs 0), (at_ vs 1)])
def h_points_Check : Hint := (.seq [] .leaf (.seq [0, 1] (.blk (.seq [] .leaf (.cond (.seq [] .leaf .leaf) (.seq [] .leaf (.cond (.seq [] .leaf .leaf) .leaf))))) (.seq [] .leaf (.seq [] .leaf (.seq [] (.seq [] .leaf (.blk (.loop [0, 6, 7, 19, 20, 21] (.seq [] .leaf (.seq [0, 6, 7, 19, 20, 21] (.cond .leaf .leaf) (.seq [0, 6, 7, 19, 20, 21] (.blk (.seq [] .leaf (.seq [0, 6, 7, 9, 19, 20, 21] (.blk (.seq [] .leaf (.cond (.seq [] .leaf .leaf) (.seq [] .leaf (.cond (.seq [] .leaf .leaf) (.seq [] .leaf (.cond (.seq [] .leaf .leaf) .leaf))))))) (.seq [] .leaf .leaf)))) .leaf)))))) (.seq [] .leaf .leaf))))))
def A_points_Check (l : List V) : M V := match l with | [x0, x1] => F_points_Check x0 x1 | _ => fail
def s_points_Check : Calls' := ovr [(fid_slices_ContainsFunc_S_api_Point_api_Point, A_slices_ContainsFunc_S_api_Point_api_Point (ovr [(fid_points_Check_1, A_points_Check_1)] noC)), (fid_points_there, A_points_there)] noC
theorem e_points_Check (x0 x1 : V) : funM Try.prog (s_points_Check) fid_points_Check h_points_Check [x0, x1] = F_points_Check x0 x1 := by kernel_rfl
theorem K_points_Check : Known Try.prog fid_points_Check (A_points_Check) := known_of (σ := s_points_Check) (hint := h_points_Check) (by kernel_rfl) (simAll_ovr (K_slices_ContainsFunc_S_api_Point_api_Point (simAll_ovr K_points_Check_1 simAll_nil0)) (simAll_ovr K_points_there simAll_nil0)) fun l H r H' h => by
  unfold A_points_Check at h; split at h
  · rw [e_points_Check]; exact h
  · exact (fail_ne h).elim

/-! ### slices.Clone[[]capstan/api.Point,capstan/api.Point] -/
def slices_Clone_S_api_Point_api_Point_k0 (vs : List V) : M Out :=
  bnd (bslc 2 0 (rep 0 [Value.int .i64 0, Value.bool false]) []) fun x5 =>
  bnd (appV 2 16 x5 (at_ vs 0)) fun x7 =>
  ret (.ret [x7])
def F_slices_Clone_S_api_Point_api_Point (x0 : V) : M V :=
  bnd (
    bnd (
      bnd (lift (notIf false (isNil .s x0))) fun x4 =>
      condM x4 (
        ret (.ret [(Value.slice none 0 0)])
        ) (
        ret (.nxt [x0])
        )
      ) fun o => nx o slices_Clone_S_api_Point_api_Point_k0
    ) fun o => finM o fun vs => ret (outV [(at_ vs 0)])
def h_slices_Clone_S_api_Point_api_Point : Hint := (.seq [] .leaf (.seq [0] (.seq [] .leaf (.cond (.seq [] .leaf .leaf) .leaf)) (.seq [] .leaf .leaf)))
def A_slices_Clone_S_api_Point_api_Point (l : List V) : M V := match l with | [x0] => F_slices_Clone_S_api_Point_api_Point x0 | _ => fail
theorem e_slices_Clone_S_api_Point_api_Point (x0 : V) : funM Try.prog (ovr [] noC) fid_slices_Clone_S_api_Point_api_Point h_slices_Clone_S_api_Point_api_Point [x0] = F_slices_Clone_S_api_Point_api_Point x0 := by kernel_rfl
theorem K_slices_Clone_S_api_Point_api_Point : Known Try.prog fid_slices_Clone_S_api_Point_api_Point (A_slices_Clone_S_api_Point_api_Point) := known_of (σ := ovr [] noC) (hint := h_slices_Clone_S_api_Point_api_Point) (by kernel_rfl) simAll_nil0 fun l H r H' h => by
  unfold A_slices_Clone_S_api_Point_api_Point at h; split at h
  · rw [e_slices_Clone_S_api_Point_api_Point]; exact h
  · exact (fail_ne h).elim

/-! ### capstan/points.New -/
def points_New_k0 (vs_4 : List V) : M Out :=
  bnd (lift (bin .add (at_ vs_4 3) (Value.int .i64 1))) fun x57 =>
  ret (.nxt [(at_ vs_4 0), (at_ vs_4 1), (at_ vs_4 2), x57])
def points_New_k1 (vs_3 : List V) : M Out :=
  bnd (
  bnd (
    bnd (lift (iaddrS 3 (at_ vs_3 1) (at_ vs_3 3))) fun x35 =>
    bnd (ldn 3 x35) fun x36 =>
    bnd (newc [Value.int .i64 0, Value.int .i64 0, Value.bool false]) fun x10 =>
    bnd (stn 3 x10 x36) fun _ =>
    bnd (lift (faddr 0 x10)) fun x37 =>
    bnd (ld1 x37) fun x38 =>
    bnd (lift (faddr 1 x10)) fun x39 =>
    bnd (ld1 x39) fun x40 =>
    bnd (lift (build [Value.int .i64 0, Value.int .i64 0] [(0, 1, x38), (1, 1, x40)])) fun x41 =>
    bnd (newc [Value.int .i64 0, Value.int .i64 0]) fun x11 =>
    bnd (stn 2 x11 x41) fun _ =>
    bnd (lift (nilck (at_ vs_3 0))) fun x43 =>
    bnd (lift (faddr 1 x43)) fun x44 =>
    bnd (lift (nilck (at_ vs_3 0))) fun x48 =>
    bnd (lift (faddr 1 x48)) fun x49 =>
    bnd (ld1 x44) fun x45 =>
    bnd (ldn 2 x11) fun x46 =>
    bnd (ld1 x49) fun x50 =>
    bnd (ldn 2 x11) fun x51 =>
    bnd (lookup (.agg [.i, .i]) (Value.bool false) false x50 x51) fun x52 =>
    bnd (gd x52 false (lift (faddr 2 x10))) fun x54 =>
    bnd (gd x52 false (ld1 x54)) fun x55 =>
    bnd (lift (pickV x52 (Value.bool true) x55)) fun x56 =>
    bnd (mapSet (.agg [.i, .i]) x45 x46 x56) fun _ =>
    ret (.nxt [(at_ vs_3 0), (at_ vs_3 1), (at_ vs_3 2), (at_ vs_3 3)])
    ) fun o => ret (unblk 1 o)
  ) fun o => nx o points_New_k0
def points_New_l2 (vs_2 : List V) : M Out :=
  bnd (lift (bin .lss (at_ vs_2 3) (at_ vs_2 2))) fun x34 =>
  bnd (
  condM x34 (
    ret (.nxt [(at_ vs_2 0), (at_ vs_2 1), (at_ vs_2 2), (at_ vs_2 3)])
    ) (
    ret (.brk 0 [(at_ vs_2 0)])
    )
  ) fun o => nx o points_New_k1
def points_New_k3 (vs_5 : List V) : M Out :=
  ret (.ret [(at_ vs_5 0), (Value.int .i64 0)])
def points_New_k4 (vs : List V) : M Out :=
  withResv 4 fun base h0 =>
  bnd (lift (lenSlc (at_ vs 0))) fun x25 =>
  bndH (A_slices_Clone_S_api_Point_api_Point [(at_ vs 0)]) fun ha x22 h1 =>
  need (freeIn ha [base + 0, base + 1, base + 2, base + 3] && freeIn h1 [base + 0, base + 1, base + 2, base + 3]) <|
  bnd (flt (base + 0) (mkmap)) fun x23 =>
  bnd (flt (base + 1) (mkslc 1 8 [Value.int .i64 0] x25 x25)) fun x26 =>
  bnd (flt (base + 2) (mkmap)) fun x27 =>
  bnd (flt (base + 3) (mkmap)) fun x28 =>
  bnd (lift (build [Value.slice none 0 0, Value.map none, Value.slice none 0 0, Value.map none, Value.map none] [(0, 1, x22), (1, 1, x23), (2, 1, x26), (3, 1, x27), (4, 1, x28)])) fun x29 =>
  bndH (boxv x29) fun ha_2 x30 h2 =>
  bnd (
    bnd (lift (lenSlc (at_ vs 1))) fun x32 =>
    bnd (
      loopM FUEL points_New_l2 [x30, (at_ vs 1), x32, (Value.int .i64 0)]
      ) fun o => ret (unblk 0 o)
    ) fun o => nx o points_New_k3
def F_points_New (x0 x1 : V) : M V :=
  bnd (
    bnd (
      bnd (A_points_Check [x0, x1]) fun x15 =>
      bnd (lift (ext 0 x15)) fun x16 =>
      bnd (lift (ext 1 x15)) fun x17 =>
      bnd (lift (bin .neq x17 (Value.int .i64 0))) fun x19 =>
      condM x19 (
        ret (.ret [(Value.pointer none), x17])
        ) (
        ret (.nxt [x0, x1])
        )
      ) fun o => nx o points_New_k4
    ) fun o => finM o fun vs => ret (outV [(at_ vs 0), (at_ vs 1)])
def h_points_New : Hint := (.seq [] .leaf (.seq [0, 1] (.seq [] .leaf (.seq [] .leaf (.cond (.seq [] .leaf .leaf) .leaf))) (.seq [] (.reg [0, 3, 4, 1, 2, 5, 6, 7, 8, 9, 10] [2, 5, 6, 7]) (.seq [8] (.seq [] .leaf (.blk (.loop [8, 31, 32, 33] (.seq [] .leaf (.seq [8, 31, 32, 33] (.cond .leaf .leaf) (.seq [8, 31, 32, 33] (.blk (.seq [] .leaf (.seq [] .leaf (.reg [0, 1, 2, 5, 6, 7, 3, 4, 8, 9, 10, 11, 12, 13, 14, 15] [])))) .leaf)))))) (.seq [] .leaf .leaf)))))
def A_points_New (l : List V) : M V := match l with | [x0, x1] => F_points_New x0 x1 | _ => fail
def s_points_New : Calls' := ovr [(fid_points_Check, A_points_Check), (fid_slices_Clone_S_api_Point_api_Point, A_slices_Clone_S_api_Point_api_Point)] noC
theorem e_points_New (x0 x1 : V) : funM Try.prog (s_points_New) fid_points_New h_points_New [x0, x1] = F_points_New x0 x1 := by kernel_rfl
theorem K_points_New : Known Try.prog fid_points_New (A_points_New) := known_of (σ := s_points_New) (hint := h_points_New) (by kernel_rfl) (simAll_ovr K_points_Check (simAll_ovr K_slices_Clone_S_api_Point_api_Point simAll_nil0)) fun l H r H' h => by
  unfold A_points_New at h; split at h
  · rw [e_points_New]; exact h
  · exact (fail_ne h).elim

/-! ### (*capstan/points.Bank).of -/
def points_Bank_of_k0 (vs_3 : List V) : M Out :=
  bnd (lift (bin .add (at_ vs_3 4) (Value.int .i64 1))) fun x26 =>
  ret (.nxt [(at_ vs_3 0), (at_ vs_3 1), (at_ vs_3 2), (at_ vs_3 3), x26])
def points_Bank_of_k1 (vs_2 : List V) : M Out :=
  bnd (
  bnd (
    bnd (lift (iaddrS 2 (at_ vs_2 2) (at_ vs_2 4))) fun x16 =>
    bnd (ldn 2 x16) fun x17 =>
    bnd (newc [Value.int .i64 0, Value.bool false]) fun x7 =>
    bnd (stn 2 x7 x17) fun _ =>
    bnd (lift (faddr 1 x7)) fun x18 =>
    bnd (ld1 x18) fun x19 =>
    bnd (lift (notIf false (eqK .b x19 (at_ vs_2 0)))) fun x21 =>
    condM x21 (
      bnd (bslc 1 1 (rep 1 [Value.int .i64 0]) [(0, 1, (at_ vs_2 4))]) fun x24 =>
      bnd (appV 1 8 (at_ vs_2 1) x24) fun x25 =>
      ret (.nxt [(at_ vs_2 0), x25, (at_ vs_2 2), (at_ vs_2 3), (at_ vs_2 4)])
      ) (
      ret (.nxt [(at_ vs_2 0), (at_ vs_2 1), (at_ vs_2 2), (at_ vs_2 3), (at_ vs_2 4)])
      )
    ) fun o => ret (unblk 1 o)
  ) fun o => nx o points_Bank_of_k0
def points_Bank_of_l2 (vs : List V) : M Out :=
  bnd (lift (bin .lss (at_ vs 4) (at_ vs 3))) fun x14 =>
  bnd (
  condM x14 (
    ret (.nxt [(at_ vs 0), (at_ vs 1), (at_ vs 2), (at_ vs 3), (at_ vs 4)])
    ) (
    ret (.brk 0 [(at_ vs 1)])
    )
  ) fun o => nx o points_Bank_of_k1
def points_Bank_of_k3 (vs_4 : List V) : M Out :=
  ret (.ret [(at_ vs_4 0)])
def F_points_Bank_of (x0 x1 : V) : M V :=
  bnd (
    bnd (
      bnd (lift (nilck x0)) fun x9 =>
      bnd (lift (faddr 0 x9)) fun x10 =>
      bnd (ld1 x10) fun x11 =>
      bnd (lift (lenSlc x11)) fun x12 =>
      bnd (
        loopM FUEL points_Bank_of_l2 [x1, (Value.slice none 0 0), x11, x12, (Value.int .i64 0)]
        ) fun o => ret (unblk 0 o)
      ) fun o => nx o points_Bank_of_k3
    ) fun o => finM o fun vs => ret (outV [(at_ vs 0)])
def h_points_Bank_of : Hint := (.seq [] .leaf (.seq [] .leaf (.seq [5] (.seq [] .leaf (.blk (.loop [1, 5, 11, 12, 13] (.seq [] .leaf (.seq [1, 5, 11, 12, 13] (.cond .leaf .leaf) (.seq [1, 5, 11, 12, 13] (.blk (.seq [] .leaf (.seq [] .leaf (.cond .leaf .leaf)))) .leaf)))))) (.seq [] .leaf .leaf))))
def A_points_Bank_of (l : List V) : M V := match l with | [x0, x1] => F_points_Bank_of x0 x1 | _ => fail
theorem e_points_Bank_of (x0 x1 : V) : funM Try.prog (ovr [] noC) fid_points_Bank_of h_points_Bank_of [x0, x1] = F_points_Bank_of x0 x1 := by kernel_rfl
theorem K_points_Bank_of : Known Try.prog fid_points_Bank_of (A_points_Bank_of) := known_of (σ := ovr [] noC) (hint := h_points_Bank_of) (by kernel_rfl) simAll_nil0 fun l H r H' h => by
  unfold A_points_Bank_of at h; split at h
  · rw [e_points_Bank_of]; exact h
  · exact (fail_ne h).elim

/-! ### capstan/num.known -/
def F_num_known (x0 : V) : M V :=
  bnd (
    bnd (lift (bin .geq x0 (Value.int .i64 1))) fun x4 =>
    bnd (gd x4 true (lift (some x0))) fun x6 =>
    bnd (gd x4 true (lift (bin .leq x6 (Value.int .i64 4)))) fun x7 =>
    bnd (lift (pickV x4 x7 (Value.bool false))) fun x8 =>
    ret (.ret [x8])
    ) fun o => finM o fun vs => ret (outV [(at_ vs 0)])
def h_num_known : Hint := (.seq [] .leaf (.seq [] .leaf .leaf))
def A_num_known (l : List V) : M V := match l with | [x0] => F_num_known x0 | _ => fail
theorem e_num_known (x0 : V) : funM Try.prog (ovr [] noC) fid_num_known h_num_known [x0] = F_num_known x0 := by kernel_rfl
theorem K_num_known : Known Try.prog fid_num_known (A_num_known) := known_of (σ := ovr [] noC) (hint := h_num_known) (by kernel_rfl) simAll_nil0 fun l H r H' h => by
  unfold A_num_known at h; split at h
  · rw [e_num_known]; exact h
  · exact (fail_ne h).elim

/-! ### capstan/num.wrap -/
def num_wrap_k0 (vs : List V) : M Out :=
  bnd (lift (cvi .i32 (at_ vs 0))) fun x16 =>
  bnd (lift (cvi .i64 x16)) fun x17 =>
  ret (.ret [x17])
def F_num_wrap (x0 x1 : V) : M V :=
  bnd (
    bnd (
      bnd (
        bnd (lift (bin .eql x0 (Value.int .i64 1))) fun x7 =>
        condM x7 (
          bnd (lift (bin .and x1 (Value.int .i64 1))) fun x9 =>
          ret (.ret [x9])
          ) (
          bnd (lift (bin .eql x0 (Value.int .i64 2))) fun x11 =>
          condM x11 (
            bnd (lift (cvi .i16 x1)) fun x13 =>
            bnd (lift (cvi .i64 x13)) fun x14 =>
            ret (.ret [x14])
            ) (
            ret (.nxt [x1])
            )
          )
        ) fun o => ret (unblk 0 o)
      ) fun o => nx o num_wrap_k0
    ) fun o => finM o fun vs => ret (outV [(at_ vs 0)])
def h_num_wrap : Hint := (.seq [] .leaf (.seq [1] (.seq [] .leaf (.blk (.seq [] .leaf (.cond (.seq [] .leaf .leaf) (.seq [] .leaf (.cond (.seq [] .leaf .leaf) .leaf)))))) (.seq [] .leaf .leaf)))
def A_num_wrap (l : List V) : M V := match l with | [x0, x1] => F_num_wrap x0 x1 | _ => fail
theorem e_num_wrap (x0 x1 : V) : funM Try.prog (ovr [] noC) fid_num_wrap h_num_wrap [x0, x1] = F_num_wrap x0 x1 := by kernel_rfl
theorem K_num_wrap : Known Try.prog fid_num_wrap (A_num_wrap) := known_of (σ := ovr [] noC) (hint := h_num_wrap) (by kernel_rfl) simAll_nil0 fun l H r H' h => by
  unfold A_num_wrap at h; split at h
  · rw [e_num_wrap]; exact h
  · exact (fail_ne h).elim

/-! ### capstan/num.Fits -/
def F_num_Fits (x0 x1 : V) : M V :=
  bnd (
    bnd (A_num_known [x0]) fun x6 =>
    bnd (gd x6 true (lift (some x0))) fun x8 =>
    bnd (gd x6 true (lift (some x1))) fun x9 =>
    bnd (gd x6 true (A_num_wrap [x8, x9])) fun x10 =>
    bnd (gd x6 true (lift (some x1))) fun x11 =>
    bnd (gd x6 true (lift (bin .eql x10 x11))) fun x12 =>
    bnd (lift (pickV x6 x12 (Value.bool false))) fun x13 =>
    ret (.ret [x13])
    ) fun o => finM o fun vs => ret (outV [(at_ vs 0)])
def h_num_Fits : Hint := (.seq [] .leaf (.seq [] .leaf .leaf))
def A_num_Fits (l : List V) : M V := match l with | [x0, x1] => F_num_Fits x0 x1 | _ => fail
def s_num_Fits : Calls' := ovr [(fid_num_known, A_num_known), (fid_num_wrap, A_num_wrap)] noC
theorem e_num_Fits (x0 x1 : V) : funM Try.prog (s_num_Fits) fid_num_Fits h_num_Fits [x0, x1] = F_num_Fits x0 x1 := by kernel_rfl
theorem K_num_Fits : Known Try.prog fid_num_Fits (A_num_Fits) := known_of (σ := s_num_Fits) (hint := h_num_Fits) (by kernel_rfl) (simAll_ovr K_num_known (simAll_ovr K_num_wrap simAll_nil0)) fun l H r H' h => by
  unfold A_num_Fits at h; split at h
  · rw [e_num_Fits]; exact h
  · exact (fail_ne h).elim

/-! ### (*capstan/points.Bank).fits -/
def F_points_Bank_fits (x0 x1 x2 : V) : M V :=
  bnd (
    bnd (lift (bin .geq x1 (Value.int .i64 0))) fun x8 =>
    bnd (gd x8 true (lift (some x1))) fun x10 =>
    bnd (gd x8 true (lift (some x0))) fun x11 =>
    bnd (gd x8 true (lift (nilck x11))) fun x12 =>
    bnd (gd x8 true (lift (faddr 0 x12))) fun x13 =>
    bnd (gd x8 true (ld1 x13)) fun x14 =>
    bnd (gd x8 true (lift (lenSlc x14))) fun x15 =>
    bnd (gd x8 true (lift (bin .lss x10 x15))) fun x16 =>
    bnd (lift (pickV x8 x16 (Value.bool false))) fun x17 =>
    bnd (gd x17 true (lift (some x0))) fun x19 =>
    bnd (gd x17 true (lift (nilck x19))) fun x20 =>
    bnd (gd x17 true (lift (faddr 0 x20))) fun x21 =>
    bnd (gd x17 true (ld1 x21)) fun x22 =>
    bnd (gd x17 true (lift (some x1))) fun x23 =>
    bnd (gd x17 true (lift (iaddrS 2 x22 x23))) fun x24 =>
    bnd (gd x17 true (lift (faddr 0 x24))) fun x25 =>
    bnd (gd x17 true (ld1 x25)) fun x26 =>
    bnd (gd x17 true (lift (some x2))) fun x27 =>
    bnd (gd x17 true (A_num_Fits [x26, x27])) fun x28 =>
    bnd (lift (pickV x17 x28 (Value.bool false))) fun x29 =>
    ret (.ret [x29])
    ) fun o => finM o fun vs => ret (outV [(at_ vs 0)])
def h_points_Bank_fits : Hint := (.seq [] .leaf (.seq [] .leaf .leaf))
def A_points_Bank_fits (l : List V) : M V := match l with | [x0, x1, x2] => F_points_Bank_fits x0 x1 x2 | _ => fail
def s_points_Bank_fits : Calls' := ovr [(fid_num_Fits, A_num_Fits)] noC
theorem e_points_Bank_fits (x0 x1 x2 : V) : funM Try.prog (s_points_Bank_fits) fid_points_Bank_fits h_points_Bank_fits [x0, x1, x2] = F_points_Bank_fits x0 x1 x2 := by kernel_rfl
theorem K_points_Bank_fits : Known Try.prog fid_points_Bank_fits (A_points_Bank_fits) := known_of (σ := s_points_Bank_fits) (hint := h_points_Bank_fits) (by kernel_rfl) (simAll_ovr K_num_Fits simAll_nil0) fun l H r H' h => by
  unfold A_points_Bank_fits at h; split at h
  · rw [e_points_Bank_fits]; exact h
  · exact (fail_ne h).elim

/-! ### (*capstan/points.Bank).Latch -/
def points_Bank_Latch_k0 (vs_4 : List V) : M Out :=
  bnd (lift (bin .add (at_ vs_4 5) (Value.int .i64 1))) fun x32 =>
  ret (.nxt [(at_ vs_4 0), (at_ vs_4 1), (at_ vs_4 2), (at_ vs_4 3), (at_ vs_4 4), x32])
def points_Bank_Latch_k1 (vs_3 : List V) : M Out :=
  bnd (
  bnd (
    bnd (lift (iaddrS 1 (at_ vs_3 3) (at_ vs_3 5))) fun x22 =>
    bnd (ld1 x22) fun x23 =>
    bnd (lift (iaddrS 1 (at_ vs_3 1) (at_ vs_3 5))) fun x28 =>
    bnd (ld1 x28) fun x29 =>
    bnd (A_points_Bank_fits [(at_ vs_3 0), x23, x29]) fun x30 =>
    bnd (lift (un .not x30)) fun x31 =>
    condM x31 (
      ret (.ret [(Value.int .i64 1)])
      ) (
      ret (.nxt [(at_ vs_3 0), (at_ vs_3 1), (at_ vs_3 2), (at_ vs_3 3), (at_ vs_3 4), (at_ vs_3 5)])
      )
    ) fun o => ret (unblk 1 o)
  ) fun o => nx o points_Bank_Latch_k0
def points_Bank_Latch_l2 (vs_2 : List V) : M Out :=
  bnd (lift (bin .lss (at_ vs_2 5) (at_ vs_2 4))) fun x20 =>
  bnd (
  condM x20 (
    ret (.nxt [(at_ vs_2 0), (at_ vs_2 1), (at_ vs_2 2), (at_ vs_2 3), (at_ vs_2 4), (at_ vs_2 5)])
    ) (
    ret (.brk 0 [(at_ vs_2 0), (at_ vs_2 1), (at_ vs_2 2)])
    )
  ) fun o => nx o points_Bank_Latch_k1
def points_Bank_Latch_k3 (vs_8 : List V) : M Out :=
  bnd (lift (bin .add (at_ vs_8 4) (Value.int .i64 1))) fun x50 =>
  ret (.nxt [(at_ vs_8 0), (at_ vs_8 1), (at_ vs_8 2), (at_ vs_8 3), x50])
def points_Bank_Latch_k4 (vs_7 : List V) : M Out :=
  bnd (
  bnd (
    bnd (lift (iaddrS 1 (at_ vs_7 2) (at_ vs_7 4))) fun x38 =>
    bnd (ld1 x38) fun x39 =>
    bnd (lift (nilck (at_ vs_7 0))) fun x41 =>
    bnd (lift (faddr 2 x41)) fun x42 =>
    bnd (lift (iaddrS 1 (at_ vs_7 1) (at_ vs_7 4))) fun x47 =>
    bnd (ld1 x42) fun x43 =>
    bnd (ld1 x47) fun x48 =>
    bnd (lift (iaddrS 1 x43 x39)) fun x49 =>
    bnd (st1 x49 x48) fun _ =>
    ret (.nxt [(at_ vs_7 0), (at_ vs_7 1), (at_ vs_7 2), (at_ vs_7 3), (at_ vs_7 4)])
    ) fun o => ret (unblk 3 o)
  ) fun o => nx o points_Bank_Latch_k3
def points_Bank_Latch_l5 (vs_6 : List V) : M Out :=
  bnd (lift (bin .lss (at_ vs_6 4) (at_ vs_6 3))) fun x36 =>
  bnd (
  condM x36 (
    ret (.nxt [(at_ vs_6 0), (at_ vs_6 1), (at_ vs_6 2), (at_ vs_6 3), (at_ vs_6 4)])
    ) (
    ret (.brk 2 [])
    )
  ) fun o => nx o points_Bank_Latch_k4
def points_Bank_Latch_k6 (vs_9 : List V) : M Out :=
  ret (.ret [(Value.int .i64 0)])
def points_Bank_Latch_k7 (vs_5 : List V) : M Out :=
  bnd (
    bnd (lift (lenSlc (at_ vs_5 2))) fun x34 =>
    bnd (
      loopM FUEL points_Bank_Latch_l5 [(at_ vs_5 0), (at_ vs_5 1), (at_ vs_5 2), x34, (Value.int .i64 0)]
      ) fun o => ret (unblk 2 o)
    ) fun o => nx o points_Bank_Latch_k6
def points_Bank_Latch_k8 (vs : List V) : M Out :=
  bnd (
    bnd (lift (lenSlc (at_ vs 2))) fun x18 =>
    bnd (
      loopM FUEL points_Bank_Latch_l2 [(at_ vs 0), (at_ vs 1), (at_ vs 2), (at_ vs 2), x18, (Value.int .i64 0)]
      ) fun o => ret (unblk 0 o)
    ) fun o => nx o points_Bank_Latch_k7
def F_points_Bank_Latch (x0 x1 : V) : M V :=
  bnd (
    bnd (A_points_Bank_of [x0, (Value.bool false)]) fun x11 =>
    bnd (
      bnd (lift (lenSlc x11)) fun x13 =>
      bnd (lift (lenSlc x1)) fun x15 =>
      bnd (lift (bin .neq x13 x15)) fun x16 =>
      condM x16 (
        ret (.ret [(Value.int .i64 4)])
        ) (
        ret (.nxt [x0, x1, x11])
        )
      ) fun o => nx o points_Bank_Latch_k8
    ) fun o => finM o fun vs => ret (outV [(at_ vs 0)])
def h_points_Bank_Latch : Hint := (.seq [] .leaf (.seq [] .leaf (.seq [0, 1, 5] (.seq [] .leaf (.cond (.seq [] .leaf .leaf) .leaf)) (.seq [0, 1, 5] (.seq [] .leaf (.blk (.loop [0, 1, 5, 17, 18, 19] (.seq [] .leaf (.seq [0, 1, 5, 17, 18, 19] (.cond .leaf .leaf) (.seq [0, 1, 5, 17, 18, 19] (.blk (.seq [] .leaf (.seq [] .leaf (.cond (.seq [] .leaf .leaf) .leaf)))) .leaf)))))) (.seq [] (.seq [] .leaf (.blk (.loop [0, 1, 33, 34, 35] (.seq [] .leaf (.seq [0, 1, 33, 34, 35] (.cond .leaf .leaf) (.seq [0, 1, 33, 34, 35] (.blk (.seq [] .leaf (.reg [0, 1, 2, 4, 5, 6, 7, 3, 8, 9, 10] []))) .leaf)))))) (.seq [] .leaf .leaf))))))
def A_points_Bank_Latch (l : List V) : M V := match l with | [x0, x1] => F_points_Bank_Latch x0 x1 | _ => fail
def s_points_Bank_Latch : Calls' := ovr [(fid_points_Bank_of, A_points_Bank_of), (fid_points_Bank_fits, A_points_Bank_fits)] noC
theorem e_points_Bank_Latch (x0 x1 : V) : funM Try.prog (s_points_Bank_Latch) fid_points_Bank_Latch h_points_Bank_Latch [x0, x1] = F_points_Bank_Latch x0 x1 := by kernel_rfl
theorem K_points_Bank_Latch : Known Try.prog fid_points_Bank_Latch (A_points_Bank_Latch) := known_of (σ := s_points_Bank_Latch) (hint := h_points_Bank_Latch) (by kernel_rfl) (simAll_ovr K_points_Bank_of (simAll_ovr K_points_Bank_fits simAll_nil0)) fun l H r H' h => by
  unfold A_points_Bank_Latch at h; split at h
  · rw [e_points_Bank_Latch]; exact h
  · exact (fail_ne h).elim

/-! ### (*capstan/points.Bank).grant -/
def points_Bank_grant_k0 (vs : List V) : M Out :=
  ret (.ret [(at_ vs 0), (Value.int .i64 0)])
def F_points_Bank_grant (x0 x1 x2 : V) : M V :=
  bnd (
    bnd (lift (nilck x0)) fun x11 =>
    bnd (lift (faddr 1 x11)) fun x12 =>
    bnd (ld1 x12) fun x13 =>
    bnd (lift (build [Value.int .i64 0, Value.int .i64 0] [(0, 1, x1), (1, 1, x2)])) fun x16 =>
    bnd (lookup (.agg [.i, .i]) (Value.bool false) true x13 x16) fun x17 =>
    bnd (lift (ext 0 x17)) fun x18 =>
    bnd (lift (ext 1 x17)) fun x19 =>
    bnd (
      bnd (
        bnd (A_points_there [x1]) fun x22 =>
        bnd (lift (un .not x22)) fun x23 =>
        bnd (gd x23 false (lift (some x2))) fun x25 =>
        bnd (gd x23 false (lift (bin .lss x25 (Value.int .i64 0)))) fun x26 =>
        bnd (lift (pickV x23 (Value.bool true) x26)) fun x27 =>
        bnd (gd x27 false (lift (some x2))) fun x29 =>
        bnd (gd x27 false (lift (some x0))) fun x30 =>
        bnd (gd x27 false (lift (nilck x30))) fun x31 =>
        bnd (gd x27 false (lift (faddr 0 x31))) fun x32 =>
        bnd (gd x27 false (ld1 x32)) fun x33 =>
        bnd (gd x27 false (lift (lenSlc x33))) fun x34 =>
        bnd (gd x27 false (lift (bin .geq x29 x34))) fun x35 =>
        bnd (lift (pickV x27 (Value.bool true) x35)) fun x36 =>
        condM x36 (
          ret (.ret [(Value.bool false), (Value.int .i64 1)])
          ) (
          bnd (lift (un .not x19)) fun x39 =>
          condM x39 (
            ret (.ret [(Value.bool false), (Value.int .i64 190)])
            ) (
            ret (.nxt [x18])
            )
          )
        ) fun o => ret (unblk 0 o)
      ) fun o => nx o points_Bank_grant_k0
    ) fun o => finM o fun vs => ret (outV [(at_ vs 0), (at_ vs 1)])
def h_points_Bank_grant : Hint := (.seq [] .leaf (.seq [] .leaf (.seq [6] (.blk (.seq [] .leaf (.cond (.seq [] .leaf .leaf) (.seq [] .leaf (.cond (.seq [] .leaf .leaf) .leaf))))) (.seq [] .leaf .leaf))))
def A_points_Bank_grant (l : List V) : M V := match l with | [x0, x1, x2] => F_points_Bank_grant x0 x1 x2 | _ => fail
def s_points_Bank_grant : Calls' := ovr [(fid_points_there, A_points_there)] noC
theorem e_points_Bank_grant (x0 x1 x2 : V) : funM Try.prog (s_points_Bank_grant) fid_points_Bank_grant h_points_Bank_grant [x0, x1, x2] = F_points_Bank_grant x0 x1 x2 := by kernel_rfl
theorem K_points_Bank_grant : Known Try.prog fid_points_Bank_grant (A_points_Bank_grant) := known_of (σ := s_points_Bank_grant) (hint := h_points_Bank_grant) (by kernel_rfl) (simAll_ovr K_points_there simAll_nil0) fun l H r H' h => by
  unfold A_points_Bank_grant at h; split at h
  · rw [e_points_Bank_grant]; exact h
  · exact (fail_ne h).elim

/-! ### (*capstan/points.Bank).value -/
def points_Bank_value_k0 (vs : List V) : M Out :=
  bnd (lift (nilck (at_ vs 0))) fun x19 =>
  bnd (lift (faddr 2 x19)) fun x20 =>
  bnd (ld1 x20) fun x21 =>
  bnd (lift (iaddrS 1 x21 (at_ vs 1))) fun x23 =>
  bnd (ld1 x23) fun x24 =>
  ret (.ret [x24])
def F_points_Bank_value (x0 x1 : V) : M V :=
  bnd (
    bnd (
      bnd (lift (nilck x0)) fun x9 =>
      bnd (lift (faddr 3 x9)) fun x10 =>
      bnd (ld1 x10) fun x11 =>
      bnd (lookup (.one .i) (Value.int .i64 0) true x11 x1) fun x13 =>
      bnd (lift (ext 0 x13)) fun x14 =>
      bnd (lift (ext 1 x13)) fun x15 =>
      condM x15 (
        ret (.ret [x14])
        ) (
        ret (.nxt [x0, x1])
        )
      ) fun o => nx o points_Bank_value_k0
    ) fun o => finM o fun vs => ret (outV [(at_ vs 0)])
def h_points_Bank_value : Hint := (.seq [] .leaf (.seq [0, 1] (.seq [] .leaf (.seq [] .leaf (.cond (.seq [] .leaf .leaf) .leaf))) (.seq [] .leaf .leaf)))
def A_points_Bank_value (l : List V) : M V := match l with | [x0, x1] => F_points_Bank_value x0 x1 | _ => fail
theorem e_points_Bank_value (x0 x1 : V) : funM Try.prog (ovr [] noC) fid_points_Bank_value h_points_Bank_value [x0, x1] = F_points_Bank_value x0 x1 := by kernel_rfl
theorem K_points_Bank_value : Known Try.prog fid_points_Bank_value (A_points_Bank_value) := known_of (σ := ovr [] noC) (hint := h_points_Bank_value) (by kernel_rfl) simAll_nil0 fun l H r H' h => by
  unfold A_points_Bank_value at h; split at h
  · rw [e_points_Bank_value]; exact h
  · exact (fail_ne h).elim

/-! ### (*capstan/points.Bank).Read -/
def points_Bank_Read_k0 (vs : List V) : M Out :=
  bnd (A_points_Bank_value [(at_ vs 0), (at_ vs 1)]) fun x22 =>
  ret (.ret [x22, (Value.int .i64 0)])
def F_points_Bank_Read (x0 x1 x2 : V) : M V :=
  bnd (
    bnd (
      bnd (A_points_Bank_grant [x0, x1, x2]) fun x14 =>
      bnd (lift (ext 0 x14)) fun x15 =>
      bnd (lift (ext 1 x14)) fun x16 =>
      bnd (lift (bin .neq x16 (Value.int .i64 0))) fun x18 =>
      condM x18 (
        ret (.ret [(Value.int .i64 0), x16])
        ) (
        ret (.nxt [x0, x2])
        )
      ) fun o => nx o points_Bank_Read_k0
    ) fun o => finM o fun vs => ret (outV [(at_ vs 0), (at_ vs 1)])
def h_points_Bank_Read : Hint := (.seq [] .leaf (.seq [0, 2] (.seq [] .leaf (.seq [] .leaf (.cond (.seq [] .leaf .leaf) .leaf))) (.seq [] .leaf .leaf)))
def A_points_Bank_Read (l : List V) : M V := match l with | [x0, x1, x2] => F_points_Bank_Read x0 x1 x2 | _ => fail
def s_points_Bank_Read : Calls' := ovr [(fid_points_Bank_grant, A_points_Bank_grant), (fid_points_Bank_value, A_points_Bank_value)] noC
theorem e_points_Bank_Read (x0 x1 x2 : V) : funM Try.prog (s_points_Bank_Read) fid_points_Bank_Read h_points_Bank_Read [x0, x1, x2] = F_points_Bank_Read x0 x1 x2 := by kernel_rfl
theorem K_points_Bank_Read : Known Try.prog fid_points_Bank_Read (A_points_Bank_Read) := known_of (σ := s_points_Bank_Read) (hint := h_points_Bank_Read) (by kernel_rfl) (simAll_ovr K_points_Bank_grant (simAll_ovr K_points_Bank_value simAll_nil0)) fun l H r H' h => by
  unfold A_points_Bank_Read at h; split at h
  · rw [e_points_Bank_Read]; exact h
  · exact (fail_ne h).elim

/-! ### (*capstan/points.Bank).Write -/
def points_Bank_Write_k0 (vs : List V) : M Out :=
  bnd (lift (nilck (at_ vs 0))) fun x32 =>
  bnd (lift (faddr 4 x32)) fun x33 =>
  bnd (ld1 x33) fun x34 =>
  bnd (lift (build [Value.int .i64 0, Value.int .i64 0] [(0, 1, (at_ vs 1)), (1, 1, (at_ vs 2))])) fun x37 =>
  bnd (mapSet (.agg [.i, .i]) x34 x37 (at_ vs 3)) fun _ =>
  ret (.ret [(Value.int .i64 0)])
def F_points_Bank_Write (x0 x1 x2 x3 : V) : M V :=
  bnd (
    bnd (A_points_Bank_grant [x0, x1, x2]) fun x15 =>
    bnd (lift (ext 0 x15)) fun x16 =>
    bnd (lift (ext 1 x15)) fun x17 =>
    bnd (
      bnd (
        bnd (lift (bin .neq x17 (Value.int .i64 0))) fun x20 =>
        condM x20 (
          ret (.ret [x17])
          ) (
          bnd (lift (un .not x16)) fun x24 =>
          condM x24 (
            ret (.ret [(Value.int .i64 190)])
            ) (
            bnd (A_points_Bank_fits [x0, x2, x3]) fun x29 =>
            bnd (lift (un .not x29)) fun x30 =>
            condM x30 (
              ret (.ret [(Value.int .i64 1)])
              ) (
              ret (.nxt [x0, x1, x2, x3])
              )
            )
          )
        ) fun o => ret (unblk 0 o)
      ) fun o => nx o points_Bank_Write_k0
    ) fun o => finM o fun vs => ret (outV [(at_ vs 0)])
def h_points_Bank_Write : Hint := (.seq [] .leaf (.seq [] .leaf (.seq [0, 1, 2, 3] (.blk (.seq [] .leaf (.cond (.seq [] .leaf .leaf) (.seq [] .leaf (.cond (.seq [] .leaf .leaf) (.seq [] .leaf (.cond (.seq [] .leaf .leaf) .leaf))))))) (.seq [] .leaf (.seq [] .leaf .leaf)))))
def A_points_Bank_Write (l : List V) : M V := match l with | [x0, x1, x2, x3] => F_points_Bank_Write x0 x1 x2 x3 | _ => fail
def s_points_Bank_Write : Calls' := ovr [(fid_points_Bank_grant, A_points_Bank_grant), (fid_points_Bank_fits, A_points_Bank_fits)] noC
theorem e_points_Bank_Write (x0 x1 x2 x3 : V) : funM Try.prog (s_points_Bank_Write) fid_points_Bank_Write h_points_Bank_Write [x0, x1, x2, x3] = F_points_Bank_Write x0 x1 x2 x3 := by kernel_rfl
theorem K_points_Bank_Write : Known Try.prog fid_points_Bank_Write (A_points_Bank_Write) := known_of (σ := s_points_Bank_Write) (hint := h_points_Bank_Write) (by kernel_rfl) (simAll_ovr K_points_Bank_grant (simAll_ovr K_points_Bank_fits simAll_nil0)) fun l H r H' h => by
  unfold A_points_Bank_Write at h; split at h
  · rw [e_points_Bank_Write]; exact h
  · exact (fail_ne h).elim

/-! ### (*capstan/points.Bank).Outputs -/
def points_Bank_Outputs_k0 (vs_3 : List V) : M Out :=
  bnd (lift (bin .add (at_ vs_3 4) (Value.int .i64 1))) fun x19 =>
  ret (.nxt [(at_ vs_3 0), (at_ vs_3 1), (at_ vs_3 2), (at_ vs_3 3), x19])
def points_Bank_Outputs_k1 (vs_2 : List V) : M Out :=
  bnd (
  bnd (
    bnd (lift (iaddrS 1 (at_ vs_2 2) (at_ vs_2 4))) fun x11 =>
    bnd (ld1 x11) fun x12 =>
    bnd (A_points_Bank_value [(at_ vs_2 0), x12]) fun x16 =>
    bnd (bslc 1 1 (rep 1 [Value.int .i64 0]) [(0, 1, x16)]) fun x17 =>
    bnd (appV 1 8 (at_ vs_2 1) x17) fun x18 =>
    ret (.nxt [(at_ vs_2 0), x18, (at_ vs_2 2), (at_ vs_2 3), (at_ vs_2 4)])
    ) fun o => ret (unblk 1 o)
  ) fun o => nx o points_Bank_Outputs_k0
def points_Bank_Outputs_l2 (vs : List V) : M Out :=
  bnd (lift (bin .lss (at_ vs 4) (at_ vs 3))) fun x10 =>
  bnd (
  condM x10 (
    ret (.nxt [(at_ vs 0), (at_ vs 1), (at_ vs 2), (at_ vs 3), (at_ vs 4)])
    ) (
    ret (.brk 0 [(at_ vs 1)])
    )
  ) fun o => nx o points_Bank_Outputs_k1
def points_Bank_Outputs_k3 (vs_4 : List V) : M Out :=
  ret (.ret [(at_ vs_4 0)])
def F_points_Bank_Outputs (x0 : V) : M V :=
  bnd (
    bnd (
      bnd (A_points_Bank_of [x0, (Value.bool true)]) fun x7 =>
      bnd (lift (lenSlc x7)) fun x8 =>
      bnd (
        loopM FUEL points_Bank_Outputs_l2 [x0, (Value.slice none 0 0), x7, x8, (Value.int .i64 0)]
        ) fun o => ret (unblk 0 o)
      ) fun o => nx o points_Bank_Outputs_k3
    ) fun o => finM o fun vs => ret (outV [(at_ vs 0)])
def h_points_Bank_Outputs : Hint := (.seq [] .leaf (.seq [] .leaf (.seq [3] (.seq [] .leaf (.blk (.loop [0, 3, 7, 8, 9] (.seq [] .leaf (.seq [0, 3, 7, 8, 9] (.cond .leaf .leaf) (.seq [0, 3, 7, 8, 9] (.blk (.seq [] .leaf .leaf)) .leaf)))))) (.seq [] .leaf .leaf))))
def A_points_Bank_Outputs (l : List V) : M V := match l with | [x0] => F_points_Bank_Outputs x0 | _ => fail
def s_points_Bank_Outputs : Calls' := ovr [(fid_points_Bank_of, A_points_Bank_of), (fid_points_Bank_value, A_points_Bank_value)] noC
theorem e_points_Bank_Outputs (x0 : V) : funM Try.prog (s_points_Bank_Outputs) fid_points_Bank_Outputs h_points_Bank_Outputs [x0] = F_points_Bank_Outputs x0 := by kernel_rfl
theorem K_points_Bank_Outputs : Known Try.prog fid_points_Bank_Outputs (A_points_Bank_Outputs) := known_of (σ := s_points_Bank_Outputs) (hint := h_points_Bank_Outputs) (by kernel_rfl) (simAll_ovr K_points_Bank_of (simAll_ovr K_points_Bank_value simAll_nil0)) fun l H r H' h => by
  unfold A_points_Bank_Outputs at h; split at h
  · rw [e_points_Bank_Outputs]; exact h
  · exact (fail_ne h).elim

/-! ### capstan/capstanbook.SameNums -/
def book_SameNums_k0 (vs_4 : List V) : M Out :=
  bnd (lift (bin .add (at_ vs_4 2) (Value.int .i64 1))) fun x16 =>
  ret (.nxt [(at_ vs_4 0), (at_ vs_4 1), x16])
def book_SameNums_k1 (vs_3 : List V) : M Out :=
  bnd (
  bnd (
    bnd (lift (iaddrS 1 (at_ vs_3 0) (at_ vs_3 2))) fun x19 =>
    bnd (lift (iaddrS 1 (at_ vs_3 1) (at_ vs_3 2))) fun x23 =>
    bnd (ld1 x19) fun x20 =>
    bnd (ld1 x23) fun x24 =>
    bnd (lift (bin .neq x20 x24)) fun x25 =>
    condM x25 (
      ret (.ret [(Value.bool false)])
      ) (
      ret (.nxt [(at_ vs_3 0), (at_ vs_3 1), (at_ vs_3 2)])
      )
    ) fun o => ret (unblk 1 o)
  ) fun o => nx o book_SameNums_k0
def book_SameNums_l2 (vs_2 : List V) : M Out :=
  bnd (
  bnd (lift (lenSlc (at_ vs_2 0))) fun x13 =>
  bnd (lift (bin .lss (at_ vs_2 2) x13)) fun x14 =>
  condM x14 (
    ret (.nxt [(at_ vs_2 0), (at_ vs_2 1), (at_ vs_2 2)])
    ) (
    ret (.brk 0 [])
    )
  ) fun o => nx o book_SameNums_k1
def book_SameNums_k3 (vs_5 : List V) : M Out :=
  ret (.ret [(Value.bool true)])
def book_SameNums_k4 (vs : List V) : M Out :=
  bnd (
    bnd (
      loopM FUEL book_SameNums_l2 [(at_ vs 0), (at_ vs 1), (Value.int .i64 0)]
      ) fun o => ret (unblk 0 o)
    ) fun o => nx o book_SameNums_k3
def F_book_SameNums (x0 x1 : V) : M V :=
  bnd (
    bnd (
      bnd (lift (lenSlc x0)) fun x7 =>
      bnd (lift (lenSlc x1)) fun x9 =>
      bnd (lift (bin .neq x7 x9)) fun x10 =>
      condM x10 (
        ret (.ret [(Value.bool false)])
        ) (
        ret (.nxt [x0, x1])
        )
      ) fun o => nx o book_SameNums_k4
    ) fun o => finM o fun vs => ret (outV [(at_ vs 0)])
def h_book_SameNums : Hint := (.seq [] .leaf (.seq [0, 1] (.seq [] .leaf (.cond (.seq [] .leaf .leaf) .leaf)) (.seq [] (.seq [] .leaf (.blk (.loop [0, 1, 5] (.seq [0, 1, 5] (.seq [] .leaf (.cond .leaf .leaf)) (.seq [0, 1, 5] (.blk (.seq [] (.reg [0, 1, 2, 4, 5, 6, 3, 7, 8] []) (.cond (.seq [] .leaf .leaf) .leaf))) .leaf))))) (.seq [] .leaf .leaf))))
def A_book_SameNums (l : List V) : M V := match l with | [x0, x1] => F_book_SameNums x0 x1 | _ => fail
theorem e_book_SameNums (x0 x1 : V) : funM Try.prog (ovr [] noC) fid_book_SameNums h_book_SameNums [x0, x1] = F_book_SameNums x0 x1 := by kernel_rfl
theorem K_book_SameNums : Known Try.prog fid_book_SameNums (A_book_SameNums) := known_of (σ := ovr [] noC) (hint := h_book_SameNums) (by kernel_rfl) simAll_nil0 fun l H r H' h => by
  unfold A_book_SameNums at h; split at h
  · rw [e_book_SameNums]; exact h
  · exact (fail_ne h).elim

/-! ### (*capstan/points.Bank).end$1 -/
def points_Bank_end_1_k0 (vs : List V) : M Out :=
  bnd (lift (faddr 0 (at_ vs 1))) fun x23 =>
  bnd (ld1 x23) fun x24 =>
  bnd (ld1 (at_ vs 0)) fun x25 =>
  bnd (lift (bin .eql x24 x25)) fun x26 =>
  ret (.ret [x26])
def F_points_Bank_end_1 (x0 x1 x2 x3 x4 : V) : M V :=
  bnd (
    bnd (boxv x0) fun x5 =>
    bnd (
      bnd (lift (faddr 0 x5)) fun x8 =>
      bnd (ld1 x8) fun x9 =>
      bnd (ld1 x2) fun x10 =>
      bnd (lift (bin .eql x9 x10)) fun x11 =>
      bnd (gd x11 true (ld1 x3)) fun x13 =>
      bnd (lift (pickV x11 x13 (Value.bool false))) fun x14 =>
      condM x14 (
        bnd (lift (faddr 1 x5)) fun x19 =>
        bnd (ld1 x4) fun x15 =>
        bnd (lift (nilck x15)) fun x16 =>
        bnd (lift (faddr 2 x16)) fun x17 =>
        bnd (ld1 x17) fun x18 =>
        bnd (ld1 x19) fun x20 =>
        bnd (lift (iaddrS 1 x18 x20)) fun x22 =>
        bnd (st1 x22 x1) fun _ =>
        ret (.nxt [x2, x5])
        ) (
        ret (.nxt [x2, x5])
        )
      ) fun o => nx o points_Bank_end_1_k0
    ) fun o => finM o fun vs => ret (outV [(at_ vs 0)])
def h_points_Bank_end_1 : Hint := (.seq [] .leaf (.seq [2, 5] (.seq [] .leaf (.cond (.reg [4, 6, 0, 1, 2, 3, 5, 7, 8] []) .leaf)) (.seq [] .leaf .leaf)))
def A_points_Bank_end_1 (l : List V) : M V := match l with | [x0, x1, x2, x3, x4] => F_points_Bank_end_1 x0 x1 x2 x3 x4 | _ => fail
theorem e_points_Bank_end_1 (x0 x1 x2 x3 x4 : V) : funM Try.prog (ovr [] noC) fid_points_Bank_end_1 h_points_Bank_end_1 [x0, x1, x2, x3, x4] = F_points_Bank_end_1 x0 x1 x2 x3 x4 := by kernel_rfl
theorem K_points_Bank_end_1 : Known Try.prog fid_points_Bank_end_1 (A_points_Bank_end_1) := known_of (σ := ovr [] noC) (hint := h_points_Bank_end_1) (by kernel_rfl) simAll_nil0 fun l H r H' h => by
  unfold A_points_Bank_end_1 at h; split at h
  · rw [e_points_Bank_end_1]; exact h
  · exact (fail_ne h).elim

/-! ### (*capstan/points.Bank).end -/
def points_Bank_end_k0 (G_maps_DeleteFunc_map_points_pair_int64_points_pair_int64 : List V → M V) (vs : List V) : M Out :=
  bnd (ld1 (at_ vs 0)) fun x10 =>
  bnd (lift (nilck x10)) fun x11 =>
  bnd (lift (faddr 4 x11)) fun x12 =>
  bnd (ld1 x12) fun x13 =>
  bnd (lift (some (Value.func (.func fid_points_Bank_end_1) #[] #[(at_ vs 1), (at_ vs 2), (at_ vs 0)]))) fun x14 =>
  bnd (G_maps_DeleteFunc_map_points_pair_int64_points_pair_int64 [x13, x14]) fun x15 =>
  ret (.ret [(Value.int .i64 0)])
def F_points_Bank_end (G_maps_DeleteFunc_map_points_pair_int64_points_pair_int64 : List V → M V) (x0 x1 x2 : V) : M V :=
  bnd (
    bnd (boxv x0) fun x3 =>
    bnd (boxv x1) fun x4 =>
    bnd (boxv x2) fun x5 =>
    bnd (
      bnd (ld1 x4) fun x7 =>
      bnd (A_points_there [x7]) fun x8 =>
      bnd (lift (un .not x8)) fun x9 =>
      condM x9 (
        ret (.ret [(Value.int .i64 1)])
        ) (
        ret (.nxt [x3, x4, x5])
        )
      ) fun o => nx o (points_Bank_end_k0 G_maps_DeleteFunc_map_points_pair_int64_points_pair_int64)
    ) fun o => finM o fun vs => ret (outV [(at_ vs 0)])
def h_points_Bank_end : Hint := (.seq [] .leaf (.seq [3, 4, 5] (.seq [] .leaf (.cond (.seq [] .leaf .leaf) .leaf)) (.seq [] .leaf (.seq [] .leaf .leaf))))
def A_points_Bank_end (G_maps_DeleteFunc_map_points_pair_int64_points_pair_int64 : List V → M V) (l : List V) : M V := match l with | [x0, x1, x2] => F_points_Bank_end G_maps_DeleteFunc_map_points_pair_int64_points_pair_int64 x0 x1 x2 | _ => fail
theorem e_points_Bank_end (G_maps_DeleteFunc_map_points_pair_int64_points_pair_int64 : List V → M V) (x0 x1 x2 : V) : funM Try.prog (ovr [(fid_points_there, A_points_there), (fid_maps_DeleteFunc_map_points_pair_int64_points_pair_int64, G_maps_DeleteFunc_map_points_pair_int64_points_pair_int64)] noC) fid_points_Bank_end h_points_Bank_end [x0, x1, x2] = F_points_Bank_end G_maps_DeleteFunc_map_points_pair_int64_points_pair_int64 x0 x1 x2 := by kernel_rfl
theorem K_points_Bank_end {G_maps_DeleteFunc_map_points_pair_int64_points_pair_int64 : List V → M V} (k_maps_DeleteFunc_map_points_pair_int64_points_pair_int64 : Known Try.prog fid_maps_DeleteFunc_map_points_pair_int64_points_pair_int64 G_maps_DeleteFunc_map_points_pair_int64_points_pair_int64) : Known Try.prog fid_points_Bank_end (A_points_Bank_end G_maps_DeleteFunc_map_points_pair_int64_points_pair_int64) := known_of (σ := ovr [(fid_points_there, A_points_there), (fid_maps_DeleteFunc_map_points_pair_int64_points_pair_int64, G_maps_DeleteFunc_map_points_pair_int64_points_pair_int64)] noC) (hint := h_points_Bank_end) (by kernel_rfl) (simAll_ovr K_points_there (simAll_ovr k_maps_DeleteFunc_map_points_pair_int64_points_pair_int64 simAll_nil0)) fun l H r H' h => by
  unfold A_points_Bank_end at h; split at h
  · rw [e_points_Bank_end]; exact h
  · exact (fail_ne h).elim

/-! ### (*capstan/points.Bank).Commit -/
def F_points_Bank_Commit (G_maps_DeleteFunc_map_points_pair_int64_points_pair_int64 : List V → M V) (x0 x1 : V) : M V :=
  bnd (
    bnd ((A_points_Bank_end G_maps_DeleteFunc_map_points_pair_int64_points_pair_int64) [x0, x1, (Value.bool true)]) fun x7 =>
    ret (.ret [x7])
    ) fun o => finM o fun vs => ret (outV [(at_ vs 0)])
def h_points_Bank_Commit : Hint := (.seq [] .leaf (.seq [] .leaf .leaf))
def A_points_Bank_Commit (G_maps_DeleteFunc_map_points_pair_int64_points_pair_int64 : List V → M V) (l : List V) : M V := match l with | [x0, x1] => F_points_Bank_Commit G_maps_DeleteFunc_map_points_pair_int64_points_pair_int64 x0 x1 | _ => fail
theorem e_points_Bank_Commit (G_maps_DeleteFunc_map_points_pair_int64_points_pair_int64 : List V → M V) (x0 x1 : V) : funM Try.prog (ovr [(fid_points_Bank_end, A_points_Bank_end G_maps_DeleteFunc_map_points_pair_int64_points_pair_int64)] noC) fid_points_Bank_Commit h_points_Bank_Commit [x0, x1] = F_points_Bank_Commit G_maps_DeleteFunc_map_points_pair_int64_points_pair_int64 x0 x1 := by kernel_rfl
theorem K_points_Bank_Commit {G_maps_DeleteFunc_map_points_pair_int64_points_pair_int64 : List V → M V} (k_maps_DeleteFunc_map_points_pair_int64_points_pair_int64 : Known Try.prog fid_maps_DeleteFunc_map_points_pair_int64_points_pair_int64 G_maps_DeleteFunc_map_points_pair_int64_points_pair_int64) : Known Try.prog fid_points_Bank_Commit (A_points_Bank_Commit G_maps_DeleteFunc_map_points_pair_int64_points_pair_int64) := known_of (σ := ovr [(fid_points_Bank_end, A_points_Bank_end G_maps_DeleteFunc_map_points_pair_int64_points_pair_int64)] noC) (hint := h_points_Bank_Commit) (by kernel_rfl) (simAll_ovr (K_points_Bank_end k_maps_DeleteFunc_map_points_pair_int64_points_pair_int64) simAll_nil0) fun l H r H' h => by
  unfold A_points_Bank_Commit at h; split at h
  · rw [e_points_Bank_Commit]; exact h
  · exact (fail_ne h).elim

/-! ### capstan/capstanlaw19.works -/
def law19_works_k0 (G_maps_DeleteFunc_map_points_pair_int64_points_pair_int64 : List V → M V) (vs_2 : List V) : M Out :=
  bnd (A_points_Bank_Outputs [(at_ vs_2 0)]) fun x55 =>
  bnd (bslc 1 1 (rep 1 [Value.int .i64 0]) [(0, 1, (Value.int .i64 1))]) fun x56 =>
  bnd (A_book_SameNums [x55, x56]) fun x57 =>
  bnd (gd x57 true (lift (some (at_ vs_2 0)))) fun x59 =>
  bnd (gd x57 true (A_points_Bank_Write [x59, (Value.int .i64 1), (Value.int .i64 1), (Value.int .i64 0)])) fun x60 =>
  bnd (gd x57 true (lift (bin .eql x60 (Value.int .i64 190)))) fun x61 =>
  bnd (lift (pickV x57 x61 (Value.bool false))) fun x62 =>
  ret (.ret [x62])
def law19_works_k1 (G_maps_DeleteFunc_map_points_pair_int64_points_pair_int64 : List V → M V) (vs : List V) : M Out :=
  bnd (A_points_Bank_Read [(at_ vs 0), (Value.int .i64 0), (Value.int .i64 0)]) fun x28 =>
  bnd (lift (ext 0 x28)) fun x29 =>
  bnd (lift (ext 1 x28)) fun x30 =>
  bnd (
    bnd (lift (bin .neq x29 (Value.int .i64 5))) fun x32 =>
    bnd (gd x32 false (lift (some x30))) fun x34 =>
    bnd (gd x32 false (lift (bin .neq x34 (Value.int .i64 0)))) fun x35 =>
    bnd (lift (pickV x32 (Value.bool true) x35)) fun x36 =>
    bnd (gd x36 false (lift (some (at_ vs 0)))) fun x38 =>
    bnd (gd x36 false (A_points_Bank_Write [x38, (Value.int .i64 0), (Value.int .i64 1), (Value.int .i64 1)])) fun x39 =>
    bnd (gd x36 false (lift (bin .neq x39 (Value.int .i64 0)))) fun x40 =>
    bnd (lift (pickV x36 (Value.bool true) x40)) fun x41 =>
    bnd (gd x41 false (lift (some (at_ vs 0)))) fun x43 =>
    bnd (gd x41 false (A_points_Bank_Outputs [x43])) fun x44 =>
    bnd (gd x41 false (bslc 1 1 (rep 1 [Value.int .i64 0]) [(0, 1, (Value.int .i64 0))])) fun x45 =>
    bnd (gd x41 false (A_book_SameNums [x44, x45])) fun x46 =>
    bnd (gd x41 false (lift (un .not x46))) fun x47 =>
    bnd (lift (pickV x41 (Value.bool true) x47)) fun x48 =>
    bnd (gd x48 false (lift (some (at_ vs 0)))) fun x50 =>
    bnd (gd x48 false ((A_points_Bank_Commit G_maps_DeleteFunc_map_points_pair_int64_points_pair_int64) [x50, (Value.int .i64 0)])) fun x51 =>
    bnd (gd x48 false (lift (bin .neq x51 (Value.int .i64 0)))) fun x52 =>
    bnd (lift (pickV x48 (Value.bool true) x52)) fun x53 =>
    condM x53 (
      ret (.ret [(Value.bool false)])
      ) (
      ret (.nxt [(at_ vs 0)])
      )
    ) fun o => nx o (law19_works_k0 G_maps_DeleteFunc_map_points_pair_int64_points_pair_int64)
def F_law19_works (G_maps_DeleteFunc_map_points_pair_int64_points_pair_int64 : List V → M V) : M V :=
  bnd (
    bnd (lift (build [Value.int .i64 0, Value.bool false] [(0, 1, (Value.int .i64 2))])) fun x5 =>
    bnd (lift (build [Value.int .i64 0, Value.bool false] [(0, 1, (Value.int .i64 1)), (1, 1, (Value.bool true))])) fun x6 =>
    bnd (bslc 2 2 (rep 2 [Value.int .i64 0, Value.bool false]) [(0, 2, x5), (2, 2, x6)]) fun x7 =>
    bnd (lift (build [Value.int .i64 0, Value.int .i64 0, Value.bool false] [(1, 1, (Value.int .i64 0))])) fun x8 =>
    bnd (lift (build [Value.int .i64 0, Value.int .i64 0, Value.bool false] [(1, 1, (Value.int .i64 1)), (2, 1, (Value.bool true))])) fun x9 =>
    bnd (bslc 3 2 (rep 2 [Value.int .i64 0, Value.int .i64 0, Value.bool false]) [(0, 3, x8), (3, 3, x9)]) fun x10 =>
    bnd (A_points_New [x7, x10]) fun x11 =>
    bnd (lift (ext 0 x11)) fun x12 =>
    bnd (lift (ext 1 x11)) fun x13 =>
    bnd (
      bnd (lift (notIf false (isNil .p x12))) fun x15 =>
      bnd (gd x15 false (lift (some x13))) fun x17 =>
      bnd (gd x15 false (lift (bin .neq x17 (Value.int .i64 0)))) fun x18 =>
      bnd (lift (pickV x15 (Value.bool true) x18)) fun x19 =>
      bnd (gd x19 false (lift (some x12))) fun x21 =>
      bnd (gd x19 false (bslc 1 1 (rep 1 [Value.int .i64 0]) [(0, 1, (Value.int .i64 5))])) fun x22 =>
      bnd (gd x19 false (A_points_Bank_Latch [x21, x22])) fun x23 =>
      bnd (gd x19 false (lift (bin .neq x23 (Value.int .i64 0)))) fun x24 =>
      bnd (lift (pickV x19 (Value.bool true) x24)) fun x25 =>
      condM x25 (
        ret (.ret [(Value.bool false)])
        ) (
        ret (.nxt [x12])
        )
      ) fun o => nx o (law19_works_k1 G_maps_DeleteFunc_map_points_pair_int64_points_pair_int64)
    ) fun o => finM o fun vs => ret (outV [(at_ vs 0)])
def h_law19_works : Hint := (.seq [] .leaf (.seq [] .leaf (.seq [1] (.seq [] .leaf (.cond (.seq [] .leaf .leaf) .leaf)) (.seq [] .leaf (.seq [1] (.seq [] .leaf (.cond (.seq [] .leaf .leaf) .leaf)) (.seq [] .leaf .leaf))))))
def A_law19_works (G_maps_DeleteFunc_map_points_pair_int64_points_pair_int64 : List V → M V) (l : List V) : M V := match l with | [] => F_law19_works G_maps_DeleteFunc_map_points_pair_int64_points_pair_int64  | _ => fail
theorem e_law19_works (G_maps_DeleteFunc_map_points_pair_int64_points_pair_int64 : List V → M V) : funM Try.prog (ovr [(fid_points_New, A_points_New), (fid_points_Bank_Latch, A_points_Bank_Latch), (fid_points_Bank_Read, A_points_Bank_Read), (fid_points_Bank_Write, A_points_Bank_Write), (fid_points_Bank_Outputs, A_points_Bank_Outputs), (fid_book_SameNums, A_book_SameNums), (fid_points_Bank_Commit, A_points_Bank_Commit G_maps_DeleteFunc_map_points_pair_int64_points_pair_int64)] noC) fid_law19_works h_law19_works [] = F_law19_works G_maps_DeleteFunc_map_points_pair_int64_points_pair_int64  := by kernel_rfl
theorem K_law19_works {G_maps_DeleteFunc_map_points_pair_int64_points_pair_int64 : List V → M V} (k_maps_DeleteFunc_map_points_pair_int64_points_pair_int64 : Known Try.prog fid_maps_DeleteFunc_map_points_pair_int64_points_pair_int64 G_maps_DeleteFunc_map_points_pair_int64_points_pair_int64) : Known Try.prog fid_law19_works (A_law19_works G_maps_DeleteFunc_map_points_pair_int64_points_pair_int64) := known_of (σ := ovr [(fid_points_New, A_points_New), (fid_points_Bank_Latch, A_points_Bank_Latch), (fid_points_Bank_Read, A_points_Bank_Read), (fid_points_Bank_Write, A_points_Bank_Write), (fid_points_Bank_Outputs, A_points_Bank_Outputs), (fid_book_SameNums, A_book_SameNums), (fid_points_Bank_Commit, A_points_Bank_Commit G_maps_DeleteFunc_map_points_pair_int64_points_pair_int64)] noC) (hint := h_law19_works) (by kernel_rfl) (simAll_ovr K_points_New (simAll_ovr K_points_Bank_Latch (simAll_ovr K_points_Bank_Read (simAll_ovr K_points_Bank_Write (simAll_ovr K_points_Bank_Outputs (simAll_ovr K_book_SameNums (simAll_ovr (K_points_Bank_Commit k_maps_DeleteFunc_map_points_pair_int64_points_pair_int64) simAll_nil0))))))) fun l H r H' h => by
  unfold A_law19_works at h; split at h
  · rw [e_law19_works]; exact h
  · exact (fail_ne h).elim

/-! ### capstan/capstanref19.Check -/
def ref19_Check_k0 (vs_4 : List V) : M Out :=
  bnd (lift (bin .add (at_ vs_4 2) (Value.int .i64 1))) fun x18 =>
  ret (.nxt [(at_ vs_4 0), (at_ vs_4 1), x18])
def ref19_Check_k1 (vs_3 : List V) : M Out :=
  bnd (
  bnd (
    bnd (lift (iaddrS 2 (at_ vs_3 0) (at_ vs_3 2))) fun x21 =>
    bnd (lift (faddr 0 x21)) fun x22 =>
    bnd (ld1 x22) fun x23 =>
    bnd (lift (bin .lss x23 (Value.int .i64 1))) fun x24 =>
    bnd (gd x24 false (lift (some (at_ vs_3 0)))) fun x26 =>
    bnd (gd x24 false (lift (some (at_ vs_3 2)))) fun x27 =>
    bnd (gd x24 false (lift (iaddrS 2 x26 x27))) fun x28 =>
    bnd (gd x24 false (lift (faddr 0 x28))) fun x29 =>
    bnd (gd x24 false (ld1 x29)) fun x30 =>
    bnd (gd x24 false (lift (bin .gtr x30 (Value.int .i64 3)))) fun x31 =>
    bnd (lift (pickV x24 (Value.bool true) x31)) fun x32 =>
    condM x32 (
      ret (.ret [(Value.int .i64 (-1)), (Value.int .i64 40)])
      ) (
      ret (.nxt [(at_ vs_3 0), (at_ vs_3 1), (at_ vs_3 2)])
      )
    ) fun o => ret (unblk 1 o)
  ) fun o => nx o ref19_Check_k0
def ref19_Check_l2 (vs_2 : List V) : M Out :=
  bnd (
  bnd (lift (lenSlc (at_ vs_2 0))) fun x15 =>
  bnd (lift (bin .lss (at_ vs_2 2) x15)) fun x16 =>
  condM x16 (
    ret (.nxt [(at_ vs_2 0), (at_ vs_2 1), (at_ vs_2 2)])
    ) (
    ret (.brk 0 [(at_ vs_2 0), (at_ vs_2 1)])
    )
  ) fun o => nx o ref19_Check_k1
def ref19_Check_k3 (vs_12 : List V) : M Out :=
  bnd (lift (bin .add (at_ vs_12 4) (Value.int .i64 1))) fun x80 =>
  ret (.nxt [(at_ vs_12 0), (at_ vs_12 1), (at_ vs_12 2), (at_ vs_12 3), x80])
def ref19_Check_k4 (vs_11 : List V) : M Out :=
  bnd (
  bnd (
    bnd (lift (iaddrS 3 (at_ vs_11 1) (at_ vs_11 4))) fun x83 =>
    bnd (ldn 3 x83) fun x84 =>
    bnd (ldn 3 (at_ vs_11 3)) fun x85 =>
    bnd (lift (notIf false (eqAgg [.i, .i, .b] x84 x85))) fun x86 =>
    bnd (gd x86 false (lift (faddr 2 (at_ vs_11 3)))) fun x88 =>
    bnd (gd x86 false (ld1 x88)) fun x89 =>
    bnd (gd x86 false (lift (some x89))) fun x90 =>
    bnd (gd x90 true (lift (some (at_ vs_11 1)))) fun x91 =>
    bnd (gd x90 true (lift (some (at_ vs_11 4)))) fun x92 =>
    bnd (gd x90 true (lift (iaddrS 3 x91 x92))) fun x93 =>
    bnd (gd x90 true (lift (faddr 2 x93))) fun x94 =>
    bnd (gd x90 true (ld1 x94)) fun x95 =>
    bnd (gd x86 false (lift (pickV x90 x95 (Value.bool false)))) fun x96 =>
    bnd (gd x86 false (lift (some x96))) fun x97 =>
    bnd (gd x97 true (lift (some (at_ vs_11 1)))) fun x98 =>
    bnd (gd x97 true (lift (some (at_ vs_11 4)))) fun x99 =>
    bnd (gd x97 true (lift (iaddrS 3 x98 x99))) fun x100 =>
    bnd (gd x97 true (lift (faddr 1 x100))) fun x101 =>
    bnd (gd x97 true (lift (faddr 1 (at_ vs_11 3)))) fun x103 =>
    bnd (gd x97 true (ld1 x101)) fun x102 =>
    bnd (gd x97 true (ld1 x103)) fun x104 =>
    bnd (gd x97 true (lift (bin .eql x102 x104))) fun x105 =>
    bnd (gd x86 false (lift (pickV x97 x105 (Value.bool false)))) fun x106 =>
    bnd (lift (pickV x86 (Value.bool true) x106)) fun x107 =>
    condM x107 (
      ret (.ret [(at_ vs_11 2), (Value.int .i64 190)])
      ) (
      ret (.nxt [(at_ vs_11 0), (at_ vs_11 1), (at_ vs_11 2), (at_ vs_11 3), (at_ vs_11 4)])
      )
    ) fun o => ret (unblk 5 o)
  ) fun o => nx o ref19_Check_k3
def ref19_Check_l5 (vs_10 : List V) : M Out :=
  bnd (
  bnd (lift (bin .lss (at_ vs_10 4) (at_ vs_10 2))) fun x78 =>
  condM x78 (
    ret (.nxt [(at_ vs_10 0), (at_ vs_10 1), (at_ vs_10 2), (at_ vs_10 3), (at_ vs_10 4)])
    ) (
    ret (.brk 4 [(at_ vs_10 0), (at_ vs_10 1), (at_ vs_10 2)])
    )
  ) fun o => nx o ref19_Check_k4
def ref19_Check_k6 (vs_9 : List V) : M Out :=
    bnd (
      loopM FUEL ref19_Check_l5 [(at_ vs_9 0), (at_ vs_9 1), (at_ vs_9 2), (at_ vs_9 3), (Value.int .i64 0)]
      ) fun o => ret (unblk 4 o)
def ref19_Check_k7 (vs_8 : List V) : M Out :=
    bnd (
      bnd (lift (faddr 2 (at_ vs_8 3))) fun x64 =>
      bnd (ld1 x64) fun x65 =>
      bnd (gd x65 true (lift (some (at_ vs_8 0)))) fun x67 =>
      bnd (gd x65 true (lift (faddr 1 (at_ vs_8 3)))) fun x68 =>
      bnd (gd x65 true (ld1 x68)) fun x69 =>
      bnd (gd x65 true (lift (iaddrS 2 x67 x69))) fun x70 =>
      bnd (gd x65 true (lift (faddr 1 x70))) fun x71 =>
      bnd (gd x65 true (ld1 x71)) fun x72 =>
      bnd (gd x65 true (lift (un .not x72))) fun x73 =>
      bnd (lift (pickV x65 x73 (Value.bool false))) fun x74 =>
      condM x74 (
        ret (.ret [(at_ vs_8 2), (Value.int .i64 91)])
        ) (
        ret (.nxt [(at_ vs_8 0), (at_ vs_8 1), (at_ vs_8 2), (at_ vs_8 3)])
        )
      ) fun o => nx o ref19_Check_k6
def ref19_Check_k8 (vs_13 : List V) : M Out :=
  bnd (lift (bin .add (at_ vs_13 2) (Value.int .i64 1))) fun x38 =>
  ret (.nxt [(at_ vs_13 0), (at_ vs_13 1), x38])
def ref19_Check_k9 (vs_7 : List V) : M Out :=
  bnd (
  bnd (
    bnd (lift (iaddrS 3 (at_ vs_7 1) (at_ vs_7 2))) fun x41 =>
    bnd (ldn 3 x41) fun x42 =>
    bnd (newc [Value.int .i64 0, Value.int .i64 0, Value.bool false]) fun x8 =>
    bnd (stn 3 x8 x42) fun _ =>
    bnd (
      bnd (lift (faddr 0 x8)) fun x43 =>
      bnd (ld1 x43) fun x44 =>
      bnd (lift (bin .lss x44 (Value.int .i64 0))) fun x45 =>
      bnd (gd x45 false (lift (faddr 0 x8))) fun x47 =>
      bnd (gd x45 false (ld1 x47)) fun x48 =>
      bnd (gd x45 false (lift (bin .geq x48 (Value.int .i64 8)))) fun x49 =>
      bnd (lift (pickV x45 (Value.bool true) x49)) fun x50 =>
      bnd (gd x50 false (lift (faddr 1 x8))) fun x52 =>
      bnd (gd x50 false (ld1 x52)) fun x53 =>
      bnd (gd x50 false (lift (bin .lss x53 (Value.int .i64 0)))) fun x54 =>
      bnd (lift (pickV x50 (Value.bool true) x54)) fun x55 =>
      bnd (gd x55 false (lift (faddr 1 x8))) fun x57 =>
      bnd (gd x55 false (ld1 x57)) fun x58 =>
      bnd (gd x55 false (lift (some (at_ vs_7 0)))) fun x59 =>
      bnd (gd x55 false (lift (lenSlc x59))) fun x60 =>
      bnd (gd x55 false (lift (bin .geq x58 x60))) fun x61 =>
      bnd (lift (pickV x55 (Value.bool true) x61)) fun x62 =>
      condM x62 (
        ret (.ret [(at_ vs_7 2), (Value.int .i64 1)])
        ) (
        ret (.nxt [(at_ vs_7 0), (at_ vs_7 1), (at_ vs_7 2), x8])
        )
      ) fun o => nx o ref19_Check_k7
    ) fun o => ret (unblk 3 o)
  ) fun o => nx o ref19_Check_k8
def ref19_Check_l10 (vs_6 : List V) : M Out :=
  bnd (
  bnd (lift (lenSlc (at_ vs_6 1))) fun x35 =>
  bnd (lift (bin .lss (at_ vs_6 2) x35)) fun x36 =>
  condM x36 (
    ret (.nxt [(at_ vs_6 0), (at_ vs_6 1), (at_ vs_6 2)])
    ) (
    ret (.brk 2 [])
    )
  ) fun o => nx o ref19_Check_k9
def ref19_Check_k11 (vs_14 : List V) : M Out :=
  ret (.ret [(Value.int .i64 0), (Value.int .i64 0)])
def ref19_Check_k12 (vs_5 : List V) : M Out :=
  bnd (
    bnd (
      loopM FUEL ref19_Check_l10 [(at_ vs_5 0), (at_ vs_5 1), (Value.int .i64 0)]
      ) fun o => ret (unblk 2 o)
    ) fun o => nx o ref19_Check_k11
def ref19_Check_k13 (vs : List V) : M Out :=
  bnd (
    bnd (
      loopM FUEL ref19_Check_l2 [(at_ vs 0), (at_ vs 1), (Value.int .i64 0)]
      ) fun o => ret (unblk 0 o)
    ) fun o => nx o ref19_Check_k12
def F_ref19_Check (x0 x1 : V) : M V :=
  bnd (
    bnd (
      bnd (lift (lenSlc x0)) fun x11 =>
      bnd (lift (bin .gtr x11 (Value.int .i64 64))) fun x12 =>
      condM x12 (
        ret (.ret [(Value.int .i64 (-1)), (Value.int .i64 2)])
        ) (
        ret (.nxt [x0, x1])
        )
      ) fun o => nx o ref19_Check_k13
    ) fun o => finM o fun vs => ret (outV [(at_ vs 0), (at_ vs 1)])
def h_ref19_Check : Hint := (.seq [] .leaf (.seq [0, 1] (.seq [] .leaf (.cond (.seq [] .leaf .leaf) .leaf)) (.seq [0, 1] (.seq [] .leaf (.blk (.loop [0, 1, 6] (.seq [0, 1, 6] (.seq [] .leaf (.cond .leaf .leaf)) (.seq [0, 1, 6] (.blk (.seq [] .leaf (.cond (.seq [] .leaf .leaf) .leaf))) .leaf))))) (.seq [] (.seq [] .leaf (.blk (.loop [0, 1, 7] (.seq [0, 1, 7] (.seq [] .leaf (.cond .leaf .leaf)) (.seq [0, 1, 7] (.blk (.seq [] .leaf (.seq [0, 1, 7, 8] (.seq [] .leaf (.cond (.seq [] .leaf .leaf) .leaf)) (.seq [0, 1, 7, 8] (.seq [] .leaf (.cond (.seq [] .leaf .leaf) .leaf)) (.seq [] .leaf (.blk (.loop [0, 1, 7, 8, 9] (.seq [0, 1, 7, 8, 9] (.seq [] .leaf (.cond .leaf .leaf)) (.seq [0, 1, 7, 8, 9] (.blk (.seq [] (.reg [0, 1, 2, 3, 4, 5, 6, 7, 8, 9, 10, 11, 12, 13, 14, 15, 16, 17, 18, 19, 20, 22, 21, 23, 24, 25, 26] []) (.cond (.seq [] .leaf .leaf) .leaf))) .leaf))))))))) .leaf))))) (.seq [] .leaf .leaf)))))
def A_ref19_Check (l : List V) : M V := match l with | [x0, x1] => F_ref19_Check x0 x1 | _ => fail
theorem e_ref19_Check (x0 x1 : V) : funM Try.prog (ovr [] noC) fid_ref19_Check h_ref19_Check [x0, x1] = F_ref19_Check x0 x1 := by kernel_rfl
theorem K_ref19_Check : Known Try.prog fid_ref19_Check (A_ref19_Check) := known_of (σ := ovr [] noC) (hint := h_ref19_Check) (by kernel_rfl) simAll_nil0 fun l H r H' h => by
  unfold A_ref19_Check at h; split at h
  · rw [e_ref19_Check]; exact h
  · exact (fail_ne h).elim

/-! ### capstan/capstanref19.New -/
def ref19_New_k0 (vs : List V) : M Out :=
  withResv 5 fun base h0 =>
  bnd (lift (lenSlc (at_ vs 0))) fun x24 =>
  bnd (lift (lenSlc (at_ vs 0))) fun x27 =>
  bnd (lift (lenSlc (at_ vs 0))) fun x30 =>
  bnd (flt (base + 0) (bslc 2 0 (rep 0 [Value.int .i64 0, Value.bool false]) [])) fun x17 =>
  bndH (appV 2 16 x17 (at_ vs 0)) fun ha x19 h1 =>
  need (freeIn ha [base + 1, base + 2, base + 3, base + 4] && freeIn h1 [base + 1, base + 2, base + 3, base + 4]) <|
  bnd (flt (base + 1) (bslc 3 0 (rep 0 [Value.int .i64 0, Value.int .i64 0, Value.bool false]) [])) fun x20 =>
  bndH (appV 3 24 x20 (at_ vs 1)) fun ha_2 x22 h2 =>
  need (freeIn ha_2 [base + 2, base + 3, base + 4] && freeIn h2 [base + 2, base + 3, base + 4]) <|
  bnd (flt (base + 2) (mkslc 1 8 [Value.int .i64 0] x24 x24)) fun x25 =>
  bnd (flt (base + 3) (mkslc 1 1 [Value.bool false] x27 x27)) fun x28 =>
  bnd (flt (base + 4) (mkslc 1 8 [Value.int .i64 0] x30 x30)) fun x31 =>
  bnd (lift (build [Value.slice none 0 0, Value.slice none 0 0, Value.slice none 0 0, Value.slice none 0 0, Value.slice none 0 0, Value.slice none 0 0] [(0, 1, x19), (1, 1, x22), (2, 1, x25), (3, 1, x28), (4, 1, x31)])) fun x32 =>
  bndH (boxv x32) fun ha_3 x33 h3 =>
  ret (.ret [x33, (Value.int .i64 0)])
def F_ref19_New (x0 x1 : V) : M V :=
  bnd (
    bnd (
      bnd (A_ref19_Check [x0, x1]) fun x11 =>
      bnd (lift (ext 0 x11)) fun x12 =>
      bnd (lift (ext 1 x11)) fun x13 =>
      bnd (lift (bin .neq x13 (Value.int .i64 0))) fun x15 =>
      condM x15 (
        ret (.ret [(Value.pointer none), x13])
        ) (
        ret (.nxt [x0, x1])
        )
      ) fun o => nx o ref19_New_k0
    ) fun o => finM o fun vs => ret (outV [(at_ vs 0), (at_ vs 1)])
def h_ref19_New : Hint := (.seq [] .leaf (.seq [0, 1] (.seq [] .leaf (.seq [] .leaf (.cond (.seq [] .leaf .leaf) .leaf))) (.seq [] (.reg [1, 4, 6, 7, 9, 10, 12, 13, 0, 2, 3, 5, 8, 11, 14, 15, 16, 17, 18] [0, 3, 8, 11, 14]) .leaf)))
def A_ref19_New (l : List V) : M V := match l with | [x0, x1] => F_ref19_New x0 x1 | _ => fail
def s_ref19_New : Calls' := ovr [(fid_ref19_Check, A_ref19_Check)] noC
theorem e_ref19_New (x0 x1 : V) : funM Try.prog (s_ref19_New) fid_ref19_New h_ref19_New [x0, x1] = F_ref19_New x0 x1 := by kernel_rfl
theorem K_ref19_New : Known Try.prog fid_ref19_New (A_ref19_New) := known_of (σ := s_ref19_New) (hint := h_ref19_New) (by kernel_rfl) (simAll_ovr K_ref19_Check simAll_nil0) fun l H r H' h => by
  unfold A_ref19_New at h; split at h
  · rw [e_ref19_New]; exact h
  · exact (fail_ne h).elim

/-! ### capstan/capstanlaw19.among -/
def F_law19_among (x0 x1 : V) : M V :=
  bnd (
    bnd (lift (bin .rem x0 x1)) fun x7 =>
    bnd (lift (bin .add x7 x1)) fun x9 =>
    bnd (lift (bin .rem x9 x1)) fun x11 =>
    ret (.ret [x11])
    ) fun o => finM o fun vs => ret (outV [(at_ vs 0)])
def h_law19_among : Hint := (.seq [] .leaf (.seq [] .leaf .leaf))
def A_law19_among (l : List V) : M V := match l with | [x0, x1] => F_law19_among x0 x1 | _ => fail
theorem e_law19_among (x0 x1 : V) : funM Try.prog (ovr [] noC) fid_law19_among h_law19_among [x0, x1] = F_law19_among x0 x1 := by kernel_rfl
theorem K_law19_among : Known Try.prog fid_law19_among (A_law19_among) := known_of (σ := ovr [] noC) (hint := h_law19_among) (by kernel_rfl) simAll_nil0 fun l H r H' h => by
  unfold A_law19_among at h; split at h
  · rw [e_law19_among]; exact h
  · exact (fail_ne h).elim

/-! ### capstan/capstanbook.LendNums -/
def F_book_LendNums (x0 : V) : M V :=
  bnd (
    bnd (bslc 1 0 (rep 0 [Value.int .i64 0]) []) fun x4 =>
    bnd (appV 1 8 x4 x0) fun x6 =>
    bnd (bslc 1 1 (rep 1 [Value.int .i64 0]) [(0, 1, (Value.int .i64 (-77)))]) fun x8 =>
    bnd (appV 1 8 x6 x8) fun x9 =>
    bnd (lift (lenSlc x0)) fun x12 =>
    bnd (lift (subV 1 x9 none (some x12))) fun x13 =>
    ret (.ret [x13])
    ) fun o => finM o fun vs => ret (outV [(at_ vs 0)])
def h_book_LendNums : Hint := (.seq [] .leaf (.seq [] .leaf (.seq [] .leaf (.seq [] .leaf .leaf))))
def A_book_LendNums (l : List V) : M V := match l with | [x0] => F_book_LendNums x0 | _ => fail
theorem e_book_LendNums (x0 : V) : funM Try.prog (ovr [] noC) fid_book_LendNums h_book_LendNums [x0] = F_book_LendNums x0 := by kernel_rfl
theorem K_book_LendNums : Known Try.prog fid_book_LendNums (A_book_LendNums) := known_of (σ := ovr [] noC) (hint := h_book_LendNums) (by kernel_rfl) simAll_nil0 fun l H r H' h => by
  unfold A_book_LendNums at h; split at h
  · rw [e_book_LendNums]; exact h
  · exact (fail_ne h).elim

/-! ### capstan/capstanref04.Type -/
def F_ref04_Type (x0 : V) : M V :=
  bnd (
    bnd (lift (bin .geq x0 (Value.int .i64 1))) fun x4 =>
    bnd (gd x4 true (lift (some x0))) fun x6 =>
    bnd (gd x4 true (lift (bin .leq x6 (Value.int .i64 4)))) fun x7 =>
    bnd (lift (pickV x4 x7 (Value.bool false))) fun x8 =>
    ret (.ret [x8])
    ) fun o => finM o fun vs => ret (outV [(at_ vs 0)])
def h_ref04_Type : Hint := (.seq [] .leaf (.seq [] .leaf .leaf))
def A_ref04_Type (l : List V) : M V := match l with | [x0] => F_ref04_Type x0 | _ => fail
theorem e_ref04_Type (x0 : V) : funM Try.prog (ovr [] noC) fid_ref04_Type h_ref04_Type [x0] = F_ref04_Type x0 := by kernel_rfl
theorem K_ref04_Type : Known Try.prog fid_ref04_Type (A_ref04_Type) := known_of (σ := ovr [] noC) (hint := h_ref04_Type) (by kernel_rfl) simAll_nil0 fun l H r H' h => by
  unfold A_ref04_Type at h; split at h
  · rw [e_ref04_Type]; exact h
  · exact (fail_ne h).elim

/-! ### capstan/capstanref04.size -/
def ref04_size_k0 (vs : List V) : M Out :=
  ret (.ret [(Value.int .i64 4294967296)])
def F_ref04_size (x0 : V) : M V :=
  bnd (
    bnd (
      bnd (lift (bin .eql x0 (Value.int .i64 2))) fun x4 =>
      condM x4 (
        ret (.ret [(Value.int .i64 65536)])
        ) (
        ret (.nxt [])
        )
      ) fun o => nx o ref04_size_k0
    ) fun o => finM o fun vs => ret (outV [(at_ vs 0)])
def h_ref04_size : Hint := (.seq [] .leaf (.seq [] (.seq [] .leaf (.cond (.seq [] .leaf .leaf) .leaf)) (.seq [] .leaf .leaf)))
def A_ref04_size (l : List V) : M V := match l with | [x0] => F_ref04_size x0 | _ => fail
theorem e_ref04_size (x0 : V) : funM Try.prog (ovr [] noC) fid_ref04_size h_ref04_size [x0] = F_ref04_size x0 := by kernel_rfl
theorem K_ref04_size : Known Try.prog fid_ref04_size (A_ref04_size) := known_of (σ := ovr [] noC) (hint := h_ref04_size) (by kernel_rfl) simAll_nil0 fun l H r H' h => by
  unfold A_ref04_size at h; split at h
  · rw [e_ref04_size]; exact h
  · exact (fail_ne h).elim

/-! ### capstan/capstanref04.Fits -/
def ref04_Fits_k0 (vs : List V) : M Out :=
  bnd (A_ref04_Type [(at_ vs 0)]) fun x14 =>
  bnd (gd x14 true (lift (some (at_ vs 1)))) fun x16 =>
  bnd (gd x14 true (lift (some (at_ vs 0)))) fun x17 =>
  bnd (gd x14 true (A_ref04_size [x17])) fun x18 =>
  bnd (gd x14 true (lift (un .neg x18))) fun x19 =>
  bnd (gd x14 true (lift (bin .quo x19 (Value.int .i64 2)))) fun x20 =>
  bnd (gd x14 true (lift (bin .geq x16 x20))) fun x21 =>
  bnd (lift (pickV x14 x21 (Value.bool false))) fun x22 =>
  bnd (gd x22 true (lift (some (at_ vs 1)))) fun x24 =>
  bnd (gd x22 true (lift (some (at_ vs 0)))) fun x25 =>
  bnd (gd x22 true (A_ref04_size [x25])) fun x26 =>
  bnd (gd x22 true (lift (bin .quo x26 (Value.int .i64 2)))) fun x27 =>
  bnd (gd x22 true (lift (bin .lss x24 x27))) fun x28 =>
  bnd (lift (pickV x22 x28 (Value.bool false))) fun x29 =>
  ret (.ret [x29])
def F_ref04_Fits (x0 x1 : V) : M V :=
  bnd (
    bnd (
      bnd (lift (bin .eql x0 (Value.int .i64 1))) fun x6 =>
      condM x6 (
        bnd (lift (bin .eql x1 (Value.int .i64 0))) fun x8 =>
        bnd (gd x8 false (lift (some x1))) fun x10 =>
        bnd (gd x8 false (lift (bin .eql x10 (Value.int .i64 1)))) fun x11 =>
        bnd (lift (pickV x8 (Value.bool true) x11)) fun x12 =>
        ret (.ret [x12])
        ) (
        ret (.nxt [x0, x1])
        )
      ) fun o => nx o ref04_Fits_k0
    ) fun o => finM o fun vs => ret (outV [(at_ vs 0)])
def h_ref04_Fits : Hint := (.seq [] .leaf (.seq [0, 1] (.seq [] .leaf (.cond (.seq [] .leaf .leaf) .leaf)) (.seq [] .leaf .leaf)))
def A_ref04_Fits (l : List V) : M V := match l with | [x0, x1] => F_ref04_Fits x0 x1 | _ => fail
def s_ref04_Fits : Calls' := ovr [(fid_ref04_Type, A_ref04_Type), (fid_ref04_size, A_ref04_size)] noC
theorem e_ref04_Fits (x0 x1 : V) : funM Try.prog (s_ref04_Fits) fid_ref04_Fits h_ref04_Fits [x0, x1] = F_ref04_Fits x0 x1 := by kernel_rfl
theorem K_ref04_Fits : Known Try.prog fid_ref04_Fits (A_ref04_Fits) := known_of (σ := s_ref04_Fits) (hint := h_ref04_Fits) (by kernel_rfl) (simAll_ovr K_ref04_Type (simAll_ovr K_ref04_size simAll_nil0)) fun l H r H' h => by
  unfold A_ref04_Fits at h; split at h
  · rw [e_ref04_Fits]; exact h
  · exact (fail_ne h).elim

/-! ### (*capstan/capstanref19.Bank).Latch -/
def ref19_Bank_Latch_k0 (vs_3 : List V) : M Out :=
  bnd (lift (bin .add (at_ vs_3 3) (Value.int .i64 1))) fun x17 =>
  ret (.nxt [(at_ vs_3 0), (at_ vs_3 1), (at_ vs_3 2), x17])
def ref19_Bank_Latch_k1 (vs_2 : List V) : M Out :=
  bnd (
  bnd (
    bnd (lift (nilck (at_ vs_2 0))) fun x19 =>
    bnd (lift (faddr 0 x19)) fun x20 =>
    bnd (ld1 x20) fun x21 =>
    bnd (lift (iaddrS 2 x21 (at_ vs_2 3))) fun x23 =>
    bnd (lift (faddr 1 x23)) fun x24 =>
    bnd (ld1 x24) fun x25 =>
    bnd (lift (un .not x25)) fun x26 =>
    condM x26 (
      bnd (bslc 1 1 (rep 1 [Value.int .i64 0]) [(0, 1, (at_ vs_2 3))]) fun x29 =>
      bnd (appV 1 8 (at_ vs_2 2) x29) fun x30 =>
      ret (.nxt [(at_ vs_2 0), (at_ vs_2 1), x30, (at_ vs_2 3)])
      ) (
      ret (.nxt [(at_ vs_2 0), (at_ vs_2 1), (at_ vs_2 2), (at_ vs_2 3)])
      )
    ) fun o => ret (unblk 1 o)
  ) fun o => nx o ref19_Bank_Latch_k0
def ref19_Bank_Latch_l2 (vs : List V) : M Out :=
  bnd (
  bnd (lift (nilck (at_ vs 0))) fun x11 =>
  bnd (lift (faddr 0 x11)) fun x12 =>
  bnd (ld1 x12) fun x13 =>
  bnd (lift (lenSlc x13)) fun x14 =>
  bnd (lift (bin .lss (at_ vs 3) x14)) fun x15 =>
  condM x15 (
    ret (.nxt [(at_ vs 0), (at_ vs 1), (at_ vs 2), (at_ vs 3)])
    ) (
    ret (.brk 0 [(at_ vs 0), (at_ vs 1), (at_ vs 2)])
    )
  ) fun o => nx o ref19_Bank_Latch_k1
def ref19_Bank_Latch_k3 (vs_8 : List V) : M Out :=
  bnd (lift (bin .add (at_ vs_8 3) (Value.int .i64 1))) fun x41 =>
  ret (.nxt [(at_ vs_8 0), (at_ vs_8 1), (at_ vs_8 2), x41])
def ref19_Bank_Latch_k4 (vs_7 : List V) : M Out :=
  bnd (
  bnd (
    bnd (lift (nilck (at_ vs_7 0))) fun x43 =>
    bnd (lift (faddr 0 x43)) fun x44 =>
    bnd (lift (iaddrS 1 (at_ vs_7 2) (at_ vs_7 3))) fun x48 =>
    bnd (lift (iaddrS 1 (at_ vs_7 1) (at_ vs_7 3))) fun x55 =>
    bnd (ld1 x44) fun x45 =>
    bnd (ld1 x48) fun x49 =>
    bnd (lift (iaddrS 2 x45 x49)) fun x50 =>
    bnd (lift (faddr 0 x50)) fun x51 =>
    bnd (ld1 x51) fun x52 =>
    bnd (ld1 x55) fun x56 =>
    bnd (A_ref04_Fits [x52, x56]) fun x57 =>
    bnd (lift (un .not x57)) fun x58 =>
    condM x58 (
      ret (.ret [(Value.int .i64 1)])
      ) (
      ret (.nxt [(at_ vs_7 0), (at_ vs_7 1), (at_ vs_7 2), (at_ vs_7 3)])
      )
    ) fun o => ret (unblk 3 o)
  ) fun o => nx o ref19_Bank_Latch_k3
def ref19_Bank_Latch_l5 (vs_6 : List V) : M Out :=
  bnd (
  bnd (lift (lenSlc (at_ vs_6 2))) fun x38 =>
  bnd (lift (bin .lss (at_ vs_6 3) x38)) fun x39 =>
  condM x39 (
    ret (.nxt [(at_ vs_6 0), (at_ vs_6 1), (at_ vs_6 2), (at_ vs_6 3)])
    ) (
    ret (.brk 2 [(at_ vs_6 0), (at_ vs_6 1), (at_ vs_6 2)])
    )
  ) fun o => nx o ref19_Bank_Latch_k4
def ref19_Bank_Latch_k6 (vs_12 : List V) : M Out :=
  bnd (lift (bin .add (at_ vs_12 3) (Value.int .i64 1))) fun x64 =>
  ret (.nxt [(at_ vs_12 0), (at_ vs_12 1), (at_ vs_12 2), x64])
def ref19_Bank_Latch_k7 (vs_11 : List V) : M Out :=
  bnd (
  bnd (
    bnd (lift (nilck (at_ vs_11 0))) fun x66 =>
    bnd (lift (faddr 2 x66)) fun x67 =>
    bnd (lift (iaddrS 1 (at_ vs_11 2) (at_ vs_11 3))) fun x71 =>
    bnd (lift (iaddrS 1 (at_ vs_11 1) (at_ vs_11 3))) fun x75 =>
    bnd (ld1 x67) fun x68 =>
    bnd (ld1 x71) fun x72 =>
    bnd (ld1 x75) fun x76 =>
    bnd (lift (iaddrS 1 x68 x72)) fun x77 =>
    bnd (st1 x77 x76) fun _ =>
    ret (.nxt [(at_ vs_11 0), (at_ vs_11 1), (at_ vs_11 2), (at_ vs_11 3)])
    ) fun o => ret (unblk 5 o)
  ) fun o => nx o ref19_Bank_Latch_k6
def ref19_Bank_Latch_l8 (vs_10 : List V) : M Out :=
  bnd (
  bnd (lift (lenSlc (at_ vs_10 2))) fun x61 =>
  bnd (lift (bin .lss (at_ vs_10 3) x61)) fun x62 =>
  condM x62 (
    ret (.nxt [(at_ vs_10 0), (at_ vs_10 1), (at_ vs_10 2), (at_ vs_10 3)])
    ) (
    ret (.brk 4 [])
    )
  ) fun o => nx o ref19_Bank_Latch_k7
def ref19_Bank_Latch_k9 (vs_13 : List V) : M Out :=
  ret (.ret [(Value.int .i64 0)])
def ref19_Bank_Latch_k10 (vs_9 : List V) : M Out :=
  bnd (
    bnd (
      loopM FUEL ref19_Bank_Latch_l8 [(at_ vs_9 0), (at_ vs_9 1), (at_ vs_9 2), (Value.int .i64 0)]
      ) fun o => ret (unblk 4 o)
    ) fun o => nx o ref19_Bank_Latch_k9
def ref19_Bank_Latch_k11 (vs_5 : List V) : M Out :=
  bnd (
    bnd (
      loopM FUEL ref19_Bank_Latch_l5 [(at_ vs_5 0), (at_ vs_5 1), (at_ vs_5 2), (Value.int .i64 0)]
      ) fun o => ret (unblk 2 o)
    ) fun o => nx o ref19_Bank_Latch_k10
def ref19_Bank_Latch_k12 (vs_4 : List V) : M Out :=
  bnd (
    bnd (lift (lenSlc (at_ vs_4 2))) fun x32 =>
    bnd (lift (lenSlc (at_ vs_4 1))) fun x34 =>
    bnd (lift (bin .neq x32 x34)) fun x35 =>
    condM x35 (
      ret (.ret [(Value.int .i64 4)])
      ) (
      ret (.nxt [(at_ vs_4 0), (at_ vs_4 1), (at_ vs_4 2)])
      )
    ) fun o => nx o ref19_Bank_Latch_k11
def F_ref19_Bank_Latch (x0 x1 : V) : M V :=
  bnd (
    bnd (
      bnd (
        loopM FUEL ref19_Bank_Latch_l2 [x0, x1, (Value.slice none 0 0), (Value.int .i64 0)]
        ) fun o => ret (unblk 0 o)
      ) fun o => nx o ref19_Bank_Latch_k12
    ) fun o => finM o fun vs => ret (outV [(at_ vs 0)])
def h_ref19_Bank_Latch : Hint := (.seq [] .leaf (.seq [] .leaf (.seq [0, 1, 5] (.seq [] .leaf (.blk (.loop [0, 1, 5, 6] (.seq [0, 1, 5, 6] (.seq [] .leaf (.cond .leaf .leaf)) (.seq [0, 1, 5, 6] (.blk (.seq [] .leaf (.cond .leaf .leaf))) .leaf))))) (.seq [0, 1, 5] (.seq [] .leaf (.cond (.seq [] .leaf .leaf) .leaf)) (.seq [0, 1, 5] (.seq [] .leaf (.blk (.loop [0, 1, 5, 7] (.seq [0, 1, 5, 7] (.seq [] .leaf (.cond .leaf .leaf)) (.seq [0, 1, 5, 7] (.blk (.seq [] (.reg [0, 1, 2, 4, 5, 6, 11, 12, 13, 3, 7, 8, 9, 10, 14, 15, 16] []) (.cond (.seq [] .leaf .leaf) .leaf))) .leaf))))) (.seq [] (.seq [] .leaf (.blk (.loop [0, 1, 5, 8] (.seq [0, 1, 5, 8] (.seq [] .leaf (.cond .leaf .leaf)) (.seq [0, 1, 5, 8] (.blk (.reg [0, 1, 2, 4, 5, 6, 8, 9, 10, 3, 7, 11, 12, 13] [])) .leaf))))) (.seq [] .leaf .leaf)))))))
def A_ref19_Bank_Latch (l : List V) : M V := match l with | [x0, x1] => F_ref19_Bank_Latch x0 x1 | _ => fail
def s_ref19_Bank_Latch : Calls' := ovr [(fid_ref04_Fits, A_ref04_Fits)] noC
theorem e_ref19_Bank_Latch (x0 x1 : V) : funM Try.prog (s_ref19_Bank_Latch) fid_ref19_Bank_Latch h_ref19_Bank_Latch [x0, x1] = F_ref19_Bank_Latch x0 x1 := by kernel_rfl
theorem K_ref19_Bank_Latch : Known Try.prog fid_ref19_Bank_Latch (A_ref19_Bank_Latch) := known_of (σ := s_ref19_Bank_Latch) (hint := h_ref19_Bank_Latch) (by kernel_rfl) (simAll_ovr K_ref04_Fits simAll_nil0) fun l H r H' h => by
  unfold A_ref19_Bank_Latch at h; split at h
  · rw [e_ref19_Bank_Latch]; exact h
  · exact (fail_ne h).elim

/-! ### capstan/capstanbook.KeptNums -/
def F_book_KeptNums (x0 x1 : V) : M V :=
  bnd (
    bnd (A_book_SameNums [x0, x1]) fun x7 =>
    bnd (gd x7 true (lift (some x0))) fun x9 =>
    bnd (gd x7 true (lift (some x1))) fun x10 =>
    bnd (gd x7 true (lift (lenSlc x10))) fun x11 =>
    bnd (gd x7 true (lift (bin .add x11 (Value.int .i64 1)))) fun x12 =>
    bnd (gd x7 true (lift (subV 1 x9 none (some x12)))) fun x13 =>
    bnd (gd x7 true (lift (some x1))) fun x14 =>
    bnd (gd x7 true (lift (lenSlc x14))) fun x15 =>
    bnd (gd x7 true (lift (iaddrS 1 x13 x15))) fun x16 =>
    bnd (gd x7 true (ld1 x16)) fun x17 =>
    bnd (gd x7 true (lift (bin .eql x17 (Value.int .i64 (-77))))) fun x18 =>
    bnd (lift (pickV x7 x18 (Value.bool false))) fun x19 =>
    ret (.ret [x19])
    ) fun o => finM o fun vs => ret (outV [(at_ vs 0)])
def h_book_KeptNums : Hint := (.seq [] .leaf (.seq [] .leaf .leaf))
def A_book_KeptNums (l : List V) : M V := match l with | [x0, x1] => F_book_KeptNums x0 x1 | _ => fail
def s_book_KeptNums : Calls' := ovr [(fid_book_SameNums, A_book_SameNums)] noC
theorem e_book_KeptNums (x0 x1 : V) : funM Try.prog (s_book_KeptNums) fid_book_KeptNums h_book_KeptNums [x0, x1] = F_book_KeptNums x0 x1 := by kernel_rfl
theorem K_book_KeptNums : Known Try.prog fid_book_KeptNums (A_book_KeptNums) := known_of (σ := s_book_KeptNums) (hint := h_book_KeptNums) (by kernel_rfl) (simAll_ovr K_book_SameNums simAll_nil0) fun l H r H' h => by
  unfold A_book_KeptNums at h; split at h
  · rw [e_book_KeptNums]; exact h
  · exact (fail_ne h).elim

/-! ### (*capstan/capstanref19.Bank).there -/
def F_ref19_Bank_there (x0 x1 x2 : V) : M V :=
  bnd (
    bnd (lift (bin .geq x1 (Value.int .i64 0))) fun x8 =>
    bnd (gd x8 true (lift (some x1))) fun x10 =>
    bnd (gd x8 true (lift (bin .lss x10 (Value.int .i64 8)))) fun x11 =>
    bnd (lift (pickV x8 x11 (Value.bool false))) fun x12 =>
    bnd (gd x12 true (lift (some x2))) fun x14 =>
    bnd (gd x12 true (lift (bin .geq x14 (Value.int .i64 0)))) fun x15 =>
    bnd (lift (pickV x12 x15 (Value.bool false))) fun x16 =>
    bnd (gd x16 true (lift (some x2))) fun x18 =>
    bnd (gd x16 true (lift (some x0))) fun x19 =>
    bnd (gd x16 true (lift (nilck x19))) fun x20 =>
    bnd (gd x16 true (lift (faddr 0 x20))) fun x21 =>
    bnd (gd x16 true (ld1 x21)) fun x22 =>
    bnd (gd x16 true (lift (lenSlc x22))) fun x23 =>
    bnd (gd x16 true (lift (bin .lss x18 x23))) fun x24 =>
    bnd (lift (pickV x16 x24 (Value.bool false))) fun x25 =>
    ret (.ret [x25])
    ) fun o => finM o fun vs => ret (outV [(at_ vs 0)])
def h_ref19_Bank_there : Hint := (.seq [] .leaf (.seq [] .leaf .leaf))
def A_ref19_Bank_there (l : List V) : M V := match l with | [x0, x1, x2] => F_ref19_Bank_there x0 x1 x2 | _ => fail
theorem e_ref19_Bank_there (x0 x1 x2 : V) : funM Try.prog (ovr [] noC) fid_ref19_Bank_there h_ref19_Bank_there [x0, x1, x2] = F_ref19_Bank_there x0 x1 x2 := by kernel_rfl
theorem K_ref19_Bank_there : Known Try.prog fid_ref19_Bank_there (A_ref19_Bank_there) := known_of (σ := ovr [] noC) (hint := h_ref19_Bank_there) (by kernel_rfl) simAll_nil0 fun l H r H' h => by
  unfold A_ref19_Bank_there at h; split at h
  · rw [e_ref19_Bank_there]; exact h
  · exact (fail_ne h).elim

/-! ### (*capstan/capstanref19.Bank).may -/
def ref19_Bank_may_k0 (vs_3 : List V) : M Out :=
  bnd (lift (bin .add (at_ vs_3 4) (Value.int .i64 1))) fun x18 =>
  ret (.nxt [(at_ vs_3 0), (at_ vs_3 1), (at_ vs_3 2), (at_ vs_3 3), x18])
def ref19_Bank_may_k1 (vs_2 : List V) : M Out :=
  bnd (
  bnd (
    bnd (lift (nilck (at_ vs_2 0))) fun x20 =>
    bnd (lift (faddr 1 x20)) fun x21 =>
    bnd (ld1 x21) fun x22 =>
    bnd (lift (iaddrS 3 x22 (at_ vs_2 4))) fun x24 =>
    bnd (lift (faddr 0 x24)) fun x25 =>
    bnd (ld1 x25) fun x26 =>
    bnd (lift (bin .eql x26 (at_ vs_2 1))) fun x28 =>
    bnd (gd x28 true (lift (some (at_ vs_2 0)))) fun x30 =>
    bnd (gd x28 true (lift (nilck x30))) fun x31 =>
    bnd (gd x28 true (lift (faddr 1 x31))) fun x32 =>
    bnd (gd x28 true (ld1 x32)) fun x33 =>
    bnd (gd x28 true (lift (some (at_ vs_2 4)))) fun x34 =>
    bnd (gd x28 true (lift (iaddrS 3 x33 x34))) fun x35 =>
    bnd (gd x28 true (lift (faddr 1 x35))) fun x36 =>
    bnd (gd x28 true (ld1 x36)) fun x37 =>
    bnd (gd x28 true (lift (some (at_ vs_2 2)))) fun x38 =>
    bnd (gd x28 true (lift (bin .eql x37 x38))) fun x39 =>
    bnd (lift (pickV x28 x39 (Value.bool false))) fun x40 =>
    bnd (gd x40 true (lift (some (at_ vs_2 0)))) fun x42 =>
    bnd (gd x40 true (lift (nilck x42))) fun x43 =>
    bnd (gd x40 true (lift (faddr 1 x43))) fun x44 =>
    bnd (gd x40 true (ld1 x44)) fun x45 =>
    bnd (gd x40 true (lift (some (at_ vs_2 4)))) fun x46 =>
    bnd (gd x40 true (lift (iaddrS 3 x45 x46))) fun x47 =>
    bnd (gd x40 true (lift (faddr 2 x47))) fun x48 =>
    bnd (gd x40 true (ld1 x48)) fun x49 =>
    bnd (gd x40 true (lift (some x49))) fun x50 =>
    bnd (gd x50 false (lift (some (at_ vs_2 3)))) fun x51 =>
    bnd (gd x50 false (lift (un .not x51))) fun x52 =>
    bnd (gd x40 true (lift (pickV x50 (Value.bool true) x52))) fun x53 =>
    bnd (lift (pickV x40 x53 (Value.bool false))) fun x54 =>
    condM x54 (
      ret (.ret [(Value.bool true)])
      ) (
      ret (.nxt [(at_ vs_2 0), (at_ vs_2 1), (at_ vs_2 2), (at_ vs_2 3), (at_ vs_2 4)])
      )
    ) fun o => ret (unblk 1 o)
  ) fun o => nx o ref19_Bank_may_k0
def ref19_Bank_may_l2 (vs : List V) : M Out :=
  bnd (
  bnd (lift (nilck (at_ vs 0))) fun x12 =>
  bnd (lift (faddr 1 x12)) fun x13 =>
  bnd (ld1 x13) fun x14 =>
  bnd (lift (lenSlc x14)) fun x15 =>
  bnd (lift (bin .lss (at_ vs 4) x15)) fun x16 =>
  condM x16 (
    ret (.nxt [(at_ vs 0), (at_ vs 1), (at_ vs 2), (at_ vs 3), (at_ vs 4)])
    ) (
    ret (.brk 0 [])
    )
  ) fun o => nx o ref19_Bank_may_k1
def ref19_Bank_may_k3 (vs_4 : List V) : M Out :=
  ret (.ret [(Value.bool false)])
def F_ref19_Bank_may (x0 x1 x2 x3 : V) : M V :=
  bnd (
    bnd (
      bnd (
        loopM FUEL ref19_Bank_may_l2 [x0, x1, x2, x3, (Value.int .i64 0)]
        ) fun o => ret (unblk 0 o)
      ) fun o => nx o ref19_Bank_may_k3
    ) fun o => finM o fun vs => ret (outV [(at_ vs 0)])
def h_ref19_Bank_may : Hint := (.seq [] .leaf (.seq [] (.seq [] .leaf (.blk (.loop [0, 1, 2, 3, 9] (.seq [0, 1, 2, 3, 9] (.seq [] .leaf (.cond .leaf .leaf)) (.seq [0, 1, 2, 3, 9] (.blk (.seq [] .leaf (.cond (.seq [] .leaf .leaf) .leaf))) .leaf))))) (.seq [] .leaf .leaf)))
def A_ref19_Bank_may (l : List V) : M V := match l with | [x0, x1, x2, x3] => F_ref19_Bank_may x0 x1 x2 x3 | _ => fail
theorem e_ref19_Bank_may (x0 x1 x2 x3 : V) : funM Try.prog (ovr [] noC) fid_ref19_Bank_may h_ref19_Bank_may [x0, x1, x2, x3] = F_ref19_Bank_may x0 x1 x2 x3 := by kernel_rfl
theorem K_ref19_Bank_may : Known Try.prog fid_ref19_Bank_may (A_ref19_Bank_may) := known_of (σ := ovr [] noC) (hint := h_ref19_Bank_may) (by kernel_rfl) simAll_nil0 fun l H r H' h => by
  unfold A_ref19_Bank_may at h; split at h
  · rw [e_ref19_Bank_may]; exact h
  · exact (fail_ne h).elim

/-! ### (*capstan/capstanref19.Bank).value -/
def ref19_Bank_value_k0 (vs : List V) : M Out :=
  bnd (lift (nilck (at_ vs 0))) fun x20 =>
  bnd (lift (faddr 2 x20)) fun x21 =>
  bnd (ld1 x21) fun x22 =>
  bnd (lift (iaddrS 1 x22 (at_ vs 1))) fun x24 =>
  bnd (ld1 x24) fun x25 =>
  ret (.ret [x25])
def F_ref19_Bank_value (x0 x1 : V) : M V :=
  bnd (
    bnd (
      bnd (lift (nilck x0)) fun x6 =>
      bnd (lift (faddr 3 x6)) fun x7 =>
      bnd (ld1 x7) fun x8 =>
      bnd (lift (iaddrS 1 x8 x1)) fun x10 =>
      bnd (ld1 x10) fun x11 =>
      condM x11 (
        bnd (lift (nilck x0)) fun x13 =>
        bnd (lift (faddr 4 x13)) fun x14 =>
        bnd (ld1 x14) fun x15 =>
        bnd (lift (iaddrS 1 x15 x1)) fun x17 =>
        bnd (ld1 x17) fun x18 =>
        ret (.ret [x18])
        ) (
        ret (.nxt [x0, x1])
        )
      ) fun o => nx o ref19_Bank_value_k0
    ) fun o => finM o fun vs => ret (outV [(at_ vs 0)])
def h_ref19_Bank_value : Hint := (.seq [] .leaf (.seq [0, 1] (.seq [] .leaf (.cond (.seq [] .leaf .leaf) .leaf)) (.seq [] .leaf .leaf)))
def A_ref19_Bank_value (l : List V) : M V := match l with | [x0, x1] => F_ref19_Bank_value x0 x1 | _ => fail
theorem e_ref19_Bank_value (x0 x1 : V) : funM Try.prog (ovr [] noC) fid_ref19_Bank_value h_ref19_Bank_value [x0, x1] = F_ref19_Bank_value x0 x1 := by kernel_rfl
theorem K_ref19_Bank_value : Known Try.prog fid_ref19_Bank_value (A_ref19_Bank_value) := known_of (σ := ovr [] noC) (hint := h_ref19_Bank_value) (by kernel_rfl) simAll_nil0 fun l H r H' h => by
  unfold A_ref19_Bank_value at h; split at h
  · rw [e_ref19_Bank_value]; exact h
  · exact (fail_ne h).elim

/-! ### (*capstan/capstanref19.Bank).Read -/
def ref19_Bank_Read_k0 (vs_2 : List V) : M Out :=
  bnd (A_ref19_Bank_value [(at_ vs_2 0), (at_ vs_2 1)]) fun x20 =>
  ret (.ret [x20, (Value.int .i64 0)])
def ref19_Bank_Read_k1 (vs : List V) : M Out :=
  bnd (
    bnd (A_ref19_Bank_may [(at_ vs 0), (at_ vs 1), (at_ vs 2), (Value.bool false)]) fun x16 =>
    bnd (lift (un .not x16)) fun x17 =>
    condM x17 (
      ret (.ret [(Value.int .i64 0), (Value.int .i64 190)])
      ) (
      ret (.nxt [(at_ vs 0), (at_ vs 2)])
      )
    ) fun o => nx o ref19_Bank_Read_k0
def F_ref19_Bank_Read (x0 x1 x2 : V) : M V :=
  bnd (
    bnd (
      bnd (A_ref19_Bank_there [x0, x1, x2]) fun x11 =>
      bnd (lift (un .not x11)) fun x12 =>
      condM x12 (
        ret (.ret [(Value.int .i64 0), (Value.int .i64 1)])
        ) (
        ret (.nxt [x0, x1, x2])
        )
      ) fun o => nx o ref19_Bank_Read_k1
    ) fun o => finM o fun vs => ret (outV [(at_ vs 0), (at_ vs 1)])
def h_ref19_Bank_Read : Hint := (.seq [] .leaf (.seq [0, 1, 2] (.seq [] .leaf (.cond (.seq [] .leaf .leaf) .leaf)) (.seq [0, 2] (.seq [] .leaf (.cond (.seq [] .leaf .leaf) .leaf)) (.seq [] .leaf .leaf))))
def A_ref19_Bank_Read (l : List V) : M V := match l with | [x0, x1, x2] => F_ref19_Bank_Read x0 x1 x2 | _ => fail
def s_ref19_Bank_Read : Calls' := ovr [(fid_ref19_Bank_there, A_ref19_Bank_there), (fid_ref19_Bank_may, A_ref19_Bank_may), (fid_ref19_Bank_value, A_ref19_Bank_value)] noC
theorem e_ref19_Bank_Read (x0 x1 x2 : V) : funM Try.prog (s_ref19_Bank_Read) fid_ref19_Bank_Read h_ref19_Bank_Read [x0, x1, x2] = F_ref19_Bank_Read x0 x1 x2 := by kernel_rfl
theorem K_ref19_Bank_Read : Known Try.prog fid_ref19_Bank_Read (A_ref19_Bank_Read) := known_of (σ := s_ref19_Bank_Read) (hint := h_ref19_Bank_Read) (by kernel_rfl) (simAll_ovr K_ref19_Bank_there (simAll_ovr K_ref19_Bank_may (simAll_ovr K_ref19_Bank_value simAll_nil0))) fun l H r H' h => by
  unfold A_ref19_Bank_Read at h; split at h
  · rw [e_ref19_Bank_Read]; exact h
  · exact (fail_ne h).elim

/-! ### (*capstan/capstanref19.Bank).Write -/
def ref19_Bank_Write_k0 (vs_3 : List V) : M Out :=
  bnd (bslc 3 0 (rep 0 [Value.int .i64 0, Value.int .i64 0, Value.int .i64 0]) []) fun x31 =>
  bnd (lift (nilck (at_ vs_3 0))) fun x33 =>
  bnd (lift (faddr 5 x33)) fun x34 =>
  bnd (ld1 x34) fun x35 =>
  bnd (appV 3 24 x31 x35) fun x36 =>
  bnd (lift (build [Value.int .i64 0, Value.int .i64 0, Value.int .i64 0] [(0, 1, (at_ vs_3 1)), (1, 1, (at_ vs_3 2)), (2, 1, (at_ vs_3 3))])) fun x40 =>
  bnd (bslc 3 1 (rep 1 [Value.int .i64 0, Value.int .i64 0, Value.int .i64 0]) [(0, 3, x40)]) fun x41 =>
  bnd (appV 3 24 x36 x41) fun x42 =>
  bnd (lift (nilck (at_ vs_3 0))) fun x43 =>
  bnd (lift (faddr 5 x43)) fun x44 =>
  bnd (st1 x44 x42) fun _ =>
  ret (.ret [(Value.int .i64 0)])
def ref19_Bank_Write_k1 (vs_2 : List V) : M Out :=
  bnd (
    bnd (lift (nilck (at_ vs_2 0))) fun x20 =>
    bnd (lift (faddr 0 x20)) fun x21 =>
    bnd (ld1 x21) fun x22 =>
    bnd (lift (iaddrS 2 x22 (at_ vs_2 2))) fun x24 =>
    bnd (lift (faddr 0 x24)) fun x25 =>
    bnd (ld1 x25) fun x26 =>
    bnd (A_ref04_Fits [x26, (at_ vs_2 3)]) fun x28 =>
    bnd (lift (un .not x28)) fun x29 =>
    condM x29 (
      ret (.ret [(Value.int .i64 1)])
      ) (
      ret (.nxt [(at_ vs_2 0), (at_ vs_2 1), (at_ vs_2 2), (at_ vs_2 3)])
      )
    ) fun o => nx o ref19_Bank_Write_k0
def ref19_Bank_Write_k2 (vs : List V) : M Out :=
  bnd (
    bnd (A_ref19_Bank_may [(at_ vs 0), (at_ vs 1), (at_ vs 2), (Value.bool true)]) fun x17 =>
    bnd (lift (un .not x17)) fun x18 =>
    condM x18 (
      ret (.ret [(Value.int .i64 190)])
      ) (
      ret (.nxt [(at_ vs 0), (at_ vs 1), (at_ vs 2), (at_ vs 3)])
      )
    ) fun o => nx o ref19_Bank_Write_k1
def F_ref19_Bank_Write (x0 x1 x2 x3 : V) : M V :=
  bnd (
    bnd (
      bnd (A_ref19_Bank_there [x0, x1, x2]) fun x12 =>
      bnd (lift (un .not x12)) fun x13 =>
      condM x13 (
        ret (.ret [(Value.int .i64 1)])
        ) (
        ret (.nxt [x0, x1, x2, x3])
        )
      ) fun o => nx o ref19_Bank_Write_k2
    ) fun o => finM o fun vs => ret (outV [(at_ vs 0)])
def h_ref19_Bank_Write : Hint := (.seq [] .leaf (.seq [0, 1, 2, 3] (.seq [] .leaf (.cond (.seq [] .leaf .leaf) .leaf)) (.seq [0, 1, 2, 3] (.seq [] .leaf (.cond (.seq [] .leaf .leaf) .leaf)) (.seq [0, 1, 2, 3] (.seq [] .leaf (.cond (.seq [] .leaf .leaf) .leaf)) (.seq [] .leaf (.seq [] .leaf .leaf))))))
def A_ref19_Bank_Write (l : List V) : M V := match l with | [x0, x1, x2, x3] => F_ref19_Bank_Write x0 x1 x2 x3 | _ => fail
def s_ref19_Bank_Write : Calls' := ovr [(fid_ref19_Bank_there, A_ref19_Bank_there), (fid_ref19_Bank_may, A_ref19_Bank_may), (fid_ref04_Fits, A_ref04_Fits)] noC
theorem e_ref19_Bank_Write (x0 x1 x2 x3 : V) : funM Try.prog (s_ref19_Bank_Write) fid_ref19_Bank_Write h_ref19_Bank_Write [x0, x1, x2, x3] = F_ref19_Bank_Write x0 x1 x2 x3 := by kernel_rfl
theorem K_ref19_Bank_Write : Known Try.prog fid_ref19_Bank_Write (A_ref19_Bank_Write) := known_of (σ := s_ref19_Bank_Write) (hint := h_ref19_Bank_Write) (by kernel_rfl) (simAll_ovr K_ref19_Bank_there (simAll_ovr K_ref19_Bank_may (simAll_ovr K_ref04_Fits simAll_nil0))) fun l H r H' h => by
  unfold A_ref19_Bank_Write at h; split at h
  · rw [e_ref19_Bank_Write]; exact h
  · exact (fail_ne h).elim

/-! ### (*capstan/capstanref19.Bank).end -/
def ref19_Bank_end_k0 (vs_4 : List V) : M Out :=
  bnd (lift (bin .add (at_ vs_4 4) (Value.int .i64 1))) fun x23 =>
  ret (.nxt [(at_ vs_4 0), (at_ vs_4 1), (at_ vs_4 2), (at_ vs_4 3), x23])
def ref19_Bank_end_k1 (vs_3 : List V) : M Out :=
  bnd (
  bnd (
    bnd (lift (nilck (at_ vs_3 0))) fun x25 =>
    bnd (lift (faddr 5 x25)) fun x26 =>
    bnd (ld1 x26) fun x27 =>
    bnd (lift (iaddrS 3 x27 (at_ vs_3 4))) fun x29 =>
    bnd (lift (faddr 0 x29)) fun x30 =>
    bnd (ld1 x30) fun x31 =>
    bnd (lift (bin .neq x31 (at_ vs_3 1))) fun x33 =>
    condM x33 (
      bnd (lift (nilck (at_ vs_3 0))) fun x36 =>
      bnd (lift (faddr 5 x36)) fun x37 =>
      bnd (ld1 x37) fun x38 =>
      bnd (lift (iaddrS 3 x38 (at_ vs_3 4))) fun x40 =>
      bnd (ldn 3 x40) fun x41 =>
      bnd (bslc 3 1 (rep 1 [Value.int .i64 0, Value.int .i64 0, Value.int .i64 0]) [(0, 3, x41)]) fun x42 =>
      bnd (appV 3 24 (at_ vs_3 3) x42) fun x43 =>
      ret (.nxt [(at_ vs_3 0), (at_ vs_3 1), (at_ vs_3 2), x43, (at_ vs_3 4)])
      ) (
      condM (at_ vs_3 2) (
        bnd (lift (nilck (at_ vs_3 0))) fun x46 =>
        bnd (lift (faddr 2 x46)) fun x47 =>
        bnd (lift (nilck (at_ vs_3 0))) fun x50 =>
        bnd (lift (faddr 5 x50)) fun x51 =>
        bnd (lift (nilck (at_ vs_3 0))) fun x58 =>
        bnd (lift (faddr 5 x58)) fun x59 =>
        bnd (ld1 x47) fun x48 =>
        bnd (ld1 x51) fun x52 =>
        bnd (lift (iaddrS 3 x52 (at_ vs_3 4))) fun x54 =>
        bnd (lift (faddr 1 x54)) fun x55 =>
        bnd (ld1 x55) fun x56 =>
        bnd (ld1 x59) fun x60 =>
        bnd (lift (iaddrS 3 x60 (at_ vs_3 4))) fun x62 =>
        bnd (lift (faddr 2 x62)) fun x63 =>
        bnd (ld1 x63) fun x64 =>
        bnd (lift (iaddrS 1 x48 x56)) fun x65 =>
        bnd (st1 x65 x64) fun _ =>
        ret (.nxt [(at_ vs_3 0), (at_ vs_3 1), (at_ vs_3 2), (at_ vs_3 3), (at_ vs_3 4)])
        ) (
        ret (.nxt [(at_ vs_3 0), (at_ vs_3 1), (at_ vs_3 2), (at_ vs_3 3), (at_ vs_3 4)])
        )
      )
    ) fun o => ret (unblk 1 o)
  ) fun o => nx o ref19_Bank_end_k0
def ref19_Bank_end_l2 (vs_2 : List V) : M Out :=
  bnd (
  bnd (lift (nilck (at_ vs_2 0))) fun x17 =>
  bnd (lift (faddr 5 x17)) fun x18 =>
  bnd (ld1 x18) fun x19 =>
  bnd (lift (lenSlc x19)) fun x20 =>
  bnd (lift (bin .lss (at_ vs_2 4) x20)) fun x21 =>
  condM x21 (
    ret (.nxt [(at_ vs_2 0), (at_ vs_2 1), (at_ vs_2 2), (at_ vs_2 3), (at_ vs_2 4)])
    ) (
    ret (.brk 0 [(at_ vs_2 0), (at_ vs_2 3)])
    )
  ) fun o => nx o ref19_Bank_end_k1
def ref19_Bank_end_k3 (vs_5 : List V) : M Out :=
  bnd (lift (nilck (at_ vs_5 0))) fun x68 =>
  bnd (lift (faddr 5 x68)) fun x69 =>
  bnd (st1 x69 (at_ vs_5 1)) fun _ =>
  ret (.ret [(Value.int .i64 0)])
def ref19_Bank_end_k4 (vs : List V) : M Out :=
  bnd (
    bnd (
      loopM FUEL ref19_Bank_end_l2 [(at_ vs 0), (at_ vs 1), (at_ vs 2), (Value.slice none 0 0), (Value.int .i64 0)]
      ) fun o => ret (unblk 0 o)
    ) fun o => nx o ref19_Bank_end_k3
def F_ref19_Bank_end (x0 x1 x2 : V) : M V :=
  bnd (
    bnd (
      bnd (lift (bin .lss x1 (Value.int .i64 0))) fun x10 =>
      bnd (gd x10 false (lift (some x1))) fun x12 =>
      bnd (gd x10 false (lift (bin .geq x12 (Value.int .i64 8)))) fun x13 =>
      bnd (lift (pickV x10 (Value.bool true) x13)) fun x14 =>
      condM x14 (
        ret (.ret [(Value.int .i64 1)])
        ) (
        ret (.nxt [x0, x1, x2])
        )
      ) fun o => nx o ref19_Bank_end_k4
    ) fun o => finM o fun vs => ret (outV [(at_ vs 0)])
def h_ref19_Bank_end : Hint := (.seq [] .leaf (.seq [0, 1, 2] (.seq [] .leaf (.cond (.seq [] .leaf .leaf) .leaf)) (.seq [] .leaf (.seq [0, 7] (.seq [] .leaf (.blk (.loop [0, 1, 2, 7, 8] (.seq [0, 1, 2, 7, 8] (.seq [] .leaf (.cond .leaf .leaf)) (.seq [0, 1, 2, 7, 8] (.blk (.seq [] .leaf (.cond .leaf (.seq [] .leaf (.cond (.reg [0, 1, 2, 4, 5, 6, 8, 12, 13, 14, 16, 3, 7, 9, 10, 11, 15, 17, 18, 19, 20, 21] []) .leaf))))) .leaf))))) (.seq [] .leaf (.seq [] .leaf .leaf))))))
def A_ref19_Bank_end (l : List V) : M V := match l with | [x0, x1, x2] => F_ref19_Bank_end x0 x1 x2 | _ => fail
theorem e_ref19_Bank_end (x0 x1 x2 : V) : funM Try.prog (ovr [] noC) fid_ref19_Bank_end h_ref19_Bank_end [x0, x1, x2] = F_ref19_Bank_end x0 x1 x2 := by kernel_rfl
theorem K_ref19_Bank_end : Known Try.prog fid_ref19_Bank_end (A_ref19_Bank_end) := known_of (σ := ovr [] noC) (hint := h_ref19_Bank_end) (by kernel_rfl) simAll_nil0 fun l H r H' h => by
  unfold A_ref19_Bank_end at h; split at h
  · rw [e_ref19_Bank_end]; exact h
  · exact (fail_ne h).elim

/-! ### (*capstan/capstanref19.Bank).Commit -/
def F_ref19_Bank_Commit (x0 x1 : V) : M V :=
  bnd (
    bnd (A_ref19_Bank_end [x0, x1, (Value.bool true)]) fun x7 =>
    ret (.ret [x7])
    ) fun o => finM o fun vs => ret (outV [(at_ vs 0)])
def h_ref19_Bank_Commit : Hint := (.seq [] .leaf (.seq [] .leaf .leaf))
def A_ref19_Bank_Commit (l : List V) : M V := match l with | [x0, x1] => F_ref19_Bank_Commit x0 x1 | _ => fail
def s_ref19_Bank_Commit : Calls' := ovr [(fid_ref19_Bank_end, A_ref19_Bank_end)] noC
theorem e_ref19_Bank_Commit (x0 x1 : V) : funM Try.prog (s_ref19_Bank_Commit) fid_ref19_Bank_Commit h_ref19_Bank_Commit [x0, x1] = F_ref19_Bank_Commit x0 x1 := by kernel_rfl
theorem K_ref19_Bank_Commit : Known Try.prog fid_ref19_Bank_Commit (A_ref19_Bank_Commit) := known_of (σ := s_ref19_Bank_Commit) (hint := h_ref19_Bank_Commit) (by kernel_rfl) (simAll_ovr K_ref19_Bank_end simAll_nil0) fun l H r H' h => by
  unfold A_ref19_Bank_Commit at h; split at h
  · rw [e_ref19_Bank_Commit]; exact h
  · exact (fail_ne h).elim

/-! ### (*capstan/points.Bank).Drop -/
def F_points_Bank_Drop (G_maps_DeleteFunc_map_points_pair_int64_points_pair_int64 : List V → M V) (x0 x1 : V) : M V :=
  bnd (
    bnd ((A_points_Bank_end G_maps_DeleteFunc_map_points_pair_int64_points_pair_int64) [x0, x1, (Value.bool false)]) fun x7 =>
    ret (.ret [x7])
    ) fun o => finM o fun vs => ret (outV [(at_ vs 0)])
def h_points_Bank_Drop : Hint := (.seq [] .leaf (.seq [] .leaf .leaf))
def A_points_Bank_Drop (G_maps_DeleteFunc_map_points_pair_int64_points_pair_int64 : List V → M V) (l : List V) : M V := match l with | [x0, x1] => F_points_Bank_Drop G_maps_DeleteFunc_map_points_pair_int64_points_pair_int64 x0 x1 | _ => fail
theorem e_points_Bank_Drop (G_maps_DeleteFunc_map_points_pair_int64_points_pair_int64 : List V → M V) (x0 x1 : V) : funM Try.prog (ovr [(fid_points_Bank_end, A_points_Bank_end G_maps_DeleteFunc_map_points_pair_int64_points_pair_int64)] noC) fid_points_Bank_Drop h_points_Bank_Drop [x0, x1] = F_points_Bank_Drop G_maps_DeleteFunc_map_points_pair_int64_points_pair_int64 x0 x1 := by kernel_rfl
theorem K_points_Bank_Drop {G_maps_DeleteFunc_map_points_pair_int64_points_pair_int64 : List V → M V} (k_maps_DeleteFunc_map_points_pair_int64_points_pair_int64 : Known Try.prog fid_maps_DeleteFunc_map_points_pair_int64_points_pair_int64 G_maps_DeleteFunc_map_points_pair_int64_points_pair_int64) : Known Try.prog fid_points_Bank_Drop (A_points_Bank_Drop G_maps_DeleteFunc_map_points_pair_int64_points_pair_int64) := known_of (σ := ovr [(fid_points_Bank_end, A_points_Bank_end G_maps_DeleteFunc_map_points_pair_int64_points_pair_int64)] noC) (hint := h_points_Bank_Drop) (by kernel_rfl) (simAll_ovr (K_points_Bank_end k_maps_DeleteFunc_map_points_pair_int64_points_pair_int64) simAll_nil0) fun l H r H' h => by
  unfold A_points_Bank_Drop at h; split at h
  · rw [e_points_Bank_Drop]; exact h
  · exact (fail_ne h).elim

/-! ### (*capstan/capstanref19.Bank).Drop -/
def F_ref19_Bank_Drop (x0 x1 : V) : M V :=
  bnd (
    bnd (A_ref19_Bank_end [x0, x1, (Value.bool false)]) fun x7 =>
    ret (.ret [x7])
    ) fun o => finM o fun vs => ret (outV [(at_ vs 0)])
def h_ref19_Bank_Drop : Hint := (.seq [] .leaf (.seq [] .leaf .leaf))
def A_ref19_Bank_Drop (l : List V) : M V := match l with | [x0, x1] => F_ref19_Bank_Drop x0 x1 | _ => fail
def s_ref19_Bank_Drop : Calls' := ovr [(fid_ref19_Bank_end, A_ref19_Bank_end)] noC
theorem e_ref19_Bank_Drop (x0 x1 : V) : funM Try.prog (s_ref19_Bank_Drop) fid_ref19_Bank_Drop h_ref19_Bank_Drop [x0, x1] = F_ref19_Bank_Drop x0 x1 := by kernel_rfl
theorem K_ref19_Bank_Drop : Known Try.prog fid_ref19_Bank_Drop (A_ref19_Bank_Drop) := known_of (σ := s_ref19_Bank_Drop) (hint := h_ref19_Bank_Drop) (by kernel_rfl) (simAll_ovr K_ref19_Bank_end simAll_nil0) fun l H r H' h => by
  unfold A_ref19_Bank_Drop at h; split at h
  · rw [e_ref19_Bank_Drop]; exact h
  · exact (fail_ne h).elim

/-! ### (*capstan/points.Bank).Force -/
def points_Bank_Force_k0 (vs : List V) : M Out :=
  bnd (lift (nilck (at_ vs 0))) fun x13 =>
  bnd (lift (faddr 3 x13)) fun x14 =>
  bnd (ld1 x14) fun x15 =>
  bnd (mapSet (.one .i) x15 (at_ vs 1) (at_ vs 2)) fun _ =>
  ret (.ret [(Value.int .i64 0)])
def F_points_Bank_Force (x0 x1 x2 : V) : M V :=
  bnd (
    bnd (
      bnd (A_points_Bank_fits [x0, x1, x2]) fun x10 =>
      bnd (lift (un .not x10)) fun x11 =>
      condM x11 (
        ret (.ret [(Value.int .i64 1)])
        ) (
        ret (.nxt [x0, x1, x2])
        )
      ) fun o => nx o points_Bank_Force_k0
    ) fun o => finM o fun vs => ret (outV [(at_ vs 0)])
def h_points_Bank_Force : Hint := (.seq [] .leaf (.seq [0, 1, 2] (.seq [] .leaf (.cond (.seq [] .leaf .leaf) .leaf)) (.seq [] .leaf (.seq [] .leaf .leaf))))
def A_points_Bank_Force (l : List V) : M V := match l with | [x0, x1, x2] => F_points_Bank_Force x0 x1 x2 | _ => fail
def s_points_Bank_Force : Calls' := ovr [(fid_points_Bank_fits, A_points_Bank_fits)] noC
theorem e_points_Bank_Force (x0 x1 x2 : V) : funM Try.prog (s_points_Bank_Force) fid_points_Bank_Force h_points_Bank_Force [x0, x1, x2] = F_points_Bank_Force x0 x1 x2 := by kernel_rfl
theorem K_points_Bank_Force : Known Try.prog fid_points_Bank_Force (A_points_Bank_Force) := known_of (σ := s_points_Bank_Force) (hint := h_points_Bank_Force) (by kernel_rfl) (simAll_ovr K_points_Bank_fits simAll_nil0) fun l H r H' h => by
  unfold A_points_Bank_Force at h; split at h
  · rw [e_points_Bank_Force]; exact h
  · exact (fail_ne h).elim

/-! ### (*capstan/capstanref19.Bank).Force -/
def ref19_Bank_Force_k0 (vs : List V) : M Out :=
  bnd (lift (nilck (at_ vs 0))) fun x25 =>
  bnd (lift (faddr 3 x25)) fun x26 =>
  bnd (ld1 x26) fun x27 =>
  bnd (lift (iaddrS 1 x27 (at_ vs 1))) fun x29 =>
  bnd (st1 x29 (Value.bool true)) fun _ =>
  bnd (lift (nilck (at_ vs 0))) fun x31 =>
  bnd (lift (faddr 4 x31)) fun x32 =>
  bnd (ld1 x32) fun x33 =>
  bnd (lift (iaddrS 1 x33 (at_ vs 1))) fun x36 =>
  bnd (st1 x36 (at_ vs 2)) fun _ =>
  ret (.ret [(Value.int .i64 0)])
def F_ref19_Bank_Force (x0 x1 x2 : V) : M V :=
  bnd (
    bnd (
      bnd (A_ref19_Bank_there [x0, (Value.int .i64 0), x1]) fun x9 =>
      bnd (lift (un .not x9)) fun x10 =>
      bnd (gd x10 false (lift (some x0))) fun x12 =>
      bnd (gd x10 false (lift (nilck x12))) fun x13 =>
      bnd (gd x10 false (lift (faddr 0 x13))) fun x14 =>
      bnd (gd x10 false (ld1 x14)) fun x15 =>
      bnd (gd x10 false (lift (some x1))) fun x16 =>
      bnd (gd x10 false (lift (iaddrS 2 x15 x16))) fun x17 =>
      bnd (gd x10 false (lift (faddr 0 x17))) fun x18 =>
      bnd (gd x10 false (ld1 x18)) fun x19 =>
      bnd (gd x10 false (lift (some x2))) fun x20 =>
      bnd (gd x10 false (A_ref04_Fits [x19, x20])) fun x21 =>
      bnd (gd x10 false (lift (un .not x21))) fun x22 =>
      bnd (lift (pickV x10 (Value.bool true) x22)) fun x23 =>
      condM x23 (
        ret (.ret [(Value.int .i64 1)])
        ) (
        ret (.nxt [x0, x1, x2])
        )
      ) fun o => nx o ref19_Bank_Force_k0
    ) fun o => finM o fun vs => ret (outV [(at_ vs 0)])
def h_ref19_Bank_Force : Hint := (.seq [] .leaf (.seq [0, 1, 2] (.seq [] .leaf (.cond (.seq [] .leaf .leaf) .leaf)) (.seq [] .leaf (.seq [] .leaf (.seq [] .leaf .leaf)))))
def A_ref19_Bank_Force (l : List V) : M V := match l with | [x0, x1, x2] => F_ref19_Bank_Force x0 x1 x2 | _ => fail
def s_ref19_Bank_Force : Calls' := ovr [(fid_ref19_Bank_there, A_ref19_Bank_there), (fid_ref04_Fits, A_ref04_Fits)] noC
theorem e_ref19_Bank_Force (x0 x1 x2 : V) : funM Try.prog (s_ref19_Bank_Force) fid_ref19_Bank_Force h_ref19_Bank_Force [x0, x1, x2] = F_ref19_Bank_Force x0 x1 x2 := by kernel_rfl
theorem K_ref19_Bank_Force : Known Try.prog fid_ref19_Bank_Force (A_ref19_Bank_Force) := known_of (σ := s_ref19_Bank_Force) (hint := h_ref19_Bank_Force) (by kernel_rfl) (simAll_ovr K_ref19_Bank_there (simAll_ovr K_ref04_Fits simAll_nil0)) fun l H r H' h => by
  unfold A_ref19_Bank_Force at h; split at h
  · rw [e_ref19_Bank_Force]; exact h
  · exact (fail_ne h).elim

/-! ### (*capstan/points.Bank).Free -/
def points_Bank_Free_k0 (vs : List V) : M Out :=
  bnd (lift (nilck (at_ vs 0))) fun x17 =>
  bnd (lift (faddr 3 x17)) fun x18 =>
  bnd (ld1 x18) fun x19 =>
  bnd (mapDel (.one .i) x19 (at_ vs 1)) fun _ =>
  ret (.ret [(Value.int .i64 0)])
def F_points_Bank_Free (x0 x1 : V) : M V :=
  bnd (
    bnd (
      bnd (lift (bin .lss x1 (Value.int .i64 0))) fun x6 =>
      bnd (gd x6 false (lift (some x1))) fun x8 =>
      bnd (gd x6 false (lift (some x0))) fun x9 =>
      bnd (gd x6 false (lift (nilck x9))) fun x10 =>
      bnd (gd x6 false (lift (faddr 0 x10))) fun x11 =>
      bnd (gd x6 false (ld1 x11)) fun x12 =>
      bnd (gd x6 false (lift (lenSlc x12))) fun x13 =>
      bnd (gd x6 false (lift (bin .geq x8 x13))) fun x14 =>
      bnd (lift (pickV x6 (Value.bool true) x14)) fun x15 =>
      condM x15 (
        ret (.ret [(Value.int .i64 1)])
        ) (
        ret (.nxt [x0, x1])
        )
      ) fun o => nx o points_Bank_Free_k0
    ) fun o => finM o fun vs => ret (outV [(at_ vs 0)])
def h_points_Bank_Free : Hint := (.seq [] .leaf (.seq [0, 1] (.seq [] .leaf (.cond (.seq [] .leaf .leaf) .leaf)) (.seq [] .leaf (.seq [] .leaf .leaf))))
def A_points_Bank_Free (l : List V) : M V := match l with | [x0, x1] => F_points_Bank_Free x0 x1 | _ => fail
theorem e_points_Bank_Free (x0 x1 : V) : funM Try.prog (ovr [] noC) fid_points_Bank_Free h_points_Bank_Free [x0, x1] = F_points_Bank_Free x0 x1 := by kernel_rfl
theorem K_points_Bank_Free : Known Try.prog fid_points_Bank_Free (A_points_Bank_Free) := known_of (σ := ovr [] noC) (hint := h_points_Bank_Free) (by kernel_rfl) simAll_nil0 fun l H r H' h => by
  unfold A_points_Bank_Free at h; split at h
  · rw [e_points_Bank_Free]; exact h
  · exact (fail_ne h).elim

/-! ### (*capstan/capstanref19.Bank).Free -/
def ref19_Bank_Free_k0 (vs : List V) : M Out :=
  bnd (lift (nilck (at_ vs 0))) fun x10 =>
  bnd (lift (faddr 3 x10)) fun x11 =>
  bnd (ld1 x11) fun x12 =>
  bnd (lift (iaddrS 1 x12 (at_ vs 1))) fun x14 =>
  bnd (st1 x14 (Value.bool false)) fun _ =>
  ret (.ret [(Value.int .i64 0)])
def F_ref19_Bank_Free (x0 x1 : V) : M V :=
  bnd (
    bnd (
      bnd (A_ref19_Bank_there [x0, (Value.int .i64 0), x1]) fun x7 =>
      bnd (lift (un .not x7)) fun x8 =>
      condM x8 (
        ret (.ret [(Value.int .i64 1)])
        ) (
        ret (.nxt [x0, x1])
        )
      ) fun o => nx o ref19_Bank_Free_k0
    ) fun o => finM o fun vs => ret (outV [(at_ vs 0)])
def h_ref19_Bank_Free : Hint := (.seq [] .leaf (.seq [0, 1] (.seq [] .leaf (.cond (.seq [] .leaf .leaf) .leaf)) (.seq [] .leaf (.seq [] .leaf .leaf))))
def A_ref19_Bank_Free (l : List V) : M V := match l with | [x0, x1] => F_ref19_Bank_Free x0 x1 | _ => fail
def s_ref19_Bank_Free : Calls' := ovr [(fid_ref19_Bank_there, A_ref19_Bank_there)] noC
theorem e_ref19_Bank_Free (x0 x1 : V) : funM Try.prog (s_ref19_Bank_Free) fid_ref19_Bank_Free h_ref19_Bank_Free [x0, x1] = F_ref19_Bank_Free x0 x1 := by kernel_rfl
theorem K_ref19_Bank_Free : Known Try.prog fid_ref19_Bank_Free (A_ref19_Bank_Free) := known_of (σ := s_ref19_Bank_Free) (hint := h_ref19_Bank_Free) (by kernel_rfl) (simAll_ovr K_ref19_Bank_there simAll_nil0) fun l H r H' h => by
  unfold A_ref19_Bank_Free at h; split at h
  · rw [e_ref19_Bank_Free]; exact h
  · exact (fail_ne h).elim

/-! ### capstan/capstanlaw19.step -/
def law19_step_k0 (G_maps_DeleteFunc_map_points_pair_int64_points_pair_int64 : List V → M V) (vs : List V) : M Out :=
  withH fun h0_6 =>
  bnd (lift (faddr 2 (at_ vs 2))) fun x119 =>
  bnd (lift (faddr 2 (at_ vs 2))) fun x123 =>
  bnd (ld1 x119) fun x120 =>
  bnd (ld1 x123) fun x124 =>
  bndH (A_points_Bank_Free [(at_ vs 0), x120]) fun ha_12 x121 h1_6 =>
  bndH (A_ref19_Bank_Free [(at_ vs 1), x124]) fun ha_13 x125 h2_6 =>
  bnd (lift (bin .eql x121 x125)) fun x126 =>
  need (chk (ld1 x123) h1_6 x124) <|
  ret (.ret [x126])
def F_law19_step (G_maps_DeleteFunc_map_points_pair_int64_points_pair_int64 : List V → M V) (x0 x1 x2 : V) : M V :=
  bnd (
    bnd (boxv x2) fun x5 =>
    bnd (
      bnd (lift (faddr 0 x5)) fun x12 =>
      bnd (ld1 x12) fun x13 =>
      bnd (A_law19_among [x13, (Value.int .i64 7)]) fun x14 =>
      bnd (
        bnd (lift (bin .eql x14 (Value.int .i64 0))) fun x16 =>
        condM x16 (
          bnd (lift (faddr 4 x5)) fun x17 =>
          bnd (ld1 x17) fun x18 =>
          bnd (A_book_LendNums [x18]) fun x19 =>
          withH fun h0 =>
          bnd (lift (faddr 4 x5)) fun x24 =>
          bnd (ld1 x24) fun x25 =>
          bndH (A_points_Bank_Latch [x0, x19]) fun ha x22 h1 =>
          bndH (A_ref19_Bank_Latch [x1, x25]) fun ha_2 x26 h2 =>
          bnd (lift (bin .eql x22 x26)) fun x27 =>
          bnd (gd x27 true (lift (some x19))) fun x29 =>
          bnd (gd x27 true (lift (faddr 4 x5))) fun x30 =>
          bnd (gd x27 true (ld1 x30)) fun x31 =>
          bndH (gd x27 true (A_book_KeptNums [x29, x31])) fun ha_3 x32 h3 =>
          bnd (lift (pickV x27 x32 (Value.bool false))) fun x33 =>
          need (chk (ld1 x24) h1 x25) <|
          ret (.ret [x33])
          ) (
          bnd (lift (bin .eql x14 (Value.int .i64 1))) fun x35 =>
          condM x35 (
            bnd (lift (faddr 1 x5)) fun x38 =>
            bnd (ld1 x38) fun x39 =>
            bnd (lift (faddr 2 x5)) fun x40 =>
            bnd (ld1 x40) fun x41 =>
            bnd (A_points_Bank_Read [x0, x39, x41]) fun x42 =>
            bnd (lift (ext 0 x42)) fun x43 =>
            bnd (lift (ext 1 x42)) fun x44 =>
            bnd (lift (faddr 1 x5)) fun x47 =>
            bnd (ld1 x47) fun x48 =>
            bnd (lift (faddr 2 x5)) fun x49 =>
            bnd (ld1 x49) fun x50 =>
            bnd (A_ref19_Bank_Read [x1, x48, x50]) fun x51 =>
            bnd (lift (ext 0 x51)) fun x52 =>
            bnd (lift (ext 1 x51)) fun x53 =>
            bnd (lift (bin .eql x43 x52)) fun x56 =>
            bnd (gd x56 true (lift (some x44))) fun x58 =>
            bnd (gd x56 true (lift (some x53))) fun x59 =>
            bnd (gd x56 true (lift (bin .eql x58 x59))) fun x60 =>
            bnd (lift (pickV x56 x60 (Value.bool false))) fun x61 =>
            ret (.ret [x61])
            ) (
            bnd (lift (bin .eql x14 (Value.int .i64 2))) fun x63 =>
            condM x63 (
              withH fun h0_2 =>
              bnd (lift (faddr 1 x5)) fun x65 =>
              bnd (lift (faddr 2 x5)) fun x67 =>
              bnd (lift (faddr 3 x5)) fun x69 =>
              bnd (lift (faddr 1 x5)) fun x73 =>
              bnd (lift (faddr 2 x5)) fun x75 =>
              bnd (lift (faddr 3 x5)) fun x77 =>
              bnd (ld1 x65) fun x66 =>
              bnd (ld1 x67) fun x68 =>
              bnd (ld1 x69) fun x70 =>
              bnd (ld1 x73) fun x74 =>
              bnd (ld1 x75) fun x76 =>
              bnd (ld1 x77) fun x78 =>
              bndH (A_points_Bank_Write [x0, x66, x68, x70]) fun ha_4 x71 h1_2 =>
              bndH (A_ref19_Bank_Write [x1, x74, x76, x78]) fun ha_5 x79 h2_2 =>
              bnd (lift (bin .eql x71 x79)) fun x80 =>
              need (chk (ld1 x73) h1_2 x74) <|
              need (chk (ld1 x75) h1_2 x76) <|
              need (chk (ld1 x77) h1_2 x78) <|
              ret (.ret [x80])
              ) (
              bnd (lift (bin .eql x14 (Value.int .i64 3))) fun x82 =>
              condM x82 (
                withH fun h0_3 =>
                bnd (lift (faddr 1 x5)) fun x84 =>
                bnd (lift (faddr 1 x5)) fun x88 =>
                bnd (ld1 x84) fun x85 =>
                bnd (ld1 x88) fun x89 =>
                bndH ((A_points_Bank_Commit G_maps_DeleteFunc_map_points_pair_int64_points_pair_int64) [x0, x85]) fun ha_6 x86 h1_3 =>
                bndH (A_ref19_Bank_Commit [x1, x89]) fun ha_7 x90 h2_3 =>
                bnd (lift (bin .eql x86 x90)) fun x91 =>
                need (chk (ld1 x88) h1_3 x89) <|
                ret (.ret [x91])
                ) (
                bnd (lift (bin .eql x14 (Value.int .i64 4))) fun x93 =>
                condM x93 (
                  withH fun h0_4 =>
                  bnd (lift (faddr 1 x5)) fun x95 =>
                  bnd (lift (faddr 1 x5)) fun x99 =>
                  bnd (ld1 x95) fun x96 =>
                  bnd (ld1 x99) fun x100 =>
                  bndH ((A_points_Bank_Drop G_maps_DeleteFunc_map_points_pair_int64_points_pair_int64) [x0, x96]) fun ha_8 x97 h1_4 =>
                  bndH (A_ref19_Bank_Drop [x1, x100]) fun ha_9 x101 h2_4 =>
                  bnd (lift (bin .eql x97 x101)) fun x102 =>
                  need (chk (ld1 x99) h1_4 x100) <|
                  ret (.ret [x102])
                  ) (
                  bnd (lift (bin .eql x14 (Value.int .i64 5))) fun x104 =>
                  condM x104 (
                    withH fun h0_5 =>
                    bnd (lift (faddr 2 x5)) fun x106 =>
                    bnd (lift (faddr 3 x5)) fun x108 =>
                    bnd (lift (faddr 2 x5)) fun x112 =>
                    bnd (lift (faddr 3 x5)) fun x114 =>
                    bnd (ld1 x106) fun x107 =>
                    bnd (ld1 x108) fun x109 =>
                    bnd (ld1 x112) fun x113 =>
                    bnd (ld1 x114) fun x115 =>
                    bndH (A_points_Bank_Force [x0, x107, x109]) fun ha_10 x110 h1_5 =>
                    bndH (A_ref19_Bank_Force [x1, x113, x115]) fun ha_11 x116 h2_5 =>
                    bnd (lift (bin .eql x110 x116)) fun x117 =>
                    need (chk (ld1 x112) h1_5 x113) <|
                    need (chk (ld1 x114) h1_5 x115) <|
                    ret (.ret [x117])
                    ) (
                    ret (.nxt [x0, x1, x5])
                    )
                  )
                )
              )
            )
          )
        ) fun o => ret (unblk 0 o)
      ) fun o => nx o (law19_step_k0 G_maps_DeleteFunc_map_points_pair_int64_points_pair_int64)
    ) fun o => finM o fun vs => ret (outV [(at_ vs 0)])
def h_law19_step : Hint := (.seq [] .leaf (.seq [0, 1, 5] (.seq [] .leaf (.blk (.seq [] .leaf (.cond (.seq [] .leaf (.seq [] (.reg [0, 1, 3, 4, 5, 2, 6, 7, 8, 9, 10, 11, 12, 13, 14] []) .leaf)) (.seq [] .leaf (.cond (.seq [] .leaf (.seq [] .leaf (.seq [] .leaf .leaf))) (.seq [] .leaf (.cond (.seq [] (.reg [0, 1, 3, 5, 8, 9, 11, 13, 2, 4, 6, 10, 12, 14, 7, 15, 16, 17] []) .leaf) (.seq [] .leaf (.cond (.seq [] (.reg [0, 1, 4, 5, 2, 6, 3, 7, 8, 9] []) .leaf) (.seq [] .leaf (.cond (.seq [] (.reg [0, 1, 4, 5, 2, 6, 3, 7, 8, 9] []) .leaf) (.seq [] .leaf (.cond (.seq [] (.reg [0, 1, 3, 6, 7, 9, 2, 4, 8, 10, 5, 11, 12, 13] []) .leaf) .leaf)))))))))))))) (.seq [] (.reg [0, 1, 4, 5, 2, 6, 3, 7, 8, 9] []) .leaf)))
def A_law19_step (G_maps_DeleteFunc_map_points_pair_int64_points_pair_int64 : List V → M V) (l : List V) : M V := match l with | [x0, x1, x2] => F_law19_step G_maps_DeleteFunc_map_points_pair_int64_points_pair_int64 x0 x1 x2 | _ => fail
theorem e_law19_step (G_maps_DeleteFunc_map_points_pair_int64_points_pair_int64 : List V → M V) (x0 x1 x2 : V) : funM Try.prog (ovr [(fid_law19_among, A_law19_among), (fid_book_LendNums, A_book_LendNums), (fid_points_Bank_Latch, A_points_Bank_Latch), (fid_ref19_Bank_Latch, A_ref19_Bank_Latch), (fid_book_KeptNums, A_book_KeptNums), (fid_points_Bank_Read, A_points_Bank_Read), (fid_ref19_Bank_Read, A_ref19_Bank_Read), (fid_points_Bank_Write, A_points_Bank_Write), (fid_ref19_Bank_Write, A_ref19_Bank_Write), (fid_points_Bank_Commit, A_points_Bank_Commit G_maps_DeleteFunc_map_points_pair_int64_points_pair_int64), (fid_ref19_Bank_Commit, A_ref19_Bank_Commit), (fid_points_Bank_Drop, A_points_Bank_Drop G_maps_DeleteFunc_map_points_pair_int64_points_pair_int64), (fid_ref19_Bank_Drop, A_ref19_Bank_Drop), (fid_points_Bank_Force, A_points_Bank_Force), (fid_ref19_Bank_Force, A_ref19_Bank_Force), (fid_points_Bank_Free, A_points_Bank_Free), (fid_ref19_Bank_Free, A_ref19_Bank_Free)] noC) fid_law19_step h_law19_step [x0, x1, x2] = F_law19_step G_maps_DeleteFunc_map_points_pair_int64_points_pair_int64 x0 x1 x2 := by kernel_rfl
theorem K_law19_step {G_maps_DeleteFunc_map_points_pair_int64_points_pair_int64 : List V → M V} (k_maps_DeleteFunc_map_points_pair_int64_points_pair_int64 : Known Try.prog fid_maps_DeleteFunc_map_points_pair_int64_points_pair_int64 G_maps_DeleteFunc_map_points_pair_int64_points_pair_int64) : Known Try.prog fid_law19_step (A_law19_step G_maps_DeleteFunc_map_points_pair_int64_points_pair_int64) := known_of (σ := ovr [(fid_law19_among, A_law19_among), (fid_book_LendNums, A_book_LendNums), (fid_points_Bank_Latch, A_points_Bank_Latch), (fid_ref19_Bank_Latch, A_ref19_Bank_Latch), (fid_book_KeptNums, A_book_KeptNums), (fid_points_Bank_Read, A_points_Bank_Read), (fid_ref19_Bank_Read, A_ref19_Bank_Read), (fid_points_Bank_Write, A_points_Bank_Write), (fid_ref19_Bank_Write, A_ref19_Bank_Write), (fid_points_Bank_Commit, A_points_Bank_Commit G_maps_DeleteFunc_map_points_pair_int64_points_pair_int64), (fid_ref19_Bank_Commit, A_ref19_Bank_Commit), (fid_points_Bank_Drop, A_points_Bank_Drop G_maps_DeleteFunc_map_points_pair_int64_points_pair_int64), (fid_ref19_Bank_Drop, A_ref19_Bank_Drop), (fid_points_Bank_Force, A_points_Bank_Force), (fid_ref19_Bank_Force, A_ref19_Bank_Force), (fid_points_Bank_Free, A_points_Bank_Free), (fid_ref19_Bank_Free, A_ref19_Bank_Free)] noC) (hint := h_law19_step) (by kernel_rfl) (simAll_ovr K_law19_among (simAll_ovr K_book_LendNums (simAll_ovr K_points_Bank_Latch (simAll_ovr K_ref19_Bank_Latch (simAll_ovr K_book_KeptNums (simAll_ovr K_points_Bank_Read (simAll_ovr K_ref19_Bank_Read (simAll_ovr K_points_Bank_Write (simAll_ovr K_ref19_Bank_Write (simAll_ovr (K_points_Bank_Commit k_maps_DeleteFunc_map_points_pair_int64_points_pair_int64) (simAll_ovr K_ref19_Bank_Commit (simAll_ovr (K_points_Bank_Drop k_maps_DeleteFunc_map_points_pair_int64_points_pair_int64) (simAll_ovr K_ref19_Bank_Drop (simAll_ovr K_points_Bank_Force (simAll_ovr K_ref19_Bank_Force (simAll_ovr K_points_Bank_Free (simAll_ovr K_ref19_Bank_Free simAll_nil0))))))))))))))))) fun l H r H' h => by
  unfold A_law19_step at h; split at h
  · rw [e_law19_step]; exact h
  · exact (fail_ne h).elim

/-! ### (*capstan/capstanref19.Bank).Outputs -/
def ref19_Bank_Outputs_k0 (vs_3 : List V) : M Out :=
  bnd (lift (bin .add (at_ vs_3 2) (Value.int .i64 1))) fun x13 =>
  ret (.nxt [(at_ vs_3 0), (at_ vs_3 1), x13])
def ref19_Bank_Outputs_k1 (vs_2 : List V) : M Out :=
  bnd (
  bnd (
    bnd (lift (nilck (at_ vs_2 0))) fun x15 =>
    bnd (lift (faddr 0 x15)) fun x16 =>
    bnd (ld1 x16) fun x17 =>
    bnd (lift (iaddrS 2 x17 (at_ vs_2 2))) fun x19 =>
    bnd (lift (faddr 1 x19)) fun x20 =>
    bnd (ld1 x20) fun x21 =>
    condM x21 (
      bnd (A_ref19_Bank_value [(at_ vs_2 0), (at_ vs_2 2)]) fun x25 =>
      bnd (bslc 1 1 (rep 1 [Value.int .i64 0]) [(0, 1, x25)]) fun x26 =>
      bnd (appV 1 8 (at_ vs_2 1) x26) fun x27 =>
      ret (.nxt [(at_ vs_2 0), x27, (at_ vs_2 2)])
      ) (
      ret (.nxt [(at_ vs_2 0), (at_ vs_2 1), (at_ vs_2 2)])
      )
    ) fun o => ret (unblk 1 o)
  ) fun o => nx o ref19_Bank_Outputs_k0
def ref19_Bank_Outputs_l2 (vs : List V) : M Out :=
  bnd (
  bnd (lift (nilck (at_ vs 0))) fun x7 =>
  bnd (lift (faddr 0 x7)) fun x8 =>
  bnd (ld1 x8) fun x9 =>
  bnd (lift (lenSlc x9)) fun x10 =>
  bnd (lift (bin .lss (at_ vs 2) x10)) fun x11 =>
  condM x11 (
    ret (.nxt [(at_ vs 0), (at_ vs 1), (at_ vs 2)])
    ) (
    ret (.brk 0 [(at_ vs 1)])
    )
  ) fun o => nx o ref19_Bank_Outputs_k1
def ref19_Bank_Outputs_k3 (vs_4 : List V) : M Out :=
  ret (.ret [(at_ vs_4 0)])
def F_ref19_Bank_Outputs (x0 : V) : M V :=
  bnd (
    bnd (
      bnd (
        loopM FUEL ref19_Bank_Outputs_l2 [x0, (Value.slice none 0 0), (Value.int .i64 0)]
        ) fun o => ret (unblk 0 o)
      ) fun o => nx o ref19_Bank_Outputs_k3
    ) fun o => finM o fun vs => ret (outV [(at_ vs 0)])
def h_ref19_Bank_Outputs : Hint := (.seq [] .leaf (.seq [] .leaf (.seq [3] (.seq [] .leaf (.blk (.loop [0, 3, 4] (.seq [0, 3, 4] (.seq [] .leaf (.cond .leaf .leaf)) (.seq [0, 3, 4] (.blk (.seq [] .leaf (.cond .leaf .leaf))) .leaf))))) (.seq [] .leaf .leaf))))
def A_ref19_Bank_Outputs (l : List V) : M V := match l with | [x0] => F_ref19_Bank_Outputs x0 | _ => fail
def s_ref19_Bank_Outputs : Calls' := ovr [(fid_ref19_Bank_value, A_ref19_Bank_value)] noC
theorem e_ref19_Bank_Outputs (x0 : V) : funM Try.prog (s_ref19_Bank_Outputs) fid_ref19_Bank_Outputs h_ref19_Bank_Outputs [x0] = F_ref19_Bank_Outputs x0 := by kernel_rfl
theorem K_ref19_Bank_Outputs : Known Try.prog fid_ref19_Bank_Outputs (A_ref19_Bank_Outputs) := known_of (σ := s_ref19_Bank_Outputs) (hint := h_ref19_Bank_Outputs) (by kernel_rfl) (simAll_ovr K_ref19_Bank_value simAll_nil0) fun l H r H' h => by
  unfold A_ref19_Bank_Outputs at h; split at h
  · rw [e_ref19_Bank_Outputs]; exact h
  · exact (fail_ne h).elim

/-! ### (*capstan/capstanref19.Bank).Forced -/
def ref19_Bank_Forced_k0 (vs_3 : List V) : M Out :=
  bnd (lift (bin .add (at_ vs_3 2) (Value.int .i64 1))) fun x13 =>
  ret (.nxt [(at_ vs_3 0), (at_ vs_3 1), x13])
def ref19_Bank_Forced_k1 (vs_2 : List V) : M Out :=
  bnd (
  bnd (
    bnd (lift (nilck (at_ vs_2 0))) fun x15 =>
    bnd (lift (faddr 3 x15)) fun x16 =>
    bnd (ld1 x16) fun x17 =>
    bnd (lift (iaddrS 1 x17 (at_ vs_2 2))) fun x19 =>
    bnd (ld1 x19) fun x20 =>
    condM x20 (
      bnd (bslc 1 1 (rep 1 [Value.int .i64 0]) [(0, 1, (at_ vs_2 2))]) fun x23 =>
      bnd (appV 1 8 (at_ vs_2 1) x23) fun x24 =>
      ret (.nxt [(at_ vs_2 0), x24, (at_ vs_2 2)])
      ) (
      ret (.nxt [(at_ vs_2 0), (at_ vs_2 1), (at_ vs_2 2)])
      )
    ) fun o => ret (unblk 1 o)
  ) fun o => nx o ref19_Bank_Forced_k0
def ref19_Bank_Forced_l2 (vs : List V) : M Out :=
  bnd (
  bnd (lift (nilck (at_ vs 0))) fun x7 =>
  bnd (lift (faddr 0 x7)) fun x8 =>
  bnd (ld1 x8) fun x9 =>
  bnd (lift (lenSlc x9)) fun x10 =>
  bnd (lift (bin .lss (at_ vs 2) x10)) fun x11 =>
  condM x11 (
    ret (.nxt [(at_ vs 0), (at_ vs 1), (at_ vs 2)])
    ) (
    ret (.brk 0 [(at_ vs 1)])
    )
  ) fun o => nx o ref19_Bank_Forced_k1
def ref19_Bank_Forced_k3 (vs_4 : List V) : M Out :=
  ret (.ret [(at_ vs_4 0)])
def F_ref19_Bank_Forced (x0 : V) : M V :=
  bnd (
    bnd (
      bnd (
        loopM FUEL ref19_Bank_Forced_l2 [x0, (Value.slice none 0 0), (Value.int .i64 0)]
        ) fun o => ret (unblk 0 o)
      ) fun o => nx o ref19_Bank_Forced_k3
    ) fun o => finM o fun vs => ret (outV [(at_ vs 0)])
def h_ref19_Bank_Forced : Hint := (.seq [] .leaf (.seq [] .leaf (.seq [3] (.seq [] .leaf (.blk (.loop [0, 3, 4] (.seq [0, 3, 4] (.seq [] .leaf (.cond .leaf .leaf)) (.seq [0, 3, 4] (.blk (.seq [] .leaf (.cond .leaf .leaf))) .leaf))))) (.seq [] .leaf .leaf))))
def A_ref19_Bank_Forced (l : List V) : M V := match l with | [x0] => F_ref19_Bank_Forced x0 | _ => fail
theorem e_ref19_Bank_Forced (x0 : V) : funM Try.prog (ovr [] noC) fid_ref19_Bank_Forced h_ref19_Bank_Forced [x0] = F_ref19_Bank_Forced x0 := by kernel_rfl
theorem K_ref19_Bank_Forced : Known Try.prog fid_ref19_Bank_Forced (A_ref19_Bank_Forced) := known_of (σ := ovr [] noC) (hint := h_ref19_Bank_Forced) (by kernel_rfl) simAll_nil0 fun l H r H' h => by
  unfold A_ref19_Bank_Forced at h; split at h
  · rw [e_ref19_Bank_Forced]; exact h
  · exact (fail_ne h).elim

/-! ### capstan/capstanbook.SameInts -/
def book_SameInts_k0 (vs_4 : List V) : M Out :=
  bnd (lift (bin .add (at_ vs_4 2) (Value.int .i64 1))) fun x16 =>
  ret (.nxt [(at_ vs_4 0), (at_ vs_4 1), x16])
def book_SameInts_k1 (vs_3 : List V) : M Out :=
  bnd (
  bnd (
    bnd (lift (iaddrS 1 (at_ vs_3 0) (at_ vs_3 2))) fun x19 =>
    bnd (lift (iaddrS 1 (at_ vs_3 1) (at_ vs_3 2))) fun x23 =>
    bnd (ld1 x19) fun x20 =>
    bnd (ld1 x23) fun x24 =>
    bnd (lift (bin .neq x20 x24)) fun x25 =>
    condM x25 (
      ret (.ret [(Value.bool false)])
      ) (
      ret (.nxt [(at_ vs_3 0), (at_ vs_3 1), (at_ vs_3 2)])
      )
    ) fun o => ret (unblk 1 o)
  ) fun o => nx o book_SameInts_k0
def book_SameInts_l2 (vs_2 : List V) : M Out :=
  bnd (
  bnd (lift (lenSlc (at_ vs_2 0))) fun x13 =>
  bnd (lift (bin .lss (at_ vs_2 2) x13)) fun x14 =>
  condM x14 (
    ret (.nxt [(at_ vs_2 0), (at_ vs_2 1), (at_ vs_2 2)])
    ) (
    ret (.brk 0 [])
    )
  ) fun o => nx o book_SameInts_k1
def book_SameInts_k3 (vs_5 : List V) : M Out :=
  ret (.ret [(Value.bool true)])
def book_SameInts_k4 (vs : List V) : M Out :=
  bnd (
    bnd (
      loopM FUEL book_SameInts_l2 [(at_ vs 0), (at_ vs 1), (Value.int .i64 0)]
      ) fun o => ret (unblk 0 o)
    ) fun o => nx o book_SameInts_k3
def F_book_SameInts (x0 x1 : V) : M V :=
  bnd (
    bnd (
      bnd (lift (lenSlc x0)) fun x7 =>
      bnd (lift (lenSlc x1)) fun x9 =>
      bnd (lift (bin .neq x7 x9)) fun x10 =>
      condM x10 (
        ret (.ret [(Value.bool false)])
        ) (
        ret (.nxt [x0, x1])
        )
      ) fun o => nx o book_SameInts_k4
    ) fun o => finM o fun vs => ret (outV [(at_ vs 0)])
def h_book_SameInts : Hint := (.seq [] .leaf (.seq [0, 1] (.seq [] .leaf (.cond (.seq [] .leaf .leaf) .leaf)) (.seq [] (.seq [] .leaf (.blk (.loop [0, 1, 5] (.seq [0, 1, 5] (.seq [] .leaf (.cond .leaf .leaf)) (.seq [0, 1, 5] (.blk (.seq [] (.reg [0, 1, 2, 4, 5, 6, 3, 7, 8] []) (.cond (.seq [] .leaf .leaf) .leaf))) .leaf))))) (.seq [] .leaf .leaf))))
def A_book_SameInts (l : List V) : M V := match l with | [x0, x1] => F_book_SameInts x0 x1 | _ => fail
theorem e_book_SameInts (x0 x1 : V) : funM Try.prog (ovr [] noC) fid_book_SameInts h_book_SameInts [x0, x1] = F_book_SameInts x0 x1 := by kernel_rfl
theorem K_book_SameInts : Known Try.prog fid_book_SameInts (A_book_SameInts) := known_of (σ := ovr [] noC) (hint := h_book_SameInts) (by kernel_rfl) simAll_nil0 fun l H r H' h => by
  unfold A_book_SameInts at h; split at h
  · rw [e_book_SameInts]; exact h
  · exact (fail_ne h).elim

/-! ### capstan/capstanlaw19.PointsPlay -/
def law19_PointsPlay_k0 (G_maps_DeleteFunc_map_points_pair_int64_points_pair_int64 : List V → M V) (G_points_Bank_Forced : List V → M V) (G_book_SpoilNums : List V → M V) (vs_5 : List V) : M Out :=
  bnd (lift (bin .add (at_ vs_5 5) (Value.int .i64 1))) fun x87 =>
  ret (.nxt [(at_ vs_5 0), (at_ vs_5 1), (at_ vs_5 2), (at_ vs_5 3), (at_ vs_5 4), x87])
def law19_PointsPlay_k1 (G_maps_DeleteFunc_map_points_pair_int64_points_pair_int64 : List V → M V) (G_points_Bank_Forced : List V → M V) (G_book_SpoilNums : List V → M V) (vs_4 : List V) : M Out :=
  bnd (
  bnd (
    bnd (lift (build [Value.int .i64 0, Value.bool false] [(0, 1, (Value.int .i64 (-9)))])) fun x90 =>
    bnd (lift (iaddrS 2 (at_ vs_4 1) (at_ vs_4 5))) fun x91 =>
    bnd (stn 2 x91 x90) fun _ =>
    ret (.nxt [(at_ vs_4 0), (at_ vs_4 1), (at_ vs_4 2), (at_ vs_4 3), (at_ vs_4 4), (at_ vs_4 5)])
    ) fun o => ret (unblk 1 o)
  ) fun o => nx o (law19_PointsPlay_k0 G_maps_DeleteFunc_map_points_pair_int64_points_pair_int64 G_points_Bank_Forced G_book_SpoilNums)
def law19_PointsPlay_l2 (G_maps_DeleteFunc_map_points_pair_int64_points_pair_int64 : List V → M V) (G_points_Bank_Forced : List V → M V) (G_book_SpoilNums : List V → M V) (vs_3 : List V) : M Out :=
  bnd (
  bnd (lift (lenSlc (at_ vs_3 1))) fun x84 =>
  bnd (lift (bin .lss (at_ vs_3 5) x84)) fun x85 =>
  condM x85 (
    ret (.nxt [(at_ vs_3 0), (at_ vs_3 1), (at_ vs_3 2), (at_ vs_3 3), (at_ vs_3 4), (at_ vs_3 5)])
    ) (
    ret (.brk 0 [(at_ vs_3 0), (at_ vs_3 2), (at_ vs_3 3), (at_ vs_3 4)])
    )
  ) fun o => nx o (law19_PointsPlay_k1 G_maps_DeleteFunc_map_points_pair_int64_points_pair_int64 G_points_Bank_Forced G_book_SpoilNums)
def law19_PointsPlay_k3 (G_maps_DeleteFunc_map_points_pair_int64_points_pair_int64 : List V → M V) (G_points_Bank_Forced : List V → M V) (G_book_SpoilNums : List V → M V) (vs_9 : List V) : M Out :=
  bnd (lift (bin .add (at_ vs_9 4) (Value.int .i64 1))) fun x97 =>
  ret (.nxt [(at_ vs_9 0), (at_ vs_9 1), (at_ vs_9 2), (at_ vs_9 3), x97])
def law19_PointsPlay_k4 (G_maps_DeleteFunc_map_points_pair_int64_points_pair_int64 : List V → M V) (G_points_Bank_Forced : List V → M V) (G_book_SpoilNums : List V → M V) (vs_8 : List V) : M Out :=
  bnd (
  bnd (
    bnd (lift (build [Value.int .i64 0, Value.int .i64 0, Value.bool false] [(0, 1, (Value.int .i64 (-9)))])) fun x100 =>
    bnd (lift (iaddrS 3 (at_ vs_8 1) (at_ vs_8 4))) fun x101 =>
    bnd (stn 3 x101 x100) fun _ =>
    ret (.nxt [(at_ vs_8 0), (at_ vs_8 1), (at_ vs_8 2), (at_ vs_8 3), (at_ vs_8 4)])
    ) fun o => ret (unblk 3 o)
  ) fun o => nx o (law19_PointsPlay_k3 G_maps_DeleteFunc_map_points_pair_int64_points_pair_int64 G_points_Bank_Forced G_book_SpoilNums)
def law19_PointsPlay_l5 (G_maps_DeleteFunc_map_points_pair_int64_points_pair_int64 : List V → M V) (G_points_Bank_Forced : List V → M V) (G_book_SpoilNums : List V → M V) (vs_7 : List V) : M Out :=
  bnd (
  bnd (lift (lenSlc (at_ vs_7 1))) fun x94 =>
  bnd (lift (bin .lss (at_ vs_7 4) x94)) fun x95 =>
  condM x95 (
    ret (.nxt [(at_ vs_7 0), (at_ vs_7 1), (at_ vs_7 2), (at_ vs_7 3), (at_ vs_7 4)])
    ) (
    ret (.brk 2 [(at_ vs_7 0), (at_ vs_7 2), (at_ vs_7 3)])
    )
  ) fun o => nx o (law19_PointsPlay_k4 G_maps_DeleteFunc_map_points_pair_int64_points_pair_int64 G_points_Bank_Forced G_book_SpoilNums)
def law19_PointsPlay_k6 (G_maps_DeleteFunc_map_points_pair_int64_points_pair_int64 : List V → M V) (G_points_Bank_Forced : List V → M V) (G_book_SpoilNums : List V → M V) (vs_14 : List V) : M Out :=
    bnd (G_book_SpoilNums [(at_ vs_14 4), (Value.int .i64 (-99))]) fun x140 =>
    ret (.nxt [(at_ vs_14 0), (at_ vs_14 1), (at_ vs_14 2), (at_ vs_14 3)])
def law19_PointsPlay_k7 (G_maps_DeleteFunc_map_points_pair_int64_points_pair_int64 : List V → M V) (G_points_Bank_Forced : List V → M V) (G_book_SpoilNums : List V → M V) (vs_13 : List V) : M Out :=
    bnd (A_points_Bank_Outputs [(at_ vs_13 1)]) fun x125 =>
    bnd (
      bnd (A_ref19_Bank_Outputs [(at_ vs_13 2)]) fun x128 =>
      bnd (A_book_SameNums [x125, x128]) fun x129 =>
      bnd (lift (un .not x129)) fun x130 =>
      bnd (gd x130 false (lift (some (at_ vs_13 1)))) fun x132 =>
      bnd (gd x130 false (G_points_Bank_Forced [x132])) fun x133 =>
      bnd (gd x130 false (lift (some (at_ vs_13 2)))) fun x134 =>
      bnd (gd x130 false (A_ref19_Bank_Forced [x134])) fun x135 =>
      bnd (gd x130 false (A_book_SameInts [x133, x135])) fun x136 =>
      bnd (gd x130 false (lift (un .not x136))) fun x137 =>
      bnd (lift (pickV x130 (Value.bool true) x137)) fun x138 =>
      condM x138 (
        ret (.ret [(Value.bool false)])
        ) (
        ret (.nxt [(at_ vs_13 0), (at_ vs_13 1), (at_ vs_13 2), (at_ vs_13 3), x125])
        )
      ) fun o => nx o (law19_PointsPlay_k6 G_maps_DeleteFunc_map_points_pair_int64_points_pair_int64 G_points_Bank_Forced G_book_SpoilNums)
def law19_PointsPlay_k8 (G_maps_DeleteFunc_map_points_pair_int64_points_pair_int64 : List V → M V) (G_points_Bank_Forced : List V → M V) (G_book_SpoilNums : List V → M V) (vs_15 : List V) : M Out :=
  bnd (lift (bin .add (at_ vs_15 3) (Value.int .i64 1))) fun x115 =>
  ret (.nxt [(at_ vs_15 0), (at_ vs_15 1), (at_ vs_15 2), x115])
def law19_PointsPlay_k9 (G_maps_DeleteFunc_map_points_pair_int64_points_pair_int64 : List V → M V) (G_points_Bank_Forced : List V → M V) (G_book_SpoilNums : List V → M V) (vs_12 : List V) : M Out :=
  bnd (
  bnd (
    bnd (
      bnd (lift (iaddrS 5 (at_ vs_12 0) (at_ vs_12 3))) fun x120 =>
      bnd (ldn 5 x120) fun x121 =>
      bnd ((A_law19_step G_maps_DeleteFunc_map_points_pair_int64_points_pair_int64) [(at_ vs_12 1), (at_ vs_12 2), x121]) fun x122 =>
      bnd (lift (un .not x122)) fun x123 =>
      condM x123 (
        ret (.ret [(Value.bool false)])
        ) (
        ret (.nxt [(at_ vs_12 0), (at_ vs_12 1), (at_ vs_12 2), (at_ vs_12 3)])
        )
      ) fun o => nx o (law19_PointsPlay_k7 G_maps_DeleteFunc_map_points_pair_int64_points_pair_int64 G_points_Bank_Forced G_book_SpoilNums)
    ) fun o => ret (unblk 5 o)
  ) fun o => nx o (law19_PointsPlay_k8 G_maps_DeleteFunc_map_points_pair_int64_points_pair_int64 G_points_Bank_Forced G_book_SpoilNums)
def law19_PointsPlay_l10 (G_maps_DeleteFunc_map_points_pair_int64_points_pair_int64 : List V → M V) (G_points_Bank_Forced : List V → M V) (G_book_SpoilNums : List V → M V) (vs_11 : List V) : M Out :=
  bnd (
  bnd (lift (notIf true (isNil .p (at_ vs_11 2)))) fun x103 =>
  bnd (gd x103 true (lift (some (at_ vs_11 3)))) fun x105 =>
  bnd (gd x103 true (lift (some (at_ vs_11 0)))) fun x106 =>
  bnd (gd x103 true (lift (lenSlc x106))) fun x107 =>
  bnd (gd x103 true (lift (bin .lss x105 x107))) fun x108 =>
  bnd (lift (pickV x103 x108 (Value.bool false))) fun x109 =>
  bnd (gd x109 true (lift (some (at_ vs_11 3)))) fun x111 =>
  bnd (gd x109 true (lift (bin .lss x111 (Value.int .i64 150)))) fun x112 =>
  bnd (lift (pickV x109 x112 (Value.bool false))) fun x113 =>
  condM x113 (
    ret (.nxt [(at_ vs_11 0), (at_ vs_11 1), (at_ vs_11 2), (at_ vs_11 3)])
    ) (
    ret (.brk 4 [])
    )
  ) fun o => nx o (law19_PointsPlay_k9 G_maps_DeleteFunc_map_points_pair_int64_points_pair_int64 G_points_Bank_Forced G_book_SpoilNums)
def law19_PointsPlay_k11 (G_maps_DeleteFunc_map_points_pair_int64_points_pair_int64 : List V → M V) (G_points_Bank_Forced : List V → M V) (G_book_SpoilNums : List V → M V) (vs_16 : List V) : M Out :=
  bnd ((A_law19_works G_maps_DeleteFunc_map_points_pair_int64_points_pair_int64) []) fun x141 =>
  ret (.ret [x141])
def law19_PointsPlay_k12 (G_maps_DeleteFunc_map_points_pair_int64_points_pair_int64 : List V → M V) (G_points_Bank_Forced : List V → M V) (G_book_SpoilNums : List V → M V) (vs_10 : List V) : M Out :=
  bnd (
    bnd (
      loopM FUEL (law19_PointsPlay_l10 G_maps_DeleteFunc_map_points_pair_int64_points_pair_int64 G_points_Bank_Forced G_book_SpoilNums) [(at_ vs_10 0), (at_ vs_10 1), (at_ vs_10 2), (Value.int .i64 0)]
      ) fun o => ret (unblk 4 o)
    ) fun o => nx o (law19_PointsPlay_k11 G_maps_DeleteFunc_map_points_pair_int64_points_pair_int64 G_points_Bank_Forced G_book_SpoilNums)
def law19_PointsPlay_k13 (G_maps_DeleteFunc_map_points_pair_int64_points_pair_int64 : List V → M V) (G_points_Bank_Forced : List V → M V) (G_book_SpoilNums : List V → M V) (vs_6 : List V) : M Out :=
  bnd (
    bnd (
      loopM FUEL (law19_PointsPlay_l5 G_maps_DeleteFunc_map_points_pair_int64_points_pair_int64 G_points_Bank_Forced G_book_SpoilNums) [(at_ vs_6 0), (at_ vs_6 1), (at_ vs_6 2), (at_ vs_6 3), (Value.int .i64 0)]
      ) fun o => ret (unblk 2 o)
    ) fun o => nx o (law19_PointsPlay_k12 G_maps_DeleteFunc_map_points_pair_int64_points_pair_int64 G_points_Bank_Forced G_book_SpoilNums)
def law19_PointsPlay_k14 (G_maps_DeleteFunc_map_points_pair_int64_points_pair_int64 : List V → M V) (G_points_Bank_Forced : List V → M V) (G_book_SpoilNums : List V → M V) (vs_2 : List V) : M Out :=
  bnd (
    bnd (
      loopM FUEL (law19_PointsPlay_l2 G_maps_DeleteFunc_map_points_pair_int64_points_pair_int64 G_points_Bank_Forced G_book_SpoilNums) [(at_ vs_2 0), (at_ vs_2 1), (at_ vs_2 2), (at_ vs_2 3), (at_ vs_2 4), (Value.int .i64 0)]
      ) fun o => ret (unblk 0 o)
    ) fun o => nx o (law19_PointsPlay_k13 G_maps_DeleteFunc_map_points_pair_int64_points_pair_int64 G_points_Bank_Forced G_book_SpoilNums)
def law19_PointsPlay_k15 (G_maps_DeleteFunc_map_points_pair_int64_points_pair_int64 : List V → M V) (G_points_Bank_Forced : List V → M V) (G_book_SpoilNums : List V → M V) (vs : List V) : M Out :=
  withResv 2 fun base h0 =>
  bnd (lift (faddr 0 (at_ vs 1))) fun x25 =>
  bnd (lift (faddr 1 (at_ vs 1))) fun x29 =>
  bnd (ld1 x25) fun x26 =>
  bnd (ld1 x29) fun x30 =>
  bnd (flt (base + 0) (bslc 2 0 (rep 0 [Value.int .i64 0, Value.bool false]) [])) fun x24 =>
  bndH (appV 2 16 x24 x26) fun ha x27 h1 =>
  need (freeIn ha [base + 1] && freeIn h1 [base + 1]) <|
  bnd (flt (base + 1) (bslc 3 0 (rep 0 [Value.int .i64 0, Value.int .i64 0, Value.bool false]) [])) fun x28 =>
  bndH (appV 3 24 x28 x30) fun ha_2 x31 h2 =>
  need (chk (ld1 x29) h1 x30) <|
  bnd (A_points_Check [x27, x31]) fun x35 =>
  bnd (lift (ext 0 x35)) fun x36 =>
  bnd (lift (ext 1 x35)) fun x37 =>
  bnd (lift (faddr 0 (at_ vs 1))) fun x39 =>
  bnd (ld1 x39) fun x40 =>
  bnd (lift (faddr 1 (at_ vs 1))) fun x41 =>
  bnd (ld1 x41) fun x42 =>
  bnd (A_ref19_Check [x40, x42]) fun x43 =>
  bnd (lift (ext 0 x43)) fun x44 =>
  bnd (lift (ext 1 x43)) fun x45 =>
  bnd (A_points_New [x27, x31]) fun x49 =>
  bnd (lift (ext 0 x49)) fun x50 =>
  bnd (lift (ext 1 x49)) fun x51 =>
  bnd (lift (faddr 0 (at_ vs 1))) fun x53 =>
  bnd (ld1 x53) fun x54 =>
  bnd (lift (faddr 1 (at_ vs 1))) fun x55 =>
  bnd (ld1 x55) fun x56 =>
  bnd (A_ref19_New [x54, x56]) fun x57 =>
  bnd (lift (ext 0 x57)) fun x58 =>
  bnd (lift (ext 1 x57)) fun x59 =>
  bnd (
    bnd (gd (Value.bool false) false (lift (some x36))) fun x61 =>
    bnd (gd (Value.bool false) false (lift (some x44))) fun x62 =>
    bnd (gd (Value.bool false) false (lift (bin .neq x61 x62))) fun x63 =>
    bnd (lift (pickV (Value.bool false) (Value.bool true) x63)) fun x64 =>
    bnd (gd x64 false (lift (some x37))) fun x66 =>
    bnd (gd x64 false (lift (some x45))) fun x67 =>
    bnd (gd x64 false (lift (bin .neq x66 x67))) fun x68 =>
    bnd (lift (pickV x64 (Value.bool true) x68)) fun x69 =>
    bnd (gd x69 false (lift (some x51))) fun x71 =>
    bnd (gd x69 false (lift (some x59))) fun x72 =>
    bnd (gd x69 false (lift (bin .neq x71 x72))) fun x73 =>
    bnd (lift (pickV x69 (Value.bool true) x73)) fun x74 =>
    bnd (gd x74 false (lift (some x50))) fun x76 =>
    bnd (gd x74 false (lift (notIf false (isNil .p x76)))) fun x77 =>
    bnd (gd x74 false (lift (some x58))) fun x78 =>
    bnd (gd x74 false (lift (notIf false (isNil .p x78)))) fun x79 =>
    bnd (gd x74 false (lift (notIf true (eqK .b x77 x79)))) fun x80 =>
    bnd (lift (pickV x74 (Value.bool true) x80)) fun x81 =>
    condM x81 (
      ret (.ret [(Value.bool false)])
      ) (
      ret (.nxt [(at_ vs 0), x27, x31, x50, x58])
      )
    ) fun o => nx o (law19_PointsPlay_k14 G_maps_DeleteFunc_map_points_pair_int64_points_pair_int64 G_points_Bank_Forced G_book_SpoilNums)
def F_law19_PointsPlay (G_maps_DeleteFunc_map_points_pair_int64_points_pair_int64 : List V → M V) (G_points_Bank_Forced : List V → M V) (G_book_SpoilNums : List V → M V) (x0 x1 : V) : M V :=
  bnd (
    bnd (boxv x0) fun x2 =>
    bnd (
      bnd (lift (faddr 1 x2)) fun x19 =>
      bnd (ld1 x19) fun x20 =>
      bnd (lift (lenSlc x20)) fun x21 =>
      bnd (lift (bin .gtr x21 (Value.int .i64 200))) fun x22 =>
      condM x22 (
        bnd ((A_law19_works G_maps_DeleteFunc_map_points_pair_int64_points_pair_int64) []) fun x23 =>
        ret (.ret [x23])
        ) (
        ret (.nxt [x1, x2])
        )
      ) fun o => nx o (law19_PointsPlay_k15 G_maps_DeleteFunc_map_points_pair_int64_points_pair_int64 G_points_Bank_Forced G_book_SpoilNums)
    ) fun o => finM o fun vs => ret (outV [(at_ vs 0)])
def h_law19_PointsPlay : Hint := (.seq [] .leaf (.seq [1, 2] (.seq [] .leaf (.cond (.seq [] .leaf .leaf) .leaf)) (.seq [] (.reg [1, 5, 2, 6, 0, 3, 4, 7, 8, 9] [0, 4]) (.seq [] .leaf (.seq [] .leaf (.seq [] .leaf (.seq [] .leaf (.seq [1, 5, 6, 11, 13] (.seq [] .leaf (.cond (.seq [] .leaf .leaf) .leaf)) (.seq [1, 6, 11, 13] (.seq [] .leaf (.blk (.loop [1, 5, 6, 11, 13, 15] (.seq [1, 5, 6, 11, 13, 15] (.seq [] .leaf (.cond .leaf .leaf)) (.seq [1, 5, 6, 11, 13, 15] (.blk .leaf) .leaf))))) (.seq [1, 11, 13] (.seq [] .leaf (.blk (.loop [1, 6, 11, 13, 16] (.seq [1, 6, 11, 13, 16] (.seq [] .leaf (.cond .leaf .leaf)) (.seq [1, 6, 11, 13, 16] (.blk .leaf) .leaf))))) (.seq [] (.seq [] .leaf (.blk (.loop [1, 11, 13, 17] (.seq [1, 11, 13, 17] (.seq [] .leaf (.cond .leaf .leaf)) (.seq [1, 11, 13, 17] (.blk (.seq [1, 11, 13, 17] (.seq [] .leaf (.cond (.seq [] .leaf .leaf) .leaf)) (.seq [] .leaf (.seq [1, 11, 13, 17, 18] (.seq [] .leaf (.cond (.seq [] .leaf .leaf) .leaf)) .leaf)))) .leaf))))) (.seq [] .leaf .leaf))))))))))))
def A_law19_PointsPlay (G_maps_DeleteFunc_map_points_pair_int64_points_pair_int64 : List V → M V) (G_points_Bank_Forced : List V → M V) (G_book_SpoilNums : List V → M V) (l : List V) : M V := match l with | [x0, x1] => F_law19_PointsPlay G_maps_DeleteFunc_map_points_pair_int64_points_pair_int64 G_points_Bank_Forced G_book_SpoilNums x0 x1 | _ => fail
theorem e_law19_PointsPlay (G_maps_DeleteFunc_map_points_pair_int64_points_pair_int64 : List V → M V) (G_points_Bank_Forced : List V → M V) (G_book_SpoilNums : List V → M V) (x0 x1 : V) : funM Try.prog (ovr [(fid_law19_works, A_law19_works G_maps_DeleteFunc_map_points_pair_int64_points_pair_int64), (fid_points_Check, A_points_Check), (fid_ref19_Check, A_ref19_Check), (fid_points_New, A_points_New), (fid_ref19_New, A_ref19_New), (fid_law19_step, A_law19_step G_maps_DeleteFunc_map_points_pair_int64_points_pair_int64), (fid_points_Bank_Outputs, A_points_Bank_Outputs), (fid_ref19_Bank_Outputs, A_ref19_Bank_Outputs), (fid_book_SameNums, A_book_SameNums), (fid_points_Bank_Forced, G_points_Bank_Forced), (fid_ref19_Bank_Forced, A_ref19_Bank_Forced), (fid_book_SameInts, A_book_SameInts), (fid_book_SpoilNums, G_book_SpoilNums)] noC) fid_law19_PointsPlay h_law19_PointsPlay [x0, x1] = F_law19_PointsPlay G_maps_DeleteFunc_map_points_pair_int64_points_pair_int64 G_points_Bank_Forced G_book_SpoilNums x0 x1 := by kernel_rfl
theorem K_law19_PointsPlay {G_maps_DeleteFunc_map_points_pair_int64_points_pair_int64 : List V → M V} {G_points_Bank_Forced : List V → M V} {G_book_SpoilNums : List V → M V} (k_maps_DeleteFunc_map_points_pair_int64_points_pair_int64 : Known Try.prog fid_maps_DeleteFunc_map_points_pair_int64_points_pair_int64 G_maps_DeleteFunc_map_points_pair_int64_points_pair_int64) (k_points_Bank_Forced : Known Try.prog fid_points_Bank_Forced G_points_Bank_Forced) (k_book_SpoilNums : Known Try.prog fid_book_SpoilNums G_book_SpoilNums) : Known Try.prog fid_law19_PointsPlay (A_law19_PointsPlay G_maps_DeleteFunc_map_points_pair_int64_points_pair_int64 G_points_Bank_Forced G_book_SpoilNums) := known_of (σ := ovr [(fid_law19_works, A_law19_works G_maps_DeleteFunc_map_points_pair_int64_points_pair_int64), (fid_points_Check, A_points_Check), (fid_ref19_Check, A_ref19_Check), (fid_points_New, A_points_New), (fid_ref19_New, A_ref19_New), (fid_law19_step, A_law19_step G_maps_DeleteFunc_map_points_pair_int64_points_pair_int64), (fid_points_Bank_Outputs, A_points_Bank_Outputs), (fid_ref19_Bank_Outputs, A_ref19_Bank_Outputs), (fid_book_SameNums, A_book_SameNums), (fid_points_Bank_Forced, G_points_Bank_Forced), (fid_ref19_Bank_Forced, A_ref19_Bank_Forced), (fid_book_SameInts, A_book_SameInts), (fid_book_SpoilNums, G_book_SpoilNums)] noC) (hint := h_law19_PointsPlay) (by kernel_rfl) (simAll_ovr (K_law19_works k_maps_DeleteFunc_map_points_pair_int64_points_pair_int64) (simAll_ovr K_points_Check (simAll_ovr K_ref19_Check (simAll_ovr K_points_New (simAll_ovr K_ref19_New (simAll_ovr (K_law19_step k_maps_DeleteFunc_map_points_pair_int64_points_pair_int64) (simAll_ovr K_points_Bank_Outputs (simAll_ovr K_ref19_Bank_Outputs (simAll_ovr K_book_SameNums (simAll_ovr k_points_Bank_Forced (simAll_ovr K_ref19_Bank_Forced (simAll_ovr K_book_SameInts (simAll_ovr k_book_SpoilNums simAll_nil0))))))))))))) fun l H r H' h => by
  unfold A_law19_PointsPlay at h; split at h
  · rw [e_law19_PointsPlay]; exact h
  · exact (fail_ne h).elim

end Go.AM.Cap
