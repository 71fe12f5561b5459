import Derived.Test.YtbnjeldcndpdoaaAmWp
import Derived.Test.YtbnjeldcndpdoaaProg
set_option linter.all false
/- Printed by amprint2.py: functions of Ytbnjeldcndpdoaa on the abstract machine. -/
set_option linter.unusedVariables false
set_option maxRecDepth 100000
namespace Go.AM.Cap
open Go.AM Go.Proofs

def fid_law19_PointsForce : Nat := 6
def fid_law19_works : Nat := 7
def fid_law19_among : Nat := 8
def fid_points_New : Nat := 9
def fid_law19_do : Nat := 10
def fid_points_Bank_Outputs : Nat := 11
def fid_book_SameNums : Nat := 12
def fid_points_Bank_Drop : Nat := 13
def fid_points_Bank_Commit : Nat := 14
def fid_points_Check : Nat := 15
def fid_points_Bank_Forced : Nat := 21
def fid_points_Bank_Force : Nat := 24
def fid_points_Bank_Free : Nat := 25
def fid_points_Bank_Latch : Nat := 26
def fid_points_Bank_Read : Nat := 27
def fid_points_Bank_Write : Nat := 28
def fid_slices_Clone_S_api_Point_api_Point : Nat := 29
def fid_points_Bank_of : Nat := 30
def fid_points_Bank_value : Nat := 31
def fid_points_Bank_end : Nat := 32
def fid_slices_ContainsFunc_S_api_Point_api_Point : Nat := 33
def fid_points_Check_1 : Nat := 34
def fid_points_there : Nat := 35
def fid_points_Bank_fits : Nat := 48
def fid_points_Bank_grant : Nat := 49
def fid_maps_DeleteFunc_map_points_pair_int64_points_pair_int64 : Nat := 50
def fid_points_Bank_end_1 : Nat := 51
def fid_slices_IndexFunc_S_api_Point_api_Point : Nat := 52
def fid_num_Fits : Nat := 60
def fid_num_known : Nat := 66
def fid_num_wrap : Nat := 67

/-! ### slices.IndexFunc[[]capstan/api.Point,capstan/api.Point] -/
def slices_IndexFunc_S_api_Point_api_Point_k0 (S : Calls') (vs_3 : List V) : M Out :=
  bnd (lift (bin .add (at_ vs_3 3) (Value.int .i64 1))) fun x18 =>
  ret (.nxt [(at_ vs_3 0), (at_ vs_3 1), (at_ vs_3 2), x18])
def slices_IndexFunc_S_api_Point_api_Point_k1 (S : Calls') (vs_2 : List V) : M Out :=
  bnd (
  bnd (
    bnd (lift (iaddrS 2 (at_ vs_2 0) (at_ vs_2 3))) fun x14 =>
    bnd (ldn 2 x14) fun x15 =>
    bnd (callM (ovr [] S) (at_ vs_2 1) [x15]) fun x16 =>
    condM x16 (
      ret (.ret [(at_ vs_2 3)])
      ) (
      ret (.nxt [(at_ vs_2 0), (at_ vs_2 1), (at_ vs_2 2), (at_ vs_2 3)])
      )
    ) fun o => ret (unblk 1 o)
  ) fun o => nx o (slices_IndexFunc_S_api_Point_api_Point_k0 S)
def slices_IndexFunc_S_api_Point_api_Point_l2 (S : Calls') (vs : List V) : M Out :=
  bnd (lift (bin .lss (at_ vs 3) (at_ vs 2))) fun x9 =>
  bnd (
  condM x9 (
    ret (.nxt [(at_ vs 0), (at_ vs 1), (at_ vs 2), (at_ vs 3)])
    ) (
    ret (.brk 0 [])
    )
  ) fun o => nx o (slices_IndexFunc_S_api_Point_api_Point_k1 S)
def slices_IndexFunc_S_api_Point_api_Point_k3 (S : Calls') (vs_4 : List V) : M Out :=
  ret (.ret [(Value.int .i64 (-1))])
def F_slices_IndexFunc_S_api_Point_api_Point (S : Calls') (x0 x1 : V) : M V :=
  bnd (
    bnd (
      bnd (lift (lenSlc x0)) fun x7 =>
      bnd (
        loopM FUEL (slices_IndexFunc_S_api_Point_api_Point_l2 S) [x0, x1, x7, (Value.int .i64 0)]
        ) fun o => ret (unblk 0 o)
      ) fun o => nx o (slices_IndexFunc_S_api_Point_api_Point_k3 S)
    ) fun o => finM o fun vs => ret (outV [(at_ vs 0)])
def h_slices_IndexFunc_S_api_Point_api_Point : Hint := (.seq [] .leaf (.seq [] (.seq [] .leaf (.blk (.loop [0, 1, 7, 8] (.seq [] .leaf (.seq [0, 1, 7, 8] (.cond .leaf .leaf) (.seq [0, 1, 7, 8] (.blk (.seq [] .leaf (.seq [] .leaf (.cond (.seq [] .leaf .leaf) .leaf)))) .leaf)))))) (.seq [] .leaf .leaf)))
def A_slices_IndexFunc_S_api_Point_api_Point (S : Calls') (l : List V) : M V := match l with | [x0, x1] => F_slices_IndexFunc_S_api_Point_api_Point S x0 x1 | _ => fail
theorem e_slices_IndexFunc_S_api_Point_api_Point (S : Calls') (x0 x1 : V) : funM Try.prog (ovr [] S) fid_slices_IndexFunc_S_api_Point_api_Point h_slices_IndexFunc_S_api_Point_api_Point [x0, x1] = F_slices_IndexFunc_S_api_Point_api_Point S x0 x1 := by kernel_rfl
theorem K_slices_IndexFunc_S_api_Point_api_Point {S : Calls'} (hS : SimAll Try.prog S) : Known Try.prog fid_slices_IndexFunc_S_api_Point_api_Point (A_slices_IndexFunc_S_api_Point_api_Point S) := known_of (σ := ovr [] S) (hint := h_slices_IndexFunc_S_api_Point_api_Point) (by kernel_rfl) (simAll_base hS) fun l H r H' h => by
  unfold A_slices_IndexFunc_S_api_Point_api_Point at h; split at h
  · rw [e_slices_IndexFunc_S_api_Point_api_Point]; exact h
  · exact (fail_ne h).elim

/-! ### slices.ContainsFunc[[]capstan/api.Point,capstan/api.Point] -/
def F_slices_ContainsFunc_S_api_Point_api_Point (S : Calls') (x0 x1 : V) : M V :=
  bnd (
    bnd ((A_slices_IndexFunc_S_api_Point_api_Point S) [x0, x1]) fun x7 =>
    bnd (lift (bin .geq x7 (Value.int .i64 0))) fun x8 =>
    ret (.ret [x8])
    ) fun o => finM o fun vs => ret (outV [(at_ vs 0)])
def h_slices_ContainsFunc_S_api_Point_api_Point : Hint := (.seq [] .leaf (.seq [] .leaf .leaf))
def A_slices_ContainsFunc_S_api_Point_api_Point (S : Calls') (l : List V) : M V := match l with | [x0, x1] => F_slices_ContainsFunc_S_api_Point_api_Point S x0 x1 | _ => fail
theorem e_slices_ContainsFunc_S_api_Point_api_Point (S : Calls') (x0 x1 : V) : funM Try.prog (ovr [(fid_slices_IndexFunc_S_api_Point_api_Point, A_slices_IndexFunc_S_api_Point_api_Point S)] S) fid_slices_ContainsFunc_S_api_Point_api_Point h_slices_ContainsFunc_S_api_Point_api_Point [x0, x1] = F_slices_ContainsFunc_S_api_Point_api_Point S x0 x1 := by kernel_rfl
theorem K_slices_ContainsFunc_S_api_Point_api_Point {S : Calls'} (hS : SimAll Try.prog S) : Known Try.prog fid_slices_ContainsFunc_S_api_Point_api_Point (A_slices_ContainsFunc_S_api_Point_api_Point S) := known_of (σ := ovr [(fid_slices_IndexFunc_S_api_Point_api_Point, A_slices_IndexFunc_S_api_Point_api_Point S)] S) (hint := h_slices_ContainsFunc_S_api_Point_api_Point) (by kernel_rfl) (simAll_ovr (K_slices_IndexFunc_S_api_Point_api_Point (simAll_base hS)) (simAll_base hS)) fun l H r H' h => by
  unfold A_slices_ContainsFunc_S_api_Point_api_Point at h; split at h
  · rw [e_slices_ContainsFunc_S_api_Point_api_Point]; exact h
  · exact (fail_ne h).elim

/-! ### capstan/points.Check$1 -/
def F_points_Check_1 (x0 : V) : M V :=
  bnd (
    bnd (boxv x0) fun x1 =>
    bnd (lift (faddr 0 x1)) fun x3 =>
    bnd (ld1 x3) fun x4 =>
    bnd (lift (bin .lss x4 (Value.int .i64 1))) fun x5 =>
    bnd (gd x5 false (lift (faddr 0 x1))) fun x7 =>
    bnd (gd x5 false (ld1 x7)) fun x8 =>
    bnd (gd x5 false (lift (bin .gtr x8 (Value.int .i64 3)))) fun x9 =>
    bnd (lift (pickV x5 (Value.bool true) x9)) fun x10 =>
    ret (.ret [x10])
    ) fun o => finM o fun vs => ret (outV [(at_ vs 0)])
def h_points_Check_1 : Hint := (.seq [] .leaf (.seq [] .leaf .leaf))
def A_points_Check_1 (l : List V) : M V := match l with | [x0] => F_points_Check_1 x0 | _ => fail
theorem e_points_Check_1 (x0 : V) : funM Try.prog (ovr [] noC) fid_points_Check_1 h_points_Check_1 [x0] = F_points_Check_1 x0 := by kernel_rfl
theorem K_points_Check_1 : Known Try.prog fid_points_Check_1 (A_points_Check_1) := known_of (σ := ovr [] noC) (hint := h_points_Check_1) (by kernel_rfl) simAll_nil0 fun l H r H' h => by
  unfold A_points_Check_1 at h; split at h
  · rw [e_points_Check_1]; exact h
  · exact (fail_ne h).elim

/-! ### capstan/points.there -/
def F_points_there (x0 : V) : M V :=
  bnd (
    bnd (lift (bin .geq x0 (Value.int .i64 0))) fun x4 =>
    bnd (gd x4 true (lift (some x0))) fun x6 =>
    bnd (gd x4 true (lift (bin .lss x6 (Value.int .i64 8)))) fun x7 =>
    bnd (lift (pickV x4 x7 (Value.bool false))) fun x8 =>
    ret (.ret [x8])
    ) fun o => finM o fun vs => ret (outV [(at_ vs 0)])
def h_points_there : Hint := (.seq [] .leaf (.seq [] .leaf .leaf))
def A_points_there (l : List V) : M V := match l with | [x0] => F_points_there x0 | _ => fail
theorem e_points_there (x0 : V) : funM Try.prog (ovr [] noC) fid_points_there h_points_there [x0] = F_points_there x0 := by kernel_rfl
theorem K_points_there : Known Try.prog fid_points_there (A_points_there) := known_of (σ := ovr [] noC) (hint := h_points_there) (by kernel_rfl) simAll_nil0 fun l H r H' h => by
  unfold A_points_there at h; split at h
  · rw [e_points_there]; exact h
  · exact (fail_ne h).elim

/-! ### capstan/points.Check -/
def points_Check_k0 (vs_4 : List V) : M Out :=
    bnd (ldn 3 (at_ vs_4 3)) fun x73 =>
    bnd (mapSet (.agg [.i, .i, .b]) (at_ vs_4 1) x73 (Value.bool true)) fun _ =>
    bnd (lift (faddr 1 (at_ vs_4 3))) fun x75 =>
    bnd (ld1 x75) fun x76 =>
    bnd (lift (faddr 1 (at_ vs_4 3))) fun x78 =>
    bnd (ld1 x78) fun x79 =>
    bnd (lookup (.one .i) (Value.bool false) false (at_ vs_4 2) x79) fun x80 =>
    bnd (gd x80 false (lift (faddr 2 (at_ vs_4 3)))) fun x82 =>
    bnd (gd x80 false (ld1 x82)) fun x83 =>
    bnd (lift (pickV x80 (Value.bool true) x83)) fun x84 =>
    bnd (mapSet (.one .i) (at_ vs_4 2) x76 x84) fun _ =>
    ret (.nxt [(at_ vs_4 0), (at_ vs_4 1), (at_ vs_4 2), (at_ vs_4 4), (at_ vs_4 5), (at_ vs_4 6)])
def points_Check_k1 (vs_5 : List V) : M Out :=
  bnd (lift (bin .add (at_ vs_5 5) (Value.int .i64 1))) fun x85 =>
  ret (.nxt [(at_ vs_5 0), (at_ vs_5 1), (at_ vs_5 2), (at_ vs_5 3), (at_ vs_5 4), x85])
def points_Check_k2 (vs_3 : List V) : M Out :=
  bnd (
  bnd (
    bnd (lift (iaddrS 3 (at_ vs_3 3) (at_ vs_3 5))) fun x24 =>
    bnd (ldn 3 x24) fun x25 =>
    bnd (newc [Value.int .i64 0, Value.int .i64 0, Value.bool false]) fun x9 =>
    bnd (stn 3 x9 x25) fun _ =>
    bnd (
      bnd (
        bnd (lift (faddr 0 x9)) fun x27 =>
        bnd (ld1 x27) fun x28 =>
        bnd (A_points_there [x28]) fun x29 =>
        bnd (lift (un .not x29)) fun x30 =>
        bnd (gd x30 false (lift (faddr 1 x9))) fun x32 =>
        bnd (gd x30 false (ld1 x32)) fun x33 =>
        bnd (gd x30 false (lift (bin .lss x33 (Value.int .i64 0)))) fun x34 =>
        bnd (lift (pickV x30 (Value.bool true) x34)) fun x35 =>
        bnd (gd x35 false (lift (faddr 1 x9))) fun x37 =>
        bnd (gd x35 false (ld1 x37)) fun x38 =>
        bnd (gd x35 false (lift (some (at_ vs_3 0)))) fun x39 =>
        bnd (gd x35 false (lift (lenSlc x39))) fun x40 =>
        bnd (gd x35 false (lift (bin .geq x38 x40))) fun x41 =>
        bnd (lift (pickV x35 (Value.bool true) x41)) fun x42 =>
        condM x42 (
          ret (.ret [(at_ vs_3 5), (Value.int .i64 1)])
          ) (
          bnd (lift (faddr 2 x9)) fun x45 =>
          bnd (ld1 x45) fun x46 =>
          bnd (gd x46 true (lift (some (at_ vs_3 0)))) fun x48 =>
          bnd (gd x46 true (lift (faddr 1 x9))) fun x49 =>
          bnd (gd x46 true (ld1 x49)) fun x50 =>
          bnd (gd x46 true (lift (iaddrS 2 x48 x50))) fun x51 =>
          bnd (gd x46 true (lift (faddr 1 x51))) fun x52 =>
          bnd (gd x46 true (ld1 x52)) fun x53 =>
          bnd (gd x46 true (lift (un .not x53))) fun x54 =>
          bnd (lift (pickV x46 x54 (Value.bool false))) fun x55 =>
          condM x55 (
            ret (.ret [(at_ vs_3 5), (Value.int .i64 91)])
            ) (
            bnd (ldn 3 x9) fun x59 =>
            bnd (lookup (.agg [.i, .i, .b]) (Value.bool false) false (at_ vs_3 1) x59) fun x60 =>
            bnd (gd x60 false (lift (faddr 2 x9))) fun x62 =>
            bnd (gd x60 false (ld1 x62)) fun x63 =>
            bnd (gd x60 false (lift (some x63))) fun x64 =>
            bnd (gd x64 true (lift (some (at_ vs_3 2)))) fun x65 =>
            bnd (gd x64 true (lift (faddr 1 x9))) fun x66 =>
            bnd (gd x64 true (ld1 x66)) fun x67 =>
            bnd (gd x64 true (lookup (.one .i) (Value.bool false) false x65 x67)) fun x68 =>
            bnd (gd x60 false (lift (pickV x64 x68 (Value.bool false)))) fun x69 =>
            bnd (lift (pickV x60 (Value.bool true) x69)) fun x70 =>
            condM x70 (
              ret (.ret [(at_ vs_3 5), (Value.int .i64 190)])
              ) (
              ret (.nxt [(at_ vs_3 0), (at_ vs_3 1), (at_ vs_3 2), x9, (at_ vs_3 3), (at_ vs_3 4), (at_ vs_3 5)])
              )
            )
          )
        ) fun o => ret (unblk 3 o)
      ) fun o => nx o points_Check_k0
    ) fun o => ret (unblk 2 o)
  ) fun o => nx o points_Check_k1
def points_Check_l3 (vs_2 : List V) : M Out :=
  bnd (lift (bin .lss (at_ vs_2 5) (at_ vs_2 4))) fun x22 =>
  bnd (
  condM x22 (
    ret (.nxt [(at_ vs_2 0), (at_ vs_2 1), (at_ vs_2 2), (at_ vs_2 3), (at_ vs_2 4), (at_ vs_2 5)])
    ) (
    ret (.brk 1 [])
    )
  ) fun o => nx o points_Check_k2
def points_Check_k4 (vs_6 : List V) : M Out :=
  ret (.ret [(Value.int .i64 0), (Value.int .i64 0)])
def points_Check_k5 (vs : List V) : M Out :=
  bnd (mkmap) fun x17 =>
  bnd (mkmap) fun x18 =>
  bnd (
    bnd (lift (lenSlc (at_ vs 1))) fun x20 =>
    bnd (
      loopM FUEL points_Check_l3 [(at_ vs 0), x17, x18, (at_ vs 1), x20, (Value.int .i64 0)]
      ) fun o => ret (unblk 1 o)
    ) fun o => nx o points_Check_k4
def F_points_Check (x0 x1 : V) : M V :=
  bnd (
    bnd (
      bnd (
        bnd (lift (lenSlc x0)) fun x12 =>
        bnd (lift (bin .gtr x12 (Value.int .i64 64))) fun x13 =>
        condM x13 (
          ret (.ret [(Value.int .i64 (-1)), (Value.int .i64 2)])
          ) (
          bnd ((A_slices_ContainsFunc_S_api_Point_api_Point (ovr [(fid_points_Check_1, A_points_Check_1)] noC)) [x0, (Value.func (.func fid_points_Check_1) #[] #[])]) fun x16 =>
          condM x16 (
            ret (.ret [(Value.int .i64 (-1)), (Value.int .i64 40)])
            ) (
            ret (.nxt [x0, x1])
            )
          )
        ) fun o => ret (unblk 0 o)
      ) fun o => nx o points_Check_k5
    ) fun o => finM o fun vs => ret (outV [(at_ vs 0), (at_ vs 1)])
def h_points_Check : Hint := (.seq [] .leaf (.seq [0, 1] (.blk (.seq [] .leaf (.cond (.seq [] .leaf .leaf) (.seq [] .leaf (.cond (.seq [] .leaf .leaf) .leaf))))) (.seq [] .leaf (.seq [] .leaf (.seq [] (.seq [] .leaf (.blk (.loop [0, 6, 7, 19, 20, 21] (.seq [] .leaf (.seq [0, 6, 7, 19, 20, 21] (.cond .leaf .leaf) (.seq [0, 6, 7, 19, 20, 21] (.blk (.seq [] .leaf (.seq [0, 6, 7, 9, 19, 20, 21] (.blk (.seq [] .leaf (.cond (.seq [] .leaf .leaf) (.seq [] .leaf (.cond (.seq [] .leaf .leaf) (.seq [] .leaf (.cond (.seq [] .leaf .leaf) .leaf))))))) (.seq [] .leaf .leaf)))) .leaf)))))) (.seq [] .leaf .leaf))))))
def A_points_Check (l : List V) : M V := match l with | [x0, x1] => F_points_Check x0 x1 | _ => fail
def s_points_Check : Calls' := ovr [(fid_slices_ContainsFunc_S_api_Point_api_Point, A_slices_ContainsFunc_S_api_Point_api_Point (ovr [(fid_points_Check_1, A_points_Check_1)] noC)), (fid_points_there, A_points_there)] noC
theorem e_points_Check (x0 x1 : V) : funM Try.prog (s_points_Check) fid_points_Check h_points_Check [x0, x1] = F_points_Check x0 x1 := by kernel_rfl
theorem K_points_Check : Known Try.prog fid_points_Check (A_points_Check) := known_of (σ := s_points_Check) (hint := h_points_Check) (by kernel_rfl) (simAll_ovr (K_slices_ContainsFunc_S_api_Point_api_Point (simAll_ovr K_points_Check_1 simAll_nil0)) (simAll_ovr K_points_there simAll_nil0)) fun l H r H' h => by
  unfold A_points_Check at h; split at h
  · rw [e_points_Check]; exact h
  · exact (fail_ne h).elim

/-! ### slices.Clone[[]capstan/api.Point,capstan/api.Point] -/
def slices_Clone_S_api_Point_api_Point_k0 (vs : List V) : M Out :=
  bnd (bslc 2 0 (rep 0 [Value.int .i64 0, Value.bool false]) []) fun x5 =>
  bnd (appV 2 16 x5 (at_ vs 0)) fun x7 =>
  ret (.ret [x7])
def F_slices_Clone_S_api_Point_api_Point (x0 : V) : M V :=
  bnd (
    bnd (
      bnd (lift (notIf false (isNil .s x0))) fun x4 =>
      condM x4 (
        ret (.ret [(Value.slice none 0 0)])
        ) (
        ret (.nxt [x0])
        )
      ) fun o => nx o slices_Clone_S_api_Point_api_Point_k0
    ) fun o => finM o fun vs => ret (outV [(at_ vs 0)])
def h_slices_Clone_S_api_Point_api_Point : Hint := (.seq [] .leaf (.seq [0] (.seq [] .leaf (.cond (.seq [] .leaf .leaf) .leaf)) (.seq [] .leaf .leaf)))
def A_slices_Clone_S_api_Point_api_Point (l : List V) : M V := match l with | [x0] => F_slices_Clone_S_api_Point_api_Point x0 | _ => fail
theorem e_slices_Clone_S_api_Point_api_Point (x0 : V) : funM Try.prog (ovr [] noC) fid_slices_Clone_S_api_Point_api_Point h_slices_Clone_S_api_Point_api_Point [x0] = F_slices_Clone_S_api_Point_api_Point x0 := by kernel_rfl
theorem K_slices_Clone_S_api_Point_api_Point : Known Try.prog fid_slices_Clone_S_api_Point_api_Point (A_slices_Clone_S_api_Point_api_Point) := known_of (σ := ovr [] noC) (hint := h_slices_Clone_S_api_Point_api_Point) (by kernel_rfl) simAll_nil0 fun l H r H' h => by
  unfold A_slices_Clone_S_api_Point_api_Point at h; split at h
  · rw [e_slices_Clone_S_api_Point_api_Point]; exact h
  · exact (fail_ne h).elim

/-! ### capstan/points.New -/
def points_New_k0 (vs_4 : List V) : M Out :=
  bnd (lift (bin .add (at_ vs_4 3) (Value.int .i64 1))) fun x57 =>
  ret (.nxt [(at_ vs_4 0), (at_ vs_4 1), (at_ vs_4 2), x57])
def points_New_k1 (vs_3 : List V) : M Out :=
  bnd (
  bnd (
    bnd (lift (iaddrS 3 (at_ vs_3 1) (at_ vs_3 3))) fun x35 =>
    bnd (ldn 3 x35) fun x36 =>
    bnd (newc [Value.int .i64 0, Value.int .i64 0, Value.bool false]) fun x10 =>
    bnd (stn 3 x10 x36) fun _ =>
    bnd (lift (faddr 0 x10)) fun x37 =>
    bnd (ld1 x37) fun x38 =>
    bnd (lift (faddr 1 x10)) fun x39 =>
    bnd (ld1 x39) fun x40 =>
    bnd (lift (build [Value.int .i64 0, Value.int .i64 0] [(0, 1, x38), (1, 1, x40)])) fun x41 =>
    bnd (newc [Value.int .i64 0, Value.int .i64 0]) fun x11 =>
    bnd (stn 2 x11 x41) fun _ =>
    bnd (lift (nilck (at_ vs_3 0))) fun x43 =>
    bnd (lift (faddr 1 x43)) fun x44 =>
    bnd (lift (nilck (at_ vs_3 0))) fun x48 =>
    bnd (lift (faddr 1 x48)) fun x49 =>
    bnd (ld1 x44) fun x45 =>
    bnd (ldn 2 x11) fun x46 =>
    bnd (ld1 x49) fun x50 =>
    bnd (ldn 2 x11) fun x51 =>
    bnd (lookup (.agg [.i, .i]) (Value.bool false) false x50 x51) fun x52 =>
    bnd (gd x52 false (lift (faddr 2 x10))) fun x54 =>
    bnd (gd x52 false (ld1 x54)) fun x55 =>
    bnd (lift (pickV x52 (Value.bool true) x55)) fun x56 =>
    bnd (mapSet (.agg [.i, .i]) x45 x46 x56) fun _ =>
    ret (.nxt [(at_ vs_3 0), (at_ vs_3 1), (at_ vs_3 2), (at_ vs_3 3)])
    ) fun o => ret (unblk 1 o)
  ) fun o => nx o points_New_k0
def points_New_l2 (vs_2 : List V) : M Out :=
  bnd (lift (bin .lss (at_ vs_2 3) (at_ vs_2 2))) fun x34 =>
  bnd (
  condM x34 (
    ret (.nxt [(at_ vs_2 0), (at_ vs_2 1), (at_ vs_2 2), (at_ vs_2 3)])
    ) (
    ret (.brk 0 [(at_ vs_2 0)])
    )
  ) fun o => nx o points_New_k1
def points_New_k3 (vs_5 : List V) : M Out :=
  ret (.ret [(at_ vs_5 0), (Value.int .i64 0)])
def points_New_k4 (vs : List V) : M Out :=
  withResv 4 fun base h0 =>
  bnd (lift (lenSlc (at_ vs 0))) fun x25 =>
  bndH (A_slices_Clone_S_api_Point_api_Point [(at_ vs 0)]) fun ha x22 h1 =>
  need (freeIn ha [base + 0, base + 1, base + 2, base + 3] && freeIn h1 [base + 0, base + 1, base + 2, base + 3]) <|
  bnd (flt (base + 0) (mkmap)) fun x23 =>
  bnd (flt (base + 1) (mkslc 1 8 [Value.int .i64 0] x25 x25)) fun x26 =>
  bnd (flt (base + 2) (mkmap)) fun x27 =>
  bnd (flt (base + 3) (mkmap)) fun x28 =>
  bnd (lift (build [Value.slice none 0 0, Value.map none, Value.slice none 0 0, Value.map none, Value.map none] [(0, 1, x22), (1, 1, x23), (2, 1, x26), (3, 1, x27), (4, 1, x28)])) fun x29 =>
  bndH (boxv x29) fun ha_2 x30 h2 =>
  bnd (
    bnd (lift (lenSlc (at_ vs 1))) fun x32 =>
    bnd (
      loopM FUEL points_New_l2 [x30, (at_ vs 1), x32, (Value.int .i64 0)]
      ) fun o => ret (unblk 0 o)
    ) fun o => nx o points_New_k3
def F_points_New (x0 x1 : V) : M V :=
  bnd (
    bnd (
      bnd (A_points_Check [x0, x1]) fun x15 =>
      bnd (lift (ext 0 x15)) fun x16 =>
      bnd (lift (ext 1 x15)) fun x17 =>
      bnd (lift (bin .neq x17 (Value.int .i64 0))) fun x19 =>
      condM x19 (
        ret (.ret [(Value.pointer none), x17])
        ) (
        ret (.nxt [x0, x1])
        )
      ) fun o => nx o points_New_k4
    ) fun o => finM o fun vs => ret (outV [(at_ vs 0), (at_ vs 1)])
def h_points_New : Hint := (.seq [] .leaf (.seq [0, 1] (.seq [] .leaf (.seq [] .leaf (.cond (.seq [] .leaf .leaf) .leaf))) (.seq [] (.reg [0, 3, 4, 1, 2, 5, 6, 7, 8, 9, 10] [2, 5, 6, 7]) (.seq [8] (.seq [] .leaf (.blk (.loop [8, 31, 32, 33] (.seq [] .leaf (.seq [8, 31, 32, 33] (.cond .leaf .leaf) (.seq [8, 31, 32, 33] (.blk (.seq [] .leaf (.seq [] .leaf (.reg [0, 1, 2, 5, 6, 7, 3, 4, 8, 9, 10, 11, 12, 13, 14, 15] [])))) .leaf)))))) (.seq [] .leaf .leaf)))))
def A_points_New (l : List V) : M V := match l with | [x0, x1] => F_points_New x0 x1 | _ => fail
def s_points_New : Calls' := ovr [(fid_points_Check, A_points_Check), (fid_slices_Clone_S_api_Point_api_Point, A_slices_Clone_S_api_Point_api_Point)] noC
theorem e_points_New (x0 x1 : V) : funM Try.prog (s_points_New) fid_points_New h_points_New [x0, x1] = F_points_New x0 x1 := by kernel_rfl
theorem K_points_New : Known Try.prog fid_points_New (A_points_New) := known_of (σ := s_points_New) (hint := h_points_New) (by kernel_rfl) (simAll_ovr K_points_Check (simAll_ovr K_slices_Clone_S_api_Point_api_Point simAll_nil0)) fun l H r H' h => by
  unfold A_points_New at h; split at h
  · rw [e_points_New]; exact h
  · exact (fail_ne h).elim

/-! ### (*capstan/points.Bank).of -/
def points_Bank_of_k0 (vs_3 : List V) : M Out :=
  bnd (lift (bin .add (at_ vs_3 4) (Value.int .i64 1))) fun x26 =>
  ret (.nxt [(at_ vs_3 0), (at_ vs_3 1), (at_ vs_3 2), (at_ vs_3 3), x26])
def points_Bank_of_k1 (vs_2 : List V) : M Out :=
  bnd (
  bnd (
    bnd (lift (iaddrS 2 (at_ vs_2 2) (at_ vs_2 4))) fun x16 =>
    bnd (ldn 2 x16) fun x17 =>
    bnd (newc [Value.int .i64 0, Value.bool false]) fun x7 =>
    bnd (stn 2 x7 x17) fun _ =>
    bnd (lift (faddr 1 x7)) fun x18 =>
    bnd (ld1 x18) fun x19 =>
    bnd (lift (notIf false (eqK .b x19 (at_ vs_2 0)))) fun x21 =>
    condM x21 (
      bnd (bslc 1 1 (rep 1 [Value.int .i64 0]) [(0, 1, (at_ vs_2 4))]) fun x24 =>
      bnd (appV 1 8 (at_ vs_2 1) x24) fun x25 =>
      ret (.nxt [(at_ vs_2 0), x25, (at_ vs_2 2), (at_ vs_2 3), (at_ vs_2 4)])
      ) (
      ret (.nxt [(at_ vs_2 0), (at_ vs_2 1), (at_ vs_2 2), (at_ vs_2 3), (at_ vs_2 4)])
      )
    ) fun o => ret (unblk 1 o)
  ) fun o => nx o points_Bank_of_k0
def points_Bank_of_l2 (vs : List V) : M Out :=
  bnd (lift (bin .lss (at_ vs 4) (at_ vs 3))) fun x14 =>
  bnd (
  condM x14 (
    ret (.nxt [(at_ vs 0), (at_ vs 1), (at_ vs 2), (at_ vs 3), (at_ vs 4)])
    ) (
    ret (.brk 0 [(at_ vs 1)])
    )
  ) fun o => nx o points_Bank_of_k1
def points_Bank_of_k3 (vs_4 : List V) : M Out :=
  ret (.ret [(at_ vs_4 0)])
def F_points_Bank_of (x0 x1 : V) : M V :=
  bnd (
    bnd (
      bnd (lift (nilck x0)) fun x9 =>
      bnd (lift (faddr 0 x9)) fun x10 =>
      bnd (ld1 x10) fun x11 =>
      bnd (lift (lenSlc x11)) fun x12 =>
      bnd (
        loopM FUEL points_Bank_of_l2 [x1, (Value.slice none 0 0), x11, x12, (Value.int .i64 0)]
        ) fun o => ret (unblk 0 o)
      ) fun o => nx o points_Bank_of_k3
    ) fun o => finM o fun vs => ret (outV [(at_ vs 0)])
def h_points_Bank_of : Hint := (.seq [] .leaf (.seq [] .leaf (.seq [5] (.seq [] .leaf (.blk (.loop [1, 5, 11, 12, 13] (.seq [] .leaf (.seq [1, 5, 11, 12, 13] (.cond .leaf .leaf) (.seq [1, 5, 11, 12, 13] (.blk (.seq [] .leaf (.seq [] .leaf (.cond .leaf .leaf)))) .leaf)))))) (.seq [] .leaf .leaf))))
def A_points_Bank_of (l : List V) : M V := match l with | [x0, x1] => F_points_Bank_of x0 x1 | _ => fail
theorem e_points_Bank_of (x0 x1 : V) : funM Try.prog (ovr [] noC) fid_points_Bank_of h_points_Bank_of [x0, x1] = F_points_Bank_of x0 x1 := by kernel_rfl
theorem K_points_Bank_of : Known Try.prog fid_points_Bank_of (A_points_Bank_of) := known_of (σ := ovr [] noC) (hint := h_points_Bank_of) (by kernel_rfl) simAll_nil0 fun l H r H' h => by
  unfold A_points_Bank_of at h; split at h
  · rw [e_points_Bank_of]; exact h
  · exact (fail_ne h).elim

/-! ### capstan/num.known -/
def F_num_known (x0 : V) : M V :=
  bnd (
    bnd (lift (bin .geq x0 (Value.int .i64 1))) fun x4 =>
    bnd (gd x4 true (lift (some x0))) fun x6 =>
    bnd (gd x4 true (lift (bin .leq x6 (Value.int .i64 4)))) fun x7 =>
    bnd (lift (pickV x4 x7 (Value.bool false))) fun x8 =>
    ret (.ret [x8])
    ) fun o => finM o fun vs => ret (outV [(at_ vs 0)])
def h_num_known : Hint := (.seq [] .leaf (.seq [] .leaf .leaf))
def A_num_known (l : List V) : M V := match l with | [x0] => F_num_known x0 | _ => fail
theorem e_num_known (x0 : V) : funM Try.prog (ovr [] noC) fid_num_known h_num_known [x0] = F_num_known x0 := by kernel_rfl
theorem K_num_known : Known Try.prog fid_num_known (A_num_known) := known_of (σ := ovr [] noC) (hint := h_num_known) (by kernel_rfl) simAll_nil0 fun l H r H' h => by
  unfold A_num_known at h; split at h
  · rw [e_num_known]; exact h
  · exact (fail_ne h).elim

/-! ### capstan/num.wrap -/
def num_wrap_k0 (vs : List V) : M Out :=
  bnd (lift (cvi .i32 (at_ vs 0))) fun x16 =>
  bnd (lift (cvi .i64 x16)) fun x17 =>
  ret (.ret [x17])
def F_num_wrap (x0 x1 : V) : M V :=
  bnd (
    bnd (
      bnd (
        bnd (lift (bin .eql x0 (Value.int .i64 1))) fun x7 =>
        condM x7 (
          bnd (lift (bin .and x1 (Value.int .i64 1))) fun x9 =>
          ret (.ret [x9])
          ) (
          bnd (lift (bin .eql x0 (Value.int .i64 2))) fun x11 =>
          condM x11 (
            bnd (lift (cvi .i16 x1)) fun x13 =>
            bnd (lift (cvi .i64 x13)) fun x14 =>
            ret (.ret [x14])
            ) (
            ret (.nxt [x1])
            )
          )
        ) fun o => ret (unblk 0 o)
      ) fun o => nx o num_wrap_k0
    ) fun o => finM o fun vs => ret (outV [(at_ vs 0)])
def h_num_wrap : Hint := (.seq [] .leaf (.seq [1] (.seq [] .leaf (.blk (.seq [] .leaf (.cond (.seq [] .leaf .leaf) (.seq [] .leaf (.cond (.seq [] .leaf .leaf) .leaf)))))) (.seq [] .leaf .leaf)))
def A_num_wrap (l : List V) : M V := match l with | [x0, x1] => F_num_wrap x0 x1 | _ => fail
theorem e_num_wrap (x0 x1 : V) : funM Try.prog (ovr [] noC) fid_num_wrap h_num_wrap [x0, x1] = F_num_wrap x0 x1 := by kernel_rfl
theorem K_num_wrap : Known Try.prog fid_num_wrap (A_num_wrap) := known_of (σ := ovr [] noC) (hint := h_num_wrap) (by kernel_rfl) simAll_nil0 fun l H r H' h => by
  unfold A_num_wrap at h; split at h
  · rw [e_num_wrap]; exact h
  · exact (fail_ne h).elim

/-! ### capstan/num.Fits -/
def F_num_Fits (x0 x1 : V) : M V :=
  bnd (
    bnd (A_num_known [x0]) fun x6 =>
    bnd (gd x6 true (lift (some x0))) fun x8 =>
    bnd (gd x6 true (lift (some x1))) fun x9 =>
    bnd (gd x6 true (A_num_wrap [x8, x9])) fun x10 =>
    bnd (gd x6 true (lift (some x1))) fun x11 =>
    bnd (gd x6 true (lift (bin .eql x10 x11))) fun x12 =>
    bnd (lift (pickV x6 x12 (Value.bool false))) fun x13 =>
    ret (.ret [x13])
    ) fun o => finM o fun vs => ret (outV [(at_ vs 0)])
def h_num_Fits : Hint := (.seq [] .leaf (.seq [] .leaf .leaf))
def A_num_Fits (l : List V) : M V := match l with | [x0, x1] => F_num_Fits x0 x1 | _ => fail
def s_num_Fits : Calls' := ovr [(fid_num_known, A_num_known), (fid_num_wrap, A_num_wrap)] noC
theorem e_num_Fits (x0 x1 : V) : funM Try.prog (s_num_Fits) fid_num_Fits h_num_Fits [x0, x1] = F_num_Fits x0 x1 := by kernel_rfl
theorem K_num_Fits : Known Try.prog fid_num_Fits (A_num_Fits) := known_of (σ := s_num_Fits) (hint := h_num_Fits) (by kernel_rfl) (simAll_ovr K_num_known (simAll_ovr K_num_wrap simAll_nil0)) fun l H r H' h => by
  unfold A_num_Fits at h; split at h
  · rw [e_num_Fits]; exact h
  · exact (fail_ne h).elim

/-! ### (*capstan/points.Bank).fits -/
def F_points_Bank_fits (x0 x1 x2 : V) : M V :=
  bnd (
    bnd (lift (bin .geq x1 (Value.int .i64 0))) fun x8 =>
    bnd (gd x8 true (lift (some x1))) fun x10 =>
    bnd (gd x8 true (lift (some x0))) fun x11 =>
    bnd (gd x8 true (lift (nilck x11))) fun x12 =>
    bnd (gd x8 true (lift (faddr 0 x12))) fun x13 =>
    bnd (gd x8 true (ld1 x13)) fun x14 =>
    bnd (gd x8 true (lift (lenSlc x14))) fun x15 =>
    bnd (gd x8 true (lift (bin .lss x10 x15))) fun x16 =>
    bnd (lift (pickV x8 x16 (Value.bool false))) fun x17 =>
    bnd (gd x17 true (lift (some x0))) fun x19 =>
    bnd (gd x17 true (lift (nilck x19))) fun x20 =>
    bnd (gd x17 true (lift (faddr 0 x20))) fun x21 =>
    bnd (gd x17 true (ld1 x21)) fun x22 =>
    bnd (gd x17 true (lift (some x1))) fun x23 =>
    bnd (gd x17 true (lift (iaddrS 2 x22 x23))) fun x24 =>
    bnd (gd x17 true (lift (faddr 0 x24))) fun x25 =>
    bnd (gd x17 true (ld1 x25)) fun x26 =>
    bnd (gd x17 true (lift (some x2))) fun x27 =>
    bnd (gd x17 true (A_num_Fits [x26, x27])) fun x28 =>
    bnd (lift (pickV x17 x28 (Value.bool false))) fun x29 =>
    ret (.ret [x29])
    ) fun o => finM o fun vs => ret (outV [(at_ vs 0)])
def h_points_Bank_fits : Hint := (.seq [] .leaf (.seq [] .leaf .leaf))
def A_points_Bank_fits (l : List V) : M V := match l with | [x0, x1, x2] => F_points_Bank_fits x0 x1 x2 | _ => fail
def s_points_Bank_fits : Calls' := ovr [(fid_num_Fits, A_num_Fits)] noC
theorem e_points_Bank_fits (x0 x1 x2 : V) : funM Try.prog (s_points_Bank_fits) fid_points_Bank_fits h_points_Bank_fits [x0, x1, x2] = F_points_Bank_fits x0 x1 x2 := by kernel_rfl
theorem K_points_Bank_fits : Known Try.prog fid_points_Bank_fits (A_points_Bank_fits) := known_of (σ := s_points_Bank_fits) (hint := h_points_Bank_fits) (by kernel_rfl) (simAll_ovr K_num_Fits simAll_nil0) fun l H r H' h => by
  unfold A_points_Bank_fits at h; split at h
  · rw [e_points_Bank_fits]; exact h
  · exact (fail_ne h).elim

/-! ### (*capstan/points.Bank).Latch -/
def points_Bank_Latch_k0 (vs_4 : List V) : M Out :=
  bnd (lift (bin .add (at_ vs_4 5) (Value.int .i64 1))) fun x32 =>
  ret (.nxt [(at_ vs_4 0), (at_ vs_4 1), (at_ vs_4 2), (at_ vs_4 3), (at_ vs_4 4), x32])
def points_Bank_Latch_k1 (vs_3 : List V) : M Out :=
  bnd (
  bnd (
    bnd (lift (iaddrS 1 (at_ vs_3 3) (at_ vs_3 5))) fun x22 =>
    bnd (ld1 x22) fun x23 =>
    bnd (lift (iaddrS 1 (at_ vs_3 1) (at_ vs_3 5))) fun x28 =>
    bnd (ld1 x28) fun x29 =>
    bnd (A_points_Bank_fits [(at_ vs_3 0), x23, x29]) fun x30 =>
    bnd (lift (un .not x30)) fun x31 =>
    condM x31 (
      ret (.ret [(Value.int .i64 1)])
      ) (
      ret (.nxt [(at_ vs_3 0), (at_ vs_3 1), (at_ vs_3 2), (at_ vs_3 3), (at_ vs_3 4), (at_ vs_3 5)])
      )
    ) fun o => ret (unblk 1 o)
  ) fun o => nx o points_Bank_Latch_k0
def points_Bank_Latch_l2 (vs_2 : List V) : M Out :=
  bnd (lift (bin .lss (at_ vs_2 5) (at_ vs_2 4))) fun x20 =>
  bnd (
  condM x20 (
    ret (.nxt [(at_ vs_2 0), (at_ vs_2 1), (at_ vs_2 2), (at_ vs_2 3), (at_ vs_2 4), (at_ vs_2 5)])
    ) (
    ret (.brk 0 [(at_ vs_2 0), (at_ vs_2 1), (at_ vs_2 2)])
    )
  ) fun o => nx o points_Bank_Latch_k1
def points_Bank_Latch_k3 (vs_8 : List V) : M Out :=
  bnd (lift (bin .add (at_ vs_8 4) (Value.int .i64 1))) fun x50 =>
  ret (.nxt [(at_ vs_8 0), (at_ vs_8 1), (at_ vs_8 2), (at_ vs_8 3), x50])
def points_Bank_Latch_k4 (vs_7 : List V) : M Out :=
  bnd (
  bnd (
    bnd (lift (iaddrS 1 (at_ vs_7 2) (at_ vs_7 4))) fun x38 =>
    bnd (ld1 x38) fun x39 =>
    bnd (lift (nilck (at_ vs_7 0))) fun x41 =>
    bnd (lift (faddr 2 x41)) fun x42 =>
    bnd (lift (iaddrS 1 (at_ vs_7 1) (at_ vs_7 4))) fun x47 =>
    bnd (ld1 x42) fun x43 =>
    bnd (ld1 x47) fun x48 =>
    bnd (lift (iaddrS 1 x43 x39)) fun x49 =>
    bnd (st1 x49 x48) fun _ =>
    ret (.nxt [(at_ vs_7 0), (at_ vs_7 1), (at_ vs_7 2), (at_ vs_7 3), (at_ vs_7 4)])
    ) fun o => ret (unblk 3 o)
  ) fun o => nx o points_Bank_Latch_k3
def points_Bank_Latch_l5 (vs_6 : List V) : M Out :=
  bnd (lift (bin .lss (at_ vs_6 4) (at_ vs_6 3))) fun x36 =>
  bnd (
  condM x36 (
    ret (.nxt [(at_ vs_6 0), (at_ vs_6 1), (at_ vs_6 2), (at_ vs_6 3), (at_ vs_6 4)])
    ) (
    ret (.brk 2 [])
    )
  ) fun o => nx o points_Bank_Latch_k4
def points_Bank_Latch_k6 (vs_9 : List V) : M Out :=
  ret (.ret [(Value.int .i64 0)])
def points_Bank_Latch_k7 (vs_5 : List V) : M Out :=
  bnd (
    bnd (lift (lenSlc (at_ vs_5 2))) fun x34 =>
    bnd (
      loopM FUEL points_Bank_Latch_l5 [(at_ vs_5 0), (at_ vs_5 1), (at_ vs_5 2), x34, (Value.int .i64 0)]
      ) fun o => ret (unblk 2 o)
    ) fun o => nx o points_Bank_Latch_k6
def points_Bank_Latch_k8 (vs : List V) : M Out :=
  bnd (
    bnd (lift (lenSlc (at_ vs 2))) fun x18 =>
    bnd (
      loopM FUEL points_Bank_Latch_l2 [(at_ vs 0), (at_ vs 1), (at_ vs 2), (at_ vs 2), x18, (Value.int .i64 0)]
      ) fun o => ret (unblk 0 o)
    ) fun o => nx o points_Bank_Latch_k7
def F_points_Bank_Latch (x0 x1 : V) : M V :=
  bnd (
    bnd (A_points_Bank_of [x0, (Value.bool false)]) fun x11 =>
    bnd (
      bnd (lift (lenSlc x11)) fun x13 =>
      bnd (lift (lenSlc x1)) fun x15 =>
      bnd (lift (bin .neq x13 x15)) fun x16 =>
      condM x16 (
        ret (.ret [(Value.int .i64 4)])
        ) (
        ret (.nxt [x0, x1, x11])
        )
      ) fun o => nx o points_Bank_Latch_k8
    ) fun o => finM o fun vs => ret (outV [(at_ vs 0)])
def h_points_Bank_Latch : Hint := (.seq [] .leaf (.seq [] .leaf (.seq [0, 1, 5] (.seq [] .leaf (.cond (.seq [] .leaf .leaf) .leaf)) (.seq [0, 1, 5] (.seq [] .leaf (.blk (.loop [0, 1, 5, 17, 18, 19] (.seq [] .leaf (.seq [0, 1, 5, 17, 18, 19] (.cond .leaf .leaf) (.seq [0, 1, 5, 17, 18, 19] (.blk (.seq [] .leaf (.seq [] .leaf (.cond (.seq [] .leaf .leaf) .leaf)))) .leaf)))))) (.seq [] (.seq [] .leaf (.blk (.loop [0, 1, 33, 34, 35] (.seq [] .leaf (.seq [0, 1, 33, 34, 35] (.cond .leaf .leaf) (.seq [0, 1, 33, 34, 35] (.blk (.seq [] .leaf (.reg [0, 1, 2, 4, 5, 6, 7, 3, 8, 9, 10] []))) .leaf)))))) (.seq [] .leaf .leaf))))))
def A_points_Bank_Latch (l : List V) : M V := match l with | [x0, x1] => F_points_Bank_Latch x0 x1 | _ => fail
def s_points_Bank_Latch : Calls' := ovr [(fid_points_Bank_of, A_points_Bank_of), (fid_points_Bank_fits, A_points_Bank_fits)] noC
theorem e_points_Bank_Latch (x0 x1 : V) : funM Try.prog (s_points_Bank_Latch) fid_points_Bank_Latch h_points_Bank_Latch [x0, x1] = F_points_Bank_Latch x0 x1 := by kernel_rfl
theorem K_points_Bank_Latch : Known Try.prog fid_points_Bank_Latch (A_points_Bank_Latch) := known_of (σ := s_points_Bank_Latch) (hint := h_points_Bank_Latch) (by kernel_rfl) (simAll_ovr K_points_Bank_of (simAll_ovr K_points_Bank_fits simAll_nil0)) fun l H r H' h => by
  unfold A_points_Bank_Latch at h; split at h
  · rw [e_points_Bank_Latch]; exact h
  · exact (fail_ne h).elim

/-! ### (*capstan/points.Bank).grant -/
def points_Bank_grant_k0 (vs : List V) : M Out :=
  ret (.ret [(at_ vs 0), (Value.int .i64 0)])
def F_points_Bank_grant (x0 x1 x2 : V) : M V :=
  bnd (
    bnd (lift (nilck x0)) fun x11 =>
    bnd (lift (faddr 1 x11)) fun x12 =>
    bnd (ld1 x12) fun x13 =>
    bnd (lift (build [Value.int .i64 0, Value.int .i64 0] [(0, 1, x1), (1, 1, x2)])) fun x16 =>
    bnd (lookup (.agg [.i, .i]) (Value.bool false) true x13 x16) fun x17 =>
    bnd (lift (ext 0 x17)) fun x18 =>
    bnd (lift (ext 1 x17)) fun x19 =>
    bnd (
      bnd (
        bnd (A_points_there [x1]) fun x22 =>
        bnd (lift (un .not x22)) fun x23 =>
        bnd (gd x23 false (lift (some x2))) fun x25 =>
        bnd (gd x23 false (lift (bin .lss x25 (Value.int .i64 0)))) fun x26 =>
        bnd (lift (pickV x23 (Value.bool true) x26)) fun x27 =>
        bnd (gd x27 false (lift (some x2))) fun x29 =>
        bnd (gd x27 false (lift (some x0))) fun x30 =>
        bnd (gd x27 false (lift (nilck x30))) fun x31 =>
        bnd (gd x27 false (lift (faddr 0 x31))) fun x32 =>
        bnd (gd x27 false (ld1 x32)) fun x33 =>
        bnd (gd x27 false (lift (lenSlc x33))) fun x34 =>
        bnd (gd x27 false (lift (bin .geq x29 x34))) fun x35 =>
        bnd (lift (pickV x27 (Value.bool true) x35)) fun x36 =>
        condM x36 (
          ret (.ret [(Value.bool false), (Value.int .i64 1)])
          ) (
          bnd (lift (un .not x19)) fun x39 =>
          condM x39 (
            ret (.ret [(Value.bool false), (Value.int .i64 190)])
            ) (
            ret (.nxt [x18])
            )
          )
        ) fun o => ret (unblk 0 o)
      ) fun o => nx o points_Bank_grant_k0
    ) fun o => finM o fun vs => ret (outV [(at_ vs 0), (at_ vs 1)])
def h_points_Bank_grant : Hint := (.seq [] .leaf (.seq [] .leaf (.seq [6] (.blk (.seq [] .leaf (.cond (.seq [] .leaf .leaf) (.seq [] .leaf (.cond (.seq [] .leaf .leaf) .leaf))))) (.seq [] .leaf .leaf))))
def A_points_Bank_grant (l : List V) : M V := match l with | [x0, x1, x2] => F_points_Bank_grant x0 x1 x2 | _ => fail
def s_points_Bank_grant : Calls' := ovr [(fid_points_there, A_points_there)] noC
theorem e_points_Bank_grant (x0 x1 x2 : V) : funM Try.prog (s_points_Bank_grant) fid_points_Bank_grant h_points_Bank_grant [x0, x1, x2] = F_points_Bank_grant x0 x1 x2 := by kernel_rfl
theorem K_points_Bank_grant : Known Try.prog fid_points_Bank_grant (A_points_Bank_grant) := known_of (σ := s_points_Bank_grant) (hint := h_points_Bank_grant) (by kernel_rfl) (simAll_ovr K_points_there simAll_nil0) fun l H r H' h => by
  unfold A_points_Bank_grant at h; split at h
  · rw [e_points_Bank_grant]; exact h
  · exact (fail_ne h).elim

/-! ### (*capstan/points.Bank).value -/
def points_Bank_value_k0 (vs : List V) : M Out :=
  bnd (lift (nilck (at_ vs 0))) fun x19 =>
  bnd (lift (faddr 2 x19)) fun x20 =>
  bnd (ld1 x20) fun x21 =>
  bnd (lift (iaddrS 1 x21 (at_ vs 1))) fun x23 =>
  bnd (ld1 x23) fun x24 =>
  ret (.ret [x24])
def F_points_Bank_value (x0 x1 : V) : M V :=
  bnd (
    bnd (
      bnd (lift (nilck x0)) fun x9 =>
      bnd (lift (faddr 3 x9)) fun x10 =>
      bnd (ld1 x10) fun x11 =>
      bnd (lookup (.one .i) (Value.int .i64 0) true x11 x1) fun x13 =>
      bnd (lift (ext 0 x13)) fun x14 =>
      bnd (lift (ext 1 x13)) fun x15 =>
      condM x15 (
        ret (.ret [x14])
        ) (
        ret (.nxt [x0, x1])
        )
      ) fun o => nx o points_Bank_value_k0
    ) fun o => finM o fun vs => ret (outV [(at_ vs 0)])
def h_points_Bank_value : Hint := (.seq [] .leaf (.seq [0, 1] (.seq [] .leaf (.seq [] .leaf (.cond (.seq [] .leaf .leaf) .leaf))) (.seq [] .leaf .leaf)))
def A_points_Bank_value (l : List V) : M V := match l with | [x0, x1] => F_points_Bank_value x0 x1 | _ => fail
theorem e_points_Bank_value (x0 x1 : V) : funM Try.prog (ovr [] noC) fid_points_Bank_value h_points_Bank_value [x0, x1] = F_points_Bank_value x0 x1 := by kernel_rfl
theorem K_points_Bank_value : Known Try.prog fid_points_Bank_value (A_points_Bank_value) := known_of (σ := ovr [] noC) (hint := h_points_Bank_value) (by kernel_rfl) simAll_nil0 fun l H r H' h => by
  unfold A_points_Bank_value at h; split at h
  · rw [e_points_Bank_value]; exact h
  · exact (fail_ne h).elim

/-! ### (*capstan/points.Bank).Read -/
def points_Bank_Read_k0 (vs : List V) : M Out :=
  bnd (A_points_Bank_value [(at_ vs 0), (at_ vs 1)]) fun x22 =>
  ret (.ret [x22, (Value.int .i64 0)])
def F_points_Bank_Read (x0 x1 x2 : V) : M V :=
  bnd (
    bnd (
      bnd (A_points_Bank_grant [x0, x1, x2]) fun x14 =>
      bnd (lift (ext 0 x14)) fun x15 =>
      bnd (lift (ext 1 x14)) fun x16 =>
      bnd (lift (bin .neq x16 (Value.int .i64 0))) fun x18 =>
      condM x18 (
        ret (.ret [(Value.int .i64 0), x16])
        ) (
        ret (.nxt [x0, x2])
        )
      ) fun o => nx o points_Bank_Read_k0
    ) fun o => finM o fun vs => ret (outV [(at_ vs 0), (at_ vs 1)])
def h_points_Bank_Read : Hint := (.seq [] .leaf (.seq [0, 2] (.seq [] .leaf (.seq [] .leaf (.cond (.seq [] .leaf .leaf) .leaf))) (.seq [] .leaf .leaf)))
def A_points_Bank_Read (l : List V) : M V := match l with | [x0, x1, x2] => F_points_Bank_Read x0 x1 x2 | _ => fail
def s_points_Bank_Read : Calls' := ovr [(fid_points_Bank_grant, A_points_Bank_grant), (fid_points_Bank_value, A_points_Bank_value)] noC
theorem e_points_Bank_Read (x0 x1 x2 : V) : funM Try.prog (s_points_Bank_Read) fid_points_Bank_Read h_points_Bank_Read [x0, x1, x2] = F_points_Bank_Read x0 x1 x2 := by kernel_rfl
theorem K_points_Bank_Read : Known Try.prog fid_points_Bank_Read (A_points_Bank_Read) := known_of (σ := s_points_Bank_Read) (hint := h_points_Bank_Read) (by kernel_rfl) (simAll_ovr K_points_Bank_grant (simAll_ovr K_points_Bank_value simAll_nil0)) fun l H r H' h => by
  unfold A_points_Bank_Read at h; split at h
  · rw [e_points_Bank_Read]; exact h
  · exact (fail_ne h).elim

/-! ### (*capstan/points.Bank).Write -/
def points_Bank_Write_k0 (vs : List V) : M Out :=
  bnd (lift (nilck (at_ vs 0))) fun x32 =>
  bnd (lift (faddr 4 x32)) fun x33 =>
  bnd (ld1 x33) fun x34 =>
  bnd (lift (build [Value.int .i64 0, Value.int .i64 0] [(0, 1, (at_ vs 1)), (1, 1, (at_ vs 2))])) fun x37 =>
  bnd (mapSet (.agg [.i, .i]) x34 x37 (at_ vs 3)) fun _ =>
  ret (.ret [(Value.int .i64 0)])
def F_points_Bank_Write (x0 x1 x2 x3 : V) : M V :=
  bnd (
    bnd (A_points_Bank_grant [x0, x1, x2]) fun x15 =>
    bnd (lift (ext 0 x15)) fun x16 =>
    bnd (lift (ext 1 x15)) fun x17 =>
    bnd (
      bnd (
        bnd (lift (bin .neq x17 (Value.int .i64 0))) fun x20 =>
        condM x20 (
          ret (.ret [x17])
          ) (
          bnd (lift (un .not x16)) fun x24 =>
          condM x24 (
            ret (.ret [(Value.int .i64 190)])
            ) (
            bnd (A_points_Bank_fits [x0, x2, x3]) fun x29 =>
            bnd (lift (un .not x29)) fun x30 =>
            condM x30 (
              ret (.ret [(Value.int .i64 1)])
              ) (
              ret (.nxt [x0, x1, x2, x3])
              )
            )
          )
        ) fun o => ret (unblk 0 o)
      ) fun o => nx o points_Bank_Write_k0
    ) fun o => finM o fun vs => ret (outV [(at_ vs 0)])
def h_points_Bank_Write : Hint := (.seq [] .leaf (.seq [] .leaf (.seq [0, 1, 2, 3] (.blk (.seq [] .leaf (.cond (.seq [] .leaf .leaf) (.seq [] .leaf (.cond (.seq [] .leaf .leaf) (.seq [] .leaf (.cond (.seq [] .leaf .leaf) .leaf))))))) (.seq [] .leaf (.seq [] .leaf .leaf)))))
def A_points_Bank_Write (l : List V) : M V := match l with | [x0, x1, x2, x3] => F_points_Bank_Write x0 x1 x2 x3 | _ => fail
def s_points_Bank_Write : Calls' := ovr [(fid_points_Bank_grant, A_points_Bank_grant), (fid_points_Bank_fits, A_points_Bank_fits)] noC
theorem e_points_Bank_Write (x0 x1 x2 x3 : V) : funM Try.prog (s_points_Bank_Write) fid_points_Bank_Write h_points_Bank_Write [x0, x1, x2, x3] = F_points_Bank_Write x0 x1 x2 x3 := by kernel_rfl
theorem K_points_Bank_Write : Known Try.prog fid_points_Bank_Write (A_points_Bank_Write) := known_of (σ := s_points_Bank_Write) (hint := h_points_Bank_Write) (by kernel_rfl) (simAll_ovr K_points_Bank_grant (simAll_ovr K_points_Bank_fits simAll_nil0)) fun l H r H' h => by
  unfold A_points_Bank_Write at h; split at h
  · rw [e_points_Bank_Write]; exact h
  · exact (fail_ne h).elim

/-! ### (*capstan/points.Bank).Outputs -/
def points_Bank_Outputs_k0 (vs_3 : List V) : M Out :=
  bnd (lift (bin .add (at_ vs_3 4) (Value.int .i64 1))) fun x19 =>
  ret (.nxt [(at_ vs_3 0), (at_ vs_3 1), (at_ vs_3 2), (at_ vs_3 3), x19])
def points_Bank_Outputs_k1 (vs_2 : List V) : M Out :=
  bnd (
  bnd (
    bnd (lift (iaddrS 1 (at_ vs_2 2) (at_ vs_2 4))) fun x11 =>
    bnd (ld1 x11) fun x12 =>
    bnd (A_points_Bank_value [(at_ vs_2 0), x12]) fun x16 =>
    bnd (bslc 1 1 (rep 1 [Value.int .i64 0]) [(0, 1, x16)]) fun x17 =>
    bnd (appV 1 8 (at_ vs_2 1) x17) fun x18 =>
    ret (.nxt [(at_ vs_2 0), x18, (at_ vs_2 2), (at_ vs_2 3), (at_ vs_2 4)])
    ) fun o => ret (unblk 1 o)
  ) fun o => nx o points_Bank_Outputs_k0
def points_Bank_Outputs_l2 (vs : List V) : M Out :=
  bnd (lift (bin .lss (at_ vs 4) (at_ vs 3))) fun x10 =>
  bnd (
  condM x10 (
    ret (.nxt [(at_ vs 0), (at_ vs 1), (at_ vs 2), (at_ vs 3), (at_ vs 4)])
    ) (
    ret (.brk 0 [(at_ vs 1)])
    )
  ) fun o => nx o points_Bank_Outputs_k1
def points_Bank_Outputs_k3 (vs_4 : List V) : M Out :=
  ret (.ret [(at_ vs_4 0)])
def F_points_Bank_Outputs (x0 : V) : M V :=
  bnd (
    bnd (
      bnd (A_points_Bank_of [x0, (Value.bool true)]) fun x7 =>
      bnd (lift (lenSlc x7)) fun x8 =>
      bnd (
        loopM FUEL points_Bank_Outputs_l2 [x0, (Value.slice none 0 0), x7, x8, (Value.int .i64 0)]
        ) fun o => ret (unblk 0 o)
      ) fun o => nx o points_Bank_Outputs_k3
    ) fun o => finM o fun vs => ret (outV [(at_ vs 0)])
def h_points_Bank_Outputs : Hint := (.seq [] .leaf (.seq [] .leaf (.seq [3] (.seq [] .leaf (.blk (.loop [0, 3, 7, 8, 9] (.seq [] .leaf (.seq [0, 3, 7, 8, 9] (.cond .leaf .leaf) (.seq [0, 3, 7, 8, 9] (.blk (.seq [] .leaf .leaf)) .leaf)))))) (.seq [] .leaf .leaf))))
def A_points_Bank_Outputs (l : List V) : M V := match l with | [x0] => F_points_Bank_Outputs x0 | _ => fail
def s_points_Bank_Outputs : Calls' := ovr [(fid_points_Bank_of, A_points_Bank_of), (fid_points_Bank_value, A_points_Bank_value)] noC
theorem e_points_Bank_Outputs (x0 : V) : funM Try.prog (s_points_Bank_Outputs) fid_points_Bank_Outputs h_points_Bank_Outputs [x0] = F_points_Bank_Outputs x0 := by kernel_rfl
theorem K_points_Bank_Outputs : Known Try.prog fid_points_Bank_Outputs (A_points_Bank_Outputs) := known_of (σ := s_points_Bank_Outputs) (hint := h_points_Bank_Outputs) (by kernel_rfl) (simAll_ovr K_points_Bank_of (simAll_ovr K_points_Bank_value simAll_nil0)) fun l H r H' h => by
  unfold A_points_Bank_Outputs at h; split at h
  · rw [e_points_Bank_Outputs]; exact h
  · exact (fail_ne h).elim

/-! ### capstan/capstanbook.SameNums -/
def book_SameNums_k0 (vs_4 : List V) : M Out :=
  bnd (lift (bin .add (at_ vs_4 2) (Value.int .i64 1))) fun x16 =>
  ret (.nxt [(at_ vs_4 0), (at_ vs_4 1), x16])
def book_SameNums_k1 (vs_3 : List V) : M Out :=
  bnd (
  bnd (
    bnd (lift (iaddrS 1 (at_ vs_3 0) (at_ vs_3 2))) fun x19 =>
    bnd (lift (iaddrS 1 (at_ vs_3 1) (at_ vs_3 2))) fun x23 =>
    bnd (ld1 x19) fun x20 =>
    bnd (ld1 x23) fun x24 =>
    bnd (lift (bin .neq x20 x24)) fun x25 =>
    condM x25 (
      ret (.ret [(Value.bool false)])
      ) (
      ret (.nxt [(at_ vs_3 0), (at_ vs_3 1), (at_ vs_3 2)])
      )
    ) fun o => ret (unblk 1 o)
  ) fun o => nx o book_SameNums_k0
def book_SameNums_l2 (vs_2 : List V) : M Out :=
  bnd (
  bnd (lift (lenSlc (at_ vs_2 0))) fun x13 =>
  bnd (lift (bin .lss (at_ vs_2 2) x13)) fun x14 =>
  condM x14 (
    ret (.nxt [(at_ vs_2 0), (at_ vs_2 1), (at_ vs_2 2)])
    ) (
    ret (.brk 0 [])
    )
  ) fun o => nx o book_SameNums_k1
def book_SameNums_k3 (vs_5 : List V) : M Out :=
  ret (.ret [(Value.bool true)])
def book_SameNums_k4 (vs : List V) : M Out :=
  bnd (
    bnd (
      loopM FUEL book_SameNums_l2 [(at_ vs 0), (at_ vs 1), (Value.int .i64 0)]
      ) fun o => ret (unblk 0 o)
    ) fun o => nx o book_SameNums_k3
def F_book_SameNums (x0 x1 : V) : M V :=
  bnd (
    bnd (
      bnd (lift (lenSlc x0)) fun x7 =>
      bnd (lift (lenSlc x1)) fun x9 =>
      bnd (lift (bin .neq x7 x9)) fun x10 =>
      condM x10 (
        ret (.ret [(Value.bool false)])
        ) (
        ret (.nxt [x0, x1])
        )
      ) fun o => nx o book_SameNums_k4
    ) fun o => finM o fun vs => ret (outV [(at_ vs 0)])
def h_book_SameNums : Hint := (.seq [] .leaf (.seq [0, 1] (.seq [] .leaf (.cond (.seq [] .leaf .leaf) .leaf)) (.seq [] (.seq [] .leaf (.blk (.loop [0, 1, 5] (.seq [0, 1, 5] (.seq [] .leaf (.cond .leaf .leaf)) (.seq [0, 1, 5] (.blk (.seq [] (.reg [0, 1, 2, 4, 5, 6, 3, 7, 8] []) (.cond (.seq [] .leaf .leaf) .leaf))) .leaf))))) (.seq [] .leaf .leaf))))
def A_book_SameNums (l : List V) : M V := match l with | [x0, x1] => F_book_SameNums x0 x1 | _ => fail
theorem e_book_SameNums (x0 x1 : V) : funM Try.prog (ovr [] noC) fid_book_SameNums h_book_SameNums [x0, x1] = F_book_SameNums x0 x1 := by kernel_rfl
theorem K_book_SameNums : Known Try.prog fid_book_SameNums (A_book_SameNums) := known_of (σ := ovr [] noC) (hint := h_book_SameNums) (by kernel_rfl) simAll_nil0 fun l H r H' h => by
  unfold A_book_SameNums at h; split at h
  · rw [e_book_SameNums]; exact h
  · exact (fail_ne h).elim

/-! ### (*capstan/points.Bank).end$1 -/
def points_Bank_end_1_k0 (vs : List V) : M Out :=
  bnd (lift (faddr 0 (at_ vs 1))) fun x23 =>
  bnd (ld1 x23) fun x24 =>
  bnd (ld1 (at_ vs 0)) fun x25 =>
  bnd (lift (bin .eql x24 x25)) fun x26 =>
  ret (.ret [x26])
def F_points_Bank_end_1 (x0 x1 x2 x3 x4 : V) : M V :=
  bnd (
    bnd (boxv x0) fun x5 =>
    bnd (
      bnd (lift (faddr 0 x5)) fun x8 =>
      bnd (ld1 x8) fun x9 =>
      bnd (ld1 x2) fun x10 =>
      bnd (lift (bin .eql x9 x10)) fun x11 =>
      bnd (gd x11 true (ld1 x3)) fun x13 =>
      bnd (lift (pickV x11 x13 (Value.bool false))) fun x14 =>
      condM x14 (
        bnd (lift (faddr 1 x5)) fun x19 =>
        bnd (ld1 x4) fun x15 =>
        bnd (lift (nilck x15)) fun x16 =>
        bnd (lift (faddr 2 x16)) fun x17 =>
        bnd (ld1 x17) fun x18 =>
        bnd (ld1 x19) fun x20 =>
        bnd (lift (iaddrS 1 x18 x20)) fun x22 =>
        bnd (st1 x22 x1) fun _ =>
        ret (.nxt [x2, x5])
        ) (
        ret (.nxt [x2, x5])
        )
      ) fun o => nx o points_Bank_end_1_k0
    ) fun o => finM o fun vs => ret (outV [(at_ vs 0)])
def h_points_Bank_end_1 : Hint := (.seq [] .leaf (.seq [2, 5] (.seq [] .leaf (.cond (.reg [4, 6, 0, 1, 2, 3, 5, 7, 8] []) .leaf)) (.seq [] .leaf .leaf)))
def A_points_Bank_end_1 (l : List V) : M V := match l with | [x0, x1, x2, x3, x4] => F_points_Bank_end_1 x0 x1 x2 x3 x4 | _ => fail
theorem e_points_Bank_end_1 (x0 x1 x2 x3 x4 : V) : funM Try.prog (ovr [] noC) fid_points_Bank_end_1 h_points_Bank_end_1 [x0, x1, x2, x3, x4] = F_points_Bank_end_1 x0 x1 x2 x3 x4 := by kernel_rfl
theorem K_points_Bank_end_1 : Known Try.prog fid_points_Bank_end_1 (A_points_Bank_end_1) := known_of (σ := ovr [] noC) (hint := h_points_Bank_end_1) (by kernel_rfl) simAll_nil0 fun l H r H' h => by
  unfold A_points_Bank_end_1 at h; split at h
  · rw [e_points_Bank_end_1]; exact h
  · exact (fail_ne h).elim

/-! ### (*capstan/points.Bank).end -/
def points_Bank_end_k0 (G_maps_DeleteFunc_map_points_pair_int64_points_pair_int64 : List V → M V) (vs : List V) : M Out :=
  bnd (ld1 (at_ vs 0)) fun x10 =>
  bnd (lift (nilck x10)) fun x11 =>
  bnd (lift (faddr 4 x11)) fun x12 =>
  bnd (ld1 x12) fun x13 =>
  bnd (lift (some (Value.func (.func fid_points_Bank_end_1) #[] #[(at_ vs 1), (at_ vs 2), (at_ vs 0)]))) fun x14 =>
  bnd (G_maps_DeleteFunc_map_points_pair_int64_points_pair_int64 [x13, x14]) fun x15 =>
  ret (.ret [(Value.int .i64 0)])
def F_points_Bank_end (G_maps_DeleteFunc_map_points_pair_int64_points_pair_int64 : List V → M V) (x0 x1 x2 : V) : M V :=
  bnd (
    bnd (boxv x0) fun x3 =>
    bnd (boxv x1) fun x4 =>
    bnd (boxv x2) fun x5 =>
    bnd (
      bnd (ld1 x4) fun x7 =>
      bnd (A_points_there [x7]) fun x8 =>
      bnd (lift (un .not x8)) fun x9 =>
      condM x9 (
        ret (.ret [(Value.int .i64 1)])
        ) (
        ret (.nxt [x3, x4, x5])
        )
      ) fun o => nx o (points_Bank_end_k0 G_maps_DeleteFunc_map_points_pair_int64_points_pair_int64)
    ) fun o => finM o fun vs => ret (outV [(at_ vs 0)])
def h_points_Bank_end : Hint := (.seq [] .leaf (.seq [3, 4, 5] (.seq [] .leaf (.cond (.seq [] .leaf .leaf) .leaf)) (.seq [] .leaf (.seq [] .leaf .leaf))))
def A_points_Bank_end (G_maps_DeleteFunc_map_points_pair_int64_points_pair_int64 : List V → M V) (l : List V) : M V := match l with | [x0, x1, x2] => F_points_Bank_end G_maps_DeleteFunc_map_points_pair_int64_points_pair_int64 x0 x1 x2 | _ => fail
theorem e_points_Bank_end (G_maps_DeleteFunc_map_points_pair_int64_points_pair_int64 : List V → M V) (x0 x1 x2 : V) : funM Try.prog (ovr [(fid_points_there, A_points_there), (fid_maps_DeleteFunc_map_points_pair_int64_points_pair_int64, G_maps_DeleteFunc_map_points_pair_int64_points_pair_int64)] noC) fid_points_Bank_end h_points_Bank_end [x0, x1, x2] = F_points_Bank_end G_maps_DeleteFunc_map_points_pair_int64_points_pair_int64 x0 x1 x2 := by kernel_rfl
theorem K_points_Bank_end {G_maps_DeleteFunc_map_points_pair_int64_points_pair_int64 : List V → M V} (k_maps_DeleteFunc_map_points_pair_int64_points_pair_int64 : Known Try.prog fid_maps_DeleteFunc_map_points_pair_int64_points_pair_int64 G_maps_DeleteFunc_map_points_pair_int64_points_pair_int64) : Known Try.prog fid_points_Bank_end (A_points_Bank_end G_maps_DeleteFunc_map_points_pair_int64_points_pair_int64) := known_of (σ := ovr [(fid_points_there, A_points_there), (fid_maps_DeleteFunc_map_points_pair_int64_points_pair_int64, G_maps_DeleteFunc_map_points_pair_int64_points_pair_int64)] noC) (hint := h_points_Bank_end) (by kernel_rfl) (simAll_ovr K_points_there (simAll_ovr k_maps_DeleteFunc_map_points_pair_int64_points_pair_int64 simAll_nil0)) fun l H r H' h => by
  unfold A_points_Bank_end at h; split at h
  · rw [e_points_Bank_end]; exact h
  · exact (fail_ne h).elim

/-! ### (*capstan/points.Bank).Commit -/
def F_points_Bank_Commit (G_maps_DeleteFunc_map_points_pair_int64_points_pair_int64 : List V → M V) (x0 x1 : V) : M V :=
  bnd (
    bnd ((A_points_Bank_end G_maps_DeleteFunc_map_points_pair_int64_points_pair_int64) [x0, x1, (Value.bool true)]) fun x7 =>
    ret (.ret [x7])
    ) fun o => finM o fun vs => ret (outV [(at_ vs 0)])
def h_points_Bank_Commit : Hint := (.seq [] .leaf (.seq [] .leaf .leaf))
def A_points_Bank_Commit (G_maps_DeleteFunc_map_points_pair_int64_points_pair_int64 : List V → M V) (l : List V) : M V := match l with | [x0, x1] => F_points_Bank_Commit G_maps_DeleteFunc_map_points_pair_int64_points_pair_int64 x0 x1 | _ => fail
theorem e_points_Bank_Commit (G_maps_DeleteFunc_map_points_pair_int64_points_pair_int64 : List V → M V) (x0 x1 : V) : funM Try.prog (ovr [(fid_points_Bank_end, A_points_Bank_end G_maps_DeleteFunc_map_points_pair_int64_points_pair_int64)] noC) fid_points_Bank_Commit h_points_Bank_Commit [x0, x1] = F_points_Bank_Commit G_maps_DeleteFunc_map_points_pair_int64_points_pair_int64 x0 x1 := by kernel_rfl
theorem K_points_Bank_Commit {G_maps_DeleteFunc_map_points_pair_int64_points_pair_int64 : List V → M V} (k_maps_DeleteFunc_map_points_pair_int64_points_pair_int64 : Known Try.prog fid_maps_DeleteFunc_map_points_pair_int64_points_pair_int64 G_maps_DeleteFunc_map_points_pair_int64_points_pair_int64) : Known Try.prog fid_points_Bank_Commit (A_points_Bank_Commit G_maps_DeleteFunc_map_points_pair_int64_points_pair_int64) := known_of (σ := ovr [(fid_points_Bank_end, A_points_Bank_end G_maps_DeleteFunc_map_points_pair_int64_points_pair_int64)] noC) (hint := h_points_Bank_Commit) (by kernel_rfl) (simAll_ovr (K_points_Bank_end k_maps_DeleteFunc_map_points_pair_int64_points_pair_int64) simAll_nil0) fun l H r H' h => by
  unfold A_points_Bank_Commit at h; split at h
  · rw [e_points_Bank_Commit]; exact h
  · exact (fail_ne h).elim

/-! ### capstan/capstanlaw19.works -/
def law19_works_k0 (G_maps_DeleteFunc_map_points_pair_int64_points_pair_int64 : List V → M V) (vs_2 : List V) : M Out :=
  bnd (A_points_Bank_Outputs [(at_ vs_2 0)]) fun x55 =>
  bnd (bslc 1 1 (rep 1 [Value.int .i64 0]) [(0, 1, (Value.int .i64 1))]) fun x56 =>
  bnd (A_book_SameNums [x55, x56]) fun x57 =>
  bnd (gd x57 true (lift (some (at_ vs_2 0)))) fun x59 =>
  bnd (gd x57 true (A_points_Bank_Write [x59, (Value.int .i64 1), (Value.int .i64 1), (Value.int .i64 0)])) fun x60 =>
  bnd (gd x57 true (lift (bin .eql x60 (Value.int .i64 190)))) fun x61 =>
  bnd (lift (pickV x57 x61 (Value.bool false))) fun x62 =>
  ret (.ret [x62])
def law19_works_k1 (G_maps_DeleteFunc_map_points_pair_int64_points_pair_int64 : List V → M V) (vs : List V) : M Out :=
  bnd (A_points_Bank_Read [(at_ vs 0), (Value.int .i64 0), (Value.int .i64 0)]) fun x28 =>
  bnd (lift (ext 0 x28)) fun x29 =>
  bnd (lift (ext 1 x28)) fun x30 =>
  bnd (
    bnd (lift (bin .neq x29 (Value.int .i64 5))) fun x32 =>
    bnd (gd x32 false (lift (some x30))) fun x34 =>
    bnd (gd x32 false (lift (bin .neq x34 (Value.int .i64 0)))) fun x35 =>
    bnd (lift (pickV x32 (Value.bool true) x35)) fun x36 =>
    bnd (gd x36 false (lift (some (at_ vs 0)))) fun x38 =>
    bnd (gd x36 false (A_points_Bank_Write [x38, (Value.int .i64 0), (Value.int .i64 1), (Value.int .i64 1)])) fun x39 =>
    bnd (gd x36 false (lift (bin .neq x39 (Value.int .i64 0)))) fun x40 =>
    bnd (lift (pickV x36 (Value.bool true) x40)) fun x41 =>
    bnd (gd x41 false (lift (some (at_ vs 0)))) fun x43 =>
    bnd (gd x41 false (A_points_Bank_Outputs [x43])) fun x44 =>
    bnd (gd x41 false (bslc 1 1 (rep 1 [Value.int .i64 0]) [(0, 1, (Value.int .i64 0))])) fun x45 =>
    bnd (gd x41 false (A_book_SameNums [x44, x45])) fun x46 =>
    bnd (gd x41 false (lift (un .not x46))) fun x47 =>
    bnd (lift (pickV x41 (Value.bool true) x47)) fun x48 =>
    bnd (gd x48 false (lift (some (at_ vs 0)))) fun x50 =>
    bnd (gd x48 false ((A_points_Bank_Commit G_maps_DeleteFunc_map_points_pair_int64_points_pair_int64) [x50, (Value.int .i64 0)])) fun x51 =>
    bnd (gd x48 false (lift (bin .neq x51 (Value.int .i64 0)))) fun x52 =>
    bnd (lift (pickV x48 (Value.bool true) x52)) fun x53 =>
    condM x53 (
      ret (.ret [(Value.bool false)])
      ) (
      ret (.nxt [(at_ vs 0)])
      )
    ) fun o => nx o (law19_works_k0 G_maps_DeleteFunc_map_points_pair_int64_points_pair_int64)
def F_law19_works (G_maps_DeleteFunc_map_points_pair_int64_points_pair_int64 : List V → M V) : M V :=
  bnd (
    bnd (lift (build [Value.int .i64 0, Value.bool false] [(0, 1, (Value.int .i64 2))])) fun x5 =>
    bnd (lift (build [Value.int .i64 0, Value.bool false] [(0, 1, (Value.int .i64 1)), (1, 1, (Value.bool true))])) fun x6 =>
    bnd (bslc 2 2 (rep 2 [Value.int .i64 0, Value.bool false]) [(0, 2, x5), (2, 2, x6)]) fun x7 =>
    bnd (lift (build [Value.int .i64 0, Value.int .i64 0, Value.bool false] [(1, 1, (Value.int .i64 0))])) fun x8 =>
    bnd (lift (build [Value.int .i64 0, Value.int .i64 0, Value.bool false] [(1, 1, (Value.int .i64 1)), (2, 1, (Value.bool true))])) fun x9 =>
    bnd (bslc 3 2 (rep 2 [Value.int .i64 0, Value.int .i64 0, Value.bool false]) [(0, 3, x8), (3, 3, x9)]) fun x10 =>
    bnd (A_points_New [x7, x10]) fun x11 =>
    bnd (lift (ext 0 x11)) fun x12 =>
    bnd (lift (ext 1 x11)) fun x13 =>
    bnd (
      bnd (lift (notIf false (isNil .p x12))) fun x15 =>
      bnd (gd x15 false (lift (some x13))) fun x17 =>
      bnd (gd x15 false (lift (bin .neq x17 (Value.int .i64 0)))) fun x18 =>
      bnd (lift (pickV x15 (Value.bool true) x18)) fun x19 =>
      bnd (gd x19 false (lift (some x12))) fun x21 =>
      bnd (gd x19 false (bslc 1 1 (rep 1 [Value.int .i64 0]) [(0, 1, (Value.int .i64 5))])) fun x22 =>
      bnd (gd x19 false (A_points_Bank_Latch [x21, x22])) fun x23 =>
      bnd (gd x19 false (lift (bin .neq x23 (Value.int .i64 0)))) fun x24 =>
      bnd (lift (pickV x19 (Value.bool true) x24)) fun x25 =>
      condM x25 (
        ret (.ret [(Value.bool false)])
        ) (
        ret (.nxt [x12])
        )
      ) fun o => nx o (law19_works_k1 G_maps_DeleteFunc_map_points_pair_int64_points_pair_int64)
    ) fun o => finM o fun vs => ret (outV [(at_ vs 0)])
def h_law19_works : Hint := (.seq [] .leaf (.seq [] .leaf (.seq [1] (.seq [] .leaf (.cond (.seq [] .leaf .leaf) .leaf)) (.seq [] .leaf (.seq [1] (.seq [] .leaf (.cond (.seq [] .leaf .leaf) .leaf)) (.seq [] .leaf .leaf))))))
def A_law19_works (G_maps_DeleteFunc_map_points_pair_int64_points_pair_int64 : List V → M V) (l : List V) : M V := match l with | [] => F_law19_works G_maps_DeleteFunc_map_points_pair_int64_points_pair_int64  | _ => fail
theorem e_law19_works (G_maps_DeleteFunc_map_points_pair_int64_points_pair_int64 : List V → M V) : funM Try.prog (ovr [(fid_points_New, A_points_New), (fid_points_Bank_Latch, A_points_Bank_Latch), (fid_points_Bank_Read, A_points_Bank_Read), (fid_points_Bank_Write, A_points_Bank_Write), (fid_points_Bank_Outputs, A_points_Bank_Outputs), (fid_book_SameNums, A_book_SameNums), (fid_points_Bank_Commit, A_points_Bank_Commit G_maps_DeleteFunc_map_points_pair_int64_points_pair_int64)] noC) fid_law19_works h_law19_works [] = F_law19_works G_maps_DeleteFunc_map_points_pair_int64_points_pair_int64  := by kernel_rfl
theorem K_law19_works {G_maps_DeleteFunc_map_points_pair_int64_points_pair_int64 : List V → M V} (k_maps_DeleteFunc_map_points_pair_int64_points_pair_int64 : Known Try.prog fid_maps_DeleteFunc_map_points_pair_int64_points_pair_int64 G_maps_DeleteFunc_map_points_pair_int64_points_pair_int64) : Known Try.prog fid_law19_works (A_law19_works G_maps_DeleteFunc_map_points_pair_int64_points_pair_int64) := known_of (σ := ovr [(fid_points_New, A_points_New), (fid_points_Bank_Latch, A_points_Bank_Latch), (fid_points_Bank_Read, A_points_Bank_Read), (fid_points_Bank_Write, A_points_Bank_Write), (fid_points_Bank_Outputs, A_points_Bank_Outputs), (fid_book_SameNums, A_book_SameNums), (fid_points_Bank_Commit, A_points_Bank_Commit G_maps_DeleteFunc_map_points_pair_int64_points_pair_int64)] noC) (hint := h_law19_works) (by kernel_rfl) (simAll_ovr K_points_New (simAll_ovr K_points_Bank_Latch (simAll_ovr K_points_Bank_Read (simAll_ovr K_points_Bank_Write (simAll_ovr K_points_Bank_Outputs (simAll_ovr K_book_SameNums (simAll_ovr (K_points_Bank_Commit k_maps_DeleteFunc_map_points_pair_int64_points_pair_int64) simAll_nil0))))))) fun l H r H' h => by
  unfold A_law19_works at h; split at h
  · rw [e_law19_works]; exact h
  · exact (fail_ne h).elim

/-! ### (*capstan/points.Bank).Force -/
def points_Bank_Force_k0 (vs : List V) : M Out :=
  bnd (lift (nilck (at_ vs 0))) fun x13 =>
  bnd (lift (faddr 3 x13)) fun x14 =>
  bnd (ld1 x14) fun x15 =>
  bnd (mapSet (.one .i) x15 (at_ vs 1) (at_ vs 2)) fun _ =>
  ret (.ret [(Value.int .i64 0)])
def F_points_Bank_Force (x0 x1 x2 : V) : M V :=
  bnd (
    bnd (
      bnd (A_points_Bank_fits [x0, x1, x2]) fun x10 =>
      bnd (lift (un .not x10)) fun x11 =>
      condM x11 (
        ret (.ret [(Value.int .i64 1)])
        ) (
        ret (.nxt [x0, x1, x2])
        )
      ) fun o => nx o points_Bank_Force_k0
    ) fun o => finM o fun vs => ret (outV [(at_ vs 0)])
def h_points_Bank_Force : Hint := (.seq [] .leaf (.seq [0, 1, 2] (.seq [] .leaf (.cond (.seq [] .leaf .leaf) .leaf)) (.seq [] .leaf (.seq [] .leaf .leaf))))
def A_points_Bank_Force (l : List V) : M V := match l with | [x0, x1, x2] => F_points_Bank_Force x0 x1 x2 | _ => fail
def s_points_Bank_Force : Calls' := ovr [(fid_points_Bank_fits, A_points_Bank_fits)] noC
theorem e_points_Bank_Force (x0 x1 x2 : V) : funM Try.prog (s_points_Bank_Force) fid_points_Bank_Force h_points_Bank_Force [x0, x1, x2] = F_points_Bank_Force x0 x1 x2 := by kernel_rfl
theorem K_points_Bank_Force : Known Try.prog fid_points_Bank_Force (A_points_Bank_Force) := known_of (σ := s_points_Bank_Force) (hint := h_points_Bank_Force) (by kernel_rfl) (simAll_ovr K_points_Bank_fits simAll_nil0) fun l H r H' h => by
  unfold A_points_Bank_Force at h; split at h
  · rw [e_points_Bank_Force]; exact h
  · exact (fail_ne h).elim

/-! ### capstan/capstanlaw19.among -/
def F_law19_among (x0 x1 : V) : M V :=
  bnd (
    bnd (lift (bin .rem x0 x1)) fun x7 =>
    bnd (lift (bin .add x7 x1)) fun x9 =>
    bnd (lift (bin .rem x9 x1)) fun x11 =>
    ret (.ret [x11])
    ) fun o => finM o fun vs => ret (outV [(at_ vs 0)])
def h_law19_among : Hint := (.seq [] .leaf (.seq [] .leaf .leaf))
def A_law19_among (l : List V) : M V := match l with | [x0, x1] => F_law19_among x0 x1 | _ => fail
theorem e_law19_among (x0 x1 : V) : funM Try.prog (ovr [] noC) fid_law19_among h_law19_among [x0, x1] = F_law19_among x0 x1 := by kernel_rfl
theorem K_law19_among : Known Try.prog fid_law19_among (A_law19_among) := known_of (σ := ovr [] noC) (hint := h_law19_among) (by kernel_rfl) simAll_nil0 fun l H r H' h => by
  unfold A_law19_among at h; split at h
  · rw [e_law19_among]; exact h
  · exact (fail_ne h).elim

/-! ### (*capstan/points.Bank).Drop -/
def F_points_Bank_Drop (G_maps_DeleteFunc_map_points_pair_int64_points_pair_int64 : List V → M V) (x0 x1 : V) : M V :=
  bnd (
    bnd ((A_points_Bank_end G_maps_DeleteFunc_map_points_pair_int64_points_pair_int64) [x0, x1, (Value.bool false)]) fun x7 =>
    ret (.ret [x7])
    ) fun o => finM o fun vs => ret (outV [(at_ vs 0)])
def h_points_Bank_Drop : Hint := (.seq [] .leaf (.seq [] .leaf .leaf))
def A_points_Bank_Drop (G_maps_DeleteFunc_map_points_pair_int64_points_pair_int64 : List V → M V) (l : List V) : M V := match l with | [x0, x1] => F_points_Bank_Drop G_maps_DeleteFunc_map_points_pair_int64_points_pair_int64 x0 x1 | _ => fail
theorem e_points_Bank_Drop (G_maps_DeleteFunc_map_points_pair_int64_points_pair_int64 : List V → M V) (x0 x1 : V) : funM Try.prog (ovr [(fid_points_Bank_end, A_points_Bank_end G_maps_DeleteFunc_map_points_pair_int64_points_pair_int64)] noC) fid_points_Bank_Drop h_points_Bank_Drop [x0, x1] = F_points_Bank_Drop G_maps_DeleteFunc_map_points_pair_int64_points_pair_int64 x0 x1 := by kernel_rfl
theorem K_points_Bank_Drop {G_maps_DeleteFunc_map_points_pair_int64_points_pair_int64 : List V → M V} (k_maps_DeleteFunc_map_points_pair_int64_points_pair_int64 : Known Try.prog fid_maps_DeleteFunc_map_points_pair_int64_points_pair_int64 G_maps_DeleteFunc_map_points_pair_int64_points_pair_int64) : Known Try.prog fid_points_Bank_Drop (A_points_Bank_Drop G_maps_DeleteFunc_map_points_pair_int64_points_pair_int64) := known_of (σ := ovr [(fid_points_Bank_end, A_points_Bank_end G_maps_DeleteFunc_map_points_pair_int64_points_pair_int64)] noC) (hint := h_points_Bank_Drop) (by kernel_rfl) (simAll_ovr (K_points_Bank_end k_maps_DeleteFunc_map_points_pair_int64_points_pair_int64) simAll_nil0) fun l H r H' h => by
  unfold A_points_Bank_Drop at h; split at h
  · rw [e_points_Bank_Drop]; exact h
  · exact (fail_ne h).elim

/-! ### (*capstan/points.Bank).Free -/
def points_Bank_Free_k0 (vs : List V) : M Out :=
  bnd (lift (nilck (at_ vs 0))) fun x17 =>
  bnd (lift (faddr 3 x17)) fun x18 =>
  bnd (ld1 x18) fun x19 =>
  bnd (mapDel (.one .i) x19 (at_ vs 1)) fun _ =>
  ret (.ret [(Value.int .i64 0)])
def F_points_Bank_Free (x0 x1 : V) : M V :=
  bnd (
    bnd (
      bnd (lift (bin .lss x1 (Value.int .i64 0))) fun x6 =>
      bnd (gd x6 false (lift (some x1))) fun x8 =>
      bnd (gd x6 false (lift (some x0))) fun x9 =>
      bnd (gd x6 false (lift (nilck x9))) fun x10 =>
      bnd (gd x6 false (lift (faddr 0 x10))) fun x11 =>
      bnd (gd x6 false (ld1 x11)) fun x12 =>
      bnd (gd x6 false (lift (lenSlc x12))) fun x13 =>
      bnd (gd x6 false (lift (bin .geq x8 x13))) fun x14 =>
      bnd (lift (pickV x6 (Value.bool true) x14)) fun x15 =>
      condM x15 (
        ret (.ret [(Value.int .i64 1)])
        ) (
        ret (.nxt [x0, x1])
        )
      ) fun o => nx o points_Bank_Free_k0
    ) fun o => finM o fun vs => ret (outV [(at_ vs 0)])
def h_points_Bank_Free : Hint := (.seq [] .leaf (.seq [0, 1] (.seq [] .leaf (.cond (.seq [] .leaf .leaf) .leaf)) (.seq [] .leaf (.seq [] .leaf .leaf))))
def A_points_Bank_Free (l : List V) : M V := match l with | [x0, x1] => F_points_Bank_Free x0 x1 | _ => fail
theorem e_points_Bank_Free (x0 x1 : V) : funM Try.prog (ovr [] noC) fid_points_Bank_Free h_points_Bank_Free [x0, x1] = F_points_Bank_Free x0 x1 := by kernel_rfl
theorem K_points_Bank_Free : Known Try.prog fid_points_Bank_Free (A_points_Bank_Free) := known_of (σ := ovr [] noC) (hint := h_points_Bank_Free) (by kernel_rfl) simAll_nil0 fun l H r H' h => by
  unfold A_points_Bank_Free at h; split at h
  · rw [e_points_Bank_Free]; exact h
  · exact (fail_ne h).elim

/-! ### capstan/capstanlaw19.do -/
def law19_do_k0 (G_maps_DeleteFunc_map_points_pair_int64_points_pair_int64 : List V → M V) (vs : List V) : M Out :=
  bnd (lift (faddr 2 (at_ vs 1))) fun x56 =>
  bnd (ld1 x56) fun x57 =>
  bnd (A_points_Bank_Free [(at_ vs 0), x57]) fun x58 =>
  ret (.ret [(Value.int .i64 0), x58])
def F_law19_do (G_maps_DeleteFunc_map_points_pair_int64_points_pair_int64 : List V → M V) (x0 x1 : V) : M V :=
  bnd (
    bnd (boxv x1) fun x3 =>
    bnd (
      bnd (lift (faddr 0 x3)) fun x6 =>
      bnd (ld1 x6) fun x7 =>
      bnd (A_law19_among [x7, (Value.int .i64 7)]) fun x8 =>
      bnd (
        bnd (lift (bin .eql x8 (Value.int .i64 0))) fun x10 =>
        condM x10 (
          bnd (lift (faddr 4 x3)) fun x12 =>
          bnd (ld1 x12) fun x13 =>
          bnd (A_points_Bank_Latch [x0, x13]) fun x14 =>
          ret (.ret [(Value.int .i64 0), x14])
          ) (
          bnd (lift (bin .eql x8 (Value.int .i64 1))) fun x16 =>
          condM x16 (
            bnd (lift (faddr 1 x3)) fun x18 =>
            bnd (ld1 x18) fun x19 =>
            bnd (lift (faddr 2 x3)) fun x20 =>
            bnd (ld1 x20) fun x21 =>
            bnd (A_points_Bank_Read [x0, x19, x21]) fun x22 =>
            bnd (lift (ext 0 x22)) fun x23 =>
            bnd (lift (ext 1 x22)) fun x24 =>
            ret (.ret [x23, x24])
            ) (
            bnd (lift (bin .eql x8 (Value.int .i64 2))) fun x26 =>
            condM x26 (
              bnd (lift (faddr 1 x3)) fun x28 =>
              bnd (ld1 x28) fun x29 =>
              bnd (lift (faddr 2 x3)) fun x30 =>
              bnd (ld1 x30) fun x31 =>
              bnd (lift (faddr 3 x3)) fun x32 =>
              bnd (ld1 x32) fun x33 =>
              bnd (A_points_Bank_Write [x0, x29, x31, x33]) fun x34 =>
              ret (.ret [(Value.int .i64 0), x34])
              ) (
              bnd (lift (bin .eql x8 (Value.int .i64 3))) fun x36 =>
              condM x36 (
                bnd (lift (faddr 1 x3)) fun x38 =>
                bnd (ld1 x38) fun x39 =>
                bnd ((A_points_Bank_Commit G_maps_DeleteFunc_map_points_pair_int64_points_pair_int64) [x0, x39]) fun x40 =>
                ret (.ret [(Value.int .i64 0), x40])
                ) (
                bnd (lift (bin .eql x8 (Value.int .i64 4))) fun x42 =>
                condM x42 (
                  bnd (lift (faddr 1 x3)) fun x44 =>
                  bnd (ld1 x44) fun x45 =>
                  bnd ((A_points_Bank_Drop G_maps_DeleteFunc_map_points_pair_int64_points_pair_int64) [x0, x45]) fun x46 =>
                  ret (.ret [(Value.int .i64 0), x46])
                  ) (
                  bnd (lift (bin .eql x8 (Value.int .i64 5))) fun x48 =>
                  condM x48 (
                    bnd (lift (faddr 2 x3)) fun x50 =>
                    bnd (ld1 x50) fun x51 =>
                    bnd (lift (faddr 3 x3)) fun x52 =>
                    bnd (ld1 x52) fun x53 =>
                    bnd (A_points_Bank_Force [x0, x51, x53]) fun x54 =>
                    ret (.ret [(Value.int .i64 0), x54])
                    ) (
                    ret (.nxt [x0, x3])
                    )
                  )
                )
              )
            )
          )
        ) fun o => ret (unblk 0 o)
      ) fun o => nx o (law19_do_k0 G_maps_DeleteFunc_map_points_pair_int64_points_pair_int64)
    ) fun o => finM o fun vs => ret (outV [(at_ vs 0), (at_ vs 1)])
def h_law19_do : Hint := (.seq [] .leaf (.seq [0, 3] (.seq [] .leaf (.blk (.seq [] .leaf (.cond (.seq [] .leaf .leaf) (.seq [] .leaf (.cond (.seq [] .leaf .leaf) (.seq [] .leaf (.cond (.seq [] .leaf .leaf) (.seq [] .leaf (.cond (.seq [] .leaf .leaf) (.seq [] .leaf (.cond (.seq [] .leaf .leaf) (.seq [] .leaf (.cond (.seq [] .leaf .leaf) .leaf)))))))))))))) (.seq [] .leaf .leaf)))
def A_law19_do (G_maps_DeleteFunc_map_points_pair_int64_points_pair_int64 : List V → M V) (l : List V) : M V := match l with | [x0, x1] => F_law19_do G_maps_DeleteFunc_map_points_pair_int64_points_pair_int64 x0 x1 | _ => fail
theorem e_law19_do (G_maps_DeleteFunc_map_points_pair_int64_points_pair_int64 : List V → M V) (x0 x1 : V) : funM Try.prog (ovr [(fid_law19_among, A_law19_among), (fid_points_Bank_Latch, A_points_Bank_Latch), (fid_points_Bank_Read, A_points_Bank_Read), (fid_points_Bank_Write, A_points_Bank_Write), (fid_points_Bank_Commit, A_points_Bank_Commit G_maps_DeleteFunc_map_points_pair_int64_points_pair_int64), (fid_points_Bank_Drop, A_points_Bank_Drop G_maps_DeleteFunc_map_points_pair_int64_points_pair_int64), (fid_points_Bank_Force, A_points_Bank_Force), (fid_points_Bank_Free, A_points_Bank_Free)] noC) fid_law19_do h_law19_do [x0, x1] = F_law19_do G_maps_DeleteFunc_map_points_pair_int64_points_pair_int64 x0 x1 := by kernel_rfl
theorem K_law19_do {G_maps_DeleteFunc_map_points_pair_int64_points_pair_int64 : List V → M V} (k_maps_DeleteFunc_map_points_pair_int64_points_pair_int64 : Known Try.prog fid_maps_DeleteFunc_map_points_pair_int64_points_pair_int64 G_maps_DeleteFunc_map_points_pair_int64_points_pair_int64) : Known Try.prog fid_law19_do (A_law19_do G_maps_DeleteFunc_map_points_pair_int64_points_pair_int64) := known_of (σ := ovr [(fid_law19_among, A_law19_among), (fid_points_Bank_Latch, A_points_Bank_Latch), (fid_points_Bank_Read, A_points_Bank_Read), (fid_points_Bank_Write, A_points_Bank_Write), (fid_points_Bank_Commit, A_points_Bank_Commit G_maps_DeleteFunc_map_points_pair_int64_points_pair_int64), (fid_points_Bank_Drop, A_points_Bank_Drop G_maps_DeleteFunc_map_points_pair_int64_points_pair_int64), (fid_points_Bank_Force, A_points_Bank_Force), (fid_points_Bank_Free, A_points_Bank_Free)] noC) (hint := h_law19_do) (by kernel_rfl) (simAll_ovr K_law19_among (simAll_ovr K_points_Bank_Latch (simAll_ovr K_points_Bank_Read (simAll_ovr K_points_Bank_Write (simAll_ovr (K_points_Bank_Commit k_maps_DeleteFunc_map_points_pair_int64_points_pair_int64) (simAll_ovr (K_points_Bank_Drop k_maps_DeleteFunc_map_points_pair_int64_points_pair_int64) (simAll_ovr K_points_Bank_Force (simAll_ovr K_points_Bank_Free simAll_nil0)))))))) fun l H r H' h => by
  unfold A_law19_do at h; split at h
  · rw [e_law19_do]; exact h
  · exact (fail_ne h).elim

/-! ### capstan/capstanlaw19.PointsForce -/
def law19_PointsForce_k0 (G_maps_DeleteFunc_map_points_pair_int64_points_pair_int64 : List V → M V) (G_points_Bank_Forced : List V → M V) (vs_8 : List V) : M Out :=
    bnd (lift (iaddrS 5 (at_ vs_8 0) (at_ vs_8 6))) fun x143 =>
    bnd (lift (faddr 0 x143)) fun x144 =>
    bnd (ld1 x144) fun x145 =>
    bnd (A_law19_among [x145, (Value.int .i64 7)]) fun x146 =>
    bnd (lift (bin .eql x146 (Value.int .i64 1))) fun x147 =>
    bnd (gd x147 true (lift (some (at_ vs_8 0)))) fun x149 =>
    bnd (gd x147 true (lift (some (at_ vs_8 6)))) fun x150 =>
    bnd (gd x147 true (lift (iaddrS 5 x149 x150))) fun x151 =>
    bnd (gd x147 true (lift (faddr 2 x151))) fun x152 =>
    bnd (gd x147 true (ld1 x152)) fun x153 =>
    bnd (gd x147 true (lift (some (at_ vs_8 4)))) fun x154 =>
    bnd (gd x147 true (lift (bin .eql x153 x154))) fun x155 =>
    bnd (lift (pickV x147 x155 (Value.bool false))) fun x156 =>
    bnd (gd x156 true (lift (some (at_ vs_8 8)))) fun x158 =>
    bnd (gd x156 true (lift (bin .eql x158 (Value.int .i64 0)))) fun x159 =>
    bnd (lift (pickV x156 x159 (Value.bool false))) fun x160 =>
    bnd (gd x160 true (lift (some (at_ vs_8 7)))) fun x162 =>
    bnd (gd x160 true (lift (some (at_ vs_8 5)))) fun x163 =>
    bnd (gd x160 true (lift (bin .neq x162 x163))) fun x164 =>
    bnd (lift (pickV x160 x164 (Value.bool false))) fun x165 =>
    condM x165 (
      ret (.ret [(Value.bool false)])
      ) (
      ret (.nxt [(at_ vs_8 0), (at_ vs_8 1), (at_ vs_8 2), (at_ vs_8 3), (at_ vs_8 4), (at_ vs_8 5), (at_ vs_8 6)])
      )
def law19_PointsForce_k1 (G_maps_DeleteFunc_map_points_pair_int64_points_pair_int64 : List V → M V) (G_points_Bank_Forced : List V → M V) (vs_7 : List V) : M Out :=
    bnd (lift (iaddrS 5 (at_ vs_7 0) (at_ vs_7 6))) fun x110 =>
    bnd (ldn 5 x110) fun x111 =>
    bnd ((A_law19_do G_maps_DeleteFunc_map_points_pair_int64_points_pair_int64) [(at_ vs_7 2), x111]) fun x112 =>
    bnd (lift (ext 0 x112)) fun x113 =>
    bnd (lift (ext 1 x112)) fun x114 =>
    bnd (lift (iaddrS 5 (at_ vs_7 0) (at_ vs_7 6))) fun x119 =>
    bnd (ldn 5 x119) fun x120 =>
    bnd ((A_law19_do G_maps_DeleteFunc_map_points_pair_int64_points_pair_int64) [(at_ vs_7 3), x120]) fun x121 =>
    bnd (lift (ext 0 x121)) fun x122 =>
    bnd (lift (ext 1 x121)) fun x123 =>
    bnd (
      bnd (lift (bin .neq x114 x123)) fun x126 =>
      bnd (gd x126 false (lift (some (at_ vs_7 0)))) fun x128 =>
      bnd (gd x126 false (lift (some (at_ vs_7 6)))) fun x129 =>
      bnd (gd x126 false (lift (iaddrS 5 x128 x129))) fun x130 =>
      bnd (gd x126 false (lift (faddr 2 x130))) fun x131 =>
      bnd (gd x126 false (ld1 x131)) fun x132 =>
      bnd (gd x126 false (lift (some (at_ vs_7 4)))) fun x133 =>
      bnd (gd x126 false (lift (bin .neq x132 x133))) fun x134 =>
      bnd (gd x126 false (lift (some x134))) fun x135 =>
      bnd (gd x135 true (lift (some x113))) fun x136 =>
      bnd (gd x135 true (lift (some x122))) fun x137 =>
      bnd (gd x135 true (lift (bin .neq x136 x137))) fun x138 =>
      bnd (gd x126 false (lift (pickV x135 x138 (Value.bool false)))) fun x139 =>
      bnd (lift (pickV x126 (Value.bool true) x139)) fun x140 =>
      condM x140 (
        ret (.ret [(Value.bool false)])
        ) (
        ret (.nxt [(at_ vs_7 0), (at_ vs_7 1), (at_ vs_7 2), (at_ vs_7 3), (at_ vs_7 4), (at_ vs_7 5), (at_ vs_7 6), x113, x114])
        )
      ) fun o => nx o (law19_PointsForce_k0 G_maps_DeleteFunc_map_points_pair_int64_points_pair_int64 G_points_Bank_Forced)
def law19_PointsForce_k2 (G_maps_DeleteFunc_map_points_pair_int64_points_pair_int64 : List V → M V) (G_points_Bank_Forced : List V → M V) (vs_9 : List V) : M Out :=
  bnd (lift (bin .add (at_ vs_9 6) (Value.int .i64 1))) fun x97 =>
  ret (.nxt [(at_ vs_9 0), (at_ vs_9 1), (at_ vs_9 2), (at_ vs_9 3), (at_ vs_9 4), (at_ vs_9 5), x97])
def law19_PointsForce_k3 (G_maps_DeleteFunc_map_points_pair_int64_points_pair_int64 : List V → M V) (G_points_Bank_Forced : List V → M V) (vs_6 : List V) : M Out :=
  bnd (
  bnd (
    bnd (
      bnd (lift (iaddrS 5 (at_ vs_6 0) (at_ vs_6 6))) fun x100 =>
      bnd (lift (faddr 0 x100)) fun x101 =>
      bnd (ld1 x101) fun x102 =>
      bnd (A_law19_among [x102, (Value.int .i64 7)]) fun x103 =>
      bnd (lift (bin .gtr x103 (Value.int .i64 4))) fun x105 =>
      condM x105 (
        ret (.brk 1 [(at_ vs_6 0), (at_ vs_6 1), (at_ vs_6 2), (at_ vs_6 3), (at_ vs_6 4), (at_ vs_6 5), (at_ vs_6 6)])
        ) (
        ret (.nxt [(at_ vs_6 0), (at_ vs_6 1), (at_ vs_6 2), (at_ vs_6 3), (at_ vs_6 4), (at_ vs_6 5), (at_ vs_6 6)])
        )
      ) fun o => nx o (law19_PointsForce_k1 G_maps_DeleteFunc_map_points_pair_int64_points_pair_int64 G_points_Bank_Forced)
    ) fun o => ret (unblk 1 o)
  ) fun o => nx o (law19_PointsForce_k2 G_maps_DeleteFunc_map_points_pair_int64_points_pair_int64 G_points_Bank_Forced)
def law19_PointsForce_l4 (G_maps_DeleteFunc_map_points_pair_int64_points_pair_int64 : List V → M V) (G_points_Bank_Forced : List V → M V) (vs_5 : List V) : M Out :=
  bnd (
  bnd (lift (lenSlc (at_ vs_5 0))) fun x90 =>
  bnd (lift (bin .lss (at_ vs_5 6) x90)) fun x91 =>
  bnd (gd x91 true (lift (some (at_ vs_5 6)))) fun x93 =>
  bnd (gd x91 true (lift (bin .lss x93 (Value.int .i64 100)))) fun x94 =>
  bnd (lift (pickV x91 x94 (Value.bool false))) fun x95 =>
  condM x95 (
    ret (.nxt [(at_ vs_5 0), (at_ vs_5 1), (at_ vs_5 2), (at_ vs_5 3), (at_ vs_5 4), (at_ vs_5 5), (at_ vs_5 6)])
    ) (
    ret (.brk 0 [(at_ vs_5 1), (at_ vs_5 2), (at_ vs_5 3), (at_ vs_5 4), (at_ vs_5 5)])
    )
  ) fun o => nx o (law19_PointsForce_k3 G_maps_DeleteFunc_map_points_pair_int64_points_pair_int64 G_points_Bank_Forced)
def law19_PointsForce_k5 (G_maps_DeleteFunc_map_points_pair_int64_points_pair_int64 : List V → M V) (G_points_Bank_Forced : List V → M V) (vs_14 : List V) : M Out :=
    bnd (lift (bin .add (at_ vs_14 4) (Value.int .i64 1))) fun x208 =>
    ret (.nxt [(at_ vs_14 0), (at_ vs_14 1), (at_ vs_14 2), (at_ vs_14 3), x208, (at_ vs_14 5), (at_ vs_14 6), (at_ vs_14 7)])
def law19_PointsForce_k6 (G_maps_DeleteFunc_map_points_pair_int64_points_pair_int64 : List V → M V) (G_points_Bank_Forced : List V → M V) (vs_13 : List V) : M Out :=
    bnd (
      withH fun h0 =>
      bnd (lift (bin .eql (at_ vs_13 5) (at_ vs_13 2))) fun x179 =>
      bnd (gd x179 true (lift (some (at_ vs_13 0)))) fun x181 =>
      bnd (gd x179 true (lift (some (at_ vs_13 4)))) fun x183 =>
      bnd (gd x179 true (lift (some (at_ vs_13 3)))) fun x186 =>
      bndH (gd x179 true (A_points_Bank_Outputs [x181])) fun ha x182 h1 =>
      bnd (gd x179 true (lift (iaddrS 1 x182 x183))) fun x184 =>
      bnd (gd x179 true (ld1 x184)) fun x185 =>
      bnd (gd x179 true (lift (bin .neq x185 x186))) fun x187 =>
      bnd (lift (pickV x179 x187 (Value.bool false))) fun x188 =>
      bnd (gd x188 false (lift (some (at_ vs_13 5)))) fun x190 =>
      bnd (gd x188 false (lift (some (at_ vs_13 2)))) fun x191 =>
      bnd (gd x188 false (lift (bin .neq x190 x191))) fun x192 =>
      bnd (gd x188 false (lift (some x192))) fun x193 =>
      bnd (gd x193 true (lift (some (at_ vs_13 0)))) fun x194 =>
      bnd (gd x193 true (lift (some (at_ vs_13 4)))) fun x196 =>
      bnd (gd x193 true (lift (some (at_ vs_13 1)))) fun x199 =>
      bnd (gd x193 true (lift (some (at_ vs_13 4)))) fun x201 =>
      bndH (gd x193 true (A_points_Bank_Outputs [x194])) fun ha_2 x195 h2 =>
      bnd (gd x193 true (lift (iaddrS 1 x195 x196))) fun x197 =>
      bnd (gd x193 true (ld1 x197)) fun x198 =>
      bndH (gd x193 true (A_points_Bank_Outputs [x199])) fun ha_3 x200 h3 =>
      bnd (gd x193 true (lift (iaddrS 1 x200 x201))) fun x202 =>
      bnd (gd x193 true (ld1 x202)) fun x203 =>
      bnd (gd x193 true (lift (bin .neq x198 x203))) fun x204 =>
      bnd (gd x188 false (lift (pickV x193 x204 (Value.bool false)))) fun x205 =>
      bnd (lift (pickV x188 (Value.bool true) x205)) fun x206 =>
      need (chk (gd x193 true (ld1 x197)) h3 x198) <|
      condM x206 (
        ret (.ret [(Value.bool false)])
        ) (
        ret (.nxt [(at_ vs_13 0), (at_ vs_13 1), (at_ vs_13 2), (at_ vs_13 3), (at_ vs_13 4), (at_ vs_13 6), (at_ vs_13 7), (at_ vs_13 8)])
        )
      ) fun o => nx o (law19_PointsForce_k5 G_maps_DeleteFunc_map_points_pair_int64_points_pair_int64 G_points_Bank_Forced)
def law19_PointsForce_k7 (G_maps_DeleteFunc_map_points_pair_int64_points_pair_int64 : List V → M V) (G_points_Bank_Forced : List V → M V) (vs_15 : List V) : M Out :=
  bnd (lift (bin .add (at_ vs_15 7) (Value.int .i64 1))) fun x209 =>
  ret (.nxt [(at_ vs_15 0), (at_ vs_15 1), (at_ vs_15 2), (at_ vs_15 3), (at_ vs_15 4), (at_ vs_15 5), (at_ vs_15 6), x209])
def law19_PointsForce_k8 (G_maps_DeleteFunc_map_points_pair_int64_points_pair_int64 : List V → M V) (G_points_Bank_Forced : List V → M V) (vs_12 : List V) : M Out :=
  bnd (
  bnd (
    bnd (lift (iaddrS 2 (at_ vs_12 5) (at_ vs_12 7))) fun x172 =>
    bnd (ldn 2 x172) fun x173 =>
    bnd (newc [Value.int .i64 0, Value.bool false]) fun x21 =>
    bnd (stn 2 x21 x173) fun _ =>
    bnd (
      bnd (lift (faddr 1 x21)) fun x174 =>
      bnd (ld1 x174) fun x175 =>
      bnd (lift (un .not x175)) fun x176 =>
      condM x176 (
        ret (.brk 3 [(at_ vs_12 0), (at_ vs_12 1), (at_ vs_12 2), (at_ vs_12 3), (at_ vs_12 4), (at_ vs_12 5), (at_ vs_12 6), (at_ vs_12 7)])
        ) (
        ret (.nxt [(at_ vs_12 0), (at_ vs_12 1), (at_ vs_12 2), (at_ vs_12 3), (at_ vs_12 4), (at_ vs_12 7), (at_ vs_12 5), (at_ vs_12 6), (at_ vs_12 7)])
        )
      ) fun o => nx o (law19_PointsForce_k6 G_maps_DeleteFunc_map_points_pair_int64_points_pair_int64 G_points_Bank_Forced)
    ) fun o => ret (unblk 3 o)
  ) fun o => nx o (law19_PointsForce_k7 G_maps_DeleteFunc_map_points_pair_int64_points_pair_int64 G_points_Bank_Forced)
def law19_PointsForce_l9 (G_maps_DeleteFunc_map_points_pair_int64_points_pair_int64 : List V → M V) (G_points_Bank_Forced : List V → M V) (vs_11 : List V) : M Out :=
  bnd (lift (bin .lss (at_ vs_11 7) (at_ vs_11 6))) fun x170 =>
  bnd (
  condM x170 (
    ret (.nxt [(at_ vs_11 0), (at_ vs_11 1), (at_ vs_11 2), (at_ vs_11 3), (at_ vs_11 4), (at_ vs_11 5), (at_ vs_11 6), (at_ vs_11 7)])
    ) (
    ret (.brk 2 [(at_ vs_11 0), (at_ vs_11 1), (at_ vs_11 2)])
    )
  ) fun o => nx o (law19_PointsForce_k8 G_maps_DeleteFunc_map_points_pair_int64_points_pair_int64 G_points_Bank_Forced)
def law19_PointsForce_k10 (G_maps_DeleteFunc_map_points_pair_int64_points_pair_int64 : List V → M V) (G_points_Bank_Forced : List V → M V) (vs_20 : List V) : M Out :=
  bnd (lift (bin .add (at_ vs_20 4) (Value.int .i64 1))) fun x232 =>
  ret (.nxt [(at_ vs_20 0), (at_ vs_20 1), (at_ vs_20 2), (at_ vs_20 3), x232])
def law19_PointsForce_k11 (G_maps_DeleteFunc_map_points_pair_int64_points_pair_int64 : List V → M V) (G_points_Bank_Forced : List V → M V) (vs_19 : List V) : M Out :=
  bnd (
  bnd (
    bnd (lift (iaddrS 1 (at_ vs_19 1) (at_ vs_19 4))) fun x225 =>
    bnd (lift (iaddrS 1 (at_ vs_19 2) (at_ vs_19 4))) fun x229 =>
    bnd (ld1 x225) fun x226 =>
    bnd (ld1 x229) fun x230 =>
    bnd (lift (bin .neq x226 x230)) fun x231 =>
    condM x231 (
      ret (.ret [(Value.bool false)])
      ) (
      ret (.nxt [(at_ vs_19 0), (at_ vs_19 1), (at_ vs_19 2), (at_ vs_19 3), (at_ vs_19 4)])
      )
    ) fun o => ret (unblk 5 o)
  ) fun o => nx o (law19_PointsForce_k10 G_maps_DeleteFunc_map_points_pair_int64_points_pair_int64 G_points_Bank_Forced)
def law19_PointsForce_l12 (G_maps_DeleteFunc_map_points_pair_int64_points_pair_int64 : List V → M V) (G_points_Bank_Forced : List V → M V) (vs_18 : List V) : M Out :=
  bnd (lift (bin .lss (at_ vs_18 4) (at_ vs_18 3))) fun x221 =>
  bnd (
  condM x221 (
    ret (.nxt [(at_ vs_18 0), (at_ vs_18 1), (at_ vs_18 2), (at_ vs_18 3), (at_ vs_18 4)])
    ) (
    ret (.brk 4 [(at_ vs_18 0), (at_ vs_18 1), (at_ vs_18 2)])
    )
  ) fun o => nx o (law19_PointsForce_k11 G_maps_DeleteFunc_map_points_pair_int64_points_pair_int64 G_points_Bank_Forced)
def law19_PointsForce_k13 (G_maps_DeleteFunc_map_points_pair_int64_points_pair_int64 : List V → M V) (G_points_Bank_Forced : List V → M V) (vs_21 : List V) : M Out :=
  bnd (lift (lenSlc (at_ vs_21 1))) fun x234 =>
  bnd (lift (lenSlc (at_ vs_21 2))) fun x236 =>
  bnd (lift (bin .eql x234 x236)) fun x237 =>
  bnd (gd x237 true (lift (some (at_ vs_21 0)))) fun x239 =>
  bnd (gd x237 true (G_points_Bank_Forced [x239])) fun x240 =>
  bnd (gd x237 true (lift (lenSlc x240))) fun x241 =>
  bnd (gd x237 true (lift (bin .eql x241 (Value.int .i64 0)))) fun x242 =>
  bnd (lift (pickV x237 x242 (Value.bool false))) fun x243 =>
  ret (.ret [x243])
def law19_PointsForce_k14 (G_maps_DeleteFunc_map_points_pair_int64_points_pair_int64 : List V → M V) (G_points_Bank_Forced : List V → M V) (vs_17 : List V) : M Out :=
  bnd (A_points_Bank_Outputs [(at_ vs_17 0)]) fun x215 =>
  bnd (A_points_Bank_Outputs [(at_ vs_17 1)]) fun x217 =>
  bnd (
    bnd (lift (lenSlc x215)) fun x219 =>
    bnd (
      loopM FUEL (law19_PointsForce_l12 G_maps_DeleteFunc_map_points_pair_int64_points_pair_int64 G_points_Bank_Forced) [(at_ vs_17 0), x215, x217, x219, (Value.int .i64 0)]
      ) fun o => ret (unblk 4 o)
    ) fun o => nx o (law19_PointsForce_k13 G_maps_DeleteFunc_map_points_pair_int64_points_pair_int64 G_points_Bank_Forced)
def law19_PointsForce_k15 (G_maps_DeleteFunc_map_points_pair_int64_points_pair_int64 : List V → M V) (G_points_Bank_Forced : List V → M V) (vs_16 : List V) : M Out :=
  bnd (
    bnd (A_points_Bank_Free [(at_ vs_16 0), (at_ vs_16 2)]) fun x212 =>
    bnd (lift (bin .neq x212 (Value.int .i64 0))) fun x213 =>
    condM x213 (
      ret (.ret [(Value.bool false)])
      ) (
      ret (.nxt [(at_ vs_16 0), (at_ vs_16 1)])
      )
    ) fun o => nx o (law19_PointsForce_k14 G_maps_DeleteFunc_map_points_pair_int64_points_pair_int64 G_points_Bank_Forced)
def law19_PointsForce_k16 (G_maps_DeleteFunc_map_points_pair_int64_points_pair_int64 : List V → M V) (G_points_Bank_Forced : List V → M V) (vs_10 : List V) : M Out :=
  bnd (
    bnd (lift (faddr 0 (at_ vs_10 0))) fun x166 =>
    bnd (ld1 x166) fun x167 =>
    bnd (lift (lenSlc x167)) fun x168 =>
    bnd (
      loopM FUEL (law19_PointsForce_l9 G_maps_DeleteFunc_map_points_pair_int64_points_pair_int64 G_points_Bank_Forced) [(at_ vs_10 1), (at_ vs_10 2), (at_ vs_10 3), (at_ vs_10 4), (Value.int .i64 0), x167, x168, (Value.int .i64 0)]
      ) fun o => ret (unblk 2 o)
    ) fun o => nx o (law19_PointsForce_k15 G_maps_DeleteFunc_map_points_pair_int64_points_pair_int64 G_points_Bank_Forced)
def law19_PointsForce_k17 (G_maps_DeleteFunc_map_points_pair_int64_points_pair_int64 : List V → M V) (G_points_Bank_Forced : List V → M V) (vs_4 : List V) : M Out :=
  bnd (
    bnd (
      loopM FUEL (law19_PointsForce_l4 G_maps_DeleteFunc_map_points_pair_int64_points_pair_int64 G_points_Bank_Forced) [(at_ vs_4 0), (at_ vs_4 1), (at_ vs_4 2), (at_ vs_4 3), (at_ vs_4 4), (at_ vs_4 5), (Value.int .i64 0)]
      ) fun o => ret (unblk 0 o)
    ) fun o => nx o (law19_PointsForce_k16 G_maps_DeleteFunc_map_points_pair_int64_points_pair_int64 G_points_Bank_Forced)
def law19_PointsForce_k18 (G_maps_DeleteFunc_map_points_pair_int64_points_pair_int64 : List V → M V) (G_points_Bank_Forced : List V → M V) (vs_3 : List V) : M Out :=
  bnd (lift (cvi .u64 (at_ vs_3 1))) fun x74 =>
  bnd (lift (faddr 0 (at_ vs_3 2))) fun x75 =>
  bnd (ld1 x75) fun x76 =>
  bnd (lift (lenSlc x76)) fun x77 =>
  bnd (lift (cvi .u64 x77)) fun x78 =>
  bnd (lift (bin .rem x74 x78)) fun x79 =>
  bnd (lift (cvi .i64 x79)) fun x80 =>
  bnd (lift (bin .and (at_ vs_3 1) (Value.int .i64 1))) fun x82 =>
  bnd (
    bnd (A_points_Bank_Force [(at_ vs_3 3), x80, x82]) fun x86 =>
    bnd (lift (bin .neq x86 (Value.int .i64 0))) fun x87 =>
    condM x87 (
      ret (.ret [(Value.bool false)])
      ) (
      ret (.nxt [(at_ vs_3 0), (at_ vs_3 2), (at_ vs_3 3), (at_ vs_3 4), x80, x82])
      )
    ) fun o => nx o (law19_PointsForce_k17 G_maps_DeleteFunc_map_points_pair_int64_points_pair_int64 G_points_Bank_Forced)
def law19_PointsForce_k19 (G_maps_DeleteFunc_map_points_pair_int64_points_pair_int64 : List V → M V) (G_points_Bank_Forced : List V → M V) (vs_2 : List V) : M Out :=
  bnd (lift (faddr 0 (at_ vs_2 2))) fun x38 =>
  bnd (ld1 x38) fun x39 =>
  bnd (lift (faddr 1 (at_ vs_2 2))) fun x40 =>
  bnd (ld1 x40) fun x41 =>
  bnd (A_points_New [x39, x41]) fun x42 =>
  bnd (lift (ext 0 x42)) fun x43 =>
  bnd (lift (ext 1 x42)) fun x44 =>
  bnd (lift (faddr 0 (at_ vs_2 2))) fun x46 =>
  bnd (ld1 x46) fun x47 =>
  bnd (lift (faddr 1 (at_ vs_2 2))) fun x48 =>
  bnd (ld1 x48) fun x49 =>
  bnd (A_points_New [x47, x49]) fun x50 =>
  bnd (lift (ext 0 x50)) fun x51 =>
  bnd (lift (ext 1 x50)) fun x52 =>
  bnd (
    bnd (lift (bin .neq x44 (Value.int .i64 0))) fun x54 =>
    bnd (gd x54 false (lift (some x52))) fun x56 =>
    bnd (gd x54 false (lift (bin .neq x56 (Value.int .i64 0)))) fun x57 =>
    bnd (lift (pickV x54 (Value.bool true) x57)) fun x58 =>
    bnd (gd x58 false (lift (some x43))) fun x60 =>
    bnd (gd x58 false (lift (notIf false (isNil .p x60)))) fun x61 =>
    bnd (lift (pickV x58 (Value.bool true) x61)) fun x62 =>
    bnd (gd x62 false (lift (some x51))) fun x64 =>
    bnd (gd x62 false (lift (notIf false (isNil .p x64)))) fun x65 =>
    bnd (lift (pickV x62 (Value.bool true) x65)) fun x66 =>
    condM x66 (
      bnd (lift (notIf false (isNil .p x43))) fun x68 =>
      bnd (gd x68 true (lift (some x51))) fun x70 =>
      bnd (gd x68 true (lift (notIf false (isNil .p x70)))) fun x71 =>
      bnd (lift (pickV x68 x71 (Value.bool false))) fun x72 =>
      ret (.ret [x72])
      ) (
      ret (.nxt [(at_ vs_2 0), (at_ vs_2 1), (at_ vs_2 2), x43, x51])
      )
    ) fun o => nx o (law19_PointsForce_k18 G_maps_DeleteFunc_map_points_pair_int64_points_pair_int64 G_points_Bank_Forced)
def law19_PointsForce_k20 (G_maps_DeleteFunc_map_points_pair_int64_points_pair_int64 : List V → M V) (G_points_Bank_Forced : List V → M V) (vs : List V) : M Out :=
  bnd (
    bnd (lift (faddr 1 (at_ vs 2))) fun x27 =>
    bnd (ld1 x27) fun x28 =>
    bnd (lift (lenSlc x28)) fun x29 =>
    bnd (lift (bin .gtr x29 (Value.int .i64 200))) fun x30 =>
    bnd (gd x30 false (lift (faddr 0 (at_ vs 2)))) fun x32 =>
    bnd (gd x30 false (ld1 x32)) fun x33 =>
    bnd (gd x30 false (lift (lenSlc x33))) fun x34 =>
    bnd (gd x30 false (lift (bin .eql x34 (Value.int .i64 0)))) fun x35 =>
    bnd (lift (pickV x30 (Value.bool true) x35)) fun x36 =>
    condM x36 (
      ret (.ret [(Value.bool true)])
      ) (
      ret (.nxt [(at_ vs 0), (at_ vs 1), (at_ vs 2)])
      )
    ) fun o => nx o (law19_PointsForce_k19 G_maps_DeleteFunc_map_points_pair_int64_points_pair_int64 G_points_Bank_Forced)
def F_law19_PointsForce (G_maps_DeleteFunc_map_points_pair_int64_points_pair_int64 : List V → M V) (G_points_Bank_Forced : List V → M V) (x0 x1 x2 : V) : M V :=
  bnd (
    bnd (boxv x0) fun x3 =>
    bnd (
      bnd ((A_law19_works G_maps_DeleteFunc_map_points_pair_int64_points_pair_int64) []) fun x25 =>
      bnd (lift (un .not x25)) fun x26 =>
      condM x26 (
        ret (.ret [(Value.bool false)])
        ) (
        ret (.nxt [x1, x2, x3])
        )
      ) fun o => nx o (law19_PointsForce_k20 G_maps_DeleteFunc_map_points_pair_int64_points_pair_int64 G_points_Bank_Forced)
    ) fun o => finM o fun vs => ret (outV [(at_ vs 0)])
def h_law19_PointsForce : Hint := (.seq [] .leaf (.seq [1, 2, 3] (.seq [] .leaf (.cond (.seq [] .leaf .leaf) .leaf)) (.seq [1, 2, 3] (.seq [] .leaf (.cond (.seq [] .leaf .leaf) .leaf)) (.seq [] .leaf (.seq [] .leaf (.seq [1, 2, 3, 7, 9] (.seq [] .leaf (.cond (.seq [] .leaf .leaf) .leaf)) (.seq [] .leaf (.seq [] .leaf (.seq [1, 3, 7, 9, 11, 12] (.seq [] .leaf (.cond (.seq [] .leaf .leaf) .leaf)) (.seq [3, 7, 9, 11, 12] (.seq [] .leaf (.blk (.loop [1, 3, 7, 9, 11, 12, 13] (.seq [1, 3, 7, 9, 11, 12, 13] (.seq [] .leaf (.cond .leaf .leaf)) (.seq [1, 3, 7, 9, 11, 12, 13] (.blk (.seq [1, 3, 7, 9, 11, 12, 13] (.seq [] .leaf (.seq [] .leaf (.cond .leaf .leaf))) (.seq [] .leaf (.seq [] .leaf (.seq [1, 3, 7, 9, 11, 12, 13, 15, 16] (.seq [] .leaf (.cond (.seq [] .leaf .leaf) .leaf)) (.seq [] .leaf (.cond (.seq [] .leaf .leaf) .leaf))))))) .leaf))))) (.seq [] .leaf (.seq [7, 9, 11] (.seq [] .leaf (.blk (.loop [7, 9, 11, 12, 19, 167, 168, 169] (.seq [] .leaf (.seq [7, 9, 11, 12, 19, 167, 168, 169] (.cond .leaf .leaf) (.seq [7, 9, 11, 12, 19, 167, 168, 169] (.blk (.seq [] .leaf (.seq [7, 9, 11, 12, 19, 20, 167, 168, 169] (.seq [] .leaf (.cond .leaf .leaf)) (.seq [7, 9, 11, 12, 19, 167, 168, 169] (.seq [] (.reg [0, 1, 2, 3, 4, 6, 9, 5, 7, 8, 10, 11, 12, 13, 14, 15, 16, 17, 19, 22, 24, 18, 20, 21, 23, 25, 26, 27, 28, 29] []) (.cond (.seq [] .leaf .leaf) .leaf)) .leaf)))) .leaf)))))) (.seq [7, 9] (.seq [] .leaf (.cond (.seq [] .leaf .leaf) .leaf)) (.seq [] .leaf (.seq [7, 22, 23] (.seq [] .leaf (.blk (.loop [7, 22, 23, 219, 220] (.seq [] .leaf (.seq [7, 22, 23, 219, 220] (.cond .leaf .leaf) (.seq [7, 22, 23, 219, 220] (.blk (.seq [] .leaf (.seq [] (.reg [0, 1, 2, 4, 5, 6, 3, 7, 8] []) (.cond (.seq [] .leaf .leaf) .leaf)))) .leaf)))))) (.seq [] .leaf .leaf))))))))))))))))
def A_law19_PointsForce (G_maps_DeleteFunc_map_points_pair_int64_points_pair_int64 : List V → M V) (G_points_Bank_Forced : List V → M V) (l : List V) : M V := match l with | [x0, x1, x2] => F_law19_PointsForce G_maps_DeleteFunc_map_points_pair_int64_points_pair_int64 G_points_Bank_Forced x0 x1 x2 | _ => fail
theorem e_law19_PointsForce (G_maps_DeleteFunc_map_points_pair_int64_points_pair_int64 : List V → M V) (G_points_Bank_Forced : List V → M V) (x0 x1 x2 : V) : funM Try.prog (ovr [(fid_law19_works, A_law19_works G_maps_DeleteFunc_map_points_pair_int64_points_pair_int64), (fid_points_New, A_points_New), (fid_points_Bank_Force, A_points_Bank_Force), (fid_law19_among, A_law19_among), (fid_law19_do, A_law19_do G_maps_DeleteFunc_map_points_pair_int64_points_pair_int64), (fid_points_Bank_Outputs, A_points_Bank_Outputs), (fid_points_Bank_Free, A_points_Bank_Free), (fid_points_Bank_Forced, G_points_Bank_Forced)] noC) fid_law19_PointsForce h_law19_PointsForce [x0, x1, x2] = F_law19_PointsForce G_maps_DeleteFunc_map_points_pair_int64_points_pair_int64 G_points_Bank_Forced x0 x1 x2 := by kernel_rfl
theorem K_law19_PointsForce {G_maps_DeleteFunc_map_points_pair_int64_points_pair_int64 : List V → M V} {G_points_Bank_Forced : List V → M V} (k_maps_DeleteFunc_map_points_pair_int64_points_pair_int64 : Known Try.prog fid_maps_DeleteFunc_map_points_pair_int64_points_pair_int64 G_maps_DeleteFunc_map_points_pair_int64_points_pair_int64) (k_points_Bank_Forced : Known Try.prog fid_points_Bank_Forced G_points_Bank_Forced) : Known Try.prog fid_law19_PointsForce (A_law19_PointsForce G_maps_DeleteFunc_map_points_pair_int64_points_pair_int64 G_points_Bank_Forced) := known_of (σ := ovr [(fid_law19_works, A_law19_works G_maps_DeleteFunc_map_points_pair_int64_points_pair_int64), (fid_points_New, A_points_New), (fid_points_Bank_Force, A_points_Bank_Force), (fid_law19_among, A_law19_among), (fid_law19_do, A_law19_do G_maps_DeleteFunc_map_points_pair_int64_points_pair_int64), (fid_points_Bank_Outputs, A_points_Bank_Outputs), (fid_points_Bank_Free, A_points_Bank_Free), (fid_points_Bank_Forced, G_points_Bank_Forced)] noC) (hint := h_law19_PointsForce) (by kernel_rfl) (simAll_ovr (K_law19_works k_maps_DeleteFunc_map_points_pair_int64_points_pair_int64) (simAll_ovr K_points_New (simAll_ovr K_points_Bank_Force (simAll_ovr K_law19_among (simAll_ovr (K_law19_do k_maps_DeleteFunc_map_points_pair_int64_points_pair_int64) (simAll_ovr K_points_Bank_Outputs (simAll_ovr K_points_Bank_Free (simAll_ovr k_points_Bank_Forced simAll_nil0)))))))) fun l H r H' h => by
  unfold A_law19_PointsForce at h; split at h
  · rw [e_law19_PointsForce]; exact h
  · exact (fail_ne h).elim

end Go.AM.Cap
