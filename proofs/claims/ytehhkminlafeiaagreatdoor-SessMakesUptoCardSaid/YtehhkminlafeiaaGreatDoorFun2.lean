import Derived.Test.YtehhkminlafeiaaGreatDoorFun
set_option linter.all false
/- Printed by amprint2.py: functions of YtehhkminlafeiaaGreatDoor on the abstract machine. -/
set_option linter.unusedVariables false
set_option maxRecDepth 100000
namespace Go.AM.Cap
open Go.AM Go.Proofs


/-! ### (*capstan/sess.Desk).Hello -/
def sess_Desk_Hello_k0 (vs_2 : List V) : M Out :=
  ret (.ret [(at_ vs_2 0), (Value.int .i64 0)])
def sess_Desk_Hello_k1 (vs : List V) : M Out :=
  bnd (lift (nilck (at_ vs 0))) fun x31 =>
  bnd (lift (faddr 3 x31)) fun x32 =>
  bnd (lift (nilck (at_ vs 0))) fun x34 =>
  bnd (lift (faddr 0 x34)) fun x35 =>
  bnd (lift (nilck (at_ vs 0))) fun x42 =>
  bnd (lift (faddr 2 x42)) fun x43 =>
  bnd (ld1 x35) fun x36 =>
  bnd (lift (iaddrS 3 x36 (at_ vs 2))) fun x38 =>
  bnd (ldn 3 x38) fun x39 =>
  bnd (ld1 x43) fun x44 =>
  bnd (lift (build [Value.string ⟨#[]⟩, Value.string ⟨#[]⟩, Value.slice none 0 0, Value.string ⟨#[]⟩, Value.int .i64 0] [(0, 3, x39), (3, 1, (at_ vs 1)), (4, 1, x44)])) fun x45 =>
  bnd (A_sess_shelf_sess_challenge_put [x32, x45]) fun x46 =>
  bnd (lift (ext 0 x46)) fun x47 =>
  bnd (lift (ext 1 x46)) fun x48 =>
  bnd (
    bnd (lift (un .not x48)) fun x50 =>
    condM x50 (
      ret (.ret [(Value.int .i64 0), (Value.int .i64 2)])
      ) (
      ret (.nxt [x47])
      )
    ) fun o => nx o sess_Desk_Hello_k0
def F_sess_Desk_Hello (x0 x1 x2 : V) : M V :=
  bnd (
    bnd (lift (nilck x0)) fun x14 =>
    bnd (lift (faddr 0 x14)) fun x15 =>
    bnd (ld1 x15) fun x16 =>
    bnd (A_roles_Find [x16, x1]) fun x18 =>
    bnd (lift (ext 0 x18)) fun x19 =>
    bnd (lift (ext 1 x18)) fun x20 =>
    bnd (
      bnd (
        bnd (lift (bin .neq x20 (Value.int .i64 0))) fun x23 =>
        condM x23 (
          ret (.ret [(Value.int .i64 0), x20])
          ) (
          bnd (lift (lenStr x2)) fun x27 =>
          bnd (lift (bin .neq x27 (Value.int .i64 16))) fun x28 =>
          condM x28 (
            ret (.ret [(Value.int .i64 0), (Value.int .i64 4)])
            ) (
            ret (.nxt [x0, x2, x19])
            )
          )
        ) fun o => ret (unblk 0 o)
      ) fun o => nx o sess_Desk_Hello_k1
    ) fun o => finM o fun vs => ret (outV [(at_ vs 0), (at_ vs 1)])
def h_sess_Desk_Hello : Hint := (.seq [] .leaf (.seq [] .leaf (.seq [0, 2, 8] (.blk (.seq [] .leaf (.cond (.seq [] .leaf .leaf) (.seq [] .leaf (.cond (.seq [] .leaf .leaf) .leaf))))) (.seq [] (.reg [0, 1, 2, 3, 4, 5, 7, 10, 11, 12, 13, 6, 8, 9, 14, 15, 16, 17, 18, 19, 20, 21] []) (.seq [10] (.seq [] .leaf (.cond (.seq [] .leaf .leaf) .leaf)) (.seq [] .leaf .leaf))))))
def A_sess_Desk_Hello (l : List V) : M V := match l with | [x0, x1, x2] => F_sess_Desk_Hello x0 x1 x2 | _ => fail
theorem e_sess_Desk_Hello (x0 x1 x2 : V) : funM Tryz.prog (ovr [(fid_roles_Find, A_roles_Find), (fid_sess_shelf_sess_challenge_put, A_sess_shelf_sess_challenge_put)] noC) fid_sess_Desk_Hello h_sess_Desk_Hello [x0, x1, x2] = F_sess_Desk_Hello x0 x1 x2 := by kernel_rfl
theorem K_sess_Desk_Hello : Known Tryz.prog fid_sess_Desk_Hello (A_sess_Desk_Hello) := known_of (σ := ovr [(fid_roles_Find, A_roles_Find), (fid_sess_shelf_sess_challenge_put, A_sess_shelf_sess_challenge_put)] noC) (hint := h_sess_Desk_Hello) (by kernel_rfl) (simAll_ovr K_roles_Find (simAll_ovr K_sess_shelf_sess_challenge_put simAll_nil0)) fun l H r H' h => by
  unfold A_sess_Desk_Hello at h; split at h
  · rw [e_sess_Desk_Hello]; exact h
  · exact (fail_ne h).elim

/-! ### (*capstan/sess.shelf[capstan/sess.challenge]).get -/
def sess_shelf_sess_challenge_get_k0 (vs : List V) : M Out :=
  bnd (lift (nilck (at_ vs 0))) fun x15 =>
  bnd (lift (faddr 2 x15)) fun x16 =>
  bnd (ld1 x16) fun x17 =>
  bnd (lift (iaddrS 5 x17 (at_ vs 1))) fun x19 =>
  ret (.ret [x19])
def F_sess_shelf_sess_challenge_get (x0 x1 : V) : M V :=
  bnd (
    bnd (lift (nilck x0)) fun x7 =>
    bnd (lift (faddr 1 x7)) fun x8 =>
    bnd (ld1 x8) fun x9 =>
    bnd (A_slices_Index_S_int_int [x9, x1]) fun x11 =>
    bnd (
      bnd (lift (bin .lss x11 (Value.int .i64 0))) fun x13 =>
      condM x13 (
        ret (.ret [(Value.pointer none)])
        ) (
        ret (.nxt [x0, x11])
        )
      ) fun o => nx o sess_shelf_sess_challenge_get_k0
    ) fun o => finM o fun vs => ret (outV [(at_ vs 0)])
def h_sess_shelf_sess_challenge_get : Hint := (.seq [] .leaf (.seq [] .leaf (.seq [0, 5] (.seq [] .leaf (.cond (.seq [] .leaf .leaf) .leaf)) (.seq [] .leaf .leaf))))
def A_sess_shelf_sess_challenge_get (l : List V) : M V := match l with | [x0, x1] => F_sess_shelf_sess_challenge_get x0 x1 | _ => fail
theorem e_sess_shelf_sess_challenge_get (x0 x1 : V) : funM Tryz.prog (ovr [(fid_slices_Index_S_int_int, A_slices_Index_S_int_int)] noC) fid_sess_shelf_sess_challenge_get h_sess_shelf_sess_challenge_get [x0, x1] = F_sess_shelf_sess_challenge_get x0 x1 := by kernel_rfl
theorem K_sess_shelf_sess_challenge_get : Known Tryz.prog fid_sess_shelf_sess_challenge_get (A_sess_shelf_sess_challenge_get) := known_of (σ := ovr [(fid_slices_Index_S_int_int, A_slices_Index_S_int_int)] noC) (hint := h_sess_shelf_sess_challenge_get) (by kernel_rfl) (simAll_ovr K_slices_Index_S_int_int simAll_nil0) fun l H r H' h => by
  unfold A_sess_shelf_sess_challenge_get at h; split at h
  · rw [e_sess_shelf_sess_challenge_get]; exact h
  · exact (fail_ne h).elim

/-! ### (*capstan/sess.shelf[capstan/sess.challenge]).drop$1 -/
def F_sess_shelf_sess_challenge_drop_1 (x0 x1 x2 : V) : M V :=
  bnd (
    bnd (boxv x1) fun x4 =>
    bnd (ld1 x2) fun x7 =>
    bnd (lift (bin .neq x0 x7)) fun x8 =>
    ret (.ret [x8])
    ) fun o => finM o fun vs => ret (outV [(at_ vs 0)])
def h_sess_shelf_sess_challenge_drop_1 : Hint := (.seq [] .leaf (.seq [] .leaf .leaf))
def A_sess_shelf_sess_challenge_drop_1 (l : List V) : M V := match l with | [x0, x1, x2] => F_sess_shelf_sess_challenge_drop_1 x0 x1 x2 | _ => fail
theorem e_sess_shelf_sess_challenge_drop_1 (x0 x1 x2 : V) : funM Tryz.prog (ovr [] noC) fid_sess_shelf_sess_challenge_drop_1 h_sess_shelf_sess_challenge_drop_1 [x0, x1, x2] = F_sess_shelf_sess_challenge_drop_1 x0 x1 x2 := by kernel_rfl
theorem K_sess_shelf_sess_challenge_drop_1 : Known Tryz.prog fid_sess_shelf_sess_challenge_drop_1 (A_sess_shelf_sess_challenge_drop_1) := known_of (σ := ovr [] noC) (hint := h_sess_shelf_sess_challenge_drop_1) (by kernel_rfl) simAll_nil0 fun l H r H' h => by
  unfold A_sess_shelf_sess_challenge_drop_1 at h; split at h
  · rw [e_sess_shelf_sess_challenge_drop_1]; exact h
  · exact (fail_ne h).elim

/-! ### (*capstan/sess.shelf[capstan/sess.challenge]).keep -/
def sess_shelf_sess_challenge_keep_k0 (S : Calls') (vs_3 : List V) : M Out :=
  bnd (lift (bin .add (at_ vs_3 6) (Value.int .i64 1))) fun x42 =>
  ret (.nxt [(at_ vs_3 0), (at_ vs_3 1), (at_ vs_3 2), (at_ vs_3 3), (at_ vs_3 4), (at_ vs_3 5), x42])
def sess_shelf_sess_challenge_keep_k1 (S : Calls') (vs_2 : List V) : M Out :=
  bnd (
  bnd (
    bnd (lift (iaddrS 5 (at_ vs_2 4) (at_ vs_2 6))) fun x16 =>
    bnd (ldn 5 x16) fun x17 =>
    bnd (newc [Value.string ⟨#[]⟩, Value.string ⟨#[]⟩, Value.slice none 0 0, Value.string ⟨#[]⟩, Value.int .i64 0]) fun x7 =>
    bnd (stn 5 x7 x17) fun _ =>
    bnd (lift (nilck (at_ vs_2 0))) fun x20 =>
    bnd (lift (faddr 1 x20)) fun x21 =>
    bnd (ld1 x21) fun x22 =>
    bnd (lift (iaddrS 1 x22 (at_ vs_2 6))) fun x24 =>
    bnd (ld1 x24) fun x25 =>
    bnd (ldn 5 x7) fun x26 =>
    bnd (callM (ovr [] S) (at_ vs_2 1) [x25, x26]) fun x27 =>
    condM x27 (
      withResv 2 fun base h0 =>
      bnd (lift (nilck (at_ vs_2 0))) fun x30 =>
      bnd (lift (faddr 1 x30)) fun x31 =>
      bnd (ld1 x31) fun x32 =>
      bnd (lift (iaddrS 1 x32 (at_ vs_2 6))) fun x34 =>
      bnd (ld1 x34) fun x35 =>
      bnd (ldn 5 x7) fun x39 =>
      bnd (flt (base + 0) (bslc 1 1 (rep 1 [Value.int .i64 0]) [(0, 1, x35)])) fun x36 =>
      bndH (appV 1 8 (at_ vs_2 2) x36) fun ha x37 h1 =>
      need (freeIn ha [base + 1] && freeIn h1 [base + 1]) <|
      bnd (flt (base + 1) (bslc 5 1 (rep 1 [Value.string ⟨#[]⟩, Value.string ⟨#[]⟩, Value.slice none 0 0, Value.string ⟨#[]⟩, Value.int .i64 0]) [(0, 5, x39)])) fun x40 =>
      bndH (appV 5 80 (at_ vs_2 3) x40) fun ha_2 x41 h2 =>
      need (chk (ldn 5 x7) h1 x39) <|
      ret (.nxt [(at_ vs_2 0), (at_ vs_2 1), x37, x41, (at_ vs_2 4), (at_ vs_2 5), (at_ vs_2 6)])
      ) (
      ret (.nxt [(at_ vs_2 0), (at_ vs_2 1), (at_ vs_2 2), (at_ vs_2 3), (at_ vs_2 4), (at_ vs_2 5), (at_ vs_2 6)])
      )
    ) fun o => ret (unblk 1 o)
  ) fun o => nx o (sess_shelf_sess_challenge_keep_k0 S)
def sess_shelf_sess_challenge_keep_l2 (S : Calls') (vs : List V) : M Out :=
  bnd (lift (bin .lss (at_ vs 6) (at_ vs 5))) fun x14 =>
  bnd (
  condM x14 (
    ret (.nxt [(at_ vs 0), (at_ vs 1), (at_ vs 2), (at_ vs 3), (at_ vs 4), (at_ vs 5), (at_ vs 6)])
    ) (
    ret (.brk 0 [(at_ vs 0), (at_ vs 2), (at_ vs 3)])
    )
  ) fun o => nx o (sess_shelf_sess_challenge_keep_k1 S)
def sess_shelf_sess_challenge_keep_k3 (S : Calls') (vs_4 : List V) : M Out :=
  bnd (lift (nilck (at_ vs_4 0))) fun x47 =>
  bnd (lift (faddr 1 x47)) fun x48 =>
  bnd (st1 x48 (at_ vs_4 1)) fun _ =>
  bnd (lift (nilck (at_ vs_4 0))) fun x49 =>
  bnd (lift (faddr 2 x49)) fun x50 =>
  bnd (st1 x50 (at_ vs_4 2)) fun _ =>
  ret (.nxt [])
def F_sess_shelf_sess_challenge_keep (S : Calls') (x0 x1 : V) : M V :=
  bnd (
    bnd (
      bnd (lift (nilck x0)) fun x9 =>
      bnd (lift (faddr 2 x9)) fun x10 =>
      bnd (ld1 x10) fun x11 =>
      bnd (lift (lenSlc x11)) fun x12 =>
      bnd (
        loopM FUEL (sess_shelf_sess_challenge_keep_l2 S) [x0, x1, (Value.slice none 0 0), (Value.slice none 0 0), x11, x12, (Value.int .i64 0)]
        ) fun o => ret (unblk 0 o)
      ) fun o => nx o (sess_shelf_sess_challenge_keep_k3 S)
    ) fun o => finM o fun vs => ret (outV [])
def h_sess_shelf_sess_challenge_keep : Hint := (.seq [] .leaf (.seq [] .leaf (.seq [0, 4, 5] (.seq [] .leaf (.blk (.loop [0, 1, 4, 5, 11, 12, 13] (.seq [] .leaf (.seq [0, 1, 4, 5, 11, 12, 13] (.cond .leaf .leaf) (.seq [0, 1, 4, 5, 11, 12, 13] (.blk (.seq [] .leaf (.seq [] (.reg [0, 1, 2, 3, 5, 4, 6, 7, 8, 9] []) (.cond (.reg [0, 1, 2, 3, 5, 10, 4, 6, 7, 11, 8, 9, 12, 13, 14, 15] [8, 12]) .leaf)))) .leaf)))))) .leaf)))
def A_sess_shelf_sess_challenge_keep (S : Calls') (l : List V) : M V := match l with | [x0, x1] => F_sess_shelf_sess_challenge_keep S x0 x1 | _ => fail
theorem e_sess_shelf_sess_challenge_keep (S : Calls') (x0 x1 : V) : funM Tryz.prog (ovr [] S) fid_sess_shelf_sess_challenge_keep h_sess_shelf_sess_challenge_keep [x0, x1] = F_sess_shelf_sess_challenge_keep S x0 x1 := by kernel_rfl
theorem K_sess_shelf_sess_challenge_keep {S : Calls'} (hS : SimAll Tryz.prog S) : Known Tryz.prog fid_sess_shelf_sess_challenge_keep (A_sess_shelf_sess_challenge_keep S) := known_of (σ := ovr [] S) (hint := h_sess_shelf_sess_challenge_keep) (by kernel_rfl) (simAll_base hS) fun l H r H' h => by
  unfold A_sess_shelf_sess_challenge_keep at h; split at h
  · rw [e_sess_shelf_sess_challenge_keep]; exact h
  · exact (fail_ne h).elim

/-! ### (*capstan/sess.shelf[capstan/sess.challenge]).drop -/
def F_sess_shelf_sess_challenge_drop (x0 x1 : V) : M V :=
  bnd (
    bnd (boxv x1) fun x3 =>
    bnd (lift (some (Value.func (.func fid_sess_shelf_sess_challenge_drop_1) #[] #[x3]))) fun x5 =>
    bnd ((A_sess_shelf_sess_challenge_keep (ovr [(fid_sess_shelf_sess_challenge_drop_1, A_sess_shelf_sess_challenge_drop_1)] noC)) [x0, x5]) fun x6 =>
    ret (.nxt [])
    ) fun o => finM o fun vs => ret (outV [])
def h_sess_shelf_sess_challenge_drop : Hint := (.seq [] .leaf .leaf)
def A_sess_shelf_sess_challenge_drop (l : List V) : M V := match l with | [x0, x1] => F_sess_shelf_sess_challenge_drop x0 x1 | _ => fail
theorem e_sess_shelf_sess_challenge_drop (x0 x1 : V) : funM Tryz.prog (ovr [(fid_sess_shelf_sess_challenge_keep, A_sess_shelf_sess_challenge_keep (ovr [(fid_sess_shelf_sess_challenge_drop_1, A_sess_shelf_sess_challenge_drop_1)] noC))] noC) fid_sess_shelf_sess_challenge_drop h_sess_shelf_sess_challenge_drop [x0, x1] = F_sess_shelf_sess_challenge_drop x0 x1 := by kernel_rfl
theorem K_sess_shelf_sess_challenge_drop : Known Tryz.prog fid_sess_shelf_sess_challenge_drop (A_sess_shelf_sess_challenge_drop) := known_of (σ := ovr [(fid_sess_shelf_sess_challenge_keep, A_sess_shelf_sess_challenge_keep (ovr [(fid_sess_shelf_sess_challenge_drop_1, A_sess_shelf_sess_challenge_drop_1)] noC))] noC) (hint := h_sess_shelf_sess_challenge_drop) (by kernel_rfl) (simAll_ovr (K_sess_shelf_sess_challenge_keep (simAll_ovr K_sess_shelf_sess_challenge_drop_1 simAll_nil0)) simAll_nil0) fun l H r H' h => by
  unfold A_sess_shelf_sess_challenge_drop at h; split at h
  · rw [e_sess_shelf_sess_challenge_drop]; exact h
  · exact (fail_ne h).elim

/-! ### (*capstan/sess.shelf[capstan/sess.session]).put -/
def sess_shelf_sess_session_put_k0 (vs : List V) : M Out :=
  bnd (lift (nilck (at_ vs 0))) fun x13 =>
  bnd (lift (faddr 0 x13)) fun x14 =>
  bnd (ld1 x14) fun x15 =>
  bnd (lift (bin .add x15 (Value.int .i64 1))) fun x16 =>
  bnd (lift (nilck (at_ vs 0))) fun x17 =>
  bnd (lift (faddr 0 x17)) fun x18 =>
  bnd (st1 x18 x16) fun _ =>
  withResv 2 fun base h0 =>
  bnd (lift (nilck (at_ vs 0))) fun x22 =>
  bnd (lift (faddr 1 x22)) fun x23 =>
  bnd (lift (nilck (at_ vs 0))) fun x26 =>
  bnd (lift (faddr 0 x26)) fun x27 =>
  bnd (lift (nilck (at_ vs 0))) fun x32 =>
  bnd (lift (faddr 2 x32)) fun x33 =>
  bnd (ld1 x23) fun x24 =>
  bnd (ld1 x27) fun x28 =>
  bnd (ld1 x33) fun x34 =>
  bnd (ldn 6 (at_ vs 1)) fun x35 =>
  bnd (flt (base + 0) (bslc 1 1 (rep 1 [Value.int .i64 0]) [(0, 1, x28)])) fun x29 =>
  bndH (appV 1 8 x24 x29) fun ha x30 h1 =>
  need (freeIn ha [base + 1] && freeIn h1 [base + 1]) <|
  bnd (flt (base + 1) (bslc 6 1 (rep 1 [Value.string ⟨#[]⟩, Value.string ⟨#[]⟩, Value.slice none 0 0, Value.string ⟨#[]⟩, Value.int .i64 0, Value.int .i64 0]) [(0, 6, x35)])) fun x36 =>
  bndH (appV 6 88 x34 x36) fun ha_2 x37 h2 =>
  bnd (lift (nilck (at_ vs 0))) fun x38 =>
  bnd (lift (faddr 1 x38)) fun x39 =>
  bndH (st1 x39 x30) fun ha_3 u h3 =>
  bnd (lift (nilck (at_ vs 0))) fun x40 =>
  bnd (lift (faddr 2 x40)) fun x41 =>
  bndH (st1 x41 x37) fun ha_4 u_2 h4 =>
  need (chk (ld1 x33) h1 x34) <|
  need (chk (ldn 6 (at_ vs 1)) h1 x35) <|
  bnd (lift (nilck (at_ vs 0))) fun x43 =>
  bnd (lift (faddr 0 x43)) fun x44 =>
  bnd (ld1 x44) fun x45 =>
  ret (.ret [x45, (Value.bool true)])
def F_sess_shelf_sess_session_put (x0 x1 : V) : M V :=
  bnd (
    bnd (boxv x1) fun x3 =>
    bnd (
      bnd (lift (nilck x0)) fun x7 =>
      bnd (lift (faddr 2 x7)) fun x8 =>
      bnd (ld1 x8) fun x9 =>
      bnd (lift (lenSlc x9)) fun x10 =>
      bnd (lift (bin .eql x10 (Value.int .i64 8))) fun x11 =>
      condM x11 (
        ret (.ret [(Value.int .i64 0), (Value.bool false)])
        ) (
        ret (.nxt [x0, x3])
        )
      ) fun o => nx o sess_shelf_sess_session_put_k0
    ) fun o => finM o fun vs => ret (outV [(at_ vs 0), (at_ vs 1)])
def h_sess_shelf_sess_session_put : Hint := (.seq [] .leaf (.seq [0, 3] (.seq [] .leaf (.cond (.seq [] .leaf .leaf) .leaf)) (.seq [] .leaf (.seq [] (.reg [0, 1, 2, 3, 4, 6, 7, 8, 12, 13, 14, 5, 9, 15, 16, 10, 11, 17, 18, 19, 20, 21, 22, 23, 24] [10, 17]) (.seq [] .leaf .leaf)))))
def A_sess_shelf_sess_session_put (l : List V) : M V := match l with | [x0, x1] => F_sess_shelf_sess_session_put x0 x1 | _ => fail
theorem e_sess_shelf_sess_session_put (x0 x1 : V) : funM Tryz.prog (ovr [] noC) fid_sess_shelf_sess_session_put h_sess_shelf_sess_session_put [x0, x1] = F_sess_shelf_sess_session_put x0 x1 := by kernel_rfl
theorem K_sess_shelf_sess_session_put : Known Tryz.prog fid_sess_shelf_sess_session_put (A_sess_shelf_sess_session_put) := known_of (σ := ovr [] noC) (hint := h_sess_shelf_sess_session_put) (by kernel_rfl) simAll_nil0 fun l H r H' h => by
  unfold A_sess_shelf_sess_session_put at h; split at h
  · rw [e_sess_shelf_sess_session_put]; exact h
  · exact (fail_ne h).elim

/-! ### (*capstan/sess.Desk).Login -/
def sess_Desk_Login_k0 (vs_3 : List V) : M Out :=
  ret (.ret [(at_ vs_3 0), (Value.int .i64 0)])
def sess_Desk_Login_k1 (vs_2 : List V) : M Out :=
  bnd (lift (nilck (at_ vs_2 0))) fun x45 =>
  bnd (lift (faddr 6 x45)) fun x46 =>
  bnd (lift (faddr 0 (at_ vs_2 1))) fun x47 =>
  bnd (lift (nilck (at_ vs_2 0))) fun x51 =>
  bnd (lift (faddr 2 x51)) fun x52 =>
  bnd (ldn 3 x47) fun x48 =>
  bnd (ld1 x52) fun x53 =>
  bnd (lift (build [Value.string ⟨#[]⟩, Value.string ⟨#[]⟩, Value.slice none 0 0, Value.string ⟨#[]⟩, Value.int .i64 0, Value.int .i64 0] [(0, 3, x48), (3, 1, (at_ vs_2 2)), (4, 1, (Value.int .i64 1)), (5, 1, x53)])) fun x54 =>
  bnd (A_sess_shelf_sess_session_put [x46, x54]) fun x55 =>
  bnd (lift (ext 0 x55)) fun x56 =>
  bnd (lift (ext 1 x55)) fun x57 =>
  bnd (
    bnd (lift (un .not x57)) fun x59 =>
    condM x59 (
      ret (.ret [(Value.int .i64 0), (Value.int .i64 2)])
      ) (
      ret (.nxt [x56])
      )
    ) fun o => nx o sess_Desk_Login_k0
def sess_Desk_Login_k2 (vs : List V) : M Out :=
  bnd (lift (nilck (at_ vs 3))) fun x22 =>
  bnd (ldn 5 x22) fun x23 =>
  bnd (newc [Value.string ⟨#[]⟩, Value.string ⟨#[]⟩, Value.slice none 0 0, Value.string ⟨#[]⟩, Value.int .i64 0]) fun x9 =>
  bnd (stn 5 x9 x23) fun _ =>
  bnd (lift (nilck (at_ vs 0))) fun x25 =>
  bnd (lift (faddr 3 x25)) fun x26 =>
  bnd (A_sess_shelf_sess_challenge_drop [x26, (at_ vs 1)]) fun x28 =>
  bnd (lift (faddr 0 x9)) fun x30 =>
  bnd (lift (faddr 1 x30)) fun x31 =>
  bnd (ld1 x31) fun x32 =>
  bnd (lift (faddr 3 x9)) fun x33 =>
  bnd (ld1 x33) fun x34 =>
  bnd (A_sess_Prove [x32, x34, (at_ vs 1)]) fun x36 =>
  bnd (lift (ext 0 x36)) fun x37 =>
  bnd (lift (ext 1 x36)) fun x38 =>
  bnd (
    bnd (A_mac_Equal [x37, (at_ vs 2)]) fun x41 =>
    bnd (lift (un .not x41)) fun x42 =>
    condM x42 (
      ret (.ret [(Value.int .i64 0), (Value.int .i64 20)])
      ) (
      ret (.nxt [(at_ vs 0), x9, x38])
      )
    ) fun o => nx o sess_Desk_Login_k1
def F_sess_Desk_Login (x0 x1 x2 : V) : M V :=
  bnd (
    bnd (lift (nilck x0)) fun x15 =>
    bnd (lift (faddr 3 x15)) fun x16 =>
    bnd (A_sess_shelf_sess_challenge_get [x16, x1]) fun x18 =>
    bnd (
      bnd (lift (notIf false (isNil .p x18))) fun x20 =>
      condM x20 (
        ret (.ret [(Value.int .i64 0), (Value.int .i64 5)])
        ) (
        ret (.nxt [x0, x1, x2, x18])
        )
      ) fun o => nx o sess_Desk_Login_k2
    ) fun o => finM o fun vs => ret (outV [(at_ vs 0), (at_ vs 1)])
def h_sess_Desk_Login : Hint := (.seq [] .leaf (.seq [] .leaf (.seq [0, 1, 2, 8] (.seq [] .leaf (.cond (.seq [] .leaf .leaf) .leaf)) (.seq [] .leaf (.seq [] .leaf (.seq [] .leaf (.seq [0, 9, 11] (.seq [] .leaf (.cond (.seq [] .leaf .leaf) .leaf)) (.seq [] (.reg [0, 1, 2, 3, 5, 6, 7, 8, 4, 9, 10, 11, 12, 13, 14, 15, 16] []) (.seq [12] (.seq [] .leaf (.cond (.seq [] .leaf .leaf) .leaf)) (.seq [] .leaf .leaf))))))))))
def A_sess_Desk_Login (l : List V) : M V := match l with | [x0, x1, x2] => F_sess_Desk_Login x0 x1 x2 | _ => fail
theorem e_sess_Desk_Login (x0 x1 x2 : V) : funM Tryz.prog (ovr [(fid_sess_shelf_sess_challenge_get, A_sess_shelf_sess_challenge_get), (fid_sess_shelf_sess_challenge_drop, A_sess_shelf_sess_challenge_drop), (fid_sess_Prove, A_sess_Prove), (fid_mac_Equal, A_mac_Equal), (fid_sess_shelf_sess_session_put, A_sess_shelf_sess_session_put)] noC) fid_sess_Desk_Login h_sess_Desk_Login [x0, x1, x2] = F_sess_Desk_Login x0 x1 x2 := by kernel_rfl
theorem K_sess_Desk_Login : Known Tryz.prog fid_sess_Desk_Login (A_sess_Desk_Login) := known_of (σ := ovr [(fid_sess_shelf_sess_challenge_get, A_sess_shelf_sess_challenge_get), (fid_sess_shelf_sess_challenge_drop, A_sess_shelf_sess_challenge_drop), (fid_sess_Prove, A_sess_Prove), (fid_mac_Equal, A_mac_Equal), (fid_sess_shelf_sess_session_put, A_sess_shelf_sess_session_put)] noC) (hint := h_sess_Desk_Login) (by kernel_rfl) (simAll_ovr K_sess_shelf_sess_challenge_get (simAll_ovr K_sess_shelf_sess_challenge_drop (simAll_ovr K_sess_Prove (simAll_ovr K_mac_Equal (simAll_ovr K_sess_shelf_sess_session_put simAll_nil0))))) fun l H r H' h => by
  unfold A_sess_Desk_Login at h; split at h
  · rw [e_sess_Desk_Login]; exact h
  · exact (fail_ne h).elim

/-! ### capstan/capstanlaw25.desk -/
def law25_desk_k0 (G_strings_IndexRune : List V → M V) (vs : List V) : M Out :=
  bnd (A_sess_Desk_Hello [(at_ vs 0), (Value.string ⟨#[97, 110, 110]⟩), (Value.string ⟨#[115, 105, 120, 116, 101, 101, 110, 32, 98, 121, 116, 101, 115, 32, 33, 33]⟩)]) fun x28 =>
  bnd (lift (ext 0 x28)) fun x29 =>
  bnd (lift (ext 1 x28)) fun x30 =>
  bnd (A_sess_Prove [(Value.string ⟨#[48, 49, 50, 51, 52, 53, 54, 55, 56, 57, 97, 98, 99, 100, 101, 102]⟩), (Value.string ⟨#[115, 105, 120, 116, 101, 101, 110, 32, 98, 121, 116, 101, 115, 32, 33, 33]⟩), x29]) fun x33 =>
  bnd (lift (ext 0 x33)) fun x34 =>
  bnd (lift (ext 1 x33)) fun x35 =>
  bnd (A_sess_Desk_Login [(at_ vs 0), x29, x34]) fun x40 =>
  bnd (lift (ext 0 x40)) fun x41 =>
  bnd (lift (ext 1 x40)) fun x42 =>
  bnd (lift (bin .eql x29 (Value.int .i64 1))) fun x46 =>
  bnd (gd x46 true (lift (some x30))) fun x48 =>
  bnd (gd x46 true (lift (bin .eql x48 (Value.int .i64 0)))) fun x49 =>
  bnd (lift (pickV x46 x49 (Value.bool false))) fun x50 =>
  bnd (gd x50 true (lift (some x41))) fun x52 =>
  bnd (gd x50 true (lift (bin .eql x52 (Value.int .i64 1)))) fun x53 =>
  bnd (lift (pickV x50 x53 (Value.bool false))) fun x54 =>
  bnd (gd x54 true (lift (some x42))) fun x56 =>
  bnd (gd x54 true (lift (bin .eql x56 (Value.int .i64 0)))) fun x57 =>
  bnd (lift (pickV x54 x57 (Value.bool false))) fun x58 =>
  ret (.ret [(at_ vs 0), x35, x58])
def F_law25_desk (G_strings_IndexRune : List V → M V) (x0 : V) : M V :=
  bnd (
    bnd (lift (build [Value.string ⟨#[]⟩, Value.string ⟨#[]⟩, Value.slice none 0 0] [(0, 1, (Value.string ⟨#[97, 110, 110]⟩)), (1, 1, (Value.string ⟨#[48, 49, 50, 51, 52, 53, 54, 55, 56, 57, 97, 98, 99, 100, 101, 102]⟩))])) fun x13 =>
    bnd (lift (build [Value.string ⟨#[]⟩, Value.string ⟨#[]⟩, Value.slice none 0 0] [(0, 1, (Value.string ⟨#[98, 111, 98]⟩)), (1, 1, (Value.string ⟨#[48, 49, 50, 51, 52, 53, 54, 55, 56, 57, 97, 98, 99, 100, 101, 102, 48, 49, 50, 51, 52, 53, 54, 55, 56, 57, 97, 98, 99, 100, 101, 102]⟩))])) fun x14 =>
    bnd (bslc 3 2 (rep 2 [Value.string ⟨#[]⟩, Value.string ⟨#[]⟩, Value.slice none 0 0]) [(0, 3, x13), (3, 3, x14)]) fun x15 =>
    bnd ((A_sess_New G_strings_IndexRune) [x15, (Value.int .i64 1), x0]) fun x17 =>
    bnd (lift (ext 0 x17)) fun x18 =>
    bnd (lift (ext 1 x17)) fun x19 =>
    bnd (
      bnd (lift (notIf false (isNil .p x18))) fun x21 =>
      bnd (gd x21 false (lift (some x19))) fun x23 =>
      bnd (gd x21 false (lift (bin .neq x23 (Value.int .i64 0)))) fun x24 =>
      bnd (lift (pickV x21 (Value.bool true) x24)) fun x25 =>
      condM x25 (
        ret (.ret [(Value.pointer none), (Value.string ⟨#[]⟩), (Value.bool false)])
        ) (
        ret (.nxt [x18])
        )
      ) fun o => nx o (law25_desk_k0 G_strings_IndexRune)
    ) fun o => finM o fun vs => ret (outV [(at_ vs 0), (at_ vs 1), (at_ vs 2)])
def h_law25_desk : Hint := (.seq [] .leaf (.seq [] .leaf (.seq [5] (.seq [] .leaf (.cond (.seq [] .leaf .leaf) .leaf)) (.seq [] .leaf (.seq [] .leaf (.seq [] .leaf (.seq [] .leaf .leaf)))))))
def A_law25_desk (G_strings_IndexRune : List V → M V) (l : List V) : M V := match l with | [x0] => F_law25_desk G_strings_IndexRune x0 | _ => fail
theorem e_law25_desk (G_strings_IndexRune : List V → M V) (x0 : V) : funM Tryz.prog (ovr [(fid_sess_New, A_sess_New G_strings_IndexRune), (fid_sess_Desk_Hello, A_sess_Desk_Hello), (fid_sess_Prove, A_sess_Prove), (fid_sess_Desk_Login, A_sess_Desk_Login)] noC) fid_law25_desk h_law25_desk [x0] = F_law25_desk G_strings_IndexRune x0 := by kernel_rfl
theorem K_law25_desk {G_strings_IndexRune : List V → M V} (k_strings_IndexRune : Known Tryz.prog fid_strings_IndexRune G_strings_IndexRune) : Known Tryz.prog fid_law25_desk (A_law25_desk G_strings_IndexRune) := known_of (σ := ovr [(fid_sess_New, A_sess_New G_strings_IndexRune), (fid_sess_Desk_Hello, A_sess_Desk_Hello), (fid_sess_Prove, A_sess_Prove), (fid_sess_Desk_Login, A_sess_Desk_Login)] noC) (hint := h_law25_desk) (by kernel_rfl) (simAll_ovr (K_sess_New k_strings_IndexRune) (simAll_ovr K_sess_Desk_Hello (simAll_ovr K_sess_Prove (simAll_ovr K_sess_Desk_Login simAll_nil0)))) fun l H r H' h => by
  unfold A_law25_desk at h; split at h
  · rw [e_law25_desk]; exact h
  · exact (fail_ne h).elim

/-! ### (*capstan/sess.shelf[capstan/sess.session]).get -/
def sess_shelf_sess_session_get_k0 (vs : List V) : M Out :=
  bnd (lift (nilck (at_ vs 0))) fun x15 =>
  bnd (lift (faddr 2 x15)) fun x16 =>
  bnd (ld1 x16) fun x17 =>
  bnd (lift (iaddrS 6 x17 (at_ vs 1))) fun x19 =>
  ret (.ret [x19])
def F_sess_shelf_sess_session_get (x0 x1 : V) : M V :=
  bnd (
    bnd (lift (nilck x0)) fun x7 =>
    bnd (lift (faddr 1 x7)) fun x8 =>
    bnd (ld1 x8) fun x9 =>
    bnd (A_slices_Index_S_int_int [x9, x1]) fun x11 =>
    bnd (
      bnd (lift (bin .lss x11 (Value.int .i64 0))) fun x13 =>
      condM x13 (
        ret (.ret [(Value.pointer none)])
        ) (
        ret (.nxt [x0, x11])
        )
      ) fun o => nx o sess_shelf_sess_session_get_k0
    ) fun o => finM o fun vs => ret (outV [(at_ vs 0)])
def h_sess_shelf_sess_session_get : Hint := (.seq [] .leaf (.seq [] .leaf (.seq [0, 5] (.seq [] .leaf (.cond (.seq [] .leaf .leaf) .leaf)) (.seq [] .leaf .leaf))))
def A_sess_shelf_sess_session_get (l : List V) : M V := match l with | [x0, x1] => F_sess_shelf_sess_session_get x0 x1 | _ => fail
theorem e_sess_shelf_sess_session_get (x0 x1 : V) : funM Tryz.prog (ovr [(fid_slices_Index_S_int_int, A_slices_Index_S_int_int)] noC) fid_sess_shelf_sess_session_get h_sess_shelf_sess_session_get [x0, x1] = F_sess_shelf_sess_session_get x0 x1 := by kernel_rfl
theorem K_sess_shelf_sess_session_get : Known Tryz.prog fid_sess_shelf_sess_session_get (A_sess_shelf_sess_session_get) := known_of (σ := ovr [(fid_slices_Index_S_int_int, A_slices_Index_S_int_int)] noC) (hint := h_sess_shelf_sess_session_get) (by kernel_rfl) (simAll_ovr K_slices_Index_S_int_int simAll_nil0) fun l H r H' h => by
  unfold A_sess_shelf_sess_session_get at h; split at h
  · rw [e_sess_shelf_sess_session_get]; exact h
  · exact (fail_ne h).elim

/-! ### (*capstan/sess.shelf[capstan/sess.session]).drop$1 -/
def F_sess_shelf_sess_session_drop_1 (x0 x1 x2 : V) : M V :=
  bnd (
    bnd (boxv x1) fun x4 =>
    bnd (ld1 x2) fun x7 =>
    bnd (lift (bin .neq x0 x7)) fun x8 =>
    ret (.ret [x8])
    ) fun o => finM o fun vs => ret (outV [(at_ vs 0)])
def h_sess_shelf_sess_session_drop_1 : Hint := (.seq [] .leaf (.seq [] .leaf .leaf))
def A_sess_shelf_sess_session_drop_1 (l : List V) : M V := match l with | [x0, x1, x2] => F_sess_shelf_sess_session_drop_1 x0 x1 x2 | _ => fail
theorem e_sess_shelf_sess_session_drop_1 (x0 x1 x2 : V) : funM Tryz.prog (ovr [] noC) fid_sess_shelf_sess_session_drop_1 h_sess_shelf_sess_session_drop_1 [x0, x1, x2] = F_sess_shelf_sess_session_drop_1 x0 x1 x2 := by kernel_rfl
theorem K_sess_shelf_sess_session_drop_1 : Known Tryz.prog fid_sess_shelf_sess_session_drop_1 (A_sess_shelf_sess_session_drop_1) := known_of (σ := ovr [] noC) (hint := h_sess_shelf_sess_session_drop_1) (by kernel_rfl) simAll_nil0 fun l H r H' h => by
  unfold A_sess_shelf_sess_session_drop_1 at h; split at h
  · rw [e_sess_shelf_sess_session_drop_1]; exact h
  · exact (fail_ne h).elim

/-! ### (*capstan/sess.shelf[capstan/sess.session]).keep -/
def sess_shelf_sess_session_keep_k0 (S : Calls') (vs_3 : List V) : M Out :=
  bnd (lift (bin .add (at_ vs_3 6) (Value.int .i64 1))) fun x42 =>
  ret (.nxt [(at_ vs_3 0), (at_ vs_3 1), (at_ vs_3 2), (at_ vs_3 3), (at_ vs_3 4), (at_ vs_3 5), x42])
def sess_shelf_sess_session_keep_k1 (S : Calls') (vs_2 : List V) : M Out :=
  bnd (
  bnd (
    bnd (lift (iaddrS 6 (at_ vs_2 4) (at_ vs_2 6))) fun x16 =>
    bnd (ldn 6 x16) fun x17 =>
    bnd (newc [Value.string ⟨#[]⟩, Value.string ⟨#[]⟩, Value.slice none 0 0, Value.string ⟨#[]⟩, Value.int .i64 0, Value.int .i64 0]) fun x7 =>
    bnd (stn 6 x7 x17) fun _ =>
    bnd (lift (nilck (at_ vs_2 0))) fun x20 =>
    bnd (lift (faddr 1 x20)) fun x21 =>
    bnd (ld1 x21) fun x22 =>
    bnd (lift (iaddrS 1 x22 (at_ vs_2 6))) fun x24 =>
    bnd (ld1 x24) fun x25 =>
    bnd (ldn 6 x7) fun x26 =>
    bnd (callM (ovr [] S) (at_ vs_2 1) [x25, x26]) fun x27 =>
    condM x27 (
      withResv 2 fun base h0 =>
      bnd (lift (nilck (at_ vs_2 0))) fun x30 =>
      bnd (lift (faddr 1 x30)) fun x31 =>
      bnd (ld1 x31) fun x32 =>
      bnd (lift (iaddrS 1 x32 (at_ vs_2 6))) fun x34 =>
      bnd (ld1 x34) fun x35 =>
      bnd (ldn 6 x7) fun x39 =>
      bnd (flt (base + 0) (bslc 1 1 (rep 1 [Value.int .i64 0]) [(0, 1, x35)])) fun x36 =>
      bndH (appV 1 8 (at_ vs_2 2) x36) fun ha x37 h1 =>
      need (freeIn ha [base + 1] && freeIn h1 [base + 1]) <|
      bnd (flt (base + 1) (bslc 6 1 (rep 1 [Value.string ⟨#[]⟩, Value.string ⟨#[]⟩, Value.slice none 0 0, Value.string ⟨#[]⟩, Value.int .i64 0, Value.int .i64 0]) [(0, 6, x39)])) fun x40 =>
      bndH (appV 6 88 (at_ vs_2 3) x40) fun ha_2 x41 h2 =>
      need (chk (ldn 6 x7) h1 x39) <|
      ret (.nxt [(at_ vs_2 0), (at_ vs_2 1), x37, x41, (at_ vs_2 4), (at_ vs_2 5), (at_ vs_2 6)])
      ) (
      ret (.nxt [(at_ vs_2 0), (at_ vs_2 1), (at_ vs_2 2), (at_ vs_2 3), (at_ vs_2 4), (at_ vs_2 5), (at_ vs_2 6)])
      )
    ) fun o => ret (unblk 1 o)
  ) fun o => nx o (sess_shelf_sess_session_keep_k0 S)
def sess_shelf_sess_session_keep_l2 (S : Calls') (vs : List V) : M Out :=
  bnd (lift (bin .lss (at_ vs 6) (at_ vs 5))) fun x14 =>
  bnd (
  condM x14 (
    ret (.nxt [(at_ vs 0), (at_ vs 1), (at_ vs 2), (at_ vs 3), (at_ vs 4), (at_ vs 5), (at_ vs 6)])
    ) (
    ret (.brk 0 [(at_ vs 0), (at_ vs 2), (at_ vs 3)])
    )
  ) fun o => nx o (sess_shelf_sess_session_keep_k1 S)
def sess_shelf_sess_session_keep_k3 (S : Calls') (vs_4 : List V) : M Out :=
  bnd (lift (nilck (at_ vs_4 0))) fun x47 =>
  bnd (lift (faddr 1 x47)) fun x48 =>
  bnd (st1 x48 (at_ vs_4 1)) fun _ =>
  bnd (lift (nilck (at_ vs_4 0))) fun x49 =>
  bnd (lift (faddr 2 x49)) fun x50 =>
  bnd (st1 x50 (at_ vs_4 2)) fun _ =>
  ret (.nxt [])
def F_sess_shelf_sess_session_keep (S : Calls') (x0 x1 : V) : M V :=
  bnd (
    bnd (
      bnd (lift (nilck x0)) fun x9 =>
      bnd (lift (faddr 2 x9)) fun x10 =>
      bnd (ld1 x10) fun x11 =>
      bnd (lift (lenSlc x11)) fun x12 =>
      bnd (
        loopM FUEL (sess_shelf_sess_session_keep_l2 S) [x0, x1, (Value.slice none 0 0), (Value.slice none 0 0), x11, x12, (Value.int .i64 0)]
        ) fun o => ret (unblk 0 o)
      ) fun o => nx o (sess_shelf_sess_session_keep_k3 S)
    ) fun o => finM o fun vs => ret (outV [])
def h_sess_shelf_sess_session_keep : Hint := (.seq [] .leaf (.seq [] .leaf (.seq [0, 4, 5] (.seq [] .leaf (.blk (.loop [0, 1, 4, 5, 11, 12, 13] (.seq [] .leaf (.seq [0, 1, 4, 5, 11, 12, 13] (.cond .leaf .leaf) (.seq [0, 1, 4, 5, 11, 12, 13] (.blk (.seq [] .leaf (.seq [] (.reg [0, 1, 2, 3, 5, 4, 6, 7, 8, 9] []) (.cond (.reg [0, 1, 2, 3, 5, 10, 4, 6, 7, 11, 8, 9, 12, 13, 14, 15] [8, 12]) .leaf)))) .leaf)))))) .leaf)))
def A_sess_shelf_sess_session_keep (S : Calls') (l : List V) : M V := match l with | [x0, x1] => F_sess_shelf_sess_session_keep S x0 x1 | _ => fail
theorem e_sess_shelf_sess_session_keep (S : Calls') (x0 x1 : V) : funM Tryz.prog (ovr [] S) fid_sess_shelf_sess_session_keep h_sess_shelf_sess_session_keep [x0, x1] = F_sess_shelf_sess_session_keep S x0 x1 := by kernel_rfl
theorem K_sess_shelf_sess_session_keep {S : Calls'} (hS : SimAll Tryz.prog S) : Known Tryz.prog fid_sess_shelf_sess_session_keep (A_sess_shelf_sess_session_keep S) := known_of (σ := ovr [] S) (hint := h_sess_shelf_sess_session_keep) (by kernel_rfl) (simAll_base hS) fun l H r H' h => by
  unfold A_sess_shelf_sess_session_keep at h; split at h
  · rw [e_sess_shelf_sess_session_keep]; exact h
  · exact (fail_ne h).elim

/-! ### (*capstan/sess.shelf[capstan/sess.session]).drop -/
def F_sess_shelf_sess_session_drop (x0 x1 : V) : M V :=
  bnd (
    bnd (boxv x1) fun x3 =>
    bnd (lift (some (Value.func (.func fid_sess_shelf_sess_session_drop_1) #[] #[x3]))) fun x5 =>
    bnd ((A_sess_shelf_sess_session_keep (ovr [(fid_sess_shelf_sess_session_drop_1, A_sess_shelf_sess_session_drop_1)] noC)) [x0, x5]) fun x6 =>
    ret (.nxt [])
    ) fun o => finM o fun vs => ret (outV [])
def h_sess_shelf_sess_session_drop : Hint := (.seq [] .leaf .leaf)
def A_sess_shelf_sess_session_drop (l : List V) : M V := match l with | [x0, x1] => F_sess_shelf_sess_session_drop x0 x1 | _ => fail
theorem e_sess_shelf_sess_session_drop (x0 x1 : V) : funM Tryz.prog (ovr [(fid_sess_shelf_sess_session_keep, A_sess_shelf_sess_session_keep (ovr [(fid_sess_shelf_sess_session_drop_1, A_sess_shelf_sess_session_drop_1)] noC))] noC) fid_sess_shelf_sess_session_drop h_sess_shelf_sess_session_drop [x0, x1] = F_sess_shelf_sess_session_drop x0 x1 := by kernel_rfl
theorem K_sess_shelf_sess_session_drop : Known Tryz.prog fid_sess_shelf_sess_session_drop (A_sess_shelf_sess_session_drop) := known_of (σ := ovr [(fid_sess_shelf_sess_session_keep, A_sess_shelf_sess_session_keep (ovr [(fid_sess_shelf_sess_session_drop_1, A_sess_shelf_sess_session_drop_1)] noC))] noC) (hint := h_sess_shelf_sess_session_drop) (by kernel_rfl) (simAll_ovr (K_sess_shelf_sess_session_keep (simAll_ovr K_sess_shelf_sess_session_drop_1 simAll_nil0)) simAll_nil0) fun l H r H' h => by
  unfold A_sess_shelf_sess_session_drop at h; split at h
  · rw [e_sess_shelf_sess_session_drop]; exact h
  · exact (fail_ne h).elim

/-! ### (*capstan/sess.Desk).Open -/
def sess_Desk_Open_k0 (G_errors_As : List V → M V) (vs_6 : List V) : M Out :=
  ret (.ret [(at_ vs_6 0), (at_ vs_6 1), (at_ vs_6 2), (Value.int .i64 0)])
def sess_Desk_Open_k1 (G_errors_As : List V → M V) (vs_5 : List V) : M Out :=
  bnd (lift (nilck (at_ vs_5 3))) fun x68 =>
  bnd (lift (faddr 4 x68)) fun x69 =>
  bnd (ld1 x69) fun x70 =>
  bnd (lift (bin .add x70 (Value.int .i64 1))) fun x71 =>
  bnd (lift (nilck (at_ vs_5 3))) fun x72 =>
  bnd (lift (faddr 4 x72)) fun x73 =>
  bnd (st1 x73 x71) fun _ =>
  bnd (lift (nilck (at_ vs_5 0))) fun x76 =>
  bnd (lift (faddr 2 x76)) fun x77 =>
  bnd (ld1 x77) fun x78 =>
  bnd (lift (nilck (at_ vs_5 3))) fun x79 =>
  bnd (lift (faddr 5 x79)) fun x80 =>
  bnd (st1 x80 x78) fun _ =>
  bnd (lift (nilck (at_ vs_5 3))) fun x82 =>
  bnd (lift (faddr 0 x82)) fun x83 =>
  bnd (lift (faddr 0 x83)) fun x84 =>
  bnd (ld1 x84) fun x85 =>
  bnd (
    bnd (lift (nilck (at_ vs_5 3))) fun x87 =>
    bnd (lift (faddr 4 x87)) fun x88 =>
    bnd (ld1 x88) fun x89 =>
    bnd (lift (bin .gtr x89 (Value.int .i64 1073741824))) fun x90 =>
    condM x90 (
      bnd (lift (nilck (at_ vs_5 0))) fun x92 =>
      bnd (lift (faddr 6 x92)) fun x93 =>
      bnd (A_sess_shelf_sess_session_drop [x93, (at_ vs_5 1)]) fun x95 =>
      ret (.nxt [(at_ vs_5 1), x85, (at_ vs_5 2)])
      ) (
      ret (.nxt [(at_ vs_5 1), x85, (at_ vs_5 2)])
      )
    ) fun o => nx o (sess_Desk_Open_k0 G_errors_As)
def sess_Desk_Open_k2 (G_errors_As : List V → M V) (vs_4 : List V) : M Out :=
  bnd (
    bnd (lift (nilck (at_ vs_4 4))) fun x63 =>
    bnd (lift (faddr 4 x63)) fun x64 =>
    bnd (ld1 x64) fun x65 =>
    bnd (lift (bin .neq (at_ vs_4 2) x65)) fun x66 =>
    condM x66 (
      ret (.ret [(Value.int .i64 0), (Value.string ⟨#[]⟩), (Value.slice none 0 0), (Value.int .i64 250)])
      ) (
      ret (.nxt [(at_ vs_4 0), (at_ vs_4 1), (at_ vs_4 3), (at_ vs_4 4)])
      )
    ) fun o => nx o (sess_Desk_Open_k1 G_errors_As)
def sess_Desk_Open_k3 (G_errors_As : List V → M V) (vs_3 : List V) : M Out :=
  bnd (
    bnd (lift (nilck (at_ vs_3 5))) fun x51 =>
    bnd (lift (faddr 3 x51)) fun x52 =>
    bnd (ld1 x52) fun x53 =>
    bnd (A_mac_Open [x53, (at_ vs_3 1)]) fun x55 =>
    bnd (lift (ext 0 x55)) fun x56 =>
    bnd (lift (ext 1 x55)) fun x57 =>
    bnd (lift (bin .neq x57 (Value.int .i64 0))) fun x59 =>
    condM x59 (
      ret (.ret [(Value.int .i64 0), (Value.string ⟨#[]⟩), (Value.slice none 0 0), x57])
      ) (
      ret (.nxt [(at_ vs_3 0), (at_ vs_3 2), (at_ vs_3 3), (at_ vs_3 4), (at_ vs_3 5)])
      )
    ) fun o => nx o (sess_Desk_Open_k2 G_errors_As)
def sess_Desk_Open_k4 (G_errors_As : List V → M V) (vs_2 : List V) : M Out :=
  bnd (lift (nilck (at_ vs_2 0))) fun x43 =>
  bnd (lift (faddr 6 x43)) fun x44 =>
  bnd (A_sess_shelf_sess_session_get [x44, (at_ vs_2 2)]) fun x46 =>
  bnd (
    bnd (lift (notIf false (isNil .p x46))) fun x48 =>
    condM x48 (
      ret (.ret [(Value.int .i64 0), (Value.string ⟨#[]⟩), (Value.slice none 0 0), (Value.int .i64 251)])
      ) (
      ret (.nxt [(at_ vs_2 0), (at_ vs_2 1), (at_ vs_2 2), (at_ vs_2 3), (at_ vs_2 4), x46])
      )
    ) fun o => nx o (sess_Desk_Open_k3 G_errors_As)
def sess_Desk_Open_k5 (G_errors_As : List V → M V) (vs : List V) : M Out :=
  bnd (lift (lenStr (at_ vs 1))) fun x22 =>
  bnd (lift (bin .sub x22 (Value.int .i64 32))) fun x23 =>
  bnd (lift (subS (at_ vs 1) none (some x23))) fun x24 =>
  bnd ((A_wire_Decode G_errors_As) [x24]) fun x25 =>
  bnd (lift (ext 0 x25)) fun x26 =>
  bnd (lift (ext 1 x25)) fun x27 =>
  bnd (newc [Value.int .i64 0, Value.int .i64 0]) fun x9 =>
  bnd (stn 2 x9 x27) fun _ =>
  bnd (A_sess_numbers [x26]) fun x30 =>
  bnd (lift (ext 0 x30)) fun x31 =>
  bnd (lift (ext 1 x30)) fun x32 =>
  bnd (lift (ext 2 x30)) fun x33 =>
  bnd (lift (ext 3 x30)) fun x34 =>
  bnd (
    bnd (ldn 2 x9) fun x35 =>
    bnd (lift (build [Value.int .i64 0, Value.int .i64 0] [])) fun x36 =>
    bnd (lift (notIf true (eqAgg [.i, .i] x35 x36))) fun x37 =>
    bnd (gd x37 false (lift (some x34))) fun x39 =>
    bnd (gd x37 false (lift (un .not x39))) fun x40 =>
    bnd (lift (pickV x37 (Value.bool true) x40)) fun x41 =>
    condM x41 (
      ret (.ret [(Value.int .i64 0), (Value.string ⟨#[]⟩), (Value.slice none 0 0), (Value.int .i64 3)])
      ) (
      ret (.nxt [(at_ vs 0), (at_ vs 1), x31, x32, x33])
      )
    ) fun o => nx o (sess_Desk_Open_k4 G_errors_As)
def F_sess_Desk_Open (G_errors_As : List V → M V) (x0 x1 : V) : M V :=
  bnd (
    bnd (
      bnd (lift (lenStr x1)) fun x17 =>
      bnd (lift (bin .lss x17 (Value.int .i64 32))) fun x18 =>
      condM x18 (
        ret (.ret [(Value.int .i64 0), (Value.string ⟨#[]⟩), (Value.slice none 0 0), (Value.int .i64 3)])
        ) (
        ret (.nxt [x0, x1])
        )
      ) fun o => nx o (sess_Desk_Open_k5 G_errors_As)
    ) fun o => finM o fun vs => ret (outV [(at_ vs 0), (at_ vs 1), (at_ vs 2), (at_ vs 3)])
def h_sess_Desk_Open : Hint := (.seq [] .leaf (.seq [0, 1] (.seq [] .leaf (.cond (.seq [] .leaf .leaf) .leaf)) (.seq [] .leaf (.seq [] .leaf (.seq [0, 1, 4, 10, 11] (.seq [] .leaf (.cond (.seq [] .leaf .leaf) .leaf)) (.seq [] .leaf (.seq [0, 1, 4, 10, 11, 13] (.seq [] .leaf (.cond (.seq [] .leaf .leaf) .leaf)) (.seq [0, 4, 10, 11, 13] (.seq [] .leaf (.seq [] .leaf (.cond (.seq [] .leaf .leaf) .leaf))) (.seq [0, 4, 11, 13] (.seq [] .leaf (.cond (.seq [] .leaf .leaf) .leaf)) (.seq [] .leaf (.seq [] .leaf (.seq [] .leaf (.seq [4, 5, 11] (.seq [] .leaf (.cond .leaf .leaf)) (.seq [] .leaf .leaf))))))))))))))
def A_sess_Desk_Open (G_errors_As : List V → M V) (l : List V) : M V := match l with | [x0, x1] => F_sess_Desk_Open G_errors_As x0 x1 | _ => fail
theorem e_sess_Desk_Open (G_errors_As : List V → M V) (x0 x1 : V) : funM Tryz.prog (ovr [(fid_wire_Decode, A_wire_Decode G_errors_As), (fid_sess_numbers, A_sess_numbers), (fid_sess_shelf_sess_session_get, A_sess_shelf_sess_session_get), (fid_mac_Open, A_mac_Open), (fid_sess_shelf_sess_session_drop, A_sess_shelf_sess_session_drop)] noC) fid_sess_Desk_Open h_sess_Desk_Open [x0, x1] = F_sess_Desk_Open G_errors_As x0 x1 := by kernel_rfl
theorem K_sess_Desk_Open {G_errors_As : List V → M V} (k_errors_As : Known Tryz.prog fid_errors_As G_errors_As) : Known Tryz.prog fid_sess_Desk_Open (A_sess_Desk_Open G_errors_As) := known_of (σ := ovr [(fid_wire_Decode, A_wire_Decode G_errors_As), (fid_sess_numbers, A_sess_numbers), (fid_sess_shelf_sess_session_get, A_sess_shelf_sess_session_get), (fid_mac_Open, A_mac_Open), (fid_sess_shelf_sess_session_drop, A_sess_shelf_sess_session_drop)] noC) (hint := h_sess_Desk_Open) (by kernel_rfl) (simAll_ovr (K_wire_Decode k_errors_As) (simAll_ovr K_sess_numbers (simAll_ovr K_sess_shelf_sess_session_get (simAll_ovr K_mac_Open (simAll_ovr K_sess_shelf_sess_session_drop simAll_nil0))))) fun l H r H' h => by
  unfold A_sess_Desk_Open at h; split at h
  · rw [e_sess_Desk_Open]; exact h
  · exact (fail_ne h).elim

/-! ### capstan/capstanlaw25.works -/
def law25_works_k0 (G_strings_IndexRune : List V → M V) (G_errors_As : List V → M V) (vs : List V) : M Out :=
  bnd (lift (build [Value.bool false, Value.int .i64 0, Value.string ⟨#[]⟩] [(1, 1, (Value.int .i64 7))])) fun x23 =>
  bnd (bslc 3 1 (rep 1 [Value.bool false, Value.int .i64 0, Value.string ⟨#[]⟩]) [(0, 3, x23)]) fun x24 =>
  bnd (A_sess_Message [(at_ vs 1), (Value.int .i64 1), (Value.int .i64 1), x24]) fun x25 =>
  bnd (lift (ext 0 x25)) fun x26 =>
  bnd (lift (ext 1 x25)) fun x27 =>
  bnd ((A_sess_Desk_Open G_errors_As) [(at_ vs 0), x26]) fun x31 =>
  bnd (lift (ext 0 x31)) fun x32 =>
  bnd (lift (ext 1 x31)) fun x33 =>
  bnd (lift (ext 2 x31)) fun x34 =>
  bnd (lift (ext 3 x31)) fun x35 =>
  bnd ((A_sess_Desk_Open G_errors_As) [(at_ vs 0), x26]) fun x39 =>
  bnd (lift (ext 0 x39)) fun x40 =>
  bnd (lift (ext 1 x39)) fun x41 =>
  bnd (lift (ext 2 x39)) fun x42 =>
  bnd (lift (ext 3 x39)) fun x43 =>
  bnd (lift (bin .eql x27 (Value.int .i64 0))) fun x45 =>
  bnd (gd x45 true (lift (some x32))) fun x47 =>
  bnd (gd x45 true (lift (bin .eql x47 (Value.int .i64 1)))) fun x48 =>
  bnd (lift (pickV x45 x48 (Value.bool false))) fun x49 =>
  bnd (gd x49 true (lift (some x33))) fun x51 =>
  bnd (gd x49 true (lift (bin .eql x51 (Value.string ⟨#[97, 110, 110]⟩)))) fun x52 =>
  bnd (lift (pickV x49 x52 (Value.bool false))) fun x53 =>
  bnd (gd x53 true (lift (some x34))) fun x55 =>
  bnd (gd x53 true (lift (lenSlc x55))) fun x56 =>
  bnd (gd x53 true (lift (bin .eql x56 (Value.int .i64 1)))) fun x57 =>
  bnd (lift (pickV x53 x57 (Value.bool false))) fun x58 =>
  bnd (gd x58 true (lift (some x34))) fun x60 =>
  bnd (gd x58 true (lift (iaddrS 3 x60 (Value.int .i64 0)))) fun x61 =>
  bnd (gd x58 true (lift (faddr 1 x61))) fun x62 =>
  bnd (gd x58 true (ld1 x62)) fun x63 =>
  bnd (gd x58 true (lift (bin .eql x63 (Value.int .i64 7)))) fun x64 =>
  bnd (lift (pickV x58 x64 (Value.bool false))) fun x65 =>
  bnd (gd x65 true (lift (some x35))) fun x67 =>
  bnd (gd x65 true (lift (bin .eql x67 (Value.int .i64 0)))) fun x68 =>
  bnd (lift (pickV x65 x68 (Value.bool false))) fun x69 =>
  bnd (gd x69 true (lift (some x43))) fun x71 =>
  bnd (gd x69 true (lift (bin .eql x71 (Value.int .i64 250)))) fun x72 =>
  bnd (lift (pickV x69 x72 (Value.bool false))) fun x73 =>
  ret (.ret [x73])
def F_law25_works (G_strings_IndexRune : List V → M V) (G_errors_As : List V → M V) : M V :=
  bnd (
    bnd ((A_law25_desk G_strings_IndexRune) [(Value.int .i64 5)]) fun x15 =>
    bnd (lift (ext 0 x15)) fun x16 =>
    bnd (lift (ext 1 x15)) fun x17 =>
    bnd (lift (ext 2 x15)) fun x18 =>
    bnd (
      bnd (lift (un .not x18)) fun x20 =>
      condM x20 (
        ret (.ret [(Value.bool false)])
        ) (
        ret (.nxt [x16, x17])
        )
      ) fun o => nx o (law25_works_k0 G_strings_IndexRune G_errors_As)
    ) fun o => finM o fun vs => ret (outV [(at_ vs 0)])
def h_law25_works : Hint := (.seq [] .leaf (.seq [] .leaf (.seq [1, 2] (.seq [] .leaf (.cond (.seq [] .leaf .leaf) .leaf)) (.seq [] .leaf (.seq [] .leaf (.seq [] .leaf (.seq [] .leaf .leaf)))))))
def A_law25_works (G_strings_IndexRune : List V → M V) (G_errors_As : List V → M V) (l : List V) : M V := match l with | [] => F_law25_works G_strings_IndexRune G_errors_As  | _ => fail
theorem e_law25_works (G_strings_IndexRune : List V → M V) (G_errors_As : List V → M V) : funM Tryz.prog (ovr [(fid_law25_desk, A_law25_desk G_strings_IndexRune), (fid_sess_Message, A_sess_Message), (fid_sess_Desk_Open, A_sess_Desk_Open G_errors_As)] noC) fid_law25_works h_law25_works [] = F_law25_works G_strings_IndexRune G_errors_As  := by kernel_rfl
theorem K_law25_works {G_strings_IndexRune : List V → M V} {G_errors_As : List V → M V} (k_strings_IndexRune : Known Tryz.prog fid_strings_IndexRune G_strings_IndexRune) (k_errors_As : Known Tryz.prog fid_errors_As G_errors_As) : Known Tryz.prog fid_law25_works (A_law25_works G_strings_IndexRune G_errors_As) := known_of (σ := ovr [(fid_law25_desk, A_law25_desk G_strings_IndexRune), (fid_sess_Message, A_sess_Message), (fid_sess_Desk_Open, A_sess_Desk_Open G_errors_As)] noC) (hint := h_law25_works) (by kernel_rfl) (simAll_ovr (K_law25_desk k_strings_IndexRune) (simAll_ovr K_sess_Message (simAll_ovr (K_sess_Desk_Open k_errors_As) simAll_nil0))) fun l H r H' h => by
  unfold A_law25_works at h; split at h
  · rw [e_law25_works]; exact h
  · exact (fail_ne h).elim

/-! ### capstan/capstanlaw25.SessMakes -/
def F_law25_SessMakes (G_errors_As : List V → M V) (G_strings_IndexRune : List V → M V) (x0 x1 x2 : V) : M V :=
  bnd (
    bnd (boxv x0) fun x3 =>
    bnd (lift (faddr 0 x3)) fun x24 =>
    bnd (ld1 x24) fun x25 =>
    bnd (lift (faddr 1 x3)) fun x27 =>
    bnd (ld1 x27) fun x28 =>
    bnd (A_sess_Prove [x25, x1, x28]) fun x29 =>
    bnd (lift (ext 0 x29)) fun x30 =>
    bnd (lift (ext 1 x29)) fun x31 =>
    bnd (lift (faddr 0 x3)) fun x33 =>
    bnd (ld1 x33) fun x34 =>
    bnd (lift (faddr 1 x3)) fun x36 =>
    bnd (ld1 x36) fun x37 =>
    bnd (A_ref25_Prove [x34, x1, x37]) fun x38 =>
    bnd (lift (ext 0 x38)) fun x39 =>
    bnd (lift (ext 1 x38)) fun x40 =>
    bnd (lift (faddr 0 x3)) fun x42 =>
    bnd (ld1 x42) fun x43 =>
    bnd (lift (faddr 1 x3)) fun x44 =>
    bnd (ld1 x44) fun x45 =>
    bnd (lift (faddr 2 x3)) fun x46 =>
    bnd (ld1 x46) fun x47 =>
    bnd (lift (faddr 3 x3)) fun x48 =>
    bnd (ld1 x48) fun x49 =>
    bnd (A_sess_Message [x43, x45, x47, x49]) fun x50 =>
    bnd (lift (ext 0 x50)) fun x51 =>
    bnd (lift (ext 1 x50)) fun x52 =>
    bnd (lift (faddr 0 x3)) fun x54 =>
    bnd (ld1 x54) fun x55 =>
    bnd (lift (faddr 1 x3)) fun x56 =>
    bnd (ld1 x56) fun x57 =>
    bnd (lift (faddr 2 x3)) fun x58 =>
    bnd (ld1 x58) fun x59 =>
    bnd (lift (faddr 3 x3)) fun x60 =>
    bnd (ld1 x60) fun x61 =>
    bnd (A_ref25_Message [x55, x57, x59, x61]) fun x62 =>
    bnd (lift (ext 0 x62)) fun x63 =>
    bnd (lift (ext 1 x62)) fun x64 =>
    bnd (lift (faddr 0 x3)) fun x66 =>
    bnd (ld1 x66) fun x67 =>
    bnd ((A_sess_Read G_errors_As) [x67, x2]) fun x69 =>
    bnd (lift (ext 0 x69)) fun x70 =>
    bnd (lift (ext 1 x69)) fun x71 =>
    bnd (lift (ext 2 x69)) fun x72 =>
    bnd (lift (ext 3 x69)) fun x73 =>
    bnd (lift (faddr 0 x3)) fun x75 =>
    bnd (ld1 x75) fun x76 =>
    bnd (A_ref25_Read [x76, x2]) fun x78 =>
    bnd (lift (ext 0 x78)) fun x79 =>
    bnd (lift (ext 1 x78)) fun x80 =>
    bnd (lift (ext 2 x78)) fun x81 =>
    bnd (lift (ext 3 x78)) fun x82 =>
    bnd (lift (bin .eql x30 x39)) fun x85 =>
    bnd (gd x85 true (lift (some x31))) fun x87 =>
    bnd (gd x85 true (lift (some x40))) fun x88 =>
    bnd (gd x85 true (lift (bin .eql x87 x88))) fun x89 =>
    bnd (lift (pickV x85 x89 (Value.bool false))) fun x90 =>
    bnd (gd x90 true (lift (some x51))) fun x92 =>
    bnd (gd x90 true (lift (some x63))) fun x93 =>
    bnd (gd x90 true (lift (bin .eql x92 x93))) fun x94 =>
    bnd (lift (pickV x90 x94 (Value.bool false))) fun x95 =>
    bnd (gd x95 true (lift (some x52))) fun x97 =>
    bnd (gd x95 true (lift (some x64))) fun x98 =>
    bnd (gd x95 true (lift (bin .eql x97 x98))) fun x99 =>
    bnd (lift (pickV x95 x99 (Value.bool false))) fun x100 =>
    bnd (gd x100 true (lift (some x70))) fun x102 =>
    bnd (gd x100 true (lift (some x79))) fun x103 =>
    bnd (gd x100 true (lift (bin .eql x102 x103))) fun x104 =>
    bnd (lift (pickV x100 x104 (Value.bool false))) fun x105 =>
    bnd (gd x105 true (lift (some x71))) fun x107 =>
    bnd (gd x105 true (lift (some x80))) fun x108 =>
    bnd (gd x105 true (lift (bin .eql x107 x108))) fun x109 =>
    bnd (lift (pickV x105 x109 (Value.bool false))) fun x110 =>
    bnd (gd x110 true (lift (some x72))) fun x112 =>
    bnd (gd x110 true (lift (some x81))) fun x113 =>
    bnd (gd x110 true (A_book_SameItems [x112, x113])) fun x114 =>
    bnd (lift (pickV x110 x114 (Value.bool false))) fun x115 =>
    bnd (gd x115 true (lift (some x73))) fun x117 =>
    bnd (gd x115 true (lift (some x82))) fun x118 =>
    bnd (gd x115 true (lift (bin .eql x117 x118))) fun x119 =>
    bnd (lift (pickV x115 x119 (Value.bool false))) fun x120 =>
    bnd (gd x120 true ((A_law25_works G_strings_IndexRune G_errors_As) [])) fun x122 =>
    bnd (lift (pickV x120 x122 (Value.bool false))) fun x123 =>
    ret (.ret [x123])
    ) fun o => finM o fun vs => ret (outV [(at_ vs 0)])
def h_law25_SessMakes : Hint := (.seq [] .leaf (.seq [] .leaf (.seq [] .leaf (.seq [] .leaf (.seq [] .leaf (.seq [] .leaf (.seq [] .leaf (.seq [] .leaf .leaf))))))))
def A_law25_SessMakes (G_errors_As : List V → M V) (G_strings_IndexRune : List V → M V) (l : List V) : M V := match l with | [x0, x1, x2] => F_law25_SessMakes G_errors_As G_strings_IndexRune x0 x1 x2 | _ => fail
theorem e_law25_SessMakes (G_errors_As : List V → M V) (G_strings_IndexRune : List V → M V) (x0 x1 x2 : V) : funM Tryz.prog (ovr [(fid_sess_Prove, A_sess_Prove), (fid_ref25_Prove, A_ref25_Prove), (fid_sess_Message, A_sess_Message), (fid_ref25_Message, A_ref25_Message), (fid_sess_Read, A_sess_Read G_errors_As), (fid_ref25_Read, A_ref25_Read), (fid_book_SameItems, A_book_SameItems), (fid_law25_works, A_law25_works G_strings_IndexRune G_errors_As)] noC) fid_law25_SessMakes h_law25_SessMakes [x0, x1, x2] = F_law25_SessMakes G_errors_As G_strings_IndexRune x0 x1 x2 := by kernel_rfl
theorem K_law25_SessMakes {G_errors_As : List V → M V} {G_strings_IndexRune : List V → M V} (k_errors_As : Known Tryz.prog fid_errors_As G_errors_As) (k_strings_IndexRune : Known Tryz.prog fid_strings_IndexRune G_strings_IndexRune) : Known Tryz.prog fid_law25_SessMakes (A_law25_SessMakes G_errors_As G_strings_IndexRune) := known_of (σ := ovr [(fid_sess_Prove, A_sess_Prove), (fid_ref25_Prove, A_ref25_Prove), (fid_sess_Message, A_sess_Message), (fid_ref25_Message, A_ref25_Message), (fid_sess_Read, A_sess_Read G_errors_As), (fid_ref25_Read, A_ref25_Read), (fid_book_SameItems, A_book_SameItems), (fid_law25_works, A_law25_works G_strings_IndexRune G_errors_As)] noC) (hint := h_law25_SessMakes) (by kernel_rfl) (simAll_ovr K_sess_Prove (simAll_ovr K_ref25_Prove (simAll_ovr K_sess_Message (simAll_ovr K_ref25_Message (simAll_ovr (K_sess_Read k_errors_As) (simAll_ovr K_ref25_Read (simAll_ovr K_book_SameItems (simAll_ovr (K_law25_works k_strings_IndexRune k_errors_As) simAll_nil0)))))))) fun l H r H' h => by
  unfold A_law25_SessMakes at h; split at h
  · rw [e_law25_SessMakes]; exact h
  · exact (fail_ne h).elim

end Go.AM.Cap
