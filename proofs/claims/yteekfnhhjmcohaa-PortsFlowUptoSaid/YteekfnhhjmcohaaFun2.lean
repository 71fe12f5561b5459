/- Printed by amprint2.py: functions of Yteekfnhhjmcohaa on the abstract machine. -/
import Derived.Test.YteekfnhhjmcohaaFun
set_option linter.all false
set_option linter.unusedVariables false
set_option maxRecDepth 100000
namespace Go.AM.Cap
open Go.AM Go.Proofs


/-! ### capstan/capstanlaw20.PortsFlow -/
def F_law20_PortsFlow (G_slices_pdqsortOrdered_int : List V → M V) (x0 x1 : V) : M V :=
  bnd (
    bnd (bslc 5 0 (rep 0 [Value.int .i64 0, Value.int .i64 0, Value.int .i64 0, Value.int .i64 0, Value.int .i64 0]) []) fun x10 =>
    bnd (appV 5 40 x10 x0) fun x12 =>
    bnd ((A_ports_Flows G_slices_pdqsortOrdered_int) [x12, x1]) fun x14 =>
    bnd (lift (ext 0 x14)) fun x15 =>
    bnd (lift (ext 1 x14)) fun x16 =>
    bnd (A_ref20_Flows [x0, x1]) fun x20 =>
    bnd (lift (ext 0 x20)) fun x21 =>
    bnd (lift (ext 1 x20)) fun x22 =>
    bnd (A_book_SameInts [x15, x21]) fun x25 =>
    bnd (gd x25 true (lift (some x16))) fun x27 =>
    bnd (gd x25 true (lift (some x22))) fun x28 =>
    bnd (gd x25 true (lift (bin .eql x27 x28))) fun x29 =>
    bnd (lift (pickV x25 x29 (Value.bool false))) fun x30 =>
    bnd (gd x30 true (A_law20_works [])) fun x32 =>
    bnd (lift (pickV x30 x32 (Value.bool false))) fun x33 =>
    ret (.ret [x33])
    ) fun o => finM o fun vs => ret (outV [(at_ vs 0)])
def h_law20_PortsFlow : Hint := (.seq [] .leaf (.seq [] .leaf (.seq [] .leaf (.seq [] .leaf .leaf))))
def A_law20_PortsFlow (G_slices_pdqsortOrdered_int : List V → M V) (l : List V) : M V := match l with | [x0, x1] => F_law20_PortsFlow G_slices_pdqsortOrdered_int x0 x1 | _ => fail
theorem e_law20_PortsFlow (G_slices_pdqsortOrdered_int : List V → M V) (x0 x1 : V) : funM Try.prog (ovr [(fid_ports_Flows, A_ports_Flows G_slices_pdqsortOrdered_int), (fid_ref20_Flows, A_ref20_Flows), (fid_book_SameInts, A_book_SameInts), (fid_law20_works, A_law20_works)] noC) fid_law20_PortsFlow h_law20_PortsFlow [x0, x1] = F_law20_PortsFlow G_slices_pdqsortOrdered_int x0 x1 := by kernel_rfl
theorem K_law20_PortsFlow {G_slices_pdqsortOrdered_int : List V → M V} (k_slices_pdqsortOrdered_int : Known Try.prog fid_slices_pdqsortOrdered_int G_slices_pdqsortOrdered_int) : Known Try.prog fid_law20_PortsFlow (A_law20_PortsFlow G_slices_pdqsortOrdered_int) := known_of (σ := ovr [(fid_ports_Flows, A_ports_Flows G_slices_pdqsortOrdered_int), (fid_ref20_Flows, A_ref20_Flows), (fid_book_SameInts, A_book_SameInts), (fid_law20_works, A_law20_works)] noC) (hint := h_law20_PortsFlow) (by kernel_rfl) (simAll_ovr (K_ports_Flows k_slices_pdqsortOrdered_int) (simAll_ovr K_ref20_Flows (simAll_ovr K_book_SameInts (simAll_ovr K_law20_works simAll_nil0)))) fun l H r H' h => by
  unfold A_law20_PortsFlow at h; split at h
  · rw [e_law20_PortsFlow]; exact h
  · exact (fail_ne h).elim

/-! ### capstan/capstanlaw20.PortsApart -/
def law20_PortsApart_k0 (G_slices_pdqsortOrdered_int : List V → M V) (vs_5 : List V) : M Out :=
    bnd (lift (iaddrS 1 (at_ vs_5 4) (at_ vs_5 5))) fun x85 =>
    bnd (st1 x85 (Value.bool true)) fun _ =>
    ret (.nxt [(at_ vs_5 0), (at_ vs_5 1), (at_ vs_5 2), (at_ vs_5 3), (at_ vs_5 4), (at_ vs_5 6), (at_ vs_5 7), (at_ vs_5 8)])
def law20_PortsApart_k1 (G_slices_pdqsortOrdered_int : List V → M V) (vs_6 : List V) : M Out :=
  bnd (lift (bin .add (at_ vs_6 7) (Value.int .i64 1))) fun x86 =>
  ret (.nxt [(at_ vs_6 0), (at_ vs_6 1), (at_ vs_6 2), (at_ vs_6 3), (at_ vs_6 4), (at_ vs_6 5), (at_ vs_6 6), x86])
def law20_PortsApart_k2 (G_slices_pdqsortOrdered_int : List V → M V) (vs_4 : List V) : M Out :=
  bnd (
  bnd (
    bnd (lift (iaddrS 1 (at_ vs_4 5) (at_ vs_4 7))) fun x75 =>
    bnd (ld1 x75) fun x76 =>
    bnd (
      bnd (lift (bin .lss x76 (Value.int .i64 0))) fun x78 =>
      bnd (gd x78 false (lift (some x76))) fun x80 =>
      bnd (gd x78 false (lift (bin .geq x80 (Value.int .i64 8)))) fun x81 =>
      bnd (lift (pickV x78 (Value.bool true) x81)) fun x82 =>
      condM x82 (
        ret (.ret [(Value.bool false)])
        ) (
        ret (.nxt [(at_ vs_4 0), (at_ vs_4 1), (at_ vs_4 2), (at_ vs_4 3), (at_ vs_4 4), x76, (at_ vs_4 5), (at_ vs_4 6), (at_ vs_4 7)])
        )
      ) fun o => nx o (law20_PortsApart_k0 G_slices_pdqsortOrdered_int)
    ) fun o => ret (unblk 1 o)
  ) fun o => nx o (law20_PortsApart_k1 G_slices_pdqsortOrdered_int)
def law20_PortsApart_l3 (G_slices_pdqsortOrdered_int : List V → M V) (vs_3 : List V) : M Out :=
  bnd (lift (bin .lss (at_ vs_3 7) (at_ vs_3 6))) fun x74 =>
  bnd (
  condM x74 (
    ret (.nxt [(at_ vs_3 0), (at_ vs_3 1), (at_ vs_3 2), (at_ vs_3 3), (at_ vs_3 4), (at_ vs_3 5), (at_ vs_3 6), (at_ vs_3 7)])
    ) (
    ret (.brk 0 [(at_ vs_3 0), (at_ vs_3 1), (at_ vs_3 2), (at_ vs_3 3), (at_ vs_3 4)])
    )
  ) fun o => nx o (law20_PortsApart_k2 G_slices_pdqsortOrdered_int)
def law20_PortsApart_k4 (G_slices_pdqsortOrdered_int : List V → M V) (vs_10 : List V) : M Out :=
    bnd (ldn 4 (at_ vs_10 6)) fun x116 =>
    bnd (A_law20_do [(at_ vs_10 2), x116]) fun x117 =>
    bnd (lift (ext 0 x117)) fun x118 =>
    bnd (lift (ext 1 x117)) fun x119 =>
    bnd (lift (ext 2 x117)) fun x120 =>
    bnd (ldn 4 (at_ vs_10 6)) fun x123 =>
    bnd (A_law20_do [(at_ vs_10 3), x123]) fun x124 =>
    bnd (lift (ext 0 x124)) fun x125 =>
    bnd (lift (ext 1 x124)) fun x126 =>
    bnd (lift (ext 2 x124)) fun x127 =>
    bnd (lift (faddr 1 (at_ vs_10 6))) fun x128 =>
    bnd (ld1 x128) fun x129 =>
    bnd (lift (bin .geq x129 (Value.int .i64 0))) fun x130 =>
    bnd (gd x130 true (lift (faddr 1 (at_ vs_10 6)))) fun x132 =>
    bnd (gd x130 true (ld1 x132)) fun x133 =>
    bnd (gd x130 true (lift (bin .lss x133 (Value.int .i64 8)))) fun x134 =>
    bnd (lift (pickV x130 x134 (Value.bool false))) fun x135 =>
    bnd (gd x135 true (lift (some (at_ vs_10 4)))) fun x137 =>
    bnd (gd x135 true (lift (faddr 1 (at_ vs_10 6)))) fun x138 =>
    bnd (gd x135 true (ld1 x138)) fun x139 =>
    bnd (gd x135 true (lift (iaddrS 1 x137 x139))) fun x140 =>
    bnd (gd x135 true (ld1 x140)) fun x141 =>
    bnd (gd x135 true (lift (un .not x141))) fun x142 =>
    bnd (lift (pickV x135 x142 (Value.bool false))) fun x143 =>
    bnd (gd x143 true (lift (some x118))) fun x145 =>
    bnd (gd x143 true (lift (some x125))) fun x146 =>
    bnd (gd x143 true (lift (bin .neq x145 x146))) fun x147 =>
    bnd (gd x143 true (lift (some x147))) fun x148 =>
    bnd (gd x148 false (lift (some x119))) fun x149 =>
    bnd (gd x148 false (lift (some x126))) fun x150 =>
    bnd (gd x148 false (lift (bin .neq x149 x150))) fun x151 =>
    bnd (gd x143 true (lift (pickV x148 (Value.bool true) x151))) fun x152 =>
    bnd (gd x143 true (lift (some x152))) fun x153 =>
    bnd (gd x153 false (lift (some x120))) fun x154 =>
    bnd (gd x153 false (lift (some x127))) fun x155 =>
    bnd (gd x153 false (lift (bin .neq x154 x155))) fun x156 =>
    bnd (gd x143 true (lift (pickV x153 (Value.bool true) x156))) fun x157 =>
    bnd (lift (pickV x143 x157 (Value.bool false))) fun x158 =>
    condM x158 (
      ret (.ret [(Value.bool false)])
      ) (
      ret (.nxt [(at_ vs_10 0), (at_ vs_10 1), (at_ vs_10 2), (at_ vs_10 3), (at_ vs_10 4), (at_ vs_10 5)])
      )
def law20_PortsApart_k5 (G_slices_pdqsortOrdered_int : List V → M V) (vs_11 : List V) : M Out :=
  bnd (lift (bin .add (at_ vs_11 5) (Value.int .i64 1))) fun x96 =>
  ret (.nxt [(at_ vs_11 0), (at_ vs_11 1), (at_ vs_11 2), (at_ vs_11 3), (at_ vs_11 4), x96])
def law20_PortsApart_k6 (G_slices_pdqsortOrdered_int : List V → M V) (vs_9 : List V) : M Out :=
  bnd (
  bnd (
    bnd (lift (iaddrS 4 (at_ vs_9 0) (at_ vs_9 5))) fun x99 =>
    bnd (ldn 4 x99) fun x100 =>
    bnd (newc [Value.int .i64 0, Value.int .i64 0, Value.int .i64 0, Value.int .i64 0]) fun x17 =>
    bnd (stn 4 x17 x100) fun _ =>
    bnd (
      bnd (lift (faddr 0 x17)) fun x101 =>
      bnd (ld1 x101) fun x102 =>
      bnd (A_law20_among [x102, (Value.int .i64 4)]) fun x103 =>
      bnd (lift (bin .neq x103 (Value.int .i64 2))) fun x104 =>
      bnd (gd x104 true (lift (faddr 1 x17))) fun x106 =>
      bnd (gd x104 true (ld1 x106)) fun x107 =>
      bnd (gd x104 true (lift (some (at_ vs_9 1)))) fun x108 =>
      bnd (gd x104 true (lift (bin .eql x107 x108))) fun x109 =>
      bnd (lift (pickV x104 x109 (Value.bool false))) fun x110 =>
      condM x110 (
        bnd (ldn 4 x17) fun x112 =>
        bnd (A_law20_do [(at_ vs_9 2), x112]) fun x113 =>
        ret (.brk 3 [(at_ vs_9 0), (at_ vs_9 1), (at_ vs_9 2), (at_ vs_9 3), (at_ vs_9 4), (at_ vs_9 5)])
        ) (
        ret (.nxt [(at_ vs_9 0), (at_ vs_9 1), (at_ vs_9 2), (at_ vs_9 3), (at_ vs_9 4), (at_ vs_9 5), x17])
        )
      ) fun o => nx o (law20_PortsApart_k4 G_slices_pdqsortOrdered_int)
    ) fun o => ret (unblk 3 o)
  ) fun o => nx o (law20_PortsApart_k5 G_slices_pdqsortOrdered_int)
def law20_PortsApart_l7 (G_slices_pdqsortOrdered_int : List V → M V) (vs_8 : List V) : M Out :=
  bnd (
  bnd (lift (lenSlc (at_ vs_8 0))) fun x89 =>
  bnd (lift (bin .lss (at_ vs_8 5) x89)) fun x90 =>
  bnd (gd x90 true (lift (some (at_ vs_8 5)))) fun x92 =>
  bnd (gd x90 true (lift (bin .lss x92 (Value.int .i64 150)))) fun x93 =>
  bnd (lift (pickV x90 x93 (Value.bool false))) fun x94 =>
  condM x94 (
    ret (.nxt [(at_ vs_8 0), (at_ vs_8 1), (at_ vs_8 2), (at_ vs_8 3), (at_ vs_8 4), (at_ vs_8 5)])
    ) (
    ret (.brk 2 [])
    )
  ) fun o => nx o (law20_PortsApart_k6 G_slices_pdqsortOrdered_int)
def law20_PortsApart_k8 (G_slices_pdqsortOrdered_int : List V → M V) (vs_12 : List V) : M Out :=
  ret (.ret [(Value.bool true)])
def law20_PortsApart_k9 (G_slices_pdqsortOrdered_int : List V → M V) (vs_7 : List V) : M Out :=
  bnd (
    bnd (
      loopM FUEL (law20_PortsApart_l7 G_slices_pdqsortOrdered_int) [(at_ vs_7 0), (at_ vs_7 1), (at_ vs_7 2), (at_ vs_7 3), (at_ vs_7 4), (Value.int .i64 0)]
      ) fun o => ret (unblk 2 o)
    ) fun o => nx o (law20_PortsApart_k8 G_slices_pdqsortOrdered_int)
def law20_PortsApart_k10 (G_slices_pdqsortOrdered_int : List V → M V) (vs_2 : List V) : M Out :=
  bnd (mkslc 1 1 [Value.bool false] (Value.int .i64 8) (Value.int .i64 8)) fun x70 =>
  bnd (
    bnd (lift (lenSlc (at_ vs_2 4))) fun x72 =>
    bnd (
      loopM FUEL (law20_PortsApart_l3 G_slices_pdqsortOrdered_int) [(at_ vs_2 0), (at_ vs_2 1), (at_ vs_2 2), (at_ vs_2 3), x70, (at_ vs_2 4), x72, (Value.int .i64 0)]
      ) fun o => ret (unblk 0 o)
    ) fun o => nx o (law20_PortsApart_k9 G_slices_pdqsortOrdered_int)
def law20_PortsApart_k11 (G_slices_pdqsortOrdered_int : List V → M V) (vs : List V) : M Out :=
  bnd (A_law20_among [(at_ vs 2), (Value.int .i64 8)]) fun x27 =>
  bnd (A_ports_New [(at_ vs 0)]) fun x30 =>
  bnd (lift (ext 0 x30)) fun x31 =>
  bnd (lift (ext 1 x30)) fun x32 =>
  bnd (A_ports_New [(at_ vs 0)]) fun x35 =>
  bnd (lift (ext 0 x35)) fun x36 =>
  bnd (lift (ext 1 x35)) fun x37 =>
  bnd ((A_ports_Flows G_slices_pdqsortOrdered_int) [(at_ vs 0), x27]) fun x41 =>
  bnd (lift (ext 0 x41)) fun x42 =>
  bnd (lift (ext 1 x41)) fun x43 =>
  bnd (
    bnd (lift (bin .neq x32 (Value.int .i64 0))) fun x45 =>
    bnd (gd x45 false (lift (some x37))) fun x47 =>
    bnd (gd x45 false (lift (bin .neq x47 (Value.int .i64 0)))) fun x48 =>
    bnd (lift (pickV x45 (Value.bool true) x48)) fun x49 =>
    bnd (gd x49 false (lift (some x43))) fun x51 =>
    bnd (gd x49 false (lift (bin .neq x51 (Value.int .i64 0)))) fun x52 =>
    bnd (lift (pickV x49 (Value.bool true) x52)) fun x53 =>
    condM x53 (
      bnd (lift (bin .eql x32 x37)) fun x56 =>
      bnd (gd x56 true (lift (some x32))) fun x58 =>
      bnd (gd x56 true (lift (some x43))) fun x59 =>
      bnd (gd x56 true (lift (bin .eql x58 x59))) fun x60 =>
      bnd (lift (pickV x56 x60 (Value.bool false))) fun x61 =>
      bnd (gd x61 true (lift (some x31))) fun x63 =>
      bnd (gd x61 true (lift (notIf false (isNil .p x63)))) fun x64 =>
      bnd (lift (pickV x61 x64 (Value.bool false))) fun x65 =>
      bnd (gd x65 true (lift (some x36))) fun x67 =>
      bnd (gd x65 true (lift (notIf false (isNil .p x67)))) fun x68 =>
      bnd (lift (pickV x65 x68 (Value.bool false))) fun x69 =>
      ret (.ret [x69])
      ) (
      ret (.nxt [(at_ vs 1), x27, x31, x36, x42])
      )
    ) fun o => nx o (law20_PortsApart_k10 G_slices_pdqsortOrdered_int)
def F_law20_PortsApart (G_slices_pdqsortOrdered_int : List V → M V) (x0 x1 x2 : V) : M V :=
  bnd (
    bnd (
      bnd (A_law20_works []) fun x24 =>
      bnd (lift (un .not x24)) fun x25 =>
      condM x25 (
        ret (.ret [(Value.bool false)])
        ) (
        ret (.nxt [x0, x1, x2])
        )
      ) fun o => nx o (law20_PortsApart_k11 G_slices_pdqsortOrdered_int)
    ) fun o => finM o fun vs => ret (outV [(at_ vs 0)])
def h_law20_PortsApart : Hint := (.seq [] .leaf (.seq [0, 1, 2] (.seq [] .leaf (.cond (.seq [] .leaf .leaf) .leaf)) (.seq [] .leaf (.seq [] .leaf (.seq [] .leaf (.seq [] .leaf (.seq [1, 2, 7, 9, 11] (.seq [] .leaf (.cond (.seq [] .leaf .leaf) .leaf)) (.seq [] .leaf (.seq [1, 2, 7, 9, 13] (.seq [] .leaf (.blk (.loop [1, 2, 7, 9, 13, 71, 72, 73] (.seq [] .leaf (.seq [1, 2, 7, 9, 13, 71, 72, 73] (.cond .leaf .leaf) (.seq [1, 2, 7, 9, 13, 71, 72, 73] (.blk (.seq [] .leaf (.seq [1, 2, 7, 9, 13, 15, 71, 72, 73] (.seq [] .leaf (.cond (.seq [] .leaf .leaf) .leaf)) .leaf))) .leaf)))))) (.seq [] (.seq [] .leaf (.blk (.loop [1, 2, 7, 9, 13, 16] (.seq [1, 2, 7, 9, 13, 16] (.seq [] .leaf (.cond .leaf .leaf)) (.seq [1, 2, 7, 9, 13, 16] (.blk (.seq [] .leaf (.seq [1, 2, 7, 9, 13, 16, 17] (.seq [] .leaf (.cond (.seq [] .leaf .leaf) .leaf)) (.seq [] .leaf (.seq [] .leaf (.seq [] .leaf (.cond (.seq [] .leaf .leaf) .leaf))))))) .leaf))))) (.seq [] .leaf .leaf)))))))))))
def A_law20_PortsApart (G_slices_pdqsortOrdered_int : List V → M V) (l : List V) : M V := match l with | [x0, x1, x2] => F_law20_PortsApart G_slices_pdqsortOrdered_int x0 x1 x2 | _ => fail
theorem e_law20_PortsApart (G_slices_pdqsortOrdered_int : List V → M V) (x0 x1 x2 : V) : funM Try.prog (ovr [(fid_law20_works, A_law20_works), (fid_law20_among, A_law20_among), (fid_ports_New, A_ports_New), (fid_ports_Flows, A_ports_Flows G_slices_pdqsortOrdered_int), (fid_law20_do, A_law20_do)] noC) fid_law20_PortsApart h_law20_PortsApart [x0, x1, x2] = F_law20_PortsApart G_slices_pdqsortOrdered_int x0 x1 x2 := by kernel_rfl
theorem K_law20_PortsApart {G_slices_pdqsortOrdered_int : List V → M V} (k_slices_pdqsortOrdered_int : Known Try.prog fid_slices_pdqsortOrdered_int G_slices_pdqsortOrdered_int) : Known Try.prog fid_law20_PortsApart (A_law20_PortsApart G_slices_pdqsortOrdered_int) := known_of (σ := ovr [(fid_law20_works, A_law20_works), (fid_law20_among, A_law20_among), (fid_ports_New, A_ports_New), (fid_ports_Flows, A_ports_Flows G_slices_pdqsortOrdered_int), (fid_law20_do, A_law20_do)] noC) (hint := h_law20_PortsApart) (by kernel_rfl) (simAll_ovr K_law20_works (simAll_ovr K_law20_among (simAll_ovr K_ports_New (simAll_ovr (K_ports_Flows k_slices_pdqsortOrdered_int) (simAll_ovr K_law20_do simAll_nil0))))) fun l H r H' h => by
  unfold A_law20_PortsApart at h; split at h
  · rw [e_law20_PortsApart]; exact h
  · exact (fail_ne h).elim

end Go.AM.Cap
