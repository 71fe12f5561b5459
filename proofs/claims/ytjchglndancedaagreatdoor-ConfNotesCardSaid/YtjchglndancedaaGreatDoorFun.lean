import Derived.Test.YtjchglndancedaaGreatDoorAmMaps
import Derived.Test.YtjchglndancedaaGreatDoorProg
set_option linter.all false
/- Printed by amprint2.py: functions of YtjchglndancedaaGreatDoor on the abstract machine. -/
set_option linter.unusedVariables false
set_option maxRecDepth 100000
namespace Go.AM.Cap
open Go.AM Go.Proofs
def gid_conf_levels : Nat := 0
def gid_conf_types : Nat := 1
def zzu : Nat := 3
def zsy : Nat := 4
def zto : Nat := 4
def zky : Nat := 8
def zq0 : Nat := 10
def zpj : Nat := 11
def zdk : Nat := 14
def zsn : Nat := 15
def zw4 : Nat := 16
def zmq : Nat := 20
def znt : Nat := 32
def zj4 : Nat := 33
def zud : Nat := 34
def zue : Nat := 35
def zd0 : Nat := 36
def zec : Nat := 37
def zoo : Nat := 41
def zce : Nat := 52
def zcs : Nat := 53
def zct : Nat := 54
def zc1 : Nat := 55
def zdf : Nat := 56
def zcq : Nat := 57
def zd1 : Nat := 58
def zc2 : Nat := 59
def zd2 : Nat := 60
def zd3 : Nat := 61
def zco : Nat := 62
def zvf : Nat := 63
def ze3 : Nat := 64
def zvg : Nat := 65
def zxr : Nat := 66
def zxs : Nat := 67
def zzv : Nat := 68
def zpk : Nat := 69
def zed : Nat := 70
def zdj : Nat := 89
def zdy : Nat := 92
def zoz : Nat := 93
def zeq : Nat := 94
def zgt : Nat := 95
def zci : Nat := 96
def zq1 : Nat := 97
def znu : Nat := 98
def zpl : Nat := 99
def zvh : Nat := 100
def zc5 : Nat := 101
def zeu : Nat := 102
def zeg : Nat := 103
def zev : Nat := 104
def zvi : Nat := 105
def zfd : Nat := 106
def zfv : Nat := 107
def zh0 : Nat := 108
def zgi : Nat := 109
def zix : Nat := 110
def zmr : Nat := 111
def zi8 : Nat := 112
def znv : Nat := 113
def zq2 : Nat := 114
def zpm : Nat := 115
def ze8 : Nat := 126
def zg1 : Nat := 131
def zgd : Nat := 132
def zcj : Nat := 133
def zcu : Nat := 134
def zeb : Nat := 135
def zdn : Nat := 136
def zr8 : Nat := 137
def ztf : Nat := 138
def zxt : Nat := 139
def zdg : Nat := 140
def zdr : Nat := 141
def zcz : Nat := 142
def zfp : Nat := 143
def zjy : Nat := 144
def ze4 : Nat := 145
def zkz : Nat := 146
def zh1 : Nat := 147
def zhs : Nat := 158
def zg3 : Nat := 159
def zht : Nat := 160
def zg4 : Nat := 161
def zgo : Nat := 162
def zgf : Nat := 163
def zf6 : Nat := 164
def zdh : Nat := 167
def ztg : Nat := 168
def zfw : Nat := 169
def zi9 : Nat := 170
def zfx : Nat := 177
def zew : Nat := 178
def zdu : Nat := 179
def zb1 : Nat := 187
def zja : Nat := 188
def zgr : Nat := 226
def zhd : Nat := 227
def zfe : Nat := 229
def zhe : Nat := 231
def zh9 : Nat := 232
def zir : Nat := 235
def zhf : Nat := 236
def zms : Nat := 9
def zq3 : Nat := 273
def zso : Nat := 274
def zvj : Nat := 276
def zxu (vs_2 : List V) : M Out :=
 zb (
 zb (za (zhc (zc vs_2 0))) fun x19 =>
 zb (za (bin .sub x19 (Value.int .i64 1))) fun x20 =>
 zb (za (z54 (zc vs_2 0) none (some x20))) fun x21 =>
 ret (.nxt [x21, (zc vs_2 1)])
 ) fun o => ret (zb9 1 o)
def zxv (vs : List V) : M Out :=
 zb (
 zb (za (zhc (zc vs 0))) fun x6 =>
 zb (za (bin .gtr x6 (Value.int .i64 0))) fun x7 =>
 zb (gd x7 true (za (some (zc vs 0)))) fun x9 =>
 zb (gd x7 true (za (some (zc vs 0)))) fun x10 =>
 zb (gd x7 true (za (zhc x10))) fun x11 =>
 zb (gd x7 true (za (bin .sub x11 (Value.int .i64 1)))) fun x12 =>
 zb (gd x7 true (za (zr7 x9 x12))) fun x13 =>
 zb (gd x7 true (za (some (zc vs 1)))) fun x14 =>
 zb (gd x7 true (za (bin .eql x13 x14))) fun x15 =>
 zb (za (zcd x7 x15 (Value.bool false))) fun x16 =>
 zbv x16 (
 ret (.nxt [(zc vs 0), (zc vs 1)])
 ) (
 ret (.brk 0 [(zc vs 0)])
 )
 ) fun o => nx o zxu
def zxw (vs_3 : List V) : M Out :=
 ret (.ret [(zc vs_3 0)])
def zp9 (x0 x1 : V) : M V :=
 zb (
 zb (
 zb (
 zc7 zem zxv [x0, x1]
 ) fun o => ret (zb9 0 o)
 ) fun o => nx o zxw
 ) fun o => zcp o fun vs => ret (zcm [(zc vs 0)])
def zqa : Hint := (.seq [] .leaf (.seq [0] (.blk (.loop [0, 1] (.seq [0, 1] (.seq [] .leaf (.cond .leaf .leaf)) (.blk .leaf)))) (.seq [] .leaf .leaf)))
def zge (l : List V) : M V := match l with | [x0, x1] => zp9 x0 x1 | _ => fail
theorem zys (x0 x1 : V) : zde Tryz.prog (ovr [] noC) zg3 zqa [x0, x1] = zp9 x0 x1 := by kernel_rfl
theorem zyt : zb3 Tryz.prog zg3 (zge) := zbw (σ := ovr [] noC) (hint := zqa) (by kernel_rfl) z8 fun l H r H' h => by
 unfold zge at h; split at h
 · rw [zys]; exact h
 · exact (zo h).elim
def zyu (vs_2 : List V) : M Out :=
 zb (
 zb (za (z54 (zc vs_2 0) (some (Value.int .i64 1)) none)) fun x15 =>
 ret (.nxt [x15, (zc vs_2 1)])
 ) fun o => ret (zb9 1 o)
def zyv (vs : List V) : M Out :=
 zb (
 zb (za (zhc (zc vs 0))) fun x6 =>
 zb (za (bin .gtr x6 (Value.int .i64 0))) fun x7 =>
 zb (gd x7 true (za (some (zc vs 0)))) fun x9 =>
 zb (gd x7 true (za (zr7 x9 (Value.int .i64 0)))) fun x10 =>
 zb (gd x7 true (za (some (zc vs 1)))) fun x11 =>
 zb (gd x7 true (za (bin .eql x10 x11))) fun x12 =>
 zb (za (zcd x7 x12 (Value.bool false))) fun x13 =>
 zbv x13 (
 ret (.nxt [(zc vs 0), (zc vs 1)])
 ) (
 ret (.brk 0 [(zc vs 0)])
 )
 ) fun o => nx o zyu
def zyw (vs_3 : List V) : M Out :=
 ret (.ret [(zc vs_3 0)])
def zq4 (x0 x1 : V) : M V :=
 zb (
 zb (
 zb (
 zc7 zem zyv [x0, x1]
 ) fun o => ret (zb9 0 o)
 ) fun o => nx o zyw
 ) fun o => zcp o fun vs => ret (zcm [(zc vs 0)])
def zq5 : Hint := (.seq [] .leaf (.seq [0] (.blk (.loop [0, 1] (.seq [0, 1] (.seq [] .leaf (.cond .leaf .leaf)) (.blk .leaf)))) (.seq [] .leaf .leaf)))
def zgp (l : List V) : M V := match l with | [x0, x1] => zq4 x0 x1 | _ => fail
theorem zzw (x0 x1 : V) : zde Tryz.prog (ovr [] noC) zhs zq5 [x0, x1] = zq4 x0 x1 := by kernel_rfl
theorem zzx : zb3 Tryz.prog zhs (zgp) := zbw (σ := ovr [] noC) (hint := zq5) (by kernel_rfl) z8 fun l H r H' h => by
 unfold zgp at h; split at h
 · rw [zzw]; exact h
 · exact (zo h).elim
def zqb (vs_3 : List V) : M Out :=
 zb (za (zxj 256 1 (zc vs_3 1) (zc vs_3 3))) fun x19 =>
 zb (st1 x19 (Value.bool true)) fun _ =>
 ret (.nxt [(zc vs_3 0), (zc vs_3 1), (zc vs_3 2)])
def zqc (vs_4 : List V) : M Out :=
 zb (za (bin .add (zc vs_4 2) (Value.int .i64 1))) fun x11 =>
 ret (.nxt [(zc vs_4 0), (zc vs_4 1), x11])
def zqd (vs_2 : List V) : M Out :=
 zb (
 zb (
 zb (za (zr7 (zc vs_2 0) (zc vs_2 2))) fun x14 =>
 zb (
 zb (za (bin .geq x14 (Value.int .u8 128))) fun x16 =>
 zbv x16 (
 zb (ldn 256 (zc vs_2 1)) fun x17 =>
 zb (stn 256 (zc vs_2 1) x17) fun _ =>
 ret (.ret [(zc vs_2 1), (Value.bool false)])
 ) (
 ret (.nxt [(zc vs_2 0), (zc vs_2 1), (zc vs_2 2), x14])
 )
 ) fun o => nx o zqb
 ) fun o => ret (zb9 1 o)
 ) fun o => nx o zqc
def zk0 (vs : List V) : M Out :=
 zb (
 zb (za (zhc (zc vs 0))) fun x8 =>
 zb (za (bin .lss (zc vs 2) x8)) fun x9 =>
 zbv x9 (
 ret (.nxt [(zc vs 0), (zc vs 1), (zc vs 2)])
 ) (
 ret (.brk 0 [(zc vs 1)])
 )
 ) fun o => nx o zqd
def zqe (vs_5 : List V) : M Out :=
 zb (ldn 256 (zc vs_5 0)) fun x20 =>
 zb (stn 256 (zc vs_5 0) x20) fun _ =>
 ret (.ret [(zc vs_5 0), (Value.bool true)])
def ziy (x0 : V) : M V :=
 zb (
 zb (newc (List.replicate 256 (Value.bool false))) fun x2 =>
 zb (
 zb (
 zc7 zem zk0 [x0, x2, (Value.int .i64 0)]
 ) fun o => ret (zb9 0 o)
 ) fun o => nx o zqe
 ) fun o => zcp o fun vs => zb (ldn 256 (zc vs 0)) fun r0 => ret (zcm [r0, (zc vs 1)])
def zq6 : Hint := (.seq [] .leaf (.seq [2] (.seq [] .leaf (.blk (.loop [0, 2, 4] (.seq [0, 2, 4] (.seq [] .leaf (.cond .leaf .leaf)) (.seq [0, 2, 4] (.blk (.seq [] .leaf (.seq [0, 2, 4, 5] (.seq [] .leaf (.cond (.seq [] .leaf .leaf) .leaf)) .leaf))) .leaf))))) (.seq [] .leaf .leaf)))
def zfq (l : List V) : M V := match l with | [x0] => ziy x0 | _ => fail
theorem zzy (x0 : V) : zde Tryz.prog (ovr [] noC) zht zq6 [x0] = ziy x0 := by kernel_rfl
theorem zzz : zb3 Tryz.prog zht (zfq) := zbw (σ := ovr [] noC) (hint := zq6) (by kernel_rfl) z8 fun l H r H' h => by
 unfold zfq at h; split at h
 · rw [zzy]; exact h
 · exact (zo h).elim
def zgg (x0 x1 : V) : M V :=
 zb (
 zb (za (zez x0)) fun x7 =>
 zb (za (zxj 256 1 x7 x1)) fun x8 =>
 zb (ld1 x8) fun x9 =>
 ret (.ret [x9])
 ) fun o => zcp o fun vs => ret (zcm [(zc vs 0)])
def zmb : Hint := (.seq [] .leaf (.seq [] .leaf .leaf))
def zdi (l : List V) : M V := match l with | [x0, x1] => zgg x0 x1 | _ => fail
theorem zuf (x0 x1 : V) : zde Tryz.prog (ovr [] noC) zfx zmb [x0, x1] = zgg x0 x1 := by kernel_rfl
theorem zmc : zb3 Tryz.prog zfx (zdi) := zbw (σ := ovr [] noC) (hint := zmb) (by kernel_rfl) z8 fun l H r H' h => by
 unfold zdi at h; split at h
 · rw [zuf]; exact h
 · exact (zo h).elim
def zoe (vs_3 : List V) : M Out :=
 zb (za (zhc (zc vs_3 0))) fun x18 =>
 zb (za (bin .sub x18 (Value.int .i64 1))) fun x19 =>
 zb (za (z54 (zc vs_3 0) none (some x19))) fun x20 =>
 ret (.nxt [x20, (zc vs_3 1)])
def zof (vs_2 : List V) : M Out :=
 zb (
 zb (
 zb (za (zhc (zc vs_2 0))) fun x11 =>
 zb (za (bin .sub x11 (Value.int .i64 1))) fun x12 =>
 zb (za (zr7 (zc vs_2 0) x12)) fun x13 =>
 zb (zdi [(zc vs_2 1), x13]) fun x14 =>
 zb (za (un .not x14)) fun x15 =>
 zbv x15 (
 ret (.brk 0 [(zc vs_2 0)])
 ) (
 ret (.nxt [(zc vs_2 0), (zc vs_2 1)])
 )
 ) fun o => nx o zoe
 ) fun o => ret (zb9 1 o)
def zjz (vs : List V) : M Out :=
 zb (
 zb (za (zhc (zc vs 0))) fun x6 =>
 zb (za (bin .gtr x6 (Value.int .i64 0))) fun x7 =>
 zbv x7 (
 ret (.nxt [(zc vs 0), (zc vs 1)])
 ) (
 ret (.brk 0 [(zc vs 0)])
 )
 ) fun o => nx o zof
def zj0 (vs_4 : List V) : M Out :=
 ret (.ret [(zc vs_4 0)])
def zhu (x0 x1 : V) : M V :=
 zb (
 zb (
 zb (
 zc7 zem zjz [x0, x1]
 ) fun o => ret (zb9 0 o)
 ) fun o => nx o zj0
 ) fun o => zcp o fun vs => ret (zcm [(zc vs 0)])
def zo0 : Hint := (.seq [] .leaf (.seq [0] (.blk (.loop [0, 1] (.seq [0, 1] (.seq [] .leaf (.cond .leaf .leaf)) (.blk (.seq [0, 1] (.seq [] .leaf (.cond .leaf .leaf)) .leaf))))) (.seq [] .leaf .leaf)))
def zex (l : List V) : M V := match l with | [x0, x1] => zhu x0 x1 | _ => fail
def zo1 : zbz := ovr [(zfx, zdi)] noC
theorem zxx (x0 x1 : V) : zde Tryz.prog (zo1) zgo zo0 [x0, x1] = zhu x0 x1 := by kernel_rfl
theorem zxy : zb3 Tryz.prog zgo (zex) := zbw (σ := zo1) (hint := zo0) (by kernel_rfl) (zn zmc z8) fun l H r H' h => by
 unfold zex at h; split at h
 · rw [zxx]; exact h
 · exact (zo h).elim
def zo2 (vs_3 : List V) : M Out :=
 zb (za (z54 (zc vs_3 0) (some (Value.int .i64 1)) none)) fun x14 =>
 ret (.nxt [x14, (zc vs_3 1)])
def zo3 (vs_2 : List V) : M Out :=
 zb (
 zb (
 zb (za (zr7 (zc vs_2 0) (Value.int .i64 0))) fun x10 =>
 zb (zdi [(zc vs_2 1), x10]) fun x11 =>
 zb (za (un .not x11)) fun x12 =>
 zbv x12 (
 ret (.brk 0 [(zc vs_2 0)])
 ) (
 ret (.nxt [(zc vs_2 0), (zc vs_2 1)])
 )
 ) fun o => nx o zo2
 ) fun o => ret (zb9 1 o)
def zkd (vs : List V) : M Out :=
 zb (
 zb (za (zhc (zc vs 0))) fun x6 =>
 zb (za (bin .gtr x6 (Value.int .i64 0))) fun x7 =>
 zbv x7 (
 ret (.nxt [(zc vs 0), (zc vs 1)])
 ) (
 ret (.brk 0 [(zc vs 0)])
 )
 ) fun o => nx o zo3
def zke (vs_4 : List V) : M Out :=
 ret (.ret [(zc vs_4 0)])
def zia (x0 x1 : V) : M V :=
 zb (
 zb (
 zb (
 zc7 zem zkd [x0, x1]
 ) fun o => ret (zb9 0 o)
 ) fun o => nx o zke
 ) fun o => zcp o fun vs => ret (zcm [(zc vs 0)])
def zqf : Hint := (.seq [] .leaf (.seq [0] (.blk (.loop [0, 1] (.seq [0, 1] (.seq [] .leaf (.cond .leaf .leaf)) (.blk (.seq [0, 1] (.seq [] .leaf (.cond .leaf .leaf)) .leaf))))) (.seq [] .leaf .leaf)))
def zfa (l : List V) : M V := match l with | [x0, x1] => zia x0 x1 | _ => fail
def zqg : zbz := ovr [(zfx, zdi)] noC
theorem zyx (x0 x1 : V) : zde Tryz.prog (zqg) zg4 zqf [x0, x1] = zia x0 x1 := by kernel_rfl
theorem zyy : zb3 Tryz.prog zg4 (zfa) := zbw (σ := zqg) (hint := zqf) (by kernel_rfl) (zn zmc z8) fun l H r H' h => by
 unfold zfa at h; split at h
 · rw [zyx]; exact h
 · exact (zo h).elim
def zo4 (x0 : V) : M V :=
 zb (
 zb (za (bin .and x0 (Value.int .u8 192))) fun x4 =>
 zb (za (bin .neq x4 (Value.int .u8 128))) fun x5 =>
 ret (.ret [x5])
 ) fun o => zcp o fun vs => ret (zcm [(zc vs 0)])
def zo5 : Hint := (.seq [] .leaf (.seq [] .leaf .leaf))
def zhv (l : List V) : M V := match l with | [x0] => zo4 x0 | _ => fail
theorem zxz (x0 : V) : zde Tryz.prog (ovr [] noC) zja zo5 [x0] = zo4 x0 := by kernel_rfl
theorem zx0 : zb3 Tryz.prog zja (zhv) := zbw (σ := ovr [] noC) (hint := zo5) (by kernel_rfl) z8 fun l H r H' h => by
 unfold zhv at h; split at h
 · rw [zxz]; exact h
 · exact (zo h).elim
def zmt (vs_8 : List V) : M Out :=
 zb (za (bin .and (zc vs_8 0) (Value.int .u8 7))) fun x100 =>
 zb (za (cvi .i32 x100)) fun x101 =>
 zb (za (bin .shl x101 (Value.int .u64 18))) fun x102 =>
 zb (za (bin .and (zc vs_8 1) (Value.int .u8 63))) fun x104 =>
 zb (za (cvi .i32 x104)) fun x105 =>
 zb (za (bin .shl x105 (Value.int .u64 12))) fun x106 =>
 zb (za (bin .or x102 x106)) fun x107 =>
 zb (za (bin .and (zc vs_8 2) (Value.int .u8 63))) fun x109 =>
 zb (za (cvi .i32 x109)) fun x110 =>
 zb (za (bin .shl x110 (Value.int .u64 6))) fun x111 =>
 zb (za (bin .or x107 x111)) fun x112 =>
 zb (za (bin .and (zc vs_8 3) (Value.int .u8 63))) fun x114 =>
 zb (za (cvi .i32 x114)) fun x115 =>
 zb (za (bin .or x112 x115)) fun x116 =>
 ret (.ret [x116, (Value.int .i64 4)])
def zmu (vs_7 : List V) : M Out :=
 zb (za (zr7 (zc vs_7 0) (Value.int .i64 3))) fun x92 =>
 zb (
 zb (za (bin .lss x92 (Value.int .u8 128))) fun x94 =>
 zb (gd x94 false (za (some x92))) fun x96 =>
 zb (gd x94 false (za (bin .lss (Value.int .u8 191) x96))) fun x97 =>
 zb (za (zcd x94 (Value.bool true) x97)) fun x98 =>
 zbv x98 (
 ret (.ret [(Value.int .i32 65533), (Value.int .i64 1)])
 ) (
 ret (.nxt [(zc vs_7 1), (zc vs_7 2), (zc vs_7 3), x92])
 )
 ) fun o => nx o zmt
def zmv (vs_6 : List V) : M Out :=
 zb (
 zb (za (bin .leq (zc vs_6 2) (Value.int .i64 3))) fun x77 =>
 zbv x77 (
 zb (za (bin .and (zc vs_6 1) (Value.int .u8 15))) fun x79 =>
 zb (za (cvi .i32 x79)) fun x80 =>
 zb (za (bin .shl x80 (Value.int .u64 12))) fun x81 =>
 zb (za (bin .and (zc vs_6 3) (Value.int .u8 63))) fun x83 =>
 zb (za (cvi .i32 x83)) fun x84 =>
 zb (za (bin .shl x84 (Value.int .u64 6))) fun x85 =>
 zb (za (bin .or x81 x85)) fun x86 =>
 zb (za (bin .and (zc vs_6 4) (Value.int .u8 63))) fun x88 =>
 zb (za (cvi .i32 x88)) fun x89 =>
 zb (za (bin .or x86 x89)) fun x90 =>
 ret (.ret [x90, (Value.int .i64 3)])
 ) (
 ret (.nxt [(zc vs_6 0), (zc vs_6 1), (zc vs_6 3), (zc vs_6 4)])
 )
 ) fun o => nx o zmu
def zmw (vs_5 : List V) : M Out :=
 zb (za (zr7 (zc vs_5 0) (Value.int .i64 2))) fun x69 =>
 zb (
 zb (za (bin .lss x69 (Value.int .u8 128))) fun x71 =>
 zb (gd x71 false (za (some x69))) fun x73 =>
 zb (gd x71 false (za (bin .lss (Value.int .u8 191) x73))) fun x74 =>
 zb (za (zcd x71 (Value.bool true) x74)) fun x75 =>
 zbv x75 (
 ret (.ret [(Value.int .i32 65533), (Value.int .i64 1)])
 ) (
 ret (.nxt [(zc vs_5 0), (zc vs_5 1), (zc vs_5 2), (zc vs_5 3), x69])
 )
 ) fun o => nx o zmv
def zmx (vs_4 : List V) : M Out :=
 zb (
 zb (za (bin .leq (zc vs_4 2) (Value.int .i64 2))) fun x59 =>
 zbv x59 (
 zb (za (bin .and (zc vs_4 1) (Value.int .u8 31))) fun x61 =>
 zb (za (cvi .i32 x61)) fun x62 =>
 zb (za (bin .shl x62 (Value.int .u64 6))) fun x63 =>
 zb (za (bin .and (zc vs_4 3) (Value.int .u8 63))) fun x65 =>
 zb (za (cvi .i32 x65)) fun x66 =>
 zb (za (bin .or x63 x66)) fun x67 =>
 ret (.ret [x67, (Value.int .i64 2)])
 ) (
 ret (.nxt [(zc vs_4 0), (zc vs_4 1), (zc vs_4 2), (zc vs_4 3)])
 )
 ) fun o => nx o zmw
def zmy (vs_3 : List V) : M Out :=
 zb (za (zr7 (zc vs_3 0) (Value.int .i64 1))) fun x47 =>
 zb (
 zb (za (z6 0 (zc vs_3 3))) fun x49 =>
 zb (ld1 x49) fun x50 =>
 zb (za (bin .lss x47 x50)) fun x51 =>
 zb (gd x51 false (za (z6 1 (zc vs_3 3)))) fun x53 =>
 zb (gd x51 false (ld1 x53)) fun x54 =>
 zb (gd x51 false (za (some x47))) fun x55 =>
 zb (gd x51 false (za (bin .lss x54 x55))) fun x56 =>
 zb (za (zcd x51 (Value.bool true) x56)) fun x57 =>
 zbv x57 (
 ret (.ret [(Value.int .i32 65533), (Value.int .i64 1)])
 ) (
 ret (.nxt [(zc vs_3 0), (zc vs_3 1), (zc vs_3 2), x47])
 )
 ) fun o => nx o zmx
def zmz (vs_2 : List V) : M Out :=
 zb (za (bin .and (zc vs_2 3) (Value.int .u8 7))) fun x37 =>
 zb (za (cvi .i64 x37)) fun x38 =>
 zb (za (bin .shr (zc vs_2 3) (Value.int .u64 4))) fun x40 =>
 zb (za (zxj 16 2 (ptr zsy 0) x40)) fun x41 =>
 zb (ldn 2 x41) fun x42 =>
 zb (newc [Value.int .u8 0, Value.int .u8 0]) fun x9 =>
 zb (stn 2 x9 x42) fun _ =>
 zb (
 zb (za (bin .lss (zc vs_2 1) x38)) fun x45 =>
 zbv x45 (
 ret (.ret [(Value.int .i32 65533), (Value.int .i64 1)])
 ) (
 ret (.nxt [(zc vs_2 0), (zc vs_2 2), x38, x9])
 )
 ) fun o => nx o zmy
def zm0 (vs : List V) : M Out :=
 zb (za (zr7 (zc vs 0) (Value.int .i64 0))) fun x18 =>
 zb (za (zxj 256 1 (ptr zzu 0) x18)) fun x20 =>
 zb (ld1 x20) fun x21 =>
 zb (
 zb (za (bin .geq x21 (Value.int .u8 240))) fun x23 =>
 zbv x23 (
 zb (za (cvi .i32 x21)) fun x25 =>
 zb (za (bin .shl x25 (Value.int .u64 31))) fun x26 =>
 zb (za (bin .shr x26 (Value.int .u64 31))) fun x27 =>
 zb (za (zr7 (zc vs 0) (Value.int .i64 0))) fun x29 =>
 zb (za (cvi .i32 x29)) fun x30 =>
 zb (za (bin .andNot x30 x27)) fun x32 =>
 zb (za (bin .and (Value.int .i32 65533) x27)) fun x34 =>
 zb (za (bin .or x32 x34)) fun x35 =>
 ret (.ret [x35, (Value.int .i64 1)])
 ) (
 ret (.nxt [(zc vs 0), (zc vs 1), x18, x21])
 )
 ) fun o => nx o zmz
def zib (x0 : V) : M V :=
 zb (
 zb (za (zhc x0)) fun x14 =>
 zb (
 zb (za (bin .lss x14 (Value.int .i64 1))) fun x16 =>
 zbv x16 (
 ret (.ret [(Value.int .i32 65533), (Value.int .i64 0)])
 ) (
 ret (.nxt [x0, x14])
 )
 ) fun o => nx o zm0
 ) fun o => zcp o fun vs => ret (zcm [(zc vs 0), (zc vs 1)])
def zic : Hint := (.seq [] .leaf (.seq [] .leaf (.seq [0, 4] (.seq [] .leaf (.cond (.seq [] .leaf .leaf) .leaf)) (.seq [] .leaf (.seq [] .leaf (.seq [0, 4, 5, 6] (.seq [] .leaf (.cond (.seq [] .leaf (.seq [] .leaf .leaf)) .leaf)) (.seq [] .leaf (.seq [] .leaf (.seq [0, 5, 8, 9] (.seq [] .leaf (.cond (.seq [] .leaf .leaf) .leaf)) (.seq [] .leaf (.seq [0, 5, 8, 10] (.seq [] .leaf (.cond (.seq [] .leaf .leaf) .leaf)) (.seq [0, 5, 8, 10] (.seq [] .leaf (.cond (.seq [] .leaf .leaf) .leaf)) (.seq [] .leaf (.seq [0, 5, 8, 10, 11] (.seq [] .leaf (.cond (.seq [] .leaf .leaf) .leaf)) (.seq [0, 5, 10, 11] (.seq [] .leaf (.cond (.seq [] .leaf .leaf) .leaf)) (.seq [] .leaf (.seq [5, 10, 11, 12] (.seq [] .leaf (.cond (.seq [] .leaf .leaf) .leaf)) (.seq [] .leaf .leaf))))))))))))))))))
def zd8 (l : List V) : M V := match l with | [x0] => zib x0 | _ => fail
theorem znw (x0 : V) : zde Tryz.prog (ovr [] noC) ze8 zic [x0] = zib x0 := by kernel_rfl
theorem znx : zb3 Tryz.prog ze8 (zd8) := zbw (σ := ovr [] noC) (hint := zic) (by kernel_rfl) z8 fun l H r H' h => by
 unfold zd8 at h; split at h
 · rw [znw]; exact h
 · exact (zo h).elim
def zpr (vs : List V) : M Out :=
 ret (.ret [(zc vs 0), (zc vs 1)])
def zjq (x0 : V) : M V :=
 zb (
 zb (
 zb (za (bin .neq x0 (Value.string ⟨#[]⟩))) fun x5 =>
 zb (gd x5 true (za (some x0))) fun x7 =>
 zb (gd x5 true (za (zr7 x7 (Value.int .i64 0)))) fun x8 =>
 zb (gd x5 true (za (bin .lss x8 (Value.int .u8 128)))) fun x9 =>
 zb (za (zcd x5 x9 (Value.bool false))) fun x10 =>
 zbv x10 (
 zb (za (zr7 x0 (Value.int .i64 0))) fun x12 =>
 zb (za (cvi .i32 x12)) fun x13 =>
 ret (.ret [x13, (Value.int .i64 1)])
 ) (
 zb (zd8 [x0]) fun x16 =>
 zb (za (ext 0 x16)) fun x17 =>
 zb (za (ext 1 x16)) fun x18 =>
 ret (.nxt [x17, x18])
 )
 ) fun o => nx o zpr
 ) fun o => zcp o fun vs => ret (zcm [(zc vs 0), (zc vs 1)])
def zjr : Hint := (.seq [] .leaf (.seq [2, 3] (.seq [] .leaf (.cond (.seq [] .leaf .leaf) .leaf)) .leaf))
def zck (l : List V) : M V := match l with | [x0] => zjq x0 | _ => fail
def zjs : zbz := ovr [(ze8, zd8)] noC
theorem zqo (x0 : V) : zde Tryz.prog (zjs) zdj zjr [x0] = zjq x0 := by kernel_rfl
theorem zjt : zb3 Tryz.prog zdj (zck) := zbw (σ := zjs) (hint := zjr) (by kernel_rfl) (zn znx z8) fun l H r H' h => by
 unfold zck at h; split at h
 · rw [zqo]; exact h
 · exact (zo h).elim
def zm1 (vs_5 : List V) : M Out :=
 zb (za (bin .sub (zc vs_5 2) (Value.int .i64 1))) fun x29 =>
 ret (.nxt [(zc vs_5 0), (zc vs_5 1), x29, (zc vs_5 3)])
def zm2 (vs_4 : List V) : M Out :=
 zb (
 zb (
 zb (za (zr7 (zc vs_4 0) (zc vs_4 2))) fun x32 =>
 zb (zhv [x32]) fun x33 =>
 zbv x33 (
 ret (.brk 0 [(zc vs_4 0), (zc vs_4 1), (zc vs_4 2)])
 ) (
 ret (.nxt [(zc vs_4 0), (zc vs_4 1), (zc vs_4 2), (zc vs_4 3)])
 )
 ) fun o => ret (zb9 1 o)
 ) fun o => nx o zm1
def zm3 (vs_3 : List V) : M Out :=
 zb (
 zb (za (bin .geq (zc vs_3 2) (zc vs_3 3))) fun x27 =>
 zbv x27 (
 ret (.nxt [(zc vs_3 0), (zc vs_3 1), (zc vs_3 2), (zc vs_3 3)])
 ) (
 ret (.brk 0 [(zc vs_3 0), (zc vs_3 1), (zc vs_3 2)])
 )
 ) fun o => nx o zm2
def zm4 (vs_8 : List V) : M Out :=
 ret (.ret [(zc vs_8 0), (zc vs_8 1)])
def zm5 (vs_7 : List V) : M Out :=
 zb (za (z54 (zc vs_7 0) (some (zc vs_7 2)) (some (zc vs_7 1)))) fun x40 =>
 zb (zck [x40]) fun x41 =>
 zb (za (ext 0 x41)) fun x42 =>
 zb (za (ext 1 x41)) fun x43 =>
 zb (
 zb (za (bin .add (zc vs_7 2) x43)) fun x46 =>
 zb (za (bin .neq x46 (zc vs_7 1))) fun x48 =>
 zbv x48 (
 ret (.ret [(Value.int .i32 65533), (Value.int .i64 1)])
 ) (
 ret (.nxt [x42, x43])
 )
 ) fun o => nx o zm4
def zm6 (vs_6 : List V) : M Out :=
 zb (
 zb (za (bin .lss (zc vs_6 2) (Value.int .i64 0))) fun x35 =>
 zbv x35 (
 ret (.nxt [(zc vs_6 0), (zc vs_6 1), (Value.int .i64 0)])
 ) (
 ret (.nxt [(zc vs_6 0), (zc vs_6 1), (zc vs_6 2)])
 )
 ) fun o => nx o zm5
def zm7 (vs_2 : List V) : M Out :=
 zb (za (bin .sub (zc vs_2 1) (Value.int .i64 4))) fun x21 =>
 zb (za (maxV x21 (Value.int .i64 0))) fun x22 =>
 zb (
 zb (za (bin .sub (zc vs_2 2) (Value.int .i64 1))) fun x24 =>
 zb (
 zc7 zem zm3 [(zc vs_2 0), (zc vs_2 1), x24, x22]
 ) fun o => ret (zb9 0 o)
 ) fun o => nx o zm6
def zm8 (vs : List V) : M Out :=
 zb (za (bin .sub (zc vs 1) (Value.int .i64 1))) fun x12 =>
 zb (za (zr7 (zc vs 0) x12)) fun x15 =>
 zb (za (cvi .i32 x15)) fun x16 =>
 zb (
 zb (za (bin .lss x16 (Value.int .i32 128))) fun x18 =>
 zbv x18 (
 ret (.ret [x16, (Value.int .i64 1)])
 ) (
 ret (.nxt [(zc vs 0), (zc vs 1), x12])
 )
 ) fun o => nx o zm7
def zid (x0 : V) : M V :=
 zb (
 zb (za (zhc x0)) fun x8 =>
 zb (
 zb (za (bin .eql x8 (Value.int .i64 0))) fun x10 =>
 zbv x10 (
 ret (.ret [(Value.int .i32 65533), (Value.int .i64 0)])
 ) (
 ret (.nxt [x0, x8])
 )
 ) fun o => nx o zm8
 ) fun o => zcp o fun vs => ret (zcm [(zc vs 0), (zc vs 1)])
def zie : Hint := (.seq [] .leaf (.seq [] .leaf (.seq [0, 4] (.seq [] .leaf (.cond (.seq [] .leaf .leaf) .leaf)) (.seq [] .leaf (.seq [] .leaf (.seq [0, 4, 5] (.seq [] .leaf (.cond (.seq [] .leaf .leaf) .leaf)) (.seq [] .leaf (.seq [0, 4, 5] (.seq [] .leaf (.blk (.loop [0, 4, 5, 6] (.seq [0, 4, 5, 6] (.seq [] .leaf (.cond .leaf .leaf)) (.seq [0, 4, 5, 6] (.blk (.seq [] .leaf (.cond .leaf .leaf))) .leaf))))) (.seq [0, 4, 5] (.seq [] .leaf (.cond .leaf .leaf)) (.seq [] .leaf (.seq [2, 3] (.seq [] .leaf (.cond (.seq [] .leaf .leaf) .leaf)) (.seq [] .leaf .leaf))))))))))))
def zc8 (l : List V) : M V := match l with | [x0] => zid x0 | _ => fail
def zif : zbz := ovr [(zja, zhv), (zdj, zck)] noC
theorem zny (x0 : V) : zde Tryz.prog (zif) zdu zie [x0] = zid x0 := by kernel_rfl
theorem znz : zb3 Tryz.prog zdu (zc8) := zbw (σ := zif) (hint := zie) (by kernel_rfl) (zn zx0 (zn zjt z8)) fun l H r H' h => by
 unfold zc8 at h; split at h
 · rw [zny]; exact h
 · exact (zo h).elim
def zq7 (G_strings_IndexRune : List V → M V) (x0 x1 : V) : M V :=
 zb (
 zb (G_strings_IndexRune [x0, x1]) fun x7 =>
 zb (za (bin .geq x7 (Value.int .i64 0))) fun x8 =>
 ret (.ret [x8])
 ) fun o => zcp o fun vs => ret (zcm [(zc vs 0)])
def zq8 : Hint := (.seq [] .leaf (.seq [] .leaf .leaf))
def zd4 (G_strings_IndexRune : List V → M V) (l : List V) : M V := match l with | [x0, x1] => zq7 G_strings_IndexRune x0 x1 | _ => fail
theorem zz0 (G_strings_IndexRune : List V → M V) (x0 x1 : V) : zde Tryz.prog (ovr [(zb1, G_strings_IndexRune)] noC) zew zq8 [x0, x1] = zq7 G_strings_IndexRune x0 x1 := by kernel_rfl
theorem zq9 {G_strings_IndexRune : List V → M V} (k_strings_IndexRune : zb3 Tryz.prog zb1 G_strings_IndexRune) : zb3 Tryz.prog zew (zd4 G_strings_IndexRune) := zbw (σ := ovr [(zb1, G_strings_IndexRune)] noC) (hint := zq8) (by kernel_rfl) (zn k_strings_IndexRune z8) fun l H r H' h => by
 unfold zd4 at h; split at h
 · rw [zz0]; exact h
 · exact (zo h).elim
def zug (G_strings_IndexRune : List V → M V) (vs_4 : List V) : M Out :=
 zb (za (zhc (zc vs_4 0))) fun x29 =>
 zb (za (bin .sub x29 (zc vs_4 2))) fun x31 =>
 zb (za (z54 (zc vs_4 0) none (some x31))) fun x32 =>
 ret (.nxt [x32, (zc vs_4 1)])
def zuh (G_strings_IndexRune : List V → M V) (vs_3 : List V) : M Out :=
 zb (
 zb ((zd4 G_strings_IndexRune) [(zc vs_3 1), (zc vs_3 2)]) fun x25 =>
 zb (za (un .not x25)) fun x26 =>
 zbv x26 (
 ret (.brk 0 [(zc vs_3 0)])
 ) (
 ret (.nxt [(zc vs_3 0), (zc vs_3 1), (zc vs_3 3)])
 )
 ) fun o => nx o (zug G_strings_IndexRune)
def zui (G_strings_IndexRune : List V → M V) (vs_2 : List V) : M Out :=
 zb (
 zb (za (zhc (zc vs_2 0))) fun x12 =>
 zb (za (bin .sub x12 (Value.int .i64 1))) fun x13 =>
 zb (za (zr7 (zc vs_2 0) x13)) fun x14 =>
 zb (za (cvi .i32 x14)) fun x15 =>
 zb (
 zb (za (bin .geq x15 (Value.int .i32 128))) fun x17 =>
 zbv x17 (
 zb (zc8 [(zc vs_2 0)]) fun x20 =>
 zb (za (ext 0 x20)) fun x21 =>
 zb (za (ext 1 x20)) fun x22 =>
 ret (.nxt [(zc vs_2 0), (zc vs_2 1), x21, x22])
 ) (
 ret (.nxt [(zc vs_2 0), (zc vs_2 1), x15, (Value.int .i64 1)])
 )
 ) fun o => nx o (zuh G_strings_IndexRune)
 ) fun o => ret (zb9 1 o)
def zuj (G_strings_IndexRune : List V → M V) (vs : List V) : M Out :=
 zb (
 zb (za (zhc (zc vs 0))) fun x8 =>
 zb (za (bin .gtr x8 (Value.int .i64 0))) fun x9 =>
 zbv x9 (
 ret (.nxt [(zc vs 0), (zc vs 1)])
 ) (
 ret (.brk 0 [(zc vs 0)])
 )
 ) fun o => nx o (zui G_strings_IndexRune)
def zuk (G_strings_IndexRune : List V → M V) (vs_5 : List V) : M Out :=
 ret (.ret [(zc vs_5 0)])
def zm9 (G_strings_IndexRune : List V → M V) (x0 x1 : V) : M V :=
 zb (
 zb (
 zb (
 zc7 zem (zuj G_strings_IndexRune) [x0, x1]
 ) fun o => ret (zb9 0 o)
 ) fun o => nx o (zuk G_strings_IndexRune)
 ) fun o => zcp o fun vs => ret (zcm [(zc vs 0)])
def zna : Hint := (.seq [] .leaf (.seq [0] (.blk (.loop [0, 1] (.seq [0, 1] (.seq [] .leaf (.cond .leaf .leaf)) (.blk (.seq [] .leaf (.seq [0, 1, 5, 6] (.seq [] .leaf (.cond .leaf .leaf)) (.seq [0, 1, 6] (.seq [] .leaf (.cond .leaf .leaf)) .leaf))))))) (.seq [] .leaf .leaf)))
def zff (G_strings_IndexRune : List V → M V) (l : List V) : M V := match l with | [x0, x1] => zm9 G_strings_IndexRune x0 x1 | _ => fail
theorem zvk (G_strings_IndexRune : List V → M V) (x0 x1 : V) : zde Tryz.prog (ovr [(zdu, zc8), (zew, zd4 G_strings_IndexRune)] noC) zf6 zna [x0, x1] = zm9 G_strings_IndexRune x0 x1 := by kernel_rfl
theorem zvl {G_strings_IndexRune : List V → M V} (k_strings_IndexRune : zb3 Tryz.prog zb1 G_strings_IndexRune) : zb3 Tryz.prog zf6 (zff G_strings_IndexRune) := zbw (σ := ovr [(zdu, zc8), (zew, zd4 G_strings_IndexRune)] noC) (hint := zna) (by kernel_rfl) (zn znz (zn (zq9 k_strings_IndexRune) z8)) fun l H r H' h => by
 unfold zff at h; split at h
 · rw [zvk]; exact h
 · exact (zo h).elim
def zvm (G_strings_IndexRune : List V → M V) (vs_3 : List V) : M Out :=
 zb (za (z54 (zc vs_3 0) (some (zc vs_3 2)) none)) fun x21 =>
 ret (.nxt [x21, (zc vs_3 1)])
def zvn (G_strings_IndexRune : List V → M V) (vs_2 : List V) : M Out :=
 zb (
 zb (zck [(zc vs_2 0)]) fun x12 =>
 zb (za (ext 0 x12)) fun x13 =>
 zb (za (ext 1 x12)) fun x14 =>
 zb (
 zb ((zd4 G_strings_IndexRune) [(zc vs_2 1), x13]) fun x17 =>
 zb (za (un .not x17)) fun x18 =>
 zbv x18 (
 ret (.brk 0 [(zc vs_2 0)])
 ) (
 ret (.nxt [(zc vs_2 0), (zc vs_2 1), x14])
 )
 ) fun o => nx o (zvm G_strings_IndexRune)
 ) fun o => ret (zb9 1 o)
def zvo (G_strings_IndexRune : List V → M V) (vs : List V) : M Out :=
 zb (
 zb (za (zhc (zc vs 0))) fun x8 =>
 zb (za (bin .gtr x8 (Value.int .i64 0))) fun x9 =>
 zbv x9 (
 ret (.nxt [(zc vs 0), (zc vs 1)])
 ) (
 ret (.brk 0 [(zc vs 0)])
 )
 ) fun o => nx o (zvn G_strings_IndexRune)
def zvp (G_strings_IndexRune : List V → M V) (vs_4 : List V) : M Out :=
 ret (.ret [(zc vs_4 0)])
def zog (G_strings_IndexRune : List V → M V) (x0 x1 : V) : M V :=
 zb (
 zb (
 zb (
 zc7 zem (zvo G_strings_IndexRune) [x0, x1]
 ) fun o => ret (zb9 0 o)
 ) fun o => nx o (zvp G_strings_IndexRune)
 ) fun o => zcp o fun vs => ret (zcm [(zc vs 0)])
def zoh : Hint := (.seq [] .leaf (.seq [0] (.blk (.loop [0, 1] (.seq [0, 1] (.seq [] .leaf (.cond .leaf .leaf)) (.blk (.seq [] .leaf (.seq [0, 1, 6] (.seq [] .leaf (.cond .leaf .leaf)) .leaf)))))) (.seq [] .leaf .leaf)))
def zft (G_strings_IndexRune : List V → M V) (l : List V) : M V := match l with | [x0, x1] => zog G_strings_IndexRune x0 x1 | _ => fail
theorem zwp (G_strings_IndexRune : List V → M V) (x0 x1 : V) : zde Tryz.prog (ovr [(zdj, zck), (zew, zd4 G_strings_IndexRune)] noC) zgf zoh [x0, x1] = zog G_strings_IndexRune x0 x1 := by kernel_rfl
theorem zwq {G_strings_IndexRune : List V → M V} (k_strings_IndexRune : zb3 Tryz.prog zb1 G_strings_IndexRune) : zb3 Tryz.prog zgf (zft G_strings_IndexRune) := zbw (σ := ovr [(zdj, zck), (zew, zd4 G_strings_IndexRune)] noC) (hint := zoh) (by kernel_rfl) (zn zjt (zn (zq9 k_strings_IndexRune) z8)) fun l H r H' h => by
 unfold zft at h; split at h
 · rw [zwp]; exact h
 · exact (zo h).elim
def zbaq (G_strings_IndexRune : List V → M V) (vs_3 : List V) : M Out :=
 zb ((zff G_strings_IndexRune) [(zc vs_3 0), (zc vs_3 1)]) fun x40 =>
 zb ((zft G_strings_IndexRune) [x40, (zc vs_3 1)]) fun x42 =>
 ret (.ret [x42])
def z0l (G_strings_IndexRune : List V → M V) (vs_2 : List V) : M Out :=
 zb (
 zb (zfq [(zc vs_2 1)]) fun x31 =>
 zb (za (ext 0 x31)) fun x32 =>
 zb (za (ext 1 x31)) fun x33 =>
 zb (newc (List.replicate 256 (Value.bool false))) fun x5 =>
 zb (stn 256 x5 x32) fun _ =>
 zbv x33 (
 zb (zex [(zc vs_2 0), x5]) fun x36 =>
 zb (zfa [x36, x5]) fun x37 =>
 ret (.ret [x37])
 ) (
 ret (.nxt [(zc vs_2 0), (zc vs_2 1)])
 )
 ) fun o => nx o (zbaq G_strings_IndexRune)
def z0m (G_strings_IndexRune : List V → M V) (vs : List V) : M Out :=
 zb (
 zb (za (zhc (zc vs 1))) fun x15 =>
 zb (za (bin .eql x15 (Value.int .i64 1))) fun x16 =>
 zb (gd x16 true (za (some (zc vs 1)))) fun x18 =>
 zb (gd x16 true (za (zr7 x18 (Value.int .i64 0)))) fun x19 =>
 zb (gd x16 true (za (bin .lss x19 (Value.int .u8 128)))) fun x20 =>
 zb (za (zcd x16 x20 (Value.bool false))) fun x21 =>
 zbv x21 (
 zb (za (zr7 (zc vs 1) (Value.int .i64 0))) fun x24 =>
 zb (za (zr7 (zc vs 1) (Value.int .i64 0))) fun x27 =>
 zb (zge [(zc vs 0), x24]) fun x25 =>
 zb (zgp [x25, x27]) fun x28 =>
 ret (.ret [x28])
 ) (
 ret (.nxt [(zc vs 0), (zc vs 1)])
 )
 ) fun o => nx o (z0l G_strings_IndexRune)
def znb (G_strings_IndexRune : List V → M V) (x0 x1 : V) : M V :=
 zb (
 zb (
 zb (za (bin .eql x0 (Value.string ⟨#[]⟩))) fun x8 =>
 zb (gd x8 false (za (some x1))) fun x10 =>
 zb (gd x8 false (za (bin .eql x10 (Value.string ⟨#[]⟩)))) fun x11 =>
 zb (za (zcd x8 (Value.bool true) x11)) fun x12 =>
 zbv x12 (
 ret (.ret [x0])
 ) (
 ret (.nxt [x0, x1])
 )
 ) fun o => nx o (z0m G_strings_IndexRune)
 ) fun o => zcp o fun vs => ret (zcm [(zc vs 0)])
def z1i : Hint := (.seq [] .leaf (.seq [0, 1] (.seq [] .leaf (.cond (.seq [] .leaf .leaf) .leaf)) (.seq [0, 1] (.seq [] .leaf (.cond (.seq [] (.reg [0, 1, 2, 4, 5, 3, 6, 7] []) .leaf) .leaf)) (.seq [0, 1] (.seq [] .leaf (.seq [] .leaf (.cond (.seq [] .leaf .leaf) .leaf))) (.seq [] .leaf .leaf)))))
def zen (G_strings_IndexRune : List V → M V) (l : List V) : M V := match l with | [x0, x1] => znb G_strings_IndexRune x0 x1 | _ => fail
theorem zbb7 (G_strings_IndexRune : List V → M V) (x0 x1 : V) : zde Tryz.prog (ovr [(zg3, zge), (zhs, zgp), (zht, zfq), (zgo, zex), (zg4, zfa), (zf6, zff G_strings_IndexRune), (zgf, zft G_strings_IndexRune)] noC) zgd z1i [x0, x1] = znb G_strings_IndexRune x0 x1 := by kernel_rfl
theorem zvq {G_strings_IndexRune : List V → M V} (k_strings_IndexRune : zb3 Tryz.prog zb1 G_strings_IndexRune) : zb3 Tryz.prog zgd (zen G_strings_IndexRune) := zbw (σ := ovr [(zg3, zge), (zhs, zgp), (zht, zfq), (zgo, zex), (zg4, zfa), (zf6, zff G_strings_IndexRune), (zgf, zft G_strings_IndexRune)] noC) (hint := z1i) (by kernel_rfl) (zn zyt (zn zzx (zn zzz (zn zxy (zn zyy (zn (zvl k_strings_IndexRune) (zn (zwq k_strings_IndexRune) z8))))))) fun l H r H' h => by
 unfold zen at h; split at h
 · rw [zbb7]; exact h
 · exact (zo h).elim
def zvr (G_strings_IndexRune : List V → M V) (G_strconv_Atoi : List V → M V) (vs : List V) : M Out :=
 zb (G_strconv_Atoi [(zc vs 0)]) fun x30 =>
 zb (za (ext 0 x30)) fun x31 =>
 zb (za (ext 1 x30)) fun x32 =>
 zb (za (zey false (zgb .i x32))) fun x35 =>
 zb (gd x35 true (za (some x31))) fun x37 =>
 zb (gd x35 true (za (bin .leq x37 (Value.int .i64 1000000000)))) fun x38 =>
 zb (za (zcd x35 x38 (Value.bool false))) fun x39 =>
 ret (.ret [x31, x39])
def zl0 (G_strings_IndexRune : List V → M V) (G_strconv_Atoi : List V → M V) (x0 : V) : M V :=
 zb (
 zb (
 zb (za (bin .eql x0 (Value.string ⟨#[]⟩))) fun x7 =>
 zb (gd x7 false (za (some x0))) fun x9 =>
 zb (gd x7 false (za (zhc x9))) fun x10 =>
 zb (gd x7 false (za (bin .gtr x10 (Value.int .i64 10)))) fun x11 =>
 zb (za (zcd x7 (Value.bool true) x11)) fun x12 =>
 zb (gd x12 false (za (some x0))) fun x14 =>
 zb (gd x12 false ((zen G_strings_IndexRune) [x14, (Value.string ⟨#[48, 49, 50, 51, 52, 53, 54, 55, 56, 57]⟩)])) fun x15 =>
 zb (gd x12 false (za (bin .neq x15 (Value.string ⟨#[]⟩)))) fun x16 =>
 zb (za (zcd x12 (Value.bool true) x16)) fun x17 =>
 zb (gd x17 false (za (some x0))) fun x19 =>
 zb (gd x17 false (za (zhc x19))) fun x20 =>
 zb (gd x17 false (za (bin .gtr x20 (Value.int .i64 1)))) fun x21 =>
 zb (gd x17 false (za (some x21))) fun x22 =>
 zb (gd x22 true (za (some x0))) fun x23 =>
 zb (gd x22 true (za (zr7 x23 (Value.int .i64 0)))) fun x24 =>
 zb (gd x22 true (za (bin .eql x24 (Value.int .u8 48)))) fun x25 =>
 zb (gd x17 false (za (zcd x22 x25 (Value.bool false)))) fun x26 =>
 zb (za (zcd x17 (Value.bool true) x26)) fun x27 =>
 zbv x27 (
 ret (.ret [(Value.int .i64 0), (Value.bool false)])
 ) (
 ret (.nxt [x0])
 )
 ) fun o => nx o (zvr G_strings_IndexRune G_strconv_Atoi)
 ) fun o => zcp o fun vs => ret (zcm [(zc vs 0), (zc vs 1)])
def z3f : Hint := (.seq [] .leaf (.seq [0] (.seq [] .leaf (.cond (.seq [] .leaf .leaf) .leaf)) (.seq [] .leaf (.seq [] .leaf .leaf))))
def zfn (G_strings_IndexRune : List V → M V) (G_strconv_Atoi : List V → M V) (l : List V) : M V := match l with | [x0] => zl0 G_strings_IndexRune G_strconv_Atoi x0 | _ => fail
theorem zbds (G_strings_IndexRune : List V → M V) (G_strconv_Atoi : List V → M V) (x0 : V) : zde Tryz.prog (ovr [(zgd, zen G_strings_IndexRune), (zcj, G_strconv_Atoi)] noC) zgt z3f [x0] = zl0 G_strings_IndexRune G_strconv_Atoi x0 := by kernel_rfl
theorem zx1 {G_strings_IndexRune : List V → M V} {G_strconv_Atoi : List V → M V} (k_strings_IndexRune : zb3 Tryz.prog zb1 G_strings_IndexRune) (k_strconv_Atoi : zb3 Tryz.prog zcj G_strconv_Atoi) : zb3 Tryz.prog zgt (zfn G_strings_IndexRune G_strconv_Atoi) := zbw (σ := ovr [(zgd, zen G_strings_IndexRune), (zcj, G_strconv_Atoi)] noC) (hint := z3f) (by kernel_rfl) (zn (zvq k_strings_IndexRune) (zn k_strconv_Atoi z8)) fun l H r H' h => by
 unfold zfn at h; split at h
 · rw [zbds]; exact h
 · exact (zo h).elim
def z0n (G_strings_IndexRune : List V → M V) (G_strconv_Atoi : List V → M V) (vs_3 : List V) : M Out :=
 zb (zjx 1 1 (rep 1 [Value.int .i64 0]) [(0, 1, (zc vs_3 2))]) fun x26 =>
 zb (zj3 1 8 (zc vs_3 1) x26) fun x27 =>
 ret (.nxt [(zc vs_3 0), x27, (zc vs_3 3), (zc vs_3 4), (zc vs_3 5)])
def z0o (G_strings_IndexRune : List V → M V) (G_strconv_Atoi : List V → M V) (vs_4 : List V) : M Out :=
 zb (za (bin .add (zc vs_4 4) (Value.int .i64 1))) fun x28 =>
 ret (.nxt [(zc vs_4 0), (zc vs_4 1), (zc vs_4 2), (zc vs_4 3), x28])
def z0p (G_strings_IndexRune : List V → M V) (G_strconv_Atoi : List V → M V) (vs_2 : List V) : M Out :=
 zb (
 zb (
 zb (za (zb5 1 (zc vs_2 2) (zc vs_2 4))) fun x15 =>
 zb (ld1 x15) fun x16 =>
 zb ((zfn G_strings_IndexRune G_strconv_Atoi) [x16]) fun x19 =>
 zb (za (ext 0 x19)) fun x20 =>
 zb (za (ext 1 x19)) fun x21 =>
 zb (
 zb (za (un .not x21)) fun x23 =>
 zbv x23 (
 ret (.ret [(Value.slice none 0 0), (Value.bool false)])
 ) (
 ret (.nxt [(zc vs_2 0), (zc vs_2 1), x20, (zc vs_2 2), (zc vs_2 3), (zc vs_2 4)])
 )
 ) fun o => nx o (z0n G_strings_IndexRune G_strconv_Atoi)
 ) fun o => ret (zb9 1 o)
 ) fun o => nx o (z0o G_strings_IndexRune G_strconv_Atoi)
def zpn (G_strings_IndexRune : List V → M V) (G_strconv_Atoi : List V → M V) (vs : List V) : M Out :=
 zb (za (bin .lss (zc vs 4) (zc vs 3))) fun x14 =>
 zb (
 zbv x14 (
 ret (.nxt [(zc vs 0), (zc vs 1), (zc vs 2), (zc vs 3), (zc vs 4)])
 ) (
 ret (.brk 0 [(zc vs 0), (zc vs 1)])
 )
 ) fun o => nx o (z0p G_strings_IndexRune G_strconv_Atoi)
def zth (G_strings_IndexRune : List V → M V) (G_strconv_Atoi : List V → M V) (vs_5 : List V) : M Out :=
 zb (za (zb4 (zc vs_5 1))) fun x31 =>
 zb (za (bin .eql x31 (zc vs_5 0))) fun x33 =>
 ret (.ret [(zc vs_5 1), x33])
def zra (G_strings_IndexRune : List V → M V) (G_strconv_Atoi : List V → M V) (x0 x1 : V) : M V :=
 zb (
 zb (
 zb (za (zb4 x0)) fun x12 =>
 zb (
 zc7 zem (zpn G_strings_IndexRune G_strconv_Atoi) [x1, (Value.slice none 0 0), x0, x12, (Value.int .i64 0)]
 ) fun o => ret (zb9 0 o)
 ) fun o => nx o (zth G_strings_IndexRune G_strconv_Atoi)
 ) fun o => zcp o fun vs => ret (zcm [(zc vs 0), (zc vs 1)])
def z1j : Hint := (.seq [] .leaf (.seq [] .leaf (.seq [1, 6] (.seq [] .leaf (.blk (.loop [1, 6, 11, 12, 13] (.seq [] .leaf (.seq [1, 6, 11, 12, 13] (.cond .leaf .leaf) (.seq [1, 6, 11, 12, 13] (.blk (.seq [] .leaf (.seq [] .leaf (.seq [1, 6, 9, 11, 12, 13] (.seq [] .leaf (.cond (.seq [] .leaf .leaf) .leaf)) .leaf)))) .leaf)))))) (.seq [] .leaf .leaf))))
def zcv (G_strings_IndexRune : List V → M V) (G_strconv_Atoi : List V → M V) (l : List V) : M V := match l with | [x0, x1] => zra G_strings_IndexRune G_strconv_Atoi x0 x1 | _ => fail
theorem zbb8 (G_strings_IndexRune : List V → M V) (G_strconv_Atoi : List V → M V) (x0 x1 : V) : zde Tryz.prog (ovr [(zgt, zfn G_strings_IndexRune G_strconv_Atoi)] noC) zdy z1j [x0, x1] = zra G_strings_IndexRune G_strconv_Atoi x0 x1 := by kernel_rfl
theorem znc {G_strings_IndexRune : List V → M V} {G_strconv_Atoi : List V → M V} (k_strings_IndexRune : zb3 Tryz.prog zb1 G_strings_IndexRune) (k_strconv_Atoi : zb3 Tryz.prog zcj G_strconv_Atoi) : zb3 Tryz.prog zdy (zcv G_strings_IndexRune G_strconv_Atoi) := zbw (σ := ovr [(zgt, zfn G_strings_IndexRune G_strconv_Atoi)] noC) (hint := z1j) (by kernel_rfl) (zn (zx1 k_strings_IndexRune k_strconv_Atoi) z8) fun l H r H' h => by
 unfold zcv at h; split at h
 · rw [zbb8]; exact h
 · exact (zo h).elim
def zl5 (G_strings_IndexRune : List V → M V) (G_strconv_Atoi : List V → M V) (vs_2 : List V) : M Out :=
 zr6 fun h0 =>
 zb (za (zez (zc vs_2 0))) fun x50 =>
 zb (za (z6 9 x50)) fun x51 =>
 zb (za (zb5 1 (zc vs_2 1) (Value.int .i64 0))) fun x54 =>
 zb (ld1 x51) fun x52 =>
 zb (ld1 x54) fun x55 =>
 zgn (zjx 1 1 (rep 1 [Value.string ⟨#[]⟩]) [(0, 1, x55)]) fun ha x56 h1 =>
 zgn (zj3 1 16 x52 x56) fun ha_2 x57 h2 =>
 zb (za (zez (zc vs_2 0))) fun x58 =>
 zb (za (z6 9 x58)) fun x59 =>
 zgn (st1 x59 x57) fun ha_3 u h3 =>
 zqr (chk (ld1 x51) h1 x52) <|
 ret (.ret [(Value.bool true)])
def zjo (G_strings_IndexRune : List V → M V) (G_strconv_Atoi : List V → M V) (vs : List V) : M Out :=
 zb (
 zb (za (zb5 1 (zc vs 1) (Value.int .i64 0))) fun x16 =>
 zb (ld1 x16) fun x17 =>
 zb (
 zb (za (bin .eql x17 (Value.string ⟨#[109, 105, 108, 108, 105, 115]⟩))) fun x19 =>
 zbv x19 (
 zb (za (zb5 1 (zc vs 2) (Value.int .i64 0))) fun x22 =>
 zb (ld1 x22) fun x23 =>
 zb (za (zez (zc vs 0))) fun x24 =>
 zb (za (z6 0 x24)) fun x25 =>
 zb (za (z6 0 x25)) fun x26 =>
 zb (za (z6 6 x26)) fun x27 =>
 zb (st1 x27 x23) fun _ =>
 ret (.nxt [(zc vs 0), (zc vs 1)])
 ) (
 zb (za (bin .eql x17 (Value.string ⟨#[102, 114, 97, 109, 101]⟩))) fun x29 =>
 zbv x29 (
 zb (za (zb5 1 (zc vs 2) (Value.int .i64 0))) fun x32 =>
 zb (ld1 x32) fun x33 =>
 zb (za (zez (zc vs 0))) fun x34 =>
 zb (za (z6 0 x34)) fun x35 =>
 zb (za (z6 0 x35)) fun x36 =>
 zb (za (z6 3 x36)) fun x37 =>
 zb (za (z6 0 x37)) fun x38 =>
 zb (st1 x38 x33) fun _ =>
 ret (.nxt [(zc vs 0), (zc vs 1)])
 ) (
 zb (za (bin .eql x17 (Value.string ⟨#[105, 100, 108, 101]⟩))) fun x40 =>
 zbv x40 (
 zb (za (zb5 1 (zc vs 2) (Value.int .i64 0))) fun x43 =>
 zb (ld1 x43) fun x44 =>
 zb (za (zez (zc vs 0))) fun x45 =>
 zb (za (z6 0 x45)) fun x46 =>
 zb (za (z6 8 x46)) fun x47 =>
 zb (st1 x47 x44) fun _ =>
 ret (.nxt [(zc vs 0), (zc vs 1)])
 ) (
 ret (.nxt [(zc vs 0), (zc vs 1)])
 )
 )
 )
 ) fun o => ret (zb9 0 o)
 ) fun o => nx o (zl5 G_strings_IndexRune G_strconv_Atoi)
def zj5 (G_strings_IndexRune : List V → M V) (G_strconv_Atoi : List V → M V) (x0 x1 : V) : M V :=
 zb (
 zb (za (zjw 1 x1 (some (Value.int .i64 1)) none)) fun x9 =>
 zb ((zcv G_strings_IndexRune G_strconv_Atoi) [x9, (Value.int .i64 1)]) fun x10 =>
 zb (za (ext 0 x10)) fun x11 =>
 zb (za (ext 1 x10)) fun x12 =>
 zb (
 zb (za (un .not x12)) fun x14 =>
 zbv x14 (
 ret (.ret [(Value.bool false)])
 ) (
 ret (.nxt [x0, x1, x11])
 )
 ) fun o => nx o (zjo G_strings_IndexRune G_strconv_Atoi)
 ) fun o => zcp o fun vs => ret (zcm [(zc vs 0)])
def zsz : Hint := (.seq [] .leaf (.seq [] .leaf (.seq [0, 1, 5] (.seq [] .leaf (.cond (.seq [] .leaf .leaf) .leaf)) (.seq [0, 1] (.seq [] .leaf (.blk (.seq [] .leaf (.cond .leaf (.seq [] .leaf (.cond .leaf (.seq [] .leaf (.cond .leaf .leaf)))))))) (.seq [] (.reg [0, 1, 2, 3, 5, 6, 4, 7, 8, 9, 10, 11, 12] []) (.seq [] .leaf .leaf))))))
def zeh (G_strings_IndexRune : List V → M V) (G_strconv_Atoi : List V → M V) (l : List V) : M V := match l with | [x0, x1] => zj5 G_strings_IndexRune G_strconv_Atoi x0 x1 | _ => fail
theorem z1k (G_strings_IndexRune : List V → M V) (G_strconv_Atoi : List V → M V) (x0 x1 : V) : zde Tryz.prog (ovr [(zdy, zcv G_strings_IndexRune G_strconv_Atoi)] noC) zce zsz [x0, x1] = zj5 G_strings_IndexRune G_strconv_Atoi x0 x1 := by kernel_rfl
theorem z1l {G_strings_IndexRune : List V → M V} {G_strconv_Atoi : List V → M V} (k_strings_IndexRune : zb3 Tryz.prog zb1 G_strings_IndexRune) (k_strconv_Atoi : zb3 Tryz.prog zcj G_strconv_Atoi) : zb3 Tryz.prog zce (zeh G_strings_IndexRune G_strconv_Atoi) := zbw (σ := ovr [(zdy, zcv G_strings_IndexRune G_strconv_Atoi)] noC) (hint := zsz) (by kernel_rfl) (zn (znc k_strings_IndexRune k_strconv_Atoi) z8) fun l H r H' h => by
 unfold zeh at h; split at h
 · rw [z1k]; exact h
 · exact (zo h).elim
def zki (vs_3 : List V) : M Out :=
 zb (za (bin .add (zc vs_3 3) (Value.int .i64 1))) fun x18 =>
 ret (.nxt [(zc vs_3 0), (zc vs_3 1), (zc vs_3 2), x18])
def zg2 (vs_2 : List V) : M Out :=
 zb (
 zb (
 zb (za (zb5 1 (zc vs_2 0) (zc vs_2 3))) fun x14 =>
 zb (ld1 x14) fun x15 =>
 zb (za (bin .eql (zc vs_2 1) x15)) fun x16 =>
 zbv x16 (
 ret (.ret [(zc vs_2 3)])
 ) (
 ret (.nxt [(zc vs_2 0), (zc vs_2 1), (zc vs_2 2), (zc vs_2 3)])
 )
 ) fun o => ret (zb9 1 o)
 ) fun o => nx o zki
def zfb (vs : List V) : M Out :=
 zb (za (bin .lss (zc vs 3) (zc vs 2))) fun x9 =>
 zb (
 zbv x9 (
 ret (.nxt [(zc vs 0), (zc vs 1), (zc vs 2), (zc vs 3)])
 ) (
 ret (.brk 0 [])
 )
 ) fun o => nx o zg2
def zkj (vs_4 : List V) : M Out :=
 ret (.ret [(Value.int .i64 (-1))])
def zfr (x0 x1 : V) : M V :=
 zb (
 zb (
 zb (za (zb4 x0)) fun x7 =>
 zb (
 zc7 zem zfb [x0, x1, x7, (Value.int .i64 0)]
 ) fun o => ret (zb9 0 o)
 ) fun o => nx o zkj
 ) fun o => zcp o fun vs => ret (zcm [(zc vs 0)])
def zk1 : Hint := (.seq [] .leaf (.seq [] (.seq [] .leaf (.blk (.loop [0, 1, 7, 8] (.seq [] .leaf (.seq [0, 1, 7, 8] (.cond .leaf .leaf) (.seq [0, 1, 7, 8] (.blk (.seq [] .leaf (.seq [] .leaf (.cond (.seq [] .leaf .leaf) .leaf)))) .leaf)))))) (.seq [] .leaf .leaf)))
def zb7 (l : List V) : M V := match l with | [x0, x1] => zfr x0 x1 | _ => fail
theorem zr9 (x0 x1 : V) : zde Tryz.prog (ovr [] noC) zci zk1 [x0, x1] = zfr x0 x1 := by kernel_rfl
theorem zfs : zb3 Tryz.prog zci (zb7) := zbw (σ := ovr [] noC) (hint := zk1) (by kernel_rfl) z8 fun l H r H' h => by
 unfold zb7 at h; split at h
 · rw [zr9]; exact h
 · exact (zo h).elim
def zw5 (x0 : V) : M V :=
 zb (
 zb (za (subA 4 1 (ptr gid_conf_types 0) (some (Value.int .i64 1)) none)) fun x5 =>
 zb (zb7 [x5, x0]) fun x7 =>
 zb (za (bin .add x7 (Value.int .i64 1))) fun x8 =>
 zb (za (bin .gtr x8 (Value.int .i64 0))) fun x11 =>
 ret (.ret [x8, x11])
 ) fun o => zcp o fun vs => ret (zcm [(zc vs 0), (zc vs 1)])
def z9x : Hint := (.seq [] .leaf (.seq [] .leaf (.seq [] .leaf .leaf)))
def zlc (l : List V) : M V := match l with | [x0] => zw5 x0 | _ => fail
def z9y : zbz := ovr [(zci, zb7)] noC
theorem zbir (x0 : V) : zde Tryz.prog (z9y) zoz z9x [x0] = zw5 x0 := by kernel_rfl
theorem z9z : zb3 Tryz.prog zoz (zlc) := zbw (σ := z9y) (hint := z9x) (by kernel_rfl) (zn zfs z8) fun l H r H' h => by
 unfold zlc at h; split at h
 · rw [zbir]; exact h
 · exact (zo h).elim
def zs0 (vs : List V) : M Out :=
 zb (za (zb5 1 (zc vs 1) (Value.int .i64 1))) fun x12 =>
 zb (ld1 x12) fun x13 =>
 zb (zlc [x13]) fun x14 =>
 zb (za (ext 0 x14)) fun x15 =>
 zb (za (ext 1 x14)) fun x16 =>
 zr6 fun h0 =>
 zb (za (zez (zc vs 0))) fun x19 =>
 zb (za (z6 0 x19)) fun x20 =>
 zb (za (z6 0 x20)) fun x21 =>
 zb (za (z6 0 x21)) fun x22 =>
 zb (za (zb5 1 (zc vs 1) (Value.int .i64 0))) fun x26 =>
 zb (ld1 x22) fun x23 =>
 zb (ld1 x26) fun x27 =>
 zb (za (bin .eql x27 (Value.string ⟨#[111, 117, 116]⟩))) fun x28 =>
 zb (za (build [Value.int .i64 0, Value.bool false] [(0, 1, x15), (1, 1, x28)])) fun x29 =>
 zgn (zjx 2 1 (rep 1 [Value.int .i64 0, Value.bool false]) [(0, 2, x29)]) fun ha x30 h1 =>
 zgn (zj3 2 16 x23 x30) fun ha_2 x31 h2 =>
 zb (za (zez (zc vs 0))) fun x32 =>
 zb (za (z6 0 x32)) fun x33 =>
 zb (za (z6 0 x33)) fun x34 =>
 zb (za (z6 0 x34)) fun x35 =>
 zgn (st1 x35 x31) fun ha_3 u h3 =>
 zqr (chk (ld1 x22) h1 x23) <|
 ret (.ret [x16])
def zis (x0 x1 : V) : M V :=
 zb (
 zb (
 zb (za (zb4 x1)) fun x8 =>
 zb (za (bin .neq x8 (Value.int .i64 2))) fun x9 =>
 zbv x9 (
 ret (.ret [(Value.bool false)])
 ) (
 ret (.nxt [x0, x1])
 )
 ) fun o => nx o zs0
 ) fun o => zcp o fun vs => ret (zcm [(zc vs 0)])
def ztp : Hint := (.seq [] .leaf (.seq [0, 1] (.seq [] .leaf (.cond (.seq [] .leaf .leaf) .leaf)) (.seq [] .leaf (.seq [] (.reg [0, 1, 2, 3, 4, 5, 7, 8, 9, 6, 10, 11, 12, 13, 14, 15, 16, 17, 18, 19] []) (.seq [] .leaf .leaf)))))
def ze1 (l : List V) : M V := match l with | [x0, x1] => zis x0 x1 | _ => fail
def ztq : zbz := ovr [(zoz, zlc)] noC
theorem z29 (x0 x1 : V) : zde Tryz.prog (ztq) zcs ztp [x0, x1] = zis x0 x1 := by kernel_rfl
theorem z3a : zb3 Tryz.prog zcs (ze1) := zbw (σ := ztq) (hint := ztp) (by kernel_rfl) (zn z9z z8) fun l H r H' h => by
 unfold ze1 at h; split at h
 · rw [z29]; exact h
 · exact (zo h).elim
def znd (G_strings_IndexRune : List V → M V) (G_strconv_Atoi : List V → M V) (vs : List V) : M Out :=
 ret (.ret [(zc vs 0)])
def zko (G_strings_IndexRune : List V → M V) (G_strconv_Atoi : List V → M V) (x0 x1 : V) : M V :=
 zb (
 zb (za (zjw 1 x1 (some (Value.int .i64 1)) none)) fun x9 =>
 zb ((zcv G_strings_IndexRune G_strconv_Atoi) [x9, (Value.int .i64 2)]) fun x10 =>
 zb (za (ext 0 x10)) fun x11 =>
 zb (za (ext 1 x10)) fun x12 =>
 zb (
 zbv x12 (
 zr6 fun h0 =>
 zb (za (zez x0)) fun x16 =>
 zb (za (z6 0 x16)) fun x17 =>
 zb (za (z6 0 x17)) fun x18 =>
 zb (za (z6 1 x18)) fun x19 =>
 zb (za (zb5 1 x11 (Value.int .i64 0))) fun x22 =>
 zb (za (zb5 1 x11 (Value.int .i64 1))) fun x25 =>
 zb (za (zb5 1 x1 (Value.int .i64 0))) fun x28 =>
 zb (ld1 x19) fun x20 =>
 zb (ld1 x22) fun x23 =>
 zb (ld1 x25) fun x26 =>
 zb (ld1 x28) fun x29 =>
 zb (za (bin .eql x29 (Value.string ⟨#[119, 114, 105, 116, 101]⟩))) fun x30 =>
 zb (za (build [Value.int .i64 0, Value.int .i64 0, Value.bool false] [(0, 1, x23), (1, 1, x26), (2, 1, x30)])) fun x31 =>
 zgn (zjx 3 1 (rep 1 [Value.int .i64 0, Value.int .i64 0, Value.bool false]) [(0, 3, x31)]) fun ha x32 h1 =>
 zgn (zj3 3 24 x20 x32) fun ha_2 x33 h2 =>
 zb (za (zez x0)) fun x34 =>
 zb (za (z6 0 x34)) fun x35 =>
 zb (za (z6 0 x35)) fun x36 =>
 zb (za (z6 1 x36)) fun x37 =>
 zgn (st1 x37 x33) fun ha_3 u h3 =>
 zqr (chk (ld1 x19) h1 x20) <|
 ret (.nxt [x12])
 ) (
 ret (.nxt [x12])
 )
 ) fun o => nx o (znd G_strings_IndexRune G_strconv_Atoi)
 ) fun o => zcp o fun vs => ret (zcm [(zc vs 0)])
def ztr : Hint := (.seq [] .leaf (.seq [] .leaf (.seq [6] (.seq [] .leaf (.cond (.reg [0, 1, 2, 3, 4, 5, 7, 8, 10, 11, 13, 14, 6, 9, 12, 15, 16, 17, 18, 19, 20, 21, 22, 23, 24] []) .leaf)) (.seq [] .leaf .leaf))))
def ze2 (G_strings_IndexRune : List V → M V) (G_strconv_Atoi : List V → M V) (l : List V) : M V := match l with | [x0, x1] => zko G_strings_IndexRune G_strconv_Atoi x0 x1 | _ => fail
theorem z3b (G_strings_IndexRune : List V → M V) (G_strconv_Atoi : List V → M V) (x0 x1 : V) : zde Tryz.prog (ovr [(zdy, zcv G_strings_IndexRune G_strconv_Atoi)] noC) zct ztr [x0, x1] = zko G_strings_IndexRune G_strconv_Atoi x0 x1 := by kernel_rfl
theorem z3c {G_strings_IndexRune : List V → M V} {G_strconv_Atoi : List V → M V} (k_strings_IndexRune : zb3 Tryz.prog zb1 G_strings_IndexRune) (k_strconv_Atoi : zb3 Tryz.prog zcj G_strconv_Atoi) : zb3 Tryz.prog zct (ze2 G_strings_IndexRune G_strconv_Atoi) := zbw (σ := ovr [(zdy, zcv G_strings_IndexRune G_strconv_Atoi)] noC) (hint := ztr) (by kernel_rfl) (zn (znc k_strings_IndexRune k_strconv_Atoi) z8) fun l H r H' h => by
 unfold ze2 at h; split at h
 · rw [z3b]; exact h
 · exact (zo h).elim
def zsa (vs_2 : List V) : M Out :=
 ret (.ret [(zc vs_2 0)])
def zsb (vs : List V) : M Out :=
 zb (
 zb (za (capV (zc vs 0))) fun x10 =>
 zb (za (zb4 (zc vs 0))) fun x12 =>
 zb (za (bin .sub x10 x12)) fun x13 =>
 zb (za (bin .sub (zc vs 1) x13)) fun x14 =>
 zb (za (bin .gtr x14 (Value.int .i64 0))) fun x16 =>
 zbv x16 (
 zb (za (capV (zc vs 0))) fun x19 =>
 zb (za (zjw 1 (zc vs 0) none (some x19))) fun x20 =>
 zb (appZ 1 16 [Value.string ⟨#[]⟩] x20 x14) fun x22 =>
 zb (za (zb4 (zc vs 0))) fun x24 =>
 zb (za (zjw 1 x22 none (some x24))) fun x25 =>
 ret (.nxt [x25])
 ) (
 ret (.nxt [(zc vs 0)])
 )
 ) fun o => nx o zsa
def zld (x0 x1 : V) : M V :=
 zb (
 zb (
 zb (za (bin .lss x1 (Value.int .i64 0))) fun x6 =>
 zbv x6 (
 zb (za (some (Value.iface zms (Value.string ⟨#[99, 97, 110, 110, 111, 116, 32, 98, 101, 32, 110, 101, 103, 97, 116, 105, 118, 101]⟩)))) fun x7 =>
 zb (za ((none : Option V))) fun _ =>
 ret (.nxt [x0, x1])
 ) (
 ret (.nxt [x0, x1])
 )
 ) fun o => nx o zsb
 ) fun o => zcp o fun vs => ret (zcm [(zc vs 0)])
def zle : Hint := (.seq [] .leaf (.seq [0, 1] (.seq [] .leaf (.cond .leaf .leaf)) (.seq [0] (.seq [] .leaf (.seq [] .leaf (.cond .leaf .leaf))) (.seq [] .leaf .leaf))))
def zfy (l : List V) : M V := match l with | [x0, x1] => zld x0 x1 | _ => fail
theorem zs1 (x0 x1 : V) : zde Tryz.prog (ovr [] noC) zg1 zle [x0, x1] = zld x0 x1 := by kernel_rfl
theorem zs2 : zb3 Tryz.prog zg1 (zfy) := zbw (σ := ovr [] noC) (hint := zle) (by kernel_rfl) z8 fun l H r H' h => by
 unfold zfy at h; split at h
 · rw [zs1]; exact h
 · exact (zo h).elim
def zrb (vs_3 : List V) : M Out :=
 zb (za (bin .add (zc vs_3 4) (Value.int .i64 1))) fun x22 =>
 ret (.nxt [(zc vs_3 0), (zc vs_3 1), (zc vs_3 2), (zc vs_3 3), x22])
def zrc (vs_2 : List V) : M Out :=
 zb (
 zb (
 zb (za (zb5 1 (zc vs_2 2) (zc vs_2 4))) fun x13 =>
 zb (ld1 x13) fun x14 =>
 zb (za (zb4 x14)) fun x17 =>
 zb (za (bin .add (zc vs_2 1) x17)) fun x18 =>
 zb (za (bin .lss x18 (Value.int .i64 0))) fun x20 =>
 zbv x20 (
 zb (za (some (Value.iface zms (Value.string ⟨#[108, 101, 110, 32, 111, 117, 116, 32, 111, 102, 32, 114, 97, 110, 103, 101]⟩)))) fun x21 =>
 zb (za ((none : Option V))) fun _ =>
 ret (.nxt [(zc vs_2 0), x18, (zc vs_2 2), (zc vs_2 3), (zc vs_2 4)])
 ) (
 ret (.nxt [(zc vs_2 0), x18, (zc vs_2 2), (zc vs_2 3), (zc vs_2 4)])
 )
 ) fun o => ret (zb9 1 o)
 ) fun o => nx o zrb
def zrd (vs : List V) : M Out :=
 zb (za (bin .lss (zc vs 4) (zc vs 3))) fun x12 =>
 zb (
 zbv x12 (
 ret (.nxt [(zc vs 0), (zc vs 1), (zc vs 2), (zc vs 3), (zc vs 4)])
 ) (
 ret (.brk 0 [(zc vs 0), (zc vs 1)])
 )
 ) fun o => nx o zrc
def zre (vs_7 : List V) : M Out :=
 zb (za (bin .add (zc vs_7 3) (Value.int .i64 1))) fun x34 =>
 ret (.nxt [(zc vs_7 0), (zc vs_7 1), (zc vs_7 2), x34])
def zrf (vs_6 : List V) : M Out :=
 zb (
 zb (
 zb (za (zb5 1 (zc vs_6 1) (zc vs_6 3))) fun x29 =>
 zb (ld1 x29) fun x30 =>
 zb (zj3 1 16 (zc vs_6 0) x30) fun x33 =>
 ret (.nxt [x33, (zc vs_6 1), (zc vs_6 2), (zc vs_6 3)])
 ) fun o => ret (zb9 3 o)
 ) fun o => nx o zre
def zrg (vs_5 : List V) : M Out :=
 zb (za (bin .lss (zc vs_5 3) (zc vs_5 2))) fun x28 =>
 zb (
 zbv x28 (
 ret (.nxt [(zc vs_5 0), (zc vs_5 1), (zc vs_5 2), (zc vs_5 3)])
 ) (
 ret (.brk 2 [(zc vs_5 0)])
 )
 ) fun o => nx o zrf
def zrh (vs_8 : List V) : M Out :=
 ret (.ret [(zc vs_8 0)])
def zri (vs_4 : List V) : M Out :=
 zb (zfy [(Value.slice none 0 0), (zc vs_4 1)]) fun x24 =>
 zb (
 zb (za (zb4 (zc vs_4 0))) fun x26 =>
 zb (
 zc7 zem zrg [x24, (zc vs_4 0), x26, (Value.int .i64 0)]
 ) fun o => ret (zb9 2 o)
 ) fun o => nx o zrh
def zkk (x0 : V) : M V :=
 zb (
 zb (
 zb (za (zb4 x0)) fun x10 =>
 zb (
 zc7 zem zrd [x0, (Value.int .i64 0), x0, x10, (Value.int .i64 0)]
 ) fun o => ret (zb9 0 o)
 ) fun o => nx o zri
 ) fun o => zcp o fun vs => ret (zcm [(zc vs 0)])
def zkl : Hint := (.seq [] .leaf (.seq [] .leaf (.seq [0, 3] (.seq [] .leaf (.blk (.loop [0, 3, 9, 10, 11] (.seq [] .leaf (.seq [0, 3, 9, 10, 11] (.cond .leaf .leaf) (.seq [0, 3, 9, 10, 11] (.blk (.seq [] .leaf (.seq [] .leaf (.seq [] .leaf (.cond .leaf .leaf))))) .leaf)))))) (.seq [] .leaf (.seq [6] (.seq [] .leaf (.blk (.loop [6, 25, 26, 27] (.seq [] .leaf (.seq [6, 25, 26, 27] (.cond .leaf .leaf) (.seq [6, 25, 26, 27] (.blk (.seq [] .leaf .leaf)) .leaf)))))) (.seq [] .leaf .leaf))))))
def zdd (l : List V) : M V := match l with | [x0] => zkk x0 | _ => fail
def zkm : zbz := ovr [(zg1, zfy)] noC
theorem zr2 (x0 : V) : zde Tryz.prog (zkm) zeq zkl [x0] = zkk x0 := by kernel_rfl
theorem zr3 : zb3 Tryz.prog zeq (zdd) := zbw (σ := zkm) (hint := zkl) (by kernel_rfl) (zn zs2 z8) fun l H r H' h => by
 unfold zdd at h; split at h
 · rw [zr2]; exact h
 · exact (zo h).elim
def zop (G_strings_IndexRune : List V → M V) (G_strconv_Atoi : List V → M V) (vs_4 : List V) : M Out :=
 zr6 fun h0_2 =>
 zb (za (zez (zc vs_4 0))) fun x65 =>
 zb (za (z6 0 x65)) fun x66 =>
 zb (za (z6 0 x66)) fun x67 =>
 zb (za (z6 2 x67)) fun x68 =>
 zb (ld1 x68) fun x69 =>
 zb (ldn 5 (zc vs_4 1)) fun x70 =>
 zgn (zjx 5 1 (rep 1 [Value.int .i64 0, Value.int .i64 0, Value.int .i64 0, Value.int .i64 0, Value.int .i64 0]) [(0, 5, x70)]) fun ha_4 x71 h1_2 =>
 zgn (zj3 5 40 x69 x71) fun ha_5 x72 h2_2 =>
 zb (za (zez (zc vs_4 0))) fun x73 =>
 zb (za (z6 0 x73)) fun x74 =>
 zb (za (z6 0 x74)) fun x75 =>
 zb (za (z6 2 x75)) fun x76 =>
 zgn (st1 x76 x72) fun ha_6 u_4 h3_2 =>
 zqr (chk (ld1 x68) h1_2 x69) <|
 ret (.ret [(Value.bool true)])
def zts (G_strings_IndexRune : List V → M V) (G_strconv_Atoi : List V → M V) (vs_3 : List V) : M Out :=
 zr6 fun h0 =>
 zb (za (zb5 1 (zc vs_3 3) (Value.int .i64 0))) fun x47 =>
 zb (za (zb5 1 (zc vs_3 3) (Value.int .i64 1))) fun x50 =>
 zb (ld1 x47) fun x48 =>
 zb (za (z6 1 (zc vs_3 1))) fun x53 =>
 zb (ld1 x50) fun x51 =>
 zgn (st1 x53 x48) fun ha u h1 =>
 zb (za (z6 2 (zc vs_3 1))) fun x54 =>
 zgn (st1 x54 x51) fun ha_2 u_2 h2 =>
 zb (za (z6 3 (zc vs_3 1))) fun x55 =>
 zgn (st1 x55 (zc vs_3 2)) fun ha_3 u_3 h3 =>
 zqr (chk (ld1 x50) h1 x51) <|
 zb (
 zb (za (zb4 (zc vs_3 3))) fun x57 =>
 zb (za (bin .eql x57 (Value.int .i64 3))) fun x58 =>
 zbv x58 (
 zb (za (zb5 1 (zc vs_3 3) (Value.int .i64 2))) fun x60 =>
 zb (ld1 x60) fun x61 =>
 zb (za (z6 4 (zc vs_3 1))) fun x62 =>
 zb (st1 x62 x61) fun _ =>
 ret (.nxt [(zc vs_3 0), (zc vs_3 1)])
 ) (
 ret (.nxt [(zc vs_3 0), (zc vs_3 1)])
 )
 ) fun o => nx o (zop G_strings_IndexRune G_strconv_Atoi)
def ztt (G_strings_IndexRune : List V → M V) (G_strconv_Atoi : List V → M V) (vs_2 : List V) : M Out :=
 zb (za (zb5 1 (zc vs_2 1) (Value.int .i64 3))) fun x23 =>
 zb (ld1 x23) fun x24 =>
 zb (zlc [x24]) fun x25 =>
 zb (za (ext 0 x25)) fun x26 =>
 zb (za (ext 1 x25)) fun x27 =>
 zb (za (zjw 1 (zc vs_2 1) (some (Value.int .i64 1)) (some (Value.int .i64 3)))) fun x30 =>
 zb (za (zjw 1 (zc vs_2 1) (some (Value.int .i64 4)) none)) fun x32 =>
 zb (za (bin .sub (zc vs_2 3) (Value.int .i64 2))) fun x36 =>
 zb (zjx 1 2 (rep 2 [Value.slice none 0 0]) [(0, 1, x30), (1, 1, x32)]) fun x33 =>
 zb (zdd [x33]) fun x34 =>
 zb ((zcv G_strings_IndexRune G_strconv_Atoi) [x34, x36]) fun x37 =>
 zb (za (ext 0 x37)) fun x38 =>
 zb (za (ext 1 x37)) fun x39 =>
 zb (
 zb (za (un .not x39)) fun x41 =>
 zb (gd x41 false (za (some x27))) fun x43 =>
 zb (gd x41 false (za (un .not x43))) fun x44 =>
 zb (za (zcd x41 (Value.bool true) x44)) fun x45 =>
 zbv x45 (
 ret (.ret [(Value.bool false)])
 ) (
 ret (.nxt [(zc vs_2 0), (zc vs_2 2), x26, x38])
 )
 ) fun o => nx o (zts G_strings_IndexRune G_strconv_Atoi)
def zkp (G_strings_IndexRune : List V → M V) (G_strconv_Atoi : List V → M V) (vs : List V) : M Out :=
 zb (
 zb (za (zb4 (zc vs 1))) fun x18 =>
 zb (za (bin .neq x18 (zc vs 3))) fun x20 =>
 zbv x20 (
 ret (.ret [(Value.bool false)])
 ) (
 ret (.nxt [(zc vs 0), (zc vs 1), (zc vs 2), (zc vs 3)])
 )
 ) fun o => nx o (ztt G_strings_IndexRune G_strconv_Atoi)
def zjb (G_strings_IndexRune : List V → M V) (G_strconv_Atoi : List V → M V) (x0 x1 : V) : M V :=
 zb (
 zb (za (build [Value.int .i64 0, Value.int .i64 0, Value.int .i64 0, Value.int .i64 0, Value.int .i64 0] [(0, 1, (Value.int .i64 1))])) fun x11 =>
 zb (newc [Value.int .i64 0, Value.int .i64 0, Value.int .i64 0, Value.int .i64 0, Value.int .i64 0]) fun x5 =>
 zb (stn 5 x5 x11) fun _ =>
 zb (
 zb (za (zb5 1 x1 (Value.int .i64 0))) fun x13 =>
 zb (ld1 x13) fun x14 =>
 zb (za (bin .eql x14 (Value.string ⟨#[113, 117, 101, 117, 101]⟩))) fun x15 =>
 zbv x15 (
 zb (za (z6 0 x5)) fun x16 =>
 zb (st1 x16 (Value.int .i64 2)) fun _ =>
 ret (.nxt [x0, x1, x5, (Value.int .i64 5)])
 ) (
 ret (.nxt [x0, x1, x5, (Value.int .i64 4)])
 )
 ) fun o => nx o (zkp G_strings_IndexRune G_strconv_Atoi)
 ) fun o => zcp o fun vs => ret (zcm [(zc vs 0)])
def zvs : Hint := (.seq [] .leaf (.seq [] .leaf (.seq [] .leaf (.seq [0, 1, 5, 6] (.seq [] .leaf (.cond .leaf .leaf)) (.seq [0, 1, 5, 6] (.seq [] .leaf (.cond (.seq [] .leaf .leaf) .leaf)) (.seq [] .leaf (.seq [] (.reg [0, 1, 2, 3, 6, 7, 4, 5, 8, 9, 10, 11, 12, 13] []) (.seq [0, 5, 7, 9] (.seq [] .leaf (.cond (.seq [] .leaf .leaf) .leaf)) (.seq [] (.reg [0, 1, 3, 4, 6, 2, 7, 5, 8, 9, 10, 11, 12] []) (.seq [0, 5] (.seq [] .leaf (.cond .leaf .leaf)) (.seq [] (.reg [0, 1, 2, 3, 4, 5, 6, 7, 8, 9, 10, 11, 12, 13, 14] []) (.seq [] .leaf .leaf))))))))))))
def zfg (G_strings_IndexRune : List V → M V) (G_strconv_Atoi : List V → M V) (l : List V) : M V := match l with | [x0, x1] => zjb G_strings_IndexRune G_strconv_Atoi x0 x1 | _ => fail
theorem z49 (G_strings_IndexRune : List V → M V) (G_strconv_Atoi : List V → M V) (x0 x1 : V) : zde Tryz.prog (ovr [(zoz, zlc), (zeq, zdd), (zdy, zcv G_strings_IndexRune G_strconv_Atoi)] noC) zc1 zvs [x0, x1] = zjb G_strings_IndexRune G_strconv_Atoi x0 x1 := by kernel_rfl
theorem z5a {G_strings_IndexRune : List V → M V} {G_strconv_Atoi : List V → M V} (k_strings_IndexRune : zb3 Tryz.prog zb1 G_strings_IndexRune) (k_strconv_Atoi : zb3 Tryz.prog zcj G_strconv_Atoi) : zb3 Tryz.prog zc1 (zfg G_strings_IndexRune G_strconv_Atoi) := zbw (σ := ovr [(zoz, zlc), (zeq, zdd), (zdy, zcv G_strings_IndexRune G_strconv_Atoi)] noC) (hint := zvs) (by kernel_rfl) (zn z9z (zn zr3 (zn (znc k_strings_IndexRune k_strconv_Atoi) z8))) fun l H r H' h => by
 unfold zfg at h; split at h
 · rw [z49]; exact h
 · exact (zo h).elim
def zl6 (G_strings_IndexRune : List V → M V) (G_strconv_Atoi : List V → M V) (vs : List V) : M Out :=
 ret (.ret [(zc vs 0)])
def zj6 (G_strings_IndexRune : List V → M V) (G_strconv_Atoi : List V → M V) (x0 x1 : V) : M V :=
 zb (
 zb (za (zjw 1 x1 (some (Value.int .i64 1)) none)) fun x9 =>
 zb ((zcv G_strings_IndexRune G_strconv_Atoi) [x9, (Value.int .i64 3)]) fun x10 =>
 zb (za (ext 0 x10)) fun x11 =>
 zb (za (ext 1 x10)) fun x12 =>
 zb (
 zbv x12 (
 zr6 fun h0 =>
 zb (za (zez x0)) fun x16 =>
 zb (za (z6 0 x16)) fun x17 =>
 zb (za (z6 0 x17)) fun x18 =>
 zb (za (z6 3 x18)) fun x19 =>
 zb (za (z6 1 x19)) fun x20 =>
 zb (za (zb5 1 x11 (Value.int .i64 0))) fun x23 =>
 zb (za (zb5 1 x11 (Value.int .i64 1))) fun x26 =>
 zb (za (zb5 1 x11 (Value.int .i64 2))) fun x29 =>
 zb (ld1 x20) fun x21 =>
 zb (ld1 x23) fun x24 =>
 zb (ld1 x26) fun x27 =>
 zb (ld1 x29) fun x30 =>
 zb (za (build [Value.int .i64 0, Value.int .i64 0, Value.int .i64 0] [(0, 1, x24), (1, 1, x27), (2, 1, x30)])) fun x31 =>
 zgn (zjx 3 1 (rep 1 [Value.int .i64 0, Value.int .i64 0, Value.int .i64 0]) [(0, 3, x31)]) fun ha x32 h1 =>
 zgn (zj3 3 24 x21 x32) fun ha_2 x33 h2 =>
 zb (za (zez x0)) fun x34 =>
 zb (za (z6 0 x34)) fun x35 =>
 zb (za (z6 0 x35)) fun x36 =>
 zb (za (z6 3 x36)) fun x37 =>
 zb (za (z6 1 x37)) fun x38 =>
 zgn (st1 x38 x33) fun ha_3 u h3 =>
 zqr (chk (ld1 x20) h1 x21) <|
 ret (.nxt [x12])
 ) (
 ret (.nxt [x12])
 )
 ) fun o => nx o (zl6 G_strings_IndexRune G_strconv_Atoi)
 ) fun o => zcp o fun vs => ret (zcm [(zc vs 0)])
def zs3 : Hint := (.seq [] .leaf (.seq [] .leaf (.seq [6] (.seq [] .leaf (.cond (.reg [0, 1, 2, 3, 4, 5, 6, 8, 9, 11, 12, 14, 15, 7, 10, 13, 16, 17, 18, 19, 20, 21, 22, 23, 24, 25] []) .leaf)) (.seq [] .leaf .leaf))))
def zei (G_strings_IndexRune : List V → M V) (G_strconv_Atoi : List V → M V) (l : List V) : M V := match l with | [x0, x1] => zj6 G_strings_IndexRune G_strconv_Atoi x0 x1 | _ => fail
theorem z1m (G_strings_IndexRune : List V → M V) (G_strconv_Atoi : List V → M V) (x0 x1 : V) : zde Tryz.prog (ovr [(zdy, zcv G_strings_IndexRune G_strconv_Atoi)] noC) zdf zs3 [x0, x1] = zj6 G_strings_IndexRune G_strconv_Atoi x0 x1 := by kernel_rfl
theorem z1n {G_strings_IndexRune : List V → M V} {G_strconv_Atoi : List V → M V} (k_strings_IndexRune : zb3 Tryz.prog zb1 G_strings_IndexRune) (k_strconv_Atoi : zb3 Tryz.prog zcj G_strconv_Atoi) : zb3 Tryz.prog zdf (zei G_strings_IndexRune G_strconv_Atoi) := zbw (σ := ovr [(zdy, zcv G_strings_IndexRune G_strconv_Atoi)] noC) (hint := zs3) (by kernel_rfl) (zn (znc k_strings_IndexRune k_strconv_Atoi) z8) fun l H r H' h => by
 unfold zei at h; split at h
 · rw [z1m]; exact h
 · exact (zo h).elim
def zkf (G_strings_IndexRune : List V → M V) (G_strconv_Atoi : List V → M V) (vs : List V) : M Out :=
 ret (.ret [(zc vs 0)])
def zig (G_strings_IndexRune : List V → M V) (G_strconv_Atoi : List V → M V) (x0 x1 : V) : M V :=
 zb (
 zb (za (zjw 1 x1 (some (Value.int .i64 1)) none)) fun x9 =>
 zb ((zcv G_strings_IndexRune G_strconv_Atoi) [x9, (Value.int .i64 2)]) fun x10 =>
 zb (za (ext 0 x10)) fun x11 =>
 zb (za (ext 1 x10)) fun x12 =>
 zb (
 zbv x12 (
 zr6 fun h0 =>
 zb (za (zez x0)) fun x16 =>
 zb (za (z6 0 x16)) fun x17 =>
 zb (za (z6 0 x17)) fun x18 =>
 zb (za (z6 3 x18)) fun x19 =>
 zb (za (z6 1 x19)) fun x20 =>
 zb (za (zb5 1 x11 (Value.int .i64 0))) fun x23 =>
 zb (za (zb5 1 x11 (Value.int .i64 1))) fun x26 =>
 zb (ld1 x20) fun x21 =>
 zb (ld1 x23) fun x24 =>
 zb (ld1 x26) fun x27 =>
 zb (za (build [Value.int .i64 0, Value.int .i64 0, Value.int .i64 0] [(0, 1, (Value.int .i64 (-1))), (1, 1, x24), (2, 1, x27)])) fun x28 =>
 zgn (zjx 3 1 (rep 1 [Value.int .i64 0, Value.int .i64 0, Value.int .i64 0]) [(0, 3, x28)]) fun ha x29 h1 =>
 zgn (zj3 3 24 x21 x29) fun ha_2 x30 h2 =>
 zb (za (zez x0)) fun x31 =>
 zb (za (z6 0 x31)) fun x32 =>
 zb (za (z6 0 x32)) fun x33 =>
 zb (za (z6 3 x33)) fun x34 =>
 zb (za (z6 1 x34)) fun x35 =>
 zgn (st1 x35 x30) fun ha_3 u h3 =>
 zqr (chk (ld1 x20) h1 x21) <|
 ret (.nxt [x12])
 ) (
 ret (.nxt [x12])
 )
 ) fun o => nx o (zkf G_strings_IndexRune G_strconv_Atoi)
 ) fun o => zcp o fun vs => ret (zcm [(zc vs 0)])
def zqh : Hint := (.seq [] .leaf (.seq [] .leaf (.seq [6] (.seq [] .leaf (.cond (.reg [0, 1, 2, 3, 4, 5, 6, 8, 9, 11, 12, 7, 10, 13, 14, 15, 16, 17, 18, 19, 20, 21, 22] []) .leaf)) (.seq [] .leaf .leaf))))
def zdt (G_strings_IndexRune : List V → M V) (G_strconv_Atoi : List V → M V) (l : List V) : M V := match l with | [x0, x1] => zig G_strings_IndexRune G_strconv_Atoi x0 x1 | _ => fail
theorem zyz (G_strings_IndexRune : List V → M V) (G_strconv_Atoi : List V → M V) (x0 x1 : V) : zde Tryz.prog (ovr [(zdy, zcv G_strings_IndexRune G_strconv_Atoi)] noC) zcq zqh [x0, x1] = zig G_strings_IndexRune G_strconv_Atoi x0 x1 := by kernel_rfl
theorem zy0 {G_strings_IndexRune : List V → M V} {G_strconv_Atoi : List V → M V} (k_strings_IndexRune : zb3 Tryz.prog zb1 G_strings_IndexRune) (k_strconv_Atoi : zb3 Tryz.prog zcj G_strconv_Atoi) : zb3 Tryz.prog zcq (zdt G_strings_IndexRune G_strconv_Atoi) := zbw (σ := ovr [(zdy, zcv G_strings_IndexRune G_strconv_Atoi)] noC) (hint := zqh) (by kernel_rfl) (zn (znc k_strings_IndexRune k_strconv_Atoi) z8) fun l H r H' h => by
 unfold zdt at h; split at h
 · rw [zyz]; exact h
 · exact (zo h).elim
def zlm (x0 x1 : V) : M V :=
 zb (
 zb (za (zez x0)) fun x7 =>
 zb (za (z6 0 x7)) fun x8 =>
 zb (za (z6 0 x8)) fun x9 =>
 zb (za (z6 5 x9)) fun x10 =>
 zb (ld1 x10) fun x11 =>
 zb (za (build [Value.slice none 0 0, Value.slice none 0 0] [])) fun x12 =>
 zb (zjx 2 1 (rep 1 [Value.slice none 0 0, Value.slice none 0 0]) [(0, 2, x12)]) fun x13 =>
 zb (zj3 2 48 x11 x13) fun x14 =>
 zb (za (zez x0)) fun x15 =>
 zb (za (z6 0 x15)) fun x16 =>
 zb (za (z6 0 x16)) fun x17 =>
 zb (za (z6 5 x17)) fun x18 =>
 zb (st1 x18 x14) fun _ =>
 zb (za (zb4 x1)) fun x20 =>
 zb (za (bin .eql x20 (Value.int .i64 1))) fun x21 =>
 ret (.ret [x21])
 ) fun o => zcp o fun vs => ret (zcm [(zc vs 0)])
def zvt : Hint := (.seq [] .leaf (.seq [] .leaf (.seq [] .leaf .leaf)))
def zfh (l : List V) : M V := match l with | [x0, x1] => zlm x0 x1 | _ => fail
theorem z5b (x0 x1 : V) : zde Tryz.prog (ovr [] noC) zd1 zvt [x0, x1] = zlm x0 x1 := by kernel_rfl
theorem z5c : zb3 Tryz.prog zd1 (zfh) := zbw (σ := ovr [] noC) (hint := zvt) (by kernel_rfl) z8 fun l H r H' h => by
 unfold zfh at h; split at h
 · rw [z5b]; exact h
 · exact (zo h).elim
def zit (G_strings_IndexRune : List V → M V) (G_strconv_Atoi : List V → M V) (vs_2 : List V) : M Out :=
 zb (gd (zc vs_2 0) true (za (z6 0 (zc vs_2 1)))) fun x78 =>
 zb (gd (zc vs_2 0) true (ld1 x78)) fun x79 =>
 zb (gd (zc vs_2 0) true (za (bin .gtr x79 (Value.int .i64 0)))) fun x80 =>
 zb (za (zcd (zc vs_2 0) x80 (Value.bool false))) fun x81 =>
 ret (.ret [x81])
def ztu (G_strings_IndexRune : List V → M V) (G_strconv_Atoi : List V → M V) (vs : List V) : M Out :=
 zb (za (zb5 1 (zc vs 1) (Value.int .i64 2))) fun x24 =>
 zb (ld1 x24) fun x25 =>
 zb ((zfn G_strings_IndexRune G_strconv_Atoi) [x25]) fun x26 =>
 zb (za (ext 0 x26)) fun x27 =>
 zb (za (ext 1 x26)) fun x28 =>
 zb (zjx 1 2 (rep 2 [Value.string ⟨#[]⟩]) [(0, 1, (Value.string ⟨#[112, 111, 105, 110, 116]⟩)), (1, 1, (Value.string ⟨#[112, 111, 114, 116]⟩))]) fun x29 =>
 zb (za (zb5 1 (zc vs 1) (Value.int .i64 1))) fun x31 =>
 zb (ld1 x31) fun x32 =>
 zb (zb7 [x29, x32]) fun x33 =>
 zb (za (bin .add (Value.int .i64 1) x33)) fun x34 =>
 zb (za (build [Value.int .i64 0, Value.int .i64 0] [(0, 1, x34), (1, 1, x27)])) fun x36 =>
 zb (newc [Value.int .i64 0, Value.int .i64 0]) fun x7 =>
 zb (stn 2 x7 x36) fun _ =>
 zb (za (zez (zc vs 0))) fun x38 =>
 zb (za (z6 0 x38)) fun x39 =>
 zb (za (z6 0 x39)) fun x40 =>
 zb (za (z6 5 x40)) fun x41 =>
 zb (za (zez (zc vs 0))) fun x44 =>
 zb (za (z6 0 x44)) fun x45 =>
 zb (za (z6 0 x45)) fun x46 =>
 zb (za (z6 5 x46)) fun x47 =>
 zb (ld1 x41) fun x42 =>
 zb (ld1 x47) fun x48 =>
 zb (za (zb4 x48)) fun x49 =>
 zb (za (bin .sub x49 (Value.int .i64 1))) fun x50 =>
 zb (za (zb5 2 x42 x50)) fun x51 =>
 zb (
 zb (za (zb5 1 (zc vs 1) (Value.int .i64 0))) fun x53 =>
 zb (ld1 x53) fun x54 =>
 zb (za (bin .eql x54 (Value.string ⟨#[103, 101, 116]⟩))) fun x55 =>
 zbv x55 (
 zr6 fun h0 =>
 zb (za (zez x51)) fun x58 =>
 zb (za (z6 0 x58)) fun x59 =>
 zb (ld1 x59) fun x60 =>
 zb (ldn 2 x7) fun x61 =>
 zgn (zjx 2 1 (rep 1 [Value.int .i64 0, Value.int .i64 0]) [(0, 2, x61)]) fun ha x62 h1 =>
 zgn (zj3 2 16 x60 x62) fun ha_2 x63 h2 =>
 zb (za (zez x51)) fun x64 =>
 zb (za (z6 0 x64)) fun x65 =>
 zgn (st1 x65 x63) fun ha_3 u h3 =>
 zqr (chk (ld1 x59) h1 x60) <|
 ret (.nxt [x28, x7])
 ) (
 zr6 fun h0_2 =>
 zb (za (zez x51)) fun x68 =>
 zb (za (z6 1 x68)) fun x69 =>
 zb (ld1 x69) fun x70 =>
 zb (ldn 2 x7) fun x71 =>
 zgn (zjx 2 1 (rep 1 [Value.int .i64 0, Value.int .i64 0]) [(0, 2, x71)]) fun ha_4 x72 h1_2 =>
 zgn (zj3 2 16 x70 x72) fun ha_5 x73 h2_2 =>
 zb (za (zez x51)) fun x74 =>
 zb (za (z6 1 x74)) fun x75 =>
 zgn (st1 x75 x73) fun ha_6 u_2 h3_2 =>
 zqr (chk (ld1 x69) h1_2 x70) <|
 ret (.nxt [x28, x7])
 )
 ) fun o => nx o (zit G_strings_IndexRune G_strconv_Atoi)
def zhg (G_strings_IndexRune : List V → M V) (G_strconv_Atoi : List V → M V) (x0 x1 : V) : M V :=
 zb (
 zb (
 zb (za (zb4 x1)) fun x10 =>
 zb (za (bin .neq x10 (Value.int .i64 3))) fun x11 =>
 zb (gd x11 false (za (some x0))) fun x13 =>
 zb (gd x11 false (za (zez x13))) fun x14 =>
 zb (gd x11 false (za (z6 0 x14))) fun x15 =>
 zb (gd x11 false (za (z6 0 x15))) fun x16 =>
 zb (gd x11 false (za (z6 5 x16))) fun x17 =>
 zb (gd x11 false (ld1 x17)) fun x18 =>
 zb (gd x11 false (za (zb4 x18))) fun x19 =>
 zb (gd x11 false (za (bin .eql x19 (Value.int .i64 0)))) fun x20 =>
 zb (za (zcd x11 (Value.bool true) x20)) fun x21 =>
 zbv x21 (
 ret (.ret [(Value.bool false)])
 ) (
 ret (.nxt [x0, x1])
 )
 ) fun o => nx o (ztu G_strings_IndexRune G_strconv_Atoi)
 ) fun o => zcp o fun vs => ret (zcm [(zc vs 0)])
def zvu : Hint := (.seq [] .leaf (.seq [0, 1] (.seq [] .leaf (.cond (.seq [] .leaf .leaf) .leaf)) (.seq [] .leaf (.seq [] .leaf (.seq [] (.reg [0, 1, 2, 3, 4, 6, 7, 8, 9, 10, 5, 11, 12, 13, 14, 15] []) (.seq [6, 7] (.seq [] .leaf (.cond (.reg [0, 1, 2, 3, 4, 5, 6, 7, 8, 9, 10] []) (.reg [0, 1, 2, 3, 4, 5, 6, 7, 8, 9, 10] []))) (.seq [] .leaf .leaf)))))))
def zfi (G_strings_IndexRune : List V → M V) (G_strconv_Atoi : List V → M V) (l : List V) : M V := match l with | [x0, x1] => zhg G_strings_IndexRune G_strconv_Atoi x0 x1 | _ => fail
theorem z5d (G_strings_IndexRune : List V → M V) (G_strconv_Atoi : List V → M V) (x0 x1 : V) : zde Tryz.prog (ovr [(zgt, zfn G_strings_IndexRune G_strconv_Atoi), (zci, zb7)] noC) zc2 zvu [x0, x1] = zhg G_strings_IndexRune G_strconv_Atoi x0 x1 := by kernel_rfl
theorem z5e {G_strings_IndexRune : List V → M V} {G_strconv_Atoi : List V → M V} (k_strings_IndexRune : zb3 Tryz.prog zb1 G_strings_IndexRune) (k_strconv_Atoi : zb3 Tryz.prog zcj G_strconv_Atoi) : zb3 Tryz.prog zc2 (zfi G_strings_IndexRune G_strconv_Atoi) := zbw (σ := ovr [(zgt, zfn G_strings_IndexRune G_strconv_Atoi), (zci, zb7)] noC) (hint := zvu) (by kernel_rfl) (zn (zx1 k_strings_IndexRune k_strconv_Atoi) (zn zfs z8)) fun l H r H' h => by
 unfold zfi at h; split at h
 · rw [z5d]; exact h
 · exact (zo h).elim
def z3g (G_strings_IndexRune : List V → M V) (G_strings_IndexByte : List V → M V) (vs_4 : List V) : M Out :=
 zb (za (bin .add (zc vs_4 2) (Value.int .i64 2))) fun x20 =>
 ret (.nxt [(zc vs_4 0), (zc vs_4 1), x20])
def z3h (G_strings_IndexRune : List V → M V) (G_strings_IndexByte : List V → M V) (vs_3 : List V) : M Out :=
 zb (
 zb (
 zb (za (zr7 (zc vs_3 0) (zc vs_3 2))) fun x24 =>
 zb (za (bin .add (zc vs_3 2) (Value.int .i64 1))) fun x29 =>
 zb (za (zr7 (zc vs_3 0) x29)) fun x30 =>
 zb (G_strings_IndexByte [(Value.string ⟨#[48, 49, 50, 51, 52, 53, 54, 55, 56, 57, 97, 98, 99, 100, 101, 102]⟩), x24]) fun x25 =>
 zb (za (bin .shl x25 (Value.int .u64 4))) fun x26 =>
 zb (G_strings_IndexByte [(Value.string ⟨#[48, 49, 50, 51, 52, 53, 54, 55, 56, 57, 97, 98, 99, 100, 101, 102]⟩), x30]) fun x31 =>
 zb (za (bin .or x26 x31)) fun x32 =>
 zb (za (cvi .u8 x32)) fun x33 =>
 zb (zjx 1 1 (rep 1 [Value.int .u8 0]) [(0, 1, x33)]) fun x34 =>
 zb (zj3 1 1 (zc vs_3 1) x34) fun x35 =>
 ret (.nxt [(zc vs_3 0), x35, (zc vs_3 2)])
 ) fun o => ret (zb9 1 o)
 ) fun o => nx o (z3g G_strings_IndexRune G_strings_IndexByte)
def zx2 (G_strings_IndexRune : List V → M V) (G_strings_IndexByte : List V → M V) (vs_2 : List V) : M Out :=
 zb (
 zb (za (zhc (zc vs_2 0))) fun x17 =>
 zb (za (bin .lss (zc vs_2 2) x17)) fun x18 =>
 zbv x18 (
 ret (.nxt [(zc vs_2 0), (zc vs_2 1), (zc vs_2 2)])
 ) (
 ret (.brk 0 [(zc vs_2 1)])
 )
 ) fun o => nx o (z3h G_strings_IndexRune G_strings_IndexByte)
def z3i (G_strings_IndexRune : List V → M V) (G_strings_IndexByte : List V → M V) (vs_5 : List V) : M Out :=
 zb (b2s (zc vs_5 0)) fun x37 =>
 ret (.ret [x37, (Value.bool true)])
def z3j (G_strings_IndexRune : List V → M V) (G_strings_IndexByte : List V → M V) (vs : List V) : M Out :=
 zb (
 zb (
 zc7 zem (zx2 G_strings_IndexRune G_strings_IndexByte) [(zc vs 0), (Value.slice none 0 0), (Value.int .i64 0)]
 ) fun o => ret (zb9 0 o)
 ) fun o => nx o (z3i G_strings_IndexRune G_strings_IndexByte)
def zrj (G_strings_IndexRune : List V → M V) (G_strings_IndexByte : List V → M V) (x0 : V) : M V :=
 zb (
 zb (
 zb (za (zhc x0)) fun x7 =>
 zb (za (bin .rem x7 (Value.int .i64 2))) fun x8 =>
 zb (za (bin .gtr x8 (Value.int .i64 0))) fun x9 =>
 zb (gd x9 false (za (some x0))) fun x11 =>
 zb (gd x9 false ((zen G_strings_IndexRune) [x11, (Value.string ⟨#[48, 49, 50, 51, 52, 53, 54, 55, 56, 57, 97, 98, 99, 100, 101, 102]⟩)])) fun x12 =>
 zb (gd x9 false (za (bin .neq x12 (Value.string ⟨#[]⟩)))) fun x13 =>
 zb (za (zcd x9 (Value.bool true) x13)) fun x14 =>
 zbv x14 (
 ret (.ret [(Value.string ⟨#[]⟩), (Value.bool false)])
 ) (
 ret (.nxt [x0])
 )
 ) fun o => nx o (z3j G_strings_IndexRune G_strings_IndexByte)
 ) fun o => zcp o fun vs => ret (zcm [(zc vs 0), (zc vs 1)])
def z6y : Hint := (.seq [] .leaf (.seq [0] (.seq [] .leaf (.cond (.seq [] .leaf .leaf) .leaf)) (.seq [] .leaf (.seq [4] (.seq [] .leaf (.blk (.loop [0, 4, 5] (.seq [0, 4, 5] (.seq [] .leaf (.cond .leaf .leaf)) (.seq [0, 4, 5] (.blk (.reg [0, 1, 2, 3, 6, 7, 8, 9, 4, 5, 10, 11, 12, 13, 14, 15] [])) .leaf))))) (.seq [] .leaf .leaf)))))
def zn0 (G_strings_IndexRune : List V → M V) (G_strings_IndexByte : List V → M V) (l : List V) : M V := match l with | [x0] => zrj G_strings_IndexRune G_strings_IndexByte x0 | _ => fail
theorem zbf5 (G_strings_IndexRune : List V → M V) (G_strings_IndexByte : List V → M V) (x0 : V) : zde Tryz.prog (ovr [(zgd, zen G_strings_IndexRune), (zcu, G_strings_IndexByte)] noC) zq1 z6y [x0] = zrj G_strings_IndexRune G_strings_IndexByte x0 := by kernel_rfl
theorem zbf6 {G_strings_IndexRune : List V → M V} {G_strings_IndexByte : List V → M V} (k_strings_IndexRune : zb3 Tryz.prog zb1 G_strings_IndexRune) (k_strings_IndexByte : zb3 Tryz.prog zcu G_strings_IndexByte) : zb3 Tryz.prog zq1 (zn0 G_strings_IndexRune G_strings_IndexByte) := zbw (σ := ovr [(zgd, zen G_strings_IndexRune), (zcu, G_strings_IndexByte)] noC) (hint := z6y) (by kernel_rfl) (zn (zvq k_strings_IndexRune) (zn k_strings_IndexByte z8)) fun l H r H' h => by
 unfold zn0 at h; split at h
 · rw [zbf5]; exact h
 · exact (zo h).elim
def ztv (G_strings_IndexRune : List V → M V) (G_strings_IndexByte : List V → M V) (vs : List V) : M Out :=
 zb (za (zb5 1 (zc vs 1) (Value.int .i64 2))) fun x12 =>
 zb (ld1 x12) fun x13 =>
 zb ((zn0 G_strings_IndexRune G_strings_IndexByte) [x13]) fun x14 =>
 zb (za (ext 0 x14)) fun x15 =>
 zb (za (ext 1 x14)) fun x16 =>
 zr6 fun h0 =>
 zb (za (zez (zc vs 0))) fun x19 =>
 zb (za (z6 0 x19)) fun x20 =>
 zb (za (z6 7 x20)) fun x21 =>
 zb (za (zb5 1 (zc vs 1) (Value.int .i64 1))) fun x24 =>
 zb (ld1 x21) fun x22 =>
 zb (ld1 x24) fun x25 =>
 zb (za (build [Value.string ⟨#[]⟩, Value.string ⟨#[]⟩, Value.slice none 0 0] [(0, 1, x25), (1, 1, x15)])) fun x27 =>
 zgn (zjx 3 1 (rep 1 [Value.string ⟨#[]⟩, Value.string ⟨#[]⟩, Value.slice none 0 0]) [(0, 3, x27)]) fun ha x28 h1 =>
 zgn (zj3 3 56 x22 x28) fun ha_2 x29 h2 =>
 zb (za (zez (zc vs 0))) fun x30 =>
 zb (za (z6 0 x30)) fun x31 =>
 zb (za (z6 7 x31)) fun x32 =>
 zgn (st1 x32 x29) fun ha_3 u h3 =>
 zqr (chk (ld1 x21) h1 x22) <|
 ret (.ret [x16])
def zjc (G_strings_IndexRune : List V → M V) (G_strings_IndexByte : List V → M V) (x0 x1 : V) : M V :=
 zb (
 zb (
 zb (za (zb4 x1)) fun x8 =>
 zb (za (bin .neq x8 (Value.int .i64 3))) fun x9 =>
 zbv x9 (
 ret (.ret [(Value.bool false)])
 ) (
 ret (.nxt [x0, x1])
 )
 ) fun o => nx o (ztv G_strings_IndexRune G_strings_IndexByte)
 ) fun o => zcp o fun vs => ret (zcm [(zc vs 0)])
def zvv : Hint := (.seq [] .leaf (.seq [0, 1] (.seq [] .leaf (.cond (.seq [] .leaf .leaf) .leaf)) (.seq [] .leaf (.seq [] (.reg [0, 1, 2, 3, 4, 6, 7, 9, 5, 8, 10, 11, 12, 13, 14, 15, 16] []) (.seq [] .leaf .leaf)))))
def zfj (G_strings_IndexRune : List V → M V) (G_strings_IndexByte : List V → M V) (l : List V) : M V := match l with | [x0, x1] => zjc G_strings_IndexRune G_strings_IndexByte x0 x1 | _ => fail
theorem z5f (G_strings_IndexRune : List V → M V) (G_strings_IndexByte : List V → M V) (x0 x1 : V) : zde Tryz.prog (ovr [(zq1, zn0 G_strings_IndexRune G_strings_IndexByte)] noC) zd2 zvv [x0, x1] = zjc G_strings_IndexRune G_strings_IndexByte x0 x1 := by kernel_rfl
theorem z5g {G_strings_IndexRune : List V → M V} {G_strings_IndexByte : List V → M V} (k_strings_IndexRune : zb3 Tryz.prog zb1 G_strings_IndexRune) (k_strings_IndexByte : zb3 Tryz.prog zcu G_strings_IndexByte) : zb3 Tryz.prog zd2 (zfj G_strings_IndexRune G_strings_IndexByte) := zbw (σ := ovr [(zq1, zn0 G_strings_IndexRune G_strings_IndexByte)] noC) (hint := zvv) (by kernel_rfl) (zn (zbf6 k_strings_IndexRune k_strings_IndexByte) z8) fun l H r H' h => by
 unfold zfj at h; split at h
 · rw [z5f]; exact h
 · exact (zo h).elim
def ztw (G_strings_IndexRune : List V → M V) (G_strconv_Atoi : List V → M V) (vs : List V) : M Out :=
 zb (za (zb5 1 (zc vs 1) (Value.int .i64 1))) fun x23 =>
 zb (ld1 x23) fun x24 =>
 zb ((zfn G_strings_IndexRune G_strconv_Atoi) [x24]) fun x25 =>
 zb (za (ext 0 x25)) fun x26 =>
 zb (za (ext 1 x25)) fun x27 =>
 zb (za (subA 5 1 (ptr gid_conf_levels 0) (some (Value.int .i64 1)) none)) fun x28 =>
 zb (za (zb5 1 (zc vs 1) (Value.int .i64 2))) fun x30 =>
 zb (ld1 x30) fun x31 =>
 zb (zb7 [x28, x31]) fun x32 =>
 zb (za (bin .add x32 (Value.int .i64 1))) fun x33 =>
 zb (za (zez (zc vs 0))) fun x35 =>
 zb (za (z6 0 x35)) fun x36 =>
 zb (za (z6 7 x36)) fun x37 =>
 zb (za (zez (zc vs 0))) fun x40 =>
 zb (za (z6 0 x40)) fun x41 =>
 zb (za (z6 7 x41)) fun x42 =>
 zb (ld1 x37) fun x38 =>
 zb (ld1 x42) fun x43 =>
 zb (za (zb4 x43)) fun x44 =>
 zb (za (bin .sub x44 (Value.int .i64 1))) fun x45 =>
 zb (za (zb5 3 x38 x45)) fun x46 =>
 zb (za (zez x46)) fun x49 =>
 zb (za (z6 2 x49)) fun x50 =>
 zb (ld1 x50) fun x51 =>
 zb (za (build [Value.int .i64 0, Value.int .i64 0] [(0, 1, x26), (1, 1, x33)])) fun x54 =>
 zb (zjx 2 1 (rep 1 [Value.int .i64 0, Value.int .i64 0]) [(0, 2, x54)]) fun x55 =>
 zb (zj3 2 16 x51 x55) fun x56 =>
 zb (za (zez x46)) fun x57 =>
 zb (za (z6 2 x57)) fun x58 =>
 zb (st1 x58 x56) fun _ =>
 zb (gd x27 true (za (some x33))) fun x61 =>
 zb (gd x27 true (za (bin .gtr x61 (Value.int .i64 0)))) fun x62 =>
 zb (za (zcd x27 x62 (Value.bool false))) fun x63 =>
 ret (.ret [x63])
def zhh (G_strings_IndexRune : List V → M V) (G_strconv_Atoi : List V → M V) (x0 x1 : V) : M V :=
 zb (
 zb (
 zb (za (zb4 x1)) fun x10 =>
 zb (za (bin .neq x10 (Value.int .i64 3))) fun x11 =>
 zb (gd x11 false (za (some x0))) fun x13 =>
 zb (gd x11 false (za (zez x13))) fun x14 =>
 zb (gd x11 false (za (z6 0 x14))) fun x15 =>
 zb (gd x11 false (za (z6 7 x15))) fun x16 =>
 zb (gd x11 false (ld1 x16)) fun x17 =>
 zb (gd x11 false (za (zb4 x17))) fun x18 =>
 zb (gd x11 false (za (bin .eql x18 (Value.int .i64 0)))) fun x19 =>
 zb (za (zcd x11 (Value.bool true) x19)) fun x20 =>
 zbv x20 (
 ret (.ret [(Value.bool false)])
 ) (
 ret (.nxt [x0, x1])
 )
 ) fun o => nx o (ztw G_strings_IndexRune G_strconv_Atoi)
 ) fun o => zcp o fun vs => ret (zcm [(zc vs 0)])
def zvw : Hint := (.seq [] .leaf (.seq [0, 1] (.seq [] .leaf (.cond (.seq [] .leaf .leaf) .leaf)) (.seq [] .leaf (.seq [] (.reg [0, 1, 2, 3, 4, 5, 6] []) (.seq [] (.reg [0, 1, 2, 3, 5, 6, 7, 8, 4, 9, 10, 11, 12, 13] []) (.seq [] .leaf (.seq [] .leaf .leaf)))))))
def zfk (G_strings_IndexRune : List V → M V) (G_strconv_Atoi : List V → M V) (l : List V) : M V := match l with | [x0, x1] => zhh G_strings_IndexRune G_strconv_Atoi x0 x1 | _ => fail
theorem z5h (G_strings_IndexRune : List V → M V) (G_strconv_Atoi : List V → M V) (x0 x1 : V) : zde Tryz.prog (ovr [(zgt, zfn G_strings_IndexRune G_strconv_Atoi), (zci, zb7)] noC) zd3 zvw [x0, x1] = zhh G_strings_IndexRune G_strconv_Atoi x0 x1 := by kernel_rfl
theorem z5i {G_strings_IndexRune : List V → M V} {G_strconv_Atoi : List V → M V} (k_strings_IndexRune : zb3 Tryz.prog zb1 G_strings_IndexRune) (k_strconv_Atoi : zb3 Tryz.prog zcj G_strconv_Atoi) : zb3 Tryz.prog zd3 (zfk G_strings_IndexRune G_strconv_Atoi) := zbw (σ := ovr [(zgt, zfn G_strings_IndexRune G_strconv_Atoi), (zci, zb7)] noC) (hint := zvw) (by kernel_rfl) (zn (zx1 k_strings_IndexRune k_strconv_Atoi) (zn zfs z8)) fun l H r H' h => by
 unfold zfk at h; split at h
 · rw [z5h]; exact h
 · exact (zo h).elim
def zrk (G_strings_IndexRune : List V → M V) (G_strconv_Atoi : List V → M V) (G_strings_IndexByte : List V → M V) : M V :=
 zb (
 zb (zu4) fun x1 =>
 zb (zin (.one .s) x1 (Value.string ⟨#[109, 105, 108, 108, 105, 115]⟩) (Value.func (.func zce) #[] #[])) fun _ =>
 zb (zin (.one .s) x1 (Value.string ⟨#[102, 114, 97, 109, 101]⟩) (Value.func (.func zce) #[] #[])) fun _ =>
 zb (zin (.one .s) x1 (Value.string ⟨#[105, 100, 108, 101]⟩) (Value.func (.func zce) #[] #[])) fun _ =>
 zb (zin (.one .s) x1 (Value.string ⟨#[105, 110]⟩) (Value.func (.func zcs) #[] #[])) fun _ =>
 zb (zin (.one .s) x1 (Value.string ⟨#[111, 117, 116]⟩) (Value.func (.func zcs) #[] #[])) fun _ =>
 zb (zin (.one .s) x1 (Value.string ⟨#[114, 101, 97, 100]⟩) (Value.func (.func zct) #[] #[])) fun _ =>
 zb (zin (.one .s) x1 (Value.string ⟨#[119, 114, 105, 116, 101]⟩) (Value.func (.func zct) #[] #[])) fun _ =>
 zb (zin (.one .s) x1 (Value.string ⟨#[115, 97, 109, 112, 108, 101]⟩) (Value.func (.func zc1) #[] #[])) fun _ =>
 zb (zin (.one .s) x1 (Value.string ⟨#[113, 117, 101, 117, 101]⟩) (Value.func (.func zc1) #[] #[])) fun _ =>
 zb (zin (.one .s) x1 (Value.string ⟨#[119, 105, 110, 100, 111, 119]⟩) (Value.func (.func zdf) #[] #[])) fun _ =>
 zb (zin (.one .s) x1 (Value.string ⟨#[101, 110, 103, 105, 110, 101, 101, 114, 115]⟩) (Value.func (.func zcq) #[] #[])) fun _ =>
 zb (zin (.one .s) x1 (Value.string ⟨#[117, 110, 105, 116]⟩) (Value.func (.func zd1) #[] #[])) fun _ =>
 zb (zin (.one .s) x1 (Value.string ⟨#[103, 101, 116]⟩) (Value.func (.func zc2) #[] #[])) fun _ =>
 zb (zin (.one .s) x1 (Value.string ⟨#[112, 117, 116]⟩) (Value.func (.func zc2) #[] #[])) fun _ =>
 zb (zin (.one .s) x1 (Value.string ⟨#[117, 115, 101, 114]⟩) (Value.func (.func zd2) #[] #[])) fun _ =>
 zb (zin (.one .s) x1 (Value.string ⟨#[114, 111, 108, 101]⟩) (Value.func (.func zd3) #[] #[])) fun _ =>
 ret (.ret [x1])
 ) fun o => zcp o fun vs => ret (zcm [(zc vs 0)])
def z1o : Hint := (.seq [] .leaf (.seq [] .leaf .leaf))
def zk2 (G_strings_IndexRune : List V → M V) (G_strconv_Atoi : List V → M V) (G_strings_IndexByte : List V → M V) (l : List V) : M V := match l with | [] => zrk G_strings_IndexRune G_strconv_Atoi G_strings_IndexByte  | _ => fail
theorem zbb9 (G_strings_IndexRune : List V → M V) (G_strconv_Atoi : List V → M V) (G_strings_IndexByte : List V → M V) : zde Tryz.prog (ovr [] noC) znt z1o [] = zrk G_strings_IndexRune G_strconv_Atoi G_strings_IndexByte  := by kernel_rfl
theorem zbca {G_strings_IndexRune : List V → M V} {G_strconv_Atoi : List V → M V} {G_strings_IndexByte : List V → M V} (k_strings_IndexRune : zb3 Tryz.prog zb1 G_strings_IndexRune) (k_strconv_Atoi : zb3 Tryz.prog zcj G_strconv_Atoi) (k_strings_IndexByte : zb3 Tryz.prog zcu G_strings_IndexByte) : zb3 Tryz.prog znt (zk2 G_strings_IndexRune G_strconv_Atoi G_strings_IndexByte) := zbw (σ := ovr [] noC) (hint := z1o) (by kernel_rfl) z8 fun l H r H' h => by
 unfold zk2 at h; split at h
 · rw [zbb9]; exact h
 · exact (zo h).elim
def zer (x0 x1 : V) : M V :=
 zb (
 zb (zb7 [x0, x1]) fun x7 =>
 zb (za (bin .geq x7 (Value.int .i64 0))) fun x8 =>
 ret (.ret [x8])
 ) fun o => zcp o fun vs => ret (zcm [(zc vs 0)])
def zju : Hint := (.seq [] .leaf (.seq [] .leaf .leaf))
def zcb (l : List V) : M V := match l with | [x0, x1] => zer x0 x1 | _ => fail
def zjv : zbz := ovr [(zci, zb7)] noC
theorem zqp (x0 x1 : V) : zde Tryz.prog (zjv) zco zju [x0, x1] = zer x0 x1 := by kernel_rfl
theorem zqq : zb3 Tryz.prog zco (zcb) := zbw (σ := zjv) (hint := zju) (by kernel_rfl) (zn zfs z8) fun l H r H' h => by
 unfold zcb at h; split at h
 · rw [zqp]; exact h
 · exact (zo h).elim
def ztx (G_strings_Split : List V → M V) (G_strings_IndexRune : List V → M V) (G_strconv_Atoi : List V → M V) (G_strings_IndexByte : List V → M V) (vs_3 : List V) : M Out :=
 ret (.ret [(Value.int .i64 0)])
def zty (G_strings_Split : List V → M V) (G_strings_IndexRune : List V → M V) (G_strconv_Atoi : List V → M V) (G_strings_IndexByte : List V → M V) (vs_2 : List V) : M Out :=
 zb (za (zez (zc vs_2 0))) fun x32 =>
 zb (za (z6 9 x32)) fun x33 =>
 zb (za (zb5 1 (zc vs_2 1) (Value.int .i64 0))) fun x36 =>
 zb (ld1 x33) fun x34 =>
 zb (ld1 x36) fun x37 =>
 zb (zcb [x34, x37]) fun x38 =>
 zb (
 zb (zod (ovr [(zce, zeh G_strings_IndexRune G_strconv_Atoi), (zcs, ze1), (zct, ze2 G_strings_IndexRune G_strconv_Atoi), (zc1, zfg G_strings_IndexRune G_strconv_Atoi), (zdf, zei G_strings_IndexRune G_strconv_Atoi), (zcq, zdt G_strings_IndexRune G_strconv_Atoi), (zd1, zfh), (zc2, zfi G_strings_IndexRune G_strconv_Atoi), (zd2, zfj G_strings_IndexRune G_strings_IndexByte), (zd3, zfk G_strings_IndexRune G_strconv_Atoi), (zdk, G_strings_Split), (zco, zcb)] noC) (zc vs_2 2) [(zc vs_2 0), (zc vs_2 1)]) fun x42 =>
 zb (
 zb (za (un .not x42)) fun x45 =>
 zbv x45 (
 ret (.ret [(Value.int .i64 3)])
 ) (
 zbv x38 (
 ret (.ret [(Value.int .i64 6)])
 ) (
 ret (.nxt [])
 )
 )
 ) fun o => ret (zb9 0 o)
 ) fun o => nx o (ztx G_strings_Split G_strings_IndexRune G_strconv_Atoi G_strings_IndexByte)
def ztz (G_strings_Split : List V → M V) (G_strings_IndexRune : List V → M V) (G_strconv_Atoi : List V → M V) (G_strings_IndexByte : List V → M V) (vs : List V) : M Out :=
 zb (G_strings_Split [(zc vs 1), (Value.string ⟨#[32]⟩)]) fun x19 =>
 zb (za (zb5 1 x19 (Value.int .i64 0))) fun x22 =>
 zb (ld1 x22) fun x23 =>
 zb (lookup (.one .s) (Value.nilFunc) false (zc vs 2) x23) fun x24 =>
 zb (
 zb (za (zey false (zgb .f x24))) fun x26 =>
 zb (gd x26 false (za (some x19))) fun x28 =>
 zb (gd x26 false (zcb [x28, (Value.string ⟨#[]⟩)])) fun x29 =>
 zb (za (zcd x26 (Value.bool true) x29)) fun x30 =>
 zbv x30 (
 ret (.ret [(Value.int .i64 3)])
 ) (
 ret (.nxt [(zc vs 0), x19, x24])
 )
 ) fun o => nx o (zty G_strings_Split G_strings_IndexRune G_strconv_Atoi G_strings_IndexByte)
def zhi (G_strings_Split : List V → M V) (G_strings_IndexRune : List V → M V) (G_strconv_Atoi : List V → M V) (G_strings_IndexByte : List V → M V) (x0 x1 x2 : V) : M V :=
 zb (
 zb (
 zb (za (bin .eql x1 (Value.string ⟨#[]⟩))) fun x12 =>
 zb (gd x12 false (za (some x1))) fun x14 =>
 zb (gd x12 false (za (zr7 x14 (Value.int .i64 0)))) fun x15 =>
 zb (gd x12 false (za (bin .eql x15 (Value.int .u8 35)))) fun x16 =>
 zb (za (zcd x12 (Value.bool true) x16)) fun x17 =>
 zbv x17 (
 ret (.ret [(Value.int .i64 0)])
 ) (
 ret (.nxt [x0, x1, x2])
 )
 ) fun o => nx o (ztz G_strings_Split G_strings_IndexRune G_strconv_Atoi G_strings_IndexByte)
 ) fun o => zcp o fun vs => ret (zcm [(zc vs 0)])
def zvx : Hint := (.seq [] .leaf (.seq [0, 1, 2] (.seq [] .leaf (.cond (.seq [] .leaf .leaf) .leaf)) (.seq [] .leaf (.seq [] .leaf (.seq [0, 7, 8] (.seq [] .leaf (.cond (.seq [] .leaf .leaf) .leaf)) (.seq [] (.reg [0, 1, 2, 4, 5, 3, 6, 7, 8] []) (.seq [] (.seq [] .leaf (.blk (.seq [] .leaf (.cond (.seq [] .leaf .leaf) (.seq [] .leaf (.cond (.seq [] .leaf .leaf) .leaf)))))) (.seq [] .leaf .leaf))))))))
def zhj (G_strings_Split : List V → M V) (G_strings_IndexRune : List V → M V) (G_strconv_Atoi : List V → M V) (G_strings_IndexByte : List V → M V) (l : List V) : M V := match l with | [x0, x1, x2] => zhi G_strings_Split G_strings_IndexRune G_strconv_Atoi G_strings_IndexByte x0 x1 x2 | _ => fail
theorem z5j (G_strings_Split : List V → M V) (G_strings_IndexRune : List V → M V) (G_strconv_Atoi : List V → M V) (G_strings_IndexByte : List V → M V) (x0 x1 x2 : V) : zde Tryz.prog (ovr [(zce, zeh G_strings_IndexRune G_strconv_Atoi), (zcs, ze1), (zct, ze2 G_strings_IndexRune G_strconv_Atoi), (zc1, zfg G_strings_IndexRune G_strconv_Atoi), (zdf, zei G_strings_IndexRune G_strconv_Atoi), (zcq, zdt G_strings_IndexRune G_strconv_Atoi), (zd1, zfh), (zc2, zfi G_strings_IndexRune G_strconv_Atoi), (zd2, zfj G_strings_IndexRune G_strings_IndexByte), (zd3, zfk G_strings_IndexRune G_strconv_Atoi), (zdk, G_strings_Split), (zco, zcb)] noC) zj4 zvx [x0, x1, x2] = zhi G_strings_Split G_strings_IndexRune G_strconv_Atoi G_strings_IndexByte x0 x1 x2 := by kernel_rfl
theorem z5k {G_strings_Split : List V → M V} {G_strings_IndexRune : List V → M V} {G_strconv_Atoi : List V → M V} {G_strings_IndexByte : List V → M V} (k_strings_Split : zb3 Tryz.prog zdk G_strings_Split) (k_strings_IndexRune : zb3 Tryz.prog zb1 G_strings_IndexRune) (k_strconv_Atoi : zb3 Tryz.prog zcj G_strconv_Atoi) (k_strings_IndexByte : zb3 Tryz.prog zcu G_strings_IndexByte) : zb3 Tryz.prog zj4 (zhj G_strings_Split G_strings_IndexRune G_strconv_Atoi G_strings_IndexByte) := zbw (σ := ovr [(zce, zeh G_strings_IndexRune G_strconv_Atoi), (zcs, ze1), (zct, ze2 G_strings_IndexRune G_strconv_Atoi), (zc1, zfg G_strings_IndexRune G_strconv_Atoi), (zdf, zei G_strings_IndexRune G_strconv_Atoi), (zcq, zdt G_strings_IndexRune G_strconv_Atoi), (zd1, zfh), (zc2, zfi G_strings_IndexRune G_strconv_Atoi), (zd2, zfj G_strings_IndexRune G_strings_IndexByte), (zd3, zfk G_strings_IndexRune G_strconv_Atoi), (zdk, G_strings_Split), (zco, zcb)] noC) (hint := zvx) (by kernel_rfl) (zn (z1l k_strings_IndexRune k_strconv_Atoi) (zn z3a (zn (z3c k_strings_IndexRune k_strconv_Atoi) (zn (z5a k_strings_IndexRune k_strconv_Atoi) (zn (z1n k_strings_IndexRune k_strconv_Atoi) (zn (zy0 k_strings_IndexRune k_strconv_Atoi) (zn z5c (zn (z5e k_strings_IndexRune k_strconv_Atoi) (zn (z5g k_strings_IndexRune k_strings_IndexByte) (zn (z5i k_strings_IndexRune k_strconv_Atoi) (zn k_strings_Split (zn zqq z8)))))))))))) fun l H r H' h => by
 unfold zhj at h; split at h
 · rw [z5j]; exact h
 · exact (zo h).elim
def z6z (G_strings_IndexRune : List V → M V) (G_strconv_Atoi : List V → M V) (G_strings_IndexByte : List V → M V) (G_strings_Split : List V → M V) (vs_3 : List V) : M Out :=
 zb (za (bin .add (zc vs_3 5) (Value.int .i64 1))) fun x30 =>
 ret (.nxt [(zc vs_3 0), (zc vs_3 1), (zc vs_3 2), (zc vs_3 3), (zc vs_3 4), x30])
def z60 (G_strings_IndexRune : List V → M V) (G_strconv_Atoi : List V → M V) (G_strings_IndexByte : List V → M V) (G_strings_Split : List V → M V) (vs_2 : List V) : M Out :=
 zb (
 zb (
 zb (za (zb5 1 (zc vs_2 3) (zc vs_2 5))) fun x18 =>
 zb (ld1 x18) fun x19 =>
 zb ((zhj G_strings_Split G_strings_IndexRune G_strconv_Atoi G_strings_IndexByte) [(zc vs_2 1), x19, (zc vs_2 2)]) fun x23 =>
 zb (za (bin .neq x23 (Value.int .i64 0))) fun x25 =>
 zbv x25 (
 zb (za (build [Value.slice none 0 0, Value.slice none 0 0, Value.slice none 0 0, Value.int .i64 0, Value.slice none 0 0, Value.slice none 0 0, Value.int .i64 0, Value.slice none 0 0, Value.int .i64 0] [])) fun x26 =>
 zb (za (bin .add (zc vs_2 5) (Value.int .i64 1))) fun x28 =>
 zb (stn 9 (zc vs_2 0) x26) fun _ =>
 ret (.ret [(zc vs_2 0), x28, x23])
 ) (
 ret (.nxt [(zc vs_2 0), (zc vs_2 1), (zc vs_2 2), (zc vs_2 3), (zc vs_2 4), (zc vs_2 5)])
 )
 ) fun o => ret (zb9 1 o)
 ) fun o => nx o (z6z G_strings_IndexRune G_strconv_Atoi G_strings_IndexByte G_strings_Split)
def zz1 (G_strings_IndexRune : List V → M V) (G_strconv_Atoi : List V → M V) (G_strings_IndexByte : List V → M V) (G_strings_Split : List V → M V) (vs : List V) : M Out :=
 zb (za (bin .lss (zc vs 5) (zc vs 4))) fun x16 =>
 zb (
 zbv x16 (
 ret (.nxt [(zc vs 0), (zc vs 1), (zc vs 2), (zc vs 3), (zc vs 4), (zc vs 5)])
 ) (
 ret (.brk 0 [(zc vs 0), (zc vs 1)])
 )
 ) fun o => nx o (z60 G_strings_IndexRune G_strconv_Atoi G_strings_IndexByte G_strings_Split)
def z61 (G_strings_IndexRune : List V → M V) (G_strconv_Atoi : List V → M V) (G_strings_IndexByte : List V → M V) (G_strings_Split : List V → M V) (vs_4 : List V) : M Out :=
 zb (za (zez (zc vs_4 1))) fun x32 =>
 zb (za (z6 0 x32)) fun x33 =>
 zb (ldn 9 x33) fun x34 =>
 zb (stn 9 (zc vs_4 0) x34) fun _ =>
 ret (.ret [(zc vs_4 0), (Value.int .i64 0), (Value.int .i64 0)])
def zw6 (G_strings_IndexRune : List V → M V) (G_strconv_Atoi : List V → M V) (G_strings_IndexByte : List V → M V) (G_strings_Split : List V → M V) (x0 : V) : M V :=
 zb (
 zb (newc [Value.slice none 0 0, Value.slice none 0 0, Value.slice none 0 0, Value.int .i64 0, Value.slice none 0 0, Value.slice none 0 0, Value.int .i64 0, Value.slice none 0 0, Value.int .i64 0]) fun x2 =>
 zb (za (build [Value.slice none 0 0, Value.slice none 0 0, Value.slice none 0 0, Value.int .i64 0, Value.slice none 0 0, Value.slice none 0 0, Value.int .i64 0, Value.slice none 0 0, Value.int .i64 0, Value.slice none 0 0] [])) fun x10 =>
 zb (zha x10) fun x11 =>
 zb ((zk2 G_strings_IndexRune G_strconv_Atoi G_strings_IndexByte) []) fun x12 =>
 zb (
 zb (za (zb4 x0)) fun x14 =>
 zb (
 zc7 zem (zz1 G_strings_IndexRune G_strconv_Atoi G_strings_IndexByte G_strings_Split) [x2, x11, x12, x0, x14, (Value.int .i64 0)]
 ) fun o => ret (zb9 0 o)
 ) fun o => nx o (z61 G_strings_IndexRune G_strconv_Atoi G_strings_IndexByte G_strings_Split)
 ) fun o => zcp o fun vs => zb (ldn 9 (zc vs 0)) fun r0 => ret (zcm [r0, (zc vs 1), (zc vs 2)])
def z90 : Hint := (.seq [] .leaf (.seq [] .leaf (.seq [2, 5] (.seq [] .leaf (.blk (.loop [2, 5, 6, 13, 14, 15] (.seq [] .leaf (.seq [2, 5, 6, 13, 14, 15] (.cond .leaf .leaf) (.seq [2, 5, 6, 13, 14, 15] (.blk (.seq [] .leaf (.seq [] .leaf (.seq [] .leaf (.cond (.seq [] .leaf .leaf) .leaf))))) .leaf)))))) (.seq [] .leaf .leaf))))
def zqi (G_strings_IndexRune : List V → M V) (G_strconv_Atoi : List V → M V) (G_strings_IndexByte : List V → M V) (G_strings_Split : List V → M V) (l : List V) : M V := match l with | [x0] => zw6 G_strings_IndexRune G_strconv_Atoi G_strings_IndexByte G_strings_Split x0 | _ => fail
theorem zbis (G_strings_IndexRune : List V → M V) (G_strconv_Atoi : List V → M V) (G_strings_IndexByte : List V → M V) (G_strings_Split : List V → M V) (x0 : V) : zde Tryz.prog (ovr [(znt, zk2 G_strings_IndexRune G_strconv_Atoi G_strings_IndexByte), (zj4, zhj G_strings_Split G_strings_IndexRune G_strconv_Atoi G_strings_IndexByte)] noC) zsn z90 [x0] = zw6 G_strings_IndexRune G_strconv_Atoi G_strings_IndexByte G_strings_Split x0 := by kernel_rfl
theorem zbit {G_strings_IndexRune : List V → M V} {G_strconv_Atoi : List V → M V} {G_strings_IndexByte : List V → M V} {G_strings_Split : List V → M V} (k_strings_IndexRune : zb3 Tryz.prog zb1 G_strings_IndexRune) (k_strconv_Atoi : zb3 Tryz.prog zcj G_strconv_Atoi) (k_strings_IndexByte : zb3 Tryz.prog zcu G_strings_IndexByte) (k_strings_Split : zb3 Tryz.prog zdk G_strings_Split) : zb3 Tryz.prog zsn (zqi G_strings_IndexRune G_strconv_Atoi G_strings_IndexByte G_strings_Split) := zbw (σ := ovr [(znt, zk2 G_strings_IndexRune G_strconv_Atoi G_strings_IndexByte), (zj4, zhj G_strings_Split G_strings_IndexRune G_strconv_Atoi G_strings_IndexByte)] noC) (hint := z90) (by kernel_rfl) (zn (zbca k_strings_IndexRune k_strconv_Atoi k_strings_IndexByte) (zn (z5k k_strings_Split k_strings_IndexRune k_strconv_Atoi k_strings_IndexByte) z8)) fun l H r H' h => by
 unfold zqi at h; split at h
 · rw [zbis]; exact h
 · exact (zo h).elim
def zgu (S : zbz) (vs_3 : List V) : M Out :=
 zb (za (bin .add (zc vs_3 3) (Value.int .i64 1))) fun x18 =>
 ret (.nxt [(zc vs_3 0), (zc vs_3 1), (zc vs_3 2), x18])
def zgv (S : zbz) (vs_2 : List V) : M Out :=
 zb (
 zb (
 zb (za (zb5 2 (zc vs_2 0) (zc vs_2 3))) fun x14 =>
 zb (ldn 2 x14) fun x15 =>
 zb (zod (ovr [] S) (zc vs_2 1) [x15]) fun x16 =>
 zbv x16 (
 ret (.ret [(zc vs_2 3)])
 ) (
 ret (.nxt [(zc vs_2 0), (zc vs_2 1), (zc vs_2 2), (zc vs_2 3)])
 )
 ) fun o => ret (zb9 1 o)
 ) fun o => nx o (zgu S)
def zeo (S : zbz) (vs : List V) : M Out :=
 zb (za (bin .lss (zc vs 3) (zc vs 2))) fun x9 =>
 zb (
 zbv x9 (
 ret (.nxt [(zc vs 0), (zc vs 1), (zc vs 2), (zc vs 3)])
 ) (
 ret (.brk 0 [])
 )
 ) fun o => nx o (zgv S)
def zgw (S : zbz) (vs_4 : List V) : M Out :=
 ret (.ret [(Value.int .i64 (-1))])
def zds (S : zbz) (x0 x1 : V) : M V :=
 zb (
 zb (
 zb (za (zb4 x0)) fun x7 =>
 zb (
 zc7 zem (zeo S) [x0, x1, x7, (Value.int .i64 0)]
 ) fun o => ret (zb9 0 o)
 ) fun o => nx o (zgw S)
 ) fun o => zcp o fun vs => ret (zcm [(zc vs 0)])
def zg7 : Hint := (.seq [] .leaf (.seq [] (.seq [] .leaf (.blk (.loop [0, 1, 7, 8] (.seq [] .leaf (.seq [0, 1, 7, 8] (.cond .leaf .leaf) (.seq [0, 1, 7, 8] (.blk (.seq [] .leaf (.seq [] .leaf (.cond (.seq [] .leaf .leaf) .leaf)))) .leaf)))))) (.seq [] .leaf .leaf)))
def zcw (S : zbz) (l : List V) : M V := match l with | [x0, x1] => zds S x0 x1 | _ => fail
theorem zl7 (S : zbz) (x0 x1 : V) : zde Tryz.prog (ovr [] S) zdh zg7 [x0, x1] = zds S x0 x1 := by kernel_rfl
theorem zl8 {S : zbz} (hS : zhz Tryz.prog S) : zb3 Tryz.prog zdh (zcw S) := zbw (σ := ovr [] S) (hint := zg7) (by kernel_rfl) (zgc hS) fun l H r H' h => by
 unfold zcw at h; split at h
 · rw [zl7]; exact h
 · exact (zo h).elim
def zc9 (S : zbz) (x0 x1 : V) : M V :=
 zb (
 zb ((zcw S) [x0, x1]) fun x7 =>
 zb (za (bin .geq x7 (Value.int .i64 0))) fun x8 =>
 ret (.ret [x8])
 ) fun o => zcp o fun vs => ret (zcm [(zc vs 0)])
def zgj : Hint := (.seq [] .leaf (.seq [] .leaf .leaf))
def zcl (S : zbz) (l : List V) : M V := match l with | [x0, x1] => zc9 S x0 x1 | _ => fail
theorem zk6 (S : zbz) (x0 x1 : V) : zde Tryz.prog (ovr [(zdh, zcw S)] S) zeb zgj [x0, x1] = zc9 S x0 x1 := by kernel_rfl
theorem zk7 {S : zbz} (hS : zhz Tryz.prog S) : zb3 Tryz.prog zeb (zcl S) := zbw (σ := ovr [(zdh, zcw S)] S) (hint := zgj) (by kernel_rfl) (zn (zl8 (zgc hS)) (zgc hS)) fun l H r H' h => by
 unfold zcl at h; split at h
 · rw [zk6]; exact h
 · exact (zo h).elim
def zn1 (x0 : V) : M V :=
 zb (
 zb (zha x0) fun x1 =>
 zb (za (z6 0 x1)) fun x3 =>
 zb (ld1 x3) fun x4 =>
 zb (za (bin .lss x4 (Value.int .i64 1))) fun x5 =>
 zb (gd x5 false (za (z6 0 x1))) fun x7 =>
 zb (gd x5 false (ld1 x7)) fun x8 =>
 zb (gd x5 false (za (bin .gtr x8 (Value.int .i64 3)))) fun x9 =>
 zb (za (zcd x5 (Value.bool true) x9)) fun x10 =>
 ret (.ret [x10])
 ) fun o => zcp o fun vs => ret (zcm [(zc vs 0)])
def zy1 : Hint := (.seq [] .leaf (.seq [] .leaf .leaf))
def zhk (l : List V) : M V := match l with | [x0] => zn1 x0 | _ => fail
theorem z83 (x0 : V) : zde Tryz.prog (ovr [] noC) zdn zy1 [x0] = zn1 x0 := by kernel_rfl
theorem z84 : zb3 Tryz.prog zdn (zhk) := zbw (σ := ovr [] noC) (hint := zy1) (by kernel_rfl) z8 fun l H r H' h => by
 unfold zhk at h; split at h
 · rw [z83]; exact h
 · exact (zo h).elim
def zrl (x0 : V) : M V :=
 zb (
 zb (za (bin .geq x0 (Value.int .i64 0))) fun x4 =>
 zb (gd x4 true (za (some x0))) fun x6 =>
 zb (gd x4 true (za (bin .lss x6 (Value.int .i64 8)))) fun x7 =>
 zb (za (zcd x4 x7 (Value.bool false))) fun x8 =>
 ret (.ret [x8])
 ) fun o => zcp o fun vs => ret (zcm [(zc vs 0)])
def z1p : Hint := (.seq [] .leaf (.seq [] .leaf .leaf))
def zne (l : List V) : M V := match l with | [x0] => zrl x0 | _ => fail
theorem zbcb (x0 : V) : zde Tryz.prog (ovr [] noC) zr8 z1p [x0] = zrl x0 := by kernel_rfl
theorem zbcc : zb3 Tryz.prog zr8 (zne) := zbw (σ := ovr [] noC) (hint := z1p) (by kernel_rfl) z8 fun l H r H' h => by
 unfold zne at h; split at h
 · rw [zbcb]; exact h
 · exact (zo h).elim
def zlq (vs_4 : List V) : M Out :=
 zb (ldn 3 (zc vs_4 3)) fun x73 =>
 zb (zin (.agg [.i, .i, .b]) (zc vs_4 1) x73 (Value.bool true)) fun _ =>
 zb (za (z6 1 (zc vs_4 3))) fun x75 =>
 zb (ld1 x75) fun x76 =>
 zb (za (z6 1 (zc vs_4 3))) fun x78 =>
 zb (ld1 x78) fun x79 =>
 zb (lookup (.one .i) (Value.bool false) false (zc vs_4 2) x79) fun x80 =>
 zb (gd x80 false (za (z6 2 (zc vs_4 3)))) fun x82 =>
 zb (gd x80 false (ld1 x82)) fun x83 =>
 zb (za (zcd x80 (Value.bool true) x83)) fun x84 =>
 zb (zin (.one .i) (zc vs_4 2) x76 x84) fun _ =>
 ret (.nxt [(zc vs_4 0), (zc vs_4 1), (zc vs_4 2), (zc vs_4 4), (zc vs_4 5), (zc vs_4 6)])
def zti (vs_5 : List V) : M Out :=
 zb (za (bin .add (zc vs_5 5) (Value.int .i64 1))) fun x85 =>
 ret (.nxt [(zc vs_5 0), (zc vs_5 1), (zc vs_5 2), (zc vs_5 3), (zc vs_5 4), x85])
def z0q (vs_3 : List V) : M Out :=
 zb (
 zb (
 zb (za (zb5 3 (zc vs_3 3) (zc vs_3 5))) fun x24 =>
 zb (ldn 3 x24) fun x25 =>
 zb (newc [Value.int .i64 0, Value.int .i64 0, Value.bool false]) fun x9 =>
 zb (stn 3 x9 x25) fun _ =>
 zb (
 zb (
 zb (za (z6 0 x9)) fun x27 =>
 zb (ld1 x27) fun x28 =>
 zb (zne [x28]) fun x29 =>
 zb (za (un .not x29)) fun x30 =>
 zb (gd x30 false (za (z6 1 x9))) fun x32 =>
 zb (gd x30 false (ld1 x32)) fun x33 =>
 zb (gd x30 false (za (bin .lss x33 (Value.int .i64 0)))) fun x34 =>
 zb (za (zcd x30 (Value.bool true) x34)) fun x35 =>
 zb (gd x35 false (za (z6 1 x9))) fun x37 =>
 zb (gd x35 false (ld1 x37)) fun x38 =>
 zb (gd x35 false (za (some (zc vs_3 0)))) fun x39 =>
 zb (gd x35 false (za (zb4 x39))) fun x40 =>
 zb (gd x35 false (za (bin .geq x38 x40))) fun x41 =>
 zb (za (zcd x35 (Value.bool true) x41)) fun x42 =>
 zbv x42 (
 ret (.ret [(zc vs_3 5), (Value.int .i64 1)])
 ) (
 zb (za (z6 2 x9)) fun x45 =>
 zb (ld1 x45) fun x46 =>
 zb (gd x46 true (za (some (zc vs_3 0)))) fun x48 =>
 zb (gd x46 true (za (z6 1 x9))) fun x49 =>
 zb (gd x46 true (ld1 x49)) fun x50 =>
 zb (gd x46 true (za (zb5 2 x48 x50))) fun x51 =>
 zb (gd x46 true (za (z6 1 x51))) fun x52 =>
 zb (gd x46 true (ld1 x52)) fun x53 =>
 zb (gd x46 true (za (un .not x53))) fun x54 =>
 zb (za (zcd x46 x54 (Value.bool false))) fun x55 =>
 zbv x55 (
 ret (.ret [(zc vs_3 5), (Value.int .i64 91)])
 ) (
 zb (ldn 3 x9) fun x59 =>
 zb (lookup (.agg [.i, .i, .b]) (Value.bool false) false (zc vs_3 1) x59) fun x60 =>
 zb (gd x60 false (za (z6 2 x9))) fun x62 =>
 zb (gd x60 false (ld1 x62)) fun x63 =>
 zb (gd x60 false (za (some x63))) fun x64 =>
 zb (gd x64 true (za (some (zc vs_3 2)))) fun x65 =>
 zb (gd x64 true (za (z6 1 x9))) fun x66 =>
 zb (gd x64 true (ld1 x66)) fun x67 =>
 zb (gd x64 true (lookup (.one .i) (Value.bool false) false x65 x67)) fun x68 =>
 zb (gd x60 false (za (zcd x64 x68 (Value.bool false)))) fun x69 =>
 zb (za (zcd x60 (Value.bool true) x69)) fun x70 =>
 zbv x70 (
 ret (.ret [(zc vs_3 5), (Value.int .i64 190)])
 ) (
 ret (.nxt [(zc vs_3 0), (zc vs_3 1), (zc vs_3 2), x9, (zc vs_3 3), (zc vs_3 4), (zc vs_3 5)])
 )
 )
 )
 ) fun o => ret (zb9 3 o)
 ) fun o => nx o zlq
 ) fun o => ret (zb9 2 o)
 ) fun o => nx o zti
def ztj (vs_2 : List V) : M Out :=
 zb (za (bin .lss (zc vs_2 5) (zc vs_2 4))) fun x22 =>
 zb (
 zbv x22 (
 ret (.nxt [(zc vs_2 0), (zc vs_2 1), (zc vs_2 2), (zc vs_2 3), (zc vs_2 4), (zc vs_2 5)])
 ) (
 ret (.brk 1 [])
 )
 ) fun o => nx o z0q
def z0r (vs_6 : List V) : M Out :=
 ret (.ret [(Value.int .i64 0), (Value.int .i64 0)])
def z0s (vs : List V) : M Out :=
 zb (zu4) fun x17 =>
 zb (zu4) fun x18 =>
 zb (
 zb (za (zb4 (zc vs 1))) fun x20 =>
 zb (
 zc7 zem ztj [(zc vs 0), x17, x18, (zc vs 1), x20, (Value.int .i64 0)]
 ) fun o => ret (zb9 1 o)
 ) fun o => nx o z0r
def znf (x0 x1 : V) : M V :=
 zb (
 zb (
 zb (
 zb (za (zb4 x0)) fun x12 =>
 zb (za (bin .gtr x12 (Value.int .i64 64))) fun x13 =>
 zbv x13 (
 ret (.ret [(Value.int .i64 (-1)), (Value.int .i64 2)])
 ) (
 zb ((zcl (ovr [(zdn, zhk)] noC)) [x0, (Value.func (.func zdn) #[] #[])]) fun x16 =>
 zbv x16 (
 ret (.ret [(Value.int .i64 (-1)), (Value.int .i64 40)])
 ) (
 ret (.nxt [x0, x1])
 )
 )
 ) fun o => ret (zb9 0 o)
 ) fun o => nx o z0s
 ) fun o => zcp o fun vs => ret (zcm [(zc vs 0), (zc vs 1)])
def z1q : Hint := (.seq [] .leaf (.seq [0, 1] (.blk (.seq [] .leaf (.cond (.seq [] .leaf .leaf) (.seq [] .leaf (.cond (.seq [] .leaf .leaf) .leaf))))) (.seq [] .leaf (.seq [] .leaf (.seq [] (.seq [] .leaf (.blk (.loop [0, 6, 7, 19, 20, 21] (.seq [] .leaf (.seq [0, 6, 7, 19, 20, 21] (.cond .leaf .leaf) (.seq [0, 6, 7, 19, 20, 21] (.blk (.seq [] .leaf (.seq [0, 6, 7, 9, 19, 20, 21] (.blk (.seq [] .leaf (.cond (.seq [] .leaf .leaf) (.seq [] .leaf (.cond (.seq [] .leaf .leaf) (.seq [] .leaf (.cond (.seq [] .leaf .leaf) .leaf))))))) (.seq [] .leaf .leaf)))) .leaf)))))) (.seq [] .leaf .leaf))))))
def zjd (l : List V) : M V := match l with | [x0, x1] => znf x0 x1 | _ => fail
def z1r : zbz := ovr [(zeb, zcl (ovr [(zdn, zhk)] noC)), (zr8, zne)] noC
theorem zbcd (x0 x1 : V) : zde Tryz.prog (z1r) znu z1q [x0, x1] = znf x0 x1 := by kernel_rfl
theorem z1s : zb3 Tryz.prog znu (zjd) := zbw (σ := z1r) (hint := z1q) (by kernel_rfl) (zn (zk7 (zn z84 z8)) (zn zbcc z8)) fun l H r H' h => by
 unfold zjd at h; split at h
 · rw [zbcd]; exact h
 · exact (zo h).elim
def zsp (x0 : V) : M V :=
 zb (
 zb (za (bin .geq x0 (Value.int .i64 0))) fun x4 =>
 zb (gd x4 true (za (some x0))) fun x6 =>
 zb (gd x4 true (za (bin .lss x6 (Value.int .i64 8)))) fun x7 =>
 zb (za (zcd x4 x7 (Value.bool false))) fun x8 =>
 ret (.ret [x8])
 ) fun o => zcp o fun vs => ret (zcm [(zc vs 0)])
def z3k : Hint := (.seq [] .leaf (.seq [] .leaf .leaf))
def zl1 (l : List V) : M V := match l with | [x0] => zsp x0 | _ => fail
theorem zbdt (x0 : V) : zde Tryz.prog (ovr [] noC) ztg z3k [x0] = zsp x0 := by kernel_rfl
theorem zbdu : zb3 Tryz.prog ztg (zl1) := zbw (σ := ovr [] noC) (hint := z3k) (by kernel_rfl) z8 fun l H r H' h => by
 unfold zl1 at h; split at h
 · rw [zbdt]; exact h
 · exact (zo h).elim
def z1t (vs_2 : List V) : M Out :=
 ret (.ret [(Value.int .i64 0)])
def z1u (vs : List V) : M Out :=
 zb (
 zb (
 zb (za (z6 0 (zc vs 0))) fun x9 =>
 zb (ld1 x9) fun x10 =>
 zb (za (bin .neq x10 (Value.int .i64 1))) fun x11 =>
 zb (gd x11 true (za (z6 0 (zc vs 0)))) fun x13 =>
 zb (gd x11 true (ld1 x13)) fun x14 =>
 zb (gd x11 true (za (bin .neq x14 (Value.int .i64 2)))) fun x15 =>
 zb (za (zcd x11 x15 (Value.bool false))) fun x16 =>
 zbv x16 (
 ret (.ret [(Value.int .i64 91)])
 ) (
 zb (za (z6 1 (zc vs 0))) fun x18 =>
 zb (ld1 x18) fun x19 =>
 zb (zl1 [x19]) fun x20 =>
 zb (za (un .not x20)) fun x21 =>
 zb (gd x21 false (za (z6 2 (zc vs 0)))) fun x23 =>
 zb (gd x21 false (ld1 x23)) fun x24 =>
 zb (gd x21 false (zl1 [x24])) fun x25 =>
 zb (gd x21 false (za (un .not x25))) fun x26 =>
 zb (za (zcd x21 (Value.bool true) x26)) fun x27 =>
 zbv x27 (
 ret (.ret [(Value.int .i64 1)])
 ) (
 zb (za (z6 1 (zc vs 0))) fun x29 =>
 zb (ld1 x29) fun x30 =>
 zb (za (z6 2 (zc vs 0))) fun x31 =>
 zb (ld1 x31) fun x32 =>
 zb (za (bin .eql x30 x32)) fun x33 =>
 zbv x33 (
 ret (.ret [(Value.int .i64 4)])
 ) (
 zb (za (z6 3 (zc vs 0))) fun x35 =>
 zb (ld1 x35) fun x36 =>
 zb (za (bin .lss x36 (Value.int .i64 1))) fun x37 =>
 zb (gd x37 false (za (z6 3 (zc vs 0)))) fun x39 =>
 zb (gd x37 false (ld1 x39)) fun x40 =>
 zb (gd x37 false (za (bin .gtr x40 (Value.int .i64 3)))) fun x41 =>
 zb (za (zcd x37 (Value.bool true) x41)) fun x42 =>
 zbv x42 (
 ret (.ret [(Value.int .i64 40)])
 ) (
 zb (za (z6 4 (zc vs 0))) fun x44 =>
 zb (ld1 x44) fun x45 =>
 zb (za (bin .lss x45 (zc vs 1))) fun x47 =>
 zb (gd x47 false (za (z6 4 (zc vs 0)))) fun x49 =>
 zb (gd x47 false (ld1 x49)) fun x50 =>
 zb (gd x47 false (za (some (zc vs 2)))) fun x51 =>
 zb (gd x47 false (za (bin .gtr x50 x51))) fun x52 =>
 zb (za (zcd x47 (Value.bool true) x52)) fun x53 =>
 zbv x53 (
 ret (.ret [(Value.int .i64 1)])
 ) (
 ret (.nxt [])
 )
 )
 )
 )
 )
 ) fun o => ret (zb9 0 o)
 ) fun o => nx o z1t
def zsq (x0 : V) : M V :=
 zb (
 zb (zha x0) fun x1 =>
 zb (
 zb (za (z6 0 x1)) fun x5 =>
 zb (ld1 x5) fun x6 =>
 zb (za (bin .eql x6 (Value.int .i64 2))) fun x7 =>
 zbv x7 (
 ret (.nxt [x1, (Value.int .i64 1), (Value.int .i64 16)])
 ) (
 ret (.nxt [x1, (Value.int .i64 0), (Value.int .i64 0)])
 )
 ) fun o => nx o z1u
 ) fun o => zcp o fun vs => ret (zcm [(zc vs 0)])
def z3l : Hint := (.seq [] .leaf (.seq [] .leaf (.seq [1, 3, 4] (.seq [] .leaf (.cond .leaf .leaf)) (.seq [] (.blk (.seq [] .leaf (.cond (.seq [] .leaf .leaf) (.seq [] .leaf (.cond (.seq [] .leaf .leaf) (.seq [] .leaf (.cond (.seq [] .leaf .leaf) (.seq [] .leaf (.cond (.seq [] .leaf .leaf) (.seq [] .leaf (.cond (.seq [] .leaf .leaf) .leaf))))))))))) (.seq [] .leaf .leaf)))))
def zo6 (l : List V) : M V := match l with | [x0] => zsq x0 | _ => fail
def z3m : zbz := ovr [(ztg, zl1)] noC
theorem zbdv (x0 : V) : zde Tryz.prog (z3m) ztf z3l [x0] = zsq x0 := by kernel_rfl
theorem zbdw : zb3 Tryz.prog ztf (zo6) := zbw (σ := z3m) (hint := z3l) (by kernel_rfl) (zn zbdu z8) fun l H r H' h => by
 unfold zo6 at h; split at h
 · rw [zbdv]; exact h
 · exact (zo h).elim
def z1v (vs_4 : List V) : M Out :=
 zb (za (bin .add (zc vs_4 2) (Value.int .i64 1))) fun x23 =>
 ret (.nxt [(zc vs_4 0), (zc vs_4 1), x23])
def z1w (vs_3 : List V) : M Out :=
 zb (
 zb (
 zb (za (zb5 5 (zc vs_3 0) (zc vs_3 2))) fun x15 =>
 zb (ldn 5 x15) fun x16 =>
 zb (newc [Value.int .i64 0, Value.int .i64 0, Value.int .i64 0, Value.int .i64 0, Value.int .i64 0]) fun x5 =>
 zb (stn 5 x5 x16) fun _ =>
 zb (ldn 5 x5) fun x17 =>
 zb (zo6 [x17]) fun x18 =>
 zb (za (bin .neq x18 (Value.int .i64 0))) fun x20 =>
 zbv x20 (
 ret (.ret [(zc vs_3 2), x18])
 ) (
 ret (.nxt [(zc vs_3 0), (zc vs_3 1), (zc vs_3 2)])
 )
 ) fun o => ret (zb9 1 o)
 ) fun o => nx o z1v
def zvy (vs_2 : List V) : M Out :=
 zb (za (bin .lss (zc vs_2 2) (zc vs_2 1))) fun x13 =>
 zb (
 zbv x13 (
 ret (.nxt [(zc vs_2 0), (zc vs_2 1), (zc vs_2 2)])
 ) (
 ret (.brk 0 [])
 )
 ) fun o => nx o z1w
def z1x (vs_5 : List V) : M Out :=
 ret (.ret [(Value.int .i64 0), (Value.int .i64 0)])
def z1y (vs : List V) : M Out :=
 zb (
 zb (za (zb4 (zc vs 0))) fun x11 =>
 zb (
 zc7 zem zvy [(zc vs 0), x11, (Value.int .i64 0)]
 ) fun o => ret (zb9 0 o)
 ) fun o => nx o z1x
def zo7 (x0 : V) : M V :=
 zb (
 zb (
 zb (za (zb4 x0)) fun x8 =>
 zb (za (bin .gtr x8 (Value.int .i64 16))) fun x9 =>
 zbv x9 (
 ret (.ret [(Value.int .i64 (-1)), (Value.int .i64 2)])
 ) (
 ret (.nxt [x0])
 )
 ) fun o => nx o z1y
 ) fun o => zcp o fun vs => ret (zcm [(zc vs 0), (zc vs 1)])
def z3n : Hint := (.seq [] .leaf (.seq [0] (.seq [] .leaf (.cond (.seq [] .leaf .leaf) .leaf)) (.seq [] (.seq [] .leaf (.blk (.loop [10, 11, 12] (.seq [] .leaf (.seq [10, 11, 12] (.cond .leaf .leaf) (.seq [10, 11, 12] (.blk (.seq [] .leaf (.seq [] .leaf (.seq [] .leaf (.cond (.seq [] .leaf .leaf) .leaf))))) .leaf)))))) (.seq [] .leaf .leaf))))
def zkg (l : List V) : M V := match l with | [x0] => zo7 x0 | _ => fail
def z3o : zbz := ovr [(ztf, zo6)] noC
theorem zbdx (x0 : V) : zde Tryz.prog (z3o) zpl z3n [x0] = zo7 x0 := by kernel_rfl
theorem z3p : zb3 Tryz.prog zpl (zkg) := zbw (σ := z3o) (hint := z3n) (by kernel_rfl) (zn zbdw z8) fun l H r H' h => by
 unfold zkg at h; split at h
 · rw [zbdx]; exact h
 · exact (zo h).elim
def zz2 (vs_3 : List V) : M Out :=
 zb (za (bin .add (zc vs_3 4) (Value.int .i64 1))) fun x21 =>
 ret (.nxt [(zc vs_3 0), (zc vs_3 1), (zc vs_3 2), (zc vs_3 3), x21])
def zz3 (vs_2 : List V) : M Out :=
 zb (
 zb (
 zb (za (zb5 3 (zc vs_2 2) (zc vs_2 4))) fun x13 =>
 zb (ldn 3 x13) fun x14 =>
 zb (newc [Value.int .i64 0, Value.int .i64 0, Value.int .i64 0]) fun x7 =>
 zb (stn 3 x7 x14) fun _ =>
 zb (za (z6 0 x7)) fun x15 =>
 zb (ld1 x15) fun x16 =>
 zb (za (bin .eql x16 (zc vs_2 0))) fun x18 =>
 zbv x18 (
 zb (za (bin .add (zc vs_2 1) (Value.int .i64 1))) fun x20 =>
 ret (.nxt [(zc vs_2 0), x20, (zc vs_2 2), (zc vs_2 3), (zc vs_2 4)])
 ) (
 ret (.nxt [(zc vs_2 0), (zc vs_2 1), (zc vs_2 2), (zc vs_2 3), (zc vs_2 4)])
 )
 ) fun o => ret (zb9 1 o)
 ) fun o => nx o zz2
def zul (vs : List V) : M Out :=
 zb (za (bin .lss (zc vs 4) (zc vs 3))) fun x12 =>
 zb (
 zbv x12 (
 ret (.nxt [(zc vs 0), (zc vs 1), (zc vs 2), (zc vs 3), (zc vs 4)])
 ) (
 ret (.brk 0 [(zc vs 1)])
 )
 ) fun o => nx o zz3
def z62 (vs_4 : List V) : M Out :=
 ret (.ret [(zc vs_4 0)])
def zw7 (x0 x1 : V) : M V :=
 zb (
 zb (zha x0) fun x2 =>
 zb (
 zb (za (z6 1 x2)) fun x8 =>
 zb (ld1 x8) fun x9 =>
 zb (za (zb4 x9)) fun x10 =>
 zb (
 zc7 zem zul [x1, (Value.int .i64 0), x9, x10, (Value.int .i64 0)]
 ) fun o => ret (zb9 0 o)
 ) fun o => nx o z62
 ) fun o => zcp o fun vs => ret (zcm [(zc vs 0)])
def z91 : Hint := (.seq [] .leaf (.seq [] .leaf (.seq [5] (.seq [] .leaf (.blk (.loop [1, 5, 9, 10, 11] (.seq [] .leaf (.seq [1, 5, 9, 10, 11] (.cond .leaf .leaf) (.seq [1, 5, 9, 10, 11] (.blk (.seq [] .leaf (.seq [] .leaf (.cond .leaf .leaf)))) .leaf)))))) (.seq [] .leaf .leaf))))
def zqj (l : List V) : M V := match l with | [x0, x1] => zw7 x0 x1 | _ => fail
theorem zbiu (x0 x1 : V) : zde Tryz.prog (ovr [] noC) zxt z91 [x0, x1] = zw7 x0 x1 := by kernel_rfl
theorem zbiv : zb3 Tryz.prog zxt (zqj) := zbw (σ := ovr [] noC) (hint := z91) (by kernel_rfl) z8 fun l H r H' h => by
 unfold zqj at h; split at h
 · rw [zbiu]; exact h
 · exact (zo h).elim
def z3q (vs_4 : List V) : M Out :=
 zb (za (z6 1 (zc vs_4 2))) fun x84 =>
 zb (ld1 x84) fun x85 =>
 zb (za (z6 2 (zc vs_4 2))) fun x86 =>
 zb (ld1 x86) fun x87 =>
 zb (za (bin .add x85 x87)) fun x88 =>
 ret (.nxt [(zc vs_4 0), (zc vs_4 1), x88, (zc vs_4 3), (zc vs_4 4), (zc vs_4 5)])
def z3r (vs_5 : List V) : M Out :=
 zb (za (bin .add (zc vs_5 5) (Value.int .i64 1))) fun x89 =>
 ret (.nxt [(zc vs_5 0), (zc vs_5 1), (zc vs_5 2), (zc vs_5 3), (zc vs_5 4), x89])
def ziz (vs_3 : List V) : M Out :=
 zb (
 zb (
 zb (za (zb5 3 (zc vs_3 3) (zc vs_3 5))) fun x44 =>
 zb (ldn 3 x44) fun x45 =>
 zb (newc [Value.int .i64 0, Value.int .i64 0, Value.int .i64 0]) fun x8 =>
 zb (stn 3 x8 x45) fun _ =>
 zb (
 zb (za (z6 0 x8)) fun x46 =>
 zb (ld1 x46) fun x47 =>
 zb (za (bin .lss x47 (Value.int .i64 (-1)))) fun x48 =>
 zb (gd x48 false (za (z6 0 x8))) fun x50 =>
 zb (gd x48 false (ld1 x50)) fun x51 =>
 zb (gd x48 false (za (some (zc vs_3 0)))) fun x52 =>
 zb (gd x48 false (za (bin .geq x51 x52))) fun x53 =>
 zb (za (zcd x48 (Value.bool true) x53)) fun x54 =>
 zb (gd x54 false (za (z6 2 x8))) fun x56 =>
 zb (gd x54 false (ld1 x56)) fun x57 =>
 zb (gd x54 false (za (bin .lss x57 (Value.int .i64 1)))) fun x58 =>
 zb (za (zcd x54 (Value.bool true) x58)) fun x59 =>
 zb (gd x59 false (za (z6 1 x8))) fun x61 =>
 zb (gd x59 false (ld1 x61)) fun x62 =>
 zb (gd x59 false (za (some (zc vs_3 2)))) fun x63 =>
 zb (gd x59 false (za (bin .lss x62 x63))) fun x64 =>
 zb (za (zcd x59 (Value.bool true) x64)) fun x65 =>
 zb (gd x65 false (za (z6 1 x8))) fun x67 =>
 zb (gd x65 false (ld1 x67)) fun x68 =>
 zb (gd x65 false (za (z6 0 (zc vs_3 1)))) fun x69 =>
 zb (gd x65 false (ld1 x69)) fun x70 =>
 zb (gd x65 false (za (bin .gtr x68 x70))) fun x71 =>
 zb (za (zcd x65 (Value.bool true) x71)) fun x72 =>
 zb (gd x72 false (za (z6 2 x8))) fun x74 =>
 zb (gd x72 false (ld1 x74)) fun x75 =>
 zb (gd x72 false (za (z6 0 (zc vs_3 1)))) fun x76 =>
 zb (gd x72 false (ld1 x76)) fun x77 =>
 zb (gd x72 false (za (z6 1 x8))) fun x78 =>
 zb (gd x72 false (ld1 x78)) fun x79 =>
 zb (gd x72 false (za (bin .sub x77 x79))) fun x80 =>
 zb (gd x72 false (za (bin .gtr x75 x80))) fun x81 =>
 zb (za (zcd x72 (Value.bool true) x81)) fun x82 =>
 zbv x82 (
 ret (.ret [(zc vs_3 5), (Value.int .i64 210)])
 ) (
 ret (.nxt [(zc vs_3 0), (zc vs_3 1), x8, (zc vs_3 3), (zc vs_3 4), (zc vs_3 5)])
 )
 ) fun o => nx o z3q
 ) fun o => ret (zb9 2 o)
 ) fun o => nx o z3r
def zhw (vs_2 : List V) : M Out :=
 zb (za (bin .lss (zc vs_2 5) (zc vs_2 4))) fun x42 =>
 zb (
 zbv x42 (
 ret (.nxt [(zc vs_2 0), (zc vs_2 1), (zc vs_2 2), (zc vs_2 3), (zc vs_2 4), (zc vs_2 5)])
 ) (
 ret (.brk 1 [(zc vs_2 0), (zc vs_2 1)])
 )
 ) fun o => nx o ziz
def z3s (vs_10 : List V) : M Out :=
 zb (za (bin .add (zc vs_10 2) (Value.int .i64 1))) fun x101 =>
 ret (.nxt [(zc vs_10 0), (zc vs_10 1), x101])
def z3t (vs_9 : List V) : M Out :=
 zb (
 zb (
 zb (ldn 2 (zc vs_9 0)) fun x97 =>
 zb (zqj [x97, (zc vs_9 2)]) fun x99 =>
 zb (za (bin .eql x99 (Value.int .i64 0))) fun x100 =>
 zbv x100 (
 ret (.ret [(Value.int .i64 (-1)), (Value.int .i64 210)])
 ) (
 ret (.nxt [(zc vs_9 0), (zc vs_9 1), (zc vs_9 2)])
 )
 ) fun o => ret (zb9 4 o)
 ) fun o => nx o z3s
def zx3 (vs_8 : List V) : M Out :=
 zb (za (bin .lss (zc vs_8 2) (zc vs_8 1))) fun x95 =>
 zb (
 zbv x95 (
 ret (.nxt [(zc vs_8 0), (zc vs_8 1), (zc vs_8 2)])
 ) (
 ret (.brk 3 [])
 )
 ) fun o => nx o z3t
def z3u (vs_11 : List V) : M Out :=
 ret (.ret [(Value.int .i64 0), (Value.int .i64 0)])
def z3v (vs_7 : List V) : M Out :=
 zb (
 zb (
 zc7 zem zx3 [(zc vs_7 1), (zc vs_7 0), (Value.int .i64 0)]
 ) fun o => ret (zb9 3 o)
 ) fun o => nx o z3u
def z3w (vs_6 : List V) : M Out :=
 zb (
 zb (ldn 2 (zc vs_6 1)) fun x90 =>
 zb (zqj [x90, (Value.int .i64 (-1))]) fun x91 =>
 zb (za (bin .gtr x91 (Value.int .i64 1))) fun x92 =>
 zbv x92 (
 ret (.ret [(Value.int .i64 (-1)), (Value.int .i64 210)])
 ) (
 ret (.nxt [(zc vs_6 0), (zc vs_6 1)])
 )
 ) fun o => nx o z3v
def z1z (vs : List V) : M Out :=
 zb (
 zb (za (z6 1 (zc vs 1))) fun x38 =>
 zb (ld1 x38) fun x39 =>
 zb (za (zb4 x39)) fun x40 =>
 zb (
 zc7 zem zhw [(zc vs 0), (zc vs 1), (Value.int .i64 0), x39, x40, (Value.int .i64 0)]
 ) fun o => ret (zb9 1 o)
 ) fun o => nx o z3w
def zhx (x0 x1 : V) : M V :=
 zb (
 zb (zha x0) fun x2 =>
 zb (
 zb (
 zb (za (bin .lss x1 (Value.int .i64 1))) fun x12 =>
 zb (gd x12 false (za (some x1))) fun x14 =>
 zb (gd x12 false (za (bin .gtr x14 (Value.int .i64 8)))) fun x15 =>
 zb (za (zcd x12 (Value.bool true) x15)) fun x16 =>
 zbv x16 (
 ret (.ret [(Value.int .i64 (-1)), (Value.int .i64 1)])
 ) (
 zb (za (z6 0 x2)) fun x18 =>
 zb (ld1 x18) fun x19 =>
 zb (za (bin .lss x19 (Value.int .i64 1))) fun x20 =>
 zb (gd x20 false (za (z6 0 x2))) fun x22 =>
 zb (gd x20 false (ld1 x22)) fun x23 =>
 zb (gd x20 false (za (bin .gtr x23 (Value.int .i64 65536)))) fun x24 =>
 zb (za (zcd x20 (Value.bool true) x24)) fun x25 =>
 zb (gd x25 false (za (z6 1 x2))) fun x27 =>
 zb (gd x25 false (ld1 x27)) fun x28 =>
 zb (gd x25 false (za (zb4 x28))) fun x29 =>
 zb (gd x25 false (za (bin .lss x29 (Value.int .i64 1)))) fun x30 =>
 zb (za (zcd x25 (Value.bool true) x30)) fun x31 =>
 zb (gd x31 false (za (z6 1 x2))) fun x33 =>
 zb (gd x31 false (ld1 x33)) fun x34 =>
 zb (gd x31 false (za (zb4 x34))) fun x35 =>
 zb (gd x31 false (za (bin .gtr x35 (Value.int .i64 32)))) fun x36 =>
 zb (za (zcd x31 (Value.bool true) x36)) fun x37 =>
 zbv x37 (
 ret (.ret [(Value.int .i64 (-1)), (Value.int .i64 210)])
 ) (
 ret (.nxt [x1, x2])
 )
 )
 ) fun o => ret (zb9 0 o)
 ) fun o => nx o z1z
 ) fun o => zcp o fun vs => ret (zcm [(zc vs 0), (zc vs 1)])
def z63 : Hint := (.seq [] .leaf (.seq [1, 2] (.blk (.seq [] .leaf (.cond (.seq [] .leaf .leaf) (.seq [] .leaf (.cond (.seq [] .leaf .leaf) .leaf))))) (.seq [] .leaf (.seq [1, 2] (.seq [] .leaf (.blk (.loop [1, 2, 6, 39, 40, 41] (.seq [] .leaf (.seq [1, 2, 6, 39, 40, 41] (.cond .leaf .leaf) (.seq [1, 2, 6, 39, 40, 41] (.blk (.seq [] .leaf (.seq [1, 2, 8, 39, 40, 41] (.seq [] .leaf (.cond (.seq [] .leaf .leaf) .leaf)) .leaf))) .leaf)))))) (.seq [1, 2] (.seq [] .leaf (.cond (.seq [] .leaf .leaf) .leaf)) (.seq [] (.seq [] .leaf (.blk (.loop [2, 93, 94] (.seq [] .leaf (.seq [2, 93, 94] (.cond .leaf .leaf) (.seq [2, 93, 94] (.blk (.seq [] .leaf (.seq [] .leaf (.cond (.seq [] .leaf .leaf) .leaf)))) .leaf)))))) (.seq [] .leaf .leaf)))))))
def zrm (l : List V) : M V := match l with | [x0, x1] => zhx x0 x1 | _ => fail
def z64 : zbz := ovr [(zxt, zqj)] noC
theorem zbf7 (x0 x1 : V) : zde Tryz.prog (z64) zvh z63 [x0, x1] = zhx x0 x1 := by kernel_rfl
theorem zbf8 : zb3 Tryz.prog zvh (zrm) := zbw (σ := z64) (hint := z63) (by kernel_rfl) (zn zbiv z8) fun l H r H' h => by
 unfold zrm at h; split at h
 · rw [zbf7]; exact h
 · exact (zo h).elim
def zrn (x0 x1 : V) : M V :=
 zb (
 zb (zha x0) fun x2 =>
 zb (za (z6 0 x2)) fun x4 =>
 zb (ld1 x4) fun x5 =>
 zb (ld1 x1) fun x6 =>
 zb (za (bin .geq x5 x6)) fun x7 =>
 ret (.ret [x7])
 ) fun o => zcp o fun vs => ret (zcm [(zc vs 0)])
def z10 : Hint := (.seq [] .leaf (.seq [] .leaf .leaf))
def zf1 (l : List V) : M V := match l with | [x0, x1] => zrn x0 x1 | _ => fail
theorem zbce (x0 x1 : V) : zde Tryz.prog (ovr [] noC) zeu z10 [x0, x1] = zrn x0 x1 := by kernel_rfl
theorem z11 : zb3 Tryz.prog zeu (zf1) := zbw (σ := ovr [] noC) (hint := z10) (by kernel_rfl) z8 fun l H r H' h => by
 unfold zf1 at h; split at h
 · rw [zbce]; exact h
 · exact (zo h).elim
def zlr (S : zbz) (vs_3 : List V) : M Out :=
 zb (za (bin .add (zc vs_3 3) (Value.int .i64 1))) fun x18 =>
 ret (.nxt [(zc vs_3 0), (zc vs_3 1), (zc vs_3 2), x18])
def zls (S : zbz) (vs_2 : List V) : M Out :=
 zb (
 zb (
 zb (za (zb5 3 (zc vs_2 0) (zc vs_2 3))) fun x14 =>
 zb (ldn 3 x14) fun x15 =>
 zb (zod (ovr [] S) (zc vs_2 1) [x15]) fun x16 =>
 zbv x16 (
 ret (.ret [(zc vs_2 3)])
 ) (
 ret (.nxt [(zc vs_2 0), (zc vs_2 1), (zc vs_2 2), (zc vs_2 3)])
 )
 ) fun o => ret (zb9 1 o)
 ) fun o => nx o (zlr S)
def zlt (S : zbz) (vs : List V) : M Out :=
 zb (za (bin .lss (zc vs 3) (zc vs 2))) fun x9 =>
 zb (
 zbv x9 (
 ret (.nxt [(zc vs 0), (zc vs 1), (zc vs 2), (zc vs 3)])
 ) (
 ret (.brk 0 [])
 )
 ) fun o => nx o (zls S)
def zlu (S : zbz) (vs_4 : List V) : M Out :=
 ret (.ret [(Value.int .i64 (-1))])
def zg8 (S : zbz) (x0 x1 : V) : M V :=
 zb (
 zb (
 zb (za (zb4 x0)) fun x7 =>
 zb (
 zc7 zem (zlt S) [x0, x1, x7, (Value.int .i64 0)]
 ) fun o => ret (zb9 0 o)
 ) fun o => nx o (zlu S)
 ) fun o => zcp o fun vs => ret (zcm [(zc vs 0)])
def zg9 : Hint := (.seq [] .leaf (.seq [] (.seq [] .leaf (.blk (.loop [0, 1, 7, 8] (.seq [] .leaf (.seq [0, 1, 7, 8] (.cond .leaf .leaf) (.seq [0, 1, 7, 8] (.blk (.seq [] .leaf (.seq [] .leaf (.cond (.seq [] .leaf .leaf) .leaf)))) .leaf)))))) (.seq [] .leaf .leaf)))
def zcx (S : zbz) (l : List V) : M V := match l with | [x0, x1] => zg8 S x0 x1 | _ => fail
theorem zl9 (S : zbz) (x0 x1 : V) : zde Tryz.prog (ovr [] S) zdg zg9 [x0, x1] = zg8 S x0 x1 := by kernel_rfl
theorem zma {S : zbz} (hS : zhz Tryz.prog S) : zb3 Tryz.prog zdg (zcx S) := zbw (σ := ovr [] S) (hint := zg9) (by kernel_rfl) (zgc hS) fun l H r H' h => by
 unfold zcx at h; split at h
 · rw [zl9]; exact h
 · exact (zo h).elim
def zgk (S : zbz) (x0 x1 : V) : M V :=
 zb (
 zb ((zcx S) [x0, x1]) fun x7 =>
 zb (za (bin .geq x7 (Value.int .i64 0))) fun x8 =>
 ret (.ret [x8])
 ) fun o => zcp o fun vs => ret (zcm [(zc vs 0)])
def zgl : Hint := (.seq [] .leaf (.seq [] .leaf .leaf))
def zca (S : zbz) (l : List V) : M V := match l with | [x0, x1] => zgk S x0 x1 | _ => fail
theorem zk8 (S : zbz) (x0 x1 : V) : zde Tryz.prog (ovr [(zdg, zcx S)] S) zc5 zgl [x0, x1] = zgk S x0 x1 := by kernel_rfl
theorem zgm {S : zbz} (hS : zhz Tryz.prog S) : zb3 Tryz.prog zc5 (zca S) := zbw (σ := ovr [(zdg, zcx S)] S) (hint := zgl) (by kernel_rfl) (zn (zma (zgc hS)) (zgc hS)) fun l H r H' h => by
 unfold zca at h; split at h
 · rw [zk8]; exact h
 · exact (zo h).elim
def zng (x0 x1 : V) : M V :=
 zb (
 zb (zha x0) fun x2 =>
 zb (za (z6 1 x2)) fun x4 =>
 zb (ld1 x4) fun x5 =>
 zb (ld1 x1) fun x6 =>
 zb (za (bin .geq x5 x6)) fun x7 =>
 zb (gd x7 false (za (z6 2 x2))) fun x9 =>
 zb (gd x7 false (ld1 x9)) fun x10 =>
 zb (gd x7 false (ld1 x1)) fun x11 =>
 zb (gd x7 false (za (bin .geq x10 x11))) fun x12 =>
 zb (za (zcd x7 (Value.bool true) x12)) fun x13 =>
 ret (.ret [x13])
 ) fun o => zcp o fun vs => ret (zcm [(zc vs 0)])
def z12 : Hint := (.seq [] .leaf (.seq [] .leaf .leaf))
def zf2 (l : List V) : M V := match l with | [x0, x1] => zng x0 x1 | _ => fail
theorem zbcf (x0 x1 : V) : zde Tryz.prog (ovr [] noC) zev z12 [x0, x1] = zng x0 x1 := by kernel_rfl
theorem z13 : zb3 Tryz.prog zev (zf2) := zbw (σ := ovr [] noC) (hint := z12) (by kernel_rfl) z8 fun l H r H' h => by
 unfold zf2 at h; split at h
 · rw [zbcf]; exact h
 · exact (zo h).elim
def zmk (S : zbz) (vs_3 : List V) : M Out :=
 zb (za (bin .add (zc vs_3 3) (Value.int .i64 1))) fun x18 =>
 ret (.nxt [(zc vs_3 0), (zc vs_3 1), (zc vs_3 2), x18])
def zml (S : zbz) (vs_2 : List V) : M Out :=
 zb (
 zb (
 zb (za (zb5 5 (zc vs_2 0) (zc vs_2 3))) fun x14 =>
 zb (ldn 5 x14) fun x15 =>
 zb (zod (ovr [] S) (zc vs_2 1) [x15]) fun x16 =>
 zbv x16 (
 ret (.ret [(zc vs_2 3)])
 ) (
 ret (.nxt [(zc vs_2 0), (zc vs_2 1), (zc vs_2 2), (zc vs_2 3)])
 )
 ) fun o => ret (zb9 1 o)
 ) fun o => nx o (zmk S)
def zmm (S : zbz) (vs : List V) : M Out :=
 zb (za (bin .lss (zc vs 3) (zc vs 2))) fun x9 =>
 zb (
 zbv x9 (
 ret (.nxt [(zc vs 0), (zc vs 1), (zc vs 2), (zc vs 3)])
 ) (
 ret (.brk 0 [])
 )
 ) fun o => nx o (zml S)
def zmn (S : zbz) (vs_4 : List V) : M Out :=
 ret (.ret [(Value.int .i64 (-1))])
def zh2 (S : zbz) (x0 x1 : V) : M V :=
 zb (
 zb (
 zb (za (zb4 x0)) fun x7 =>
 zb (
 zc7 zem (zmm S) [x0, x1, x7, (Value.int .i64 0)]
 ) fun o => ret (zb9 0 o)
 ) fun o => nx o (zmn S)
 ) fun o => zcp o fun vs => ret (zcm [(zc vs 0)])
def zh3 : Hint := (.seq [] .leaf (.seq [] (.seq [] .leaf (.blk (.loop [0, 1, 7, 8] (.seq [] .leaf (.seq [0, 1, 7, 8] (.cond .leaf .leaf) (.seq [0, 1, 7, 8] (.blk (.seq [] .leaf (.seq [] .leaf (.cond (.seq [] .leaf .leaf) .leaf)))) .leaf)))))) (.seq [] .leaf .leaf)))
def zc3 (S : zbz) (l : List V) : M V := match l with | [x0, x1] => zh2 S x0 x1 | _ => fail
theorem znh (S : zbz) (x0 x1 : V) : zde Tryz.prog (ovr [] S) zdr zh3 [x0, x1] = zh2 S x0 x1 := by kernel_rfl
theorem zni {S : zbz} (hS : zhz Tryz.prog S) : zb3 Tryz.prog zdr (zc3 S) := zbw (σ := ovr [] S) (hint := zh3) (by kernel_rfl) (zgc hS) fun l H r H' h => by
 unfold zc3 at h; split at h
 · rw [znh]; exact h
 · exact (zo h).elim
def zgx (S : zbz) (x0 x1 : V) : M V :=
 zb (
 zb ((zc3 S) [x0, x1]) fun x7 =>
 zb (za (bin .geq x7 (Value.int .i64 0))) fun x8 =>
 ret (.ret [x8])
 ) fun o => zcp o fun vs => ret (zcm [(zc vs 0)])
def zgy : Hint := (.seq [] .leaf (.seq [] .leaf .leaf))
def zcn (S : zbz) (l : List V) : M V := match l with | [x0, x1] => zgx S x0 x1 | _ => fail
theorem zlv (S : zbz) (x0 x1 : V) : zde Tryz.prog (ovr [(zdr, zc3 S)] S) zeg zgy [x0, x1] = zgx S x0 x1 := by kernel_rfl
theorem zlw {S : zbz} (hS : zhz Tryz.prog S) : zb3 Tryz.prog zeg (zcn S) := zbw (σ := ovr [(zdr, zc3 S)] S) (hint := zgy) (by kernel_rfl) (zn (zni (zgc hS)) (zgc hS)) fun l H r H' h => by
 unfold zcn at h; split at h
 · rw [zlv]; exact h
 · exact (zo h).elim
def z3x (vs : List V) : M Out :=
 zb (za (build [] [])) fun x15 =>
 zb (za (some (Value.iface zvj x15))) fun x16 =>
 ret (.ret [x16])
def zn2 (x0 : V) : M V :=
 zb (
 zb (zha x0) fun x1 =>
 zb (
 zb (za (z6 0 x1)) fun x3 =>
 zb (ld1 x3) fun x4 =>
 zb (
 zb (za (bin .eql x4 (Value.int .i64 1))) fun x6 =>
 zbv x6 (
 zb (za (z6 1 x1)) fun x7 =>
 zb (ld1 x7) fun x8 =>
 zb (za (some (Value.iface zq3 x8))) fun x9 =>
 ret (.ret [x9])
 ) (
 zb (za (bin .eql x4 (Value.int .i64 2))) fun x11 =>
 zbv x11 (
 zb (za (z6 1 x1)) fun x12 =>
 zb (ld1 x12) fun x13 =>
 zb (za (some (Value.iface zso x13))) fun x14 =>
 ret (.ret [x14])
 ) (
 ret (.nxt [])
 )
 )
 ) fun o => ret (zb9 0 o)
 ) fun o => nx o z3x
 ) fun o => zcp o fun vs => ret (zcm [(zc vs 0)])
def z65 : Hint := (.seq [] .leaf (.seq [] (.seq [] .leaf (.blk (.seq [] .leaf (.cond (.seq [] .leaf .leaf) (.seq [] .leaf (.cond (.seq [] .leaf .leaf) .leaf)))))) (.seq [] .leaf .leaf)))
def zf7 (l : List V) : M V := match l with | [x0] => zn2 x0 | _ => fail
theorem zbf9 (x0 : V) : zde Tryz.prog (ovr [] noC) zh0 z65 [x0] = zn2 x0 := by kernel_rfl
theorem z66 : zb3 Tryz.prog zh0 (zf7) := zbw (σ := ovr [] noC) (hint := z65) (by kernel_rfl) z8 fun l H r H' h => by
 unfold zf7 at h; split at h
 · rw [zbf9]; exact h
 · exact (zo h).elim
def zi0 (vs_3 : List V) : M Out :=
 zb (za (bin .add (zc vs_3 3) (Value.int .i64 1))) fun x18 =>
 ret (.nxt [(zc vs_3 0), (zc vs_3 1), (zc vs_3 2), x18])
def zf3 (vs_2 : List V) : M Out :=
 zb (
 zb (
 zb (za (zb5 2 (zc vs_2 0) (zc vs_2 3))) fun x14 =>
 zb (ldn 2 (zc vs_2 1)) fun x11 =>
 zb (ldn 2 x14) fun x15 =>
 zb (za (zey false (zjp [.i, .i] x11 x15))) fun x16 =>
 zbv x16 (
 ret (.ret [(zc vs_2 3)])
 ) (
 ret (.nxt [(zc vs_2 0), (zc vs_2 1), (zc vs_2 2), (zc vs_2 3)])
 )
 ) fun o => ret (zb9 1 o)
 ) fun o => nx o zi0
def zef (vs : List V) : M Out :=
 zb (za (bin .lss (zc vs 3) (zc vs 2))) fun x9 =>
 zb (
 zbv x9 (
 ret (.nxt [(zc vs 0), (zc vs 1), (zc vs 2), (zc vs 3)])
 ) (
 ret (.brk 0 [])
 )
 ) fun o => nx o zf3
def zi1 (vs_4 : List V) : M Out :=
 ret (.ret [(Value.int .i64 (-1))])
def zek (x0 x1 : V) : M V :=
 zb (
 zb (zha x1) fun x3 =>
 zb (
 zb (za (zb4 x0)) fun x7 =>
 zb (
 zc7 zem zef [x0, x3, x7, (Value.int .i64 0)]
 ) fun o => ret (zb9 0 o)
 ) fun o => nx o zi1
 ) fun o => zcp o fun vs => ret (zcm [(zc vs 0)])
def zje : Hint := (.seq [] .leaf (.seq [] (.seq [] .leaf (.blk (.loop [0, 3, 7, 8] (.seq [] .leaf (.seq [0, 3, 7, 8] (.cond .leaf .leaf) (.seq [0, 3, 7, 8] (.blk (.seq [] .leaf (.seq [] (.reg [1, 2, 3, 0, 4, 5] []) (.cond (.seq [] .leaf .leaf) .leaf)))) .leaf)))))) (.seq [] .leaf .leaf)))
def zdo (l : List V) : M V := match l with | [x0, x1] => zek x0 x1 | _ => fail
theorem zps (x0 x1 : V) : zde Tryz.prog (ovr [] noC) zfw zje [x0, x1] = zek x0 x1 := by kernel_rfl
theorem zpt : zb3 Tryz.prog zfw (zdo) := zbw (σ := ovr [] noC) (hint := zje) (by kernel_rfl) z8 fun l H r H' h => by
 unfold zdo at h; split at h
 · rw [zps]; exact h
 · exact (zo h).elim
def zd9 (x0 x1 : V) : M V :=
 zb (
 zb (zha x1) fun x3 =>
 zb (ldn 2 x3) fun x6 =>
 zb (zdo [x0, x6]) fun x7 =>
 zb (za (bin .geq x7 (Value.int .i64 0))) fun x8 =>
 ret (.ret [x8])
 ) fun o => zcp o fun vs => ret (zcm [(zc vs 0)])
def zih : Hint := (.seq [] .leaf (.seq [] .leaf .leaf))
def zcf (l : List V) : M V := match l with | [x0, x1] => zd9 x0 x1 | _ => fail
def zii : zbz := ovr [(zfw, zdo)] noC
theorem zn3 (x0 x1 : V) : zde Tryz.prog (zii) zcz zih [x0, x1] = zd9 x0 x1 := by kernel_rfl
theorem zn4 : zb3 Tryz.prog zcz (zcf) := zbw (σ := zii) (hint := zih) (by kernel_rfl) (zn zpt z8) fun l H r H' h => by
 unfold zcf at h; split at h
 · rw [zn3]; exact h
 · exact (zo h).elim
def zfl (x0 x1 x2 x3 : V) : M V :=
 zb (
 zb (zha x0) fun x4 =>
 zb (za (z6 0 x4)) fun x6 =>
 zb (ld1 x6) fun x7 =>
 zb (ld1 x1) fun x8 =>
 zb (za (bin .eql x7 x8)) fun x9 =>
 zb (gd x9 true (za (z6 1 x4))) fun x11 =>
 zb (gd x9 true (ld1 x11)) fun x12 =>
 zb (gd x9 true (ld1 x2)) fun x13 =>
 zb (gd x9 true (za (bin .eql x12 x13))) fun x14 =>
 zb (za (zcd x9 x14 (Value.bool false))) fun x15 =>
 zb (gd x15 true (za (z6 2 x4))) fun x17 =>
 zb (gd x15 true (ld1 x17)) fun x18 =>
 zb (gd x15 true (za (some x18))) fun x19 =>
 zb (gd x19 false (ld1 x3)) fun x20 =>
 zb (gd x19 false (za (un .not x20))) fun x21 =>
 zb (gd x15 true (za (zcd x19 (Value.bool true) x21))) fun x22 =>
 zb (za (zcd x15 x22 (Value.bool false))) fun x23 =>
 ret (.ret [x23])
 ) fun o => zcp o fun vs => ret (zcm [(zc vs 0)])
def zvz : Hint := (.seq [] .leaf (.seq [] .leaf .leaf))
def zf9 (l : List V) : M V := match l with | [x0, x1, x2, x3] => zfl x0 x1 x2 x3 | _ => fail
theorem z5l (x0 x1 x2 x3 : V) : zde Tryz.prog (ovr [] noC) zfe zvz [x0, x1, x2, x3] = zfl x0 x1 x2 x3 := by kernel_rfl
theorem z5m : zb3 Tryz.prog zfe (zf9) := zbw (σ := ovr [] noC) (hint := zvz) (by kernel_rfl) z8 fun l H r H' h => by
 unfold zf9 at h; split at h
 · rw [z5l]; exact h
 · exact (zo h).elim
def zn5 (x0 x1 x2 x3 : V) : M V :=
 zb (
 zb (zha x0) fun x4 =>
 zb (zha x1) fun x5 =>
 zb (zha x2) fun x6 =>
 zb (zha x3) fun x7 =>
 zb (za (z6 1 x5)) fun x9 =>
 zb (ld1 x9) fun x10 =>
 zb (za (some (Value.func (.func zfe) #[] #[x6, x4, x7]))) fun x11 =>
 zb ((zca (ovr [(zfe, zf9)] noC)) [x10, x11]) fun x12 =>
 ret (.ret [x12])
 ) fun o => zcp o fun vs => ret (zcm [(zc vs 0)])
def zy2 : Hint := (.seq [] .leaf (.seq [] .leaf .leaf))
def zi3 (l : List V) : M V := match l with | [x0, x1, x2, x3] => zn5 x0 x1 x2 x3 | _ => fail
def zy3 : zbz := ovr [(zc5, zca (ovr [(zfe, zf9)] noC))] noC
theorem z86 (x0 x1 x2 x3 : V) : zde Tryz.prog (zy3) zhd zy2 [x0, x1, x2, x3] = zn5 x0 x1 x2 x3 := by kernel_rfl
theorem z87 : zb3 Tryz.prog zhd (zi3) := zbw (σ := zy3) (hint := zy2) (by kernel_rfl) (zn (zgm (zn z5m z8)) z8) fun l H r H' h => by
 unfold zi3 at h; split at h
 · rw [z86]; exact h
 · exact (zo h).elim
def zsc (vs_2 : List V) : M Out :=
 zb (za (z6 2 (zc vs_2 2))) fun x27 =>
 zb (ld1 x27) fun x28 =>
 zb (za (zb5 5 x28 (zc vs_2 0))) fun x30 =>
 zb (za (z6 2 x30)) fun x31 =>
 zb (ld1 x31) fun x32 =>
 zb (za (bin .eql x32 (zc vs_2 1))) fun x34 =>
 ret (.ret [x34])
def zsd (vs : List V) : M Out :=
 zb (
 zbv (zc vs 2) (
 zb (za (z6 2 (zc vs 3))) fun x19 =>
 zb (ld1 x19) fun x20 =>
 zb (za (zb5 5 x20 (zc vs 0))) fun x22 =>
 zb (za (z6 1 x22)) fun x23 =>
 zb (ld1 x23) fun x24 =>
 zb (za (bin .eql x24 (zc vs 1))) fun x26 =>
 ret (.ret [x26])
 ) (
 ret (.nxt [(zc vs 0), (zc vs 1), (zc vs 3)])
 )
 ) fun o => nx o zsc
def zpo (x0 x1 x2 x3 : V) : M V :=
 zb (
 zb (zha x1) fun x5 =>
 zb (
 zb (za (bin .lss x0 (Value.int .i64 0))) fun x10 =>
 zb (gd x10 false (za (some x0))) fun x12 =>
 zb (gd x10 false (za (z6 2 x5))) fun x13 =>
 zb (gd x10 false (ld1 x13)) fun x14 =>
 zb (gd x10 false (za (zb4 x14))) fun x15 =>
 zb (gd x10 false (za (bin .geq x12 x15))) fun x16 =>
 zb (za (zcd x10 (Value.bool true) x16)) fun x17 =>
 zbv x17 (
 ret (.ret [(Value.bool false)])
 ) (
 ret (.nxt [x0, x2, x3, x5])
 )
 ) fun o => nx o zsd
 ) fun o => zcp o fun vs => ret (zcm [(zc vs 0)])
def z0t : Hint := (.seq [] .leaf (.seq [0, 2, 3, 5] (.seq [] .leaf (.cond (.seq [] .leaf .leaf) .leaf)) (.seq [0, 2, 5] (.seq [] .leaf (.cond (.seq [] .leaf .leaf) .leaf)) (.seq [] .leaf .leaf))))
def zj2 (l : List V) : M V := match l with | [x0, x1, x2, x3] => zpo x0 x1 x2 x3 | _ => fail
theorem zbar (x0 x1 x2 x3 : V) : zde Tryz.prog (ovr [] noC) zh9 z0t [x0, x1, x2, x3] = zpo x0 x1 x2 x3 := by kernel_rfl
theorem zbas : zb3 Tryz.prog zh9 (zj2) := zbw (σ := ovr [] noC) (hint := z0t) (by kernel_rfl) z8 fun l H r H' h => by
 unfold zj2 at h; split at h
 · rw [zbar]; exact h
 · exact (zo h).elim
def zn6 (x0 x1 x2 x3 : V) : M V :=
 zb (
 zb (zha x0) fun x4 =>
 zb (zha x1) fun x5 =>
 ret (.ret [(Value.bool false)])
 ) fun o => zcp o fun vs => ret (zcm [(zc vs 0)])
def zy4 : Hint := (.seq [] .leaf (.seq [] .leaf .leaf))
def zi4 (l : List V) : M V := match l with | [x0, x1, x2, x3] => zn6 x0 x1 x2 x3 | _ => fail
theorem z88 (x0 x1 x2 x3 : V) : zde Tryz.prog (ovr [] noC) zhf zy4 [x0, x1, x2, x3] = zn6 x0 x1 x2 x3 := by kernel_rfl
theorem z89 : zb3 Tryz.prog zhf (zi4) := zbw (σ := ovr [] noC) (hint := zy4) (by kernel_rfl) z8 fun l H r H' h => by
 unfold zi4 at h; split at h
 · rw [z88]; exact h
 · exact (zo h).elim
noncomputable def z3y (vs_4 : List V) : M Out :=
 zb (za (bin .add (zc vs_4 6) (Value.int .i64 1))) fun x35 =>
 ret (.nxt [(zc vs_4 0), (zc vs_4 1), (zc vs_4 2), (zc vs_4 3), (zc vs_4 4), (zc vs_4 5), x35])
noncomputable def z3z (vs_3 : List V) : M Out :=
 zb (
 zb (
 zb (za (zb5 2 (zc vs_3 4) (zc vs_3 6))) fun x19 =>
 zb (ldn 2 x19) fun x20 =>
 zb (newc [Value.int .i64 0, Value.int .i64 0]) fun x10 =>
 zb (stn 2 x10 x20) fun _ =>
 zr6 fun h0 =>
 zb (ldn 2 x10) fun x21 =>
 zb (ldn 7 (zc vs_3 3)) fun x23 =>
 zgn (zf7 [x21]) fun ha x22 h1 =>
 zgn (invM Tryz.prog (ovr [(zhd, zi3), (zh9, zj2), (zhf, zi4), (zh0, zf7), (zcz, zcf)] noC) x22 "capstan/exec.may" [x23, (zc vs_3 0), (zc vs_3 2)]) fun ha_2 x26 h2 =>
 zb (za (un .not x26)) fun x27 =>
 zb (gd x27 false (za (some (zc vs_3 1)))) fun x29 =>
 zb (gd x27 false (za (some (zc vs_3 6)))) fun x30 =>
 zb (gd x27 false (za (zjw 2 x29 none (some x30)))) fun x31 =>
 zb (gd x27 false (ldn 2 x10)) fun x32 =>
 zgn (gd x27 false (zcf [x31, x32])) fun ha_3 x33 h3 =>
 zb (za (zcd x27 (Value.bool true) x33)) fun x34 =>
 zqr (chk (ldn 7 (zc vs_3 3)) h1 x23) <|
 zbv x34 (
 ret (.ret [(Value.bool false)])
 ) (
 ret (.nxt [(zc vs_3 0), (zc vs_3 1), (zc vs_3 2), (zc vs_3 3), (zc vs_3 4), (zc vs_3 5), (zc vs_3 6)])
 )
 ) fun o => ret (zb9 1 o)
 ) fun o => nx o z3y
noncomputable def zx4 (vs_2 : List V) : M Out :=
 zb (za (bin .lss (zc vs_2 6) (zc vs_2 5))) fun x17 =>
 zb (
 zbv x17 (
 ret (.nxt [(zc vs_2 0), (zc vs_2 1), (zc vs_2 2), (zc vs_2 3), (zc vs_2 4), (zc vs_2 5), (zc vs_2 6)])
 ) (
 ret (.brk 0 [])
 )
 ) fun o => nx o z3z
noncomputable def z30 (vs_5 : List V) : M Out :=
 ret (.ret [(Value.bool true)])
noncomputable def z32 (vs : List V) : M Out :=
 zb (
 zb (za (zb4 (zc vs 1))) fun x15 =>
 zb (
 zc7 zem zx4 [(zc vs 0), (zc vs 1), (zc vs 2), (zc vs 3), (zc vs 1), x15, (Value.int .i64 0)]
 ) fun o => ret (zb9 0 o)
 ) fun o => nx o z30
noncomputable def zum (x0 x1 x2 x3 : V) : M V :=
 zb (
 zb (zha x0) fun x4 =>
 zb (
 zb (za (zb4 x2)) fun x12 =>
 zb (za (bin .gtr x12 (Value.int .i64 32))) fun x13 =>
 zbv x13 (
 ret (.ret [(Value.bool false)])
 ) (
 ret (.nxt [x1, x2, x3, x4])
 )
 ) fun o => nx o z32
 ) fun o => zcp o fun vs => ret (zcm [(zc vs 0)])
def z67 : Hint := (.seq [] .leaf (.seq [1, 2, 3, 4] (.seq [] .leaf (.cond (.seq [] .leaf .leaf) .leaf)) (.seq [] (.seq [] .leaf (.blk (.loop [1, 2, 3, 4, 14, 15, 16] (.seq [] .leaf (.seq [1, 2, 3, 4, 14, 15, 16] (.cond .leaf .leaf) (.seq [1, 2, 3, 4, 14, 15, 16] (.blk (.seq [] .leaf (.seq [] (.reg [3, 4, 0, 2, 1, 5, 6, 7, 8, 9, 10, 11, 12, 13] []) (.cond (.seq [] .leaf .leaf) .leaf)))) .leaf)))))) (.seq [] .leaf .leaf))))
noncomputable def zn7 (l : List V) : M V := match l with | [x0, x1, x2, x3] => zum x0 x1 x2 x3 | _ => fail
noncomputable def z68 : zbz := ovr [(zhd, zi3), (zh9, zj2), (zhf, zi4), (zh0, zf7), (zcz, zcf)] noC
theorem zbga (x0 x1 x2 x3 : V) : zde Tryz.prog (z68) zvi z67 [x0, x1, x2, x3] = zum x0 x1 x2 x3 := by kernel_rfl
theorem zbgb : zb3 Tryz.prog zvi (zn7) := zbw (σ := z68) (hint := z67) (by kernel_rfl) (zn z87 (zn zbas (zn z89 (zn z66 (zn zn4 z8))))) fun l H r H' h => by
 unfold zn7 at h; split at h
 · rw [zbga]; exact h
 · exact (zo h).elim
noncomputable def z33 (vs_7 : List V) : M Out :=
 zb (za (bin .add (zc vs_7 3) (Value.int .i64 1))) fun x89 =>
 ret (.nxt [(zc vs_7 0), (zc vs_7 1), (zc vs_7 2), x89])
noncomputable def z34 (vs_6 : List V) : M Out :=
 zb (
 zb (
 zb (za (zb5 2 (zc vs_6 1) (zc vs_6 3))) fun x73 =>
 zb (ldn 2 x73) fun x74 =>
 zb (newc [Value.slice none 0 0, Value.slice none 0 0]) fun x11 =>
 zb (stn 2 x11 x74) fun _ =>
 zb (ldn 7 (zc vs_6 0)) fun x75 =>
 zb (za (z6 0 x11)) fun x77 =>
 zb (ld1 x77) fun x78 =>
 zb (zn7 [x75, (zc vs_6 3), x78, (Value.bool false)]) fun x79 =>
 zb (za (un .not x79)) fun x80 =>
 zb (gd x80 false (ldn 7 (zc vs_6 0))) fun x82 =>
 zb (gd x80 false (za (some (zc vs_6 3)))) fun x83 =>
 zb (gd x80 false (za (z6 1 x11))) fun x84 =>
 zb (gd x80 false (ld1 x84)) fun x85 =>
 zb (gd x80 false (zn7 [x82, x83, x85, (Value.bool true)])) fun x86 =>
 zb (gd x80 false (za (un .not x86))) fun x87 =>
 zb (za (zcd x80 (Value.bool true) x87)) fun x88 =>
 zbv x88 (
 ret (.ret [(Value.int .i64 270)])
 ) (
 ret (.nxt [(zc vs_6 0), (zc vs_6 1), (zc vs_6 2), (zc vs_6 3)])
 )
 ) fun o => ret (zb9 1 o)
 ) fun o => nx o z33
noncomputable def zx5 (vs_5 : List V) : M Out :=
 zb (za (bin .lss (zc vs_5 3) (zc vs_5 2))) fun x71 =>
 zb (
 zbv x71 (
 ret (.nxt [(zc vs_5 0), (zc vs_5 1), (zc vs_5 2), (zc vs_5 3)])
 ) (
 ret (.brk 0 [])
 )
 ) fun o => nx o z34
noncomputable def z35 (vs_8 : List V) : M Out :=
 ret (.ret [(Value.int .i64 0)])
noncomputable def zsr (vs_4 : List V) : M Out :=
 zb (
 zb (za (z6 5 (zc vs_4 0))) fun x67 =>
 zb (ld1 x67) fun x68 =>
 zb (za (zb4 x68)) fun x69 =>
 zb (
 zc7 zem zx5 [(zc vs_4 0), x68, x69, (Value.int .i64 0)]
 ) fun o => ret (zb9 0 o)
 ) fun o => nx o z35
noncomputable def z36 (vs_3 : List V) : M Out :=
 zb (za (z6 5 (zc vs_3 0))) fun x44 =>
 zb (ld1 x44) fun x45 =>
 zb (za (zb4 x45)) fun x46 =>
 zb (newc [Value.int .i64 0]) fun x9 =>
 zb (st1 x9 x46) fun _ =>
 zb (
 zb (za (z6 6 (zc vs_3 0))) fun x47 =>
 zb (ld1 x47) fun x48 =>
 zb (za (bin .lss x48 (Value.int .i64 1))) fun x49 =>
 zb (gd x49 false (za (z6 6 (zc vs_3 0)))) fun x51 =>
 zb (gd x49 false (ld1 x51)) fun x52 =>
 zb (gd x49 false (za (bin .gtr x52 (Value.int .i64 10000)))) fun x53 =>
 zb (za (zcd x49 (Value.bool true) x53)) fun x54 =>
 zb (gd x54 false (za (z6 1 (zc vs_3 0)))) fun x56 =>
 zb (gd x54 false (ld1 x56)) fun x57 =>
 zb (gd x54 false (za (some (Value.func (.func zeu) #[] #[x9])))) fun x58 =>
 zb (gd x54 false ((zca (ovr [(zeu, zf1), (zev, zf2)] noC)) [x57, x58])) fun x59 =>
 zb (za (zcd x54 (Value.bool true) x59)) fun x60 =>
 zb (gd x60 false (za (z6 2 (zc vs_3 0)))) fun x62 =>
 zb (gd x60 false (ld1 x62)) fun x63 =>
 zb (gd x60 false (za (some (Value.func (.func zev) #[] #[x9])))) fun x64 =>
 zb (gd x60 false ((zcn (ovr [(zeu, zf1), (zev, zf2)] noC)) [x63, x64])) fun x65 =>
 zb (za (zcd x60 (Value.bool true) x65)) fun x66 =>
 zbv x66 (
 ret (.ret [(Value.int .i64 270)])
 ) (
 ret (.nxt [(zc vs_3 0)])
 )
 ) fun o => nx o zsr
noncomputable def z38 (vs_2 : List V) : M Out :=
 zb (
 zb (za (z6 3 (zc vs_2 0))) fun x33 =>
 zb (ldn 2 x33) fun x34 =>
 zb (za (z6 5 (zc vs_2 0))) fun x35 =>
 zb (ld1 x35) fun x36 =>
 zb (za (zb4 x36)) fun x37 =>
 zb (zrm [x34, x37]) fun x38 =>
 zb (za (ext 0 x38)) fun x39 =>
 zb (za (ext 1 x38)) fun x40 =>
 zb (za (bin .neq x40 (Value.int .i64 0))) fun x42 =>
 zbv x42 (
 ret (.ret [x40])
 ) (
 ret (.nxt [(zc vs_2 0)])
 )
 ) fun o => nx o z36
noncomputable def z39 (vs : List V) : M Out :=
 zb (
 zb (za (z6 2 (zc vs 0))) fun x24 =>
 zb (ld1 x24) fun x25 =>
 zb (zkg [x25]) fun x26 =>
 zb (za (ext 0 x26)) fun x27 =>
 zb (za (ext 1 x26)) fun x28 =>
 zb (za (bin .neq x28 (Value.int .i64 0))) fun x30 =>
 zbv x30 (
 ret (.ret [x28])
 ) (
 ret (.nxt [(zc vs 0)])
 )
 ) fun o => nx o z38
noncomputable def zun (x0 : V) : M V :=
 zb (
 zb (zha x0) fun x1 =>
 zb (
 zb (za (z6 0 x1)) fun x13 =>
 zb (ld1 x13) fun x14 =>
 zb (za (z6 1 x1)) fun x15 =>
 zb (ld1 x15) fun x16 =>
 zb (zjd [x14, x16]) fun x17 =>
 zb (za (ext 0 x17)) fun x18 =>
 zb (za (ext 1 x17)) fun x19 =>
 zb (za (bin .neq x19 (Value.int .i64 0))) fun x21 =>
 zbv x21 (
 ret (.ret [x19])
 ) (
 ret (.nxt [x1])
 )
 ) fun o => nx o z39
 ) fun o => zcp o fun vs => ret (zcm [(zc vs 0)])
def z69 : Hint := (.seq [] .leaf (.seq [1] (.seq [] .leaf (.seq [] .leaf (.cond (.seq [] .leaf .leaf) .leaf))) (.seq [1] (.seq [] .leaf (.seq [] .leaf (.cond (.seq [] .leaf .leaf) .leaf))) (.seq [1] (.seq [] .leaf (.seq [] .leaf (.cond (.seq [] .leaf .leaf) .leaf))) (.seq [] .leaf (.seq [1] (.seq [] .leaf (.cond (.seq [] .leaf .leaf) .leaf)) (.seq [] (.seq [] .leaf (.blk (.loop [1, 68, 69, 70] (.seq [] .leaf (.seq [1, 68, 69, 70] (.cond .leaf .leaf) (.seq [1, 68, 69, 70] (.blk (.seq [] .leaf (.seq [] .leaf (.cond (.seq [] .leaf .leaf) .leaf)))) .leaf)))))) (.seq [] .leaf .leaf))))))))
noncomputable def zro (l : List V) : M V := match l with | [x0] => zun x0 | _ => fail
noncomputable def z7a : zbz := ovr [(znu, zjd), (zpl, zkg), (zvh, zrm), (zc5, zca (ovr [(zeu, zf1), (zev, zf2)] noC)), (zeg, zcn (ovr [(zeu, zf1), (zev, zf2)] noC)), (zvi, zn7)] noC
theorem zbgc (x0 : V) : zde Tryz.prog (z7a) zvf z69 [x0] = zun x0 := by kernel_rfl
theorem zbgd : zb3 Tryz.prog zvf (zro) := zbw (σ := z7a) (hint := z69) (by kernel_rfl) (zn z1s (zn z3p (zn zbf8 (zn (zgm (zn z11 (zn z13 z8))) (zn (zlw (zn z11 (zn z13 z8))) (zn zbgb z8)))))) fun l H r H' h => by
 unfold zro at h; split at h
 · rw [zbgc]; exact h
 · exact (zo h).elim
def zmo (vs : List V) : M Out :=
 zb (zjx 3 0 (rep 0 [Value.int .i64 0, Value.int .i64 0, Value.int .i64 0]) []) fun x5 =>
 zb (zj3 3 24 x5 (zc vs 0)) fun x7 =>
 ret (.ret [x7])
def zh4 (x0 : V) : M V :=
 zb (
 zb (
 zb (za (zey false (zgb .s x0))) fun x4 =>
 zbv x4 (
 ret (.ret [(Value.slice none 0 0)])
 ) (
 ret (.nxt [x0])
 )
 ) fun o => nx o zmo
 ) fun o => zcp o fun vs => ret (zcm [(zc vs 0)])
def zh5 : Hint := (.seq [] .leaf (.seq [0] (.seq [] .leaf (.cond (.seq [] .leaf .leaf) .leaf)) (.seq [] .leaf .leaf)))
def zd5 (l : List V) : M V := match l with | [x0] => zh4 x0 | _ => fail
theorem znj (x0 : V) : zde Tryz.prog (ovr [] noC) ze3 zh5 [x0] = zh4 x0 := by kernel_rfl
theorem znk : zb3 Tryz.prog ze3 (zd5) := zbw (σ := ovr [] noC) (hint := zh5) (by kernel_rfl) z8 fun l H r H' h => by
 unfold zd5 at h; split at h
 · rw [znj]; exact h
 · exact (zo h).elim
def zij (vs : List V) : M Out :=
 zb (zjx 2 0 (rep 0 [Value.int .i64 0, Value.bool false]) []) fun x5 =>
 zb (zj3 2 16 x5 (zc vs 0)) fun x7 =>
 ret (.ret [x7])
def zda (x0 : V) : M V :=
 zb (
 zb (
 zb (za (zey false (zgb .s x0))) fun x4 =>
 zbv x4 (
 ret (.ret [(Value.slice none 0 0)])
 ) (
 ret (.nxt [x0])
 )
 ) fun o => nx o zij
 ) fun o => zcp o fun vs => ret (zcm [(zc vs 0)])
def ziu : Hint := (.seq [] .leaf (.seq [0] (.seq [] .leaf (.cond (.seq [] .leaf .leaf) .leaf)) (.seq [] .leaf .leaf)))
def zdb (l : List V) : M V := match l with | [x0] => zda x0 | _ => fail
theorem zoq (x0 : V) : zde Tryz.prog (ovr [] noC) zfd ziu [x0] = zda x0 := by kernel_rfl
theorem zor : zb3 Tryz.prog zfd (zdb) := zbw (σ := ovr [] noC) (hint := ziu) (by kernel_rfl) z8 fun l H r H' h => by
 unfold zdb at h; split at h
 · rw [zoq]; exact h
 · exact (zo h).elim
def zx6 (vs_4 : List V) : M Out :=
 zb (za (bin .add (zc vs_4 3) (Value.int .i64 1))) fun x57 =>
 ret (.nxt [(zc vs_4 0), (zc vs_4 1), (zc vs_4 2), x57])
def zx7 (vs_3 : List V) : M Out :=
 zb (
 zb (
 zb (za (zb5 3 (zc vs_3 1) (zc vs_3 3))) fun x35 =>
 zb (ldn 3 x35) fun x36 =>
 zb (newc [Value.int .i64 0, Value.int .i64 0, Value.bool false]) fun x10 =>
 zb (stn 3 x10 x36) fun _ =>
 zb (za (z6 0 x10)) fun x37 =>
 zb (ld1 x37) fun x38 =>
 zb (za (z6 1 x10)) fun x39 =>
 zb (ld1 x39) fun x40 =>
 zb (za (build [Value.int .i64 0, Value.int .i64 0] [(0, 1, x38), (1, 1, x40)])) fun x41 =>
 zb (newc [Value.int .i64 0, Value.int .i64 0]) fun x11 =>
 zb (stn 2 x11 x41) fun _ =>
 zb (za (zez (zc vs_3 0))) fun x43 =>
 zb (za (z6 1 x43)) fun x44 =>
 zb (za (zez (zc vs_3 0))) fun x48 =>
 zb (za (z6 1 x48)) fun x49 =>
 zb (ld1 x44) fun x45 =>
 zb (ldn 2 x11) fun x46 =>
 zb (ld1 x49) fun x50 =>
 zb (ldn 2 x11) fun x51 =>
 zb (lookup (.agg [.i, .i]) (Value.bool false) false x50 x51) fun x52 =>
 zb (gd x52 false (za (z6 2 x10))) fun x54 =>
 zb (gd x52 false (ld1 x54)) fun x55 =>
 zb (za (zcd x52 (Value.bool true) x55)) fun x56 =>
 zb (zin (.agg [.i, .i]) x45 x46 x56) fun _ =>
 ret (.nxt [(zc vs_3 0), (zc vs_3 1), (zc vs_3 2), (zc vs_3 3)])
 ) fun o => ret (zb9 1 o)
 ) fun o => nx o zx6
def zo8 (vs_2 : List V) : M Out :=
 zb (za (bin .lss (zc vs_2 3) (zc vs_2 2))) fun x34 =>
 zb (
 zbv x34 (
 ret (.nxt [(zc vs_2 0), (zc vs_2 1), (zc vs_2 2), (zc vs_2 3)])
 ) (
 ret (.brk 0 [(zc vs_2 0)])
 )
 ) fun o => nx o zx7
def z4a (vs_5 : List V) : M Out :=
 ret (.ret [(zc vs_5 0), (Value.int .i64 0)])
def z4b (vs : List V) : M Out :=
 z1b 4 fun base h0 =>
 zb (za (zb4 (zc vs 0))) fun x25 =>
 zgn (zdb [(zc vs 0)]) fun ha x22 h1 =>
 zqr (zku ha [base + 0, base + 1, base + 2, base + 3] && zku h1 [base + 0, base + 1, base + 2, base + 3]) <|
 zb (flt (base + 0) (zu4)) fun x23 =>
 zb (flt (base + 1) (z0i 1 8 [Value.int .i64 0] x25 x25)) fun x26 =>
 zb (flt (base + 2) (zu4)) fun x27 =>
 zb (flt (base + 3) (zu4)) fun x28 =>
 zb (za (build [Value.slice none 0 0, Value.map none, Value.slice none 0 0, Value.map none, Value.map none] [(0, 1, x22), (1, 1, x23), (2, 1, x26), (3, 1, x27), (4, 1, x28)])) fun x29 =>
 zgn (zha x29) fun ha_2 x30 h2 =>
 zb (
 zb (za (zb4 (zc vs 1))) fun x32 =>
 zb (
 zc7 zem zo8 [x30, (zc vs 1), x32, (Value.int .i64 0)]
 ) fun o => ret (zb9 0 o)
 ) fun o => nx o z4a
def zuo (x0 x1 : V) : M V :=
 zb (
 zb (
 zb (zjd [x0, x1]) fun x15 =>
 zb (za (ext 0 x15)) fun x16 =>
 zb (za (ext 1 x15)) fun x17 =>
 zb (za (bin .neq x17 (Value.int .i64 0))) fun x19 =>
 zbv x19 (
 ret (.ret [(Value.pointer none), x17])
 ) (
 ret (.nxt [x0, x1])
 )
 ) fun o => nx o z4b
 ) fun o => zcp o fun vs => ret (zcm [(zc vs 0), (zc vs 1)])
def z7b : Hint := (.seq [] .leaf (.seq [0, 1] (.seq [] .leaf (.seq [] .leaf (.cond (.seq [] .leaf .leaf) .leaf))) (.seq [] (.reg [0, 3, 4, 1, 2, 5, 6, 7, 8, 9, 10] [2, 5, 6, 7]) (.seq [8] (.seq [] .leaf (.blk (.loop [8, 31, 32, 33] (.seq [] .leaf (.seq [8, 31, 32, 33] (.cond .leaf .leaf) (.seq [8, 31, 32, 33] (.blk (.seq [] .leaf (.seq [] .leaf (.reg [0, 1, 2, 5, 6, 7, 3, 4, 8, 9, 10, 11, 12, 13, 14, 15] [])))) .leaf)))))) (.seq [] .leaf .leaf)))))
def zrp (l : List V) : M V := match l with | [x0, x1] => zuo x0 x1 | _ => fail
def z7c : zbz := ovr [(znu, zjd), (zfd, zdb)] noC
theorem zbge (x0 x1 : V) : zde Tryz.prog (z7c) zvg z7b [x0, x1] = zuo x0 x1 := by kernel_rfl
theorem zbgf : zb3 Tryz.prog zvg (zrp) := zbw (σ := z7c) (hint := z7b) (by kernel_rfl) (zn z1s (zn zor z8)) fun l H r H' h => by
 unfold zrp at h; split at h
 · rw [zbge]; exact h
 · exact (zo h).elim
def zo9 (vs : List V) : M Out :=
 zb (zjx 5 0 (rep 0 [Value.int .i64 0, Value.int .i64 0, Value.int .i64 0, Value.int .i64 0, Value.int .i64 0]) []) fun x5 =>
 zb (zj3 5 40 x5 (zc vs 0)) fun x7 =>
 ret (.ret [x7])
def zjf (x0 : V) : M V :=
 zb (
 zb (
 zb (za (zey false (zgb .s x0))) fun x4 =>
 zbv x4 (
 ret (.ret [(Value.slice none 0 0)])
 ) (
 ret (.nxt [x0])
 )
 ) fun o => nx o zo9
 ) fun o => zcp o fun vs => ret (zcm [(zc vs 0)])
def zjg : Hint := (.seq [] .leaf (.seq [0] (.seq [] .leaf (.cond (.seq [] .leaf .leaf) .leaf)) (.seq [] .leaf .leaf)))
def zel (l : List V) : M V := match l with | [x0] => zjf x0 | _ => fail
theorem zpu (x0 : V) : zde Tryz.prog (ovr [] noC) zfv zjg [x0] = zjf x0 := by kernel_rfl
theorem zpv : zb3 Tryz.prog zfv (zel) := zbw (σ := ovr [] noC) (hint := zjg) (by kernel_rfl) z8 fun l H r H' h => by
 unfold zel at h; split at h
 · rw [zpu]; exact h
 · exact (zo h).elim
def z7d (vs : List V) : M Out :=
 z1b 1 fun base h0 =>
 zb (za (zb4 (zc vs 0))) fun x17 =>
 zgn (zel [(zc vs 0)]) fun ha x15 h1 =>
 zqr (zku ha [base + 0] && zku h1 [base + 0]) <|
 zb (flt (base + 0) (z0i 4 64 [Value.slice none 0 0, Value.slice none 0 0, Value.int .i64 0, Value.int .i64 0] x17 x17)) fun x18 =>
 zb (za (build [Value.slice none 0 0, Value.slice none 0 0] [(0, 1, x15), (1, 1, x18)])) fun x19 =>
 zgn (zha x19) fun ha_2 x20 h2 =>
 ret (.ret [x20, (Value.int .i64 0)])
def zw8 (x0 : V) : M V :=
 zb (
 zb (
 zb (zkg [x0]) fun x8 =>
 zb (za (ext 0 x8)) fun x9 =>
 zb (za (ext 1 x8)) fun x10 =>
 zb (za (bin .neq x10 (Value.int .i64 0))) fun x12 =>
 zbv x12 (
 ret (.ret [(Value.pointer none), x10])
 ) (
 ret (.nxt [x0])
 )
 ) fun o => nx o z7d
 ) fun o => zcp o fun vs => ret (zcm [(zc vs 0), (zc vs 1)])
def z92 : Hint := (.seq [] .leaf (.seq [0] (.seq [] .leaf (.seq [] .leaf (.cond (.seq [] .leaf .leaf) .leaf))) (.seq [] (.reg [0, 2, 3, 1, 4, 5, 6, 7, 8] [4]) .leaf)))
def zs4 (l : List V) : M V := match l with | [x0] => zw8 x0 | _ => fail
def z93 : zbz := ovr [(zpl, zkg), (zfv, zel)] noC
theorem zbiw (x0 : V) : zde Tryz.prog (z93) zxr z92 [x0] = zw8 x0 := by kernel_rfl
theorem zbix : zb3 Tryz.prog zxr (zs4) := zbw (σ := z93) (hint := z92) (by kernel_rfl) (zn z3p (zn zpv z8)) fun l H r H' h => by
 unfold zs4 at h; split at h
 · rw [zbiw]; exact h
 · exact (zo h).elim
def zmd (x0 x1 : V) : M V :=
 zb (
 zb (zha x1) fun x3 =>
 zb (za (z6 0 x3)) fun x5 =>
 zb (ld1 x5) fun x6 =>
 zb (za (zb5 2 x6 x0)) fun x8 =>
 zb (za (z6 0 x8)) fun x9 =>
 zb (ld1 x9) fun x10 =>
 ret (.ret [x10])
 ) fun o => zcp o fun vs => ret (zcm [(zc vs 0)])
def zw9 : Hint := (.seq [] .leaf (.seq [] .leaf .leaf))
def zj7 (l : List V) : M V := match l with | [x0, x1] => zmd x0 x1 | _ => fail
theorem z7e (x0 x1 : V) : zde Tryz.prog (ovr [] noC) zgr zw9 [x0, x1] = zmd x0 x1 := by kernel_rfl
theorem z7f : zb3 Tryz.prog zgr (zj7) := zbw (σ := ovr [] noC) (hint := zw9) (by kernel_rfl) z8 fun l H r H' h => by
 unfold zj7 at h; split at h
 · rw [z7e]; exact h
 · exact (zo h).elim
def zn8 (x0 x1 : V) : M V :=
 zb (
 zb (zha x1) fun x3 =>
 zb (za (z6 2 x3)) fun x5 =>
 zb (ld1 x5) fun x6 =>
 zb (za (zb5 5 x6 x0)) fun x8 =>
 zb (za (z6 3 x8)) fun x9 =>
 zb (ld1 x9) fun x10 =>
 ret (.ret [x10])
 ) fun o => zcp o fun vs => ret (zcm [(zc vs 0)])
def zy5 : Hint := (.seq [] .leaf (.seq [] .leaf .leaf))
def zk3 (l : List V) : M V := match l with | [x0, x1] => zn8 x0 x1 | _ => fail
theorem z9a (x0 x1 : V) : zde Tryz.prog (ovr [] noC) zhe zy5 [x0, x1] = zn8 x0 x1 := by kernel_rfl
theorem z9b : zb3 Tryz.prog zhe (zk3) := zbw (σ := ovr [] noC) (hint := zy5) (by kernel_rfl) z8 fun l H r H' h => by
 unfold zk3 at h; split at h
 · rw [z9a]; exact h
 · exact (zo h).elim
def zxa (x0 x1 : V) : M V :=
 zb (
 zb (zha x0) fun x2 =>
 zb (zha x1) fun x3 =>
 ret (.ret [(Value.int .i64 0)])
 ) fun o => zcp o fun vs => ret (zcm [(zc vs 0)])
def zxb : Hint := (.seq [] .leaf (.seq [] .leaf .leaf))
def zj8 (l : List V) : M V := match l with | [x0, x1] => zxa x0 x1 | _ => fail
theorem z7g (x0 x1 : V) : zde Tryz.prog (ovr [] noC) zir zxb [x0, x1] = zxa x0 x1 := by kernel_rfl
theorem z7h : zb3 Tryz.prog zir (zj8) := zbw (σ := ovr [] noC) (hint := zxb) (by kernel_rfl) z8 fun l H r H' h => by
 unfold zj8 at h; split at h
 · rw [z7g]; exact h
 · exact (zo h).elim
noncomputable def z7i (vs_3 : List V) : M Out :=
 zb (za (bin .add (zc vs_3 5) (Value.int .i64 1))) fun x26 =>
 ret (.nxt [(zc vs_3 0), (zc vs_3 1), (zc vs_3 2), (zc vs_3 3), (zc vs_3 4), x26])
noncomputable def z7j (vs_2 : List V) : M Out :=
 zb (
 zb (
 zb (za (zb5 2 (zc vs_2 3) (zc vs_2 5))) fun x12 =>
 zb (ldn 2 x12) fun x13 =>
 zb (newc [Value.int .i64 0, Value.int .i64 0]) fun x7 =>
 zb (stn 2 x7 x13) fun _ =>
 zb (ldn 2 x7) fun x15 =>
 zb (zf7 [x15]) fun x16 =>
 zb (zjx 1 1 (rep 1 [Value.nilIface]) [(0, 1, x16)]) fun x17 =>
 zb (zj3 1 16 (zc vs_2 1) x17) fun x18 =>
 zr6 fun h0 =>
 zb (ldn 2 x7) fun x20 =>
 zb (ldn 7 (zc vs_2 0)) fun x22 =>
 zgn (zf7 [x20]) fun ha x21 h1 =>
 zgn (invM Tryz.prog (ovr [(zgr, zj7), (zhe, zk3), (zir, zj8), (zh0, zf7)] noC) x21 "capstan/exec.kind" [x22]) fun ha_2 x23 h2 =>
 zgn (zjx 1 1 (rep 1 [Value.int .i64 0]) [(0, 1, x23)]) fun ha_3 x24 h3 =>
 zgn (zj3 1 8 (zc vs_2 2) x24) fun ha_4 x25 h4 =>
 zqr (chk (ldn 7 (zc vs_2 0)) h1 x22) <|
 ret (.nxt [(zc vs_2 0), x18, x25, (zc vs_2 3), (zc vs_2 4), (zc vs_2 5)])
 ) fun o => ret (zb9 1 o)
 ) fun o => nx o z7i
noncomputable def zz4 (vs : List V) : M Out :=
 zb (za (bin .lss (zc vs 5) (zc vs 4))) fun x11 =>
 zb (
 zbv x11 (
 ret (.nxt [(zc vs 0), (zc vs 1), (zc vs 2), (zc vs 3), (zc vs 4), (zc vs 5)])
 ) (
 ret (.brk 0 [(zc vs 1), (zc vs 2)])
 )
 ) fun o => nx o z7j
noncomputable def z7k (vs_4 : List V) : M Out :=
 ret (.ret [(zc vs_4 0), (zc vs_4 1)])
noncomputable def zxc (x0 x1 : V) : M V :=
 zb (
 zb (zha x0) fun x2 =>
 zb (
 zb (za (zb4 x1)) fun x9 =>
 zb (
 zc7 zem zz4 [x2, (Value.slice none 0 0), (Value.slice none 0 0), x1, x9, (Value.int .i64 0)]
 ) fun o => ret (zb9 0 o)
 ) fun o => nx o z7k
 ) fun o => zcp o fun vs => ret (zcm [(zc vs 0), (zc vs 1)])
def z94 : Hint := (.seq [] .leaf (.seq [4, 5] (.seq [] .leaf (.blk (.loop [2, 4, 5, 8, 9, 10] (.seq [] .leaf (.seq [2, 4, 5, 8, 9, 10] (.cond .leaf .leaf) (.seq [2, 4, 5, 8, 9, 10] (.blk (.seq [] .leaf (.seq [] .leaf (.reg [0, 1, 3, 2, 4, 5, 6, 7] [])))) .leaf)))))) (.seq [] .leaf .leaf)))
noncomputable def zqk (l : List V) : M V := match l with | [x0, x1] => zxc x0 x1 | _ => fail
noncomputable def z95 : zbz := ovr [(zgr, zj7), (zhe, zk3), (zir, zj8), (zh0, zf7)] noC
theorem zbiy (x0 x1 : V) : zde Tryz.prog (z95) zxs z94 [x0, x1] = zxc x0 x1 := by kernel_rfl
theorem zbiz : zb3 Tryz.prog zxs (zqk) := zbw (σ := z95) (hint := z94) (by kernel_rfl) (zn z7f (zn z9b (zn z7h (zn z66 z8)))) fun l H r H' h => by
 unfold zqk at h; split at h
 · rw [zbiy]; exact h
 · exact (zo h).elim
def zx8 (vs_2 : List V) : M Out :=
 ret (.ret [(zc vs_2 0)])
def zx9 (vs : List V) : M Out :=
 zb (
 zb (za (capV (zc vs 0))) fun x10 =>
 zb (za (zb4 (zc vs 0))) fun x12 =>
 zb (za (bin .sub x10 x12)) fun x13 =>
 zb (za (bin .sub (zc vs 1) x13)) fun x14 =>
 zb (za (bin .gtr x14 (Value.int .i64 0))) fun x16 =>
 zbv x16 (
 zb (za (capV (zc vs 0))) fun x19 =>
 zb (za (zjw 1 (zc vs 0) none (some x19))) fun x20 =>
 zb (appZ 1 8 [Value.int .i64 0] x20 x14) fun x22 =>
 zb (za (zb4 (zc vs 0))) fun x24 =>
 zb (za (zjw 1 x22 none (some x24))) fun x25 =>
 ret (.nxt [x25])
 ) (
 ret (.nxt [(zc vs 0)])
 )
 ) fun o => nx o zx8
def zql (x0 x1 : V) : M V :=
 zb (
 zb (
 zb (za (bin .lss x1 (Value.int .i64 0))) fun x6 =>
 zbv x6 (
 zb (za (some (Value.iface zms (Value.string ⟨#[99, 97, 110, 110, 111, 116, 32, 98, 101, 32, 110, 101, 103, 97, 116, 105, 118, 101]⟩)))) fun x7 =>
 zb (za ((none : Option V))) fun _ =>
 ret (.nxt [x0, x1])
 ) (
 ret (.nxt [x0, x1])
 )
 ) fun o => nx o zx9
 ) fun o => zcp o fun vs => ret (zcm [(zc vs 0)])
def zqm : Hint := (.seq [] .leaf (.seq [0, 1] (.seq [] .leaf (.cond .leaf .leaf)) (.seq [0] (.seq [] .leaf (.seq [] .leaf (.cond .leaf .leaf))) (.seq [] .leaf .leaf))))
def zik (l : List V) : M V := match l with | [x0, x1] => zql x0 x1 | _ => fail
theorem zy6 (x0 x1 : V) : zde Tryz.prog (ovr [] noC) zjy zqm [x0, x1] = zql x0 x1 := by kernel_rfl
theorem zy7 : zb3 Tryz.prog zjy (zik) := zbw (σ := ovr [] noC) (hint := zqm) (by kernel_rfl) z8 fun l H r H' h => by
 unfold zik at h; split at h
 · rw [zy6]; exact h
 · exact (zo h).elim
def zv0 (vs_3 : List V) : M Out :=
 zb (za (bin .add (zc vs_3 4) (Value.int .i64 1))) fun x22 =>
 ret (.nxt [(zc vs_3 0), (zc vs_3 1), (zc vs_3 2), (zc vs_3 3), x22])
def zv1 (vs_2 : List V) : M Out :=
 zb (
 zb (
 zb (za (zb5 1 (zc vs_2 2) (zc vs_2 4))) fun x13 =>
 zb (ld1 x13) fun x14 =>
 zb (za (zb4 x14)) fun x17 =>
 zb (za (bin .add (zc vs_2 1) x17)) fun x18 =>
 zb (za (bin .lss x18 (Value.int .i64 0))) fun x20 =>
 zbv x20 (
 zb (za (some (Value.iface zms (Value.string ⟨#[108, 101, 110, 32, 111, 117, 116, 32, 111, 102, 32, 114, 97, 110, 103, 101]⟩)))) fun x21 =>
 zb (za ((none : Option V))) fun _ =>
 ret (.nxt [(zc vs_2 0), x18, (zc vs_2 2), (zc vs_2 3), (zc vs_2 4)])
 ) (
 ret (.nxt [(zc vs_2 0), x18, (zc vs_2 2), (zc vs_2 3), (zc vs_2 4)])
 )
 ) fun o => ret (zb9 1 o)
 ) fun o => nx o zv0
def zv2 (vs : List V) : M Out :=
 zb (za (bin .lss (zc vs 4) (zc vs 3))) fun x12 =>
 zb (
 zbv x12 (
 ret (.nxt [(zc vs 0), (zc vs 1), (zc vs 2), (zc vs 3), (zc vs 4)])
 ) (
 ret (.brk 0 [(zc vs 0), (zc vs 1)])
 )
 ) fun o => nx o zv1
def zv3 (vs_7 : List V) : M Out :=
 zb (za (bin .add (zc vs_7 3) (Value.int .i64 1))) fun x34 =>
 ret (.nxt [(zc vs_7 0), (zc vs_7 1), (zc vs_7 2), x34])
def zv4 (vs_6 : List V) : M Out :=
 zb (
 zb (
 zb (za (zb5 1 (zc vs_6 1) (zc vs_6 3))) fun x29 =>
 zb (ld1 x29) fun x30 =>
 zb (zj3 1 8 (zc vs_6 0) x30) fun x33 =>
 ret (.nxt [x33, (zc vs_6 1), (zc vs_6 2), (zc vs_6 3)])
 ) fun o => ret (zb9 3 o)
 ) fun o => nx o zv3
def zv5 (vs_5 : List V) : M Out :=
 zb (za (bin .lss (zc vs_5 3) (zc vs_5 2))) fun x28 =>
 zb (
 zbv x28 (
 ret (.nxt [(zc vs_5 0), (zc vs_5 1), (zc vs_5 2), (zc vs_5 3)])
 ) (
 ret (.brk 2 [(zc vs_5 0)])
 )
 ) fun o => nx o zv4
def zv6 (vs_8 : List V) : M Out :=
 ret (.ret [(zc vs_8 0)])
def zv7 (vs_4 : List V) : M Out :=
 zb (zik [(Value.slice none 0 0), (zc vs_4 1)]) fun x24 =>
 zb (
 zb (za (zb4 (zc vs_4 0))) fun x26 =>
 zb (
 zc7 zem zv5 [x24, (zc vs_4 0), x26, (Value.int .i64 0)]
 ) fun o => ret (zb9 2 o)
 ) fun o => nx o zv6
def zoi (x0 : V) : M V :=
 zb (
 zb (
 zb (za (zb4 x0)) fun x10 =>
 zb (
 zc7 zem zv2 [x0, (Value.int .i64 0), x0, x10, (Value.int .i64 0)]
 ) fun o => ret (zb9 0 o)
 ) fun o => nx o zv7
 ) fun o => zcp o fun vs => ret (zcm [(zc vs 0)])
def zoj : Hint := (.seq [] .leaf (.seq [] .leaf (.seq [0, 3] (.seq [] .leaf (.blk (.loop [0, 3, 9, 10, 11] (.seq [] .leaf (.seq [0, 3, 9, 10, 11] (.cond .leaf .leaf) (.seq [0, 3, 9, 10, 11] (.blk (.seq [] .leaf (.seq [] .leaf (.seq [] .leaf (.cond .leaf .leaf))))) .leaf)))))) (.seq [] .leaf (.seq [6] (.seq [] .leaf (.blk (.loop [6, 25, 26, 27] (.seq [] .leaf (.seq [6, 25, 26, 27] (.cond .leaf .leaf) (.seq [6, 25, 26, 27] (.blk (.seq [] .leaf .leaf)) .leaf)))))) (.seq [] .leaf .leaf))))))
def zfu (l : List V) : M V := match l with | [x0] => zoi x0 | _ => fail
def zok : zbz := ovr [(zjy, zik)] noC
theorem zwr (x0 : V) : zde Tryz.prog (zok) zix zoj [x0] = zoi x0 := by kernel_rfl
theorem zws : zb3 Tryz.prog zix (zfu) := zbw (σ := zok) (hint := zoj) (by kernel_rfl) (zn zy7 z8) fun l H r H' h => by
 unfold zfu at h; split at h
 · rw [zwr]; exact h
 · exact (zo h).elim
def zlf (S : zbz) (vs_3 : List V) : M Out :=
 zb (za (bin .add (zc vs_3 3) (Value.int .i64 1))) fun x18 =>
 ret (.nxt [(zc vs_3 0), (zc vs_3 1), (zc vs_3 2), x18])
def zlg (S : zbz) (vs_2 : List V) : M Out :=
 zb (
 zb (
 zb (za (zb5 1 (zc vs_2 0) (zc vs_2 3))) fun x14 =>
 zb (ld1 x14) fun x15 =>
 zb (zod (ovr [] S) (zc vs_2 1) [x15]) fun x16 =>
 zbv x16 (
 ret (.ret [(zc vs_2 3)])
 ) (
 ret (.nxt [(zc vs_2 0), (zc vs_2 1), (zc vs_2 2), (zc vs_2 3)])
 )
 ) fun o => ret (zb9 1 o)
 ) fun o => nx o (zlf S)
def zh6 (S : zbz) (vs : List V) : M Out :=
 zb (za (bin .lss (zc vs 3) (zc vs 2))) fun x9 =>
 zb (
 zbv x9 (
 ret (.nxt [(zc vs 0), (zc vs 1), (zc vs 2), (zc vs 3)])
 ) (
 ret (.brk 0 [])
 )
 ) fun o => nx o (zlg S)
def zlh (S : zbz) (vs_4 : List V) : M Out :=
 ret (.ret [(Value.int .i64 (-1))])
def zf8 (S : zbz) (x0 x1 : V) : M V :=
 zb (
 zb (
 zb (za (zb4 x0)) fun x7 =>
 zb (
 zc7 zem (zh6 S) [x0, x1, x7, (Value.int .i64 0)]
 ) fun o => ret (zb9 0 o)
 ) fun o => nx o (zlh S)
 ) fun o => zcp o fun vs => ret (zcm [(zc vs 0)])
def zlx : Hint := (.seq [] .leaf (.seq [] (.seq [] .leaf (.blk (.loop [0, 1, 7, 8] (.seq [] .leaf (.seq [0, 1, 7, 8] (.cond .leaf .leaf) (.seq [0, 1, 7, 8] (.blk (.seq [] .leaf (.seq [] .leaf (.cond (.seq [] .leaf .leaf) .leaf)))) .leaf)))))) (.seq [] .leaf .leaf)))
def zep (S : zbz) (l : List V) : M V := match l with | [x0, x1] => zf8 S x0 x1 | _ => fail
theorem ztk (S : zbz) (x0 x1 : V) : zde Tryz.prog (ovr [] S) zfp zlx [x0, x1] = zf8 S x0 x1 := by kernel_rfl
theorem ztl {S : zbz} (hS : zhz Tryz.prog S) : zb3 Tryz.prog zfp (zep S) := zbw (σ := ovr [] S) (hint := zlx) (by kernel_rfl) (zgc hS) fun l H r H' h => by
 unfold zep at h; split at h
 · rw [ztk]; exact h
 · exact (zo h).elim
def zfc (S : zbz) (x0 x1 : V) : M V :=
 zb (
 zb ((zep S) [x0, x1]) fun x7 =>
 zb (za (bin .geq x7 (Value.int .i64 0))) fun x8 =>
 ret (.ret [x8])
 ) fun o => zcp o fun vs => ret (zcm [(zc vs 0)])
def zkn : Hint := (.seq [] .leaf (.seq [] .leaf .leaf))
def zea (S : zbz) (l : List V) : M V := match l with | [x0, x1] => zfc S x0 x1 | _ => fail
theorem zr4 (S : zbz) (x0 x1 : V) : zde Tryz.prog (ovr [(zfp, zep S)] S) zgi zkn [x0, x1] = zfc S x0 x1 := by kernel_rfl
theorem zr5 {S : zbz} (hS : zhz Tryz.prog S) : zb3 Tryz.prog zgi (zea S) := zbw (σ := ovr [(zfp, zep S)] S) (hint := zkn) (by kernel_rfl) (zn (ztl (zgc hS)) (zgc hS)) fun l H r H' h => by
 unfold zea at h; split at h
 · rw [zr4]; exact h
 · exact (zo h).elim
def zup (x0 : V) : M V :=
 zb (
 zb (za (bin .lss x0 (Value.int .i64 1))) fun x4 =>
 zb (gd x4 false (za (some x0))) fun x6 =>
 zb (gd x4 false (za (bin .gtr x6 (Value.int .i64 3)))) fun x7 =>
 zb (za (zcd x4 (Value.bool true) x7)) fun x8 =>
 ret (.ret [x8])
 ) fun o => zcp o fun vs => ret (zcm [(zc vs 0)])
def z7l : Hint := (.seq [] .leaf (.seq [] .leaf .leaf))
def zrq (l : List V) : M V := match l with | [x0] => zup x0 | _ => fail
theorem zbgg (x0 : V) : zde Tryz.prog (ovr [] noC) zmr z7l [x0] = zup x0 := by kernel_rfl
theorem zbgh : zb3 Tryz.prog zmr (zrq) := zbw (σ := ovr [] noC) (hint := z7l) (by kernel_rfl) z8 fun l H r H' h => by
 unfold zrq at h; split at h
 · rw [zbgg]; exact h
 · exact (zo h).elim
def zwt (vs : List V) : M Out :=
 zb (zjx 1 0 (rep 0 [Value.int .i64 0]) []) fun x5 =>
 zb (zj3 1 8 x5 (zc vs 0)) fun x7 =>
 ret (.ret [x7])
def zpa (x0 : V) : M V :=
 zb (
 zb (
 zb (za (zey false (zgb .s x0))) fun x4 =>
 zbv x4 (
 ret (.ret [(Value.slice none 0 0)])
 ) (
 ret (.nxt [x0])
 )
 ) fun o => nx o zwt
 ) fun o => zcp o fun vs => ret (zcm [(zc vs 0)])
def zpb : Hint := (.seq [] .leaf (.seq [0] (.seq [] .leaf (.cond (.seq [] .leaf .leaf) .leaf)) (.seq [] .leaf .leaf)))
def zf4 (l : List V) : M V := match l with | [x0] => zpa x0 | _ => fail
theorem zya (x0 : V) : zde Tryz.prog (ovr [] noC) zi8 zpb [x0] = zpa x0 := by kernel_rfl
theorem zyb : zb3 Tryz.prog zi8 (zf4) := zbw (σ := ovr [] noC) (hint := zpb) (by kernel_rfl) z8 fun l H r H' h => by
 unfold zf4 at h; split at h
 · rw [zya]; exact h
 · exact (zo h).elim
def z96 (vs_2 : List V) : M Out :=
 zb (zf4 [(zc vs_2 0)]) fun x20 =>
 zb (zf4 [(zc vs_2 1)]) fun x22 =>
 zb (za (build [Value.slice none 0 0, Value.slice none 0 0, Value.pointer none, Value.string ⟨#[]⟩, Value.slice none 0 0, Value.slice none 0 0, Value.slice none 0 0, Value.slice none 0 0, Value.slice none 0 0, Value.slice none 0 0, Value.int .i64 0, Value.int .i64 0, Value.int .i64 0, Value.int .i64 0] [(0, 1, x20), (1, 1, x22)])) fun x23 =>
 zb (zha x23) fun x24 =>
 ret (.ret [x24, (Value.int .i64 0)])
def z97 (vs : List V) : M Out :=
 zb (
 zb (zjx 1 2 (rep 2 [Value.slice none 0 0]) [(0, 1, (zc vs 0)), (1, 1, (zc vs 1))]) fun x16 =>
 zb (zfu [x16]) fun x17 =>
 zb ((zea (ovr [(zmr, zrq)] noC)) [x17, (Value.func (.func zmr) #[] #[])]) fun x18 =>
 zbv x18 (
 ret (.ret [(Value.pointer none), (Value.int .i64 40)])
 ) (
 ret (.nxt [(zc vs 0), (zc vs 1)])
 )
 ) fun o => nx o z96
def zz5 (x0 x1 : V) : M V :=
 zb (
 zb (
 zb (za (zb4 x0)) fun x7 =>
 zb (za (bin .gtr x7 (Value.int .i64 32))) fun x8 =>
 zb (gd x8 false (za (some x1))) fun x10 =>
 zb (gd x8 false (za (zb4 x10))) fun x11 =>
 zb (gd x8 false (za (bin .gtr x11 (Value.int .i64 32)))) fun x12 =>
 zb (za (zcd x8 (Value.bool true) x12)) fun x13 =>
 zbv x13 (
 ret (.ret [(Value.pointer none), (Value.int .i64 2)])
 ) (
 ret (.nxt [x0, x1])
 )
 ) fun o => nx o z97
 ) fun o => zcp o fun vs => ret (zcm [(zc vs 0), (zc vs 1)])
def zbcg : Hint := (.seq [] .leaf (.seq [0, 1] (.seq [] .leaf (.cond (.seq [] .leaf .leaf) .leaf)) (.seq [0, 1] (.seq [] .leaf (.cond (.seq [] .leaf .leaf) .leaf)) (.seq [] .leaf .leaf))))
def zv8 (l : List V) : M V := match l with | [x0, x1] => zz5 x0 x1 | _ => fail
def zbch : zbz := ovr [(zix, zfu), (zgi, zea (ovr [(zmr, zrq)] noC)), (zi8, zf4)] noC
theorem zbko (x0 x1 : V) : zde Tryz.prog (zbch) zzv zbcg [x0, x1] = zz5 x0 x1 := by kernel_rfl
theorem zbkp : zb3 Tryz.prog zzv (zv8) := zbw (σ := zbch) (hint := zbcg) (by kernel_rfl) (zn zws (zn (zr5 (zn zbgh z8)) (zn zyb z8))) fun l H r H' h => by
 unfold zv8 at h; split at h
 · rw [zbko]; exact h
 · exact (zo h).elim
noncomputable def z98 (vs_4 : List V) : M Out :=
 zb (za (zez (zc vs_4 1))) fun x79 =>
 zb (za (z6 2 x79)) fun x80 =>
 zb (ld1 x80) fun x81 =>
 zb (za (build [Value.pointer none, Value.slice none 0 0, Value.slice none 0 0] [(0, 1, (zc vs_4 4)), (1, 1, (zc vs_4 2)), (2, 1, (zc vs_4 3))])) fun x85 =>
 zb (zjx 3 1 (rep 1 [Value.pointer none, Value.slice none 0 0, Value.slice none 0 0]) [(0, 3, x85)]) fun x86 =>
 zb (zj3 3 56 x81 x86) fun x87 =>
 zb (za (zez (zc vs_4 1))) fun x88 =>
 zb (za (z6 2 x88)) fun x89 =>
 zb (st1 x89 x87) fun _ =>
 ret (.nxt [(zc vs_4 0), (zc vs_4 1), (zc vs_4 5), (zc vs_4 6), (zc vs_4 7)])
noncomputable def z99 (vs_5 : List V) : M Out :=
 zb (za (bin .add (zc vs_5 4) (Value.int .i64 1))) fun x90 =>
 ret (.nxt [(zc vs_5 0), (zc vs_5 1), (zc vs_5 2), (zc vs_5 3), x90])
noncomputable def zbaa (vs_3 : List V) : M Out :=
 zb (
 zb (
 zb (za (zb5 2 (zc vs_3 2) (zc vs_3 4))) fun x52 =>
 zb (ldn 2 x52) fun x53 =>
 zb (newc [Value.slice none 0 0, Value.slice none 0 0]) fun x7 =>
 zb (stn 2 x7 x53) fun _ =>
 zb (ldn 7 (zc vs_3 0)) fun x55 =>
 zb (za (z6 0 x7)) fun x56 =>
 zb (ld1 x56) fun x57 =>
 zb (zqk [x55, x57]) fun x58 =>
 zb (za (ext 0 x58)) fun x59 =>
 zb (za (ext 1 x58)) fun x60 =>
 zb (ldn 7 (zc vs_3 0)) fun x62 =>
 zb (za (z6 1 x7)) fun x63 =>
 zb (ld1 x63) fun x64 =>
 zb (zqk [x62, x64]) fun x65 =>
 zb (za (ext 0 x65)) fun x66 =>
 zb (za (ext 1 x65)) fun x67 =>
 zb (zv8 [x60, x67]) fun x71 =>
 zb (za (ext 0 x71)) fun x72 =>
 zb (za (ext 1 x71)) fun x73 =>
 zb (
 zb (za (bin .neq x73 (Value.int .i64 0))) fun x75 =>
 zbv x75 (
 ret (.ret [(Value.pointer none), x73])
 ) (
 ret (.nxt [(zc vs_3 0), (zc vs_3 1), x59, x66, x72, (zc vs_3 2), (zc vs_3 3), (zc vs_3 4)])
 )
 ) fun o => nx o z98
 ) fun o => ret (zb9 1 o)
 ) fun o => nx o z99
noncomputable def z14 (vs_2 : List V) : M Out :=
 zb (za (bin .lss (zc vs_2 4) (zc vs_2 3))) fun x51 =>
 zb (
 zbv x51 (
 ret (.nxt [(zc vs_2 0), (zc vs_2 1), (zc vs_2 2), (zc vs_2 3), (zc vs_2 4)])
 ) (
 ret (.brk 0 [(zc vs_2 1)])
 )
 ) fun o => nx o zbaa
noncomputable def zbab (vs_6 : List V) : M Out :=
 ret (.ret [(zc vs_6 0), (Value.int .i64 0)])
noncomputable def zbac (vs : List V) : M Out :=
 zr6 fun h0 =>
 zb (za (z6 3 (zc vs 0))) fun x19 =>
 zb (za (z6 1 x19)) fun x20 =>
 zb (za (z6 6 (zc vs 0))) fun x23 =>
 zb (ld1 x20) fun x21 =>
 zb (ld1 x23) fun x24 =>
 zgn (zd5 [x21]) fun ha x22 h1 =>
 zb (za (build [Value.pointer none, Value.pointer none, Value.slice none 0 0, Value.slice none 0 0, Value.int .i64 0, Value.int .i64 0] [(3, 1, x22), (4, 1, x24)])) fun x25 =>
 zgn (zha x25) fun ha_2 x26 h2 =>
 zqr (chk (ld1 x23) h1 x24) <|
 zb (za (z6 0 (zc vs 0))) fun x29 =>
 zb (ld1 x29) fun x30 =>
 zb (za (z6 1 (zc vs 0))) fun x31 =>
 zb (ld1 x31) fun x32 =>
 zb (zrp [x30, x32]) fun x33 =>
 zb (za (ext 0 x33)) fun x34 =>
 zb (za (ext 1 x33)) fun x35 =>
 zb (za (zez x26)) fun x36 =>
 zb (za (z6 0 x36)) fun x37 =>
 zb (st1 x37 x34) fun _ =>
 zb (za (z6 2 (zc vs 0))) fun x40 =>
 zb (ld1 x40) fun x41 =>
 zb (zs4 [x41]) fun x42 =>
 zb (za (ext 0 x42)) fun x43 =>
 zb (za (ext 1 x42)) fun x44 =>
 zb (za (zez x26)) fun x45 =>
 zb (za (z6 1 x45)) fun x46 =>
 zb (st1 x46 x43) fun _ =>
 zb (
 zb (za (z6 5 (zc vs 0))) fun x47 =>
 zb (ld1 x47) fun x48 =>
 zb (za (zb4 x48)) fun x49 =>
 zb (
 zc7 zem z14 [(zc vs 0), x26, x48, x49, (Value.int .i64 0)]
 ) fun o => ret (zb9 0 o)
 ) fun o => nx o zbab
noncomputable def zz6 (x0 : V) : M V :=
 zb (
 zb (zha x0) fun x1 =>
 zb (
 zb (ldn 7 x1) fun x14 =>
 zb (zro [x14]) fun x15 =>
 zb (za (bin .neq x15 (Value.int .i64 0))) fun x17 =>
 zbv x17 (
 ret (.ret [(Value.pointer none), x15])
 ) (
 ret (.nxt [x1])
 )
 ) fun o => nx o zbac
 ) fun o => zcp o fun vs => ret (zcm [(zc vs 0), (zc vs 1)])
def zbci : Hint := (.seq [] .leaf (.seq [1] (.seq [] .leaf (.seq [] .leaf (.cond (.seq [] .leaf .leaf) .leaf))) (.seq [] (.reg [0, 1, 4, 2, 5, 3, 6, 7, 8] []) (.seq [] .leaf (.seq [] .leaf (.seq [5] (.seq [] .leaf (.blk (.loop [1, 5, 48, 49, 50] (.seq [] .leaf (.seq [1, 5, 48, 49, 50] (.cond .leaf .leaf) (.seq [1, 5, 48, 49, 50] (.blk (.seq [] .leaf (.seq [] .leaf (.seq [] .leaf (.seq [] .leaf (.seq [1, 5, 8, 10, 12, 48, 49, 50] (.seq [] .leaf (.cond (.seq [] .leaf .leaf) .leaf)) .leaf)))))) .leaf)))))) (.seq [] .leaf .leaf)))))))
noncomputable def zse (l : List V) : M V := match l with | [x0] => zz6 x0 | _ => fail
noncomputable def zbcj : zbz := ovr [(zvf, zro), (ze3, zd5), (zvg, zrp), (zxr, zs4), (zxs, zqk), (zzv, zv8)] noC
theorem zbkq (x0 : V) : zde Tryz.prog (zbcj) zud zbci [x0] = zz6 x0 := by kernel_rfl
theorem zbkr : zb3 Tryz.prog zud (zse) := zbw (σ := zbcj) (hint := zbci) (by kernel_rfl) (zn zbgd (zn znk (zn zbgf (zn zbix (zn zbiz (zn zbkp z8)))))) fun l H r H' h => by
 unfold zse at h; split at h
 · rw [zbkq]; exact h
 · exact (zo h).elim
def zrr (G_strings_IndexRune : List V → M V) (x0 : V) : M V :=
 zb (
 zb (zha x0) fun x1 =>
 zb (za (z6 0 x1)) fun x3 =>
 zb (ld1 x3) fun x4 =>
 zb (za (bin .neq x4 (Value.string ⟨#[]⟩))) fun x5 =>
 zb (gd x5 true (za (z6 0 x1))) fun x7 =>
 zb (gd x5 true (ld1 x7)) fun x8 =>
 zb (gd x5 true (za (zhc x8))) fun x9 =>
 zb (gd x5 true (za (bin .leq x9 (Value.int .i64 24)))) fun x10 =>
 zb (za (zcd x5 x10 (Value.bool false))) fun x11 =>
 zb (gd x11 true (za (z6 0 x1))) fun x13 =>
 zb (gd x11 true (ld1 x13)) fun x14 =>
 zb (gd x11 true ((zen G_strings_IndexRune) [x14, (Value.string ⟨#[97, 98, 99, 100, 101, 102, 103, 104, 105, 106, 107, 108, 109, 110, 111, 112, 113, 114, 115, 116, 117, 118, 119, 120, 121, 122, 48, 49, 50, 51, 52, 53, 54, 55, 56, 57]⟩)])) fun x15 =>
 zb (gd x11 true (za (bin .eql x15 (Value.string ⟨#[]⟩)))) fun x16 =>
 zb (za (zcd x11 x16 (Value.bool false))) fun x17 =>
 zb (gd x17 true (za (z6 1 x1))) fun x19 =>
 zb (gd x17 true (ld1 x19)) fun x20 =>
 zb (gd x17 true (za (zhc x20))) fun x21 =>
 zb (gd x17 true (za (bin .geq x21 (Value.int .i64 16)))) fun x22 =>
 zb (za (zcd x17 x22 (Value.bool false))) fun x23 =>
 zb (gd x23 true (za (z6 1 x1))) fun x25 =>
 zb (gd x23 true (ld1 x25)) fun x26 =>
 zb (gd x23 true (za (zhc x26))) fun x27 =>
 zb (gd x23 true (za (bin .leq x27 (Value.int .i64 64)))) fun x28 =>
 zb (za (zcd x23 x28 (Value.bool false))) fun x29 =>
 ret (.ret [x29])
 ) fun o => zcp o fun vs => ret (zcm [(zc vs 0)])
def z15 : Hint := (.seq [] .leaf (.seq [] .leaf .leaf))
def zk4 (G_strings_IndexRune : List V → M V) (l : List V) : M V := match l with | [x0] => zrr G_strings_IndexRune x0 | _ => fail
theorem zbck (G_strings_IndexRune : List V → M V) (x0 : V) : zde Tryz.prog (ovr [(zgd, zen G_strings_IndexRune)] noC) znv z15 [x0] = zrr G_strings_IndexRune x0 := by kernel_rfl
theorem zbcl {G_strings_IndexRune : List V → M V} (k_strings_IndexRune : zb3 Tryz.prog zb1 G_strings_IndexRune) : zb3 Tryz.prog znv (zk4 G_strings_IndexRune) := zbw (σ := ovr [(zgd, zen G_strings_IndexRune)] noC) (hint := z15) (by kernel_rfl) (zn (zvq k_strings_IndexRune) z8) fun l H r H' h => by
 unfold zk4 at h; split at h
 · rw [zbck]; exact h
 · exact (zo h).elim
def zrs (x0 x1 : V) : M V :=
 zb (
 zb (zha x0) fun x2 =>
 zb (za (z6 0 x2)) fun x4 =>
 zb (ld1 x4) fun x5 =>
 zb (ld1 x1) fun x6 =>
 zb (za (bin .eql x5 x6)) fun x7 =>
 ret (.ret [x7])
 ) fun o => zcp o fun vs => ret (zcm [(zc vs 0)])
def z16 : Hint := (.seq [] .leaf (.seq [] .leaf .leaf))
def znl (l : List V) : M V := match l with | [x0, x1] => zrs x0 x1 | _ => fail
theorem zbcm (x0 x1 : V) : zde Tryz.prog (ovr [] noC) zkz z16 [x0, x1] = zrs x0 x1 := by kernel_rfl
theorem zbcn : zb3 Tryz.prog zkz (znl) := zbw (σ := ovr [] noC) (hint := z16) (by kernel_rfl) z8 fun l H r H' h => by
 unfold znl at h; split at h
 · rw [zbcm]; exact h
 · exact (zo h).elim
end Go.AM.Cap
