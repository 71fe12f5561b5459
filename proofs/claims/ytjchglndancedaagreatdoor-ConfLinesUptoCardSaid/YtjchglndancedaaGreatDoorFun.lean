import Derived.Test.YtjchglndancedaaGreatDoorAmWp
import Derived.Test.YtjchglndancedaaGreatDoorProg
set_option linter.all false
/- Printed by amprint2.py: functions of YtjchglndancedaaGreatDoor on the abstract machine. -/
set_option linter.unusedVariables false
set_option maxRecDepth 100000
namespace Go.AM.Cap
open Go.AM Go.Proofs
def gid_conf_levels : Nat := 0
def gid_conf_types : Nat := 1
def zxl : Nat := 3
def zqw : Nat := 4
def z1z : Nat := 7
def zzu : Nat := 8
def zyp : Nat := 11
def z16 : Nat := 12
def zch : Nat := 14
def z17 : Nat := 15
def zzv : Nat := 16
def zkd : Nat := 21
def zof : Nat := 22
def z8l : Nat := 23
def zfx : Nat := 24
def zec : Nat := 25
def zwj : Nat := 32
def zqx : Nat := 33
def z5l : Nat := 34
def z5m : Nat := 35
def zfq : Nat := 36
def zf9 : Nat := 37
def zbr : Nat := 42
def zbx : Nat := 43
def zgv : Nat := 44
def zyq : Nat := 45
def zbk : Nat := 52
def zbv : Nat := 53
def zbw : Nat := 54
def zb4 : Nat := 55
def zcm : Nat := 56
def zb3 : Nat := 57
def zc9 : Nat := 58
def zb5 : Nat := 59
def zda : Nat := 60
def zdb : Nat := 61
def zci : Nat := 62
def zzw : Nat := 63
def ze0 : Nat := 64
def zzx : Nat := 65
def z18 : Nat := 66
def z19 : Nat := 67
def z5n : Nat := 68
def zyr : Nat := 69
def zga : Nat := 70
def zds : Nat := 89
def zgw : Nat := 92
def zva : Nat := 93
def zhh : Nat := 94
def zm4 : Nat := 95
def zb6 : Nat := 96
def zzy : Nat := 97
def zp1 : Nat := 98
def zq7 : Nat := 99
def zzz : Nat := 100
def zcd : Nat := 101
def zdi : Nat := 102
def zd9 : Nat := 103
def zdj : Nat := 104
def zz0 : Nat := 105
def zfr : Nat := 106
def zgb : Nat := 107
def zg1 : Nat := 108
def zhi : Nat := 109
def zj0 : Nat := 110
def zog : Nat := 111
def zke : Nat := 112
def zwk : Nat := 113
def zz1 : Nat := 114
def zys : Nat := 115
def zfe : Nat := 126
def zh2 : Nat := 131
def zlk : Nat := 132
def zbf : Nat := 133
def zbp : Nat := 134
def zdu : Nat := 135
def zb9 : Nat := 136
def zwl : Nat := 137
def zyt : Nat := 138
def z2a : Nat := 139
def zed : Nat := 140
def ze1 : Nat := 141
def zb1 : Nat := 142
def zic : Nat := 143
def zl0 : Nat := 144
def ze2 : Nat := 145
def zll : Nat := 146
def zit : Nat := 147
def zmq : Nat := 158
def zl1 : Nat := 159
def zmr : Nat := 160
def zl2 : Nat := 161
def zkf : Nat := 162
def zj1 : Nat := 163
def zi7 : Nat := 164
def zee : Nat := 167
def zyu : Nat := 168
def zgc : Nat := 169
def zkg : Nat := 170
def zfs : Nat := 177
def zhu : Nat := 178
def zff : Nat := 179
def zr : Nat := 187
def zkh : Nat := 188
def zgd : Nat := 226
def zg2 : Nat := 227
def zd4 : Nat := 229
def zg3 : Nat := 231
def zhr : Nat := 232
def zh5 : Nat := 235
def zg4 : Nat := 236
def zew : Nat := 3
def zcn : Nat := 9
def zyv : Nat := 74
def zoh : Nat := 273
def zqi : Nat := 274
def zs6 : Nat := 276
def zvb (vs_2 : List V) : M Out :=
 zb (
 zb (za (zet (zd vs_2 0))) fun x19 =>
 zb (za (zw .sub x19 (Value.int .i64 1))) fun x20 =>
 zb (za (z4r (zd vs_2 0) none (some x20))) fun x21 =>
 ret (.nxt [x21, (zd vs_2 1)])
 ) fun o => ret (zz 1 o)
def zvc (vs : List V) : M Out :=
 zb (
 zb (za (zet (zd vs 0))) fun x6 =>
 zb (za (zw .gtr x6 (Value.int .i64 0))) fun x7 =>
 zb (gd x7 true (za (some (zd vs 0)))) fun x9 =>
 zb (gd x7 true (za (some (zd vs 0)))) fun x10 =>
 zb (gd x7 true (za (zet x10))) fun x11 =>
 zb (gd x7 true (za (zw .sub x11 (Value.int .i64 1)))) fun x12 =>
 zb (gd x7 true (za (zl9 x9 x12))) fun x13 =>
 zb (gd x7 true (za (some (zd vs 1)))) fun x14 =>
 zb (gd x7 true (za (zw .eql x13 x14))) fun x15 =>
 zb (za (zbe x7 x15 (Value.bool false))) fun x16 =>
 zn x16 (
 ret (.nxt [(zd vs 0), (zd vs 1)])
 ) (
 ret (.brk 0 [(zd vs 0)])
 )
 ) fun o => nx o zvb
def zvd (vs_3 : List V) : M Out :=
 ret (.ret [(zd vs_3 0)])
def zwm (x0 x1 : V) : M V :=
 zb (
 zb (
 zb (
 zbj zb8 zvc [x0, x1]
 ) fun o => ret (zz 0 o)
 ) fun o => nx o zvd
 ) fun o => zbl o fun vs => ret (zbi [(zd vs 0)])
def zwn : Hint := (.seq [] .leaf (.seq [0] (.blk (.loop [0, 1] (.seq [0, 1] (.seq [] .leaf (.cond .leaf .leaf)) (.blk .leaf)))) (.seq [] .leaf .leaf)))
def zid : List V → M V := ap2 zwm
theorem zwo : zq Tryz.prog zl1 (zid) := kn2 (σ := ovr [] noC) (hint := zwn) (by kernel_rfl) zk fun _ _ => (by kernel_rfl)
def zwp (vs_2 : List V) : M Out :=
 zb (
 zb (za (z4r (zd vs_2 0) (some (Value.int .i64 1)) none)) fun x15 =>
 ret (.nxt [x15, (zd vs_2 1)])
 ) fun o => ret (zz 1 o)
def zwq (vs : List V) : M Out :=
 zb (
 zb (za (zet (zd vs 0))) fun x6 =>
 zb (za (zw .gtr x6 (Value.int .i64 0))) fun x7 =>
 zb (gd x7 true (za (some (zd vs 0)))) fun x9 =>
 zb (gd x7 true (za (zl9 x9 (Value.int .i64 0)))) fun x10 =>
 zb (gd x7 true (za (some (zd vs 1)))) fun x11 =>
 zb (gd x7 true (za (zw .eql x10 x11))) fun x12 =>
 zb (za (zbe x7 x12 (Value.bool false))) fun x13 =>
 zn x13 (
 ret (.nxt [(zd vs 0), (zd vs 1)])
 ) (
 ret (.brk 0 [(zd vs 0)])
 )
 ) fun o => nx o zwp
def zwr (vs_3 : List V) : M Out :=
 ret (.ret [(zd vs_3 0)])
def zxm (x0 x1 : V) : M V :=
 zb (
 zb (
 zb (
 zbj zb8 zwq [x0, x1]
 ) fun o => ret (zz 0 o)
 ) fun o => nx o zwr
 ) fun o => zbl o fun vs => ret (zbi [(zd vs 0)])
def zxn : Hint := (.seq [] .leaf (.seq [0] (.blk (.loop [0, 1] (.seq [0, 1] (.seq [] .leaf (.cond .leaf .leaf)) (.blk .leaf)))) (.seq [] .leaf .leaf)))
def zi0 : List V → M V := ap2 zxm
theorem zxo : zq Tryz.prog zmq (zi0) := kn2 (σ := ovr [] noC) (hint := zxn) (by kernel_rfl) zk fun _ _ => (by kernel_rfl)
def znv (vs_3 : List V) : M Out :=
 zb (za (zma 256 1 (zd vs_3 1) (zd vs_3 3))) fun x19 =>
 zb (st1 x19 (Value.bool true)) fun _ =>
 ret (.nxt [(zd vs_3 0), (zd vs_3 1), (zd vs_3 2)])
def znw (vs_4 : List V) : M Out :=
 zb (za (zw .add (zd vs_4 2) (Value.int .i64 1))) fun x11 =>
 ret (.nxt [(zd vs_4 0), (zd vs_4 1), x11])
def znx (vs_2 : List V) : M Out :=
 zb (
 zb (
 zb (za (zl9 (zd vs_2 0) (zd vs_2 2))) fun x14 =>
 zb (
 zb (za (zw .geq x14 (Value.int .u8 128))) fun x16 =>
 zn x16 (
 zb (ldn 256 (zd vs_2 1)) fun x17 =>
 zb (stn 256 (zd vs_2 1) x17) fun _ =>
 ret (.ret [(zd vs_2 1), (Value.bool false)])
 ) (
 ret (.nxt [(zd vs_2 0), (zd vs_2 1), (zd vs_2 2), x14])
 )
 ) fun o => nx o znv
 ) fun o => ret (zz 1 o)
 ) fun o => nx o znw
def zie (vs : List V) : M Out :=
 zb (
 zb (za (zet (zd vs 0))) fun x8 =>
 zb (za (zw .lss (zd vs 2) x8)) fun x9 =>
 zn x9 (
 ret (.nxt [(zd vs 0), (zd vs 1), (zd vs 2)])
 ) (
 ret (.brk 0 [(zd vs 1)])
 )
 ) fun o => nx o znx
def zny (vs_5 : List V) : M Out :=
 zb (ldn 256 (zd vs_5 0)) fun x20 =>
 zb (stn 256 (zd vs_5 0) x20) fun _ =>
 ret (.ret [(zd vs_5 0), (Value.bool true)])
def zi1 (x0 : V) : M V :=
 zb (
 zb (newc (List.replicate 256 (Value.bool false))) fun x2 =>
 zb (
 zb (
 zbj zb8 zie [x0, x2, (Value.int .i64 0)]
 ) fun o => ret (zz 0 o)
 ) fun o => nx o zny
 ) fun o => zbl o fun vs => zb (ldn 256 (zd vs 0)) fun r0 => ret (zbi [r0, (zd vs 1)])
def zxp : Hint := (.seq [] .leaf (.seq [2] (.seq [] .leaf (.blk (.loop [0, 2, 4] (.seq [0, 2, 4] (.seq [] .leaf (.cond .leaf .leaf)) (.seq [0, 2, 4] (.blk (.seq [] .leaf (.seq [0, 2, 4, 5] (.seq [] .leaf (.cond (.seq [] .leaf .leaf) .leaf)) .leaf))) .leaf))))) (.seq [] .leaf .leaf)))
def zgh : List V → M V := ap1 zi1
theorem zxq : zq Tryz.prog zmr (zgh) := kn1 (σ := ovr [] noC) (hint := zxp) (by kernel_rfl) zk fun _ => (by kernel_rfl)
def zgi (x0 x1 : V) : M V :=
 zb (
 zb (za (zcc x0)) fun x7 =>
 zb (za (zma 256 1 x7 x1)) fun x8 =>
 zb (ld1 x8) fun x9 =>
 ret (.ret [x9])
 ) fun o => zbl o fun vs => ret (zbi [(zd vs 0)])
def zr2 : Hint := (.seq [] .leaf (.seq [] .leaf .leaf))
def zcb : List V → M V := ap2 zgi
theorem zj2 : zq Tryz.prog zfs (zcb) := kn2 (σ := ovr [] noC) (hint := zr2) (by kernel_rfl) zk fun _ _ => (by kernel_rfl)
def zl3 (vs_3 : List V) : M Out :=
 zb (za (zet (zd vs_3 0))) fun x18 =>
 zb (za (zw .sub x18 (Value.int .i64 1))) fun x19 =>
 zb (za (z4r (zd vs_3 0) none (some x19))) fun x20 =>
 ret (.nxt [x20, (zd vs_3 1)])
def zl4 (vs_2 : List V) : M Out :=
 zb (
 zb (
 zb (za (zet (zd vs_2 0))) fun x11 =>
 zb (za (zw .sub x11 (Value.int .i64 1))) fun x12 =>
 zb (za (zl9 (zd vs_2 0) x12)) fun x13 =>
 zb (zcb [(zd vs_2 1), x13]) fun x14 =>
 zb (za (un .not x14)) fun x15 =>
 zn x15 (
 ret (.brk 0 [(zd vs_2 0)])
 ) (
 ret (.nxt [(zd vs_2 0), (zd vs_2 1)])
 )
 ) fun o => nx o zl3
 ) fun o => ret (zz 1 o)
def zhl (vs : List V) : M Out :=
 zb (
 zb (za (zet (zd vs 0))) fun x6 =>
 zb (za (zw .gtr x6 (Value.int .i64 0))) fun x7 =>
 zn x7 (
 ret (.nxt [(zd vs 0), (zd vs 1)])
 ) (
 ret (.brk 0 [(zd vs 0)])
 )
 ) fun o => nx o zl4
def zhm (vs_4 : List V) : M Out :=
 ret (.ret [(zd vs_4 0)])
def zhv (x0 x1 : V) : M V :=
 zb (
 zb (
 zb (
 zbj zb8 zhl [x0, x1]
 ) fun o => ret (zz 0 o)
 ) fun o => nx o zhm
 ) fun o => zbl o fun vs => ret (zbi [(zd vs 0)])
def zve : Hint := (.seq [] .leaf (.seq [0] (.blk (.loop [0, 1] (.seq [0, 1] (.seq [] .leaf (.cond .leaf .leaf)) (.blk (.seq [0, 1] (.seq [] .leaf (.cond .leaf .leaf)) .leaf))))) (.seq [] .leaf .leaf)))
def zfl : List V → M V := ap2 zhv
def zvf : zu := ovr [(zfs, zcb)] noC
theorem zvg : zq Tryz.prog zkf (zfl) := kn2 (σ := zvf) (hint := zve) (by kernel_rfl) (ze zj2 zk) fun _ _ => (by kernel_rfl)
def zms (vs_3 : List V) : M Out :=
 zb (za (z4r (zd vs_3 0) (some (Value.int .i64 1)) none)) fun x14 =>
 ret (.nxt [x14, (zd vs_3 1)])
def zmt (vs_2 : List V) : M Out :=
 zb (
 zb (
 zb (za (zl9 (zd vs_2 0) (Value.int .i64 0))) fun x10 =>
 zb (zcb [(zd vs_2 1), x10]) fun x11 =>
 zb (za (un .not x11)) fun x12 =>
 zn x12 (
 ret (.brk 0 [(zd vs_2 0)])
 ) (
 ret (.nxt [(zd vs_2 0), (zd vs_2 1)])
 )
 ) fun o => nx o zms
 ) fun o => ret (zz 1 o)
def zhw (vs : List V) : M Out :=
 zb (
 zb (za (zet (zd vs 0))) fun x6 =>
 zb (za (zw .gtr x6 (Value.int .i64 0))) fun x7 =>
 zn x7 (
 ret (.nxt [(zd vs 0), (zd vs 1)])
 ) (
 ret (.brk 0 [(zd vs 0)])
 )
 ) fun o => nx o zmt
def zhx (vs_4 : List V) : M Out :=
 ret (.ret [(zd vs_4 0)])
def zif (x0 x1 : V) : M V :=
 zb (
 zb (
 zb (
 zbj zb8 zhw [x0, x1]
 ) fun o => ret (zz 0 o)
 ) fun o => nx o zhx
 ) fun o => zbl o fun vs => ret (zbi [(zd vs 0)])
def zws : Hint := (.seq [] .leaf (.seq [0] (.blk (.loop [0, 1] (.seq [0, 1] (.seq [] .leaf (.cond .leaf .leaf)) (.blk (.seq [0, 1] (.seq [] .leaf (.cond .leaf .leaf)) .leaf))))) (.seq [] .leaf .leaf)))
def zfy : List V → M V := ap2 zif
def zwt : zu := ovr [(zfs, zcb)] noC
theorem zwu : zq Tryz.prog zl2 (zfy) := kn2 (σ := zwt) (hint := zws) (by kernel_rfl) (ze zj2 zk) fun _ _ => (by kernel_rfl)
def zvh (x0 : V) : M V :=
 zb (
 zb (za (zw .and x0 (Value.int .u8 192))) fun x4 =>
 zb (za (zw .neq x4 (Value.int .u8 128))) fun x5 =>
 ret (.ret [x5])
 ) fun o => zbl o fun vs => ret (zbi [(zd vs 0)])
def zvi : Hint := (.seq [] .leaf (.seq [] .leaf .leaf))
def zhy : List V → M V := ap1 zvh
theorem zvj : zq Tryz.prog zkh (zhy) := kn1 (σ := ovr [] noC) (hint := zvi) (by kernel_rfl) zk fun _ => (by kernel_rfl)
def zki (vs_8 : List V) : M Out :=
 zb (za (zw .and (zd vs_8 0) (Value.int .u8 7))) fun x100 =>
 zb (za (cvi .i32 x100)) fun x101 =>
 zb (za (zw .shl x101 (Value.int .u64 18))) fun x102 =>
 zb (za (zw .and (zd vs_8 1) (Value.int .u8 63))) fun x104 =>
 zb (za (cvi .i32 x104)) fun x105 =>
 zb (za (zw .shl x105 (Value.int .u64 12))) fun x106 =>
 zb (za (zw .or x102 x106)) fun x107 =>
 zb (za (zw .and (zd vs_8 2) (Value.int .u8 63))) fun x109 =>
 zb (za (cvi .i32 x109)) fun x110 =>
 zb (za (zw .shl x110 (Value.int .u64 6))) fun x111 =>
 zb (za (zw .or x107 x111)) fun x112 =>
 zb (za (zw .and (zd vs_8 3) (Value.int .u8 63))) fun x114 =>
 zb (za (cvi .i32 x114)) fun x115 =>
 zb (za (zw .or x112 x115)) fun x116 =>
 ret (.ret [x116, (Value.int .i64 4)])
def zkj (vs_7 : List V) : M Out :=
 zb (za (zl9 (zd vs_7 0) (Value.int .i64 3))) fun x92 =>
 zb (
 zb (za (zw .lss x92 (Value.int .u8 128))) fun x94 =>
 zb (gd x94 false (za (some x92))) fun x96 =>
 zb (gd x94 false (za (zw .lss (Value.int .u8 191) x96))) fun x97 =>
 zb (za (zbe x94 (Value.bool true) x97)) fun x98 =>
 zn x98 (
 ret (.ret [(Value.int .i32 65533), (Value.int .i64 1)])
 ) (
 ret (.nxt [(zd vs_7 1), (zd vs_7 2), (zd vs_7 3), x92])
 )
 ) fun o => nx o zki
def zkk (vs_6 : List V) : M Out :=
 zb (
 zb (za (zw .leq (zd vs_6 2) (Value.int .i64 3))) fun x77 =>
 zn x77 (
 zb (za (zw .and (zd vs_6 1) (Value.int .u8 15))) fun x79 =>
 zb (za (cvi .i32 x79)) fun x80 =>
 zb (za (zw .shl x80 (Value.int .u64 12))) fun x81 =>
 zb (za (zw .and (zd vs_6 3) (Value.int .u8 63))) fun x83 =>
 zb (za (cvi .i32 x83)) fun x84 =>
 zb (za (zw .shl x84 (Value.int .u64 6))) fun x85 =>
 zb (za (zw .or x81 x85)) fun x86 =>
 zb (za (zw .and (zd vs_6 4) (Value.int .u8 63))) fun x88 =>
 zb (za (cvi .i32 x88)) fun x89 =>
 zb (za (zw .or x86 x89)) fun x90 =>
 ret (.ret [x90, (Value.int .i64 3)])
 ) (
 ret (.nxt [(zd vs_6 0), (zd vs_6 1), (zd vs_6 3), (zd vs_6 4)])
 )
 ) fun o => nx o zkj
def zkl (vs_5 : List V) : M Out :=
 zb (za (zl9 (zd vs_5 0) (Value.int .i64 2))) fun x69 =>
 zb (
 zb (za (zw .lss x69 (Value.int .u8 128))) fun x71 =>
 zb (gd x71 false (za (some x69))) fun x73 =>
 zb (gd x71 false (za (zw .lss (Value.int .u8 191) x73))) fun x74 =>
 zb (za (zbe x71 (Value.bool true) x74)) fun x75 =>
 zn x75 (
 ret (.ret [(Value.int .i32 65533), (Value.int .i64 1)])
 ) (
 ret (.nxt [(zd vs_5 0), (zd vs_5 1), (zd vs_5 2), (zd vs_5 3), x69])
 )
 ) fun o => nx o zkk
def zkm (vs_4 : List V) : M Out :=
 zb (
 zb (za (zw .leq (zd vs_4 2) (Value.int .i64 2))) fun x59 =>
 zn x59 (
 zb (za (zw .and (zd vs_4 1) (Value.int .u8 31))) fun x61 =>
 zb (za (cvi .i32 x61)) fun x62 =>
 zb (za (zw .shl x62 (Value.int .u64 6))) fun x63 =>
 zb (za (zw .and (zd vs_4 3) (Value.int .u8 63))) fun x65 =>
 zb (za (cvi .i32 x65)) fun x66 =>
 zb (za (zw .or x63 x66)) fun x67 =>
 ret (.ret [x67, (Value.int .i64 2)])
 ) (
 ret (.nxt [(zd vs_4 0), (zd vs_4 1), (zd vs_4 2), (zd vs_4 3)])
 )
 ) fun o => nx o zkl
def zkn (vs_3 : List V) : M Out :=
 zb (za (zl9 (zd vs_3 0) (Value.int .i64 1))) fun x47 =>
 zb (
 zb (za (zh 0 (zd vs_3 3))) fun x49 =>
 zb (ld1 x49) fun x50 =>
 zb (za (zw .lss x47 x50)) fun x51 =>
 zb (gd x51 false (za (zh 1 (zd vs_3 3)))) fun x53 =>
 zb (gd x51 false (ld1 x53)) fun x54 =>
 zb (gd x51 false (za (some x47))) fun x55 =>
 zb (gd x51 false (za (zw .lss x54 x55))) fun x56 =>
 zb (za (zbe x51 (Value.bool true) x56)) fun x57 =>
 zn x57 (
 ret (.ret [(Value.int .i32 65533), (Value.int .i64 1)])
 ) (
 ret (.nxt [(zd vs_3 0), (zd vs_3 1), (zd vs_3 2), x47])
 )
 ) fun o => nx o zkm
def zko (vs_2 : List V) : M Out :=
 zb (za (zw .and (zd vs_2 3) (Value.int .u8 7))) fun x37 =>
 zb (za (cvi .i64 x37)) fun x38 =>
 zb (za (zw .shr (zd vs_2 3) (Value.int .u64 4))) fun x40 =>
 zb (za (zma 16 2 (ptr zqw 0) x40)) fun x41 =>
 zb (ldn 2 x41) fun x42 =>
 zb (newc [Value.int .u8 0, Value.int .u8 0]) fun x9 =>
 zb (stn 2 x9 x42) fun _ =>
 zb (
 zb (za (zw .lss (zd vs_2 1) x38)) fun x45 =>
 zn x45 (
 ret (.ret [(Value.int .i32 65533), (Value.int .i64 1)])
 ) (
 ret (.nxt [(zd vs_2 0), (zd vs_2 2), x38, x9])
 )
 ) fun o => nx o zkn
def zkp (vs : List V) : M Out :=
 zb (za (zl9 (zd vs 0) (Value.int .i64 0))) fun x18 =>
 zb (za (zma 256 1 (ptr zxl 0) x18)) fun x20 =>
 zb (ld1 x20) fun x21 =>
 zb (
 zb (za (zw .geq x21 (Value.int .u8 240))) fun x23 =>
 zn x23 (
 zb (za (cvi .i32 x21)) fun x25 =>
 zb (za (zw .shl x25 (Value.int .u64 31))) fun x26 =>
 zb (za (zw .shr x26 (Value.int .u64 31))) fun x27 =>
 zb (za (zl9 (zd vs 0) (Value.int .i64 0))) fun x29 =>
 zb (za (cvi .i32 x29)) fun x30 =>
 zb (za (zw .andNot x30 x27)) fun x32 =>
 zb (za (zw .and (Value.int .i32 65533) x27)) fun x34 =>
 zb (za (zw .or x32 x34)) fun x35 =>
 ret (.ret [x35, (Value.int .i64 1)])
 ) (
 ret (.nxt [(zd vs 0), (zd vs 1), x18, x21])
 )
 ) fun o => nx o zko
def zlm (x0 : V) : M V :=
 zb (
 zb (za (zet x0)) fun x14 =>
 zb (
 zb (za (zw .lss x14 (Value.int .i64 1))) fun x16 =>
 zn x16 (
 ret (.ret [(Value.int .i32 65533), (Value.int .i64 0)])
 ) (
 ret (.nxt [x0, x14])
 )
 ) fun o => nx o zkp
 ) fun o => zbl o fun vs => ret (zbi [(zd vs 0), (zd vs 1)])
def zln : Hint := (.seq [] .leaf (.seq [] .leaf (.seq [0, 4] (.seq [] .leaf (.cond (.seq [] .leaf .leaf) .leaf)) (.seq [] .leaf (.seq [] .leaf (.seq [0, 4, 5, 6] (.seq [] .leaf (.cond (.seq [] .leaf (.seq [] .leaf .leaf)) .leaf)) (.seq [] .leaf (.seq [] .leaf (.seq [0, 5, 8, 9] (.seq [] .leaf (.cond (.seq [] .leaf .leaf) .leaf)) (.seq [] .leaf (.seq [0, 5, 8, 10] (.seq [] .leaf (.cond (.seq [] .leaf .leaf) .leaf)) (.seq [0, 5, 8, 10] (.seq [] .leaf (.cond (.seq [] .leaf .leaf) .leaf)) (.seq [] .leaf (.seq [0, 5, 8, 10, 11] (.seq [] .leaf (.cond (.seq [] .leaf .leaf) .leaf)) (.seq [0, 5, 10, 11] (.seq [] .leaf (.cond (.seq [] .leaf .leaf) .leaf)) (.seq [] .leaf (.seq [5, 10, 11, 12] (.seq [] .leaf (.cond (.seq [] .leaf .leaf) .leaf)) (.seq [] .leaf .leaf))))))))))))))))))
def zdk : List V → M V := ap1 zlm
theorem zlo : zq Tryz.prog zfe (zdk) := kn1 (σ := ovr [] noC) (hint := zln) (by kernel_rfl) zk fun _ => (by kernel_rfl)
def zm8 (vs : List V) : M Out :=
 ret (.ret [(zd vs 0), (zd vs 1)])
def zn0 (x0 : V) : M V :=
 zb (
 zb (
 zb (za (zw .neq x0 (Value.string ⟨#[]⟩))) fun x5 =>
 zb (gd x5 true (za (some x0))) fun x7 =>
 zb (gd x5 true (za (zl9 x7 (Value.int .i64 0)))) fun x8 =>
 zb (gd x5 true (za (zw .lss x8 (Value.int .u8 128)))) fun x9 =>
 zb (za (zbe x5 x9 (Value.bool false))) fun x10 =>
 zn x10 (
 zb (za (zl9 x0 (Value.int .i64 0))) fun x12 =>
 zb (za (cvi .i32 x12)) fun x13 =>
 ret (.ret [x13, (Value.int .i64 1)])
 ) (
 zb (zdk [x0]) fun x16 =>
 zb (za (ext 0 x16)) fun x17 =>
 zb (za (ext 1 x16)) fun x18 =>
 ret (.nxt [x17, x18])
 )
 ) fun o => nx o zm8
 ) fun o => zbl o fun vs => ret (zbi [(zd vs 0), (zd vs 1)])
def zn1 : Hint := (.seq [] .leaf (.seq [2, 3] (.seq [] .leaf (.cond (.seq [] .leaf .leaf) .leaf)) .leaf))
def zbz : List V → M V := ap1 zn0
def zn2 : zu := ovr [(zfe, zdk)] noC
theorem zhj : zq Tryz.prog zds (zbz) := kn1 (σ := zn2) (hint := zn1) (by kernel_rfl) (ze zlo zk) fun _ => (by kernel_rfl)
def zkq (vs_5 : List V) : M Out :=
 zb (za (zw .sub (zd vs_5 2) (Value.int .i64 1))) fun x29 =>
 ret (.nxt [(zd vs_5 0), (zd vs_5 1), x29, (zd vs_5 3)])
def zkr (vs_4 : List V) : M Out :=
 zb (
 zb (
 zb (za (zl9 (zd vs_4 0) (zd vs_4 2))) fun x32 =>
 zb (zhy [x32]) fun x33 =>
 zn x33 (
 ret (.brk 0 [(zd vs_4 0), (zd vs_4 1), (zd vs_4 2)])
 ) (
 ret (.nxt [(zd vs_4 0), (zd vs_4 1), (zd vs_4 2), (zd vs_4 3)])
 )
 ) fun o => ret (zz 1 o)
 ) fun o => nx o zkq
def zks (vs_3 : List V) : M Out :=
 zb (
 zb (za (zw .geq (zd vs_3 2) (zd vs_3 3))) fun x27 =>
 zn x27 (
 ret (.nxt [(zd vs_3 0), (zd vs_3 1), (zd vs_3 2), (zd vs_3 3)])
 ) (
 ret (.brk 0 [(zd vs_3 0), (zd vs_3 1), (zd vs_3 2)])
 )
 ) fun o => nx o zkr
def zkt (vs_8 : List V) : M Out :=
 ret (.ret [(zd vs_8 0), (zd vs_8 1)])
def zku (vs_7 : List V) : M Out :=
 zb (za (z4r (zd vs_7 0) (some (zd vs_7 2)) (some (zd vs_7 1)))) fun x40 =>
 zb (zbz [x40]) fun x41 =>
 zb (za (ext 0 x41)) fun x42 =>
 zb (za (ext 1 x41)) fun x43 =>
 zb (
 zb (za (zw .add (zd vs_7 2) x43)) fun x46 =>
 zb (za (zw .neq x46 (zd vs_7 1))) fun x48 =>
 zn x48 (
 ret (.ret [(Value.int .i32 65533), (Value.int .i64 1)])
 ) (
 ret (.nxt [x42, x43])
 )
 ) fun o => nx o zkt
def zkv (vs_6 : List V) : M Out :=
 zb (
 zb (za (zw .lss (zd vs_6 2) (Value.int .i64 0))) fun x35 =>
 zn x35 (
 ret (.nxt [(zd vs_6 0), (zd vs_6 1), (Value.int .i64 0)])
 ) (
 ret (.nxt [(zd vs_6 0), (zd vs_6 1), (zd vs_6 2)])
 )
 ) fun o => nx o zku
def zkw (vs_2 : List V) : M Out :=
 zb (za (zw .sub (zd vs_2 1) (Value.int .i64 4))) fun x21 =>
 zb (za (maxV x21 (Value.int .i64 0))) fun x22 =>
 zb (
 zb (za (zw .sub (zd vs_2 2) (Value.int .i64 1))) fun x24 =>
 zb (
 zbj zb8 zks [(zd vs_2 0), (zd vs_2 1), x24, x22]
 ) fun o => ret (zz 0 o)
 ) fun o => nx o zkv
def zkx (vs : List V) : M Out :=
 zb (za (zw .sub (zd vs 1) (Value.int .i64 1))) fun x12 =>
 zb (za (zl9 (zd vs 0) x12)) fun x15 =>
 zb (za (cvi .i32 x15)) fun x16 =>
 zb (
 zb (za (zw .lss x16 (Value.int .i32 128))) fun x18 =>
 zn x18 (
 ret (.ret [x16, (Value.int .i64 1)])
 ) (
 ret (.nxt [(zd vs 0), (zd vs 1), x12])
 )
 ) fun o => nx o zkw
def zlp (x0 : V) : M V :=
 zb (
 zb (za (zet x0)) fun x8 =>
 zb (
 zb (za (zw .eql x8 (Value.int .i64 0))) fun x10 =>
 zn x10 (
 ret (.ret [(Value.int .i32 65533), (Value.int .i64 0)])
 ) (
 ret (.nxt [x0, x8])
 )
 ) fun o => nx o zkx
 ) fun o => zbl o fun vs => ret (zbi [(zd vs 0), (zd vs 1)])
def zlq : Hint := (.seq [] .leaf (.seq [] .leaf (.seq [0, 4] (.seq [] .leaf (.cond (.seq [] .leaf .leaf) .leaf)) (.seq [] .leaf (.seq [] .leaf (.seq [0, 4, 5] (.seq [] .leaf (.cond (.seq [] .leaf .leaf) .leaf)) (.seq [] .leaf (.seq [0, 4, 5] (.seq [] .leaf (.blk (.loop [0, 4, 5, 6] (.seq [0, 4, 5, 6] (.seq [] .leaf (.cond .leaf .leaf)) (.seq [0, 4, 5, 6] (.blk (.seq [] .leaf (.cond .leaf .leaf))) .leaf))))) (.seq [0, 4, 5] (.seq [] .leaf (.cond .leaf .leaf)) (.seq [] .leaf (.seq [2, 3] (.seq [] .leaf (.cond (.seq [] .leaf .leaf) .leaf)) (.seq [] .leaf .leaf))))))))))))
def zdl : List V → M V := ap1 zlp
def zlr : zu := ovr [(zkh, zhy), (zds, zbz)] noC
theorem zls : zq Tryz.prog zff (zdl) := kn1 (σ := zlr) (hint := zlq) (by kernel_rfl) (ze zvj (ze zhj zk)) fun _ => (by kernel_rfl)
def zxr (G_strings_IndexRune : List V → M V) (x0 x1 : V) : M V :=
 zb (
 zb (G_strings_IndexRune [x0, x1]) fun x7 =>
 zb (za (zw .geq x7 (Value.int .i64 0))) fun x8 =>
 ret (.ret [x8])
 ) fun o => zbl o fun vs => ret (zbi [(zd vs 0)])
def zxs : Hint := (.seq [] .leaf (.seq [] .leaf .leaf))
def zef (G_strings_IndexRune : List V → M V) : List V → M V := ap2 (zxr G_strings_IndexRune)
theorem zoi {G_strings_IndexRune : List V → M V} (k_strings_IndexRune : zq Tryz.prog zr G_strings_IndexRune) : zq Tryz.prog zhu (zef G_strings_IndexRune) := kn2 (σ := ovr [(zr, G_strings_IndexRune)] noC) (hint := zxs) (by kernel_rfl) (ze k_strings_IndexRune zk) fun _ _ => (by kernel_rfl)
def zr3 (G_strings_IndexRune : List V → M V) (vs_4 : List V) : M Out :=
 zb (za (zet (zd vs_4 0))) fun x29 =>
 zb (za (zw .sub x29 (zd vs_4 2))) fun x31 =>
 zb (za (z4r (zd vs_4 0) none (some x31))) fun x32 =>
 ret (.nxt [x32, (zd vs_4 1)])
def zr4 (G_strings_IndexRune : List V → M V) (vs_3 : List V) : M Out :=
 zb (
 zb ((zef G_strings_IndexRune) [(zd vs_3 1), (zd vs_3 2)]) fun x25 =>
 zb (za (un .not x25)) fun x26 =>
 zn x26 (
 ret (.brk 0 [(zd vs_3 0)])
 ) (
 ret (.nxt [(zd vs_3 0), (zd vs_3 1), (zd vs_3 3)])
 )
 ) fun o => nx o (zr3 G_strings_IndexRune)
def zr5 (G_strings_IndexRune : List V → M V) (vs_2 : List V) : M Out :=
 zb (
 zb (za (zet (zd vs_2 0))) fun x12 =>
 zb (za (zw .sub x12 (Value.int .i64 1))) fun x13 =>
 zb (za (zl9 (zd vs_2 0) x13)) fun x14 =>
 zb (za (cvi .i32 x14)) fun x15 =>
 zb (
 zb (za (zw .geq x15 (Value.int .i32 128))) fun x17 =>
 zn x17 (
 zb (zdl [(zd vs_2 0)]) fun x20 =>
 zb (za (ext 0 x20)) fun x21 =>
 zb (za (ext 1 x20)) fun x22 =>
 ret (.nxt [(zd vs_2 0), (zd vs_2 1), x21, x22])
 ) (
 ret (.nxt [(zd vs_2 0), (zd vs_2 1), x15, (Value.int .i64 1)])
 )
 ) fun o => nx o (zr4 G_strings_IndexRune)
 ) fun o => ret (zz 1 o)
def zr6 (G_strings_IndexRune : List V → M V) (vs : List V) : M Out :=
 zb (
 zb (za (zet (zd vs 0))) fun x8 =>
 zb (za (zw .gtr x8 (Value.int .i64 0))) fun x9 =>
 zn x9 (
 ret (.nxt [(zd vs 0), (zd vs 1)])
 ) (
 ret (.brk 0 [(zd vs 0)])
 )
 ) fun o => nx o (zr5 G_strings_IndexRune)
def zr7 (G_strings_IndexRune : List V → M V) (vs_5 : List V) : M Out :=
 ret (.ret [(zd vs_5 0)])
def zs7 (G_strings_IndexRune : List V → M V) (x0 x1 : V) : M V :=
 zb (
 zb (
 zb (
 zbj zb8 (zr6 G_strings_IndexRune) [x0, x1]
 ) fun o => ret (zz 0 o)
 ) fun o => nx o (zr7 G_strings_IndexRune)
 ) fun o => zbl o fun vs => ret (zbi [(zd vs 0)])
def zs8 : Hint := (.seq [] .leaf (.seq [0] (.blk (.loop [0, 1] (.seq [0, 1] (.seq [] .leaf (.cond .leaf .leaf)) (.blk (.seq [] .leaf (.seq [0, 1, 5, 6] (.seq [] .leaf (.cond .leaf .leaf)) (.seq [0, 1, 6] (.seq [] .leaf (.cond .leaf .leaf)) .leaf))))))) (.seq [] .leaf .leaf)))
def zg5 (G_strings_IndexRune : List V → M V) : List V → M V := ap2 (zs7 G_strings_IndexRune)
theorem zs9 {G_strings_IndexRune : List V → M V} (k_strings_IndexRune : zq Tryz.prog zr G_strings_IndexRune) : zq Tryz.prog zi7 (zg5 G_strings_IndexRune) := kn2 (σ := ovr [(zff, zdl), (zhu, zef G_strings_IndexRune)] noC) (hint := zs8) (by kernel_rfl) (ze zls (ze (zoi k_strings_IndexRune) zk)) fun _ _ => (by kernel_rfl)
def zta (G_strings_IndexRune : List V → M V) (vs_3 : List V) : M Out :=
 zb (za (z4r (zd vs_3 0) (some (zd vs_3 2)) none)) fun x21 =>
 ret (.nxt [x21, (zd vs_3 1)])
def ztb (G_strings_IndexRune : List V → M V) (vs_2 : List V) : M Out :=
 zb (
 zb (zbz [(zd vs_2 0)]) fun x12 =>
 zb (za (ext 0 x12)) fun x13 =>
 zb (za (ext 1 x12)) fun x14 =>
 zb (
 zb ((zef G_strings_IndexRune) [(zd vs_2 1), x13]) fun x17 =>
 zb (za (un .not x17)) fun x18 =>
 zn x18 (
 ret (.brk 0 [(zd vs_2 0)])
 ) (
 ret (.nxt [(zd vs_2 0), (zd vs_2 1), x14])
 )
 ) fun o => nx o (zta G_strings_IndexRune)
 ) fun o => ret (zz 1 o)
def ztc (G_strings_IndexRune : List V → M V) (vs : List V) : M Out :=
 zb (
 zb (za (zet (zd vs 0))) fun x8 =>
 zb (za (zw .gtr x8 (Value.int .i64 0))) fun x9 =>
 zn x9 (
 ret (.nxt [(zd vs 0), (zd vs 1)])
 ) (
 ret (.brk 0 [(zd vs 0)])
 )
 ) fun o => nx o (ztb G_strings_IndexRune)
def ztd (G_strings_IndexRune : List V → M V) (vs_4 : List V) : M Out :=
 ret (.ret [(zd vs_4 0)])
def zue (G_strings_IndexRune : List V → M V) (x0 x1 : V) : M V :=
 zb (
 zb (
 zb (
 zbj zb8 (ztc G_strings_IndexRune) [x0, x1]
 ) fun o => ret (zz 0 o)
 ) fun o => nx o (ztd G_strings_IndexRune)
 ) fun o => zbl o fun vs => ret (zbi [(zd vs 0)])
def zuf : Hint := (.seq [] .leaf (.seq [0] (.blk (.loop [0, 1] (.seq [0, 1] (.seq [] .leaf (.cond .leaf .leaf)) (.blk (.seq [] .leaf (.seq [0, 1, 6] (.seq [] .leaf (.cond .leaf .leaf)) .leaf)))))) (.seq [] .leaf .leaf)))
def zhn (G_strings_IndexRune : List V → M V) : List V → M V := ap2 (zue G_strings_IndexRune)
theorem zug {G_strings_IndexRune : List V → M V} (k_strings_IndexRune : zq Tryz.prog zr G_strings_IndexRune) : zq Tryz.prog zj1 (zhn G_strings_IndexRune) := kn2 (σ := ovr [(zds, zbz), (zhu, zef G_strings_IndexRune)] noC) (hint := zuf) (by kernel_rfl) (ze zhj (ze (zoi k_strings_IndexRune) zk)) fun _ _ => (by kernel_rfl)
def z9c (G_strings_IndexRune : List V → M V) (vs_3 : List V) : M Out :=
 zb ((zg5 G_strings_IndexRune) [(zd vs_3 0), (zd vs_3 1)]) fun x40 =>
 zb ((zhn G_strings_IndexRune) [x40, (zd vs_3 1)]) fun x42 =>
 ret (.ret [x42])
def zyw (G_strings_IndexRune : List V → M V) (vs_2 : List V) : M Out :=
 zb (
 zb (zgh [(zd vs_2 1)]) fun x31 =>
 zb (za (ext 0 x31)) fun x32 =>
 zb (za (ext 1 x31)) fun x33 =>
 zb (newc (List.replicate 256 (Value.bool false))) fun x5 =>
 zb (stn 256 x5 x32) fun _ =>
 zn x33 (
 zb (zfl [(zd vs_2 0), x5]) fun x36 =>
 zb (zfy [x36, x5]) fun x37 =>
 ret (.ret [x37])
 ) (
 ret (.nxt [(zd vs_2 0), (zd vs_2 1)])
 )
 ) fun o => nx o (z9c G_strings_IndexRune)
def zyx (G_strings_IndexRune : List V → M V) (vs : List V) : M Out :=
 zb (
 zb (za (zet (zd vs 1))) fun x15 =>
 zb (za (zw .eql x15 (Value.int .i64 1))) fun x16 =>
 zb (gd x16 true (za (some (zd vs 1)))) fun x18 =>
 zb (gd x16 true (za (zl9 x18 (Value.int .i64 0)))) fun x19 =>
 zb (gd x16 true (za (zw .lss x19 (Value.int .u8 128)))) fun x20 =>
 zb (za (zbe x16 x20 (Value.bool false))) fun x21 =>
 zn x21 (
 zb (za (zl9 (zd vs 1) (Value.int .i64 0))) fun x24 =>
 zb (za (zl9 (zd vs 1) (Value.int .i64 0))) fun x27 =>
 zb (zid [(zd vs 0), x24]) fun x25 =>
 zb (zi0 [x25, x27]) fun x28 =>
 ret (.ret [x28])
 ) (
 ret (.nxt [(zd vs 0), (zd vs 1)])
 )
 ) fun o => nx o (zyw G_strings_IndexRune)
def zoj (G_strings_IndexRune : List V → M V) (x0 x1 : V) : M V :=
 zb (
 zb (
 zb (za (zw .eql x0 (Value.string ⟨#[]⟩))) fun x8 =>
 zb (gd x8 false (za (some x1))) fun x10 =>
 zb (gd x8 false (za (zw .eql x10 (Value.string ⟨#[]⟩)))) fun x11 =>
 zb (za (zbe x8 (Value.bool true) x11)) fun x12 =>
 zn x12 (
 ret (.ret [x0])
 ) (
 ret (.nxt [x0, x1])
 )
 ) fun o => nx o (zyx G_strings_IndexRune)
 ) fun o => zbl o fun vs => ret (zbi [(zd vs 0)])
def zbba : Hint := (.seq [] .leaf (.seq [0, 1] (.seq [] .leaf (.cond (.seq [] .leaf .leaf) .leaf)) (.seq [0, 1] (.seq [] .leaf (.cond (.seq [] (.reg [0, 1, 2, 4, 5, 3, 6, 7] []) .leaf) .leaf)) (.seq [0, 1] (.seq [] .leaf (.seq [] .leaf (.cond (.seq [] .leaf .leaf) .leaf))) (.seq [] .leaf .leaf)))))
def zft (G_strings_IndexRune : List V → M V) : List V → M V := ap2 (zoj G_strings_IndexRune)
theorem zte {G_strings_IndexRune : List V → M V} (k_strings_IndexRune : zq Tryz.prog zr G_strings_IndexRune) : zq Tryz.prog zlk (zft G_strings_IndexRune) := kn2 (σ := ovr [(zl1, zid), (zmq, zi0), (zmr, zgh), (zkf, zfl), (zl2, zfy), (zi7, zg5 G_strings_IndexRune), (zj1, zhn G_strings_IndexRune)] noC) (hint := zbba) (by kernel_rfl) (ze zwo (ze zxo (ze zxq (ze zvg (ze zwu (ze (zs9 k_strings_IndexRune) (ze (zug k_strings_IndexRune) zk))))))) fun _ _ => (by kernel_rfl)
def ztf (G_strings_IndexRune : List V → M V) (G_strconv_Atoi : List V → M V) (vs : List V) : M Out :=
 zb (G_strconv_Atoi [(zd vs 0)]) fun x30 =>
 zb (za (ext 0 x30)) fun x31 =>
 zb (za (ext 1 x30)) fun x32 =>
 zb (za (zgp false (zd2 .i x32))) fun x35 =>
 zb (gd x35 true (za (some x31))) fun x37 =>
 zb (gd x35 true (za (zw .leq x37 (Value.int .i64 1000000000)))) fun x38 =>
 zb (za (zbe x35 x38 (Value.bool false))) fun x39 =>
 ret (.ret [x31, x39])
def zmu (G_strings_IndexRune : List V → M V) (G_strconv_Atoi : List V → M V) (x0 : V) : M V :=
 zb (
 zb (
 zb (za (zw .eql x0 (Value.string ⟨#[]⟩))) fun x7 =>
 zb (gd x7 false (za (some x0))) fun x9 =>
 zb (gd x7 false (za (zet x9))) fun x10 =>
 zb (gd x7 false (za (zw .gtr x10 (Value.int .i64 10)))) fun x11 =>
 zb (za (zbe x7 (Value.bool true) x11)) fun x12 =>
 zb (gd x12 false (za (some x0))) fun x14 =>
 zb (gd x12 false ((zft G_strings_IndexRune) [x14, (Value.string ⟨#[48, 49, 50, 51, 52, 53, 54, 55, 56, 57]⟩)])) fun x15 =>
 zb (gd x12 false (za (zw .neq x15 (Value.string ⟨#[]⟩)))) fun x16 =>
 zb (za (zbe x12 (Value.bool true) x16)) fun x17 =>
 zb (gd x17 false (za (some x0))) fun x19 =>
 zb (gd x17 false (za (zet x19))) fun x20 =>
 zb (gd x17 false (za (zw .gtr x20 (Value.int .i64 1)))) fun x21 =>
 zb (gd x17 false (za (some x21))) fun x22 =>
 zb (gd x22 true (za (some x0))) fun x23 =>
 zb (gd x22 true (za (zl9 x23 (Value.int .i64 0)))) fun x24 =>
 zb (gd x22 true (za (zw .eql x24 (Value.int .u8 48)))) fun x25 =>
 zb (gd x17 false (za (zbe x22 x25 (Value.bool false)))) fun x26 =>
 zb (za (zbe x17 (Value.bool true) x26)) fun x27 =>
 zn x27 (
 ret (.ret [(Value.int .i64 0), (Value.bool false)])
 ) (
 ret (.nxt [x0])
 )
 ) fun o => nx o (ztf G_strings_IndexRune G_strconv_Atoi)
 ) fun o => zbl o fun vs => ret (zbi [(zd vs 0), (zd vs 1)])
def zbc5 : Hint := (.seq [] .leaf (.seq [0] (.seq [] .leaf (.cond (.seq [] .leaf .leaf) .leaf)) (.seq [] .leaf (.seq [] .leaf .leaf))))
def zgq (G_strings_IndexRune : List V → M V) (G_strconv_Atoi : List V → M V) : List V → M V := ap1 (zmu G_strings_IndexRune G_strconv_Atoi)
theorem zvk {G_strings_IndexRune : List V → M V} {G_strconv_Atoi : List V → M V} (k_strings_IndexRune : zq Tryz.prog zr G_strings_IndexRune) (k_strconv_Atoi : zq Tryz.prog zbf G_strconv_Atoi) : zq Tryz.prog zm4 (zgq G_strings_IndexRune G_strconv_Atoi) := kn1 (σ := ovr [(zlk, zft G_strings_IndexRune), (zbf, G_strconv_Atoi)] noC) (hint := zbc5) (by kernel_rfl) (ze (zte k_strings_IndexRune) (ze k_strconv_Atoi zk)) fun _ => (by kernel_rfl)
def zyy (G_strings_IndexRune : List V → M V) (G_strconv_Atoi : List V → M V) (vs_3 : List V) : M Out :=
 zb (zdv 1 1 (rep 1 [Value.int .i64 0]) [(0, 1, (zd vs_3 2))]) fun x26 =>
 zb (zgf 1 8 (zd vs_3 1) x26) fun x27 =>
 ret (.nxt [(zd vs_3 0), x27, (zd vs_3 3), (zd vs_3 4), (zd vs_3 5)])
def zyz (G_strings_IndexRune : List V → M V) (G_strconv_Atoi : List V → M V) (vs_4 : List V) : M Out :=
 zb (za (zw .add (zd vs_4 4) (Value.int .i64 1))) fun x28 =>
 ret (.nxt [(zd vs_4 0), (zd vs_4 1), (zd vs_4 2), (zd vs_4 3), x28])
def zy0 (G_strings_IndexRune : List V → M V) (G_strconv_Atoi : List V → M V) (vs_2 : List V) : M Out :=
 zb (
 zb (
 zb (za (zy 1 (zd vs_2 2) (zd vs_2 4))) fun x15 =>
 zb (ld1 x15) fun x16 =>
 zb ((zgq G_strings_IndexRune G_strconv_Atoi) [x16]) fun x19 =>
 zb (za (ext 0 x19)) fun x20 =>
 zb (za (ext 1 x19)) fun x21 =>
 zb (
 zb (za (un .not x21)) fun x23 =>
 zn x23 (
 ret (.ret [(Value.slice none 0 0), (Value.bool false)])
 ) (
 ret (.nxt [(zd vs_2 0), (zd vs_2 1), x20, (zd vs_2 2), (zd vs_2 3), (zd vs_2 4)])
 )
 ) fun o => nx o (zyy G_strings_IndexRune G_strconv_Atoi)
 ) fun o => ret (zz 1 o)
 ) fun o => nx o (zyz G_strings_IndexRune G_strconv_Atoi)
def zm5 (G_strings_IndexRune : List V → M V) (G_strconv_Atoi : List V → M V) (vs : List V) : M Out :=
 zb (za (zw .lss (zd vs 4) (zd vs 3))) fun x14 =>
 zb (
 zn x14 (
 ret (.nxt [(zd vs 0), (zd vs 1), (zd vs 2), (zd vs 3), (zd vs 4)])
 ) (
 ret (.brk 0 [(zd vs 0), (zd vs 1)])
 )
 ) fun o => nx o (zy0 G_strings_IndexRune G_strconv_Atoi)
def zq8 (G_strings_IndexRune : List V → M V) (G_strconv_Atoi : List V → M V) (vs_5 : List V) : M Out :=
 zb (za (zx (zd vs_5 1))) fun x31 =>
 zb (za (zw .eql x31 (zd vs_5 0))) fun x33 =>
 ret (.ret [(zd vs_5 1), x33])
def ztg (G_strings_IndexRune : List V → M V) (G_strconv_Atoi : List V → M V) (x0 x1 : V) : M V :=
 zb (
 zb (
 zb (za (zx x0)) fun x12 =>
 zb (
 zbj zb8 (zm5 G_strings_IndexRune G_strconv_Atoi) [x1, (Value.slice none 0 0), x0, x12, (Value.int .i64 0)]
 ) fun o => ret (zz 0 o)
 ) fun o => nx o (zq8 G_strings_IndexRune G_strconv_Atoi)
 ) fun o => zbl o fun vs => ret (zbi [(zd vs 0), (zd vs 1)])
def zbbb : Hint := (.seq [] .leaf (.seq [] .leaf (.seq [1, 6] (.seq [] .leaf (.blk (.loop [1, 6, 11, 12, 13] (.seq [] .leaf (.seq [1, 6, 11, 12, 13] (.cond .leaf .leaf) (.seq [1, 6, 11, 12, 13] (.blk (.seq [] .leaf (.seq [] .leaf (.seq [1, 6, 9, 11, 12, 13] (.seq [] .leaf (.cond (.seq [] .leaf .leaf) .leaf)) .leaf)))) .leaf)))))) (.seq [] .leaf .leaf))))
def zcr (G_strings_IndexRune : List V → M V) (G_strconv_Atoi : List V → M V) : List V → M V := ap2 (ztg G_strings_IndexRune G_strconv_Atoi)
theorem zky {G_strings_IndexRune : List V → M V} {G_strconv_Atoi : List V → M V} (k_strings_IndexRune : zq Tryz.prog zr G_strings_IndexRune) (k_strconv_Atoi : zq Tryz.prog zbf G_strconv_Atoi) : zq Tryz.prog zgw (zcr G_strings_IndexRune G_strconv_Atoi) := kn2 (σ := ovr [(zm4, zgq G_strings_IndexRune G_strconv_Atoi)] noC) (hint := zbbb) (by kernel_rfl) (ze (zvk k_strings_IndexRune k_strconv_Atoi) zk) fun _ _ => (by kernel_rfl)
def zjq (G_strings_IndexRune : List V → M V) (G_strconv_Atoi : List V → M V) (vs_2 : List V) : M Out :=
 zmo fun h0 =>
 zb (za (zcc (zd vs_2 0))) fun x50 =>
 zb (za (zh 9 x50)) fun x51 =>
 zb (za (zy 1 (zd vs_2 1) (Value.int .i64 0))) fun x54 =>
 zb (ld1 x51) fun x52 =>
 zb (ld1 x54) fun x55 =>
 zdg (zdv 1 1 (rep 1 [Value.string ⟨#[]⟩]) [(0, 1, x55)]) fun ha x56 h1 =>
 zdg (zgf 1 16 x52 x56) fun ha_2 x57 h2 =>
 zb (za (zcc (zd vs_2 0))) fun x58 =>
 zb (za (zh 9 x58)) fun x59 =>
 zdg (st1 x59 x57) fun ha_3 u h3 =>
 zj5 (chk (ld1 x51) h1 x52) <|
 ret (.ret [(Value.bool true)])
def zhc (G_strings_IndexRune : List V → M V) (G_strconv_Atoi : List V → M V) (vs : List V) : M Out :=
 zb (
 zb (za (zy 1 (zd vs 1) (Value.int .i64 0))) fun x16 =>
 zb (ld1 x16) fun x17 =>
 zb (
 zb (za (zw .eql x17 (Value.string ⟨#[109, 105, 108, 108, 105, 115]⟩))) fun x19 =>
 zn x19 (
 zb (za (zy 1 (zd vs 2) (Value.int .i64 0))) fun x22 =>
 zb (ld1 x22) fun x23 =>
 zb (za (zcc (zd vs 0))) fun x24 =>
 zb (za (zh 0 x24)) fun x25 =>
 zb (za (zh 0 x25)) fun x26 =>
 zb (za (zh 6 x26)) fun x27 =>
 zb (st1 x27 x23) fun _ =>
 ret (.nxt [(zd vs 0), (zd vs 1)])
 ) (
 zb (za (zw .eql x17 (Value.string ⟨#[102, 114, 97, 109, 101]⟩))) fun x29 =>
 zn x29 (
 zb (za (zy 1 (zd vs 2) (Value.int .i64 0))) fun x32 =>
 zb (ld1 x32) fun x33 =>
 zb (za (zcc (zd vs 0))) fun x34 =>
 zb (za (zh 0 x34)) fun x35 =>
 zb (za (zh 0 x35)) fun x36 =>
 zb (za (zh 3 x36)) fun x37 =>
 zb (za (zh 0 x37)) fun x38 =>
 zb (st1 x38 x33) fun _ =>
 ret (.nxt [(zd vs 0), (zd vs 1)])
 ) (
 zb (za (zw .eql x17 (Value.string ⟨#[105, 100, 108, 101]⟩))) fun x40 =>
 zn x40 (
 zb (za (zy 1 (zd vs 2) (Value.int .i64 0))) fun x43 =>
 zb (ld1 x43) fun x44 =>
 zb (za (zcc (zd vs 0))) fun x45 =>
 zb (za (zh 0 x45)) fun x46 =>
 zb (za (zh 8 x46)) fun x47 =>
 zb (st1 x47 x44) fun _ =>
 ret (.nxt [(zd vs 0), (zd vs 1)])
 ) (
 ret (.nxt [(zd vs 0), (zd vs 1)])
 )
 )
 )
 ) fun o => ret (zz 0 o)
 ) fun o => nx o (zjq G_strings_IndexRune G_strconv_Atoi)
def zkz (G_strings_IndexRune : List V → M V) (G_strconv_Atoi : List V → M V) (x0 x1 : V) : M V :=
 zb (
 zb (za (zhk 1 x1 (some (Value.int .i64 1)) none)) fun x9 =>
 zb ((zcr G_strings_IndexRune G_strconv_Atoi) [x9, (Value.int .i64 1)]) fun x10 =>
 zb (za (ext 0 x10)) fun x11 =>
 zb (za (ext 1 x10)) fun x12 =>
 zb (
 zb (za (un .not x12)) fun x14 =>
 zn x14 (
 ret (.ret [(Value.bool false)])
 ) (
 ret (.nxt [x0, x1, x11])
 )
 ) fun o => nx o (zhc G_strings_IndexRune G_strconv_Atoi)
 ) fun o => zbl o fun vs => ret (zbi [(zd vs 0)])
def zz2 : Hint := (.seq [] .leaf (.seq [] .leaf (.seq [0, 1, 5] (.seq [] .leaf (.cond (.seq [] .leaf .leaf) .leaf)) (.seq [0, 1] (.seq [] .leaf (.blk (.seq [] .leaf (.cond .leaf (.seq [] .leaf (.cond .leaf (.seq [] .leaf (.cond .leaf .leaf)))))))) (.seq [] (.reg [0, 1, 2, 3, 5, 6, 4, 7, 8, 9, 10, 11, 12] []) (.seq [] .leaf .leaf))))))
def zd5 (G_strings_IndexRune : List V → M V) (G_strconv_Atoi : List V → M V) : List V → M V := ap2 (zkz G_strings_IndexRune G_strconv_Atoi)
theorem zz3 {G_strings_IndexRune : List V → M V} {G_strconv_Atoi : List V → M V} (k_strings_IndexRune : zq Tryz.prog zr G_strings_IndexRune) (k_strconv_Atoi : zq Tryz.prog zbf G_strconv_Atoi) : zq Tryz.prog zbk (zd5 G_strings_IndexRune G_strconv_Atoi) := kn2 (σ := ovr [(zgw, zcr G_strings_IndexRune G_strconv_Atoi)] noC) (hint := zz2) (by kernel_rfl) (ze (zky k_strings_IndexRune k_strconv_Atoi) zk) fun _ _ => (by kernel_rfl)
def zh3 (vs_3 : List V) : M Out :=
 zb (za (zw .add (zd vs_3 3) (Value.int .i64 1))) fun x18 =>
 ret (.nxt [(zd vs_3 0), (zd vs_3 1), (zd vs_3 2), x18])
def zeu (vs_2 : List V) : M Out :=
 zb (
 zb (
 zb (za (zy 1 (zd vs_2 0) (zd vs_2 3))) fun x14 =>
 zb (ld1 x14) fun x15 =>
 zb (za (zw .eql (zd vs_2 1) x15)) fun x16 =>
 zn x16 (
 ret (.ret [(zd vs_2 3)])
 ) (
 ret (.nxt [(zd vs_2 0), (zd vs_2 1), (zd vs_2 2), (zd vs_2 3)])
 )
 ) fun o => ret (zz 1 o)
 ) fun o => nx o zh3
def zc6 (vs : List V) : M Out :=
 zb (za (zw .lss (zd vs 3) (zd vs 2))) fun x9 =>
 zb (
 zn x9 (
 ret (.nxt [(zd vs 0), (zd vs 1), (zd vs 2), (zd vs 3)])
 ) (
 ret (.brk 0 [])
 )
 ) fun o => nx o zeu
def zh4 (vs_4 : List V) : M Out :=
 ret (.ret [(Value.int .i64 (-1))])
def ze4 (x0 x1 : V) : M V :=
 zb (
 zb (
 zb (za (zx x0)) fun x7 =>
 zb (
 zbj zb8 zc6 [x0, x1, x7, (Value.int .i64 0)]
 ) fun o => ret (zz 0 o)
 ) fun o => nx o zh4
 ) fun o => zbl o fun vs => ret (zbi [(zd vs 0)])
def zp2 : Hint := (.seq [] .leaf (.seq [] (.seq [] .leaf (.blk (.loop [0, 1, 7, 8] (.seq [] .leaf (.seq [0, 1, 7, 8] (.cond .leaf .leaf) (.seq [0, 1, 7, 8] (.blk (.seq [] .leaf (.seq [] .leaf (.cond (.seq [] .leaf .leaf) .leaf)))) .leaf)))))) (.seq [] .leaf .leaf)))
def z7 : List V → M V := ap2 ze4
theorem zdm : zq Tryz.prog zb6 (z7) := kn2 (σ := ovr [] noC) (hint := zp2) (by kernel_rfl) zk fun _ _ => (by kernel_rfl)
def zz4 (x0 : V) : M V :=
 zb (
 zb (za (subA 4 1 (ptr gid_conf_types 0) (some (Value.int .i64 1)) none)) fun x5 =>
 zb (z7 [x5, x0]) fun x7 =>
 zb (za (zw .add x7 (Value.int .i64 1))) fun x8 =>
 zb (za (zw .gtr x8 (Value.int .i64 0))) fun x11 =>
 ret (.ret [x8, x11])
 ) fun o => zbl o fun vs => ret (zbi [(zd vs 0), (zd vs 1)])
def zbhu : Hint := (.seq [] .leaf (.seq [] .leaf (.seq [] .leaf .leaf)))
def znz : List V → M V := ap1 zz4
def zbhv : zu := ovr [(zb6, z7)] noC
theorem z8m : zq Tryz.prog zva (znz) := kn1 (σ := zbhv) (hint := zbhu) (by kernel_rfl) (ze zdm zk) fun _ => (by kernel_rfl)
def zqy (vs : List V) : M Out :=
 zb (za (zy 1 (zd vs 1) (Value.int .i64 1))) fun x12 =>
 zb (ld1 x12) fun x13 =>
 zb (znz [x13]) fun x14 =>
 zb (za (ext 0 x14)) fun x15 =>
 zb (za (ext 1 x14)) fun x16 =>
 zmo fun h0 =>
 zb (za (zcc (zd vs 0))) fun x19 =>
 zb (za (zh 0 x19)) fun x20 =>
 zb (za (zh 0 x20)) fun x21 =>
 zb (za (zh 0 x21)) fun x22 =>
 zb (za (zy 1 (zd vs 1) (Value.int .i64 0))) fun x26 =>
 zb (ld1 x22) fun x23 =>
 zb (ld1 x26) fun x27 =>
 zb (za (zw .eql x27 (Value.string ⟨#[111, 117, 116]⟩))) fun x28 =>
 zb (za (build [Value.int .i64 0, Value.bool false] [(0, 1, x15), (1, 1, x28)])) fun x29 =>
 zdg (zdv 2 1 (rep 1 [Value.int .i64 0, Value.bool false]) [(0, 2, x29)]) fun ha x30 h1 =>
 zdg (zgf 2 16 x23 x30) fun ha_2 x31 h2 =>
 zb (za (zcc (zd vs 0))) fun x32 =>
 zb (za (zh 0 x32)) fun x33 =>
 zb (za (zh 0 x33)) fun x34 =>
 zb (za (zh 0 x34)) fun x35 =>
 zdg (st1 x35 x31) fun ha_3 u h3 =>
 zj5 (chk (ld1 x22) h1 x23) <|
 ret (.ret [x16])
def zh6 (x0 x1 : V) : M V :=
 zb (
 zb (
 zb (za (zx x1)) fun x8 =>
 zb (za (zw .neq x8 (Value.int .i64 2))) fun x9 =>
 zn x9 (
 ret (.ret [(Value.bool false)])
 ) (
 ret (.nxt [x0, x1])
 )
 ) fun o => nx o zqy
 ) fun o => zbl o fun vs => ret (zbi [(zd vs 0)])
def z10 : Hint := (.seq [] .leaf (.seq [0, 1] (.seq [] .leaf (.cond (.seq [] .leaf .leaf) .leaf)) (.seq [] .leaf (.seq [] (.reg [0, 1, 2, 3, 4, 5, 7, 8, 9, 6, 10, 11, 12, 13, 14, 15, 16, 17, 18, 19] []) (.seq [] .leaf .leaf)))))
def zek : List V → M V := ap2 zh6
def z11 : zu := ovr [(zva, znz)] noC
theorem z12 : zq Tryz.prog zbv (zek) := kn2 (σ := z11) (hint := z10) (by kernel_rfl) (ze z8m zk) fun _ _ => (by kernel_rfl)
def zk0 (G_strings_IndexRune : List V → M V) (G_strconv_Atoi : List V → M V) (vs : List V) : M Out :=
 ret (.ret [(zd vs 0)])
def zmc (G_strings_IndexRune : List V → M V) (G_strconv_Atoi : List V → M V) (x0 x1 : V) : M V :=
 zb (
 zb (za (zhk 1 x1 (some (Value.int .i64 1)) none)) fun x9 =>
 zb ((zcr G_strings_IndexRune G_strconv_Atoi) [x9, (Value.int .i64 2)]) fun x10 =>
 zb (za (ext 0 x10)) fun x11 =>
 zb (za (ext 1 x10)) fun x12 =>
 zb (
 zn x12 (
 zmo fun h0 =>
 zb (za (zcc x0)) fun x16 =>
 zb (za (zh 0 x16)) fun x17 =>
 zb (za (zh 0 x17)) fun x18 =>
 zb (za (zh 1 x18)) fun x19 =>
 zb (za (zy 1 x11 (Value.int .i64 0))) fun x22 =>
 zb (za (zy 1 x11 (Value.int .i64 1))) fun x25 =>
 zb (za (zy 1 x1 (Value.int .i64 0))) fun x28 =>
 zb (ld1 x19) fun x20 =>
 zb (ld1 x22) fun x23 =>
 zb (ld1 x25) fun x26 =>
 zb (ld1 x28) fun x29 =>
 zb (za (zw .eql x29 (Value.string ⟨#[119, 114, 105, 116, 101]⟩))) fun x30 =>
 zb (za (build [Value.int .i64 0, Value.int .i64 0, Value.bool false] [(0, 1, x23), (1, 1, x26), (2, 1, x30)])) fun x31 =>
 zdg (zdv 3 1 (rep 1 [Value.int .i64 0, Value.int .i64 0, Value.bool false]) [(0, 3, x31)]) fun ha x32 h1 =>
 zdg (zgf 3 24 x20 x32) fun ha_2 x33 h2 =>
 zb (za (zcc x0)) fun x34 =>
 zb (za (zh 0 x34)) fun x35 =>
 zb (za (zh 0 x35)) fun x36 =>
 zb (za (zh 1 x36)) fun x37 =>
 zdg (st1 x37 x33) fun ha_3 u h3 =>
 zj5 (chk (ld1 x19) h1 x20) <|
 ret (.nxt [x12])
 ) (
 ret (.nxt [x12])
 )
 ) fun o => nx o (zk0 G_strings_IndexRune G_strconv_Atoi)
 ) fun o => zbl o fun vs => ret (zbi [(zd vs 0)])
def z13 : Hint := (.seq [] .leaf (.seq [] .leaf (.seq [6] (.seq [] .leaf (.cond (.reg [0, 1, 2, 3, 4, 5, 7, 8, 10, 11, 13, 14, 6, 9, 12, 15, 16, 17, 18, 19, 20, 21, 22, 23, 24] []) .leaf)) (.seq [] .leaf .leaf))))
def zel (G_strings_IndexRune : List V → M V) (G_strconv_Atoi : List V → M V) : List V → M V := ap2 (zmc G_strings_IndexRune G_strconv_Atoi)
theorem z14 {G_strings_IndexRune : List V → M V} {G_strconv_Atoi : List V → M V} (k_strings_IndexRune : zq Tryz.prog zr G_strings_IndexRune) (k_strconv_Atoi : zq Tryz.prog zbf G_strconv_Atoi) : zq Tryz.prog zbw (zel G_strings_IndexRune G_strconv_Atoi) := kn2 (σ := ovr [(zgw, zcr G_strings_IndexRune G_strconv_Atoi)] noC) (hint := z13) (by kernel_rfl) (ze (zky k_strings_IndexRune k_strconv_Atoi) zk) fun _ _ => (by kernel_rfl)
def zp3 (vs_2 : List V) : M Out :=
 ret (.ret [(zd vs_2 0)])
def zp4 (vs : List V) : M Out :=
 zb (
 zb (za (capV (zd vs 0))) fun x10 =>
 zb (za (zx (zd vs 0))) fun x12 =>
 zb (za (zw .sub x10 x12)) fun x13 =>
 zb (za (zw .sub (zd vs 1) x13)) fun x14 =>
 zb (za (zw .gtr x14 (Value.int .i64 0))) fun x16 =>
 zn x16 (
 zb (za (capV (zd vs 0))) fun x19 =>
 zb (za (zhk 1 (zd vs 0) none (some x19))) fun x20 =>
 zb (appZ 1 16 [Value.string ⟨#[]⟩] x20 x14) fun x22 =>
 zb (za (zx (zd vs 0))) fun x24 =>
 zb (za (zhk 1 x22 none (some x24))) fun x25 =>
 ret (.nxt [x25])
 ) (
 ret (.nxt [(zd vs 0)])
 )
 ) fun o => nx o zp3
def zqz (x0 x1 : V) : M V :=
 zb (
 zb (
 zb (za (zw .lss x1 (Value.int .i64 0))) fun x6 =>
 zn x6 (
 zb (za (some (Value.iface zcn (Value.string ⟨#[99, 97, 110, 110, 111, 116, 32, 98, 101, 32, 110, 101, 103, 97, 116, 105, 118, 101]⟩)))) fun x7 =>
 zb (za ((none : Option V))) fun _ =>
 ret (.nxt [x0, x1])
 ) (
 ret (.nxt [x0, x1])
 )
 ) fun o => nx o zp4
 ) fun o => zbl o fun vs => ret (zbi [(zd vs 0)])
def zq0 : Hint := (.seq [] .leaf (.seq [0, 1] (.seq [] .leaf (.cond .leaf .leaf)) (.seq [0] (.seq [] .leaf (.seq [] .leaf (.cond .leaf .leaf))) (.seq [] .leaf .leaf))))
def zfu : List V → M V := ap2 zqz
theorem zq1 : zq Tryz.prog zh2 (zfu) := kn2 (σ := ovr [] noC) (hint := zq0) (by kernel_rfl) zk fun _ _ => (by kernel_rfl)
def zok (vs_3 : List V) : M Out :=
 zb (za (zw .add (zd vs_3 4) (Value.int .i64 1))) fun x22 =>
 ret (.nxt [(zd vs_3 0), (zd vs_3 1), (zd vs_3 2), (zd vs_3 3), x22])
def zol (vs_2 : List V) : M Out :=
 zb (
 zb (
 zb (za (zy 1 (zd vs_2 2) (zd vs_2 4))) fun x13 =>
 zb (ld1 x13) fun x14 =>
 zb (za (zx x14)) fun x17 =>
 zb (za (zw .add (zd vs_2 1) x17)) fun x18 =>
 zb (za (zw .lss x18 (Value.int .i64 0))) fun x20 =>
 zn x20 (
 zb (za (some (Value.iface zcn (Value.string ⟨#[108, 101, 110, 32, 111, 117, 116, 32, 111, 102, 32, 114, 97, 110, 103, 101]⟩)))) fun x21 =>
 zb (za ((none : Option V))) fun _ =>
 ret (.nxt [(zd vs_2 0), x18, (zd vs_2 2), (zd vs_2 3), (zd vs_2 4)])
 ) (
 ret (.nxt [(zd vs_2 0), x18, (zd vs_2 2), (zd vs_2 3), (zd vs_2 4)])
 )
 ) fun o => ret (zz 1 o)
 ) fun o => nx o zok
def zom (vs : List V) : M Out :=
 zb (za (zw .lss (zd vs 4) (zd vs 3))) fun x12 =>
 zb (
 zn x12 (
 ret (.nxt [(zd vs 0), (zd vs 1), (zd vs 2), (zd vs 3), (zd vs 4)])
 ) (
 ret (.brk 0 [(zd vs 0), (zd vs 1)])
 )
 ) fun o => nx o zol
def zon (vs_7 : List V) : M Out :=
 zb (za (zw .add (zd vs_7 3) (Value.int .i64 1))) fun x34 =>
 ret (.nxt [(zd vs_7 0), (zd vs_7 1), (zd vs_7 2), x34])
def zoo (vs_6 : List V) : M Out :=
 zb (
 zb (
 zb (za (zy 1 (zd vs_6 1) (zd vs_6 3))) fun x29 =>
 zb (ld1 x29) fun x30 =>
 zb (zgf 1 16 (zd vs_6 0) x30) fun x33 =>
 ret (.nxt [x33, (zd vs_6 1), (zd vs_6 2), (zd vs_6 3)])
 ) fun o => ret (zz 3 o)
 ) fun o => nx o zon
def zop (vs_5 : List V) : M Out :=
 zb (za (zw .lss (zd vs_5 3) (zd vs_5 2))) fun x28 =>
 zb (
 zn x28 (
 ret (.nxt [(zd vs_5 0), (zd vs_5 1), (zd vs_5 2), (zd vs_5 3)])
 ) (
 ret (.brk 2 [(zd vs_5 0)])
 )
 ) fun o => nx o zoo
def zoq (vs_8 : List V) : M Out :=
 ret (.ret [(zd vs_8 0)])
def zor (vs_4 : List V) : M Out :=
 zb (zfu [(Value.slice none 0 0), (zd vs_4 1)]) fun x24 =>
 zb (
 zb (za (zx (zd vs_4 0))) fun x26 =>
 zb (
 zbj zb8 zop [x24, (zd vs_4 0), x26, (Value.int .i64 0)]
 ) fun o => ret (zz 2 o)
 ) fun o => nx o zoq
def zpm (x0 : V) : M V :=
 zb (
 zb (
 zb (za (zx x0)) fun x10 =>
 zb (
 zbj zb8 zom [x0, (Value.int .i64 0), x0, x10, (Value.int .i64 0)]
 ) fun o => ret (zz 0 o)
 ) fun o => nx o zor
 ) fun o => zbl o fun vs => ret (zbi [(zd vs 0)])
def zpn : Hint := (.seq [] .leaf (.seq [] .leaf (.seq [0, 3] (.seq [] .leaf (.blk (.loop [0, 3, 9, 10, 11] (.seq [] .leaf (.seq [0, 3, 9, 10, 11] (.cond .leaf .leaf) (.seq [0, 3, 9, 10, 11] (.blk (.seq [] .leaf (.seq [] .leaf (.seq [] .leaf (.cond .leaf .leaf))))) .leaf)))))) (.seq [] .leaf (.seq [6] (.seq [] .leaf (.blk (.loop [6, 25, 26, 27] (.seq [] .leaf (.seq [6, 25, 26, 27] (.cond .leaf .leaf) (.seq [6, 25, 26, 27] (.blk (.seq [] .leaf .leaf)) .leaf)))))) (.seq [] .leaf .leaf))))))
def zc7 : List V → M V := ap1 zpm
def zpo : zu := ovr [(zh2, zfu)] noC
theorem zpp : zq Tryz.prog zhh (zc7) := kn1 (σ := zpo) (hint := zpn) (by kernel_rfl) (ze zq1 zk) fun _ => (by kernel_rfl)
def zmd (G_strings_IndexRune : List V → M V) (G_strconv_Atoi : List V → M V) (vs_4 : List V) : M Out :=
 zmo fun h0_2 =>
 zb (za (zcc (zd vs_4 0))) fun x65 =>
 zb (za (zh 0 x65)) fun x66 =>
 zb (za (zh 0 x66)) fun x67 =>
 zb (za (zh 2 x67)) fun x68 =>
 zb (ld1 x68) fun x69 =>
 zb (ldn 5 (zd vs_4 1)) fun x70 =>
 zdg (zdv 5 1 (rep 1 [Value.int .i64 0, Value.int .i64 0, Value.int .i64 0, Value.int .i64 0, Value.int .i64 0]) [(0, 5, x70)]) fun ha_4 x71 h1_2 =>
 zdg (zgf 5 40 x69 x71) fun ha_5 x72 h2_2 =>
 zb (za (zcc (zd vs_4 0))) fun x73 =>
 zb (za (zh 0 x73)) fun x74 =>
 zb (za (zh 0 x74)) fun x75 =>
 zb (za (zh 2 x75)) fun x76 =>
 zdg (st1 x76 x72) fun ha_6 u_4 h3_2 =>
 zj5 (chk (ld1 x68) h1_2 x69) <|
 ret (.ret [(Value.bool true)])
def zrl (G_strings_IndexRune : List V → M V) (G_strconv_Atoi : List V → M V) (vs_3 : List V) : M Out :=
 zmo fun h0 =>
 zb (za (zy 1 (zd vs_3 3) (Value.int .i64 0))) fun x47 =>
 zb (za (zy 1 (zd vs_3 3) (Value.int .i64 1))) fun x50 =>
 zb (ld1 x47) fun x48 =>
 zb (za (zh 1 (zd vs_3 1))) fun x53 =>
 zb (ld1 x50) fun x51 =>
 zdg (st1 x53 x48) fun ha u h1 =>
 zb (za (zh 2 (zd vs_3 1))) fun x54 =>
 zdg (st1 x54 x51) fun ha_2 u_2 h2 =>
 zb (za (zh 3 (zd vs_3 1))) fun x55 =>
 zdg (st1 x55 (zd vs_3 2)) fun ha_3 u_3 h3 =>
 zj5 (chk (ld1 x50) h1 x51) <|
 zb (
 zb (za (zx (zd vs_3 3))) fun x57 =>
 zb (za (zw .eql x57 (Value.int .i64 3))) fun x58 =>
 zn x58 (
 zb (za (zy 1 (zd vs_3 3) (Value.int .i64 2))) fun x60 =>
 zb (ld1 x60) fun x61 =>
 zb (za (zh 4 (zd vs_3 1))) fun x62 =>
 zb (st1 x62 x61) fun _ =>
 ret (.nxt [(zd vs_3 0), (zd vs_3 1)])
 ) (
 ret (.nxt [(zd vs_3 0), (zd vs_3 1)])
 )
 ) fun o => nx o (zmd G_strings_IndexRune G_strconv_Atoi)
def zrm (G_strings_IndexRune : List V → M V) (G_strconv_Atoi : List V → M V) (vs_2 : List V) : M Out :=
 zb (za (zy 1 (zd vs_2 1) (Value.int .i64 3))) fun x23 =>
 zb (ld1 x23) fun x24 =>
 zb (znz [x24]) fun x25 =>
 zb (za (ext 0 x25)) fun x26 =>
 zb (za (ext 1 x25)) fun x27 =>
 zb (za (zhk 1 (zd vs_2 1) (some (Value.int .i64 1)) (some (Value.int .i64 3)))) fun x30 =>
 zb (za (zhk 1 (zd vs_2 1) (some (Value.int .i64 4)) none)) fun x32 =>
 zb (za (zw .sub (zd vs_2 3) (Value.int .i64 2))) fun x36 =>
 zb (zdv 1 2 (rep 2 [Value.slice none 0 0]) [(0, 1, x30), (1, 1, x32)]) fun x33 =>
 zb (zc7 [x33]) fun x34 =>
 zb ((zcr G_strings_IndexRune G_strconv_Atoi) [x34, x36]) fun x37 =>
 zb (za (ext 0 x37)) fun x38 =>
 zb (za (ext 1 x37)) fun x39 =>
 zb (
 zb (za (un .not x39)) fun x41 =>
 zb (gd x41 false (za (some x27))) fun x43 =>
 zb (gd x41 false (za (un .not x43))) fun x44 =>
 zb (za (zbe x41 (Value.bool true) x44)) fun x45 =>
 zn x45 (
 ret (.ret [(Value.bool false)])
 ) (
 ret (.nxt [(zd vs_2 0), (zd vs_2 2), x26, x38])
 )
 ) fun o => nx o (zrl G_strings_IndexRune G_strconv_Atoi)
def zh7 (G_strings_IndexRune : List V → M V) (G_strconv_Atoi : List V → M V) (vs : List V) : M Out :=
 zb (
 zb (za (zx (zd vs 1))) fun x18 =>
 zb (za (zw .neq x18 (zd vs 3))) fun x20 =>
 zn x20 (
 ret (.ret [(Value.bool false)])
 ) (
 ret (.nxt [(zd vs 0), (zd vs 1), (zd vs 2), (zd vs 3)])
 )
 ) fun o => nx o (zrm G_strings_IndexRune G_strconv_Atoi)
def zi2 (G_strings_IndexRune : List V → M V) (G_strconv_Atoi : List V → M V) (x0 x1 : V) : M V :=
 zb (
 zb (za (build [Value.int .i64 0, Value.int .i64 0, Value.int .i64 0, Value.int .i64 0, Value.int .i64 0] [(0, 1, (Value.int .i64 1))])) fun x11 =>
 zb (newc [Value.int .i64 0, Value.int .i64 0, Value.int .i64 0, Value.int .i64 0, Value.int .i64 0]) fun x5 =>
 zb (stn 5 x5 x11) fun _ =>
 zb (
 zb (za (zy 1 x1 (Value.int .i64 0))) fun x13 =>
 zb (ld1 x13) fun x14 =>
 zb (za (zw .eql x14 (Value.string ⟨#[113, 117, 101, 117, 101]⟩))) fun x15 =>
 zn x15 (
 zb (za (zh 0 x5)) fun x16 =>
 zb (st1 x16 (Value.int .i64 2)) fun _ =>
 ret (.nxt [x0, x1, x5, (Value.int .i64 5)])
 ) (
 ret (.nxt [x0, x1, x5, (Value.int .i64 4)])
 )
 ) fun o => nx o (zh7 G_strings_IndexRune G_strconv_Atoi)
 ) fun o => zbl o fun vs => ret (zbi [(zd vs 0)])
def z3s : Hint := (.seq [] .leaf (.seq [] .leaf (.seq [] .leaf (.seq [0, 1, 5, 6] (.seq [] .leaf (.cond .leaf .leaf)) (.seq [0, 1, 5, 6] (.seq [] .leaf (.cond (.seq [] .leaf .leaf) .leaf)) (.seq [] .leaf (.seq [] (.reg [0, 1, 2, 3, 6, 7, 4, 5, 8, 9, 10, 11, 12, 13] []) (.seq [0, 5, 7, 9] (.seq [] .leaf (.cond (.seq [] .leaf .leaf) .leaf)) (.seq [] (.reg [0, 1, 3, 4, 6, 2, 7, 5, 8, 9, 10, 11, 12] []) (.seq [0, 5] (.seq [] .leaf (.cond .leaf .leaf)) (.seq [] (.reg [0, 1, 2, 3, 4, 5, 6, 7, 8, 9, 10, 11, 12, 13, 14] []) (.seq [] .leaf .leaf))))))))))))
def ze5 (G_strings_IndexRune : List V → M V) (G_strconv_Atoi : List V → M V) : List V → M V := ap2 (zi2 G_strings_IndexRune G_strconv_Atoi)
theorem z3t {G_strings_IndexRune : List V → M V} {G_strconv_Atoi : List V → M V} (k_strings_IndexRune : zq Tryz.prog zr G_strings_IndexRune) (k_strconv_Atoi : zq Tryz.prog zbf G_strconv_Atoi) : zq Tryz.prog zb4 (ze5 G_strings_IndexRune G_strconv_Atoi) := kn2 (σ := ovr [(zva, znz), (zhh, zc7), (zgw, zcr G_strings_IndexRune G_strconv_Atoi)] noC) (hint := z3s) (by kernel_rfl) (ze z8m (ze zpp (ze (zky k_strings_IndexRune k_strconv_Atoi) zk))) fun _ _ => (by kernel_rfl)
def zjr (G_strings_IndexRune : List V → M V) (G_strconv_Atoi : List V → M V) (vs : List V) : M Out :=
 ret (.ret [(zd vs 0)])
def zk1 (G_strings_IndexRune : List V → M V) (G_strconv_Atoi : List V → M V) (x0 x1 : V) : M V :=
 zb (
 zb (za (zhk 1 x1 (some (Value.int .i64 1)) none)) fun x9 =>
 zb ((zcr G_strings_IndexRune G_strconv_Atoi) [x9, (Value.int .i64 3)]) fun x10 =>
 zb (za (ext 0 x10)) fun x11 =>
 zb (za (ext 1 x10)) fun x12 =>
 zb (
 zn x12 (
 zmo fun h0 =>
 zb (za (zcc x0)) fun x16 =>
 zb (za (zh 0 x16)) fun x17 =>
 zb (za (zh 0 x17)) fun x18 =>
 zb (za (zh 3 x18)) fun x19 =>
 zb (za (zh 1 x19)) fun x20 =>
 zb (za (zy 1 x11 (Value.int .i64 0))) fun x23 =>
 zb (za (zy 1 x11 (Value.int .i64 1))) fun x26 =>
 zb (za (zy 1 x11 (Value.int .i64 2))) fun x29 =>
 zb (ld1 x20) fun x21 =>
 zb (ld1 x23) fun x24 =>
 zb (ld1 x26) fun x27 =>
 zb (ld1 x29) fun x30 =>
 zb (za (build [Value.int .i64 0, Value.int .i64 0, Value.int .i64 0] [(0, 1, x24), (1, 1, x27), (2, 1, x30)])) fun x31 =>
 zdg (zdv 3 1 (rep 1 [Value.int .i64 0, Value.int .i64 0, Value.int .i64 0]) [(0, 3, x31)]) fun ha x32 h1 =>
 zdg (zgf 3 24 x21 x32) fun ha_2 x33 h2 =>
 zb (za (zcc x0)) fun x34 =>
 zb (za (zh 0 x34)) fun x35 =>
 zb (za (zh 0 x35)) fun x36 =>
 zb (za (zh 3 x36)) fun x37 =>
 zb (za (zh 1 x37)) fun x38 =>
 zdg (st1 x38 x33) fun ha_3 u h3 =>
 zj5 (chk (ld1 x20) h1 x21) <|
 ret (.nxt [x12])
 ) (
 ret (.nxt [x12])
 )
 ) fun o => nx o (zjr G_strings_IndexRune G_strconv_Atoi)
 ) fun o => zbl o fun vs => ret (zbi [(zd vs 0)])
def zz5 : Hint := (.seq [] .leaf (.seq [] .leaf (.seq [6] (.seq [] .leaf (.cond (.reg [0, 1, 2, 3, 4, 5, 6, 8, 9, 11, 12, 14, 15, 7, 10, 13, 16, 17, 18, 19, 20, 21, 22, 23, 24, 25] []) .leaf)) (.seq [] .leaf .leaf))))
def zd6 (G_strings_IndexRune : List V → M V) (G_strconv_Atoi : List V → M V) : List V → M V := ap2 (zk1 G_strings_IndexRune G_strconv_Atoi)
theorem zz6 {G_strings_IndexRune : List V → M V} {G_strconv_Atoi : List V → M V} (k_strings_IndexRune : zq Tryz.prog zr G_strings_IndexRune) (k_strconv_Atoi : zq Tryz.prog zbf G_strconv_Atoi) : zq Tryz.prog zcm (zd6 G_strings_IndexRune G_strconv_Atoi) := kn2 (σ := ovr [(zgw, zcr G_strings_IndexRune G_strconv_Atoi)] noC) (hint := zz5) (by kernel_rfl) (ze (zky k_strings_IndexRune k_strconv_Atoi) zk) fun _ _ => (by kernel_rfl)
def zhz (G_strings_IndexRune : List V → M V) (G_strconv_Atoi : List V → M V) (vs : List V) : M Out :=
 ret (.ret [(zd vs 0)])
def zig (G_strings_IndexRune : List V → M V) (G_strconv_Atoi : List V → M V) (x0 x1 : V) : M V :=
 zb (
 zb (za (zhk 1 x1 (some (Value.int .i64 1)) none)) fun x9 =>
 zb ((zcr G_strings_IndexRune G_strconv_Atoi) [x9, (Value.int .i64 2)]) fun x10 =>
 zb (za (ext 0 x10)) fun x11 =>
 zb (za (ext 1 x10)) fun x12 =>
 zb (
 zn x12 (
 zmo fun h0 =>
 zb (za (zcc x0)) fun x16 =>
 zb (za (zh 0 x16)) fun x17 =>
 zb (za (zh 0 x17)) fun x18 =>
 zb (za (zh 3 x18)) fun x19 =>
 zb (za (zh 1 x19)) fun x20 =>
 zb (za (zy 1 x11 (Value.int .i64 0))) fun x23 =>
 zb (za (zy 1 x11 (Value.int .i64 1))) fun x26 =>
 zb (ld1 x20) fun x21 =>
 zb (ld1 x23) fun x24 =>
 zb (ld1 x26) fun x27 =>
 zb (za (build [Value.int .i64 0, Value.int .i64 0, Value.int .i64 0] [(0, 1, (Value.int .i64 (-1))), (1, 1, x24), (2, 1, x27)])) fun x28 =>
 zdg (zdv 3 1 (rep 1 [Value.int .i64 0, Value.int .i64 0, Value.int .i64 0]) [(0, 3, x28)]) fun ha x29 h1 =>
 zdg (zgf 3 24 x21 x29) fun ha_2 x30 h2 =>
 zb (za (zcc x0)) fun x31 =>
 zb (za (zh 0 x31)) fun x32 =>
 zb (za (zh 0 x32)) fun x33 =>
 zb (za (zh 3 x33)) fun x34 =>
 zb (za (zh 1 x34)) fun x35 =>
 zdg (st1 x35 x30) fun ha_3 u h3 =>
 zj5 (chk (ld1 x20) h1 x21) <|
 ret (.nxt [x12])
 ) (
 ret (.nxt [x12])
 )
 ) fun o => nx o (zhz G_strings_IndexRune G_strconv_Atoi)
 ) fun o => zbl o fun vs => ret (zbi [(zd vs 0)])
def zwv : Hint := (.seq [] .leaf (.seq [] .leaf (.seq [6] (.seq [] .leaf (.cond (.reg [0, 1, 2, 3, 4, 5, 6, 8, 9, 11, 12, 7, 10, 13, 14, 15, 16, 17, 18, 19, 20, 21, 22] []) .leaf)) (.seq [] .leaf .leaf))))
def zc4 (G_strings_IndexRune : List V → M V) (G_strconv_Atoi : List V → M V) : List V → M V := ap2 (zig G_strings_IndexRune G_strconv_Atoi)
theorem zww {G_strings_IndexRune : List V → M V} {G_strconv_Atoi : List V → M V} (k_strings_IndexRune : zq Tryz.prog zr G_strings_IndexRune) (k_strconv_Atoi : zq Tryz.prog zbf G_strconv_Atoi) : zq Tryz.prog zb3 (zc4 G_strings_IndexRune G_strconv_Atoi) := kn2 (σ := ovr [(zgw, zcr G_strings_IndexRune G_strconv_Atoi)] noC) (hint := zwv) (by kernel_rfl) (ze (zky k_strings_IndexRune k_strconv_Atoi) zk) fun _ _ => (by kernel_rfl)
def zm9 (x0 x1 : V) : M V :=
 zb (
 zb (za (zcc x0)) fun x7 =>
 zb (za (zh 0 x7)) fun x8 =>
 zb (za (zh 0 x8)) fun x9 =>
 zb (za (zh 5 x9)) fun x10 =>
 zb (ld1 x10) fun x11 =>
 zb (za (build [Value.slice none 0 0, Value.slice none 0 0] [])) fun x12 =>
 zb (zdv 2 1 (rep 1 [Value.slice none 0 0, Value.slice none 0 0]) [(0, 2, x12)]) fun x13 =>
 zb (zgf 2 48 x11 x13) fun x14 =>
 zb (za (zcc x0)) fun x15 =>
 zb (za (zh 0 x15)) fun x16 =>
 zb (za (zh 0 x16)) fun x17 =>
 zb (za (zh 5 x17)) fun x18 =>
 zb (st1 x18 x14) fun _ =>
 zb (za (zx x1)) fun x20 =>
 zb (za (zw .eql x20 (Value.int .i64 1))) fun x21 =>
 ret (.ret [x21])
 ) fun o => zbl o fun vs => ret (zbi [(zd vs 0)])
def z3u : Hint := (.seq [] .leaf (.seq [] .leaf (.seq [] .leaf .leaf)))
def ze6 : List V → M V := ap2 zm9
theorem z3v : zq Tryz.prog zc9 (ze6) := kn2 (σ := ovr [] noC) (hint := z3u) (by kernel_rfl) zk fun _ _ => (by kernel_rfl)
def zge (G_strings_IndexRune : List V → M V) (G_strconv_Atoi : List V → M V) (vs_2 : List V) : M Out :=
 zb (gd (zd vs_2 0) true (za (zh 0 (zd vs_2 1)))) fun x78 =>
 zb (gd (zd vs_2 0) true (ld1 x78)) fun x79 =>
 zb (gd (zd vs_2 0) true (za (zw .gtr x79 (Value.int .i64 0)))) fun x80 =>
 zb (za (zbe (zd vs_2 0) x80 (Value.bool false))) fun x81 =>
 ret (.ret [x81])
def zrn (G_strings_IndexRune : List V → M V) (G_strconv_Atoi : List V → M V) (vs : List V) : M Out :=
 zb (za (zy 1 (zd vs 1) (Value.int .i64 2))) fun x24 =>
 zb (ld1 x24) fun x25 =>
 zb ((zgq G_strings_IndexRune G_strconv_Atoi) [x25]) fun x26 =>
 zb (za (ext 0 x26)) fun x27 =>
 zb (za (ext 1 x26)) fun x28 =>
 zb (zdv 1 2 (rep 2 [Value.string ⟨#[]⟩]) [(0, 1, (Value.string ⟨#[112, 111, 105, 110, 116]⟩)), (1, 1, (Value.string ⟨#[112, 111, 114, 116]⟩))]) fun x29 =>
 zb (za (zy 1 (zd vs 1) (Value.int .i64 1))) fun x31 =>
 zb (ld1 x31) fun x32 =>
 zb (z7 [x29, x32]) fun x33 =>
 zb (za (zw .add (Value.int .i64 1) x33)) fun x34 =>
 zb (za (build [Value.int .i64 0, Value.int .i64 0] [(0, 1, x34), (1, 1, x27)])) fun x36 =>
 zb (newc [Value.int .i64 0, Value.int .i64 0]) fun x7 =>
 zb (stn 2 x7 x36) fun _ =>
 zb (za (zcc (zd vs 0))) fun x38 =>
 zb (za (zh 0 x38)) fun x39 =>
 zb (za (zh 0 x39)) fun x40 =>
 zb (za (zh 5 x40)) fun x41 =>
 zb (za (zcc (zd vs 0))) fun x44 =>
 zb (za (zh 0 x44)) fun x45 =>
 zb (za (zh 0 x45)) fun x46 =>
 zb (za (zh 5 x46)) fun x47 =>
 zb (ld1 x41) fun x42 =>
 zb (ld1 x47) fun x48 =>
 zb (za (zx x48)) fun x49 =>
 zb (za (zw .sub x49 (Value.int .i64 1))) fun x50 =>
 zb (za (zy 2 x42 x50)) fun x51 =>
 zb (
 zb (za (zy 1 (zd vs 1) (Value.int .i64 0))) fun x53 =>
 zb (ld1 x53) fun x54 =>
 zb (za (zw .eql x54 (Value.string ⟨#[103, 101, 116]⟩))) fun x55 =>
 zn x55 (
 zmo fun h0 =>
 zb (za (zcc x51)) fun x58 =>
 zb (za (zh 0 x58)) fun x59 =>
 zb (ld1 x59) fun x60 =>
 zb (ldn 2 x7) fun x61 =>
 zdg (zdv 2 1 (rep 1 [Value.int .i64 0, Value.int .i64 0]) [(0, 2, x61)]) fun ha x62 h1 =>
 zdg (zgf 2 16 x60 x62) fun ha_2 x63 h2 =>
 zb (za (zcc x51)) fun x64 =>
 zb (za (zh 0 x64)) fun x65 =>
 zdg (st1 x65 x63) fun ha_3 u h3 =>
 zj5 (chk (ld1 x59) h1 x60) <|
 ret (.nxt [x28, x7])
 ) (
 zmo fun h0_2 =>
 zb (za (zcc x51)) fun x68 =>
 zb (za (zh 1 x68)) fun x69 =>
 zb (ld1 x69) fun x70 =>
 zb (ldn 2 x7) fun x71 =>
 zdg (zdv 2 1 (rep 1 [Value.int .i64 0, Value.int .i64 0]) [(0, 2, x71)]) fun ha_4 x72 h1_2 =>
 zdg (zgf 2 16 x70 x72) fun ha_5 x73 h2_2 =>
 zb (za (zcc x51)) fun x74 =>
 zb (za (zh 1 x74)) fun x75 =>
 zdg (st1 x75 x73) fun ha_6 u_2 h3_2 =>
 zj5 (chk (ld1 x69) h1_2 x70) <|
 ret (.nxt [x28, x7])
 )
 ) fun o => nx o (zge G_strings_IndexRune G_strconv_Atoi)
def zg6 (G_strings_IndexRune : List V → M V) (G_strconv_Atoi : List V → M V) (x0 x1 : V) : M V :=
 zb (
 zb (
 zb (za (zx x1)) fun x10 =>
 zb (za (zw .neq x10 (Value.int .i64 3))) fun x11 =>
 zb (gd x11 false (za (some x0))) fun x13 =>
 zb (gd x11 false (za (zcc x13))) fun x14 =>
 zb (gd x11 false (za (zh 0 x14))) fun x15 =>
 zb (gd x11 false (za (zh 0 x15))) fun x16 =>
 zb (gd x11 false (za (zh 5 x16))) fun x17 =>
 zb (gd x11 false (ld1 x17)) fun x18 =>
 zb (gd x11 false (za (zx x18))) fun x19 =>
 zb (gd x11 false (za (zw .eql x19 (Value.int .i64 0)))) fun x20 =>
 zb (za (zbe x11 (Value.bool true) x20)) fun x21 =>
 zn x21 (
 ret (.ret [(Value.bool false)])
 ) (
 ret (.nxt [x0, x1])
 )
 ) fun o => nx o (zrn G_strings_IndexRune G_strconv_Atoi)
 ) fun o => zbl o fun vs => ret (zbi [(zd vs 0)])
def z3w : Hint := (.seq [] .leaf (.seq [0, 1] (.seq [] .leaf (.cond (.seq [] .leaf .leaf) .leaf)) (.seq [] .leaf (.seq [] .leaf (.seq [] (.reg [0, 1, 2, 3, 4, 6, 7, 8, 9, 10, 5, 11, 12, 13, 14, 15] []) (.seq [6, 7] (.seq [] .leaf (.cond (.reg [0, 1, 2, 3, 4, 5, 6, 7, 8, 9, 10] []) (.reg [0, 1, 2, 3, 4, 5, 6, 7, 8, 9, 10] []))) (.seq [] .leaf .leaf)))))))
def ze7 (G_strings_IndexRune : List V → M V) (G_strconv_Atoi : List V → M V) : List V → M V := ap2 (zg6 G_strings_IndexRune G_strconv_Atoi)
theorem z3x {G_strings_IndexRune : List V → M V} {G_strconv_Atoi : List V → M V} (k_strings_IndexRune : zq Tryz.prog zr G_strings_IndexRune) (k_strconv_Atoi : zq Tryz.prog zbf G_strconv_Atoi) : zq Tryz.prog zb5 (ze7 G_strings_IndexRune G_strconv_Atoi) := kn2 (σ := ovr [(zm4, zgq G_strings_IndexRune G_strconv_Atoi), (zb6, z7)] noC) (hint := z3w) (by kernel_rfl) (ze (zvk k_strings_IndexRune k_strconv_Atoi) (ze zdm zk)) fun _ _ => (by kernel_rfl)
def z2b (G_strings_IndexRune : List V → M V) (G_strings_IndexByte : List V → M V) (vs_4 : List V) : M Out :=
 zb (za (zw .add (zd vs_4 2) (Value.int .i64 2))) fun x20 =>
 ret (.nxt [(zd vs_4 0), (zd vs_4 1), x20])
def z2c (G_strings_IndexRune : List V → M V) (G_strings_IndexByte : List V → M V) (vs_3 : List V) : M Out :=
 zb (
 zb (
 zb (za (zl9 (zd vs_3 0) (zd vs_3 2))) fun x24 =>
 zb (za (zw .add (zd vs_3 2) (Value.int .i64 1))) fun x29 =>
 zb (za (zl9 (zd vs_3 0) x29)) fun x30 =>
 zb (G_strings_IndexByte [(Value.string ⟨#[48, 49, 50, 51, 52, 53, 54, 55, 56, 57, 97, 98, 99, 100, 101, 102]⟩), x24]) fun x25 =>
 zb (za (zw .shl x25 (Value.int .u64 4))) fun x26 =>
 zb (G_strings_IndexByte [(Value.string ⟨#[48, 49, 50, 51, 52, 53, 54, 55, 56, 57, 97, 98, 99, 100, 101, 102]⟩), x30]) fun x31 =>
 zb (za (zw .or x26 x31)) fun x32 =>
 zb (za (cvi .u8 x32)) fun x33 =>
 zb (zdv 1 1 (rep 1 [Value.int .u8 0]) [(0, 1, x33)]) fun x34 =>
 zb (zgf 1 1 (zd vs_3 1) x34) fun x35 =>
 ret (.nxt [(zd vs_3 0), x35, (zd vs_3 2)])
 ) fun o => ret (zz 1 o)
 ) fun o => nx o (z2b G_strings_IndexRune G_strings_IndexByte)
def zvl (G_strings_IndexRune : List V → M V) (G_strings_IndexByte : List V → M V) (vs_2 : List V) : M Out :=
 zb (
 zb (za (zet (zd vs_2 0))) fun x17 =>
 zb (za (zw .lss (zd vs_2 2) x17)) fun x18 =>
 zn x18 (
 ret (.nxt [(zd vs_2 0), (zd vs_2 1), (zd vs_2 2)])
 ) (
 ret (.brk 0 [(zd vs_2 1)])
 )
 ) fun o => nx o (z2c G_strings_IndexRune G_strings_IndexByte)
def z2d (G_strings_IndexRune : List V → M V) (G_strings_IndexByte : List V → M V) (vs_5 : List V) : M Out :=
 zb (b2s (zd vs_5 0)) fun x37 =>
 ret (.ret [x37, (Value.bool true)])
def z2e (G_strings_IndexRune : List V → M V) (G_strings_IndexByte : List V → M V) (vs : List V) : M Out :=
 zb (
 zb (
 zbj zb8 (zvl G_strings_IndexRune G_strings_IndexByte) [(zd vs 0), (Value.slice none 0 0), (Value.int .i64 0)]
 ) fun o => ret (zz 0 o)
 ) fun o => nx o (z2d G_strings_IndexRune G_strings_IndexByte)
def zr8 (G_strings_IndexRune : List V → M V) (G_strings_IndexByte : List V → M V) (x0 : V) : M V :=
 zb (
 zb (
 zb (za (zet x0)) fun x7 =>
 zb (za (zw .rem x7 (Value.int .i64 2))) fun x8 =>
 zb (za (zw .gtr x8 (Value.int .i64 0))) fun x9 =>
 zb (gd x9 false (za (some x0))) fun x11 =>
 zb (gd x9 false ((zft G_strings_IndexRune) [x11, (Value.string ⟨#[48, 49, 50, 51, 52, 53, 54, 55, 56, 57, 97, 98, 99, 100, 101, 102]⟩)])) fun x12 =>
 zb (gd x9 false (za (zw .neq x12 (Value.string ⟨#[]⟩)))) fun x13 =>
 zb (za (zbe x9 (Value.bool true) x13)) fun x14 =>
 zn x14 (
 ret (.ret [(Value.string ⟨#[]⟩), (Value.bool false)])
 ) (
 ret (.nxt [x0])
 )
 ) fun o => nx o (z2e G_strings_IndexRune G_strings_IndexByte)
 ) fun o => zbl o fun vs => ret (zbi [(zd vs 0), (zd vs 1)])
def zbfe : Hint := (.seq [] .leaf (.seq [0] (.seq [] .leaf (.cond (.seq [] .leaf .leaf) .leaf)) (.seq [] .leaf (.seq [4] (.seq [] .leaf (.blk (.loop [0, 4, 5] (.seq [0, 4, 5] (.seq [] .leaf (.cond .leaf .leaf)) (.seq [0, 4, 5] (.blk (.reg [0, 1, 2, 3, 6, 7, 8, 9, 4, 5, 10, 11, 12, 13, 14, 15] [])) .leaf))))) (.seq [] .leaf .leaf)))))
def zr9 (G_strings_IndexRune : List V → M V) (G_strings_IndexByte : List V → M V) : List V → M V := ap1 (zr8 G_strings_IndexRune G_strings_IndexByte)
theorem zbff {G_strings_IndexRune : List V → M V} {G_strings_IndexByte : List V → M V} (k_strings_IndexRune : zq Tryz.prog zr G_strings_IndexRune) (k_strings_IndexByte : zq Tryz.prog zbp G_strings_IndexByte) : zq Tryz.prog zzy (zr9 G_strings_IndexRune G_strings_IndexByte) := kn1 (σ := ovr [(zlk, zft G_strings_IndexRune), (zbp, G_strings_IndexByte)] noC) (hint := zbfe) (by kernel_rfl) (ze (zte k_strings_IndexRune) (ze k_strings_IndexByte zk)) fun _ => (by kernel_rfl)
def zro (G_strings_IndexRune : List V → M V) (G_strings_IndexByte : List V → M V) (vs : List V) : M Out :=
 zb (za (zy 1 (zd vs 1) (Value.int .i64 2))) fun x12 =>
 zb (ld1 x12) fun x13 =>
 zb ((zr9 G_strings_IndexRune G_strings_IndexByte) [x13]) fun x14 =>
 zb (za (ext 0 x14)) fun x15 =>
 zb (za (ext 1 x14)) fun x16 =>
 zmo fun h0 =>
 zb (za (zcc (zd vs 0))) fun x19 =>
 zb (za (zh 0 x19)) fun x20 =>
 zb (za (zh 7 x20)) fun x21 =>
 zb (za (zy 1 (zd vs 1) (Value.int .i64 1))) fun x24 =>
 zb (ld1 x21) fun x22 =>
 zb (ld1 x24) fun x25 =>
 zb (za (build [Value.string ⟨#[]⟩, Value.string ⟨#[]⟩, Value.slice none 0 0] [(0, 1, x25), (1, 1, x15)])) fun x27 =>
 zdg (zdv 3 1 (rep 1 [Value.string ⟨#[]⟩, Value.string ⟨#[]⟩, Value.slice none 0 0]) [(0, 3, x27)]) fun ha x28 h1 =>
 zdg (zgf 3 56 x22 x28) fun ha_2 x29 h2 =>
 zb (za (zcc (zd vs 0))) fun x30 =>
 zb (za (zh 0 x30)) fun x31 =>
 zb (za (zh 7 x31)) fun x32 =>
 zdg (st1 x32 x29) fun ha_3 u h3 =>
 zj5 (chk (ld1 x21) h1 x22) <|
 ret (.ret [x16])
def zi3 (G_strings_IndexRune : List V → M V) (G_strings_IndexByte : List V → M V) (x0 x1 : V) : M V :=
 zb (
 zb (
 zb (za (zx x1)) fun x8 =>
 zb (za (zw .neq x8 (Value.int .i64 3))) fun x9 =>
 zn x9 (
 ret (.ret [(Value.bool false)])
 ) (
 ret (.nxt [x0, x1])
 )
 ) fun o => nx o (zro G_strings_IndexRune G_strings_IndexByte)
 ) fun o => zbl o fun vs => ret (zbi [(zd vs 0)])
def z3y : Hint := (.seq [] .leaf (.seq [0, 1] (.seq [] .leaf (.cond (.seq [] .leaf .leaf) .leaf)) (.seq [] .leaf (.seq [] (.reg [0, 1, 2, 3, 4, 6, 7, 9, 5, 8, 10, 11, 12, 13, 14, 15, 16] []) (.seq [] .leaf .leaf)))))
def ze8 (G_strings_IndexRune : List V → M V) (G_strings_IndexByte : List V → M V) : List V → M V := ap2 (zi3 G_strings_IndexRune G_strings_IndexByte)
theorem z3z {G_strings_IndexRune : List V → M V} {G_strings_IndexByte : List V → M V} (k_strings_IndexRune : zq Tryz.prog zr G_strings_IndexRune) (k_strings_IndexByte : zq Tryz.prog zbp G_strings_IndexByte) : zq Tryz.prog zda (ze8 G_strings_IndexRune G_strings_IndexByte) := kn2 (σ := ovr [(zzy, zr9 G_strings_IndexRune G_strings_IndexByte)] noC) (hint := z3y) (by kernel_rfl) (ze (zbff k_strings_IndexRune k_strings_IndexByte) zk) fun _ _ => (by kernel_rfl)
def zrp (G_strings_IndexRune : List V → M V) (G_strconv_Atoi : List V → M V) (vs : List V) : M Out :=
 zb (za (zy 1 (zd vs 1) (Value.int .i64 1))) fun x23 =>
 zb (ld1 x23) fun x24 =>
 zb ((zgq G_strings_IndexRune G_strconv_Atoi) [x24]) fun x25 =>
 zb (za (ext 0 x25)) fun x26 =>
 zb (za (ext 1 x25)) fun x27 =>
 zb (za (subA 5 1 (ptr gid_conf_levels 0) (some (Value.int .i64 1)) none)) fun x28 =>
 zb (za (zy 1 (zd vs 1) (Value.int .i64 2))) fun x30 =>
 zb (ld1 x30) fun x31 =>
 zb (z7 [x28, x31]) fun x32 =>
 zb (za (zw .add x32 (Value.int .i64 1))) fun x33 =>
 zb (za (zcc (zd vs 0))) fun x35 =>
 zb (za (zh 0 x35)) fun x36 =>
 zb (za (zh 7 x36)) fun x37 =>
 zb (za (zcc (zd vs 0))) fun x40 =>
 zb (za (zh 0 x40)) fun x41 =>
 zb (za (zh 7 x41)) fun x42 =>
 zb (ld1 x37) fun x38 =>
 zb (ld1 x42) fun x43 =>
 zb (za (zx x43)) fun x44 =>
 zb (za (zw .sub x44 (Value.int .i64 1))) fun x45 =>
 zb (za (zy 3 x38 x45)) fun x46 =>
 zb (za (zcc x46)) fun x49 =>
 zb (za (zh 2 x49)) fun x50 =>
 zb (ld1 x50) fun x51 =>
 zb (za (build [Value.int .i64 0, Value.int .i64 0] [(0, 1, x26), (1, 1, x33)])) fun x54 =>
 zb (zdv 2 1 (rep 1 [Value.int .i64 0, Value.int .i64 0]) [(0, 2, x54)]) fun x55 =>
 zb (zgf 2 16 x51 x55) fun x56 =>
 zb (za (zcc x46)) fun x57 =>
 zb (za (zh 2 x57)) fun x58 =>
 zb (st1 x58 x56) fun _ =>
 zb (gd x27 true (za (some x33))) fun x61 =>
 zb (gd x27 true (za (zw .gtr x61 (Value.int .i64 0)))) fun x62 =>
 zb (za (zbe x27 x62 (Value.bool false))) fun x63 =>
 ret (.ret [x63])
def zg7 (G_strings_IndexRune : List V → M V) (G_strconv_Atoi : List V → M V) (x0 x1 : V) : M V :=
 zb (
 zb (
 zb (za (zx x1)) fun x10 =>
 zb (za (zw .neq x10 (Value.int .i64 3))) fun x11 =>
 zb (gd x11 false (za (some x0))) fun x13 =>
 zb (gd x11 false (za (zcc x13))) fun x14 =>
 zb (gd x11 false (za (zh 0 x14))) fun x15 =>
 zb (gd x11 false (za (zh 7 x15))) fun x16 =>
 zb (gd x11 false (ld1 x16)) fun x17 =>
 zb (gd x11 false (za (zx x17))) fun x18 =>
 zb (gd x11 false (za (zw .eql x18 (Value.int .i64 0)))) fun x19 =>
 zb (za (zbe x11 (Value.bool true) x19)) fun x20 =>
 zn x20 (
 ret (.ret [(Value.bool false)])
 ) (
 ret (.nxt [x0, x1])
 )
 ) fun o => nx o (zrp G_strings_IndexRune G_strconv_Atoi)
 ) fun o => zbl o fun vs => ret (zbi [(zd vs 0)])
def z30 : Hint := (.seq [] .leaf (.seq [0, 1] (.seq [] .leaf (.cond (.seq [] .leaf .leaf) .leaf)) (.seq [] .leaf (.seq [] (.reg [0, 1, 2, 3, 4, 5, 6] []) (.seq [] (.reg [0, 1, 2, 3, 5, 6, 7, 8, 4, 9, 10, 11, 12, 13] []) (.seq [] .leaf (.seq [] .leaf .leaf)))))))
def ze9 (G_strings_IndexRune : List V → M V) (G_strconv_Atoi : List V → M V) : List V → M V := ap2 (zg7 G_strings_IndexRune G_strconv_Atoi)
theorem z32 {G_strings_IndexRune : List V → M V} {G_strconv_Atoi : List V → M V} (k_strings_IndexRune : zq Tryz.prog zr G_strings_IndexRune) (k_strconv_Atoi : zq Tryz.prog zbf G_strconv_Atoi) : zq Tryz.prog zdb (ze9 G_strings_IndexRune G_strconv_Atoi) := kn2 (σ := ovr [(zm4, zgq G_strings_IndexRune G_strconv_Atoi), (zb6, z7)] noC) (hint := z30) (by kernel_rfl) (ze (zvk k_strings_IndexRune k_strconv_Atoi) (ze zdm zk)) fun _ _ => (by kernel_rfl)
def zth (G_strings_IndexRune : List V → M V) (G_strconv_Atoi : List V → M V) (G_strings_IndexByte : List V → M V) : M V :=
 zb (
 zb (zsu) fun x1 =>
 zb (zf2 (.one .s) x1 (Value.string ⟨#[109, 105, 108, 108, 105, 115]⟩) (Value.func (.func zbk) #[] #[])) fun _ =>
 zb (zf2 (.one .s) x1 (Value.string ⟨#[102, 114, 97, 109, 101]⟩) (Value.func (.func zbk) #[] #[])) fun _ =>
 zb (zf2 (.one .s) x1 (Value.string ⟨#[105, 100, 108, 101]⟩) (Value.func (.func zbk) #[] #[])) fun _ =>
 zb (zf2 (.one .s) x1 (Value.string ⟨#[105, 110]⟩) (Value.func (.func zbv) #[] #[])) fun _ =>
 zb (zf2 (.one .s) x1 (Value.string ⟨#[111, 117, 116]⟩) (Value.func (.func zbv) #[] #[])) fun _ =>
 zb (zf2 (.one .s) x1 (Value.string ⟨#[114, 101, 97, 100]⟩) (Value.func (.func zbw) #[] #[])) fun _ =>
 zb (zf2 (.one .s) x1 (Value.string ⟨#[119, 114, 105, 116, 101]⟩) (Value.func (.func zbw) #[] #[])) fun _ =>
 zb (zf2 (.one .s) x1 (Value.string ⟨#[115, 97, 109, 112, 108, 101]⟩) (Value.func (.func zb4) #[] #[])) fun _ =>
 zb (zf2 (.one .s) x1 (Value.string ⟨#[113, 117, 101, 117, 101]⟩) (Value.func (.func zb4) #[] #[])) fun _ =>
 zb (zf2 (.one .s) x1 (Value.string ⟨#[119, 105, 110, 100, 111, 119]⟩) (Value.func (.func zcm) #[] #[])) fun _ =>
 zb (zf2 (.one .s) x1 (Value.string ⟨#[101, 110, 103, 105, 110, 101, 101, 114, 115]⟩) (Value.func (.func zb3) #[] #[])) fun _ =>
 zb (zf2 (.one .s) x1 (Value.string ⟨#[117, 110, 105, 116]⟩) (Value.func (.func zc9) #[] #[])) fun _ =>
 zb (zf2 (.one .s) x1 (Value.string ⟨#[103, 101, 116]⟩) (Value.func (.func zb5) #[] #[])) fun _ =>
 zb (zf2 (.one .s) x1 (Value.string ⟨#[112, 117, 116]⟩) (Value.func (.func zb5) #[] #[])) fun _ =>
 zb (zf2 (.one .s) x1 (Value.string ⟨#[117, 115, 101, 114]⟩) (Value.func (.func zda) #[] #[])) fun _ =>
 zb (zf2 (.one .s) x1 (Value.string ⟨#[114, 111, 108, 101]⟩) (Value.func (.func zdb) #[] #[])) fun _ =>
 ret (.ret [x1])
 ) fun o => zbl o fun vs => ret (zbi [(zd vs 0)])
def zbbc : Hint := (.seq [] .leaf (.seq [] .leaf .leaf))
def zos (G_strings_IndexRune : List V → M V) (G_strconv_Atoi : List V → M V) (G_strings_IndexByte : List V → M V) : List V → M V := ap0 (zth G_strings_IndexRune G_strconv_Atoi G_strings_IndexByte)
theorem zbbd {G_strings_IndexRune : List V → M V} {G_strconv_Atoi : List V → M V} {G_strings_IndexByte : List V → M V} (k_strings_IndexRune : zq Tryz.prog zr G_strings_IndexRune) (k_strconv_Atoi : zq Tryz.prog zbf G_strconv_Atoi) (k_strings_IndexByte : zq Tryz.prog zbp G_strings_IndexByte) : zq Tryz.prog zwj (zos G_strings_IndexRune G_strconv_Atoi G_strings_IndexByte) := kn0 (σ := ovr [] noC) (hint := zbbc) (by kernel_rfl) zk (by kernel_rfl)
def zd8 (x0 x1 : V) : M V :=
 zb (
 zb (z7 [x0, x1]) fun x7 =>
 zb (za (zw .geq x7 (Value.int .i64 0))) fun x8 =>
 ret (.ret [x8])
 ) fun o => zbl o fun vs => ret (zbi [(zd vs 0)])
def zn3 : Hint := (.seq [] .leaf (.seq [] .leaf .leaf))
def zbg : List V → M V := ap2 zd8
def zn4 : zu := ovr [(zb6, z7)] noC
theorem zn5 : zq Tryz.prog zci (zbg) := kn2 (σ := zn4) (hint := zn3) (by kernel_rfl) (ze zdm zk) fun _ _ => (by kernel_rfl)
def zrq (G_strings_Split : List V → M V) (G_strings_IndexRune : List V → M V) (G_strconv_Atoi : List V → M V) (G_strings_IndexByte : List V → M V) (vs_3 : List V) : M Out :=
 ret (.ret [(Value.int .i64 0)])
def zrr (G_strings_Split : List V → M V) (G_strings_IndexRune : List V → M V) (G_strconv_Atoi : List V → M V) (G_strings_IndexByte : List V → M V) (vs_2 : List V) : M Out :=
 zb (za (zcc (zd vs_2 0))) fun x32 =>
 zb (za (zh 9 x32)) fun x33 =>
 zb (za (zy 1 (zd vs_2 1) (Value.int .i64 0))) fun x36 =>
 zb (ld1 x33) fun x34 =>
 zb (ld1 x36) fun x37 =>
 zb (zbg [x34, x37]) fun x38 =>
 zb (
 zb (zlz (ovr [(zbk, zd5 G_strings_IndexRune G_strconv_Atoi), (zbv, zek), (zbw, zel G_strings_IndexRune G_strconv_Atoi), (zb4, ze5 G_strings_IndexRune G_strconv_Atoi), (zcm, zd6 G_strings_IndexRune G_strconv_Atoi), (zb3, zc4 G_strings_IndexRune G_strconv_Atoi), (zc9, ze6), (zb5, ze7 G_strings_IndexRune G_strconv_Atoi), (zda, ze8 G_strings_IndexRune G_strings_IndexByte), (zdb, ze9 G_strings_IndexRune G_strconv_Atoi), (zch, G_strings_Split), (zci, zbg)] noC) (zd vs_2 2) [(zd vs_2 0), (zd vs_2 1)]) fun x42 =>
 zb (
 zb (za (un .not x42)) fun x45 =>
 zn x45 (
 ret (.ret [(Value.int .i64 3)])
 ) (
 zn x38 (
 ret (.ret [(Value.int .i64 6)])
 ) (
 ret (.nxt [])
 )
 )
 ) fun o => ret (zz 0 o)
 ) fun o => nx o (zrq G_strings_Split G_strings_IndexRune G_strconv_Atoi G_strings_IndexByte)
def zrs (G_strings_Split : List V → M V) (G_strings_IndexRune : List V → M V) (G_strconv_Atoi : List V → M V) (G_strings_IndexByte : List V → M V) (vs : List V) : M Out :=
 zb (G_strings_Split [(zd vs 1), (Value.string ⟨#[32]⟩)]) fun x19 =>
 zb (za (zy 1 x19 (Value.int .i64 0))) fun x22 =>
 zb (ld1 x22) fun x23 =>
 zb (lookup (.one .s) (Value.nilFunc) false (zd vs 2) x23) fun x24 =>
 zb (
 zb (za (zgp false (zd2 .f x24))) fun x26 =>
 zb (gd x26 false (za (some x19))) fun x28 =>
 zb (gd x26 false (zbg [x28, (Value.string ⟨#[]⟩)])) fun x29 =>
 zb (za (zbe x26 (Value.bool true) x29)) fun x30 =>
 zn x30 (
 ret (.ret [(Value.int .i64 3)])
 ) (
 ret (.nxt [(zd vs 0), x19, x24])
 )
 ) fun o => nx o (zrr G_strings_Split G_strings_IndexRune G_strconv_Atoi G_strings_IndexByte)
def zg8 (G_strings_Split : List V → M V) (G_strings_IndexRune : List V → M V) (G_strconv_Atoi : List V → M V) (G_strings_IndexByte : List V → M V) (x0 x1 x2 : V) : M V :=
 zb (
 zb (
 zb (za (zw .eql x1 (Value.string ⟨#[]⟩))) fun x12 =>
 zb (gd x12 false (za (some x1))) fun x14 =>
 zb (gd x12 false (za (zl9 x14 (Value.int .i64 0)))) fun x15 =>
 zb (gd x12 false (za (zw .eql x15 (Value.int .u8 35)))) fun x16 =>
 zb (za (zbe x12 (Value.bool true) x16)) fun x17 =>
 zn x17 (
 ret (.ret [(Value.int .i64 0)])
 ) (
 ret (.nxt [x0, x1, x2])
 )
 ) fun o => nx o (zrs G_strings_Split G_strings_IndexRune G_strconv_Atoi G_strings_IndexByte)
 ) fun o => zbl o fun vs => ret (zbi [(zd vs 0)])
def z33 : Hint := (.seq [] .leaf (.seq [0, 1, 2] (.seq [] .leaf (.cond (.seq [] .leaf .leaf) .leaf)) (.seq [] .leaf (.seq [] .leaf (.seq [0, 7, 8] (.seq [] .leaf (.cond (.seq [] .leaf .leaf) .leaf)) (.seq [] (.reg [0, 1, 2, 4, 5, 3, 6, 7, 8] []) (.seq [] (.seq [] .leaf (.blk (.seq [] .leaf (.cond (.seq [] .leaf .leaf) (.seq [] .leaf (.cond (.seq [] .leaf .leaf) .leaf)))))) (.seq [] .leaf .leaf))))))))
def zi4 (G_strings_Split : List V → M V) (G_strings_IndexRune : List V → M V) (G_strconv_Atoi : List V → M V) (G_strings_IndexByte : List V → M V) : List V → M V := ap3 (zg8 G_strings_Split G_strings_IndexRune G_strconv_Atoi G_strings_IndexByte)
theorem z34 {G_strings_Split : List V → M V} {G_strings_IndexRune : List V → M V} {G_strconv_Atoi : List V → M V} {G_strings_IndexByte : List V → M V} (k_strings_Split : zq Tryz.prog zch G_strings_Split) (k_strings_IndexRune : zq Tryz.prog zr G_strings_IndexRune) (k_strconv_Atoi : zq Tryz.prog zbf G_strconv_Atoi) (k_strings_IndexByte : zq Tryz.prog zbp G_strings_IndexByte) : zq Tryz.prog zqx (zi4 G_strings_Split G_strings_IndexRune G_strconv_Atoi G_strings_IndexByte) := kn3 (σ := ovr [(zbk, zd5 G_strings_IndexRune G_strconv_Atoi), (zbv, zek), (zbw, zel G_strings_IndexRune G_strconv_Atoi), (zb4, ze5 G_strings_IndexRune G_strconv_Atoi), (zcm, zd6 G_strings_IndexRune G_strconv_Atoi), (zb3, zc4 G_strings_IndexRune G_strconv_Atoi), (zc9, ze6), (zb5, ze7 G_strings_IndexRune G_strconv_Atoi), (zda, ze8 G_strings_IndexRune G_strings_IndexByte), (zdb, ze9 G_strings_IndexRune G_strconv_Atoi), (zch, G_strings_Split), (zci, zbg)] noC) (hint := z33) (by kernel_rfl) (ze (zz3 k_strings_IndexRune k_strconv_Atoi) (ze z12 (ze (z14 k_strings_IndexRune k_strconv_Atoi) (ze (z3t k_strings_IndexRune k_strconv_Atoi) (ze (zz6 k_strings_IndexRune k_strconv_Atoi) (ze (zww k_strings_IndexRune k_strconv_Atoi) (ze z3v (ze (z3x k_strings_IndexRune k_strconv_Atoi) (ze (z3z k_strings_IndexRune k_strings_IndexByte) (ze (z32 k_strings_IndexRune k_strconv_Atoi) (ze k_strings_Split (ze zn5 zk)))))))))))) fun _ _ _ => (by kernel_rfl)
def z5o (G_strings_IndexRune : List V → M V) (G_strconv_Atoi : List V → M V) (G_strings_IndexByte : List V → M V) (G_strings_Split : List V → M V) (vs_3 : List V) : M Out :=
 zb (za (zw .add (zd vs_3 5) (Value.int .i64 1))) fun x30 =>
 ret (.nxt [(zd vs_3 0), (zd vs_3 1), (zd vs_3 2), (zd vs_3 3), (zd vs_3 4), x30])
def z5p (G_strings_IndexRune : List V → M V) (G_strconv_Atoi : List V → M V) (G_strings_IndexByte : List V → M V) (G_strings_Split : List V → M V) (vs_2 : List V) : M Out :=
 zb (
 zb (
 zb (za (zy 1 (zd vs_2 3) (zd vs_2 5))) fun x18 =>
 zb (ld1 x18) fun x19 =>
 zb ((zi4 G_strings_Split G_strings_IndexRune G_strconv_Atoi G_strings_IndexByte) [(zd vs_2 1), x19, (zd vs_2 2)]) fun x23 =>
 zb (za (zw .neq x23 (Value.int .i64 0))) fun x25 =>
 zn x25 (
 zb (za (build [Value.slice none 0 0, Value.slice none 0 0, Value.slice none 0 0, Value.int .i64 0, Value.slice none 0 0, Value.slice none 0 0, Value.int .i64 0, Value.slice none 0 0, Value.int .i64 0] [])) fun x26 =>
 zb (za (zw .add (zd vs_2 5) (Value.int .i64 1))) fun x28 =>
 zb (stn 9 (zd vs_2 0) x26) fun _ =>
 ret (.ret [(zd vs_2 0), x28, x23])
 ) (
 ret (.nxt [(zd vs_2 0), (zd vs_2 1), (zd vs_2 2), (zd vs_2 3), (zd vs_2 4), (zd vs_2 5)])
 )
 ) fun o => ret (zz 1 o)
 ) fun o => nx o (z5o G_strings_IndexRune G_strconv_Atoi G_strings_IndexByte G_strings_Split)
def zxt (G_strings_IndexRune : List V → M V) (G_strconv_Atoi : List V → M V) (G_strings_IndexByte : List V → M V) (G_strings_Split : List V → M V) (vs : List V) : M Out :=
 zb (za (zw .lss (zd vs 5) (zd vs 4))) fun x16 =>
 zb (
 zn x16 (
 ret (.nxt [(zd vs 0), (zd vs 1), (zd vs 2), (zd vs 3), (zd vs 4), (zd vs 5)])
 ) (
 ret (.brk 0 [(zd vs 0), (zd vs 1)])
 )
 ) fun o => nx o (z5p G_strings_IndexRune G_strconv_Atoi G_strings_IndexByte G_strings_Split)
def z5q (G_strings_IndexRune : List V → M V) (G_strconv_Atoi : List V → M V) (G_strings_IndexByte : List V → M V) (G_strings_Split : List V → M V) (vs_4 : List V) : M Out :=
 zb (za (zcc (zd vs_4 1))) fun x32 =>
 zb (za (zh 0 x32)) fun x33 =>
 zb (ldn 9 x33) fun x34 =>
 zb (stn 9 (zd vs_4 0) x34) fun _ =>
 ret (.ret [(zd vs_4 0), (Value.int .i64 0), (Value.int .i64 0)])
def zz7 (G_strings_IndexRune : List V → M V) (G_strconv_Atoi : List V → M V) (G_strings_IndexByte : List V → M V) (G_strings_Split : List V → M V) (x0 : V) : M V :=
 zb (
 zb (newc [Value.slice none 0 0, Value.slice none 0 0, Value.slice none 0 0, Value.int .i64 0, Value.slice none 0 0, Value.slice none 0 0, Value.int .i64 0, Value.slice none 0 0, Value.int .i64 0]) fun x2 =>
 zb (za (build [Value.slice none 0 0, Value.slice none 0 0, Value.slice none 0 0, Value.int .i64 0, Value.slice none 0 0, Value.slice none 0 0, Value.int .i64 0, Value.slice none 0 0, Value.int .i64 0, Value.slice none 0 0] [])) fun x10 =>
 zb (zfj x10) fun x11 =>
 zb ((zos G_strings_IndexRune G_strconv_Atoi G_strings_IndexByte) []) fun x12 =>
 zb (
 zb (za (zx x0)) fun x14 =>
 zb (
 zbj zb8 (zxt G_strings_IndexRune G_strconv_Atoi G_strings_IndexByte G_strings_Split) [x2, x11, x12, x0, x14, (Value.int .i64 0)]
 ) fun o => ret (zz 0 o)
 ) fun o => nx o (z5q G_strings_IndexRune G_strconv_Atoi G_strings_IndexByte G_strings_Split)
 ) fun o => zbl o fun vs => zb (ldn 9 (zd vs 0)) fun r0 => ret (zbi [r0, (zd vs 1), (zd vs 2)])
def zbhw : Hint := (.seq [] .leaf (.seq [] .leaf (.seq [2, 5] (.seq [] .leaf (.blk (.loop [2, 5, 6, 13, 14, 15] (.seq [] .leaf (.seq [2, 5, 6, 13, 14, 15] (.cond .leaf .leaf) (.seq [2, 5, 6, 13, 14, 15] (.blk (.seq [] .leaf (.seq [] .leaf (.seq [] .leaf (.cond (.seq [] .leaf .leaf) .leaf))))) .leaf)))))) (.seq [] .leaf .leaf))))
def zuz (G_strings_IndexRune : List V → M V) (G_strconv_Atoi : List V → M V) (G_strings_IndexByte : List V → M V) (G_strings_Split : List V → M V) : List V → M V := ap1 (zz7 G_strings_IndexRune G_strconv_Atoi G_strings_IndexByte G_strings_Split)
theorem zbhx {G_strings_IndexRune : List V → M V} {G_strconv_Atoi : List V → M V} {G_strings_IndexByte : List V → M V} {G_strings_Split : List V → M V} (k_strings_IndexRune : zq Tryz.prog zr G_strings_IndexRune) (k_strconv_Atoi : zq Tryz.prog zbf G_strconv_Atoi) (k_strings_IndexByte : zq Tryz.prog zbp G_strings_IndexByte) (k_strings_Split : zq Tryz.prog zch G_strings_Split) : zq Tryz.prog z17 (zuz G_strings_IndexRune G_strconv_Atoi G_strings_IndexByte G_strings_Split) := kn1 (σ := ovr [(zwj, zos G_strings_IndexRune G_strconv_Atoi G_strings_IndexByte), (zqx, zi4 G_strings_Split G_strings_IndexRune G_strconv_Atoi G_strings_IndexByte)] noC) (hint := zbhw) (by kernel_rfl) (ze (zbbd k_strings_IndexRune k_strconv_Atoi k_strings_IndexByte) (ze (z34 k_strings_Split k_strings_IndexRune k_strconv_Atoi k_strings_IndexByte) zk)) fun _ => (by kernel_rfl)
def zen (S : zu) (vs_3 : List V) : M Out :=
 zb (za (zw .add (zd vs_3 3) (Value.int .i64 1))) fun x18 =>
 ret (.nxt [(zd vs_3 0), (zd vs_3 1), (zd vs_3 2), x18])
def zeo (S : zu) (vs_2 : List V) : M Out :=
 zb (
 zb (
 zb (za (zy 2 (zd vs_2 0) (zd vs_2 3))) fun x14 =>
 zb (ldn 2 x14) fun x15 =>
 zb (zlz (ovr [] S) (zd vs_2 1) [x15]) fun x16 =>
 zn x16 (
 ret (.ret [(zd vs_2 3)])
 ) (
 ret (.nxt [(zd vs_2 0), (zd vs_2 1), (zd vs_2 2), (zd vs_2 3)])
 )
 ) fun o => ret (zz 1 o)
 ) fun o => nx o (zen S)
def zcs (S : zu) (vs : List V) : M Out :=
 zb (za (zw .lss (zd vs 3) (zd vs 2))) fun x9 =>
 zb (
 zn x9 (
 ret (.nxt [(zd vs 0), (zd vs 1), (zd vs 2), (zd vs 3)])
 ) (
 ret (.brk 0 [])
 )
 ) fun o => nx o (zeo S)
def zep (S : zu) (vs_4 : List V) : M Out :=
 ret (.ret [(Value.int .i64 (-1))])
def zcv (S : zu) (x0 x1 : V) : M V :=
 zb (
 zb (
 zb (za (zx x0)) fun x7 =>
 zb (
 zbj zb8 (zcs S) [x0, x1, x7, (Value.int .i64 0)]
 ) fun o => ret (zz 0 o)
 ) fun o => nx o (zep S)
 ) fun o => zbl o fun vs => ret (zbi [(zd vs 0)])
def zjs : Hint := (.seq [] .leaf (.seq [] (.seq [] .leaf (.blk (.loop [0, 1, 7, 8] (.seq [] .leaf (.seq [0, 1, 7, 8] (.cond .leaf .leaf) (.seq [0, 1, 7, 8] (.blk (.seq [] .leaf (.seq [] .leaf (.cond (.seq [] .leaf .leaf) .leaf)))) .leaf)))))) (.seq [] .leaf .leaf)))
def zcw (S : zu) : List V → M V := ap2 (zcv S)
theorem zjt {S : zu} (hS : zdw Tryz.prog S) : zq Tryz.prog zee (zcw S) := kn2 (σ := ovr [] S) (hint := zjs) (by kernel_rfl) (zd3 hS) fun _ _ => (by kernel_rfl)
def zcl (S : zu) (x0 x1 : V) : M V :=
 zb (
 zb ((zcw S) [x0, x1]) fun x7 =>
 zb (za (zw .geq x7 (Value.int .i64 0))) fun x8 =>
 ret (.ret [x8])
 ) fun o => zbl o fun vs => ret (zbi [(zd vs 0)])
def zil : Hint := (.seq [] .leaf (.seq [] .leaf .leaf))
def zbq (S : zu) : List V → M V := ap2 (zcl S)
theorem zim {S : zu} (hS : zdw Tryz.prog S) : zq Tryz.prog zdu (zbq S) := kn2 (σ := ovr [(zee, zcw S)] S) (hint := zil) (by kernel_rfl) (ze (zjt (zd3 hS)) (zd3 hS)) fun _ _ => (by kernel_rfl)
def zp5 (x0 : V) : M V :=
 zb (
 zb (zfj x0) fun x1 =>
 zb (za (zh 0 x1)) fun x3 =>
 zb (ld1 x3) fun x4 =>
 zb (za (zw .lss x4 (Value.int .i64 1))) fun x5 =>
 zb (gd x5 false (za (zh 0 x1))) fun x7 =>
 zb (gd x5 false (ld1 x7)) fun x8 =>
 zb (gd x5 false (za (zw .gtr x8 (Value.int .i64 3)))) fun x9 =>
 zb (za (zbe x5 (Value.bool true) x9)) fun x10 =>
 ret (.ret [x10])
 ) fun o => zbl o fun vs => ret (zbi [(zd vs 0)])
def z7q : Hint := (.seq [] .leaf (.seq [] .leaf .leaf))
def zgx : List V → M V := ap1 zp5
theorem z7r : zq Tryz.prog zb9 (zgx) := kn1 (σ := ovr [] noC) (hint := z7q) (by kernel_rfl) zk fun _ => (by kernel_rfl)
def zti (x0 : V) : M V :=
 zb (
 zb (za (zw .geq x0 (Value.int .i64 0))) fun x4 =>
 zb (gd x4 true (za (some x0))) fun x6 =>
 zb (gd x4 true (za (zw .lss x6 (Value.int .i64 8)))) fun x7 =>
 zb (za (zbe x4 x7 (Value.bool false))) fun x8 =>
 ret (.ret [x8])
 ) fun o => zbl o fun vs => ret (zbi [(zd vs 0)])
def zbbe : Hint := (.seq [] .leaf (.seq [] .leaf .leaf))
def zot : List V → M V := ap1 zti
theorem zbbf : zq Tryz.prog zwl (zot) := kn1 (σ := ovr [] noC) (hint := zbbe) (by kernel_rfl) zk fun _ => (by kernel_rfl)
def zi8 (vs_4 : List V) : M Out :=
 zb (ldn 3 (zd vs_4 3)) fun x73 =>
 zb (zf2 (.agg [.i, .i, .b]) (zd vs_4 1) x73 (Value.bool true)) fun _ =>
 zb (za (zh 1 (zd vs_4 3))) fun x75 =>
 zb (ld1 x75) fun x76 =>
 zb (za (zh 1 (zd vs_4 3))) fun x78 =>
 zb (ld1 x78) fun x79 =>
 zb (lookup (.one .i) (Value.bool false) false (zd vs_4 2) x79) fun x80 =>
 zb (gd x80 false (za (zh 2 (zd vs_4 3)))) fun x82 =>
 zb (gd x80 false (ld1 x82)) fun x83 =>
 zb (za (zbe x80 (Value.bool true) x83)) fun x84 =>
 zb (zf2 (.one .i) (zd vs_4 2) x76 x84) fun _ =>
 ret (.nxt [(zd vs_4 0), (zd vs_4 1), (zd vs_4 2), (zd vs_4 4), (zd vs_4 5), (zd vs_4 6)])
def zq9 (vs_5 : List V) : M Out :=
 zb (za (zw .add (zd vs_5 5) (Value.int .i64 1))) fun x85 =>
 ret (.nxt [(zd vs_5 0), (zd vs_5 1), (zd vs_5 2), (zd vs_5 3), (zd vs_5 4), x85])
def zy1 (vs_3 : List V) : M Out :=
 zb (
 zb (
 zb (za (zy 3 (zd vs_3 3) (zd vs_3 5))) fun x24 =>
 zb (ldn 3 x24) fun x25 =>
 zb (newc [Value.int .i64 0, Value.int .i64 0, Value.bool false]) fun x9 =>
 zb (stn 3 x9 x25) fun _ =>
 zb (
 zb (
 zb (za (zh 0 x9)) fun x27 =>
 zb (ld1 x27) fun x28 =>
 zb (zot [x28]) fun x29 =>
 zb (za (un .not x29)) fun x30 =>
 zb (gd x30 false (za (zh 1 x9))) fun x32 =>
 zb (gd x30 false (ld1 x32)) fun x33 =>
 zb (gd x30 false (za (zw .lss x33 (Value.int .i64 0)))) fun x34 =>
 zb (za (zbe x30 (Value.bool true) x34)) fun x35 =>
 zb (gd x35 false (za (zh 1 x9))) fun x37 =>
 zb (gd x35 false (ld1 x37)) fun x38 =>
 zb (gd x35 false (za (some (zd vs_3 0)))) fun x39 =>
 zb (gd x35 false (za (zx x39))) fun x40 =>
 zb (gd x35 false (za (zw .geq x38 x40))) fun x41 =>
 zb (za (zbe x35 (Value.bool true) x41)) fun x42 =>
 zn x42 (
 ret (.ret [(zd vs_3 5), (Value.int .i64 1)])
 ) (
 zb (za (zh 2 x9)) fun x45 =>
 zb (ld1 x45) fun x46 =>
 zb (gd x46 true (za (some (zd vs_3 0)))) fun x48 =>
 zb (gd x46 true (za (zh 1 x9))) fun x49 =>
 zb (gd x46 true (ld1 x49)) fun x50 =>
 zb (gd x46 true (za (zy 2 x48 x50))) fun x51 =>
 zb (gd x46 true (za (zh 1 x51))) fun x52 =>
 zb (gd x46 true (ld1 x52)) fun x53 =>
 zb (gd x46 true (za (un .not x53))) fun x54 =>
 zb (za (zbe x46 x54 (Value.bool false))) fun x55 =>
 zn x55 (
 ret (.ret [(zd vs_3 5), (Value.int .i64 91)])
 ) (
 zb (ldn 3 x9) fun x59 =>
 zb (lookup (.agg [.i, .i, .b]) (Value.bool false) false (zd vs_3 1) x59) fun x60 =>
 zb (gd x60 false (za (zh 2 x9))) fun x62 =>
 zb (gd x60 false (ld1 x62)) fun x63 =>
 zb (gd x60 false (za (some x63))) fun x64 =>
 zb (gd x64 true (za (some (zd vs_3 2)))) fun x65 =>
 zb (gd x64 true (za (zh 1 x9))) fun x66 =>
 zb (gd x64 true (ld1 x66)) fun x67 =>
 zb (gd x64 true (lookup (.one .i) (Value.bool false) false x65 x67)) fun x68 =>
 zb (gd x60 false (za (zbe x64 x68 (Value.bool false)))) fun x69 =>
 zb (za (zbe x60 (Value.bool true) x69)) fun x70 =>
 zn x70 (
 ret (.ret [(zd vs_3 5), (Value.int .i64 190)])
 ) (
 ret (.nxt [(zd vs_3 0), (zd vs_3 1), (zd vs_3 2), x9, (zd vs_3 3), (zd vs_3 4), (zd vs_3 5)])
 )
 )
 )
 ) fun o => ret (zz 3 o)
 ) fun o => nx o zi8
 ) fun o => ret (zz 2 o)
 ) fun o => nx o zq9
def zra (vs_2 : List V) : M Out :=
 zb (za (zw .lss (zd vs_2 5) (zd vs_2 4))) fun x22 =>
 zb (
 zn x22 (
 ret (.nxt [(zd vs_2 0), (zd vs_2 1), (zd vs_2 2), (zd vs_2 3), (zd vs_2 4), (zd vs_2 5)])
 ) (
 ret (.brk 1 [])
 )
 ) fun o => nx o zy1
def zy2 (vs_6 : List V) : M Out :=
 ret (.ret [(Value.int .i64 0), (Value.int .i64 0)])
def zy3 (vs : List V) : M Out :=
 zb (zsu) fun x17 =>
 zb (zsu) fun x18 =>
 zb (
 zb (za (zx (zd vs 1))) fun x20 =>
 zb (
 zbj zb8 zra [(zd vs 0), x17, x18, (zd vs 1), x20, (Value.int .i64 0)]
 ) fun o => ret (zz 1 o)
 ) fun o => nx o zy2
def zou (x0 x1 : V) : M V :=
 zb (
 zb (
 zb (
 zb (za (zx x0)) fun x12 =>
 zb (za (zw .gtr x12 (Value.int .i64 64))) fun x13 =>
 zn x13 (
 ret (.ret [(Value.int .i64 (-1)), (Value.int .i64 2)])
 ) (
 zb ((zbq (ovr [(zb9, zgx)] noC)) [x0, (Value.func (.func zb9) #[] #[])]) fun x16 =>
 zn x16 (
 ret (.ret [(Value.int .i64 (-1)), (Value.int .i64 40)])
 ) (
 ret (.nxt [x0, x1])
 )
 )
 ) fun o => ret (zz 0 o)
 ) fun o => nx o zy3
 ) fun o => zbl o fun vs => ret (zbi [(zd vs 0), (zd vs 1)])
def zbbg : Hint := (.seq [] .leaf (.seq [0, 1] (.blk (.seq [] .leaf (.cond (.seq [] .leaf .leaf) (.seq [] .leaf (.cond (.seq [] .leaf .leaf) .leaf))))) (.seq [] .leaf (.seq [] .leaf (.seq [] (.seq [] .leaf (.blk (.loop [0, 6, 7, 19, 20, 21] (.seq [] .leaf (.seq [0, 6, 7, 19, 20, 21] (.cond .leaf .leaf) (.seq [0, 6, 7, 19, 20, 21] (.blk (.seq [] .leaf (.seq [0, 6, 7, 9, 19, 20, 21] (.blk (.seq [] .leaf (.cond (.seq [] .leaf .leaf) (.seq [] .leaf (.cond (.seq [] .leaf .leaf) (.seq [] .leaf (.cond (.seq [] .leaf .leaf) .leaf))))))) (.seq [] .leaf .leaf)))) .leaf)))))) (.seq [] .leaf .leaf))))))
def zih : List V → M V := ap2 zou
def zbbh : zu := ovr [(zdu, zbq (ovr [(zb9, zgx)] noC)), (zwl, zot)] noC
theorem zz8 : zq Tryz.prog zp1 (zih) := kn2 (σ := zbbh) (hint := zbbg) (by kernel_rfl) (ze (zim (ze z7r zk)) (ze zbbf zk)) fun _ _ => (by kernel_rfl)
def zvm (x0 : V) : M V :=
 zb (
 zb (za (zw .geq x0 (Value.int .i64 0))) fun x4 =>
 zb (gd x4 true (za (some x0))) fun x6 =>
 zb (gd x4 true (za (zw .lss x6 (Value.int .i64 8)))) fun x7 =>
 zb (za (zbe x4 x7 (Value.bool false))) fun x8 =>
 ret (.ret [x8])
 ) fun o => zbl o fun vs => ret (zbi [(zd vs 0)])
def zbc6 : Hint := (.seq [] .leaf (.seq [] .leaf .leaf))
def zmv : List V → M V := ap1 zvm
theorem zbc7 : zq Tryz.prog zyu (zmv) := kn1 (σ := ovr [] noC) (hint := zbc6) (by kernel_rfl) zk fun _ => (by kernel_rfl)
def zz9 (vs_2 : List V) : M Out :=
 ret (.ret [(Value.int .i64 0)])
def z0a (vs : List V) : M Out :=
 zb (
 zb (
 zb (za (zh 0 (zd vs 0))) fun x9 =>
 zb (ld1 x9) fun x10 =>
 zb (za (zw .neq x10 (Value.int .i64 1))) fun x11 =>
 zb (gd x11 true (za (zh 0 (zd vs 0)))) fun x13 =>
 zb (gd x11 true (ld1 x13)) fun x14 =>
 zb (gd x11 true (za (zw .neq x14 (Value.int .i64 2)))) fun x15 =>
 zb (za (zbe x11 x15 (Value.bool false))) fun x16 =>
 zn x16 (
 ret (.ret [(Value.int .i64 91)])
 ) (
 zb (za (zh 1 (zd vs 0))) fun x18 =>
 zb (ld1 x18) fun x19 =>
 zb (zmv [x19]) fun x20 =>
 zb (za (un .not x20)) fun x21 =>
 zb (gd x21 false (za (zh 2 (zd vs 0)))) fun x23 =>
 zb (gd x21 false (ld1 x23)) fun x24 =>
 zb (gd x21 false (zmv [x24])) fun x25 =>
 zb (gd x21 false (za (un .not x25))) fun x26 =>
 zb (za (zbe x21 (Value.bool true) x26)) fun x27 =>
 zn x27 (
 ret (.ret [(Value.int .i64 1)])
 ) (
 zb (za (zh 1 (zd vs 0))) fun x29 =>
 zb (ld1 x29) fun x30 =>
 zb (za (zh 2 (zd vs 0))) fun x31 =>
 zb (ld1 x31) fun x32 =>
 zb (za (zw .eql x30 x32)) fun x33 =>
 zn x33 (
 ret (.ret [(Value.int .i64 4)])
 ) (
 zb (za (zh 3 (zd vs 0))) fun x35 =>
 zb (ld1 x35) fun x36 =>
 zb (za (zw .lss x36 (Value.int .i64 1))) fun x37 =>
 zb (gd x37 false (za (zh 3 (zd vs 0)))) fun x39 =>
 zb (gd x37 false (ld1 x39)) fun x40 =>
 zb (gd x37 false (za (zw .gtr x40 (Value.int .i64 3)))) fun x41 =>
 zb (za (zbe x37 (Value.bool true) x41)) fun x42 =>
 zn x42 (
 ret (.ret [(Value.int .i64 40)])
 ) (
 zb (za (zh 4 (zd vs 0))) fun x44 =>
 zb (ld1 x44) fun x45 =>
 zb (za (zw .lss x45 (zd vs 1))) fun x47 =>
 zb (gd x47 false (za (zh 4 (zd vs 0)))) fun x49 =>
 zb (gd x47 false (ld1 x49)) fun x50 =>
 zb (gd x47 false (za (some (zd vs 2)))) fun x51 =>
 zb (gd x47 false (za (zw .gtr x50 x51))) fun x52 =>
 zb (za (zbe x47 (Value.bool true) x52)) fun x53 =>
 zn x53 (
 ret (.ret [(Value.int .i64 1)])
 ) (
 ret (.nxt [])
 )
 )
 )
 )
 )
 ) fun o => ret (zz 0 o)
 ) fun o => nx o zz9
def zvn (x0 : V) : M V :=
 zb (
 zb (zfj x0) fun x1 =>
 zb (
 zb (za (zh 0 x1)) fun x5 =>
 zb (ld1 x5) fun x6 =>
 zb (za (zw .eql x6 (Value.int .i64 2))) fun x7 =>
 zn x7 (
 ret (.nxt [x1, (Value.int .i64 1), (Value.int .i64 16)])
 ) (
 ret (.nxt [x1, (Value.int .i64 0), (Value.int .i64 0)])
 )
 ) fun o => nx o z0a
 ) fun o => zbl o fun vs => ret (zbi [(zd vs 0)])
def zbc8 : Hint := (.seq [] .leaf (.seq [] .leaf (.seq [1, 3, 4] (.seq [] .leaf (.cond .leaf .leaf)) (.seq [] (.blk (.seq [] .leaf (.cond (.seq [] .leaf .leaf) (.seq [] .leaf (.cond (.seq [] .leaf .leaf) (.seq [] .leaf (.cond (.seq [] .leaf .leaf) (.seq [] .leaf (.cond (.seq [] .leaf .leaf) (.seq [] .leaf (.cond (.seq [] .leaf .leaf) .leaf))))))))))) (.seq [] .leaf .leaf)))))
def zqj : List V → M V := ap1 zvn
def zbc9 : zu := ovr [(zyu, zmv)] noC
theorem zbda : zq Tryz.prog zyt (zqj) := kn1 (σ := zbc9) (hint := zbc8) (by kernel_rfl) (ze zbc7 zk) fun _ => (by kernel_rfl)
def z0b (vs_4 : List V) : M Out :=
 zb (za (zw .add (zd vs_4 2) (Value.int .i64 1))) fun x23 =>
 ret (.nxt [(zd vs_4 0), (zd vs_4 1), x23])
def z0c (vs_3 : List V) : M Out :=
 zb (
 zb (
 zb (za (zy 5 (zd vs_3 0) (zd vs_3 2))) fun x15 =>
 zb (ldn 5 x15) fun x16 =>
 zb (newc [Value.int .i64 0, Value.int .i64 0, Value.int .i64 0, Value.int .i64 0, Value.int .i64 0]) fun x5 =>
 zb (stn 5 x5 x16) fun _ =>
 zb (ldn 5 x5) fun x17 =>
 zb (zqj [x17]) fun x18 =>
 zb (za (zw .neq x18 (Value.int .i64 0))) fun x20 =>
 zn x20 (
 ret (.ret [(zd vs_3 2), x18])
 ) (
 ret (.nxt [(zd vs_3 0), (zd vs_3 1), (zd vs_3 2)])
 )
 ) fun o => ret (zz 1 o)
 ) fun o => nx o z0b
def ztj (vs_2 : List V) : M Out :=
 zb (za (zw .lss (zd vs_2 2) (zd vs_2 1))) fun x13 =>
 zb (
 zn x13 (
 ret (.nxt [(zd vs_2 0), (zd vs_2 1), (zd vs_2 2)])
 ) (
 ret (.brk 0 [])
 )
 ) fun o => nx o z0c
def z0d (vs_5 : List V) : M Out :=
 ret (.ret [(Value.int .i64 0), (Value.int .i64 0)])
def z0e (vs : List V) : M Out :=
 zb (
 zb (za (zx (zd vs 0))) fun x11 =>
 zb (
 zbj zb8 ztj [(zd vs 0), x11, (Value.int .i64 0)]
 ) fun o => ret (zz 0 o)
 ) fun o => nx o z0d
def zqk (x0 : V) : M V :=
 zb (
 zb (
 zb (za (zx x0)) fun x8 =>
 zb (za (zw .gtr x8 (Value.int .i64 16))) fun x9 =>
 zn x9 (
 ret (.ret [(Value.int .i64 (-1)), (Value.int .i64 2)])
 ) (
 ret (.nxt [x0])
 )
 ) fun o => nx o z0e
 ) fun o => zbl o fun vs => ret (zbi [(zd vs 0), (zd vs 1)])
def zbdb : Hint := (.seq [] .leaf (.seq [0] (.seq [] .leaf (.cond (.seq [] .leaf .leaf) .leaf)) (.seq [] (.seq [] .leaf (.blk (.loop [10, 11, 12] (.seq [] .leaf (.seq [10, 11, 12] (.cond .leaf .leaf) (.seq [10, 11, 12] (.blk (.seq [] .leaf (.seq [] .leaf (.seq [] .leaf (.cond (.seq [] .leaf .leaf) .leaf))))) .leaf)))))) (.seq [] .leaf .leaf))))
def zjm : List V → M V := ap1 zqk
def zbdc : zu := ovr [(zyt, zqj)] noC
theorem z2f : zq Tryz.prog zq7 (zjm) := kn1 (σ := zbdc) (hint := zbdb) (by kernel_rfl) (ze zbda zk) fun _ => (by kernel_rfl)
def zxu (vs_3 : List V) : M Out :=
 zb (za (zw .add (zd vs_3 4) (Value.int .i64 1))) fun x21 =>
 ret (.nxt [(zd vs_3 0), (zd vs_3 1), (zd vs_3 2), (zd vs_3 3), x21])
def zxv (vs_2 : List V) : M Out :=
 zb (
 zb (
 zb (za (zy 3 (zd vs_2 2) (zd vs_2 4))) fun x13 =>
 zb (ldn 3 x13) fun x14 =>
 zb (newc [Value.int .i64 0, Value.int .i64 0, Value.int .i64 0]) fun x7 =>
 zb (stn 3 x7 x14) fun _ =>
 zb (za (zh 0 x7)) fun x15 =>
 zb (ld1 x15) fun x16 =>
 zb (za (zw .eql x16 (zd vs_2 0))) fun x18 =>
 zn x18 (
 zb (za (zw .add (zd vs_2 1) (Value.int .i64 1))) fun x20 =>
 ret (.nxt [(zd vs_2 0), x20, (zd vs_2 2), (zd vs_2 3), (zd vs_2 4)])
 ) (
 ret (.nxt [(zd vs_2 0), (zd vs_2 1), (zd vs_2 2), (zd vs_2 3), (zd vs_2 4)])
 )
 ) fun o => ret (zz 1 o)
 ) fun o => nx o zxu
def zsa (vs : List V) : M Out :=
 zb (za (zw .lss (zd vs 4) (zd vs 3))) fun x12 =>
 zb (
 zn x12 (
 ret (.nxt [(zd vs 0), (zd vs 1), (zd vs 2), (zd vs 3), (zd vs 4)])
 ) (
 ret (.brk 0 [(zd vs 1)])
 )
 ) fun o => nx o zxv
def z5r (vs_4 : List V) : M Out :=
 ret (.ret [(zd vs_4 0)])
def z0f (x0 x1 : V) : M V :=
 zb (
 zb (zfj x0) fun x2 =>
 zb (
 zb (za (zh 1 x2)) fun x8 =>
 zb (ld1 x8) fun x9 =>
 zb (za (zx x9)) fun x10 =>
 zb (
 zbj zb8 zsa [x1, (Value.int .i64 0), x9, x10, (Value.int .i64 0)]
 ) fun o => ret (zz 0 o)
 ) fun o => nx o z5r
 ) fun o => zbl o fun vs => ret (zbi [(zd vs 0)])
def zbhy : Hint := (.seq [] .leaf (.seq [] .leaf (.seq [5] (.seq [] .leaf (.blk (.loop [1, 5, 9, 10, 11] (.seq [] .leaf (.seq [1, 5, 9, 10, 11] (.cond .leaf .leaf) (.seq [1, 5, 9, 10, 11] (.blk (.seq [] .leaf (.seq [] .leaf (.cond .leaf .leaf)))) .leaf)))))) (.seq [] .leaf .leaf))))
def zq2 : List V → M V := ap2 z0f
theorem zbhz : zq Tryz.prog z2a (zq2) := kn2 (σ := ovr [] noC) (hint := zbhy) (by kernel_rfl) zk fun _ _ => (by kernel_rfl)
def z2g (vs_4 : List V) : M Out :=
 zb (za (zh 1 (zd vs_4 2))) fun x84 =>
 zb (ld1 x84) fun x85 =>
 zb (za (zh 2 (zd vs_4 2))) fun x86 =>
 zb (ld1 x86) fun x87 =>
 zb (za (zw .add x85 x87)) fun x88 =>
 ret (.nxt [(zd vs_4 0), (zd vs_4 1), x88, (zd vs_4 3), (zd vs_4 4), (zd vs_4 5)])
def z2h (vs_5 : List V) : M Out :=
 zb (za (zw .add (zd vs_5 5) (Value.int .i64 1))) fun x89 =>
 ret (.nxt [(zd vs_5 0), (zd vs_5 1), (zd vs_5 2), (zd vs_5 3), (zd vs_5 4), x89])
def zgr (vs_3 : List V) : M Out :=
 zb (
 zb (
 zb (za (zy 3 (zd vs_3 3) (zd vs_3 5))) fun x44 =>
 zb (ldn 3 x44) fun x45 =>
 zb (newc [Value.int .i64 0, Value.int .i64 0, Value.int .i64 0]) fun x8 =>
 zb (stn 3 x8 x45) fun _ =>
 zb (
 zb (za (zh 0 x8)) fun x46 =>
 zb (ld1 x46) fun x47 =>
 zb (za (zw .lss x47 (Value.int .i64 (-1)))) fun x48 =>
 zb (gd x48 false (za (zh 0 x8))) fun x50 =>
 zb (gd x48 false (ld1 x50)) fun x51 =>
 zb (gd x48 false (za (some (zd vs_3 0)))) fun x52 =>
 zb (gd x48 false (za (zw .geq x51 x52))) fun x53 =>
 zb (za (zbe x48 (Value.bool true) x53)) fun x54 =>
 zb (gd x54 false (za (zh 2 x8))) fun x56 =>
 zb (gd x54 false (ld1 x56)) fun x57 =>
 zb (gd x54 false (za (zw .lss x57 (Value.int .i64 1)))) fun x58 =>
 zb (za (zbe x54 (Value.bool true) x58)) fun x59 =>
 zb (gd x59 false (za (zh 1 x8))) fun x61 =>
 zb (gd x59 false (ld1 x61)) fun x62 =>
 zb (gd x59 false (za (some (zd vs_3 2)))) fun x63 =>
 zb (gd x59 false (za (zw .lss x62 x63))) fun x64 =>
 zb (za (zbe x59 (Value.bool true) x64)) fun x65 =>
 zb (gd x65 false (za (zh 1 x8))) fun x67 =>
 zb (gd x65 false (ld1 x67)) fun x68 =>
 zb (gd x65 false (za (zh 0 (zd vs_3 1)))) fun x69 =>
 zb (gd x65 false (ld1 x69)) fun x70 =>
 zb (gd x65 false (za (zw .gtr x68 x70))) fun x71 =>
 zb (za (zbe x65 (Value.bool true) x71)) fun x72 =>
 zb (gd x72 false (za (zh 2 x8))) fun x74 =>
 zb (gd x72 false (ld1 x74)) fun x75 =>
 zb (gd x72 false (za (zh 0 (zd vs_3 1)))) fun x76 =>
 zb (gd x72 false (ld1 x76)) fun x77 =>
 zb (gd x72 false (za (zh 1 x8))) fun x78 =>
 zb (gd x72 false (ld1 x78)) fun x79 =>
 zb (gd x72 false (za (zw .sub x77 x79))) fun x80 =>
 zb (gd x72 false (za (zw .gtr x75 x80))) fun x81 =>
 zb (za (zbe x72 (Value.bool true) x81)) fun x82 =>
 zn x82 (
 ret (.ret [(zd vs_3 5), (Value.int .i64 210)])
 ) (
 ret (.nxt [(zd vs_3 0), (zd vs_3 1), x8, (zd vs_3 3), (zd vs_3 4), (zd vs_3 5)])
 )
 ) fun o => nx o z2g
 ) fun o => ret (zz 2 o)
 ) fun o => nx o z2h
def zfm (vs_2 : List V) : M Out :=
 zb (za (zw .lss (zd vs_2 5) (zd vs_2 4))) fun x42 =>
 zb (
 zn x42 (
 ret (.nxt [(zd vs_2 0), (zd vs_2 1), (zd vs_2 2), (zd vs_2 3), (zd vs_2 4), (zd vs_2 5)])
 ) (
 ret (.brk 1 [(zd vs_2 0), (zd vs_2 1)])
 )
 ) fun o => nx o zgr
def z2i (vs_10 : List V) : M Out :=
 zb (za (zw .add (zd vs_10 2) (Value.int .i64 1))) fun x101 =>
 ret (.nxt [(zd vs_10 0), (zd vs_10 1), x101])
def z2j (vs_9 : List V) : M Out :=
 zb (
 zb (
 zb (ldn 2 (zd vs_9 0)) fun x97 =>
 zb (zq2 [x97, (zd vs_9 2)]) fun x99 =>
 zb (za (zw .eql x99 (Value.int .i64 0))) fun x100 =>
 zn x100 (
 ret (.ret [(Value.int .i64 (-1)), (Value.int .i64 210)])
 ) (
 ret (.nxt [(zd vs_9 0), (zd vs_9 1), (zd vs_9 2)])
 )
 ) fun o => ret (zz 4 o)
 ) fun o => nx o z2i
def zvo (vs_8 : List V) : M Out :=
 zb (za (zw .lss (zd vs_8 2) (zd vs_8 1))) fun x95 =>
 zb (
 zn x95 (
 ret (.nxt [(zd vs_8 0), (zd vs_8 1), (zd vs_8 2)])
 ) (
 ret (.brk 3 [])
 )
 ) fun o => nx o z2j
def z2k (vs_11 : List V) : M Out :=
 ret (.ret [(Value.int .i64 0), (Value.int .i64 0)])
def z2l (vs_7 : List V) : M Out :=
 zb (
 zb (
 zbj zb8 zvo [(zd vs_7 1), (zd vs_7 0), (Value.int .i64 0)]
 ) fun o => ret (zz 3 o)
 ) fun o => nx o z2k
def z2m (vs_6 : List V) : M Out :=
 zb (
 zb (ldn 2 (zd vs_6 1)) fun x90 =>
 zb (zq2 [x90, (Value.int .i64 (-1))]) fun x91 =>
 zb (za (zw .gtr x91 (Value.int .i64 1))) fun x92 =>
 zn x92 (
 ret (.ret [(Value.int .i64 (-1)), (Value.int .i64 210)])
 ) (
 ret (.nxt [(zd vs_6 0), (zd vs_6 1)])
 )
 ) fun o => nx o z2l
def z0g (vs : List V) : M Out :=
 zb (
 zb (za (zh 1 (zd vs 1))) fun x38 =>
 zb (ld1 x38) fun x39 =>
 zb (za (zx x39)) fun x40 =>
 zb (
 zbj zb8 zfm [(zd vs 0), (zd vs 1), (Value.int .i64 0), x39, x40, (Value.int .i64 0)]
 ) fun o => ret (zz 1 o)
 ) fun o => nx o z2m
def zgj (x0 x1 : V) : M V :=
 zb (
 zb (zfj x0) fun x2 =>
 zb (
 zb (
 zb (za (zw .lss x1 (Value.int .i64 1))) fun x12 =>
 zb (gd x12 false (za (some x1))) fun x14 =>
 zb (gd x12 false (za (zw .gtr x14 (Value.int .i64 8)))) fun x15 =>
 zb (za (zbe x12 (Value.bool true) x15)) fun x16 =>
 zn x16 (
 ret (.ret [(Value.int .i64 (-1)), (Value.int .i64 1)])
 ) (
 zb (za (zh 0 x2)) fun x18 =>
 zb (ld1 x18) fun x19 =>
 zb (za (zw .lss x19 (Value.int .i64 1))) fun x20 =>
 zb (gd x20 false (za (zh 0 x2))) fun x22 =>
 zb (gd x20 false (ld1 x22)) fun x23 =>
 zb (gd x20 false (za (zw .gtr x23 (Value.int .i64 65536)))) fun x24 =>
 zb (za (zbe x20 (Value.bool true) x24)) fun x25 =>
 zb (gd x25 false (za (zh 1 x2))) fun x27 =>
 zb (gd x25 false (ld1 x27)) fun x28 =>
 zb (gd x25 false (za (zx x28))) fun x29 =>
 zb (gd x25 false (za (zw .lss x29 (Value.int .i64 1)))) fun x30 =>
 zb (za (zbe x25 (Value.bool true) x30)) fun x31 =>
 zb (gd x31 false (za (zh 1 x2))) fun x33 =>
 zb (gd x31 false (ld1 x33)) fun x34 =>
 zb (gd x31 false (za (zx x34))) fun x35 =>
 zb (gd x31 false (za (zw .gtr x35 (Value.int .i64 32)))) fun x36 =>
 zb (za (zbe x31 (Value.bool true) x36)) fun x37 =>
 zn x37 (
 ret (.ret [(Value.int .i64 (-1)), (Value.int .i64 210)])
 ) (
 ret (.nxt [x1, x2])
 )
 )
 ) fun o => ret (zz 0 o)
 ) fun o => nx o z0g
 ) fun o => zbl o fun vs => ret (zbi [(zd vs 0), (zd vs 1)])
def zbfg : Hint := (.seq [] .leaf (.seq [1, 2] (.blk (.seq [] .leaf (.cond (.seq [] .leaf .leaf) (.seq [] .leaf (.cond (.seq [] .leaf .leaf) .leaf))))) (.seq [] .leaf (.seq [1, 2] (.seq [] .leaf (.blk (.loop [1, 2, 6, 39, 40, 41] (.seq [] .leaf (.seq [1, 2, 6, 39, 40, 41] (.cond .leaf .leaf) (.seq [1, 2, 6, 39, 40, 41] (.blk (.seq [] .leaf (.seq [1, 2, 8, 39, 40, 41] (.seq [] .leaf (.cond (.seq [] .leaf .leaf) .leaf)) .leaf))) .leaf)))))) (.seq [1, 2] (.seq [] .leaf (.cond (.seq [] .leaf .leaf) .leaf)) (.seq [] (.seq [] .leaf (.blk (.loop [2, 93, 94] (.seq [] .leaf (.seq [2, 93, 94] (.cond .leaf .leaf) (.seq [2, 93, 94] (.blk (.seq [] .leaf (.seq [] .leaf (.cond (.seq [] .leaf .leaf) .leaf)))) .leaf)))))) (.seq [] .leaf .leaf)))))))
def zsb : List V → M V := ap2 zgj
def zbfh : zu := ovr [(z2a, zq2)] noC
theorem zbfi : zq Tryz.prog zzz (zsb) := kn2 (σ := zbfh) (hint := zbfg) (by kernel_rfl) (ze zbhz zk) fun _ _ => (by kernel_rfl)
def ztk (x0 x1 : V) : M V :=
 zb (
 zb (zfj x0) fun x2 =>
 zb (za (zh 0 x2)) fun x4 =>
 zb (ld1 x4) fun x5 =>
 zb (ld1 x1) fun x6 =>
 zb (za (zw .geq x5 x6)) fun x7 =>
 ret (.ret [x7])
 ) fun o => zbl o fun vs => ret (zbi [(zd vs 0)])
def zbbi : Hint := (.seq [] .leaf (.seq [] .leaf .leaf))
def zeg : List V → M V := ap2 ztk
theorem z0h : zq Tryz.prog zdi (zeg) := kn2 (σ := ovr [] noC) (hint := zbbi) (by kernel_rfl) zk fun _ _ => (by kernel_rfl)
def zi9 (S : zu) (vs_3 : List V) : M Out :=
 zb (za (zw .add (zd vs_3 3) (Value.int .i64 1))) fun x18 =>
 ret (.nxt [(zd vs_3 0), (zd vs_3 1), (zd vs_3 2), x18])
def zja (S : zu) (vs_2 : List V) : M Out :=
 zb (
 zb (
 zb (za (zy 3 (zd vs_2 0) (zd vs_2 3))) fun x14 =>
 zb (ldn 3 x14) fun x15 =>
 zb (zlz (ovr [] S) (zd vs_2 1) [x15]) fun x16 =>
 zn x16 (
 ret (.ret [(zd vs_2 3)])
 ) (
 ret (.nxt [(zd vs_2 0), (zd vs_2 1), (zd vs_2 2), (zd vs_2 3)])
 )
 ) fun o => ret (zz 1 o)
 ) fun o => nx o (zi9 S)
def zjb (S : zu) (vs : List V) : M Out :=
 zb (za (zw .lss (zd vs 3) (zd vs 2))) fun x9 =>
 zb (
 zn x9 (
 ret (.nxt [(zd vs 0), (zd vs 1), (zd vs 2), (zd vs 3)])
 ) (
 ret (.brk 0 [])
 )
 ) fun o => nx o (zja S)
def zjc (S : zu) (vs_4 : List V) : M Out :=
 ret (.ret [(Value.int .i64 (-1))])
def zju (S : zu) (x0 x1 : V) : M V :=
 zb (
 zb (
 zb (za (zx x0)) fun x7 =>
 zb (
 zbj zb8 (zjb S) [x0, x1, x7, (Value.int .i64 0)]
 ) fun o => ret (zz 0 o)
 ) fun o => nx o (zjc S)
 ) fun o => zbl o fun vs => ret (zbi [(zd vs 0)])
def zjv : Hint := (.seq [] .leaf (.seq [] (.seq [] .leaf (.blk (.loop [0, 1, 7, 8] (.seq [] .leaf (.seq [0, 1, 7, 8] (.cond .leaf .leaf) (.seq [0, 1, 7, 8] (.blk (.seq [] .leaf (.seq [] .leaf (.cond (.seq [] .leaf .leaf) .leaf)))) .leaf)))))) (.seq [] .leaf .leaf)))
def zcx (S : zu) : List V → M V := ap2 (zju S)
theorem zjw {S : zu} (hS : zdw Tryz.prog S) : zq Tryz.prog zed (zcx S) := kn2 (σ := ovr [] S) (hint := zjv) (by kernel_rfl) (zd3 hS) fun _ _ => (by kernel_rfl)
def zin (S : zu) (x0 x1 : V) : M V :=
 zb (
 zb ((zcx S) [x0, x1]) fun x7 =>
 zb (za (zw .geq x7 (Value.int .i64 0))) fun x8 =>
 ret (.ret [x8])
 ) fun o => zbl o fun vs => ret (zbi [(zd vs 0)])
def zio : Hint := (.seq [] .leaf (.seq [] .leaf .leaf))
def zbb (S : zu) : List V → M V := ap2 (zin S)
theorem zea {S : zu} (hS : zdw Tryz.prog S) : zq Tryz.prog zcd (zbb S) := kn2 (σ := ovr [(zed, zcx S)] S) (hint := zio) (by kernel_rfl) (ze (zjw (zd3 hS)) (zd3 hS)) fun _ _ => (by kernel_rfl)
def zov (x0 x1 : V) : M V :=
 zb (
 zb (zfj x0) fun x2 =>
 zb (za (zh 1 x2)) fun x4 =>
 zb (ld1 x4) fun x5 =>
 zb (ld1 x1) fun x6 =>
 zb (za (zw .geq x5 x6)) fun x7 =>
 zb (gd x7 false (za (zh 2 x2))) fun x9 =>
 zb (gd x7 false (ld1 x9)) fun x10 =>
 zb (gd x7 false (ld1 x1)) fun x11 =>
 zb (gd x7 false (za (zw .geq x10 x11))) fun x12 =>
 zb (za (zbe x7 (Value.bool true) x12)) fun x13 =>
 ret (.ret [x13])
 ) fun o => zbl o fun vs => ret (zbi [(zd vs 0)])
def zbbj : Hint := (.seq [] .leaf (.seq [] .leaf .leaf))
def zeh : List V → M V := ap2 zov
theorem z0i : zq Tryz.prog zdj (zeh) := kn2 (σ := ovr [] noC) (hint := zbbj) (by kernel_rfl) zk fun _ _ => (by kernel_rfl)
def zj7 (S : zu) (vs_3 : List V) : M Out :=
 zb (za (zw .add (zd vs_3 3) (Value.int .i64 1))) fun x18 =>
 ret (.nxt [(zd vs_3 0), (zd vs_3 1), (zd vs_3 2), x18])
def zj8 (S : zu) (vs_2 : List V) : M Out :=
 zb (
 zb (
 zb (za (zy 5 (zd vs_2 0) (zd vs_2 3))) fun x14 =>
 zb (ldn 5 x14) fun x15 =>
 zb (zlz (ovr [] S) (zd vs_2 1) [x15]) fun x16 =>
 zn x16 (
 ret (.ret [(zd vs_2 3)])
 ) (
 ret (.nxt [(zd vs_2 0), (zd vs_2 1), (zd vs_2 2), (zd vs_2 3)])
 )
 ) fun o => ret (zz 1 o)
 ) fun o => nx o (zj7 S)
def zj9 (S : zu) (vs : List V) : M Out :=
 zb (za (zw .lss (zd vs 3) (zd vs 2))) fun x9 =>
 zb (
 zn x9 (
 ret (.nxt [(zd vs 0), (zd vs 1), (zd vs 2), (zd vs 3)])
 ) (
 ret (.brk 0 [])
 )
 ) fun o => nx o (zj8 S)
def zka (S : zu) (vs_4 : List V) : M Out :=
 ret (.ret [(Value.int .i64 (-1))])
def zk2 (S : zu) (x0 x1 : V) : M V :=
 zb (
 zb (
 zb (za (zx x0)) fun x7 =>
 zb (
 zbj zb8 (zj9 S) [x0, x1, x7, (Value.int .i64 0)]
 ) fun o => ret (zz 0 o)
 ) fun o => nx o (zka S)
 ) fun o => zbl o fun vs => ret (zbi [(zd vs 0)])
def zk3 : Hint := (.seq [] .leaf (.seq [] (.seq [] .leaf (.blk (.loop [0, 1, 7, 8] (.seq [] .leaf (.seq [0, 1, 7, 8] (.cond .leaf .leaf) (.seq [0, 1, 7, 8] (.blk (.seq [] .leaf (.seq [] .leaf (.cond (.seq [] .leaf .leaf) .leaf)))) .leaf)))))) (.seq [] .leaf .leaf)))
def zdc (S : zu) : List V → M V := ap2 (zk2 S)
theorem zk4 {S : zu} (hS : zdw Tryz.prog S) : zq Tryz.prog ze1 (zdc S) := kn2 (σ := ovr [] S) (hint := zk3) (by kernel_rfl) (zd3 hS) fun _ _ => (by kernel_rfl)
def zjd (S : zu) (x0 x1 : V) : M V :=
 zb (
 zb ((zdc S) [x0, x1]) fun x7 =>
 zb (za (zw .geq x7 (Value.int .i64 0))) fun x8 =>
 ret (.ret [x8])
 ) fun o => zbl o fun vs => ret (zbi [(zd vs 0)])
def zje : Hint := (.seq [] .leaf (.seq [] .leaf .leaf))
def zbt (S : zu) : List V → M V := ap2 (zjd S)
theorem zjf {S : zu} (hS : zdw Tryz.prog S) : zq Tryz.prog zd9 (zbt S) := kn2 (σ := ovr [(ze1, zdc S)] S) (hint := zje) (by kernel_rfl) (ze (zk4 (zd3 hS)) (zd3 hS)) fun _ _ => (by kernel_rfl)
def z2n (vs : List V) : M Out :=
 zb (za (build [] [])) fun x15 =>
 zb (za (some (Value.iface zs6 x15))) fun x16 =>
 ret (.ret [x16])
def zow (x0 : V) : M V :=
 zb (
 zb (zfj x0) fun x1 =>
 zb (
 zb (za (zh 0 x1)) fun x3 =>
 zb (ld1 x3) fun x4 =>
 zb (
 zb (za (zw .eql x4 (Value.int .i64 1))) fun x6 =>
 zn x6 (
 zb (za (zh 1 x1)) fun x7 =>
 zb (ld1 x7) fun x8 =>
 zb (za (some (Value.iface zoh x8))) fun x9 =>
 ret (.ret [x9])
 ) (
 zb (za (zw .eql x4 (Value.int .i64 2))) fun x11 =>
 zn x11 (
 zb (za (zh 1 x1)) fun x12 =>
 zb (ld1 x12) fun x13 =>
 zb (za (some (Value.iface zqi x13))) fun x14 =>
 ret (.ret [x14])
 ) (
 ret (.nxt [])
 )
 )
 ) fun o => ret (zz 0 o)
 ) fun o => nx o z2n
 ) fun o => zbl o fun vs => ret (zbi [(zd vs 0)])
def zbfj : Hint := (.seq [] .leaf (.seq [] (.seq [] .leaf (.blk (.seq [] .leaf (.cond (.seq [] .leaf .leaf) (.seq [] .leaf (.cond (.seq [] .leaf .leaf) .leaf)))))) (.seq [] .leaf .leaf)))
def zei : List V → M V := ap1 zow
theorem z5s : zq Tryz.prog zg1 (zei) := kn1 (σ := ovr [] noC) (hint := zbfj) (by kernel_rfl) zk fun _ => (by kernel_rfl)
def zgs (vs_3 : List V) : M Out :=
 zb (za (zw .add (zd vs_3 3) (Value.int .i64 1))) fun x18 =>
 ret (.nxt [(zd vs_3 0), (zd vs_3 1), (zd vs_3 2), x18])
def zdt (vs_2 : List V) : M Out :=
 zb (
 zb (
 zb (za (zy 2 (zd vs_2 0) (zd vs_2 3))) fun x14 =>
 zb (ldn 2 (zd vs_2 1)) fun x11 =>
 zb (ldn 2 x14) fun x15 =>
 zb (za (zgp false (zyi [.i, .i] x11 x15))) fun x16 =>
 zn x16 (
 ret (.ret [(zd vs_2 3)])
 ) (
 ret (.nxt [(zd vs_2 0), (zd vs_2 1), (zd vs_2 2), (zd vs_2 3)])
 )
 ) fun o => ret (zz 1 o)
 ) fun o => nx o zgs
def zcj (vs : List V) : M Out :=
 zb (za (zw .lss (zd vs 3) (zd vs 2))) fun x9 =>
 zb (
 zn x9 (
 ret (.nxt [(zd vs 0), (zd vs 1), (zd vs 2), (zd vs 3)])
 ) (
 ret (.brk 0 [])
 )
 ) fun o => nx o zdt
def zgt (vs_4 : List V) : M Out :=
 ret (.ret [(Value.int .i64 (-1))])
def zdx (x0 x1 : V) : M V :=
 zb (
 zb (zfj x1) fun x3 =>
 zb (
 zb (za (zx x0)) fun x7 =>
 zb (
 zbj zb8 zcj [x0, x3, x7, (Value.int .i64 0)]
 ) fun o => ret (zz 0 o)
 ) fun o => nx o zgt
 ) fun o => zbl o fun vs => ret (zbi [(zd vs 0)])
def zna : Hint := (.seq [] .leaf (.seq [] (.seq [] .leaf (.blk (.loop [0, 3, 7, 8] (.seq [] .leaf (.seq [0, 3, 7, 8] (.cond .leaf .leaf) (.seq [0, 3, 7, 8] (.blk (.seq [] .leaf (.seq [] (.reg [1, 2, 3, 0, 4, 5] []) (.cond (.seq [] .leaf .leaf) .leaf)))) .leaf)))))) (.seq [] .leaf .leaf)))
def zco : List V → M V := ap2 zdx
theorem znb : zq Tryz.prog zgc (zco) := kn2 (σ := ovr [] noC) (hint := zna) (by kernel_rfl) zk fun _ _ => (by kernel_rfl)
def zdn (x0 x1 : V) : M V :=
 zb (
 zb (zfj x1) fun x3 =>
 zb (ldn 2 x3) fun x6 =>
 zb (zco [x0, x6]) fun x7 =>
 zb (za (zw .geq x7 (Value.int .i64 0))) fun x8 =>
 ret (.ret [x8])
 ) fun o => zbl o fun vs => ret (zbi [(zd vs 0)])
def zlt : Hint := (.seq [] .leaf (.seq [] .leaf .leaf))
def zbh : List V → M V := ap2 zdn
def zlu : zu := ovr [(zgc, zco)] noC
theorem zlv : zq Tryz.prog zb1 (zbh) := kn2 (σ := zlu) (hint := zlt) (by kernel_rfl) (ze znb zk) fun _ _ => (by kernel_rfl)
def zdy (x0 x1 x2 x3 : V) : M V :=
 zb (
 zb (zfj x0) fun x4 =>
 zb (za (zh 0 x4)) fun x6 =>
 zb (ld1 x6) fun x7 =>
 zb (ld1 x1) fun x8 =>
 zb (za (zw .eql x7 x8)) fun x9 =>
 zb (gd x9 true (za (zh 1 x4))) fun x11 =>
 zb (gd x9 true (ld1 x11)) fun x12 =>
 zb (gd x9 true (ld1 x2)) fun x13 =>
 zb (gd x9 true (za (zw .eql x12 x13))) fun x14 =>
 zb (za (zbe x9 x14 (Value.bool false))) fun x15 =>
 zb (gd x15 true (za (zh 2 x4))) fun x17 =>
 zb (gd x15 true (ld1 x17)) fun x18 =>
 zb (gd x15 true (za (some x18))) fun x19 =>
 zb (gd x19 false (ld1 x3)) fun x20 =>
 zb (gd x19 false (za (un .not x20))) fun x21 =>
 zb (gd x15 true (za (zbe x19 (Value.bool true) x21))) fun x22 =>
 zb (za (zbe x15 x22 (Value.bool false))) fun x23 =>
 ret (.ret [x23])
 ) fun o => zbl o fun vs => ret (zbi [(zd vs 0)])
def z35 : Hint := (.seq [] .leaf (.seq [] .leaf .leaf))
def zfa : List V → M V := ap4 zdy
theorem z36 : zq Tryz.prog zd4 (zfa) := kn4 (σ := ovr [] noC) (hint := z35) (by kernel_rfl) zk fun _ _ _ _ => (by kernel_rfl)
def zp6 (x0 x1 x2 x3 : V) : M V :=
 zb (
 zb (zfj x0) fun x4 =>
 zb (zfj x1) fun x5 =>
 zb (zfj x2) fun x6 =>
 zb (zfj x3) fun x7 =>
 zb (za (zh 1 x5)) fun x9 =>
 zb (ld1 x9) fun x10 =>
 zb (za (some (Value.func (.func zd4) #[] #[x6, x4, x7]))) fun x11 =>
 zb ((zbb (ovr [(zd4, zfa)] noC)) [x10, x11]) fun x12 =>
 ret (.ret [x12])
 ) fun o => zbl o fun vs => ret (zbi [(zd vs 0)])
def z7s : Hint := (.seq [] .leaf (.seq [] .leaf .leaf))
def zii : List V → M V := ap4 zp6
def z7t : zu := ovr [(zcd, zbb (ovr [(zd4, zfa)] noC))] noC
theorem z7u : zq Tryz.prog zg2 (zii) := kn4 (σ := z7t) (hint := z7s) (by kernel_rfl) (ze (zea (ze z36 zk)) zk) fun _ _ _ _ => (by kernel_rfl)
def zp7 (vs_2 : List V) : M Out :=
 zb (za (zh 2 (zd vs_2 2))) fun x27 =>
 zb (ld1 x27) fun x28 =>
 zb (za (zy 5 x28 (zd vs_2 0))) fun x30 =>
 zb (za (zh 2 x30)) fun x31 =>
 zb (ld1 x31) fun x32 =>
 zb (za (zw .eql x32 (zd vs_2 1))) fun x34 =>
 ret (.ret [x34])
def zp8 (vs : List V) : M Out :=
 zb (
 zn (zd vs 2) (
 zb (za (zh 2 (zd vs 3))) fun x19 =>
 zb (ld1 x19) fun x20 =>
 zb (za (zy 5 x20 (zd vs 0))) fun x22 =>
 zb (za (zh 1 x22)) fun x23 =>
 zb (ld1 x23) fun x24 =>
 zb (za (zw .eql x24 (zd vs 1))) fun x26 =>
 ret (.ret [x26])
 ) (
 ret (.nxt [(zd vs 0), (zd vs 1), (zd vs 3)])
 )
 ) fun o => nx o zp7
def zrb (x0 x1 x2 x3 : V) : M V :=
 zb (
 zb (zfj x1) fun x5 =>
 zb (
 zb (za (zw .lss x0 (Value.int .i64 0))) fun x10 =>
 zb (gd x10 false (za (some x0))) fun x12 =>
 zb (gd x10 false (za (zh 2 x5))) fun x13 =>
 zb (gd x10 false (ld1 x13)) fun x14 =>
 zb (gd x10 false (za (zx x14))) fun x15 =>
 zb (gd x10 false (za (zw .geq x12 x15))) fun x16 =>
 zb (za (zbe x10 (Value.bool true) x16)) fun x17 =>
 zn x17 (
 ret (.ret [(Value.bool false)])
 ) (
 ret (.nxt [x0, x2, x3, x5])
 )
 ) fun o => nx o zp8
 ) fun o => zbl o fun vs => ret (zbi [(zd vs 0)])
def z9d : Hint := (.seq [] .leaf (.seq [0, 2, 3, 5] (.seq [] .leaf (.cond (.seq [] .leaf .leaf) .leaf)) (.seq [0, 2, 5] (.seq [] .leaf (.cond (.seq [] .leaf .leaf) .leaf)) (.seq [] .leaf .leaf))))
def zjg : List V → M V := ap4 zrb
theorem z9e : zq Tryz.prog zhr (zjg) := kn4 (σ := ovr [] noC) (hint := z9d) (by kernel_rfl) zk fun _ _ _ _ => (by kernel_rfl)
def zp9 (x0 x1 x2 x3 : V) : M V :=
 zb (
 zb (zfj x0) fun x4 =>
 zb (zfj x1) fun x5 =>
 ret (.ret [(Value.bool false)])
 ) fun o => zbl o fun vs => ret (zbi [(zd vs 0)])
def z7v : Hint := (.seq [] .leaf (.seq [] .leaf .leaf))
def zij : List V → M V := ap4 zp9
theorem z7w : zq Tryz.prog zg4 (zij) := kn4 (σ := ovr [] noC) (hint := z7v) (by kernel_rfl) zk fun _ _ _ _ => (by kernel_rfl)
noncomputable def z2o (vs_4 : List V) : M Out :=
 zb (za (zw .add (zd vs_4 6) (Value.int .i64 1))) fun x35 =>
 ret (.nxt [(zd vs_4 0), (zd vs_4 1), (zd vs_4 2), (zd vs_4 3), (zd vs_4 4), (zd vs_4 5), x35])
noncomputable def z2p (vs_3 : List V) : M Out :=
 zb (
 zb (
 zb (za (zy 2 (zd vs_3 4) (zd vs_3 6))) fun x19 =>
 zb (ldn 2 x19) fun x20 =>
 zb (newc [Value.int .i64 0, Value.int .i64 0]) fun x10 =>
 zb (stn 2 x10 x20) fun _ =>
 zmo fun h0 =>
 zb (ldn 2 x10) fun x21 =>
 zb (ldn 7 (zd vs_3 3)) fun x23 =>
 zdg (zei [x21]) fun ha x22 h1 =>
 zdg (invM Tryz.prog (ovr [(zg2, zii), (zhr, zjg), (zg4, zij), (zg1, zei), (zb1, zbh)] noC) x22 "capstan/exec.may" [x23, (zd vs_3 0), (zd vs_3 2)]) fun ha_2 x26 h2 =>
 zb (za (un .not x26)) fun x27 =>
 zb (gd x27 false (za (some (zd vs_3 1)))) fun x29 =>
 zb (gd x27 false (za (some (zd vs_3 6)))) fun x30 =>
 zb (gd x27 false (za (zhk 2 x29 none (some x30)))) fun x31 =>
 zb (gd x27 false (ldn 2 x10)) fun x32 =>
 zdg (gd x27 false (zbh [x31, x32])) fun ha_3 x33 h3 =>
 zb (za (zbe x27 (Value.bool true) x33)) fun x34 =>
 zj5 (chk (ldn 7 (zd vs_3 3)) h1 x23) <|
 zn x34 (
 ret (.ret [(Value.bool false)])
 ) (
 ret (.nxt [(zd vs_3 0), (zd vs_3 1), (zd vs_3 2), (zd vs_3 3), (zd vs_3 4), (zd vs_3 5), (zd vs_3 6)])
 )
 ) fun o => ret (zz 1 o)
 ) fun o => nx o z2o
noncomputable def zvp (vs_2 : List V) : M Out :=
 zb (za (zw .lss (zd vs_2 6) (zd vs_2 5))) fun x17 =>
 zb (
 zn x17 (
 ret (.nxt [(zd vs_2 0), (zd vs_2 1), (zd vs_2 2), (zd vs_2 3), (zd vs_2 4), (zd vs_2 5), (zd vs_2 6)])
 ) (
 ret (.brk 0 [])
 )
 ) fun o => nx o z2p
noncomputable def z2q (vs_5 : List V) : M Out :=
 ret (.ret [(Value.bool true)])
noncomputable def z2r (vs : List V) : M Out :=
 zb (
 zb (za (zx (zd vs 1))) fun x15 =>
 zb (
 zbj zb8 zvp [(zd vs 0), (zd vs 1), (zd vs 2), (zd vs 3), (zd vs 1), x15, (Value.int .i64 0)]
 ) fun o => ret (zz 0 o)
 ) fun o => nx o z2q
noncomputable def zxw (x0 x1 x2 x3 : V) : M V :=
 zb (
 zb (zfj x0) fun x4 =>
 zb (
 zb (za (zx x2)) fun x12 =>
 zb (za (zw .gtr x12 (Value.int .i64 32))) fun x13 =>
 zn x13 (
 ret (.ret [(Value.bool false)])
 ) (
 ret (.nxt [x1, x2, x3, x4])
 )
 ) fun o => nx o z2r
 ) fun o => zbl o fun vs => ret (zbi [(zd vs 0)])
def zbfk : Hint := (.seq [] .leaf (.seq [1, 2, 3, 4] (.seq [] .leaf (.cond (.seq [] .leaf .leaf) .leaf)) (.seq [] (.seq [] .leaf (.blk (.loop [1, 2, 3, 4, 14, 15, 16] (.seq [] .leaf (.seq [1, 2, 3, 4, 14, 15, 16] (.cond .leaf .leaf) (.seq [1, 2, 3, 4, 14, 15, 16] (.blk (.seq [] .leaf (.seq [] (.reg [3, 4, 0, 2, 1, 5, 6, 7, 8, 9, 10, 11, 12, 13] []) (.cond (.seq [] .leaf .leaf) .leaf)))) .leaf)))))) (.seq [] .leaf .leaf))))
noncomputable def zox : List V → M V := ap4 zxw
noncomputable def zbfl : zu := ovr [(zg2, zii), (zhr, zjg), (zg4, zij), (zg1, zei), (zb1, zbh)] noC
theorem zbfm : zq Tryz.prog zz0 (zox) := kn4 (σ := zbfl) (hint := zbfk) (by kernel_rfl) (ze z7u (ze z9e (ze z7w (ze z5s (ze zlv zk))))) fun _ _ _ _ => (by kernel_rfl)
noncomputable def z2s (vs_7 : List V) : M Out :=
 zb (za (zw .add (zd vs_7 3) (Value.int .i64 1))) fun x89 =>
 ret (.nxt [(zd vs_7 0), (zd vs_7 1), (zd vs_7 2), x89])
noncomputable def z2t (vs_6 : List V) : M Out :=
 zb (
 zb (
 zb (za (zy 2 (zd vs_6 1) (zd vs_6 3))) fun x73 =>
 zb (ldn 2 x73) fun x74 =>
 zb (newc [Value.slice none 0 0, Value.slice none 0 0]) fun x11 =>
 zb (stn 2 x11 x74) fun _ =>
 zb (ldn 7 (zd vs_6 0)) fun x75 =>
 zb (za (zh 0 x11)) fun x77 =>
 zb (ld1 x77) fun x78 =>
 zb (zox [x75, (zd vs_6 3), x78, (Value.bool false)]) fun x79 =>
 zb (za (un .not x79)) fun x80 =>
 zb (gd x80 false (ldn 7 (zd vs_6 0))) fun x82 =>
 zb (gd x80 false (za (some (zd vs_6 3)))) fun x83 =>
 zb (gd x80 false (za (zh 1 x11))) fun x84 =>
 zb (gd x80 false (ld1 x84)) fun x85 =>
 zb (gd x80 false (zox [x82, x83, x85, (Value.bool true)])) fun x86 =>
 zb (gd x80 false (za (un .not x86))) fun x87 =>
 zb (za (zbe x80 (Value.bool true) x87)) fun x88 =>
 zn x88 (
 ret (.ret [(Value.int .i64 270)])
 ) (
 ret (.nxt [(zd vs_6 0), (zd vs_6 1), (zd vs_6 2), (zd vs_6 3)])
 )
 ) fun o => ret (zz 1 o)
 ) fun o => nx o z2s
noncomputable def zvq (vs_5 : List V) : M Out :=
 zb (za (zw .lss (zd vs_5 3) (zd vs_5 2))) fun x71 =>
 zb (
 zn x71 (
 ret (.nxt [(zd vs_5 0), (zd vs_5 1), (zd vs_5 2), (zd vs_5 3)])
 ) (
 ret (.brk 0 [])
 )
 ) fun o => nx o z2t
noncomputable def z2u (vs_8 : List V) : M Out :=
 ret (.ret [(Value.int .i64 0)])
noncomputable def zql (vs_4 : List V) : M Out :=
 zb (
 zb (za (zh 5 (zd vs_4 0))) fun x67 =>
 zb (ld1 x67) fun x68 =>
 zb (za (zx x68)) fun x69 =>
 zb (
 zbj zb8 zvq [(zd vs_4 0), x68, x69, (Value.int .i64 0)]
 ) fun o => ret (zz 0 o)
 ) fun o => nx o z2u
noncomputable def z2v (vs_3 : List V) : M Out :=
 zb (za (zh 5 (zd vs_3 0))) fun x44 =>
 zb (ld1 x44) fun x45 =>
 zb (za (zx x45)) fun x46 =>
 zb (newc [Value.int .i64 0]) fun x9 =>
 zb (st1 x9 x46) fun _ =>
 zb (
 zb (za (zh 6 (zd vs_3 0))) fun x47 =>
 zb (ld1 x47) fun x48 =>
 zb (za (zw .lss x48 (Value.int .i64 1))) fun x49 =>
 zb (gd x49 false (za (zh 6 (zd vs_3 0)))) fun x51 =>
 zb (gd x49 false (ld1 x51)) fun x52 =>
 zb (gd x49 false (za (zw .gtr x52 (Value.int .i64 10000)))) fun x53 =>
 zb (za (zbe x49 (Value.bool true) x53)) fun x54 =>
 zb (gd x54 false (za (zh 1 (zd vs_3 0)))) fun x56 =>
 zb (gd x54 false (ld1 x56)) fun x57 =>
 zb (gd x54 false (za (some (Value.func (.func zdi) #[] #[x9])))) fun x58 =>
 zb (gd x54 false ((zbb (ovr [(zdi, zeg), (zdj, zeh)] noC)) [x57, x58])) fun x59 =>
 zb (za (zbe x54 (Value.bool true) x59)) fun x60 =>
 zb (gd x60 false (za (zh 2 (zd vs_3 0)))) fun x62 =>
 zb (gd x60 false (ld1 x62)) fun x63 =>
 zb (gd x60 false (za (some (Value.func (.func zdj) #[] #[x9])))) fun x64 =>
 zb (gd x60 false ((zbt (ovr [(zdi, zeg), (zdj, zeh)] noC)) [x63, x64])) fun x65 =>
 zb (za (zbe x60 (Value.bool true) x65)) fun x66 =>
 zn x66 (
 ret (.ret [(Value.int .i64 270)])
 ) (
 ret (.nxt [(zd vs_3 0)])
 )
 ) fun o => nx o zql
noncomputable def z2w (vs_2 : List V) : M Out :=
 zb (
 zb (za (zh 3 (zd vs_2 0))) fun x33 =>
 zb (ldn 2 x33) fun x34 =>
 zb (za (zh 5 (zd vs_2 0))) fun x35 =>
 zb (ld1 x35) fun x36 =>
 zb (za (zx x36)) fun x37 =>
 zb (zsb [x34, x37]) fun x38 =>
 zb (za (ext 0 x38)) fun x39 =>
 zb (za (ext 1 x38)) fun x40 =>
 zb (za (zw .neq x40 (Value.int .i64 0))) fun x42 =>
 zn x42 (
 ret (.ret [x40])
 ) (
 ret (.nxt [(zd vs_2 0)])
 )
 ) fun o => nx o z2v
noncomputable def z2x (vs : List V) : M Out :=
 zb (
 zb (za (zh 2 (zd vs 0))) fun x24 =>
 zb (ld1 x24) fun x25 =>
 zb (zjm [x25]) fun x26 =>
 zb (za (ext 0 x26)) fun x27 =>
 zb (za (ext 1 x26)) fun x28 =>
 zb (za (zw .neq x28 (Value.int .i64 0))) fun x30 =>
 zn x30 (
 ret (.ret [x28])
 ) (
 ret (.nxt [(zd vs 0)])
 )
 ) fun o => nx o z2w
noncomputable def zxx (x0 : V) : M V :=
 zb (
 zb (zfj x0) fun x1 =>
 zb (
 zb (za (zh 0 x1)) fun x13 =>
 zb (ld1 x13) fun x14 =>
 zb (za (zh 1 x1)) fun x15 =>
 zb (ld1 x15) fun x16 =>
 zb (zih [x14, x16]) fun x17 =>
 zb (za (ext 0 x17)) fun x18 =>
 zb (za (ext 1 x17)) fun x19 =>
 zb (za (zw .neq x19 (Value.int .i64 0))) fun x21 =>
 zn x21 (
 ret (.ret [x19])
 ) (
 ret (.nxt [x1])
 )
 ) fun o => nx o z2x
 ) fun o => zbl o fun vs => ret (zbi [(zd vs 0)])
def zbfn : Hint := (.seq [] .leaf (.seq [1] (.seq [] .leaf (.seq [] .leaf (.cond (.seq [] .leaf .leaf) .leaf))) (.seq [1] (.seq [] .leaf (.seq [] .leaf (.cond (.seq [] .leaf .leaf) .leaf))) (.seq [1] (.seq [] .leaf (.seq [] .leaf (.cond (.seq [] .leaf .leaf) .leaf))) (.seq [] .leaf (.seq [1] (.seq [] .leaf (.cond (.seq [] .leaf .leaf) .leaf)) (.seq [] (.seq [] .leaf (.blk (.loop [1, 68, 69, 70] (.seq [] .leaf (.seq [1, 68, 69, 70] (.cond .leaf .leaf) (.seq [1, 68, 69, 70] (.blk (.seq [] .leaf (.seq [] .leaf (.cond (.seq [] .leaf .leaf) .leaf)))) .leaf)))))) (.seq [] .leaf .leaf))))))))
noncomputable def zsc : List V → M V := ap1 zxx
noncomputable def zbfo : zu := ovr [(zp1, zih), (zq7, zjm), (zzz, zsb), (zcd, zbb (ovr [(zdi, zeg), (zdj, zeh)] noC)), (zd9, zbt (ovr [(zdi, zeg), (zdj, zeh)] noC)), (zz0, zox)] noC
theorem zbfp : zq Tryz.prog zzw (zsc) := kn1 (σ := zbfo) (hint := zbfn) (by kernel_rfl) (ze zz8 (ze z2f (ze zbfi (ze (zea (ze z0h (ze z0i zk))) (ze (zjf (ze z0h (ze z0i zk))) (ze zbfm zk)))))) fun _ => (by kernel_rfl)
def zkb (vs : List V) : M Out :=
 zb (zdv 3 0 (rep 0 [Value.int .i64 0, Value.int .i64 0, Value.int .i64 0]) []) fun x5 =>
 zb (zgf 3 24 x5 (zd vs 0)) fun x7 =>
 ret (.ret [x7])
def zk5 (x0 : V) : M V :=
 zb (
 zb (
 zb (za (zgp false (zd2 .s x0))) fun x4 =>
 zn x4 (
 ret (.ret [(Value.slice none 0 0)])
 ) (
 ret (.nxt [x0])
 )
 ) fun o => nx o zkb
 ) fun o => zbl o fun vs => ret (zbi [(zd vs 0)])
def zk6 : Hint := (.seq [] .leaf (.seq [0] (.seq [] .leaf (.cond (.seq [] .leaf .leaf) .leaf)) (.seq [] .leaf .leaf)))
def zdd : List V → M V := ap1 zk5
theorem zk7 : zq Tryz.prog ze0 (zdd) := kn1 (σ := ovr [] noC) (hint := zk6) (by kernel_rfl) zk fun _ => (by kernel_rfl)
def zfz (vs : List V) : M Out :=
 zb (zdv 2 0 (rep 0 [Value.int .i64 0, Value.bool false]) []) fun x5 =>
 zb (zgf 2 16 x5 (zd vs 0)) fun x7 =>
 ret (.ret [x7])
def zce (x0 : V) : M V :=
 zb (
 zb (
 zb (za (zgp false (zd2 .s x0))) fun x4 =>
 zn x4 (
 ret (.ret [(Value.slice none 0 0)])
 ) (
 ret (.nxt [x0])
 )
 ) fun o => nx o zfz
 ) fun o => zbl o fun vs => ret (zbi [(zd vs 0)])
def zme : Hint := (.seq [] .leaf (.seq [0] (.seq [] .leaf (.cond (.seq [] .leaf .leaf) .leaf)) (.seq [] .leaf .leaf)))
def zcf : List V → M V := ap1 zce
theorem zmf : zq Tryz.prog zfr (zcf) := kn1 (σ := ovr [] noC) (hint := zme) (by kernel_rfl) zk fun _ => (by kernel_rfl)
def zvr (vs_4 : List V) : M Out :=
 zb (za (zw .add (zd vs_4 3) (Value.int .i64 1))) fun x57 =>
 ret (.nxt [(zd vs_4 0), (zd vs_4 1), (zd vs_4 2), x57])
def zvs (vs_3 : List V) : M Out :=
 zb (
 zb (
 zb (za (zy 3 (zd vs_3 1) (zd vs_3 3))) fun x35 =>
 zb (ldn 3 x35) fun x36 =>
 zb (newc [Value.int .i64 0, Value.int .i64 0, Value.bool false]) fun x10 =>
 zb (stn 3 x10 x36) fun _ =>
 zb (za (zh 0 x10)) fun x37 =>
 zb (ld1 x37) fun x38 =>
 zb (za (zh 1 x10)) fun x39 =>
 zb (ld1 x39) fun x40 =>
 zb (za (build [Value.int .i64 0, Value.int .i64 0] [(0, 1, x38), (1, 1, x40)])) fun x41 =>
 zb (newc [Value.int .i64 0, Value.int .i64 0]) fun x11 =>
 zb (stn 2 x11 x41) fun _ =>
 zb (za (zcc (zd vs_3 0))) fun x43 =>
 zb (za (zh 1 x43)) fun x44 =>
 zb (za (zcc (zd vs_3 0))) fun x48 =>
 zb (za (zh 1 x48)) fun x49 =>
 zb (ld1 x44) fun x45 =>
 zb (ldn 2 x11) fun x46 =>
 zb (ld1 x49) fun x50 =>
 zb (ldn 2 x11) fun x51 =>
 zb (lookup (.agg [.i, .i]) (Value.bool false) false x50 x51) fun x52 =>
 zb (gd x52 false (za (zh 2 x10))) fun x54 =>
 zb (gd x52 false (ld1 x54)) fun x55 =>
 zb (za (zbe x52 (Value.bool true) x55)) fun x56 =>
 zb (zf2 (.agg [.i, .i]) x45 x46 x56) fun _ =>
 ret (.nxt [(zd vs_3 0), (zd vs_3 1), (zd vs_3 2), (zd vs_3 3)])
 ) fun o => ret (zz 1 o)
 ) fun o => nx o zvr
def zmw (vs_2 : List V) : M Out :=
 zb (za (zw .lss (zd vs_2 3) (zd vs_2 2))) fun x34 =>
 zb (
 zn x34 (
 ret (.nxt [(zd vs_2 0), (zd vs_2 1), (zd vs_2 2), (zd vs_2 3)])
 ) (
 ret (.brk 0 [(zd vs_2 0)])
 )
 ) fun o => nx o zvs
def z2y (vs_5 : List V) : M Out :=
 ret (.ret [(zd vs_5 0), (Value.int .i64 0)])
def z2z (vs : List V) : M Out :=
 zwe 4 fun base h0 =>
 zb (za (zx (zd vs 0))) fun x25 =>
 zdg (zcf [(zd vs 0)]) fun ha x22 h1 =>
 zj5 (zgg ha [base + 0, base + 1, base + 2, base + 3] && zgg h1 [base + 0, base + 1, base + 2, base + 3]) <|
 zb (flt (base + 0) (zsu)) fun x23 =>
 zb (flt (base + 1) (zyk 1 8 [Value.int .i64 0] x25 x25)) fun x26 =>
 zb (flt (base + 2) (zsu)) fun x27 =>
 zb (flt (base + 3) (zsu)) fun x28 =>
 zb (za (build [Value.slice none 0 0, Value.map none, Value.slice none 0 0, Value.map none, Value.map none] [(0, 1, x22), (1, 1, x23), (2, 1, x26), (3, 1, x27), (4, 1, x28)])) fun x29 =>
 zdg (zfj x29) fun ha_2 x30 h2 =>
 zb (
 zb (za (zx (zd vs 1))) fun x32 =>
 zb (
 zbj zb8 zmw [x30, (zd vs 1), x32, (Value.int .i64 0)]
 ) fun o => ret (zz 0 o)
 ) fun o => nx o z2y
def zxy (x0 x1 : V) : M V :=
 zb (
 zb (
 zb (zih [x0, x1]) fun x15 =>
 zb (za (ext 0 x15)) fun x16 =>
 zb (za (ext 1 x15)) fun x17 =>
 zb (za (zw .neq x17 (Value.int .i64 0))) fun x19 =>
 zn x19 (
 ret (.ret [(Value.pointer none), x17])
 ) (
 ret (.nxt [x0, x1])
 )
 ) fun o => nx o z2z
 ) fun o => zbl o fun vs => ret (zbi [(zd vs 0), (zd vs 1)])
def zbfq : Hint := (.seq [] .leaf (.seq [0, 1] (.seq [] .leaf (.seq [] .leaf (.cond (.seq [] .leaf .leaf) .leaf))) (.seq [] (.reg [0, 3, 4, 1, 2, 5, 6, 7, 8, 9, 10] [2, 5, 6, 7]) (.seq [8] (.seq [] .leaf (.blk (.loop [8, 31, 32, 33] (.seq [] .leaf (.seq [8, 31, 32, 33] (.cond .leaf .leaf) (.seq [8, 31, 32, 33] (.blk (.seq [] .leaf (.seq [] .leaf (.reg [0, 1, 2, 5, 6, 7, 3, 4, 8, 9, 10, 11, 12, 13, 14, 15] [])))) .leaf)))))) (.seq [] .leaf .leaf)))))
def zsd : List V → M V := ap2 zxy
def zbfr : zu := ovr [(zp1, zih), (zfr, zcf)] noC
theorem zbfs : zq Tryz.prog zzx (zsd) := kn2 (σ := zbfr) (hint := zbfq) (by kernel_rfl) (ze zz8 (ze zmf zk)) fun _ _ => (by kernel_rfl)
def zmx (vs : List V) : M Out :=
 zb (zdv 5 0 (rep 0 [Value.int .i64 0, Value.int .i64 0, Value.int .i64 0, Value.int .i64 0, Value.int .i64 0]) []) fun x5 =>
 zb (zgf 5 40 x5 (zd vs 0)) fun x7 =>
 ret (.ret [x7])
def znc (x0 : V) : M V :=
 zb (
 zb (
 zb (za (zgp false (zd2 .s x0))) fun x4 =>
 zn x4 (
 ret (.ret [(Value.slice none 0 0)])
 ) (
 ret (.nxt [x0])
 )
 ) fun o => nx o zmx
 ) fun o => zbl o fun vs => ret (zbi [(zd vs 0)])
def znd : Hint := (.seq [] .leaf (.seq [0] (.seq [] .leaf (.cond (.seq [] .leaf .leaf) .leaf)) (.seq [] .leaf .leaf)))
def zdz : List V → M V := ap1 znc
theorem zne : zq Tryz.prog zgb (zdz) := kn1 (σ := ovr [] noC) (hint := znd) (by kernel_rfl) zk fun _ => (by kernel_rfl)
def z5t (vs : List V) : M Out :=
 zwe 1 fun base h0 =>
 zb (za (zx (zd vs 0))) fun x17 =>
 zdg (zdz [(zd vs 0)]) fun ha x15 h1 =>
 zj5 (zgg ha [base + 0] && zgg h1 [base + 0]) <|
 zb (flt (base + 0) (zyk 4 64 [Value.slice none 0 0, Value.slice none 0 0, Value.int .i64 0, Value.int .i64 0] x17 x17)) fun x18 =>
 zb (za (build [Value.slice none 0 0, Value.slice none 0 0] [(0, 1, x15), (1, 1, x18)])) fun x19 =>
 zdg (zfj x19) fun ha_2 x20 h2 =>
 ret (.ret [x20, (Value.int .i64 0)])
def z0j (x0 : V) : M V :=
 zb (
 zb (
 zb (zjm [x0]) fun x8 =>
 zb (za (ext 0 x8)) fun x9 =>
 zb (za (ext 1 x8)) fun x10 =>
 zb (za (zw .neq x10 (Value.int .i64 0))) fun x12 =>
 zn x12 (
 ret (.ret [(Value.pointer none), x10])
 ) (
 ret (.nxt [x0])
 )
 ) fun o => nx o z5t
 ) fun o => zbl o fun vs => ret (zbi [(zd vs 0), (zd vs 1)])
def zbh0 : Hint := (.seq [] .leaf (.seq [0] (.seq [] .leaf (.seq [] .leaf (.cond (.seq [] .leaf .leaf) .leaf))) (.seq [] (.reg [0, 2, 3, 1, 4, 5, 6, 7, 8] [4]) .leaf)))
def zu0 : List V → M V := ap1 z0j
def zbh1 : zu := ovr [(zq7, zjm), (zgb, zdz)] noC
theorem zbh2 : zq Tryz.prog z18 (zu0) := kn1 (σ := zbh1) (hint := zbh0) (by kernel_rfl) (ze z2f (ze zne zk)) fun _ => (by kernel_rfl)
def zoy (x0 x1 : V) : M V :=
 zb (
 zb (zfj x1) fun x3 =>
 zb (za (zh 0 x3)) fun x5 =>
 zb (ld1 x5) fun x6 =>
 zb (za (zy 2 x6 x0)) fun x8 =>
 zb (za (zh 0 x8)) fun x9 =>
 zb (ld1 x9) fun x10 =>
 ret (.ret [x10])
 ) fun o => zbl o fun vs => ret (zbi [(zd vs 0)])
def z5u : Hint := (.seq [] .leaf (.seq [] .leaf .leaf))
def zj3 : List V → M V := ap2 zoy
theorem z5v : zq Tryz.prog zgd (zj3) := kn2 (σ := ovr [] noC) (hint := z5u) (by kernel_rfl) zk fun _ _ => (by kernel_rfl)
def zqa (x0 x1 : V) : M V :=
 zb (
 zb (zfj x1) fun x3 =>
 zb (za (zh 2 x3)) fun x5 =>
 zb (ld1 x5) fun x6 =>
 zb (za (zy 5 x6 x0)) fun x8 =>
 zb (za (zh 3 x8)) fun x9 =>
 zb (ld1 x9) fun x10 =>
 ret (.ret [x10])
 ) fun o => zbl o fun vs => ret (zbi [(zd vs 0)])
def z7x : Hint := (.seq [] .leaf (.seq [] .leaf .leaf))
def zlw : List V → M V := ap2 zqa
theorem z7y : zq Tryz.prog zg3 (zlw) := kn2 (σ := ovr [] noC) (hint := z7x) (by kernel_rfl) zk fun _ _ => (by kernel_rfl)
def z5w (x0 x1 : V) : M V :=
 zb (
 zb (zfj x0) fun x2 =>
 zb (zfj x1) fun x3 =>
 ret (.ret [(Value.int .i64 0)])
 ) fun o => zbl o fun vs => ret (zbi [(zd vs 0)])
def z5x : Hint := (.seq [] .leaf (.seq [] .leaf .leaf))
def zj4 : List V → M V := ap2 z5w
theorem z5y : zq Tryz.prog zh5 (zj4) := kn2 (σ := ovr [] noC) (hint := z5x) (by kernel_rfl) zk fun _ _ => (by kernel_rfl)
noncomputable def z5z (vs_3 : List V) : M Out :=
 zb (za (zw .add (zd vs_3 5) (Value.int .i64 1))) fun x26 =>
 ret (.nxt [(zd vs_3 0), (zd vs_3 1), (zd vs_3 2), (zd vs_3 3), (zd vs_3 4), x26])
noncomputable def z50 (vs_2 : List V) : M Out :=
 zb (
 zb (
 zb (za (zy 2 (zd vs_2 3) (zd vs_2 5))) fun x12 =>
 zb (ldn 2 x12) fun x13 =>
 zb (newc [Value.int .i64 0, Value.int .i64 0]) fun x7 =>
 zb (stn 2 x7 x13) fun _ =>
 zb (ldn 2 x7) fun x15 =>
 zb (zei [x15]) fun x16 =>
 zb (zdv 1 1 (rep 1 [Value.nilIface]) [(0, 1, x16)]) fun x17 =>
 zb (zgf 1 16 (zd vs_2 1) x17) fun x18 =>
 zmo fun h0 =>
 zb (ldn 2 x7) fun x20 =>
 zb (ldn 7 (zd vs_2 0)) fun x22 =>
 zdg (zei [x20]) fun ha x21 h1 =>
 zdg (invM Tryz.prog (ovr [(zgd, zj3), (zg3, zlw), (zh5, zj4), (zg1, zei)] noC) x21 "capstan/exec.kind" [x22]) fun ha_2 x23 h2 =>
 zdg (zdv 1 1 (rep 1 [Value.int .i64 0]) [(0, 1, x23)]) fun ha_3 x24 h3 =>
 zdg (zgf 1 8 (zd vs_2 2) x24) fun ha_4 x25 h4 =>
 zj5 (chk (ldn 7 (zd vs_2 0)) h1 x22) <|
 ret (.nxt [(zd vs_2 0), x18, x25, (zd vs_2 3), (zd vs_2 4), (zd vs_2 5)])
 ) fun o => ret (zz 1 o)
 ) fun o => nx o z5z
noncomputable def zxz (vs : List V) : M Out :=
 zb (za (zw .lss (zd vs 5) (zd vs 4))) fun x11 =>
 zb (
 zn x11 (
 ret (.nxt [(zd vs 0), (zd vs 1), (zd vs 2), (zd vs 3), (zd vs 4), (zd vs 5)])
 ) (
 ret (.brk 0 [(zd vs 1), (zd vs 2)])
 )
 ) fun o => nx o z50
noncomputable def z52 (vs_4 : List V) : M Out :=
 ret (.ret [(zd vs_4 0), (zd vs_4 1)])
noncomputable def z0k (x0 x1 : V) : M V :=
 zb (
 zb (zfj x0) fun x2 =>
 zb (
 zb (za (zx x1)) fun x9 =>
 zb (
 zbj zb8 zxz [x2, (Value.slice none 0 0), (Value.slice none 0 0), x1, x9, (Value.int .i64 0)]
 ) fun o => ret (zz 0 o)
 ) fun o => nx o z52
 ) fun o => zbl o fun vs => ret (zbi [(zd vs 0), (zd vs 1)])
def zbh3 : Hint := (.seq [] .leaf (.seq [4, 5] (.seq [] .leaf (.blk (.loop [2, 4, 5, 8, 9, 10] (.seq [] .leaf (.seq [2, 4, 5, 8, 9, 10] (.cond .leaf .leaf) (.seq [2, 4, 5, 8, 9, 10] (.blk (.seq [] .leaf (.seq [] .leaf (.reg [0, 1, 3, 2, 4, 5, 6, 7] [])))) .leaf)))))) (.seq [] .leaf .leaf)))
noncomputable def zq3 : List V → M V := ap2 z0k
noncomputable def zbh4 : zu := ovr [(zgd, zj3), (zg3, zlw), (zh5, zj4), (zg1, zei)] noC
theorem zbh5 : zq Tryz.prog z19 (zq3) := kn2 (σ := zbh4) (hint := zbh3) (by kernel_rfl) (ze z5v (ze z7y (ze z5y (ze z5s zk)))) fun _ _ => (by kernel_rfl)
def zvt (vs_2 : List V) : M Out :=
 ret (.ret [(zd vs_2 0)])
def zvu (vs : List V) : M Out :=
 zb (
 zb (za (capV (zd vs 0))) fun x10 =>
 zb (za (zx (zd vs 0))) fun x12 =>
 zb (za (zw .sub x10 x12)) fun x13 =>
 zb (za (zw .sub (zd vs 1) x13)) fun x14 =>
 zb (za (zw .gtr x14 (Value.int .i64 0))) fun x16 =>
 zn x16 (
 zb (za (capV (zd vs 0))) fun x19 =>
 zb (za (zhk 1 (zd vs 0) none (some x19))) fun x20 =>
 zb (appZ 1 8 [Value.int .i64 0] x20 x14) fun x22 =>
 zb (za (zx (zd vs 0))) fun x24 =>
 zb (za (zhk 1 x22 none (some x24))) fun x25 =>
 ret (.nxt [x25])
 ) (
 ret (.nxt [(zd vs 0)])
 )
 ) fun o => nx o zvt
def zwx (x0 x1 : V) : M V :=
 zb (
 zb (
 zb (za (zw .lss x1 (Value.int .i64 0))) fun x6 =>
 zn x6 (
 zb (za (some (Value.iface zcn (Value.string ⟨#[99, 97, 110, 110, 111, 116, 32, 98, 101, 32, 110, 101, 103, 97, 116, 105, 118, 101]⟩)))) fun x7 =>
 zb (za ((none : Option V))) fun _ =>
 ret (.nxt [x0, x1])
 ) (
 ret (.nxt [x0, x1])
 )
 ) fun o => nx o zvu
 ) fun o => zbl o fun vs => ret (zbi [(zd vs 0)])
def zwy : Hint := (.seq [] .leaf (.seq [0, 1] (.seq [] .leaf (.cond .leaf .leaf)) (.seq [0] (.seq [] .leaf (.seq [] .leaf (.cond .leaf .leaf))) (.seq [] .leaf .leaf))))
def zik : List V → M V := ap2 zwx
theorem zwz : zq Tryz.prog zl0 (zik) := kn2 (σ := ovr [] noC) (hint := zwy) (by kernel_rfl) zk fun _ _ => (by kernel_rfl)
def ztl (vs_3 : List V) : M Out :=
 zb (za (zw .add (zd vs_3 4) (Value.int .i64 1))) fun x22 =>
 ret (.nxt [(zd vs_3 0), (zd vs_3 1), (zd vs_3 2), (zd vs_3 3), x22])
def ztm (vs_2 : List V) : M Out :=
 zb (
 zb (
 zb (za (zy 1 (zd vs_2 2) (zd vs_2 4))) fun x13 =>
 zb (ld1 x13) fun x14 =>
 zb (za (zx x14)) fun x17 =>
 zb (za (zw .add (zd vs_2 1) x17)) fun x18 =>
 zb (za (zw .lss x18 (Value.int .i64 0))) fun x20 =>
 zn x20 (
 zb (za (some (Value.iface zcn (Value.string ⟨#[108, 101, 110, 32, 111, 117, 116, 32, 111, 102, 32, 114, 97, 110, 103, 101]⟩)))) fun x21 =>
 zb (za ((none : Option V))) fun _ =>
 ret (.nxt [(zd vs_2 0), x18, (zd vs_2 2), (zd vs_2 3), (zd vs_2 4)])
 ) (
 ret (.nxt [(zd vs_2 0), x18, (zd vs_2 2), (zd vs_2 3), (zd vs_2 4)])
 )
 ) fun o => ret (zz 1 o)
 ) fun o => nx o ztl
def ztn (vs : List V) : M Out :=
 zb (za (zw .lss (zd vs 4) (zd vs 3))) fun x12 =>
 zb (
 zn x12 (
 ret (.nxt [(zd vs 0), (zd vs 1), (zd vs 2), (zd vs 3), (zd vs 4)])
 ) (
 ret (.brk 0 [(zd vs 0), (zd vs 1)])
 )
 ) fun o => nx o ztm
def zto (vs_7 : List V) : M Out :=
 zb (za (zw .add (zd vs_7 3) (Value.int .i64 1))) fun x34 =>
 ret (.nxt [(zd vs_7 0), (zd vs_7 1), (zd vs_7 2), x34])
def ztp (vs_6 : List V) : M Out :=
 zb (
 zb (
 zb (za (zy 1 (zd vs_6 1) (zd vs_6 3))) fun x29 =>
 zb (ld1 x29) fun x30 =>
 zb (zgf 1 8 (zd vs_6 0) x30) fun x33 =>
 ret (.nxt [x33, (zd vs_6 1), (zd vs_6 2), (zd vs_6 3)])
 ) fun o => ret (zz 3 o)
 ) fun o => nx o zto
def ztq (vs_5 : List V) : M Out :=
 zb (za (zw .lss (zd vs_5 3) (zd vs_5 2))) fun x28 =>
 zb (
 zn x28 (
 ret (.nxt [(zd vs_5 0), (zd vs_5 1), (zd vs_5 2), (zd vs_5 3)])
 ) (
 ret (.brk 2 [(zd vs_5 0)])
 )
 ) fun o => nx o ztp
def ztr (vs_8 : List V) : M Out :=
 ret (.ret [(zd vs_8 0)])
def zts (vs_4 : List V) : M Out :=
 zb (zik [(Value.slice none 0 0), (zd vs_4 1)]) fun x24 =>
 zb (
 zb (za (zx (zd vs_4 0))) fun x26 =>
 zb (
 zbj zb8 ztq [x24, (zd vs_4 0), x26, (Value.int .i64 0)]
 ) fun o => ret (zz 2 o)
 ) fun o => nx o ztr
def zuh (x0 : V) : M V :=
 zb (
 zb (
 zb (za (zx x0)) fun x10 =>
 zb (
 zbj zb8 ztn [x0, (Value.int .i64 0), x0, x10, (Value.int .i64 0)]
 ) fun o => ret (zz 0 o)
 ) fun o => nx o zts
 ) fun o => zbl o fun vs => ret (zbi [(zd vs 0)])
def zui : Hint := (.seq [] .leaf (.seq [] .leaf (.seq [0, 3] (.seq [] .leaf (.blk (.loop [0, 3, 9, 10, 11] (.seq [] .leaf (.seq [0, 3, 9, 10, 11] (.cond .leaf .leaf) (.seq [0, 3, 9, 10, 11] (.blk (.seq [] .leaf (.seq [] .leaf (.seq [] .leaf (.cond .leaf .leaf))))) .leaf)))))) (.seq [] .leaf (.seq [6] (.seq [] .leaf (.blk (.loop [6, 25, 26, 27] (.seq [] .leaf (.seq [6, 25, 26, 27] (.cond .leaf .leaf) (.seq [6, 25, 26, 27] (.blk (.seq [] .leaf .leaf)) .leaf)))))) (.seq [] .leaf .leaf))))))
def zex : List V → M V := ap1 zuh
def zuj : zu := ovr [(zl0, zik)] noC
theorem zuk : zq Tryz.prog zj0 (zex) := kn1 (σ := zuj) (hint := zui) (by kernel_rfl) (ze zwz zk) fun _ => (by kernel_rfl)
def ziu (S : zu) (vs_3 : List V) : M Out :=
 zb (za (zw .add (zd vs_3 3) (Value.int .i64 1))) fun x18 =>
 ret (.nxt [(zd vs_3 0), (zd vs_3 1), (zd vs_3 2), x18])
def ziv (S : zu) (vs_2 : List V) : M Out :=
 zb (
 zb (
 zb (za (zy 1 (zd vs_2 0) (zd vs_2 3))) fun x14 =>
 zb (ld1 x14) fun x15 =>
 zb (zlz (ovr [] S) (zd vs_2 1) [x15]) fun x16 =>
 zn x16 (
 ret (.ret [(zd vs_2 3)])
 ) (
 ret (.nxt [(zd vs_2 0), (zd vs_2 1), (zd vs_2 2), (zd vs_2 3)])
 )
 ) fun o => ret (zz 1 o)
 ) fun o => nx o (ziu S)
def zfv (S : zu) (vs : List V) : M Out :=
 zb (za (zw .lss (zd vs 3) (zd vs 2))) fun x9 =>
 zb (
 zn x9 (
 ret (.nxt [(zd vs 0), (zd vs 1), (zd vs 2), (zd vs 3)])
 ) (
 ret (.brk 0 [])
 )
 ) fun o => nx o (ziv S)
def ziw (S : zu) (vs_4 : List V) : M Out :=
 ret (.ret [(Value.int .i64 (-1))])
def zf3 (S : zu) (x0 x1 : V) : M V :=
 zb (
 zb (
 zb (za (zx x0)) fun x7 =>
 zb (
 zbj zb8 (zfv S) [x0, x1, x7, (Value.int .i64 0)]
 ) fun o => ret (zz 0 o)
 ) fun o => nx o (ziw S)
 ) fun o => zbl o fun vs => ret (zbi [(zd vs 0)])
def zrc : Hint := (.seq [] .leaf (.seq [] (.seq [] .leaf (.blk (.loop [0, 1, 7, 8] (.seq [] .leaf (.seq [0, 1, 7, 8] (.cond .leaf .leaf) (.seq [0, 1, 7, 8] (.blk (.seq [] .leaf (.seq [] .leaf (.cond (.seq [] .leaf .leaf) .leaf)))) .leaf)))))) (.seq [] .leaf .leaf)))
def zf4 (S : zu) : List V → M V := ap2 (zf3 S)
theorem zrd {S : zu} (hS : zdw Tryz.prog S) : zq Tryz.prog zic (zf4 S) := kn2 (σ := ovr [] S) (hint := zrc) (by kernel_rfl) (zd3 hS) fun _ _ => (by kernel_rfl)
def zev (S : zu) (x0 x1 : V) : M V :=
 zb (
 zb ((zf4 S) [x0, x1]) fun x7 =>
 zb (za (zw .geq x7 (Value.int .i64 0))) fun x8 =>
 ret (.ret [x8])
 ) fun o => zbl o fun vs => ret (zbi [(zd vs 0)])
def zpq : Hint := (.seq [] .leaf (.seq [] .leaf .leaf))
def zc8 (S : zu) : List V → M V := ap2 (zev S)
theorem zpr {S : zu} (hS : zdw Tryz.prog S) : zq Tryz.prog zhi (zc8 S) := kn2 (σ := ovr [(zic, zf4 S)] S) (hint := zpq) (by kernel_rfl) (ze (zrd (zd3 hS)) (zd3 hS)) fun _ _ => (by kernel_rfl)
def zx0 (x0 : V) : M V :=
 zb (
 zb (za (zw .lss x0 (Value.int .i64 1))) fun x4 =>
 zb (gd x4 false (za (some x0))) fun x6 =>
 zb (gd x4 false (za (zw .gtr x6 (Value.int .i64 3)))) fun x7 =>
 zb (za (zbe x4 (Value.bool true) x7)) fun x8 =>
 ret (.ret [x8])
 ) fun o => zbl o fun vs => ret (zbi [(zd vs 0)])
def zbft : Hint := (.seq [] .leaf (.seq [] .leaf .leaf))
def zse : List V → M V := ap1 zx0
theorem zbfu : zq Tryz.prog zog (zse) := kn1 (σ := ovr [] noC) (hint := zbft) (by kernel_rfl) zk fun _ => (by kernel_rfl)
def zul (vs : List V) : M Out :=
 zb (zdv 1 0 (rep 0 [Value.int .i64 0]) []) fun x5 =>
 zb (zgf 1 8 x5 (zd vs 0)) fun x7 =>
 ret (.ret [x7])
def zvv (x0 : V) : M V :=
 zb (
 zb (
 zb (za (zgp false (zd2 .s x0))) fun x4 =>
 zn x4 (
 ret (.ret [(Value.slice none 0 0)])
 ) (
 ret (.nxt [x0])
 )
 ) fun o => nx o zul
 ) fun o => zbl o fun vs => ret (zbi [(zd vs 0)])
def zvw : Hint := (.seq [] .leaf (.seq [0] (.seq [] .leaf (.cond (.seq [] .leaf .leaf) .leaf)) (.seq [] .leaf .leaf)))
def zfn : List V → M V := ap1 zvv
theorem zvx : zq Tryz.prog zke (zfn) := kn1 (σ := ovr [] noC) (hint := zvw) (by kernel_rfl) zk fun _ => (by kernel_rfl)
def z8n (vs_2 : List V) : M Out :=
 zb (zfn [(zd vs_2 0)]) fun x20 =>
 zb (zfn [(zd vs_2 1)]) fun x22 =>
 zb (za (build [Value.slice none 0 0, Value.slice none 0 0, Value.pointer none, Value.string ⟨#[]⟩, Value.slice none 0 0, Value.slice none 0 0, Value.slice none 0 0, Value.slice none 0 0, Value.slice none 0 0, Value.slice none 0 0, Value.int .i64 0, Value.int .i64 0, Value.int .i64 0, Value.int .i64 0] [(0, 1, x20), (1, 1, x22)])) fun x23 =>
 zb (zfj x23) fun x24 =>
 ret (.ret [x24, (Value.int .i64 0)])
def z8o (vs : List V) : M Out :=
 zb (
 zb (zdv 1 2 (rep 2 [Value.slice none 0 0]) [(0, 1, (zd vs 0)), (1, 1, (zd vs 1))]) fun x16 =>
 zb (zex [x16]) fun x17 =>
 zb ((zc8 (ovr [(zog, zse)] noC)) [x17, (Value.func (.func zog) #[] #[])]) fun x18 =>
 zn x18 (
 ret (.ret [(Value.pointer none), (Value.int .i64 40)])
 ) (
 ret (.nxt [(zd vs 0), (zd vs 1)])
 )
 ) fun o => nx o z8n
def z38 (x0 x1 : V) : M V :=
 zb (
 zb (
 zb (za (zx x0)) fun x7 =>
 zb (za (zw .gtr x7 (Value.int .i64 32))) fun x8 =>
 zb (gd x8 false (za (some x1))) fun x10 =>
 zb (gd x8 false (za (zx x10))) fun x11 =>
 zb (gd x8 false (za (zw .gtr x11 (Value.int .i64 32)))) fun x12 =>
 zb (za (zbe x8 (Value.bool true) x12)) fun x13 =>
 zn x13 (
 ret (.ret [(Value.pointer none), (Value.int .i64 2)])
 ) (
 ret (.nxt [x0, x1])
 )
 ) fun o => nx o z8o
 ) fun o => zbl o fun vs => ret (zbi [(zd vs 0), (zd vs 1)])
def zbkb : Hint := (.seq [] .leaf (.seq [0, 1] (.seq [] .leaf (.cond (.seq [] .leaf .leaf) .leaf)) (.seq [0, 1] (.seq [] .leaf (.cond (.seq [] .leaf .leaf) .leaf)) (.seq [] .leaf .leaf))))
def zx1 : List V → M V := ap2 z38
def zbkc : zu := ovr [(zj0, zex), (zhi, zc8 (ovr [(zog, zse)] noC)), (zke, zfn)] noC
theorem zbkd : zq Tryz.prog z5n (zx1) := kn2 (σ := zbkc) (hint := zbkb) (by kernel_rfl) (ze zuk (ze (zpr (ze zbfu zk)) (ze zvx zk))) fun _ _ => (by kernel_rfl)
noncomputable def z8p (vs_4 : List V) : M Out :=
 zb (za (zcc (zd vs_4 1))) fun x79 =>
 zb (za (zh 2 x79)) fun x80 =>
 zb (ld1 x80) fun x81 =>
 zb (za (build [Value.pointer none, Value.slice none 0 0, Value.slice none 0 0] [(0, 1, (zd vs_4 4)), (1, 1, (zd vs_4 2)), (2, 1, (zd vs_4 3))])) fun x85 =>
 zb (zdv 3 1 (rep 1 [Value.pointer none, Value.slice none 0 0, Value.slice none 0 0]) [(0, 3, x85)]) fun x86 =>
 zb (zgf 3 56 x81 x86) fun x87 =>
 zb (za (zcc (zd vs_4 1))) fun x88 =>
 zb (za (zh 2 x88)) fun x89 =>
 zb (st1 x89 x87) fun _ =>
 ret (.nxt [(zd vs_4 0), (zd vs_4 1), (zd vs_4 5), (zd vs_4 6), (zd vs_4 7)])
noncomputable def z8q (vs_5 : List V) : M Out :=
 zb (za (zw .add (zd vs_5 4) (Value.int .i64 1))) fun x90 =>
 ret (.nxt [(zd vs_5 0), (zd vs_5 1), (zd vs_5 2), (zd vs_5 3), x90])
noncomputable def z8r (vs_3 : List V) : M Out :=
 zb (
 zb (
 zb (za (zy 2 (zd vs_3 2) (zd vs_3 4))) fun x52 =>
 zb (ldn 2 x52) fun x53 =>
 zb (newc [Value.slice none 0 0, Value.slice none 0 0]) fun x7 =>
 zb (stn 2 x7 x53) fun _ =>
 zb (ldn 7 (zd vs_3 0)) fun x55 =>
 zb (za (zh 0 x7)) fun x56 =>
 zb (ld1 x56) fun x57 =>
 zb (zq3 [x55, x57]) fun x58 =>
 zb (za (ext 0 x58)) fun x59 =>
 zb (za (ext 1 x58)) fun x60 =>
 zb (ldn 7 (zd vs_3 0)) fun x62 =>
 zb (za (zh 1 x7)) fun x63 =>
 zb (ld1 x63) fun x64 =>
 zb (zq3 [x62, x64]) fun x65 =>
 zb (za (ext 0 x65)) fun x66 =>
 zb (za (ext 1 x65)) fun x67 =>
 zb (zx1 [x60, x67]) fun x71 =>
 zb (za (ext 0 x71)) fun x72 =>
 zb (za (ext 1 x71)) fun x73 =>
 zb (
 zb (za (zw .neq x73 (Value.int .i64 0))) fun x75 =>
 zn x75 (
 ret (.ret [(Value.pointer none), x73])
 ) (
 ret (.nxt [(zd vs_3 0), (zd vs_3 1), x59, x66, x72, (zd vs_3 2), (zd vs_3 3), (zd vs_3 4)])
 )
 ) fun o => nx o z8p
 ) fun o => ret (zz 1 o)
 ) fun o => nx o z8q
noncomputable def z0l (vs_2 : List V) : M Out :=
 zb (za (zw .lss (zd vs_2 4) (zd vs_2 3))) fun x51 =>
 zb (
 zn x51 (
 ret (.nxt [(zd vs_2 0), (zd vs_2 1), (zd vs_2 2), (zd vs_2 3), (zd vs_2 4)])
 ) (
 ret (.brk 0 [(zd vs_2 1)])
 )
 ) fun o => nx o z8r
noncomputable def z8s (vs_6 : List V) : M Out :=
 ret (.ret [(zd vs_6 0), (Value.int .i64 0)])
noncomputable def z8t (vs : List V) : M Out :=
 zmo fun h0 =>
 zb (za (zh 3 (zd vs 0))) fun x19 =>
 zb (za (zh 1 x19)) fun x20 =>
 zb (za (zh 6 (zd vs 0))) fun x23 =>
 zb (ld1 x20) fun x21 =>
 zb (ld1 x23) fun x24 =>
 zdg (zdd [x21]) fun ha x22 h1 =>
 zb (za (build [Value.pointer none, Value.pointer none, Value.slice none 0 0, Value.slice none 0 0, Value.int .i64 0, Value.int .i64 0] [(3, 1, x22), (4, 1, x24)])) fun x25 =>
 zdg (zfj x25) fun ha_2 x26 h2 =>
 zj5 (chk (ld1 x23) h1 x24) <|
 zb (za (zh 0 (zd vs 0))) fun x29 =>
 zb (ld1 x29) fun x30 =>
 zb (za (zh 1 (zd vs 0))) fun x31 =>
 zb (ld1 x31) fun x32 =>
 zb (zsd [x30, x32]) fun x33 =>
 zb (za (ext 0 x33)) fun x34 =>
 zb (za (ext 1 x33)) fun x35 =>
 zb (za (zcc x26)) fun x36 =>
 zb (za (zh 0 x36)) fun x37 =>
 zb (st1 x37 x34) fun _ =>
 zb (za (zh 2 (zd vs 0))) fun x40 =>
 zb (ld1 x40) fun x41 =>
 zb (zu0 [x41]) fun x42 =>
 zb (za (ext 0 x42)) fun x43 =>
 zb (za (ext 1 x42)) fun x44 =>
 zb (za (zcc x26)) fun x45 =>
 zb (za (zh 1 x45)) fun x46 =>
 zb (st1 x46 x43) fun _ =>
 zb (
 zb (za (zh 5 (zd vs 0))) fun x47 =>
 zb (ld1 x47) fun x48 =>
 zb (za (zx x48)) fun x49 =>
 zb (
 zbj zb8 z0l [(zd vs 0), x26, x48, x49, (Value.int .i64 0)]
 ) fun o => ret (zz 0 o)
 ) fun o => nx o z8s
noncomputable def z39 (x0 : V) : M V :=
 zb (
 zb (zfj x0) fun x1 =>
 zb (
 zb (ldn 7 x1) fun x14 =>
 zb (zsc [x14]) fun x15 =>
 zb (za (zw .neq x15 (Value.int .i64 0))) fun x17 =>
 zn x17 (
 ret (.ret [(Value.pointer none), x15])
 ) (
 ret (.nxt [x1])
 )
 ) fun o => nx o z8t
 ) fun o => zbl o fun vs => ret (zbi [(zd vs 0), (zd vs 1)])
def zbke : Hint := (.seq [] .leaf (.seq [1] (.seq [] .leaf (.seq [] .leaf (.cond (.seq [] .leaf .leaf) .leaf))) (.seq [] (.reg [0, 1, 4, 2, 5, 3, 6, 7, 8] []) (.seq [] .leaf (.seq [] .leaf (.seq [5] (.seq [] .leaf (.blk (.loop [1, 5, 48, 49, 50] (.seq [] .leaf (.seq [1, 5, 48, 49, 50] (.cond .leaf .leaf) (.seq [1, 5, 48, 49, 50] (.blk (.seq [] .leaf (.seq [] .leaf (.seq [] .leaf (.seq [] .leaf (.seq [1, 5, 8, 10, 12, 48, 49, 50] (.seq [] .leaf (.cond (.seq [] .leaf .leaf) .leaf)) .leaf)))))) .leaf)))))) (.seq [] .leaf .leaf)))))))
noncomputable def zx2 : List V → M V := ap1 z39
noncomputable def zbkf : zu := ovr [(zzw, zsc), (ze0, zdd), (zzx, zsd), (z18, zu0), (z19, zq3), (z5n, zx1)] noC
theorem zbkg : zq Tryz.prog z5l (zx2) := kn1 (σ := zbkf) (hint := zbke) (by kernel_rfl) (ze zbfp (ze zk7 (ze zbfs (ze zbh2 (ze zbh5 (ze zbkd zk)))))) fun _ => (by kernel_rfl)
def ztt (G_strings_IndexRune : List V → M V) (x0 : V) : M V :=
 zb (
 zb (zfj x0) fun x1 =>
 zb (za (zh 0 x1)) fun x3 =>
 zb (ld1 x3) fun x4 =>
 zb (za (zw .neq x4 (Value.string ⟨#[]⟩))) fun x5 =>
 zb (gd x5 true (za (zh 0 x1))) fun x7 =>
 zb (gd x5 true (ld1 x7)) fun x8 =>
 zb (gd x5 true (za (zet x8))) fun x9 =>
 zb (gd x5 true (za (zw .leq x9 (Value.int .i64 24)))) fun x10 =>
 zb (za (zbe x5 x10 (Value.bool false))) fun x11 =>
 zb (gd x11 true (za (zh 0 x1))) fun x13 =>
 zb (gd x11 true (ld1 x13)) fun x14 =>
 zb (gd x11 true ((zft G_strings_IndexRune) [x14, (Value.string ⟨#[97, 98, 99, 100, 101, 102, 103, 104, 105, 106, 107, 108, 109, 110, 111, 112, 113, 114, 115, 116, 117, 118, 119, 120, 121, 122, 48, 49, 50, 51, 52, 53, 54, 55, 56, 57]⟩)])) fun x15 =>
 zb (gd x11 true (za (zw .eql x15 (Value.string ⟨#[]⟩)))) fun x16 =>
 zb (za (zbe x11 x16 (Value.bool false))) fun x17 =>
 zb (gd x17 true (za (zh 1 x1))) fun x19 =>
 zb (gd x17 true (ld1 x19)) fun x20 =>
 zb (gd x17 true (za (zet x20))) fun x21 =>
 zb (gd x17 true (za (zw .geq x21 (Value.int .i64 16)))) fun x22 =>
 zb (za (zbe x17 x22 (Value.bool false))) fun x23 =>
 zb (gd x23 true (za (zh 1 x1))) fun x25 =>
 zb (gd x23 true (ld1 x25)) fun x26 =>
 zb (gd x23 true (za (zet x26))) fun x27 =>
 zb (gd x23 true (za (zw .leq x27 (Value.int .i64 64)))) fun x28 =>
 zb (za (zbe x23 x28 (Value.bool false))) fun x29 =>
 ret (.ret [x29])
 ) fun o => zbl o fun vs => ret (zbi [(zd vs 0)])
def zbbk : Hint := (.seq [] .leaf (.seq [] .leaf .leaf))
def zoz (G_strings_IndexRune : List V → M V) : List V → M V := ap1 (ztt G_strings_IndexRune)
theorem zbbl {G_strings_IndexRune : List V → M V} (k_strings_IndexRune : zq Tryz.prog zr G_strings_IndexRune) : zq Tryz.prog zwk (zoz G_strings_IndexRune) := kn1 (σ := ovr [(zlk, zft G_strings_IndexRune)] noC) (hint := zbbk) (by kernel_rfl) (ze (zte k_strings_IndexRune) zk) fun _ => (by kernel_rfl)
def ztu (x0 x1 : V) : M V :=
 zb (
 zb (zfj x0) fun x2 =>
 zb (za (zh 0 x2)) fun x4 =>
 zb (ld1 x4) fun x5 =>
 zb (ld1 x1) fun x6 =>
 zb (za (zw .eql x5 x6)) fun x7 =>
 ret (.ret [x7])
 ) fun o => zbl o fun vs => ret (zbi [(zd vs 0)])
def zbbm : Hint := (.seq [] .leaf (.seq [] .leaf .leaf))
def zo0 : List V → M V := ap2 ztu
theorem zbbn : zq Tryz.prog zll (zo0) := kn2 (σ := ovr [] noC) (hint := zbbm) (by kernel_rfl) zk fun _ _ => (by kernel_rfl)
def zfg (S : zu) (vs_3 : List V) : M Out :=
 zb (za (zw .add (zd vs_3 3) (Value.int .i64 1))) fun x18 =>
 ret (.nxt [(zd vs_3 0), (zd vs_3 1), (zd vs_3 2), x18])
def zfh (S : zu) (vs_2 : List V) : M Out :=
 zb (
 zb (
 zb (za (zy 3 (zd vs_2 0) (zd vs_2 3))) fun x14 =>
 zb (ldn 3 x14) fun x15 =>
 zb (zlz (ovr [] S) (zd vs_2 1) [x15]) fun x16 =>
 zn x16 (
 ret (.ret [(zd vs_2 3)])
 ) (
 ret (.nxt [(zd vs_2 0), (zd vs_2 1), (zd vs_2 2), (zd vs_2 3)])
 )
 ) fun o => ret (zz 1 o)
 ) fun o => nx o (zfg S)
def zcz (S : zu) (vs : List V) : M Out :=
 zb (za (zw .lss (zd vs 3) (zd vs 2))) fun x9 =>
 zb (
 zn x9 (
 ret (.nxt [(zd vs 0), (zd vs 1), (zd vs 2), (zd vs 3)])
 ) (
 ret (.brk 0 [])
 )
 ) fun o => nx o (zfh S)
def zfi (S : zu) (vs_4 : List V) : M Out :=
 ret (.ret [(Value.int .i64 (-1))])
def zde (S : zu) (x0 x1 : V) : M V :=
 zb (
 zb (
 zb (za (zx x0)) fun x7 =>
 zb (
 zbj zb8 (zcz S) [x0, x1, x7, (Value.int .i64 0)]
 ) fun o => ret (zz 0 o)
 ) fun o => nx o (zfi S)
 ) fun o => zbl o fun vs => ret (zbi [(zd vs 0)])
def zk8 : Hint := (.seq [] .leaf (.seq [] (.seq [] .leaf (.blk (.loop [0, 1, 7, 8] (.seq [] .leaf (.seq [0, 1, 7, 8] (.cond .leaf .leaf) (.seq [0, 1, 7, 8] (.blk (.seq [] .leaf (.seq [] .leaf (.cond (.seq [] .leaf .leaf) .leaf)))) .leaf)))))) (.seq [] .leaf .leaf)))
def zb7 (S : zu) : List V → M V := ap2 (zde S)
theorem zk9 {S : zu} (hS : zdw Tryz.prog S) : zq Tryz.prog ze2 (zb7 S) := kn2 (σ := ovr [] S) (hint := zk8) (by kernel_rfl) (zd3 hS) fun _ _ => (by kernel_rfl)
def z22 (vs : List V) : M Out :=
 ret (.ret [(zd vs 0), (Value.int .i64 0)])
def zx3 (x0 x1 : V) : M V :=
 zb (
 zb (zfj x1) fun x3 =>
 zb (za (some (Value.func (.func zll) #[] #[x3]))) fun x8 =>
 zb ((zb7 (ovr [(zll, zo0)] noC)) [x0, x8]) fun x9 =>
 zb (
 zb (za (zw .lss x9 (Value.int .i64 0))) fun x11 =>
 zn x11 (
 ret (.ret [(Value.int .i64 0), (Value.int .i64 90)])
 ) (
 ret (.nxt [x9])
 )
 ) fun o => nx o z22
 ) fun o => zbl o fun vs => ret (zbi [(zd vs 0), (zd vs 1)])
def zbfv : Hint := (.seq [] .leaf (.seq [] .leaf (.seq [6] (.seq [] .leaf (.cond (.seq [] .leaf .leaf) .leaf)) (.seq [] .leaf .leaf))))
def zsf : List V → M V := ap2 zx3
def zbfw : zu := ovr [(ze2, zb7 (ovr [(zll, zo0)] noC))] noC
theorem zbfx : zq Tryz.prog zz1 (zsf) := kn2 (σ := zbfw) (hint := zbfv) (by kernel_rfl) (ze (zk9 (ze zbbn zk)) zk) fun _ _ => (by kernel_rfl)
def zl5 (vs_3 : List V) : M Out :=
 zb (za (zw .add (zd vs_3 3) (Value.int .i64 1))) fun x18 =>
 ret (.nxt [(zd vs_3 0), (zd vs_3 1), (zd vs_3 2), x18])
def zho (vs_2 : List V) : M Out :=
 zb (
 zb (
 zb (za (zy 1 (zd vs_2 0) (zd vs_2 3))) fun x14 =>
 zb (ld1 x14) fun x15 =>
 zb (za (zw .eql (zd vs_2 1) x15)) fun x16 =>
 zn x16 (
 ret (.ret [(zd vs_2 3)])
 ) (
 ret (.nxt [(zd vs_2 0), (zd vs_2 1), (zd vs_2 2), (zd vs_2 3)])
 )
 ) fun o => ret (zz 1 o)
 ) fun o => nx o zl5
def zey (vs : List V) : M Out :=
 zb (za (zw .lss (zd vs 3) (zd vs 2))) fun x9 =>
 zb (
 zn x9 (
 ret (.nxt [(zd vs 0), (zd vs 1), (zd vs 2), (zd vs 3)])
 ) (
 ret (.brk 0 [])
 )
 ) fun o => nx o zho
def zl6 (vs_4 : List V) : M Out :=
 ret (.ret [(Value.int .i64 (-1))])
def zh0 (x0 x1 : V) : M V :=
 zb (
 zb (
 zb (za (zx x0)) fun x7 =>
 zb (
 zbj zb8 zey [x0, x1, x7, (Value.int .i64 0)]
 ) fun o => ret (zz 0 o)
 ) fun o => nx o zl6
 ) fun o => zbl o fun vs => ret (zbi [(zd vs 0)])
def zvy : Hint := (.seq [] .leaf (.seq [] (.seq [] .leaf (.blk (.loop [0, 1, 7, 8] (.seq [] .leaf (.seq [0, 1, 7, 8] (.cond .leaf .leaf) (.seq [0, 1, 7, 8] (.blk (.seq [] .leaf (.seq [] .leaf (.cond (.seq [] .leaf .leaf) .leaf)))) .leaf)))))) (.seq [] .leaf .leaf)))
def zfo : List V → M V := ap2 zh0
theorem zvz : zq Tryz.prog zkg (zfo) := kn2 (σ := ovr [] noC) (hint := zvy) (by kernel_rfl) zk fun _ _ => (by kernel_rfl)
def zgk (x0 x1 : V) : M V :=
 zb (
 zb (zfo [x0, x1]) fun x7 =>
 zb (za (zw .geq x7 (Value.int .i64 0))) fun x8 =>
 ret (.ret [x8])
 ) fun o => zbl o fun vs => ret (zbi [(zd vs 0)])
def zsg : Hint := (.seq [] .leaf (.seq [] .leaf .leaf))
def zd7 : List V → M V := ap2 zgk
def zsh : zu := ovr [(zkg, zfo)] noC
theorem zsi : zq Tryz.prog zit (zd7) := kn2 (σ := zsh) (hint := zsg) (by kernel_rfl) (ze zvz zk) fun _ _ => (by kernel_rfl)
def z0m (vs_3 : List V) : M Out :=
 zb (gd (zd vs_3 2) false (za (some (zd vs_3 1)))) fun x37 =>
 zb (gd (zd vs_3 2) false (za (zh 0 (zd vs_3 3)))) fun x38 =>
 zb (gd (zd vs_3 2) false (ld1 x38)) fun x39 =>
 zb (gd (zd vs_3 2) false (zd7 [x37, x39])) fun x40 =>
 zb (za (zbe (zd vs_3 2) (Value.bool true) x40)) fun x41 =>
 zb (za (zh 0 (zd vs_3 3))) fun x43 =>
 zb (ld1 x43) fun x44 =>
 zb (zdv 1 1 (rep 1 [Value.int .i64 0]) [(0, 1, x44)]) fun x45 =>
 zb (zgf 1 8 (zd vs_3 1) x45) fun x46 =>
 ret (.nxt [(zd vs_3 0), x46, x41, (zd vs_3 4), (zd vs_3 5), (zd vs_3 6)])
def ztv (vs_4 : List V) : M Out :=
 zb (za (zw .add (zd vs_4 5) (Value.int .i64 1))) fun x47 =>
 ret (.nxt [(zd vs_4 0), (zd vs_4 1), (zd vs_4 2), (zd vs_4 3), (zd vs_4 4), x47])
def z0n (vs_2 : List V) : M Out :=
 zb (
 zb (
 zb (za (zy 2 (zd vs_2 3) (zd vs_2 5))) fun x14 =>
 zb (ldn 2 x14) fun x15 =>
 zb (newc [Value.int .i64 0, Value.int .i64 0]) fun x8 =>
 zb (stn 2 x8 x15) fun _ =>
 zb (
 zb (za (zh 0 x8)) fun x16 =>
 zb (ld1 x16) fun x17 =>
 zb (za (zw .lss x17 (Value.int .i64 0))) fun x18 =>
 zb (gd x18 false (za (zh 0 x8))) fun x20 =>
 zb (gd x18 false (ld1 x20)) fun x21 =>
 zb (gd x18 false (za (some (zd vs_2 0)))) fun x22 =>
 zb (gd x18 false (za (zw .geq x21 x22))) fun x23 =>
 zb (za (zbe x18 (Value.bool true) x23)) fun x24 =>
 zb (gd x24 false (za (zh 1 x8))) fun x26 =>
 zb (gd x24 false (ld1 x26)) fun x27 =>
 zb (gd x24 false (za (zw .lss x27 (Value.int .i64 1)))) fun x28 =>
 zb (za (zbe x24 (Value.bool true) x28)) fun x29 =>
 zb (gd x29 false (za (zh 1 x8))) fun x31 =>
 zb (gd x29 false (ld1 x31)) fun x32 =>
 zb (gd x29 false (za (zw .gtr x32 (Value.int .i64 4)))) fun x33 =>
 zb (za (zbe x29 (Value.bool true) x33)) fun x34 =>
 zn x34 (
 ret (.ret [(Value.int .i64 1)])
 ) (
 ret (.nxt [(zd vs_2 0), (zd vs_2 1), (zd vs_2 2), x8, (zd vs_2 3), (zd vs_2 4), (zd vs_2 5)])
 )
 ) fun o => nx o z0m
 ) fun o => ret (zz 1 o)
 ) fun o => nx o ztv
def zo1 (vs : List V) : M Out :=
 zb (za (zw .lss (zd vs 5) (zd vs 4))) fun x13 =>
 zb (
 zn x13 (
 ret (.nxt [(zd vs 0), (zd vs 1), (zd vs 2), (zd vs 3), (zd vs 4), (zd vs 5)])
 ) (
 ret (.brk 0 [(zd vs 2)])
 )
 ) fun o => nx o z0n
def z0o (vs_6 : List V) : M Out :=
 ret (.ret [(Value.int .i64 0)])
def ztw (vs_5 : List V) : M Out :=
 zb (
 zn (zd vs_5 0) (
 ret (.ret [(Value.int .i64 240)])
 ) (
 ret (.nxt [])
 )
 ) fun o => nx o z0o
def zv0 (x0 x1 : V) : M V :=
 zb (
 zb (zfj x0) fun x2 =>
 zb (
 zb (za (zh 2 x2)) fun x9 =>
 zb (ld1 x9) fun x10 =>
 zb (za (zx x10)) fun x11 =>
 zb (
 zbj zb8 zo1 [x1, (Value.slice none 0 0), (Value.bool false), x10, x11, (Value.int .i64 0)]
 ) fun o => ret (zz 0 o)
 ) fun o => nx o ztw
 ) fun o => zbl o fun vs => ret (zbi [(zd vs 0)])
def zbdd : Hint := (.seq [] .leaf (.seq [] .leaf (.seq [] .leaf (.seq [6] (.seq [] .leaf (.blk (.loop [1, 5, 6, 10, 11, 12] (.seq [] .leaf (.seq [1, 5, 6, 10, 11, 12] (.cond .leaf .leaf) (.seq [1, 5, 6, 10, 11, 12] (.blk (.seq [] .leaf (.seq [1, 5, 6, 8, 10, 11, 12] (.seq [] .leaf (.cond (.seq [] .leaf .leaf) .leaf)) (.seq [] .leaf .leaf)))) .leaf)))))) (.seq [] (.seq [] .leaf (.cond (.seq [] .leaf .leaf) .leaf)) (.seq [] .leaf .leaf))))))
def zqm : List V → M V := ap2 zv0
def zbde : zu := ovr [(zit, zd7)] noC
theorem zbdf : zq Tryz.prog zys (zqm) := kn2 (σ := zbde) (hint := zbdd) (by kernel_rfl) (ze zsi zk) fun _ _ => (by kernel_rfl)
def z0p (G_strings_IndexRune : List V → M V) (vs_5 : List V) : M Out :=
 zb (ldn 3 (zd vs_5 3)) fun x45 =>
 zb (zqm [x45, (zd vs_5 1)]) fun x47 =>
 zb (za (zw .neq x47 (Value.int .i64 0))) fun x49 =>
 zn x49 (
 ret (.ret [(zd vs_5 2), x47])
 ) (
 ret (.nxt [(zd vs_5 0), (zd vs_5 1), (zd vs_5 4), (zd vs_5 5), (zd vs_5 6)])
 )
def z0q (G_strings_IndexRune : List V → M V) (vs_4 : List V) : M Out :=
 zb (
 zb (za (zhk 3 (zd vs_4 0) none (some (zd vs_4 2)))) fun x36 =>
 zb (za (zh 0 (zd vs_4 3))) fun x37 =>
 zb (ld1 x37) fun x38 =>
 zb (zsf [x36, x38]) fun x39 =>
 zb (za (ext 0 x39)) fun x40 =>
 zb (za (ext 1 x39)) fun x41 =>
 zb (za (zw .eql x41 (Value.int .i64 0))) fun x43 =>
 zn x43 (
 ret (.ret [(zd vs_4 2), (Value.int .i64 6)])
 ) (
 ret (.nxt [(zd vs_4 0), (zd vs_4 1), (zd vs_4 2), (zd vs_4 3), (zd vs_4 4), (zd vs_4 5), (zd vs_4 6)])
 )
 ) fun o => nx o (z0p G_strings_IndexRune)
def z0r (G_strings_IndexRune : List V → M V) (vs_6 : List V) : M Out :=
 zb (za (zw .add (zd vs_6 4) (Value.int .i64 1))) fun x52 =>
 ret (.nxt [(zd vs_6 0), (zd vs_6 1), (zd vs_6 2), (zd vs_6 3), x52])
def z0s (G_strings_IndexRune : List V → M V) (vs_3 : List V) : M Out :=
 zb (
 zb (
 zb (za (zy 3 (zd vs_3 2) (zd vs_3 4))) fun x27 =>
 zb (ldn 3 x27) fun x28 =>
 zb (newc [Value.string ⟨#[]⟩, Value.string ⟨#[]⟩, Value.slice none 0 0]) fun x7 =>
 zb (stn 3 x7 x28) fun _ =>
 zb (
 zb (ldn 3 x7) fun x29 =>
 zb ((zoz G_strings_IndexRune) [x29]) fun x30 =>
 zb (za (un .not x30)) fun x31 =>
 zn x31 (
 ret (.ret [(zd vs_3 4), (Value.int .i64 3)])
 ) (
 ret (.nxt [(zd vs_3 0), (zd vs_3 1), (zd vs_3 4), x7, (zd vs_3 2), (zd vs_3 3), (zd vs_3 4)])
 )
 ) fun o => nx o (z0q G_strings_IndexRune)
 ) fun o => ret (zz 2 o)
 ) fun o => nx o (z0r G_strings_IndexRune)
def ztx (G_strings_IndexRune : List V → M V) (vs_2 : List V) : M Out :=
 zb (za (zw .lss (zd vs_2 4) (zd vs_2 3))) fun x25 =>
 zb (
 zn x25 (
 ret (.nxt [(zd vs_2 0), (zd vs_2 1), (zd vs_2 2), (zd vs_2 3), (zd vs_2 4)])
 ) (
 ret (.brk 1 [])
 )
 ) fun o => nx o (z0s G_strings_IndexRune)
def z0t (G_strings_IndexRune : List V → M V) (vs_7 : List V) : M Out :=
 ret (.ret [(Value.int .i64 0), (Value.int .i64 0)])
def z0u (G_strings_IndexRune : List V → M V) (vs : List V) : M Out :=
 zb (
 zb (za (zx (zd vs 0))) fun x23 =>
 zb (
 zbj zb8 (ztx G_strings_IndexRune) [(zd vs 0), (zd vs 1), (zd vs 0), x23, (Value.int .i64 0)]
 ) fun o => ret (zz 1 o)
 ) fun o => nx o (z0t G_strings_IndexRune)
def zjn (G_strings_IndexRune : List V → M V) (x0 x1 : V) : M V :=
 zb (
 zb (
 zb (
 zb (za (zw .lss x1 (Value.int .i64 1))) fun x13 =>
 zb (gd x13 false (za (some x1))) fun x15 =>
 zb (gd x13 false (za (zw .gtr x15 (Value.int .i64 8)))) fun x16 =>
 zb (za (zbe x13 (Value.bool true) x16)) fun x17 =>
 zn x17 (
 ret (.ret [(Value.int .i64 (-1)), (Value.int .i64 1)])
 ) (
 zb (za (zx x0)) fun x20 =>
 zb (za (zw .gtr x20 (Value.int .i64 8))) fun x21 =>
 zn x21 (
 ret (.ret [(Value.int .i64 (-1)), (Value.int .i64 2)])
 ) (
 ret (.nxt [x0, x1])
 )
 )
 ) fun o => ret (zz 0 o)
 ) fun o => nx o (z0u G_strings_IndexRune)
 ) fun o => zbl o fun vs => ret (zbi [(zd vs 0), (zd vs 1)])
def zbdg : Hint := (.seq [] .leaf (.seq [0, 1] (.blk (.seq [] .leaf (.cond (.seq [] .leaf .leaf) (.seq [] .leaf (.cond (.seq [] .leaf .leaf) .leaf))))) (.seq [] (.seq [] .leaf (.blk (.loop [0, 1, 22, 23, 24] (.seq [] .leaf (.seq [0, 1, 22, 23, 24] (.cond .leaf .leaf) (.seq [0, 1, 22, 23, 24] (.blk (.seq [] .leaf (.seq [0, 1, 6, 7, 22, 23, 24] (.seq [] .leaf (.cond (.seq [] .leaf .leaf) .leaf)) (.seq [0, 1, 6, 7, 22, 23, 24] (.seq [] (.reg [0, 1, 2, 3, 4, 5, 6, 7, 8, 9, 10] []) (.seq [] .leaf (.cond (.seq [] .leaf .leaf) .leaf))) (.seq [] .leaf (.seq [] .leaf (.cond (.seq [] .leaf .leaf) .leaf))))))) .leaf)))))) (.seq [] .leaf .leaf))))
def zqn (G_strings_IndexRune : List V → M V) : List V → M V := ap2 (zjn G_strings_IndexRune)
theorem zbdh {G_strings_IndexRune : List V → M V} (k_strings_IndexRune : zq Tryz.prog zr G_strings_IndexRune) : zq Tryz.prog zyr (zqn G_strings_IndexRune) := kn2 (σ := ovr [(zwk, zoz G_strings_IndexRune), (zz1, zsf), (zys, zqm)] noC) (hint := zbdg) (by kernel_rfl) (ze (zbbl k_strings_IndexRune) (ze zbfx (ze zbdf zk))) fun _ _ => (by kernel_rfl)
def zmy (vs : List V) : M Out :=
 zb (zdv 3 0 (rep 0 [Value.string ⟨#[]⟩, Value.string ⟨#[]⟩, Value.slice none 0 0]) []) fun x5 =>
 zb (zgf 3 56 x5 (zd vs 0)) fun x7 =>
 ret (.ret [x7])
def znf (x0 : V) : M V :=
 zb (
 zb (
 zb (za (zgp false (zd2 .s x0))) fun x4 =>
 zn x4 (
 ret (.ret [(Value.slice none 0 0)])
 ) (
 ret (.nxt [x0])
 )
 ) fun o => nx o zmy
 ) fun o => zbl o fun vs => ret (zbi [(zd vs 0)])
def zng : Hint := (.seq [] .leaf (.seq [0] (.seq [] .leaf (.cond (.seq [] .leaf .leaf) .leaf)) (.seq [] .leaf .leaf)))
def zd0 : List V → M V := ap1 znf
theorem znh : zq Tryz.prog zga (zd0) := kn1 (σ := ovr [] noC) (hint := zng) (by kernel_rfl) zk fun _ => (by kernel_rfl)
def z8u (G_strings_IndexRune : List V → M V) (vs_2 : List V) : M Out :=
 zb (zd0 [(zd vs_2 0)]) fun x26 =>
 zb (za (build [Value.slice none 0 0, Value.int .i64 0, Value.int .i64 0, Value.int .i64 0, Value.slice none 0 0, Value.slice none 0 0, Value.int .i64 0, Value.slice none 0 0, Value.slice none 0 0] [(0, 1, x26), (1, 1, (zd vs_2 1))])) fun x28 =>
 zb (zfj x28) fun x29 =>
 ret (.ret [x29, (Value.int .i64 0)])
def zu1 (G_strings_IndexRune : List V → M V) (vs : List V) : M Out :=
 zb (
 zb (za (zw .lss (zd vs 1) (Value.int .i64 1))) fun x20 =>
 zb (gd x20 false (za (some (zd vs 1)))) fun x22 =>
 zb (gd x20 false (za (zw .gtr x22 (Value.int .i64 100000)))) fun x23 =>
 zb (za (zbe x20 (Value.bool true) x23)) fun x24 =>
 zn x24 (
 ret (.ret [(Value.pointer none), (Value.int .i64 1)])
 ) (
 ret (.nxt [(zd vs 0), (zd vs 1)])
 )
 ) fun o => nx o (z8u G_strings_IndexRune)
def z4a (G_strings_IndexRune : List V → M V) (x0 x1 x2 : V) : M V :=
 zb (
 zb (
 zb ((zqn G_strings_IndexRune) [x0, x1]) fun x13 =>
 zb (za (ext 0 x13)) fun x14 =>
 zb (za (ext 1 x13)) fun x15 =>
 zb (za (zw .neq x15 (Value.int .i64 0))) fun x17 =>
 zn x17 (
 ret (.ret [(Value.pointer none), x15])
 ) (
 ret (.nxt [x0, x2])
 )
 ) fun o => nx o (zu1 G_strings_IndexRune)
 ) fun o => zbl o fun vs => ret (zbi [(zd vs 0), (zd vs 1)])
def zbkh : Hint := (.seq [] .leaf (.seq [0, 2] (.seq [] .leaf (.seq [] .leaf (.cond (.seq [] .leaf .leaf) .leaf))) (.seq [0, 2] (.seq [] .leaf (.cond (.seq [] .leaf .leaf) .leaf)) (.seq [] .leaf .leaf))))
def zx4 (G_strings_IndexRune : List V → M V) : List V → M V := ap3 (z4a G_strings_IndexRune)
theorem zbki {G_strings_IndexRune : List V → M V} (k_strings_IndexRune : zq Tryz.prog zr G_strings_IndexRune) : zq Tryz.prog z5m (zx4 G_strings_IndexRune) := kn3 (σ := ovr [(zyr, zqn G_strings_IndexRune), (zga, zd0)] noC) (hint := zbkh) (by kernel_rfl) (ze (zbdh k_strings_IndexRune) (ze znh zk)) fun _ _ _ => (by kernel_rfl)
def zlx (vs : List V) : M Out :=
 zb (zdv 3 0 (rep 0 [Value.int .i64 0, Value.int .i64 0, Value.bool false]) []) fun x5 =>
 zb (zgf 3 24 x5 (zd vs 0)) fun x7 =>
 ret (.ret [x7])
def zmg (x0 : V) : M V :=
 zb (
 zb (
 zb (za (zgp false (zd2 .s x0))) fun x4 =>
 zn x4 (
 ret (.ret [(Value.slice none 0 0)])
 ) (
 ret (.nxt [x0])
 )
 ) fun o => nx o zlx
 ) fun o => zbl o fun vs => ret (zbi [(zd vs 0)])
def zmh : Hint := (.seq [] .leaf (.seq [0] (.seq [] .leaf (.cond (.seq [] .leaf .leaf) .leaf)) (.seq [] .leaf .leaf)))
def zdp : List V → M V := ap1 zmg
theorem zmi : zq Tryz.prog zfq (zdp) := kn1 (σ := ovr [] noC) (hint := zmh) (by kernel_rfl) zk fun _ => (by kernel_rfl)
def zmz (vs : List V) : M Out :=
 zb (zdv 2 0 (rep 0 [Value.int .i64 0, Value.int .i64 0]) []) fun x5 =>
 zb (zgf 2 16 x5 (zd vs 0)) fun x7 =>
 ret (.ret [x7])
def zni (x0 : V) : M V :=
 zb (
 zb (
 zb (za (zgp false (zd2 .s x0))) fun x4 =>
 zn x4 (
 ret (.ret [(Value.slice none 0 0)])
 ) (
 ret (.nxt [x0])
 )
 ) fun o => nx o zmz
 ) fun o => zbl o fun vs => ret (zbi [(zd vs 0)])
def znj : Hint := (.seq [] .leaf (.seq [0] (.seq [] .leaf (.cond (.seq [] .leaf .leaf) .leaf)) (.seq [] .leaf .leaf)))
def zd1 : List V → M V := ap1 zni
theorem znk : zq Tryz.prog zf9 (zd1) := kn1 (σ := ovr [] noC) (hint := znj) (by kernel_rfl) zk fun _ => (by kernel_rfl)
noncomputable def zbbo (G_strings_IndexRune : List V → M V) (vs_5 : List V) : M Out :=
 zb (za (zw .add (zd vs_5 4) (Value.int .i64 1))) fun x65 =>
 ret (.nxt [(zd vs_5 0), (zd vs_5 1), (zd vs_5 2), (zd vs_5 3), x65])
noncomputable def zbbp (G_strings_IndexRune : List V → M V) (vs_4 : List V) : M Out :=
 zb (
 zb (
 zb (za (zy 3 (zd vs_4 2) (zd vs_4 4))) fun x49 =>
 zb (ldn 3 x49) fun x50 =>
 zb (newc [Value.string ⟨#[]⟩, Value.string ⟨#[]⟩, Value.slice none 0 0]) fun x13 =>
 zb (stn 3 x13 x50) fun _ =>
 zb (za (zh 2 x13)) fun x51 =>
 zb (ld1 x51) fun x52 =>
 zb (zd1 [x52]) fun x53 =>
 zb (za (zh 2 x13)) fun x54 =>
 zb (st1 x54 x53) fun _ =>
 zmo fun h0 =>
 zb (za (zcc (zd vs_4 1))) fun x57 =>
 zb (za (zh 2 x57)) fun x58 =>
 zb (ld1 x58) fun x59 =>
 zb (ldn 3 x13) fun x60 =>
 zdg (zdv 3 1 (rep 1 [Value.string ⟨#[]⟩, Value.string ⟨#[]⟩, Value.slice none 0 0]) [(0, 3, x60)]) fun ha x61 h1 =>
 zdg (zgf 3 56 x59 x61) fun ha_2 x62 h2 =>
 zb (za (zcc (zd vs_4 1))) fun x63 =>
 zb (za (zh 2 x63)) fun x64 =>
 zdg (st1 x64 x62) fun ha_3 u h3 =>
 zj5 (chk (ld1 x58) h1 x59) <|
 ret (.nxt [(zd vs_4 0), (zd vs_4 1), (zd vs_4 2), (zd vs_4 3), (zd vs_4 4)])
 ) fun o => ret (zz 1 o)
 ) fun o => nx o (zbbo G_strings_IndexRune)
noncomputable def z4b (G_strings_IndexRune : List V → M V) (vs_3 : List V) : M Out :=
 zb (za (zw .lss (zd vs_3 4) (zd vs_3 3))) fun x48 =>
 zb (
 zn x48 (
 ret (.nxt [(zd vs_3 0), (zd vs_3 1), (zd vs_3 2), (zd vs_3 3), (zd vs_3 4)])
 ) (
 ret (.brk 0 [(zd vs_3 0), (zd vs_3 1)])
 )
 ) fun o => nx o (zbbp G_strings_IndexRune)
noncomputable def z4c (G_strings_IndexRune : List V → M V) (vs_9 : List V) : M Out :=
 zb (za (zw .add (zd vs_9 4) (Value.int .i64 1))) fun x87 =>
 ret (.nxt [(zd vs_9 0), (zd vs_9 1), (zd vs_9 2), (zd vs_9 3), x87])
noncomputable def zbbq (G_strings_IndexRune : List V → M V) (vs_8 : List V) : M Out :=
 zb (
 zb (
 zb (za (zy 2 (zd vs_8 2) (zd vs_8 4))) fun x71 =>
 zb (ldn 2 x71) fun x72 =>
 zb (newc [Value.int .i64 0, Value.bool false]) fun x15 =>
 zb (stn 2 x15 x72) fun _ =>
 zb (za (zh 1 x15)) fun x73 =>
 zb (ld1 x73) fun x74 =>
 zb (za (un .not x74)) fun x75 =>
 zn x75 (
 zmo fun h0_2 =>
 zb (za (zcc (zd vs_8 1))) fun x78 =>
 zb (za (zh 4 x78)) fun x79 =>
 zb (za (zh 0 x15)) fun x81 =>
 zb (ld1 x79) fun x80 =>
 zb (ld1 x81) fun x82 =>
 zdg (zdv 1 1 (rep 1 [Value.int .i64 0]) [(0, 1, x82)]) fun ha_4 x83 h1_2 =>
 zdg (zgf 1 8 x80 x83) fun ha_5 x84 h2_2 =>
 zb (za (zcc (zd vs_8 1))) fun x85 =>
 zb (za (zh 4 x85)) fun x86 =>
 zdg (st1 x86 x84) fun ha_6 u_2 h3_2 =>
 zj5 (chk (ld1 x79) h1_2 x80) <|
 ret (.nxt [(zd vs_8 0), (zd vs_8 1), (zd vs_8 2), (zd vs_8 3), (zd vs_8 4)])
 ) (
 ret (.nxt [(zd vs_8 0), (zd vs_8 1), (zd vs_8 2), (zd vs_8 3), (zd vs_8 4)])
 )
 ) fun o => ret (zz 3 o)
 ) fun o => nx o (z4c G_strings_IndexRune)
noncomputable def z4d (G_strings_IndexRune : List V → M V) (vs_7 : List V) : M Out :=
 zb (za (zw .lss (zd vs_7 4) (zd vs_7 3))) fun x70 =>
 zb (
 zn x70 (
 ret (.nxt [(zd vs_7 0), (zd vs_7 1), (zd vs_7 2), (zd vs_7 3), (zd vs_7 4)])
 ) (
 ret (.brk 2 [(zd vs_7 0), (zd vs_7 1)])
 )
 ) fun o => nx o (zbbq G_strings_IndexRune)
noncomputable def z4e (G_strings_IndexRune : List V → M V) (vs_13 : List V) : M Out :=
 zb (za (zw .add (zd vs_13 3) (Value.int .i64 1))) fun x104 =>
 ret (.nxt [(zd vs_13 0), (zd vs_13 1), (zd vs_13 2), x104])
noncomputable def zbbr (G_strings_IndexRune : List V → M V) (vs_12 : List V) : M Out :=
 zb (
 zb (
 zb (za (zy 3 (zd vs_12 1) (zd vs_12 3))) fun x94 =>
 zb (ldn 3 x94) fun x95 =>
 zb (newc [Value.int .i64 0, Value.int .i64 0, Value.int .i64 0]) fun x17 =>
 zb (stn 3 x17 x95) fun _ =>
 zb (za (zh 0 x17)) fun x96 =>
 zb (ld1 x96) fun x97 =>
 zb (za (zw .eql x97 (Value.int .i64 (-1)))) fun x98 =>
 zn x98 (
 zb (za (zh 2 x17)) fun x100 =>
 zb (ld1 x100) fun x101 =>
 zb (za (zcc (zd vs_12 0))) fun x102 =>
 zb (za (zh 5 x102)) fun x103 =>
 zb (st1 x103 x101) fun _ =>
 ret (.nxt [(zd vs_12 0), (zd vs_12 1), (zd vs_12 2), (zd vs_12 3)])
 ) (
 ret (.nxt [(zd vs_12 0), (zd vs_12 1), (zd vs_12 2), (zd vs_12 3)])
 )
 ) fun o => ret (zz 5 o)
 ) fun o => nx o (z4e G_strings_IndexRune)
noncomputable def z4f (G_strings_IndexRune : List V → M V) (vs_11 : List V) : M Out :=
 zb (za (zw .lss (zd vs_11 3) (zd vs_11 2))) fun x93 =>
 zb (
 zn x93 (
 ret (.nxt [(zd vs_11 0), (zd vs_11 1), (zd vs_11 2), (zd vs_11 3)])
 ) (
 ret (.brk 4 [(zd vs_11 0)])
 )
 ) fun o => nx o (zbbr G_strings_IndexRune)
noncomputable def zbbs (G_strings_IndexRune : List V → M V) (vs_14 : List V) : M Out :=
 ret (.ret [(zd vs_14 0), (Value.int .i64 0)])
noncomputable def z8v (G_strings_IndexRune : List V → M V) (vs_10 : List V) : M Out :=
 zb (
 zb (za (zh 3 (zd vs_10 0))) fun x88 =>
 zb (za (zh 1 x88)) fun x89 =>
 zb (ld1 x89) fun x90 =>
 zb (za (zx x90)) fun x91 =>
 zb (
 zbj zb8 (z4f G_strings_IndexRune) [(zd vs_10 1), x90, x91, (Value.int .i64 0)]
 ) fun o => ret (zz 4 o)
 ) fun o => nx o (zbbs G_strings_IndexRune)
noncomputable def z8w (G_strings_IndexRune : List V → M V) (vs_6 : List V) : M Out :=
 zb (
 zb (za (zh 0 (zd vs_6 0))) fun x66 =>
 zb (ld1 x66) fun x67 =>
 zb (za (zx x67)) fun x68 =>
 zb (
 zbj zb8 (z4d G_strings_IndexRune) [(zd vs_6 0), (zd vs_6 1), x67, x68, (Value.int .i64 0)]
 ) fun o => ret (zz 2 o)
 ) fun o => nx o (z8v G_strings_IndexRune)
noncomputable def z8x (G_strings_IndexRune : List V → M V) (vs_2 : List V) : M Out :=
 zb (za (zh 1 (zd vs_2 1))) fun x40 =>
 zb (ld1 x40) fun x41 =>
 zb (zdp [x41]) fun x42 =>
 zb (za (build [Value.pointer none, Value.pointer none, Value.slice none 0 0, Value.slice none 0 0, Value.slice none 0 0, Value.int .i64 0, Value.int .i64 0, Value.int .i64 0] [(0, 1, (zd vs_2 2)), (1, 1, (zd vs_2 3)), (3, 1, x42)])) fun x43 =>
 zb (zfj x43) fun x44 =>
 zb (
 zb (za (zx (zd vs_2 0))) fun x46 =>
 zb (
 zbj zb8 (z4b G_strings_IndexRune) [(zd vs_2 1), x44, (zd vs_2 0), x46, (Value.int .i64 0)]
 ) fun o => ret (zz 0 o)
 ) fun o => nx o (z8w G_strings_IndexRune)
noncomputable def z8y (G_strings_IndexRune : List V → M V) (vs : List V) : M Out :=
 zb (za (zh 5 (zd vs 2))) fun x28 =>
 zb (ld1 x28) fun x29 =>
 zb (za (zx x29)) fun x30 =>
 zb ((zx4 G_strings_IndexRune) [(zd vs 0), x30, (zd vs 1)]) fun x32 =>
 zb (za (ext 0 x32)) fun x33 =>
 zb (za (ext 1 x32)) fun x34 =>
 zb (
 zb (za (zw .neq x34 (Value.int .i64 0))) fun x36 =>
 zn x36 (
 ret (.ret [(Value.pointer none), x34])
 ) (
 ret (.nxt [(zd vs 0), (zd vs 2), (zd vs 3), x33])
 )
 ) fun o => nx o (z8x G_strings_IndexRune)
noncomputable def z7z (G_strings_IndexRune : List V → M V) (x0 x1 x2 : V) : M V :=
 zb (
 zb (zfj x0) fun x3 =>
 zb (ldn 7 x3) fun x19 =>
 zb (zx2 [x19]) fun x20 =>
 zb (za (ext 0 x20)) fun x21 =>
 zb (za (ext 1 x20)) fun x22 =>
 zb (
 zb (za (zw .neq x22 (Value.int .i64 0))) fun x24 =>
 zn x24 (
 ret (.ret [(Value.pointer none), x22])
 ) (
 ret (.nxt [x1, x2, x3, x21])
 )
 ) fun o => nx o (z8y G_strings_IndexRune)
 ) fun o => zbl o fun vs => ret (zbi [(zd vs 0), (zd vs 1)])
def zbnk : Hint := (.seq [] .leaf (.seq [] .leaf (.seq [1, 2, 3, 8] (.seq [] .leaf (.cond (.seq [] .leaf .leaf) .leaf)) (.seq [] .leaf (.seq [1, 3, 8, 10] (.seq [] .leaf (.cond (.seq [] .leaf .leaf) .leaf)) (.seq [] .leaf (.seq [3, 11] (.seq [] .leaf (.blk (.loop [3, 11, 45, 46, 47] (.seq [] .leaf (.seq [3, 11, 45, 46, 47] (.cond .leaf .leaf) (.seq [3, 11, 45, 46, 47] (.blk (.seq [] .leaf (.seq [] .leaf (.reg [0, 1, 2, 3, 4, 5, 6, 7, 8, 9, 10] [])))) .leaf)))))) (.seq [3, 11] (.seq [] .leaf (.blk (.loop [3, 11, 67, 68, 69] (.seq [] .leaf (.seq [3, 11, 67, 68, 69] (.cond .leaf .leaf) (.seq [3, 11, 67, 68, 69] (.blk (.seq [] .leaf (.seq [] .leaf (.cond (.reg [0, 1, 2, 3, 5, 4, 6, 7, 8, 9, 10, 11] []) .leaf)))) .leaf)))))) (.seq [11] (.seq [] .leaf (.blk (.loop [11, 90, 91, 92] (.seq [] .leaf (.seq [11, 90, 91, 92] (.cond .leaf .leaf) (.seq [11, 90, 91, 92] (.blk (.seq [] .leaf (.seq [] .leaf (.cond .leaf .leaf)))) .leaf)))))) (.seq [] .leaf .leaf))))))))))
noncomputable def zsr (G_strings_IndexRune : List V → M V) : List V → M V := ap3 (z7z G_strings_IndexRune)
theorem zbei {G_strings_IndexRune : List V → M V} (k_strings_IndexRune : zq Tryz.prog zr G_strings_IndexRune) : zq Tryz.prog zzv (zsr G_strings_IndexRune) := kn3 (σ := ovr [(z5l, zx2), (z5m, zx4 G_strings_IndexRune), (zfq, zdp), (zf9, zd1)] noC) (hint := zbnk) (by kernel_rfl) (ze zbkg (ze (zbki k_strings_IndexRune) (ze zmi (ze znk zk)))) fun _ _ _ => (by kernel_rfl)
end Go.AM.Cap
