import Derived.Test.YtehhkminlafeiaaGreatDoorAmWp
import Derived.Test.YtehhkminlafeiaaGreatDoorProg
set_option linter.all false
/- Printed by amprint2.py: functions of YtehhkminlafeiaaGreatDoor on the abstract machine. -/
set_option linter.unusedVariables false
set_option maxRecDepth 100000
namespace Go.AM.Cap
open Go.AM Go.Proofs
def gid_sha_first : Nat := 0
def gid_sha_rounds : Nat := 2
def z35 : Nat := 3
def zu7 : Nat := 4
def zv8 : Nat := 7
def zsa : Nat := 9
def zqk : Nat := 10
def zmn : Nat := 11
def zoz : Nat := 12
def zg4 : Nat := 13
def zi5 : Nat := 14
def zrl : Nat := 15
def zl1 : Nat := 16
def zij : Nat := 17
def zm4 : Nat := 18
def zju : Nat := 19
def znq : Nat := 20
def zql : Nat := 21
def zsb : Nat := 22
def zo0 : Nat := 25
def zuj : Nat := 26
def zsc : Nat := 27
def zhx : Nat := 28
def zkt : Nat := 29
def zgm : Nat := 30
def zgn : Nat := 31
def zqm : Nat := 32
def zqn : Nat := 33
def zo1 : Nat := 34
def zc9 : Nat := 35
def zwq : Nat := 36
def zdp : Nat := 37
def zu8 : Nat := 38
def zmu : Nat := 39
def zd2 : Nat := 40
def zde : Nat := 41
def zel : Nat := 42
def zdf : Nat := 43
def zi6 : Nat := 44
def zx1 : Nat := 45
def z36 : Nat := 46
def zp2 : Nat := 47
def zvq : Nat := 48
def zsd : Nat := 49
def zt4 : Nat := 51
def zse : Nat := 52
def zqo : Nat := 53
def zdv : Nat := 54
def zvr : Nat := 55
def zjv : Nat := 56
def zsf : Nat := 57
def zjw : Nat := 58
def zku : Nat := 59
def zl2 : Nat := 60
def zjx : Nat := 61
def zl3 : Nat := 62
def zjf : Nat := 63
def zkv : Nat := 64
def znr : Nat := 65
def zf6 : Nat := 66
def zf7 : Nat := 67
def zfv : Nat := 68
def zuk : Nat := 69
def zgs : Nat := 70
def zvs : Nat := 71
def ze8 : Nat := 72
def z37 : Nat := 73
def zul : Nat := 74
def zsg : Nat := 75
def ze1 : Nat := 76
def z1h : Nat := 77
def zcl : Nat := 78
def z6o : Nat := 79
def zq2 : Nat := 80
def zt5 : Nat := 81
def zt6 : Nat := 82
def zum : Nat := 83
def zx2 : Nat := 84
def zt7 : Nat := 85
def zvt : Nat := 86
def zx3 : Nat := 87
def zo2 : Nat := 88
def zqp : Nat := 89
def zx4 : Nat := 90
def zx5 : Nat := 91
def zib : Nat := 92
def zkw : Nat := 93
def zt8 : Nat := 94
def zek : Nat := 95
def zk4 : Nat := 96
def zcd : Nat := 97
def zfn : Nat := 98
def zwr : Nat := 99
def zm5 : Nat := 100
def z1i : Nat := 101
def zhd : Nat := 102
def zl4 : Nat := 103
def zsh : Nat := 104
def zt9 : Nat := 105
def zx6 : Nat := 106
def z1j : Nat := 107
def zvu : Nat := 108
def zo3 : Nat := 109
def zhm : Nat := 110
def zvv : Nat := 111
def z38 : Nat := 116
def zvw : Nat := 117
def zps : Nat := 118
def zsi : Nat := 119
def z1k : Nat := 120
def zhe : Nat := 121
def zgx : Nat := 122
def zhf : Nat := 123
def zgy : Nat := 124
def zgf : Nat := 125
def zf1 : Nat := 126
def zfr : Nat := 127
def zff : Nat := 131
def zdg : Nat := 132
def zeb : Nat := 133
def zdo : Nat := 134
def zeu : Nat := 135
def zcp : Nat := 136
def zi7 : Nat := 137
def zbiu : Nat := 9
def zbgp : Nat := 161
def zm6 : Nat := 163
def z1l (vs_2 : List V) : M Out :=
 zb (
 zb (za (zct (zc vs_2 0))) fun x19 =>
 zb (za (zj .sub x19 (Value.int .i64 1))) fun x20 =>
 zb (za (zp0 (zc vs_2 0) none (some x20))) fun x21 =>
 ret (.nxt [x21, (zc vs_2 1)])
 ) fun o => ret (zw 1 o)
def z1m (vs : List V) : M Out :=
 zb (
 zb (za (zct (zc vs 0))) fun x6 =>
 zb (za (zj .gtr x6 (Value.int .i64 0))) fun x7 =>
 zb (gd x7 true (za (some (zc vs 0)))) fun x9 =>
 zb (gd x7 true (za (some (zc vs 0)))) fun x10 =>
 zb (gd x7 true (za (zct x10))) fun x11 =>
 zb (gd x7 true (za (zj .sub x11 (Value.int .i64 1)))) fun x12 =>
 zb (gd x7 true (za (zk1 x9 x12))) fun x13 =>
 zb (gd x7 true (za (some (zc vs 1)))) fun x14 =>
 zb (gd x7 true (za (zj .eql x13 x14))) fun x15 =>
 zb (za (zcq x7 x15 (Value.bool false))) fun x16 =>
 zi x16 (
 ret (.nxt [(zc vs 0), (zc vs 1)])
 ) (
 ret (.brk 0 [(zc vs 0)])
 )
 ) fun o => nx o z1l
def z1n (vs_3 : List V) : M Out :=
 ret (.ret [(zc vs_3 0)])
def zrm (x0 x1 : V) : M V :=
 zb (
 zb (
 zb (
 zce zcc z1m [x0, x1]
 ) fun o => ret (zw 0 o)
 ) fun o => nx o z1n
 ) fun o => zcf o fun vs => ret (zca [(zc vs 0)])
def zrn : Hint := (.seq [] .leaf (.seq [0] (.blk (.loop [0, 1] (.seq [0, 1] (.seq [] .leaf (.cond .leaf .leaf)) (.blk .leaf)))) (.seq [] .leaf .leaf)))
def zfx (l : List V) : M V := match l with | [x0, x1] => zrm x0 x1 | _ => fail
theorem z2j (x0 x1 : V) : zcs Tryz.prog (ovr [] noC) zgx zrn [x0, x1] = zrm x0 x1 := by kernel_rfl
theorem z2k : zy Tryz.prog zgx (zfx) := zh (σ := ovr [] noC) (hint := zrn) (by kernel_rfl) ze fun l H r H' h => by
 unfold zfx at h; split at h
 · rw [z2j]; exact h
 · exact (zf h).elim
def z2l (vs_2 : List V) : M Out :=
 zb (
 zb (za (zp0 (zc vs_2 0) (some (Value.int .i64 1)) none)) fun x15 =>
 ret (.nxt [x15, (zc vs_2 1)])
 ) fun o => ret (zw 1 o)
def z2m (vs : List V) : M Out :=
 zb (
 zb (za (zct (zc vs 0))) fun x6 =>
 zb (za (zj .gtr x6 (Value.int .i64 0))) fun x7 =>
 zb (gd x7 true (za (some (zc vs 0)))) fun x9 =>
 zb (gd x7 true (za (zk1 x9 (Value.int .i64 0)))) fun x10 =>
 zb (gd x7 true (za (some (zc vs 1)))) fun x11 =>
 zb (gd x7 true (za (zj .eql x10 x11))) fun x12 =>
 zb (za (zcq x7 x12 (Value.bool false))) fun x13 =>
 zi x13 (
 ret (.nxt [(zc vs 0), (zc vs 1)])
 ) (
 ret (.brk 0 [(zc vs 0)])
 )
 ) fun o => nx o z2l
def z2n (vs_3 : List V) : M Out :=
 ret (.ret [(zc vs_3 0)])
def zsj (x0 x1 : V) : M V :=
 zb (
 zb (
 zb (
 zce zcc z2m [x0, x1]
 ) fun o => ret (zw 0 o)
 ) fun o => nx o z2n
 ) fun o => zcf o fun vs => ret (zca [(zc vs 0)])
def zsk : Hint := (.seq [] .leaf (.seq [0] (.blk (.loop [0, 1] (.seq [0, 1] (.seq [] .leaf (.cond .leaf .leaf)) (.blk .leaf)))) (.seq [] .leaf .leaf)))
def zgg (l : List V) : M V := match l with | [x0, x1] => zsj x0 x1 | _ => fail
theorem z39 (x0 x1 : V) : zcs Tryz.prog (ovr [] noC) zhe zsk [x0, x1] = zsj x0 x1 := by kernel_rfl
theorem z4a : zy Tryz.prog zhe (zgg) := zh (σ := ovr [] noC) (hint := zsk) (by kernel_rfl) ze fun l H r H' h => by
 unfold zgg at h; split at h
 · rw [z39]; exact h
 · exact (zf h).elim
def zro (vs_3 : List V) : M Out :=
 zb (za (zei 256 1 (zc vs_3 1) (zc vs_3 3))) fun x19 =>
 zb (st1 x19 (Value.bool true)) fun _ =>
 ret (.nxt [(zc vs_3 0), (zc vs_3 1), (zc vs_3 2)])
def zrp (vs_4 : List V) : M Out :=
 zb (za (zj .add (zc vs_4 2) (Value.int .i64 1))) fun x11 =>
 ret (.nxt [(zc vs_4 0), (zc vs_4 1), x11])
def zrq (vs_2 : List V) : M Out :=
 zb (
 zb (
 zb (za (zk1 (zc vs_2 0) (zc vs_2 2))) fun x14 =>
 zb (
 zb (za (zj .geq x14 (Value.int .u8 128))) fun x16 =>
 zi x16 (
 zb (ldn 256 (zc vs_2 1)) fun x17 =>
 zb (stn 256 (zc vs_2 1) x17) fun _ =>
 ret (.ret [(zc vs_2 1), (Value.bool false)])
 ) (
 ret (.nxt [(zc vs_2 0), (zc vs_2 1), (zc vs_2 2), x14])
 )
 ) fun o => nx o zro
 ) fun o => ret (zw 1 o)
 ) fun o => nx o zrp
def zk5 (vs : List V) : M Out :=
 zb (
 zb (za (zct (zc vs 0))) fun x8 =>
 zb (za (zj .lss (zc vs 2) x8)) fun x9 =>
 zi x9 (
 ret (.nxt [(zc vs 0), (zc vs 1), (zc vs 2)])
 ) (
 ret (.brk 0 [(zc vs 1)])
 )
 ) fun o => nx o zrq
def zrr (vs_5 : List V) : M Out :=
 zb (ldn 256 (zc vs_5 0)) fun x20 =>
 zb (stn 256 (zc vs_5 0) x20) fun _ =>
 ret (.ret [(zc vs_5 0), (Value.bool true)])
def zik (x0 : V) : M V :=
 zb (
 zb (newc (List.replicate 256 (Value.bool false))) fun x2 =>
 zb (
 zb (
 zce zcc zk5 [x0, x2, (Value.int .i64 0)]
 ) fun o => ret (zw 0 o)
 ) fun o => nx o zrr
 ) fun o => zcf o fun vs => zb (ldn 256 (zc vs 0)) fun r0 => ret (zca [r0, (zc vs 1)])
def zsl : Hint := (.seq [] .leaf (.seq [2] (.seq [] .leaf (.blk (.loop [0, 2, 4] (.seq [0, 2, 4] (.seq [] .leaf (.cond .leaf .leaf)) (.seq [0, 2, 4] (.blk (.seq [] .leaf (.seq [0, 2, 4, 5] (.seq [] .leaf (.cond (.seq [] .leaf .leaf) .leaf)) .leaf))) .leaf))))) (.seq [] .leaf .leaf)))
def ze9 (l : List V) : M V := match l with | [x0] => zik x0 | _ => fail
theorem z4b (x0 : V) : zcs Tryz.prog (ovr [] noC) zhf zsl [x0] = zik x0 := by kernel_rfl
theorem z4c : zy Tryz.prog zhf (ze9) := zh (σ := ovr [] noC) (hint := zsl) (by kernel_rfl) ze fun l H r H' h => by
 unfold ze9 at h; split at h
 · rw [z4b]; exact h
 · exact (zf h).elim
def zf2 (x0 x1 : V) : M V :=
 zb (
 zb (za (zu x0)) fun x7 =>
 zb (za (zei 256 1 x7 x1)) fun x8 =>
 zb (z7 x8) fun x9 =>
 ret (.ret [x9])
 ) fun o => zcf o fun vs => ret (zca [(zc vs 0)])
def zm7 : Hint := (.seq [] .leaf (.seq [] .leaf .leaf))
def zdd (l : List V) : M V := match l with | [x0, x1] => zf2 x0 x1 | _ => fail
theorem zws (x0 x1 : V) : zcs Tryz.prog (ovr [] noC) zff zm7 [x0, x1] = zf2 x0 x1 := by kernel_rfl
theorem zm8 : zy Tryz.prog zff (zdd) := zh (σ := ovr [] noC) (hint := zm7) (by kernel_rfl) ze fun l H r H' h => by
 unfold zdd at h; split at h
 · rw [zws]; exact h
 · exact (zf h).elim
def zpk (vs_3 : List V) : M Out :=
 zb (za (zct (zc vs_3 0))) fun x18 =>
 zb (za (zj .sub x18 (Value.int .i64 1))) fun x19 =>
 zb (za (zp0 (zc vs_3 0) none (some x19))) fun x20 =>
 ret (.nxt [x20, (zc vs_3 1)])
def zpl (vs_2 : List V) : M Out :=
 zb (
 zb (
 zb (za (zct (zc vs_2 0))) fun x11 =>
 zb (za (zj .sub x11 (Value.int .i64 1))) fun x12 =>
 zb (za (zk1 (zc vs_2 0) x12)) fun x13 =>
 zb (zdd [(zc vs_2 1), x13]) fun x14 =>
 zb (za (un .not x14)) fun x15 =>
 zi x15 (
 ret (.brk 0 [(zc vs_2 0)])
 ) (
 ret (.nxt [(zc vs_2 0), (zc vs_2 1)])
 )
 ) fun o => nx o zpk
 ) fun o => ret (zw 1 o)
def zjo (vs : List V) : M Out :=
 zb (
 zb (za (zct (zc vs 0))) fun x6 =>
 zb (za (zj .gtr x6 (Value.int .i64 0))) fun x7 =>
 zi x7 (
 ret (.nxt [(zc vs 0), (zc vs 1)])
 ) (
 ret (.brk 0 [(zc vs 0)])
 )
 ) fun o => nx o zpl
def zjp (vs_4 : List V) : M Out :=
 ret (.ret [(zc vs_4 0)])
def zhg (x0 x1 : V) : M V :=
 zb (
 zb (
 zb (
 zce zcc zjo [x0, x1]
 ) fun o => ret (zw 0 o)
 ) fun o => nx o zjp
 ) fun o => zcf o fun vs => ret (zca [(zc vs 0)])
def zp3 : Hint := (.seq [] .leaf (.seq [0] (.blk (.loop [0, 1] (.seq [0, 1] (.seq [] .leaf (.cond .leaf .leaf)) (.blk (.seq [0, 1] (.seq [] .leaf (.cond .leaf .leaf)) .leaf))))) (.seq [] .leaf .leaf)))
def zec (l : List V) : M V := match l with | [x0, x1] => zhg x0 x1 | _ => fail
def zp4 : zp := ovr [(zff, zdd)] noC
theorem z1o (x0 x1 : V) : zcs Tryz.prog (zp4) zgf zp3 [x0, x1] = zhg x0 x1 := by kernel_rfl
theorem z1p : zy Tryz.prog zgf (zec) := zh (σ := zp4) (hint := zp3) (by kernel_rfl) (zd zm8 ze) fun l H r H' h => by
 unfold zec at h; split at h
 · rw [z1o]; exact h
 · exact (zf h).elim
def zp5 (vs_3 : List V) : M Out :=
 zb (za (zp0 (zc vs_3 0) (some (Value.int .i64 1)) none)) fun x14 =>
 ret (.nxt [x14, (zc vs_3 1)])
def zp6 (vs_2 : List V) : M Out :=
 zb (
 zb (
 zb (za (zk1 (zc vs_2 0) (Value.int .i64 0))) fun x10 =>
 zb (zdd [(zc vs_2 1), x10]) fun x11 =>
 zb (za (un .not x11)) fun x12 =>
 zi x12 (
 ret (.brk 0 [(zc vs_2 0)])
 ) (
 ret (.nxt [(zc vs_2 0), (zc vs_2 1)])
 )
 ) fun o => nx o zp5
 ) fun o => ret (zw 1 o)
def zke (vs : List V) : M Out :=
 zb (
 zb (za (zct (zc vs 0))) fun x6 =>
 zb (za (zj .gtr x6 (Value.int .i64 0))) fun x7 =>
 zi x7 (
 ret (.nxt [(zc vs 0), (zc vs 1)])
 ) (
 ret (.brk 0 [(zc vs 0)])
 )
 ) fun o => nx o zp6
def zkf (vs_4 : List V) : M Out :=
 ret (.ret [(zc vs_4 0)])
def zhy (x0 x1 : V) : M V :=
 zb (
 zb (
 zb (
 zce zcc zke [x0, x1]
 ) fun o => ret (zw 0 o)
 ) fun o => nx o zkf
 ) fun o => zcf o fun vs => ret (zca [(zc vs 0)])
def zrs : Hint := (.seq [] .leaf (.seq [0] (.blk (.loop [0, 1] (.seq [0, 1] (.seq [] .leaf (.cond .leaf .leaf)) (.blk (.seq [0, 1] (.seq [] .leaf (.cond .leaf .leaf)) .leaf))))) (.seq [] .leaf .leaf)))
def zex (l : List V) : M V := match l with | [x0, x1] => zhy x0 x1 | _ => fail
def zrt : zp := ovr [(zff, zdd)] noC
theorem z2o (x0 x1 : V) : zcs Tryz.prog (zrt) zgy zrs [x0, x1] = zhy x0 x1 := by kernel_rfl
theorem z2p : zy Tryz.prog zgy (zex) := zh (σ := zrt) (hint := zrs) (by kernel_rfl) (zd zm8 ze) fun l H r H' h => by
 unfold zex at h; split at h
 · rw [z2o]; exact h
 · exact (zf h).elim
def zp7 (x0 : V) : M V :=
 zb (
 zb (za (zj .and x0 (Value.int .u8 192))) fun x4 =>
 zb (za (zj .neq x4 (Value.int .u8 128))) fun x5 =>
 ret (.ret [x5])
 ) fun o => zcf o fun vs => ret (zca [(zc vs 0)])
def zp8 : Hint := (.seq [] .leaf (.seq [] .leaf .leaf))
def zhh (l : List V) : M V := match l with | [x0] => zp7 x0 | _ => fail
theorem z1q (x0 : V) : zcs Tryz.prog (ovr [] noC) zi7 zp8 [x0] = zp7 x0 := by kernel_rfl
theorem z1r : zy Tryz.prog zi7 (zhh) := zh (σ := ovr [] noC) (hint := zp8) (by kernel_rfl) ze fun l H r H' h => by
 unfold zhh at h; split at h
 · rw [z1q]; exact h
 · exact (zf h).elim
def zns (vs_8 : List V) : M Out :=
 zb (za (zj .and (zc vs_8 0) (Value.int .u8 7))) fun x100 =>
 zb (za (cvi .i32 x100)) fun x101 =>
 zb (za (zj .shl x101 (Value.int .u64 18))) fun x102 =>
 zb (za (zj .and (zc vs_8 1) (Value.int .u8 63))) fun x104 =>
 zb (za (cvi .i32 x104)) fun x105 =>
 zb (za (zj .shl x105 (Value.int .u64 12))) fun x106 =>
 zb (za (zj .or x102 x106)) fun x107 =>
 zb (za (zj .and (zc vs_8 2) (Value.int .u8 63))) fun x109 =>
 zb (za (cvi .i32 x109)) fun x110 =>
 zb (za (zj .shl x110 (Value.int .u64 6))) fun x111 =>
 zb (za (zj .or x107 x111)) fun x112 =>
 zb (za (zj .and (zc vs_8 3) (Value.int .u8 63))) fun x114 =>
 zb (za (cvi .i32 x114)) fun x115 =>
 zb (za (zj .or x112 x115)) fun x116 =>
 ret (.ret [x116, (Value.int .i64 4)])
def znt (vs_7 : List V) : M Out :=
 zb (za (zk1 (zc vs_7 0) (Value.int .i64 3))) fun x92 =>
 zb (
 zb (za (zj .lss x92 (Value.int .u8 128))) fun x94 =>
 zb (gd x94 false (za (some x92))) fun x96 =>
 zb (gd x94 false (za (zj .lss (Value.int .u8 191) x96))) fun x97 =>
 zb (za (zcq x94 (Value.bool true) x97)) fun x98 =>
 zi x98 (
 ret (.ret [(Value.int .i32 65533), (Value.int .i64 1)])
 ) (
 ret (.nxt [(zc vs_7 1), (zc vs_7 2), (zc vs_7 3), x92])
 )
 ) fun o => nx o zns
def znu (vs_6 : List V) : M Out :=
 zb (
 zb (za (zj .leq (zc vs_6 2) (Value.int .i64 3))) fun x77 =>
 zi x77 (
 zb (za (zj .and (zc vs_6 1) (Value.int .u8 15))) fun x79 =>
 zb (za (cvi .i32 x79)) fun x80 =>
 zb (za (zj .shl x80 (Value.int .u64 12))) fun x81 =>
 zb (za (zj .and (zc vs_6 3) (Value.int .u8 63))) fun x83 =>
 zb (za (cvi .i32 x83)) fun x84 =>
 zb (za (zj .shl x84 (Value.int .u64 6))) fun x85 =>
 zb (za (zj .or x81 x85)) fun x86 =>
 zb (za (zj .and (zc vs_6 4) (Value.int .u8 63))) fun x88 =>
 zb (za (cvi .i32 x88)) fun x89 =>
 zb (za (zj .or x86 x89)) fun x90 =>
 ret (.ret [x90, (Value.int .i64 3)])
 ) (
 ret (.nxt [(zc vs_6 0), (zc vs_6 1), (zc vs_6 3), (zc vs_6 4)])
 )
 ) fun o => nx o znt
def znv (vs_5 : List V) : M Out :=
 zb (za (zk1 (zc vs_5 0) (Value.int .i64 2))) fun x69 =>
 zb (
 zb (za (zj .lss x69 (Value.int .u8 128))) fun x71 =>
 zb (gd x71 false (za (some x69))) fun x73 =>
 zb (gd x71 false (za (zj .lss (Value.int .u8 191) x73))) fun x74 =>
 zb (za (zcq x71 (Value.bool true) x74)) fun x75 =>
 zi x75 (
 ret (.ret [(Value.int .i32 65533), (Value.int .i64 1)])
 ) (
 ret (.nxt [(zc vs_5 0), (zc vs_5 1), (zc vs_5 2), (zc vs_5 3), x69])
 )
 ) fun o => nx o znu
def znw (vs_4 : List V) : M Out :=
 zb (
 zb (za (zj .leq (zc vs_4 2) (Value.int .i64 2))) fun x59 =>
 zi x59 (
 zb (za (zj .and (zc vs_4 1) (Value.int .u8 31))) fun x61 =>
 zb (za (cvi .i32 x61)) fun x62 =>
 zb (za (zj .shl x62 (Value.int .u64 6))) fun x63 =>
 zb (za (zj .and (zc vs_4 3) (Value.int .u8 63))) fun x65 =>
 zb (za (cvi .i32 x65)) fun x66 =>
 zb (za (zj .or x63 x66)) fun x67 =>
 ret (.ret [x67, (Value.int .i64 2)])
 ) (
 ret (.nxt [(zc vs_4 0), (zc vs_4 1), (zc vs_4 2), (zc vs_4 3)])
 )
 ) fun o => nx o znv
def znx (vs_3 : List V) : M Out :=
 zb (za (zk1 (zc vs_3 0) (Value.int .i64 1))) fun x47 =>
 zb (
 zb (za (zg 0 (zc vs_3 3))) fun x49 =>
 zb (z7 x49) fun x50 =>
 zb (za (zj .lss x47 x50)) fun x51 =>
 zb (gd x51 false (za (zg 1 (zc vs_3 3)))) fun x53 =>
 zb (gd x51 false (z7 x53)) fun x54 =>
 zb (gd x51 false (za (some x47))) fun x55 =>
 zb (gd x51 false (za (zj .lss x54 x55))) fun x56 =>
 zb (za (zcq x51 (Value.bool true) x56)) fun x57 =>
 zi x57 (
 ret (.ret [(Value.int .i32 65533), (Value.int .i64 1)])
 ) (
 ret (.nxt [(zc vs_3 0), (zc vs_3 1), (zc vs_3 2), x47])
 )
 ) fun o => nx o znw
def zny (vs_2 : List V) : M Out :=
 zb (za (zj .and (zc vs_2 3) (Value.int .u8 7))) fun x37 =>
 zb (za (cvi .i64 x37)) fun x38 =>
 zb (za (zj .shr (zc vs_2 3) (Value.int .u64 4))) fun x40 =>
 zb (za (zei 16 2 (ptr zu7 0) x40)) fun x41 =>
 zb (ldn 2 x41) fun x42 =>
 zb (newc [Value.int .u8 0, Value.int .u8 0]) fun x9 =>
 zb (stn 2 x9 x42) fun _ =>
 zb (
 zb (za (zj .lss (zc vs_2 1) x38)) fun x45 =>
 zi x45 (
 ret (.ret [(Value.int .i32 65533), (Value.int .i64 1)])
 ) (
 ret (.nxt [(zc vs_2 0), (zc vs_2 2), x38, x9])
 )
 ) fun o => nx o znx
def znz (vs : List V) : M Out :=
 zb (za (zk1 (zc vs 0) (Value.int .i64 0))) fun x18 =>
 zb (za (zei 256 1 (ptr z35 0) x18)) fun x20 =>
 zb (z7 x20) fun x21 =>
 zb (
 zb (za (zj .geq x21 (Value.int .u8 240))) fun x23 =>
 zi x23 (
 zb (za (cvi .i32 x21)) fun x25 =>
 zb (za (zj .shl x25 (Value.int .u64 31))) fun x26 =>
 zb (za (zj .shr x26 (Value.int .u64 31))) fun x27 =>
 zb (za (zk1 (zc vs 0) (Value.int .i64 0))) fun x29 =>
 zb (za (cvi .i32 x29)) fun x30 =>
 zb (za (zj .andNot x30 x27)) fun x32 =>
 zb (za (zj .and (Value.int .i32 65533) x27)) fun x34 =>
 zb (za (zj .or x32 x34)) fun x35 =>
 ret (.ret [x35, (Value.int .i64 1)])
 ) (
 ret (.nxt [(zc vs 0), (zc vs 1), x18, x21])
 )
 ) fun o => nx o zny
def zhz (x0 : V) : M V :=
 zb (
 zb (za (zct x0)) fun x14 =>
 zb (
 zb (za (zj .lss x14 (Value.int .i64 1))) fun x16 =>
 zi x16 (
 ret (.ret [(Value.int .i32 65533), (Value.int .i64 0)])
 ) (
 ret (.nxt [x0, x14])
 )
 ) fun o => nx o znz
 ) fun o => zcf o fun vs => ret (zca [(zc vs 0), (zc vs 1)])
def zh0 : Hint := (.seq [] .leaf (.seq [] .leaf (.seq [0, 4] (.seq [] .leaf (.cond (.seq [] .leaf .leaf) .leaf)) (.seq [] .leaf (.seq [] .leaf (.seq [0, 4, 5, 6] (.seq [] .leaf (.cond (.seq [] .leaf (.seq [] .leaf .leaf)) .leaf)) (.seq [] .leaf (.seq [] .leaf (.seq [0, 5, 8, 9] (.seq [] .leaf (.cond (.seq [] .leaf .leaf) .leaf)) (.seq [] .leaf (.seq [0, 5, 8, 10] (.seq [] .leaf (.cond (.seq [] .leaf .leaf) .leaf)) (.seq [0, 5, 8, 10] (.seq [] .leaf (.cond (.seq [] .leaf .leaf) .leaf)) (.seq [] .leaf (.seq [0, 5, 8, 10, 11] (.seq [] .leaf (.cond (.seq [] .leaf .leaf) .leaf)) (.seq [0, 5, 10, 11] (.seq [] .leaf (.cond (.seq [] .leaf .leaf) .leaf)) (.seq [] .leaf (.seq [5, 10, 11, 12] (.seq [] .leaf (.cond (.seq [] .leaf .leaf) .leaf)) (.seq [] .leaf .leaf))))))))))))))))))
def zdu (l : List V) : M V := match l with | [x0] => zhz x0 | _ => fail
theorem zo4 (x0 : V) : zcs Tryz.prog (ovr [] noC) zeu zh0 [x0] = zhz x0 := by kernel_rfl
theorem zo5 : zy Tryz.prog zeu (zdu) := zh (σ := ovr [] noC) (hint := zh0) (by kernel_rfl) ze fun l H r H' h => by
 unfold zdu at h; split at h
 · rw [zo4]; exact h
 · exact (zf h).elim
def zq3 (vs : List V) : M Out :=
 ret (.ret [(zc vs 0), (zc vs 1)])
def zjh (x0 : V) : M V :=
 zb (
 zb (
 zb (za (zj .neq x0 (Value.string ⟨#[]⟩))) fun x5 =>
 zb (gd x5 true (za (some x0))) fun x7 =>
 zb (gd x5 true (za (zk1 x7 (Value.int .i64 0)))) fun x8 =>
 zb (gd x5 true (za (zj .lss x8 (Value.int .u8 128)))) fun x9 =>
 zb (za (zcq x5 x9 (Value.bool false))) fun x10 =>
 zi x10 (
 zb (za (zk1 x0 (Value.int .i64 0))) fun x12 =>
 zb (za (cvi .i32 x12)) fun x13 =>
 ret (.ret [x13, (Value.int .i64 1)])
 ) (
 zb (zdu [x0]) fun x16 =>
 zb (za (ext 0 x16)) fun x17 =>
 zb (za (ext 1 x16)) fun x18 =>
 ret (.nxt [x17, x18])
 )
 ) fun o => nx o zq3
 ) fun o => zcf o fun vs => ret (zca [(zc vs 0), (zc vs 1)])
def zji : Hint := (.seq [] .leaf (.seq [2, 3] (.seq [] .leaf (.cond (.seq [] .leaf .leaf) .leaf)) .leaf))
def zco (l : List V) : M V := match l with | [x0] => zjh x0 | _ => fail
def zjj : zp := ovr [(zeu, zdu)] noC
theorem zr0 (x0 : V) : zcs Tryz.prog (zjj) zdg zji [x0] = zjh x0 := by kernel_rfl
theorem zjk : zy Tryz.prog zdg (zco) := zh (σ := zjj) (hint := zji) (by kernel_rfl) (zd zo5 ze) fun l H r H' h => by
 unfold zco at h; split at h
 · rw [zr0]; exact h
 · exact (zf h).elim
def zn0 (vs_5 : List V) : M Out :=
 zb (za (zj .sub (zc vs_5 2) (Value.int .i64 1))) fun x29 =>
 ret (.nxt [(zc vs_5 0), (zc vs_5 1), x29, (zc vs_5 3)])
def zn1 (vs_4 : List V) : M Out :=
 zb (
 zb (
 zb (za (zk1 (zc vs_4 0) (zc vs_4 2))) fun x32 =>
 zb (zhh [x32]) fun x33 =>
 zi x33 (
 ret (.brk 0 [(zc vs_4 0), (zc vs_4 1), (zc vs_4 2)])
 ) (
 ret (.nxt [(zc vs_4 0), (zc vs_4 1), (zc vs_4 2), (zc vs_4 3)])
 )
 ) fun o => ret (zw 1 o)
 ) fun o => nx o zn0
def zn2 (vs_3 : List V) : M Out :=
 zb (
 zb (za (zj .geq (zc vs_3 2) (zc vs_3 3))) fun x27 =>
 zi x27 (
 ret (.nxt [(zc vs_3 0), (zc vs_3 1), (zc vs_3 2), (zc vs_3 3)])
 ) (
 ret (.brk 0 [(zc vs_3 0), (zc vs_3 1), (zc vs_3 2)])
 )
 ) fun o => nx o zn1
def zn3 (vs_8 : List V) : M Out :=
 ret (.ret [(zc vs_8 0), (zc vs_8 1)])
def zn4 (vs_7 : List V) : M Out :=
 zb (za (zp0 (zc vs_7 0) (some (zc vs_7 2)) (some (zc vs_7 1)))) fun x40 =>
 zb (zco [x40]) fun x41 =>
 zb (za (ext 0 x41)) fun x42 =>
 zb (za (ext 1 x41)) fun x43 =>
 zb (
 zb (za (zj .add (zc vs_7 2) x43)) fun x46 =>
 zb (za (zj .neq x46 (zc vs_7 1))) fun x48 =>
 zi x48 (
 ret (.ret [(Value.int .i32 65533), (Value.int .i64 1)])
 ) (
 ret (.nxt [x42, x43])
 )
 ) fun o => nx o zn3
def zn5 (vs_6 : List V) : M Out :=
 zb (
 zb (za (zj .lss (zc vs_6 2) (Value.int .i64 0))) fun x35 =>
 zi x35 (
 ret (.nxt [(zc vs_6 0), (zc vs_6 1), (Value.int .i64 0)])
 ) (
 ret (.nxt [(zc vs_6 0), (zc vs_6 1), (zc vs_6 2)])
 )
 ) fun o => nx o zn4
def zn6 (vs_2 : List V) : M Out :=
 zb (za (zj .sub (zc vs_2 1) (Value.int .i64 4))) fun x21 =>
 zb (za (maxV x21 (Value.int .i64 0))) fun x22 =>
 zb (
 zb (za (zj .sub (zc vs_2 2) (Value.int .i64 1))) fun x24 =>
 zb (
 zce zcc zn2 [(zc vs_2 0), (zc vs_2 1), x24, x22]
 ) fun o => ret (zw 0 o)
 ) fun o => nx o zn5
def zn7 (vs : List V) : M Out :=
 zb (za (zj .sub (zc vs 1) (Value.int .i64 1))) fun x12 =>
 zb (za (zk1 (zc vs 0) x12)) fun x15 =>
 zb (za (cvi .i32 x15)) fun x16 =>
 zb (
 zb (za (zj .lss x16 (Value.int .i32 128))) fun x18 =>
 zi x18 (
 ret (.ret [x16, (Value.int .i64 1)])
 ) (
 ret (.nxt [(zc vs 0), (zc vs 1), x12])
 )
 ) fun o => nx o zn6
def zh1 (x0 : V) : M V :=
 zb (
 zb (za (zct x0)) fun x8 =>
 zb (
 zb (za (zj .eql x8 (Value.int .i64 0))) fun x10 =>
 zi x10 (
 ret (.ret [(Value.int .i32 65533), (Value.int .i64 0)])
 ) (
 ret (.nxt [x0, x8])
 )
 ) fun o => nx o zn7
 ) fun o => zcf o fun vs => ret (zca [(zc vs 0), (zc vs 1)])
def zh2 : Hint := (.seq [] .leaf (.seq [] .leaf (.seq [0, 4] (.seq [] .leaf (.cond (.seq [] .leaf .leaf) .leaf)) (.seq [] .leaf (.seq [] .leaf (.seq [0, 4, 5] (.seq [] .leaf (.cond (.seq [] .leaf .leaf) .leaf)) (.seq [] .leaf (.seq [0, 4, 5] (.seq [] .leaf (.blk (.loop [0, 4, 5, 6] (.seq [0, 4, 5, 6] (.seq [] .leaf (.cond .leaf .leaf)) (.seq [0, 4, 5, 6] (.blk (.seq [] .leaf (.cond .leaf .leaf))) .leaf))))) (.seq [0, 4, 5] (.seq [] .leaf (.cond .leaf .leaf)) (.seq [] .leaf (.seq [2, 3] (.seq [] .leaf (.cond (.seq [] .leaf .leaf) .leaf)) (.seq [] .leaf .leaf))))))))))))
def zc4 (l : List V) : M V := match l with | [x0] => zh1 x0 | _ => fail
def zh3 : zp := ovr [(zi7, zhh), (zdg, zco)] noC
theorem zo6 (x0 : V) : zcs Tryz.prog (zh3) zdo zh2 [x0] = zh1 x0 := by kernel_rfl
theorem zo7 : zy Tryz.prog zdo (zc4) := zh (σ := zh3) (hint := zh2) (by kernel_rfl) (zd z1r (zd zjk ze)) fun l H r H' h => by
 unfold zc4 at h; split at h
 · rw [zo6]; exact h
 · exact (zf h).elim
def zsm (G_strings_IndexRune : List V → M V) (x0 x1 : V) : M V :=
 zb (
 zb (G_strings_IndexRune [x0, x1]) fun x7 =>
 zb (za (zj .geq x7 (Value.int .i64 0))) fun x8 =>
 ret (.ret [x8])
 ) fun o => zcf o fun vs => ret (zca [(zc vs 0)])
def zsn : Hint := (.seq [] .leaf (.seq [] .leaf .leaf))
def zdq (G_strings_IndexRune : List V → M V) (l : List V) : M V := match l with | [x0, x1] => zsm G_strings_IndexRune x0 x1 | _ => fail
theorem z4d (G_strings_IndexRune : List V → M V) (x0 x1 : V) : zcs Tryz.prog (ovr [(zcp, G_strings_IndexRune)] noC) zeb zsn [x0, x1] = zsm G_strings_IndexRune x0 x1 := by kernel_rfl
theorem zso {G_strings_IndexRune : List V → M V} (k_strings_IndexRune : zy Tryz.prog zcp G_strings_IndexRune) : zy Tryz.prog zeb (zdq G_strings_IndexRune) := zh (σ := ovr [(zcp, G_strings_IndexRune)] noC) (hint := zsn) (by kernel_rfl) (zd k_strings_IndexRune ze) fun l H r H' h => by
 unfold zdq at h; split at h
 · rw [z4d]; exact h
 · exact (zf h).elim
def zwt (G_strings_IndexRune : List V → M V) (vs_4 : List V) : M Out :=
 zb (za (zct (zc vs_4 0))) fun x29 =>
 zb (za (zj .sub x29 (zc vs_4 2))) fun x31 =>
 zb (za (zp0 (zc vs_4 0) none (some x31))) fun x32 =>
 ret (.nxt [x32, (zc vs_4 1)])
def zwu (G_strings_IndexRune : List V → M V) (vs_3 : List V) : M Out :=
 zb (
 zb ((zdq G_strings_IndexRune) [(zc vs_3 1), (zc vs_3 2)]) fun x25 =>
 zb (za (un .not x25)) fun x26 =>
 zi x26 (
 ret (.brk 0 [(zc vs_3 0)])
 ) (
 ret (.nxt [(zc vs_3 0), (zc vs_3 1), (zc vs_3 3)])
 )
 ) fun o => nx o (zwt G_strings_IndexRune)
def zwv (G_strings_IndexRune : List V → M V) (vs_2 : List V) : M Out :=
 zb (
 zb (za (zct (zc vs_2 0))) fun x12 =>
 zb (za (zj .sub x12 (Value.int .i64 1))) fun x13 =>
 zb (za (zk1 (zc vs_2 0) x13)) fun x14 =>
 zb (za (cvi .i32 x14)) fun x15 =>
 zb (
 zb (za (zj .geq x15 (Value.int .i32 128))) fun x17 =>
 zi x17 (
 zb (zc4 [(zc vs_2 0)]) fun x20 =>
 zb (za (ext 0 x20)) fun x21 =>
 zb (za (ext 1 x20)) fun x22 =>
 ret (.nxt [(zc vs_2 0), (zc vs_2 1), x21, x22])
 ) (
 ret (.nxt [(zc vs_2 0), (zc vs_2 1), x15, (Value.int .i64 1)])
 )
 ) fun o => nx o (zwu G_strings_IndexRune)
 ) fun o => ret (zw 1 o)
def zww (G_strings_IndexRune : List V → M V) (vs : List V) : M Out :=
 zb (
 zb (za (zct (zc vs 0))) fun x8 =>
 zb (za (zj .gtr x8 (Value.int .i64 0))) fun x9 =>
 zi x9 (
 ret (.nxt [(zc vs 0), (zc vs 1)])
 ) (
 ret (.brk 0 [(zc vs 0)])
 )
 ) fun o => nx o (zwv G_strings_IndexRune)
def zwx (G_strings_IndexRune : List V → M V) (vs_5 : List V) : M Out :=
 ret (.ret [(zc vs_5 0)])
def zn8 (G_strings_IndexRune : List V → M V) (x0 x1 : V) : M V :=
 zb (
 zb (
 zb (
 zce zcc (zww G_strings_IndexRune) [x0, x1]
 ) fun o => ret (zw 0 o)
 ) fun o => nx o (zwx G_strings_IndexRune)
 ) fun o => zcf o fun vs => ret (zca [(zc vs 0)])
def zn9 : Hint := (.seq [] .leaf (.seq [0] (.blk (.loop [0, 1] (.seq [0, 1] (.seq [] .leaf (.cond .leaf .leaf)) (.blk (.seq [] .leaf (.seq [0, 1, 5, 6] (.seq [] .leaf (.cond .leaf .leaf)) (.seq [0, 1, 6] (.seq [] .leaf (.cond .leaf .leaf)) .leaf))))))) (.seq [] .leaf .leaf)))
def ze2 (G_strings_IndexRune : List V → M V) (l : List V) : M V := match l with | [x0, x1] => zn8 G_strings_IndexRune x0 x1 | _ => fail
theorem zx7 (G_strings_IndexRune : List V → M V) (x0 x1 : V) : zcs Tryz.prog (ovr [(zdo, zc4), (zeb, zdq G_strings_IndexRune)] noC) zfr zn9 [x0, x1] = zn8 G_strings_IndexRune x0 x1 := by kernel_rfl
theorem zx8 {G_strings_IndexRune : List V → M V} (k_strings_IndexRune : zy Tryz.prog zcp G_strings_IndexRune) : zy Tryz.prog zfr (ze2 G_strings_IndexRune) := zh (σ := ovr [(zdo, zc4), (zeb, zdq G_strings_IndexRune)] noC) (hint := zn9) (by kernel_rfl) (zd zo7 (zd (zso k_strings_IndexRune) ze)) fun l H r H' h => by
 unfold ze2 at h; split at h
 · rw [zx7]; exact h
 · exact (zf h).elim
def zx9 (G_strings_IndexRune : List V → M V) (vs_3 : List V) : M Out :=
 zb (za (zp0 (zc vs_3 0) (some (zc vs_3 2)) none)) fun x21 =>
 ret (.nxt [x21, (zc vs_3 1)])
def zya (G_strings_IndexRune : List V → M V) (vs_2 : List V) : M Out :=
 zb (
 zb (zco [(zc vs_2 0)]) fun x12 =>
 zb (za (ext 0 x12)) fun x13 =>
 zb (za (ext 1 x12)) fun x14 =>
 zb (
 zb ((zdq G_strings_IndexRune) [(zc vs_2 1), x13]) fun x17 =>
 zb (za (un .not x17)) fun x18 =>
 zi x18 (
 ret (.brk 0 [(zc vs_2 0)])
 ) (
 ret (.nxt [(zc vs_2 0), (zc vs_2 1), x14])
 )
 ) fun o => nx o (zx9 G_strings_IndexRune)
 ) fun o => ret (zw 1 o)
def zyb (G_strings_IndexRune : List V → M V) (vs : List V) : M Out :=
 zb (
 zb (za (zct (zc vs 0))) fun x8 =>
 zb (za (zj .gtr x8 (Value.int .i64 0))) fun x9 =>
 zi x9 (
 ret (.nxt [(zc vs 0), (zc vs 1)])
 ) (
 ret (.brk 0 [(zc vs 0)])
 )
 ) fun o => nx o (zya G_strings_IndexRune)
def zyc (G_strings_IndexRune : List V → M V) (vs_4 : List V) : M Out :=
 ret (.ret [(zc vs_4 0)])
def zpm (G_strings_IndexRune : List V → M V) (x0 x1 : V) : M V :=
 zb (
 zb (
 zb (
 zce zcc (zyb G_strings_IndexRune) [x0, x1]
 ) fun o => ret (zw 0 o)
 ) fun o => nx o (zyc G_strings_IndexRune)
 ) fun o => zcf o fun vs => ret (zca [(zc vs 0)])
def zpn : Hint := (.seq [] .leaf (.seq [0] (.blk (.loop [0, 1] (.seq [0, 1] (.seq [] .leaf (.cond .leaf .leaf)) (.blk (.seq [] .leaf (.seq [0, 1, 6] (.seq [] .leaf (.cond .leaf .leaf)) .leaf)))))) (.seq [] .leaf .leaf)))
def zfc (G_strings_IndexRune : List V → M V) (l : List V) : M V := match l with | [x0, x1] => zpm G_strings_IndexRune x0 x1 | _ => fail
theorem zzz (G_strings_IndexRune : List V → M V) (x0 x1 : V) : zcs Tryz.prog (ovr [(zdg, zco), (zeb, zdq G_strings_IndexRune)] noC) zf1 zpn [x0, x1] = zpm G_strings_IndexRune x0 x1 := by kernel_rfl
theorem zz0 {G_strings_IndexRune : List V → M V} (k_strings_IndexRune : zy Tryz.prog zcp G_strings_IndexRune) : zy Tryz.prog zf1 (zfc G_strings_IndexRune) := zh (σ := ovr [(zdg, zco), (zeb, zdq G_strings_IndexRune)] noC) (hint := zpn) (by kernel_rfl) (zd zjk (zd (zso k_strings_IndexRune) ze)) fun l H r H' h => by
 unfold zfc at h; split at h
 · rw [zzz]; exact h
 · exact (zf h).elim
def zbgq (G_strings_IndexRune : List V → M V) (vs_3 : List V) : M Out :=
 zb ((ze2 G_strings_IndexRune) [(zc vs_3 0), (zc vs_3 1)]) fun x40 =>
 zb ((zfc G_strings_IndexRune) [x40, (zc vs_3 1)]) fun x42 =>
 ret (.ret [x42])
def z4y (G_strings_IndexRune : List V → M V) (vs_2 : List V) : M Out :=
 zb (
 zb (ze9 [(zc vs_2 1)]) fun x31 =>
 zb (za (ext 0 x31)) fun x32 =>
 zb (za (ext 1 x31)) fun x33 =>
 zb (newc (List.replicate 256 (Value.bool false))) fun x5 =>
 zb (stn 256 x5 x32) fun _ =>
 zi x33 (
 zb (zec [(zc vs_2 0), x5]) fun x36 =>
 zb (zex [x36, x5]) fun x37 =>
 ret (.ret [x37])
 ) (
 ret (.nxt [(zc vs_2 0), (zc vs_2 1)])
 )
 ) fun o => nx o (zbgq G_strings_IndexRune)
def z4z (G_strings_IndexRune : List V → M V) (vs : List V) : M Out :=
 zb (
 zb (za (zct (zc vs 1))) fun x15 =>
 zb (za (zj .eql x15 (Value.int .i64 1))) fun x16 =>
 zb (gd x16 true (za (some (zc vs 1)))) fun x18 =>
 zb (gd x16 true (za (zk1 x18 (Value.int .i64 0)))) fun x19 =>
 zb (gd x16 true (za (zj .lss x19 (Value.int .u8 128)))) fun x20 =>
 zb (za (zcq x16 x20 (Value.bool false))) fun x21 =>
 zi x21 (
 zb (za (zk1 (zc vs 1) (Value.int .i64 0))) fun x24 =>
 zb (za (zk1 (zc vs 1) (Value.int .i64 0))) fun x27 =>
 zb (zfx [(zc vs 0), x24]) fun x25 =>
 zb (zgg [x25, x27]) fun x28 =>
 ret (.ret [x28])
 ) (
 ret (.nxt [(zc vs 0), (zc vs 1)])
 )
 ) fun o => nx o (z4y G_strings_IndexRune)
def zoa (G_strings_IndexRune : List V → M V) (x0 x1 : V) : M V :=
 zb (
 zb (
 zb (za (zj .eql x0 (Value.string ⟨#[]⟩))) fun x8 =>
 zb (gd x8 false (za (some x1))) fun x10 =>
 zb (gd x8 false (za (zj .eql x10 (Value.string ⟨#[]⟩)))) fun x11 =>
 zb (za (zcq x8 (Value.bool true) x11)) fun x12 =>
 zi x12 (
 ret (.ret [x0])
 ) (
 ret (.nxt [x0, x1])
 )
 ) fun o => nx o (z4z G_strings_IndexRune)
 ) fun o => zcf o fun vs => ret (zca [(zc vs 0)])
def z6p : Hint := (.seq [] .leaf (.seq [0, 1] (.seq [] .leaf (.cond (.seq [] .leaf .leaf) .leaf)) (.seq [0, 1] (.seq [] .leaf (.cond (.seq [] (.reg [0, 1, 2, 4, 5, 3, 6, 7] []) .leaf) .leaf)) (.seq [0, 1] (.seq [] .leaf (.seq [] .leaf (.cond (.seq [] .leaf .leaf) .leaf))) (.seq [] .leaf .leaf)))))
def zk6 (G_strings_IndexRune : List V → M V) (l : List V) : M V := match l with | [x0, x1] => zoa G_strings_IndexRune x0 x1 | _ => fail
theorem zbiv (G_strings_IndexRune : List V → M V) (x0 x1 : V) : zcs Tryz.prog (ovr [(zgx, zfx), (zhe, zgg), (zhf, ze9), (zgf, zec), (zgy, zex), (zfr, ze2 G_strings_IndexRune), (zf1, zfc G_strings_IndexRune)] noC) zo3 z6p [x0, x1] = zoa G_strings_IndexRune x0 x1 := by kernel_rfl
theorem zbiw {G_strings_IndexRune : List V → M V} (k_strings_IndexRune : zy Tryz.prog zcp G_strings_IndexRune) : zy Tryz.prog zo3 (zk6 G_strings_IndexRune) := zh (σ := ovr [(zgx, zfx), (zhe, zgg), (zhf, ze9), (zgf, zec), (zgy, zex), (zfr, ze2 G_strings_IndexRune), (zf1, zfc G_strings_IndexRune)] noC) (hint := z6p) (by kernel_rfl) (zd z2k (zd z4a (zd z4c (zd z1p (zd z2p (zd (zx8 k_strings_IndexRune) (zd (zz0 k_strings_IndexRune) ze))))))) fun l H r H' h => by
 unfold zk6 at h; split at h
 · rw [zbiv]; exact h
 · exact (zf h).elim
def zsp (G_strings_IndexRune : List V → M V) (x0 : V) : M V :=
 zb (
 zb (zlw x0) fun x1 =>
 zb (za (zg 0 x1)) fun x3 =>
 zb (z7 x3) fun x4 =>
 zb (za (zj .neq x4 (Value.string ⟨#[]⟩))) fun x5 =>
 zb (gd x5 true (za (zg 0 x1))) fun x7 =>
 zb (gd x5 true (z7 x7)) fun x8 =>
 zb (gd x5 true (za (zct x8))) fun x9 =>
 zb (gd x5 true (za (zj .leq x9 (Value.int .i64 24)))) fun x10 =>
 zb (za (zcq x5 x10 (Value.bool false))) fun x11 =>
 zb (gd x11 true (za (zg 0 x1))) fun x13 =>
 zb (gd x11 true (z7 x13)) fun x14 =>
 zb (gd x11 true ((zk6 G_strings_IndexRune) [x14, (Value.string ⟨#[97, 98, 99, 100, 101, 102, 103, 104, 105, 106, 107, 108, 109, 110, 111, 112, 113, 114, 115, 116, 117, 118, 119, 120, 121, 122, 48, 49, 50, 51, 52, 53, 54, 55, 56, 57]⟩)])) fun x15 =>
 zb (gd x11 true (za (zj .eql x15 (Value.string ⟨#[]⟩)))) fun x16 =>
 zb (za (zcq x11 x16 (Value.bool false))) fun x17 =>
 zb (gd x17 true (za (zg 1 x1))) fun x19 =>
 zb (gd x17 true (z7 x19)) fun x20 =>
 zb (gd x17 true (za (zct x20))) fun x21 =>
 zb (gd x17 true (za (zj .geq x21 (Value.int .i64 16)))) fun x22 =>
 zb (za (zcq x17 x22 (Value.bool false))) fun x23 =>
 zb (gd x23 true (za (zg 1 x1))) fun x25 =>
 zb (gd x23 true (z7 x25)) fun x26 =>
 zb (gd x23 true (za (zct x26))) fun x27 =>
 zb (gd x23 true (za (zj .leq x27 (Value.int .i64 64)))) fun x28 =>
 zb (za (zcq x23 x28 (Value.bool false))) fun x29 =>
 ret (.ret [x29])
 ) fun o => zcf o fun vs => ret (zca [(zc vs 0)])
def z6q : Hint := (.seq [] .leaf (.seq [] .leaf .leaf))
def zk7 (G_strings_IndexRune : List V → M V) (l : List V) : M V := match l with | [x0] => zsp G_strings_IndexRune x0 | _ => fail
theorem zbix (G_strings_IndexRune : List V → M V) (x0 : V) : zcs Tryz.prog (ovr [(zo3, zk6 G_strings_IndexRune)] noC) zo2 z6q [x0] = zsp G_strings_IndexRune x0 := by kernel_rfl
theorem zbiy {G_strings_IndexRune : List V → M V} (k_strings_IndexRune : zy Tryz.prog zcp G_strings_IndexRune) : zy Tryz.prog zo2 (zk7 G_strings_IndexRune) := zh (σ := ovr [(zo3, zk6 G_strings_IndexRune)] noC) (hint := z6q) (by kernel_rfl) (zd (zbiw k_strings_IndexRune) ze) fun l H r H' h => by
 unfold zk7 at h; split at h
 · rw [zbix]; exact h
 · exact (zf h).elim
def zsq (x0 x1 : V) : M V :=
 zb (
 zb (zlw x0) fun x2 =>
 zb (za (zg 0 x2)) fun x4 =>
 zb (z7 x4) fun x5 =>
 zb (z7 x1) fun x6 =>
 zb (za (zj .eql x5 x6)) fun x7 =>
 ret (.ret [x7])
 ) fun o => zcf o fun vs => ret (zca [(zc vs 0)])
def z6r : Hint := (.seq [] .leaf (.seq [] .leaf .leaf))
def zob (l : List V) : M V := match l with | [x0, x1] => zsq x0 x1 | _ => fail
theorem zbiz (x0 x1 : V) : zcs Tryz.prog (ovr [] noC) zk4 z6r [x0, x1] = zsq x0 x1 := by kernel_rfl
theorem zbi0 : zy Tryz.prog zk4 (zob) := zh (σ := ovr [] noC) (hint := z6r) (by kernel_rfl) ze fun l H r H' h => by
 unfold zob at h; split at h
 · rw [zbiz]; exact h
 · exact (zf h).elim
def zha (S : zp) (vs_3 : List V) : M Out :=
 zb (za (zj .add (zc vs_3 3) (Value.int .i64 1))) fun x18 =>
 ret (.nxt [(zc vs_3 0), (zc vs_3 1), (zc vs_3 2), x18])
def zhb (S : zp) (vs_2 : List V) : M Out :=
 zb (
 zb (
 zb (za (zv 3 (zc vs_2 0) (zc vs_2 3))) fun x14 =>
 zb (ldn 3 x14) fun x15 =>
 zb (zxn (ovr [] S) (zc vs_2 1) [x15]) fun x16 =>
 zi x16 (
 ret (.ret [(zc vs_2 3)])
 ) (
 ret (.nxt [(zc vs_2 0), (zc vs_2 1), (zc vs_2 2), (zc vs_2 3)])
 )
 ) fun o => ret (zw 1 o)
 ) fun o => nx o (zha S)
def zev (S : zp) (vs : List V) : M Out :=
 zb (za (zj .lss (zc vs 3) (zc vs 2))) fun x9 =>
 zb (
 zi x9 (
 ret (.nxt [(zc vs 0), (zc vs 1), (zc vs 2), (zc vs 3)])
 ) (
 ret (.brk 0 [])
 )
 ) fun o => nx o (zhb S)
def zhc (S : zp) (vs_4 : List V) : M Out :=
 ret (.ret [(Value.int .i64 (-1))])
def zdr (S : zp) (x0 x1 : V) : M V :=
 zb (
 zb (
 zb (za (zb9 x0)) fun x7 =>
 zb (
 zce zcc (zev S) [x0, x1, x7, (Value.int .i64 0)]
 ) fun o => ret (zw 0 o)
 ) fun o => nx o (zhc S)
 ) fun o => zcf o fun vs => ret (zca [(zc vs 0)])
def zhn : Hint := (.seq [] .leaf (.seq [] (.seq [] .leaf (.blk (.loop [0, 1, 7, 8] (.seq [] .leaf (.seq [0, 1, 7, 8] (.cond .leaf .leaf) (.seq [0, 1, 7, 8] (.blk (.seq [] .leaf (.seq [] .leaf (.cond (.seq [] .leaf .leaf) .leaf)))) .leaf)))))) (.seq [] .leaf .leaf)))
def zc1 (S : zp) (l : List V) : M V := match l with | [x0, x1] => zdr S x0 x1 | _ => fail
theorem zoc (S : zp) (x0 x1 : V) : zcs Tryz.prog (ovr [] S) zek zhn [x0, x1] = zdr S x0 x1 := by kernel_rfl
theorem zod {S : zp} (hS : zlx Tryz.prog S) : zy Tryz.prog zek (zc1 S) := zh (σ := ovr [] S) (hint := zhn) (by kernel_rfl) (z6l hS) fun l H r H' h => by
 unfold zc1 at h; split at h
 · rw [zoc]; exact h
 · exact (zf h).elim
def z84 (vs : List V) : M Out :=
 ret (.ret [(zc vs 0), (Value.int .i64 0)])
def zwy (x0 x1 : V) : M V :=
 zb (
 zb (zlw x1) fun x3 =>
 zb (za (some (Value.func (.func zk4) #[] #[x3]))) fun x8 =>
 zb ((zc1 (ovr [(zk4, zob)] noC)) [x0, x8]) fun x9 =>
 zb (
 zb (za (zj .lss x9 (Value.int .i64 0))) fun x11 =>
 zi x11 (
 ret (.ret [(Value.int .i64 0), (Value.int .i64 90)])
 ) (
 ret (.nxt [x9])
 )
 ) fun o => nx o z84
 ) fun o => zcf o fun vs => ret (zca [(zc vs 0), (zc vs 1)])
def zbcf : Hint := (.seq [] .leaf (.seq [] .leaf (.seq [6] (.seq [] .leaf (.cond (.seq [] .leaf .leaf) .leaf)) (.seq [] .leaf .leaf))))
def zjy (l : List V) : M V := match l with | [x0, x1] => zwy x0 x1 | _ => fail
def zbcg : zp := ovr [(zek, zc1 (ovr [(zk4, zob)] noC))] noC
theorem zbnl (x0 x1 : V) : zcs Tryz.prog (zbcg) znr zbcf [x0, x1] = zwy x0 x1 := by kernel_rfl
theorem zbch : zy Tryz.prog znr (zjy) := zh (σ := zbcg) (hint := zbcf) (by kernel_rfl) (zd (zod (zd zbi0 ze)) ze) fun l H r H' h => by
 unfold zjy at h; split at h
 · rw [zbnl]; exact h
 · exact (zf h).elim
def zpo (vs_3 : List V) : M Out :=
 zb (za (zj .add (zc vs_3 3) (Value.int .i64 1))) fun x18 =>
 ret (.nxt [(zc vs_3 0), (zc vs_3 1), (zc vs_3 2), x18])
def zjq (vs_2 : List V) : M Out :=
 zb (
 zb (
 zb (za (zv 1 (zc vs_2 0) (zc vs_2 3))) fun x14 =>
 zb (z7 x14) fun x15 =>
 zb (za (zj .eql (zc vs_2 1) x15)) fun x16 =>
 zi x16 (
 ret (.ret [(zc vs_2 3)])
 ) (
 ret (.nxt [(zc vs_2 0), (zc vs_2 1), (zc vs_2 2), (zc vs_2 3)])
 )
 ) fun o => ret (zw 1 o)
 ) fun o => nx o zpo
def zgz (vs : List V) : M Out :=
 zb (za (zj .lss (zc vs 3) (zc vs 2))) fun x9 =>
 zb (
 zi x9 (
 ret (.nxt [(zc vs 0), (zc vs 1), (zc vs 2), (zc vs 3)])
 ) (
 ret (.brk 0 [])
 )
 ) fun o => nx o zjq
def zpp (vs_4 : List V) : M Out :=
 ret (.ret [(Value.int .i64 (-1))])
def zhi (x0 x1 : V) : M V :=
 zb (
 zb (
 zb (za (zb9 x0)) fun x7 =>
 zb (
 zce zcc zgz [x0, x1, x7, (Value.int .i64 0)]
 ) fun o => ret (zw 0 o)
 ) fun o => nx o zpp
 ) fun o => zcf o fun vs => ret (zca [(zc vs 0)])
def zp9 : Hint := (.seq [] .leaf (.seq [] (.seq [] .leaf (.blk (.loop [0, 1, 7, 8] (.seq [] .leaf (.seq [0, 1, 7, 8] (.cond .leaf .leaf) (.seq [0, 1, 7, 8] (.blk (.seq [] .leaf (.seq [] .leaf (.cond (.seq [] .leaf .leaf) .leaf)))) .leaf)))))) (.seq [] .leaf .leaf)))
def zc0 (l : List V) : M V := match l with | [x0, x1] => zhi x0 x1 | _ => fail
theorem z1s (x0 x1 : V) : zcs Tryz.prog (ovr [] noC) ze1 zp9 [x0, x1] = zhi x0 x1 := by kernel_rfl
theorem zkg : zy Tryz.prog ze1 (zc0) := zh (σ := ovr [] noC) (hint := zp9) (by kernel_rfl) ze fun l H r H' h => by
 unfold zc0 at h; split at h
 · rw [z1s]; exact h
 · exact (zf h).elim
def zf3 (x0 x1 : V) : M V :=
 zb (
 zb (zc0 [x0, x1]) fun x7 =>
 zb (za (zj .geq x7 (Value.int .i64 0))) fun x8 =>
 ret (.ret [x8])
 ) fun o => zcf o fun vs => ret (zca [(zc vs 0)])
def zm9 : Hint := (.seq [] .leaf (.seq [] .leaf .leaf))
def zem (l : List V) : M V := match l with | [x0, x1] => zf3 x0 x1 | _ => fail
def zna : zp := ovr [(ze1, zc0)] noC
theorem zwz (x0 x1 : V) : zcs Tryz.prog (zna) zhm zm9 [x0, x1] = zf3 x0 x1 := by kernel_rfl
theorem zw0 : zy Tryz.prog zhm (zem) := zh (σ := zna) (hint := zm9) (by kernel_rfl) (zd zkg ze) fun l H r H' h => by
 unfold zem at h; split at h
 · rw [zwz]; exact h
 · exact (zf h).elim
def z6s (vs_3 : List V) : M Out :=
 zb (gd (zc vs_3 2) false (za (some (zc vs_3 1)))) fun x37 =>
 zb (gd (zc vs_3 2) false (za (zg 0 (zc vs_3 3)))) fun x38 =>
 zb (gd (zc vs_3 2) false (z7 x38)) fun x39 =>
 zb (gd (zc vs_3 2) false (zem [x37, x39])) fun x40 =>
 zb (za (zcq (zc vs_3 2) (Value.bool true) x40)) fun x41 =>
 zb (za (zg 0 (zc vs_3 3))) fun x43 =>
 zb (z7 x43) fun x44 =>
 zb (zd7 1 1 (rep 1 [Value.int .i64 0]) [(0, 1, x44)]) fun x45 =>
 zb (ze6 1 8 (zc vs_3 1) x45) fun x46 =>
 ret (.nxt [(zc vs_3 0), x46, x41, (zc vs_3 4), (zc vs_3 5), (zc vs_3 6)])
def zyd (vs_4 : List V) : M Out :=
 zb (za (zj .add (zc vs_4 5) (Value.int .i64 1))) fun x47 =>
 ret (.nxt [(zc vs_4 0), (zc vs_4 1), (zc vs_4 2), (zc vs_4 3), (zc vs_4 4), x47])
def z6t (vs_2 : List V) : M Out :=
 zb (
 zb (
 zb (za (zv 2 (zc vs_2 3) (zc vs_2 5))) fun x14 =>
 zb (ldn 2 x14) fun x15 =>
 zb (newc [Value.int .i64 0, Value.int .i64 0]) fun x8 =>
 zb (stn 2 x8 x15) fun _ =>
 zb (
 zb (za (zg 0 x8)) fun x16 =>
 zb (z7 x16) fun x17 =>
 zb (za (zj .lss x17 (Value.int .i64 0))) fun x18 =>
 zb (gd x18 false (za (zg 0 x8))) fun x20 =>
 zb (gd x18 false (z7 x20)) fun x21 =>
 zb (gd x18 false (za (some (zc vs_2 0)))) fun x22 =>
 zb (gd x18 false (za (zj .geq x21 x22))) fun x23 =>
 zb (za (zcq x18 (Value.bool true) x23)) fun x24 =>
 zb (gd x24 false (za (zg 1 x8))) fun x26 =>
 zb (gd x24 false (z7 x26)) fun x27 =>
 zb (gd x24 false (za (zj .lss x27 (Value.int .i64 1)))) fun x28 =>
 zb (za (zcq x24 (Value.bool true) x28)) fun x29 =>
 zb (gd x29 false (za (zg 1 x8))) fun x31 =>
 zb (gd x29 false (z7 x31)) fun x32 =>
 zb (gd x29 false (za (zj .gtr x32 (Value.int .i64 4)))) fun x33 =>
 zb (za (zcq x29 (Value.bool true) x33)) fun x34 =>
 zi x34 (
 ret (.ret [(Value.int .i64 1)])
 ) (
 ret (.nxt [(zc vs_2 0), (zc vs_2 1), (zc vs_2 2), x8, (zc vs_2 3), (zc vs_2 4), (zc vs_2 5)])
 )
 ) fun o => nx o z6s
 ) fun o => ret (zw 1 o)
 ) fun o => nx o zyd
def zsr (vs : List V) : M Out :=
 zb (za (zj .lss (zc vs 5) (zc vs 4))) fun x13 =>
 zb (
 zi x13 (
 ret (.nxt [(zc vs 0), (zc vs 1), (zc vs 2), (zc vs 3), (zc vs 4), (zc vs 5)])
 ) (
 ret (.brk 0 [(zc vs 2)])
 )
 ) fun o => nx o z6t
def z6u (vs_6 : List V) : M Out :=
 ret (.ret [(Value.int .i64 0)])
def zye (vs_5 : List V) : M Out :=
 zb (
 zi (zc vs_5 0) (
 ret (.ret [(Value.int .i64 240)])
 ) (
 ret (.nxt [])
 )
 ) fun o => nx o z6u
def zun (x0 x1 : V) : M V :=
 zb (
 zb (zlw x0) fun x2 =>
 zb (
 zb (za (zg 2 x2)) fun x9 =>
 zb (z7 x9) fun x10 =>
 zb (za (zb9 x10)) fun x11 =>
 zb (
 zce zcc zsr [x1, (Value.slice none 0 0), (Value.bool false), x10, x11, (Value.int .i64 0)]
 ) fun o => ret (zw 0 o)
 ) fun o => nx o zye
 ) fun o => zcf o fun vs => ret (zca [(zc vs 0)])
def z85 : Hint := (.seq [] .leaf (.seq [] .leaf (.seq [] .leaf (.seq [6] (.seq [] .leaf (.blk (.loop [1, 5, 6, 10, 11, 12] (.seq [] .leaf (.seq [1, 5, 6, 10, 11, 12] (.cond .leaf .leaf) (.seq [1, 5, 6, 10, 11, 12] (.blk (.seq [] .leaf (.seq [1, 5, 6, 8, 10, 11, 12] (.seq [] .leaf (.cond (.seq [] .leaf .leaf) .leaf)) (.seq [] .leaf .leaf)))) .leaf)))))) (.seq [] (.seq [] .leaf (.cond (.seq [] .leaf .leaf) .leaf)) (.seq [] .leaf .leaf))))))
def zmv (l : List V) : M V := match l with | [x0, x1] => zun x0 x1 | _ => fail
def z86 : zp := ovr [(zhm, zem)] noC
theorem zbkp (x0 x1 : V) : zcs Tryz.prog (z86) zqp z85 [x0, x1] = zun x0 x1 := by kernel_rfl
theorem zbkq : zy Tryz.prog zqp (zmv) := zh (σ := z86) (hint := z85) (by kernel_rfl) (zd zw0 ze) fun l H r H' h => by
 unfold zmv at h; split at h
 · rw [zbkp]; exact h
 · exact (zf h).elim
def z6v (G_strings_IndexRune : List V → M V) (vs_5 : List V) : M Out :=
 zb (ldn 3 (zc vs_5 3)) fun x45 =>
 zb (zmv [x45, (zc vs_5 1)]) fun x47 =>
 zb (za (zj .neq x47 (Value.int .i64 0))) fun x49 =>
 zi x49 (
 ret (.ret [(zc vs_5 2), x47])
 ) (
 ret (.nxt [(zc vs_5 0), (zc vs_5 1), (zc vs_5 4), (zc vs_5 5), (zc vs_5 6)])
 )
def z6w (G_strings_IndexRune : List V → M V) (vs_4 : List V) : M Out :=
 zb (
 zb (za (zh7 3 (zc vs_4 0) none (some (zc vs_4 2)))) fun x36 =>
 zb (za (zg 0 (zc vs_4 3))) fun x37 =>
 zb (z7 x37) fun x38 =>
 zb (zjy [x36, x38]) fun x39 =>
 zb (za (ext 0 x39)) fun x40 =>
 zb (za (ext 1 x39)) fun x41 =>
 zb (za (zj .eql x41 (Value.int .i64 0))) fun x43 =>
 zi x43 (
 ret (.ret [(zc vs_4 2), (Value.int .i64 6)])
 ) (
 ret (.nxt [(zc vs_4 0), (zc vs_4 1), (zc vs_4 2), (zc vs_4 3), (zc vs_4 4), (zc vs_4 5), (zc vs_4 6)])
 )
 ) fun o => nx o (z6v G_strings_IndexRune)
def z6x (G_strings_IndexRune : List V → M V) (vs_6 : List V) : M Out :=
 zb (za (zj .add (zc vs_6 4) (Value.int .i64 1))) fun x52 =>
 ret (.nxt [(zc vs_6 0), (zc vs_6 1), (zc vs_6 2), (zc vs_6 3), x52])
def z6y (G_strings_IndexRune : List V → M V) (vs_3 : List V) : M Out :=
 zb (
 zb (
 zb (za (zv 3 (zc vs_3 2) (zc vs_3 4))) fun x27 =>
 zb (ldn 3 x27) fun x28 =>
 zb (newc [Value.string ⟨#[]⟩, Value.string ⟨#[]⟩, Value.slice none 0 0]) fun x7 =>
 zb (stn 3 x7 x28) fun _ =>
 zb (
 zb (ldn 3 x7) fun x29 =>
 zb ((zk7 G_strings_IndexRune) [x29]) fun x30 =>
 zb (za (un .not x30)) fun x31 =>
 zi x31 (
 ret (.ret [(zc vs_3 4), (Value.int .i64 3)])
 ) (
 ret (.nxt [(zc vs_3 0), (zc vs_3 1), (zc vs_3 4), x7, (zc vs_3 2), (zc vs_3 3), (zc vs_3 4)])
 )
 ) fun o => nx o (z6w G_strings_IndexRune)
 ) fun o => ret (zw 2 o)
 ) fun o => nx o (z6x G_strings_IndexRune)
def zyf (G_strings_IndexRune : List V → M V) (vs_2 : List V) : M Out :=
 zb (za (zj .lss (zc vs_2 4) (zc vs_2 3))) fun x25 =>
 zb (
 zi x25 (
 ret (.nxt [(zc vs_2 0), (zc vs_2 1), (zc vs_2 2), (zc vs_2 3), (zc vs_2 4)])
 ) (
 ret (.brk 1 [])
 )
 ) fun o => nx o (z6y G_strings_IndexRune)
def z6z (G_strings_IndexRune : List V → M V) (vs_7 : List V) : M Out :=
 ret (.ret [(Value.int .i64 0), (Value.int .i64 0)])
def z60 (G_strings_IndexRune : List V → M V) (vs : List V) : M Out :=
 zb (
 zb (za (zb9 (zc vs 0))) fun x23 =>
 zb (
 zce zcc (zyf G_strings_IndexRune) [(zc vs 0), (zc vs 1), (zc vs 0), x23, (Value.int .i64 0)]
 ) fun o => ret (zw 1 o)
 ) fun o => nx o (z6z G_strings_IndexRune)
def zkh (G_strings_IndexRune : List V → M V) (x0 x1 : V) : M V :=
 zb (
 zb (
 zb (
 zb (za (zj .lss x1 (Value.int .i64 1))) fun x13 =>
 zb (gd x13 false (za (some x1))) fun x15 =>
 zb (gd x13 false (za (zj .gtr x15 (Value.int .i64 8)))) fun x16 =>
 zb (za (zcq x13 (Value.bool true) x16)) fun x17 =>
 zi x17 (
 ret (.ret [(Value.int .i64 (-1)), (Value.int .i64 1)])
 ) (
 zb (za (zb9 x0)) fun x20 =>
 zb (za (zj .gtr x20 (Value.int .i64 8))) fun x21 =>
 zi x21 (
 ret (.ret [(Value.int .i64 (-1)), (Value.int .i64 2)])
 ) (
 ret (.nxt [x0, x1])
 )
 )
 ) fun o => ret (zw 0 o)
 ) fun o => nx o (z60 G_strings_IndexRune)
 ) fun o => zcf o fun vs => ret (zca [(zc vs 0), (zc vs 1)])
def z87 : Hint := (.seq [] .leaf (.seq [0, 1] (.blk (.seq [] .leaf (.cond (.seq [] .leaf .leaf) (.seq [] .leaf (.cond (.seq [] .leaf .leaf) .leaf))))) (.seq [] (.seq [] .leaf (.blk (.loop [0, 1, 22, 23, 24] (.seq [] .leaf (.seq [0, 1, 22, 23, 24] (.cond .leaf .leaf) (.seq [0, 1, 22, 23, 24] (.blk (.seq [] .leaf (.seq [0, 1, 6, 7, 22, 23, 24] (.seq [] .leaf (.cond (.seq [] .leaf .leaf) .leaf)) (.seq [0, 1, 6, 7, 22, 23, 24] (.seq [] (.reg [0, 1, 2, 3, 4, 5, 6, 7, 8, 9, 10] []) (.seq [] .leaf (.cond (.seq [] .leaf .leaf) .leaf))) (.seq [] .leaf (.seq [] .leaf (.cond (.seq [] .leaf .leaf) .leaf))))))) .leaf)))))) (.seq [] .leaf .leaf))))
def zmw (G_strings_IndexRune : List V → M V) (l : List V) : M V := match l with | [x0, x1] => zkh G_strings_IndexRune x0 x1 | _ => fail
theorem zbkr (G_strings_IndexRune : List V → M V) (x0 x1 : V) : zcs Tryz.prog (ovr [(zo2, zk7 G_strings_IndexRune), (znr, zjy), (zqp, zmv)] noC) zqo z87 [x0, x1] = zkh G_strings_IndexRune x0 x1 := by kernel_rfl
theorem zbks {G_strings_IndexRune : List V → M V} (k_strings_IndexRune : zy Tryz.prog zcp G_strings_IndexRune) : zy Tryz.prog zqo (zmw G_strings_IndexRune) := zh (σ := ovr [(zo2, zk7 G_strings_IndexRune), (znr, zjy), (zqp, zmv)] noC) (hint := z87) (by kernel_rfl) (zd (zbiy k_strings_IndexRune) (zd zbch (zd zbkq ze))) fun l H r H' h => by
 unfold zmw at h; split at h
 · rw [zbkr]; exact h
 · exact (zf h).elim
def zin (vs : List V) : M Out :=
 zb (zd7 3 0 (rep 0 [Value.string ⟨#[]⟩, Value.string ⟨#[]⟩, Value.slice none 0 0]) []) fun x5 =>
 zb (ze6 3 56 x5 (zc vs 0)) fun x7 =>
 ret (.ret [x7])
def zdk (x0 : V) : M V :=
 zb (
 zb (
 zb (za (zia false (isNil .s x0))) fun x4 =>
 zi x4 (
 ret (.ret [(Value.slice none 0 0)])
 ) (
 ret (.nxt [x0])
 )
 ) fun o => nx o zin
 ) fun o => zcf o fun vs => ret (zca [(zc vs 0)])
def zi8 : Hint := (.seq [] .leaf (.seq [0] (.seq [] .leaf (.cond (.seq [] .leaf .leaf) .leaf)) (.seq [] .leaf .leaf)))
def zcz (l : List V) : M V := match l with | [x0] => zdk x0 | _ => fail
theorem zq4 (x0 : V) : zcs Tryz.prog (ovr [] noC) zdv zi8 [x0] = zdk x0 := by kernel_rfl
theorem zq5 : zy Tryz.prog zdv (zcz) := zh (σ := ovr [] noC) (hint := zi8) (by kernel_rfl) ze fun l H r H' h => by
 unfold zcz at h; split at h
 · rw [zq4]; exact h
 · exact (zf h).elim
def zbft (G_strings_IndexRune : List V → M V) (vs_2 : List V) : M Out :=
 zb (zcz [(zc vs_2 0)]) fun x26 =>
 zb (za (build [Value.slice none 0 0, Value.int .i64 0, Value.int .i64 0, Value.int .i64 0, Value.slice none 0 0, Value.slice none 0 0, Value.int .i64 0, Value.slice none 0 0, Value.slice none 0 0] [(0, 1, x26), (1, 1, (zc vs_2 1))])) fun x28 =>
 zb (zlw x28) fun x29 =>
 ret (.ret [x29, (Value.int .i64 0)])
def zz8 (G_strings_IndexRune : List V → M V) (vs : List V) : M Out :=
 zb (
 zb (za (zj .lss (zc vs 1) (Value.int .i64 1))) fun x20 =>
 zb (gd x20 false (za (some (zc vs 1)))) fun x22 =>
 zb (gd x20 false (za (zj .gtr x22 (Value.int .i64 100000)))) fun x23 =>
 zb (za (zcq x20 (Value.bool true) x23)) fun x24 =>
 zi x24 (
 ret (.ret [(Value.pointer none), (Value.int .i64 1)])
 ) (
 ret (.nxt [(zc vs 0), (zc vs 1)])
 )
 ) fun o => nx o (zbft G_strings_IndexRune)
def z4e (G_strings_IndexRune : List V → M V) (x0 x1 x2 : V) : M V :=
 zb (
 zb (
 zb ((zmw G_strings_IndexRune) [x0, x1]) fun x13 =>
 zb (za (ext 0 x13)) fun x14 =>
 zb (za (ext 1 x13)) fun x15 =>
 zb (za (zj .neq x15 (Value.int .i64 0))) fun x17 =>
 zi x17 (
 ret (.ret [(Value.pointer none), x15])
 ) (
 ret (.nxt [x0, x2])
 )
 ) fun o => nx o (zz8 G_strings_IndexRune)
 ) fun o => zcf o fun vs => ret (zca [(zc vs 0), (zc vs 1)])
def zbi1 : Hint := (.seq [] .leaf (.seq [0, 2] (.seq [] .leaf (.seq [] .leaf (.cond (.seq [] .leaf .leaf) .leaf))) (.seq [0, 2] (.seq [] .leaf (.cond (.seq [] .leaf .leaf) .leaf)) (.seq [] .leaf .leaf))))
def zl5 (G_strings_IndexRune : List V → M V) (l : List V) : M V := match l with | [x0, x1, x2] => z4e G_strings_IndexRune x0 x1 x2 | _ => fail
theorem zbss (G_strings_IndexRune : List V → M V) (x0 x1 x2 : V) : zcs Tryz.prog (ovr [(zqo, zmw G_strings_IndexRune), (zdv, zcz)] noC) zo0 zbi1 [x0, x1, x2] = z4e G_strings_IndexRune x0 x1 x2 := by kernel_rfl
theorem zbi2 {G_strings_IndexRune : List V → M V} (k_strings_IndexRune : zy Tryz.prog zcp G_strings_IndexRune) : zy Tryz.prog zo0 (zl5 G_strings_IndexRune) := zh (σ := ovr [(zqo, zmw G_strings_IndexRune), (zdv, zcz)] noC) (hint := zbi1) (by kernel_rfl) (zd (zbks k_strings_IndexRune) (zd zq5 ze)) fun l H r H' h => by
 unfold zl5 at h; split at h
 · rw [zbss]; exact h
 · exact (zf h).elim
def zyg (vs_4 : List V) : M Out :=
 zb (za (zj .add (zc vs_4 1) (Value.int .i64 1))) fun x16 =>
 ret (.nxt [(zc vs_4 0), x16])
def zk8 (vs_3 : List V) : M Out :=
 zb (
 zb (
 zb (za (zk1 (zc vs_3 0) (zc vs_3 1))) fun x19 =>
 zb (za (zj .geq x19 (Value.int .u8 97))) fun x20 =>
 zb (gd x20 true (za (some (zc vs_3 0)))) fun x22 =>
 zb (gd x20 true (za (some (zc vs_3 1)))) fun x23 =>
 zb (gd x20 true (za (zk1 x22 x23))) fun x24 =>
 zb (gd x20 true (za (zj .leq x24 (Value.int .u8 122)))) fun x25 =>
 zb (za (zcq x20 x25 (Value.bool false))) fun x26 =>
 zb (gd x26 false (za (some (zc vs_3 0)))) fun x28 =>
 zb (gd x26 false (za (some (zc vs_3 1)))) fun x29 =>
 zb (gd x26 false (za (zk1 x28 x29))) fun x30 =>
 zb (gd x26 false (za (zj .geq x30 (Value.int .u8 48)))) fun x31 =>
 zb (gd x26 false (za (some x31))) fun x32 =>
 zb (gd x32 true (za (some (zc vs_3 0)))) fun x33 =>
 zb (gd x32 true (za (some (zc vs_3 1)))) fun x34 =>
 zb (gd x32 true (za (zk1 x33 x34))) fun x35 =>
 zb (gd x32 true (za (zj .leq x35 (Value.int .u8 57)))) fun x36 =>
 zb (gd x26 false (za (zcq x32 x36 (Value.bool false)))) fun x37 =>
 zb (za (zcq x26 (Value.bool true) x37)) fun x38 =>
 zb (za (un .not x38)) fun x39 =>
 zi x39 (
 ret (.ret [(Value.bool false)])
 ) (
 ret (.nxt [(zc vs_3 0), (zc vs_3 1)])
 )
 ) fun o => ret (zw 1 o)
 ) fun o => nx o zyg
def zi9 (vs_2 : List V) : M Out :=
 zb (
 zb (za (zct (zc vs_2 0))) fun x13 =>
 zb (za (zj .lss (zc vs_2 1) x13)) fun x14 =>
 zi x14 (
 ret (.nxt [(zc vs_2 0), (zc vs_2 1)])
 ) (
 ret (.brk 0 [])
 )
 ) fun o => nx o zk8
def z61 (vs_5 : List V) : M Out :=
 ret (.ret [(Value.bool true)])
def z62 (vs : List V) : M Out :=
 zb (
 zb (
 zce zcc zi9 [(zc vs 0), (Value.int .i64 0)]
 ) fun o => ret (zw 0 o)
 ) fun o => nx o z61
def zmx (x0 : V) : M V :=
 zb (
 zb (
 zb (za (zj .eql x0 (Value.string ⟨#[]⟩))) fun x5 =>
 zb (gd x5 false (za (some x0))) fun x7 =>
 zb (gd x5 false (za (zct x7))) fun x8 =>
 zb (gd x5 false (za (zj .gtr x8 (Value.int .i64 24)))) fun x9 =>
 zb (za (zcq x5 (Value.bool true) x9)) fun x10 =>
 zi x10 (
 ret (.ret [(Value.bool false)])
 ) (
 ret (.nxt [x0])
 )
 ) fun o => nx o z62
 ) fun o => zcf o fun vs => ret (zca [(zc vs 0)])
def z88 : Hint := (.seq [] .leaf (.seq [0] (.seq [] .leaf (.cond (.seq [] .leaf .leaf) .leaf)) (.seq [] (.seq [] .leaf (.blk (.loop [0, 3] (.seq [0, 3] (.seq [] .leaf (.cond .leaf .leaf)) (.seq [0, 3] (.blk (.seq [] .leaf (.cond (.seq [] .leaf .leaf) .leaf))) .leaf))))) (.seq [] .leaf .leaf))))
def zqa (l : List V) : M V := match l with | [x0] => zmx x0 | _ => fail
theorem zbkt (x0 : V) : zcs Tryz.prog (ovr [] noC) zvv z88 [x0] = zmx x0 := by kernel_rfl
theorem zbku : zy Tryz.prog zvv (zqa) := zh (σ := ovr [] noC) (hint := z88) (by kernel_rfl) ze fun l H r H' h => by
 unfold zqa at h; split at h
 · rw [zbkt]; exact h
 · exact (zf h).elim
def z89 (vs_4 : List V) : M Out :=
 zb (za (zj .add (zc vs_4 4) (Value.int .i64 1))) fun x37 =>
 ret (.nxt [(zc vs_4 0), (zc vs_4 1), (zc vs_4 2), (zc vs_4 3), x37])
def z1t (vs_3 : List V) : M Out :=
 zb (
 zb (
 zb (za (zv 3 (zc vs_3 0) (zc vs_3 4))) fun x40 =>
 zb (za (zg 0 x40)) fun x41 =>
 zb (za (zg 0 (zc vs_3 3))) fun x43 =>
 zb (z7 x41) fun x42 =>
 zb (z7 x43) fun x44 =>
 zb (za (zj .eql x42 x44)) fun x45 =>
 zi x45 (
 ret (.ret [(Value.int .i64 6)])
 ) (
 ret (.nxt [(zc vs_3 0), (zc vs_3 1), (zc vs_3 2), (zc vs_3 3), (zc vs_3 4)])
 )
 ) fun o => ret (zw 1 o)
 ) fun o => nx o z89
def zuo (vs_2 : List V) : M Out :=
 zb (
 zb (za (zj .lss (zc vs_2 4) (zc vs_2 1))) fun x35 =>
 zi x35 (
 ret (.nxt [(zc vs_2 0), (zc vs_2 1), (zc vs_2 2), (zc vs_2 3), (zc vs_2 4)])
 ) (
 ret (.brk 0 [(zc vs_2 2), (zc vs_2 3)])
 )
 ) fun o => nx o z1t
def z9a (vs_8 : List V) : M Out :=
 zb (za (zj .add (zc vs_8 2) (Value.int .i64 1))) fun x52 =>
 ret (.nxt [(zc vs_8 0), (zc vs_8 1), x52])
def zmy (vs_7 : List V) : M Out :=
 zb (
 zb (
 zb (za (zg 2 (zc vs_7 1))) fun x53 =>
 zb (z7 x53) fun x54 =>
 zb (za (zv 2 x54 (zc vs_7 2))) fun x56 =>
 zb (ldn 2 x56) fun x57 =>
 zb (newc [Value.int .i64 0, Value.int .i64 0]) fun x10 =>
 zb (stn 2 x10 x57) fun _ =>
 zb (za (zg 0 x10)) fun x58 =>
 zb (z7 x58) fun x59 =>
 zb (za (zj .lss x59 (Value.int .i64 0))) fun x60 =>
 zb (gd x60 false (za (zg 0 x10))) fun x62 =>
 zb (gd x60 false (z7 x62)) fun x63 =>
 zb (gd x60 false (za (some (zc vs_7 0)))) fun x64 =>
 zb (gd x60 false (za (zj .geq x63 x64))) fun x65 =>
 zb (za (zcq x60 (Value.bool true) x65)) fun x66 =>
 zb (gd x66 false (za (zg 1 x10))) fun x68 =>
 zb (gd x66 false (z7 x68)) fun x69 =>
 zb (gd x66 false (za (zj .lss x69 (Value.int .i64 1)))) fun x70 =>
 zb (za (zcq x66 (Value.bool true) x70)) fun x71 =>
 zb (gd x71 false (za (zg 1 x10))) fun x73 =>
 zb (gd x71 false (z7 x73)) fun x74 =>
 zb (gd x71 false (za (zj .gtr x74 (Value.int .i64 4)))) fun x75 =>
 zb (za (zcq x71 (Value.bool true) x75)) fun x76 =>
 zi x76 (
 ret (.ret [(Value.int .i64 1)])
 ) (
 ret (.nxt [(zc vs_7 0), (zc vs_7 1), (zc vs_7 2)])
 )
 ) fun o => ret (zw 3 o)
 ) fun o => nx o z9a
def zki (vs_6 : List V) : M Out :=
 zb (
 zb (za (zg 2 (zc vs_6 1))) fun x47 =>
 zb (z7 x47) fun x48 =>
 zb (za (zb9 x48)) fun x49 =>
 zb (za (zj .lss (zc vs_6 2) x49)) fun x50 =>
 zi x50 (
 ret (.nxt [(zc vs_6 0), (zc vs_6 1), (zc vs_6 2)])
 ) (
 ret (.brk 2 [(zc vs_6 1)])
 )
 ) fun o => nx o zmy
def z9b (vs_14 : List V) : M Out :=
 zb (za (zj .add (zc vs_14 2) (Value.int .i64 1))) fun x88 =>
 ret (.nxt [(zc vs_14 0), (zc vs_14 1), x88])
def z1u (vs_13 : List V) : M Out :=
 zb (
 zb (
 zb (za (zg 2 (zc vs_13 0))) fun x89 =>
 zb (za (zg 2 (zc vs_13 0))) fun x95 =>
 zb (z7 x89) fun x90 =>
 zb (za (zv 2 x90 (zc vs_13 2))) fun x92 =>
 zb (za (zg 0 x92)) fun x93 =>
 zb (z7 x93) fun x94 =>
 zb (z7 x95) fun x96 =>
 zb (za (zv 2 x96 (zc vs_13 1))) fun x98 =>
 zb (za (zg 0 x98)) fun x99 =>
 zb (z7 x99) fun x100 =>
 zb (za (zj .eql x94 x100)) fun x101 =>
 zi x101 (
 ret (.ret [(Value.int .i64 240)])
 ) (
 ret (.nxt [(zc vs_13 0), (zc vs_13 1), (zc vs_13 2)])
 )
 ) fun o => ret (zw 7 o)
 ) fun o => nx o z9b
def zup (vs_12 : List V) : M Out :=
 zb (
 zb (za (zj .lss (zc vs_12 2) (zc vs_12 1))) fun x86 =>
 zi x86 (
 ret (.nxt [(zc vs_12 0), (zc vs_12 1), (zc vs_12 2)])
 ) (
 ret (.brk 6 [(zc vs_12 0), (zc vs_12 1)])
 )
 ) fun o => nx o z1u
def z9c (vs_15 : List V) : M Out :=
 zb (za (zj .add (zc vs_15 1) (Value.int .i64 1))) fun x83 =>
 ret (.nxt [(zc vs_15 0), x83])
def z63 (vs_11 : List V) : M Out :=
 zb (
 zb (
 zb (
 zce zcc zup [(zc vs_11 0), (zc vs_11 1), (Value.int .i64 0)]
 ) fun o => ret (zw 6 o)
 ) fun o => ret (zw 5 o)
 ) fun o => nx o z9c
def zyh (vs_10 : List V) : M Out :=
 zb (
 zb (za (zg 2 (zc vs_10 0))) fun x78 =>
 zb (z7 x78) fun x79 =>
 zb (za (zb9 x79)) fun x80 =>
 zb (za (zj .lss (zc vs_10 1) x80)) fun x81 =>
 zi x81 (
 ret (.nxt [(zc vs_10 0), (zc vs_10 1)])
 ) (
 ret (.brk 4 [])
 )
 ) fun o => nx o z63
def z64 (vs_16 : List V) : M Out :=
 ret (.ret [(Value.int .i64 0)])
def z65 (vs_9 : List V) : M Out :=
 zb (
 zb (
 zce zcc zyh [(zc vs_9 0), (Value.int .i64 0)]
 ) fun o => ret (zw 4 o)
 ) fun o => nx o z64
def z66 (vs_5 : List V) : M Out :=
 zb (
 zb (
 zce zcc zki [(zc vs_5 0), (zc vs_5 1), (Value.int .i64 0)]
 ) fun o => ret (zw 2 o)
 ) fun o => nx o z65
def z67 (vs : List V) : M Out :=
 zb (
 zb (
 zce zcc zuo [(zc vs 0), (zc vs 1), (zc vs 2), (zc vs 3), (Value.int .i64 0)]
 ) fun o => ret (zw 0 o)
 ) fun o => nx o z66
def zw1 (x0 x1 x2 : V) : M V :=
 zb (
 zb (za (zv 3 x0 x1)) fun x15 =>
 zb (ldn 3 x15) fun x16 =>
 zb (newc [Value.string ⟨#[]⟩, Value.string ⟨#[]⟩, Value.slice none 0 0]) fun x7 =>
 zb (stn 3 x7 x16) fun _ =>
 zb (
 zb (za (zg 0 x7)) fun x17 =>
 zb (z7 x17) fun x18 =>
 zb (zqa [x18]) fun x19 =>
 zb (za (un .not x19)) fun x20 =>
 zb (gd x20 false (za (zg 1 x7))) fun x22 =>
 zb (gd x20 false (z7 x22)) fun x23 =>
 zb (gd x20 false (za (zct x23))) fun x24 =>
 zb (gd x20 false (za (zj .lss x24 (Value.int .i64 16)))) fun x25 =>
 zb (za (zcq x20 (Value.bool true) x25)) fun x26 =>
 zb (gd x26 false (za (zg 1 x7))) fun x28 =>
 zb (gd x26 false (z7 x28)) fun x29 =>
 zb (gd x26 false (za (zct x29))) fun x30 =>
 zb (gd x26 false (za (zj .gtr x30 (Value.int .i64 64)))) fun x31 =>
 zb (za (zcq x26 (Value.bool true) x31)) fun x32 =>
 zi x32 (
 ret (.ret [(Value.int .i64 3)])
 ) (
 ret (.nxt [x0, x1, x2, x7])
 )
 ) fun o => nx o z67
 ) fun o => zcf o fun vs => ret (zca [(zc vs 0)])
def zbci : Hint := (.seq [] .leaf (.seq [] .leaf (.seq [0, 1, 2, 7] (.seq [] .leaf (.cond (.seq [] .leaf .leaf) .leaf)) (.seq [2, 7] (.seq [] .leaf (.blk (.loop [0, 1, 2, 7, 8] (.seq [0, 1, 2, 7, 8] (.seq [] .leaf (.cond .leaf .leaf)) (.seq [0, 1, 2, 7, 8] (.blk (.seq [] (.reg [0, 1, 2, 3, 5, 4, 6, 7] []) (.cond (.seq [] .leaf .leaf) .leaf))) .leaf))))) (.seq [7] (.seq [] .leaf (.blk (.loop [2, 7, 9] (.seq [2, 7, 9] (.seq [] .leaf (.cond .leaf .leaf)) (.seq [2, 7, 9] (.blk (.seq [] .leaf (.seq [] .leaf (.cond (.seq [] .leaf .leaf) .leaf)))) .leaf))))) (.seq [] (.seq [] .leaf (.blk (.loop [7, 11] (.seq [7, 11] (.seq [] .leaf (.cond .leaf .leaf)) (.seq [7, 11] (.blk (.seq [] .leaf (.blk (.loop [7, 11, 12] (.seq [7, 11, 12] (.seq [] .leaf (.cond .leaf .leaf)) (.seq [7, 11, 12] (.blk (.seq [] (.reg [0, 2, 6, 8, 1, 3, 4, 5, 7, 9, 10, 11, 12] []) (.cond (.seq [] .leaf .leaf) .leaf))) .leaf)))))) .leaf))))) (.seq [] .leaf .leaf)))))))
def zss (l : List V) : M V := match l with | [x0, x1, x2] => zw1 x0 x1 x2 | _ => fail
def zbcj : zp := ovr [(zvv, zqa)] noC
theorem zbnm (x0 x1 x2 : V) : zcs Tryz.prog (zbcj) zx4 zbci [x0, x1, x2] = zw1 x0 x1 x2 := by kernel_rfl
theorem zbnn : zy Tryz.prog zx4 (zss) := zh (σ := zbcj) (hint := zbci) (by kernel_rfl) (zd zbku ze) fun l H r H' h => by
 unfold zss at h; split at h
 · rw [zbnm]; exact h
 · exact (zf h).elim
def z68 (vs_5 : List V) : M Out :=
 zb (za (zj .add (zc vs_5 2) (Value.int .i64 1))) fun x22 =>
 ret (.nxt [(zc vs_5 0), (zc vs_5 1), x22])
def z69 (vs_4 : List V) : M Out :=
 zb (
 zb (
 zb (zss [(zc vs_4 0), (zc vs_4 2), (zc vs_4 1)]) fun x26 =>
 zb (za (zj .neq x26 (Value.int .i64 0))) fun x28 =>
 zi x28 (
 ret (.ret [(zc vs_4 2), x26])
 ) (
 ret (.nxt [(zc vs_4 0), (zc vs_4 1), (zc vs_4 2)])
 )
 ) fun o => ret (zw 1 o)
 ) fun o => nx o z68
def zyi (vs_3 : List V) : M Out :=
 zb (
 zb (za (zb9 (zc vs_3 0))) fun x19 =>
 zb (za (zj .lss (zc vs_3 2) x19)) fun x20 =>
 zi x20 (
 ret (.nxt [(zc vs_3 0), (zc vs_3 1), (zc vs_3 2)])
 ) (
 ret (.brk 0 [])
 )
 ) fun o => nx o z69
def z7a (vs_6 : List V) : M Out :=
 ret (.ret [(Value.int .i64 0), (Value.int .i64 0)])
def z7b (vs_2 : List V) : M Out :=
 zb (
 zb (
 zce zcc zyi [(zc vs_2 0), (zc vs_2 1), (Value.int .i64 0)]
 ) fun o => ret (zw 0 o)
 ) fun o => nx o z7a
def zyj (vs : List V) : M Out :=
 zb (
 zb (za (zb9 (zc vs 0))) fun x15 =>
 zb (za (zj .gtr x15 (Value.int .i64 8))) fun x16 =>
 zi x16 (
 ret (.ret [(Value.int .i64 (-1)), (Value.int .i64 2)])
 ) (
 ret (.nxt [(zc vs 0), (zc vs 1)])
 )
 ) fun o => nx o z7b
def zkj (x0 x1 : V) : M V :=
 zb (
 zb (
 zb (za (zj .lss x1 (Value.int .i64 1))) fun x9 =>
 zb (gd x9 false (za (some x1))) fun x11 =>
 zb (gd x9 false (za (zj .gtr x11 (Value.int .i64 8)))) fun x12 =>
 zb (za (zcq x9 (Value.bool true) x12)) fun x13 =>
 zi x13 (
 ret (.ret [(Value.int .i64 (-1)), (Value.int .i64 1)])
 ) (
 ret (.nxt [x0, x1])
 )
 ) fun o => nx o zyj
 ) fun o => zcf o fun vs => ret (zca [(zc vs 0), (zc vs 1)])
def z9d : Hint := (.seq [] .leaf (.seq [0, 1] (.seq [] .leaf (.cond (.seq [] .leaf .leaf) .leaf)) (.seq [0, 1] (.seq [] .leaf (.cond (.seq [] .leaf .leaf) .leaf)) (.seq [] (.seq [] .leaf (.blk (.loop [0, 1, 6] (.seq [0, 1, 6] (.seq [] .leaf (.cond .leaf .leaf)) (.seq [0, 1, 6] (.blk (.seq [] .leaf (.seq [] .leaf (.cond (.seq [] .leaf .leaf) .leaf)))) .leaf))))) (.seq [] .leaf .leaf)))))
def zqb (l : List V) : M V := match l with | [x0, x1] => zkj x0 x1 | _ => fail
def z9e : zp := ovr [(zx4, zss)] noC
theorem zbkv (x0 x1 : V) : zcs Tryz.prog (z9e) zvr z9d [x0, x1] = zkj x0 x1 := by kernel_rfl
theorem zbkw : zy Tryz.prog zvr (zqb) := zh (σ := z9e) (hint := z9d) (by kernel_rfl) (zd zbnn ze) fun l H r H' h => by
 unfold zqb at h; split at h
 · rw [zbkv]; exact h
 · exact (zf h).elim
def zbck (vs_2 : List V) : M Out :=
 zb (za (build [Value.slice none 0 0, Value.int .i64 0, Value.int .i64 0, Value.slice none 0 0, Value.slice none 0 0, Value.int .i64 0, Value.int .i64 0] [(0, 1, (zc vs_2 0)), (1, 1, (zc vs_2 1))])) fun x27 =>
 zb (zlw x27) fun x28 =>
 ret (.ret [x28, (Value.int .i64 0)])
def zw2 (vs : List V) : M Out :=
 zb (
 zb (za (zj .lss (zc vs 1) (Value.int .i64 1))) fun x20 =>
 zb (gd x20 false (za (some (zc vs 1)))) fun x22 =>
 zb (gd x20 false (za (zj .gtr x22 (Value.int .i64 100000)))) fun x23 =>
 zb (za (zcq x20 (Value.bool true) x23)) fun x24 =>
 zi x24 (
 ret (.ret [(Value.pointer none), (Value.int .i64 1)])
 ) (
 ret (.nxt [(zc vs 0), (zc vs 1)])
 )
 ) fun o => nx o zbck
def zz9 (x0 x1 x2 : V) : M V :=
 zb (
 zb (
 zb (zqb [x0, x1]) fun x13 =>
 zb (za (ext 0 x13)) fun x14 =>
 zb (za (ext 1 x13)) fun x15 =>
 zb (za (zj .neq x15 (Value.int .i64 0))) fun x17 =>
 zi x17 (
 ret (.ret [(Value.pointer none), x15])
 ) (
 ret (.nxt [x0, x2])
 )
 ) fun o => nx o zw2
 ) fun o => zcf o fun vs => ret (zca [(zc vs 0), (zc vs 1)])
def zbfu : Hint := (.seq [] .leaf (.seq [0, 2] (.seq [] .leaf (.seq [] .leaf (.cond (.seq [] .leaf .leaf) .leaf))) (.seq [0, 2] (.seq [] .leaf (.cond (.seq [] .leaf .leaf) .leaf)) (.seq [] .leaf .leaf))))
def zru (l : List V) : M V := match l with | [x0, x1, x2] => zz9 x0 x1 x2 | _ => fail
def zbfv : zp := ovr [(zvr, zqb)] noC
theorem zbp8 (x0 x1 x2 : V) : zcs Tryz.prog (zbfv) zuj zbfu [x0, x1, x2] = zz9 x0 x1 x2 := by kernel_rfl
theorem zbp9 : zy Tryz.prog zuj (zru) := zh (σ := zbfv) (hint := zbfu) (by kernel_rfl) (zd zbkw ze) fun l H r H' h => by
 unfold zru at h; split at h
 · rw [zbp8]; exact h
 · exact (zf h).elim
def zuq (x0 x1 : V) : M V :=
 zb (
 zb (za (zj .rem x0 x1)) fun x7 =>
 zb (za (zj .add x7 x1)) fun x9 =>
 zb (za (zj .rem x9 x1)) fun x11 =>
 ret (.ret [x11])
 ) fun o => zcf o fun vs => ret (zca [(zc vs 0)])
def z9f : Hint := (.seq [] .leaf (.seq [] .leaf .leaf))
def zio (l : List V) : M V := match l with | [x0, x1] => zuq x0 x1 | _ => fail
theorem zbkx (x0 x1 : V) : zcs Tryz.prog (ovr [] noC) zmn z9f [x0, x1] = zuq x0 x1 := by kernel_rfl
theorem z9g : zy Tryz.prog zmn (zio) := zh (σ := ovr [] noC) (hint := z9f) (by kernel_rfl) ze fun l H r H' h => by
 unfold zio at h; split at h
 · rw [zbkx]; exact h
 · exact (zf h).elim
def zjz (vs : List V) : M Out :=
 zb (za (zu (zc vs 0))) fun x13 =>
 zb (za (zg 0 x13)) fun x14 =>
 zb (z7 x14) fun x15 =>
 zb (za (zj .add x15 (Value.int .i64 1))) fun x16 =>
 zb (za (zu (zc vs 0))) fun x17 =>
 zb (za (zg 0 x17)) fun x18 =>
 zb (st1 x18 x16) fun _ =>
 zu5 2 fun base h0 =>
 zb (za (zu (zc vs 0))) fun x22 =>
 zb (za (zg 1 x22)) fun x23 =>
 zb (za (zu (zc vs 0))) fun x26 =>
 zb (za (zg 0 x26)) fun x27 =>
 zb (za (zu (zc vs 0))) fun x32 =>
 zb (za (zg 2 x32)) fun x33 =>
 zb (z7 x23) fun x24 =>
 zb (z7 x27) fun x28 =>
 zb (z7 x33) fun x34 =>
 zb (ldn 5 (zc vs 1)) fun x35 =>
 zb (flt (base + 0) (zd7 1 1 (rep 1 [Value.int .i64 0]) [(0, 1, x28)])) fun x29 =>
 zfq (ze6 1 8 x24 x29) fun ha x30 h1 =>
 zdc (zej ha [base + 1] && zej h1 [base + 1]) <|
 zb (flt (base + 1) (zd7 5 1 (rep 1 [Value.string ⟨#[]⟩, Value.string ⟨#[]⟩, Value.slice none 0 0, Value.string ⟨#[]⟩, Value.int .i64 0]) [(0, 5, x35)])) fun x36 =>
 zfq (ze6 5 80 x34 x36) fun ha_2 x37 h2 =>
 zb (za (zu (zc vs 0))) fun x38 =>
 zb (za (zg 1 x38)) fun x39 =>
 zfq (st1 x39 x30) fun ha_3 u h3 =>
 zb (za (zu (zc vs 0))) fun x40 =>
 zb (za (zg 2 x40)) fun x41 =>
 zfq (st1 x41 x37) fun ha_4 u_2 h4 =>
 zdc (chk (z7 x33) h1 x34) <|
 zdc (chk (ldn 5 (zc vs 1)) h1 x35) <|
 zb (za (zu (zc vs 0))) fun x43 =>
 zb (za (zg 0 x43)) fun x44 =>
 zb (z7 x44) fun x45 =>
 ret (.ret [x45, (Value.bool true)])
def zda (x0 x1 : V) : M V :=
 zb (
 zb (zlw x1) fun x3 =>
 zb (
 zb (za (zu x0)) fun x7 =>
 zb (za (zg 2 x7)) fun x8 =>
 zb (z7 x8) fun x9 =>
 zb (za (zb9 x9)) fun x10 =>
 zb (za (zj .eql x10 (Value.int .i64 8))) fun x11 =>
 zi x11 (
 ret (.ret [(Value.int .i64 0), (Value.bool false)])
 ) (
 ret (.nxt [x0, x3])
 )
 ) fun o => nx o zjz
 ) fun o => zcf o fun vs => ret (zca [(zc vs 0), (zc vs 1)])
def zkm : Hint := (.seq [] .leaf (.seq [0, 3] (.seq [] .leaf (.cond (.seq [] .leaf .leaf) .leaf)) (.seq [] .leaf (.seq [] (.reg [0, 1, 2, 3, 4, 6, 7, 8, 12, 13, 14, 5, 9, 15, 16, 10, 11, 17, 18, 19, 20, 21, 22, 23, 24] [10, 17]) (.seq [] .leaf .leaf)))))
def zcv (l : List V) : M V := match l with | [x0, x1] => zda x0 x1 | _ => fail
theorem ztx (x0 x1 : V) : zcs Tryz.prog (ovr [] noC) zf6 zkm [x0, x1] = zda x0 x1 := by kernel_rfl
theorem zty : zy Tryz.prog zf6 (zcv) := zh (σ := ovr [] noC) (hint := zkm) (by kernel_rfl) ze fun l H r H' h => by
 unfold zcv at h; split at h
 · rw [ztx]; exact h
 · exact (zf h).elim
def zyk (vs_2 : List V) : M Out :=
 ret (.ret [(zc vs_2 0), (Value.int .i64 0)])
def zyl (vs : List V) : M Out :=
 zb (za (zu (zc vs 0))) fun x31 =>
 zb (za (zg 3 x31)) fun x32 =>
 zb (za (zu (zc vs 0))) fun x34 =>
 zb (za (zg 0 x34)) fun x35 =>
 zb (za (zu (zc vs 0))) fun x42 =>
 zb (za (zg 2 x42)) fun x43 =>
 zb (z7 x35) fun x36 =>
 zb (za (zv 3 x36 (zc vs 2))) fun x38 =>
 zb (ldn 3 x38) fun x39 =>
 zb (z7 x43) fun x44 =>
 zb (za (build [Value.string ⟨#[]⟩, Value.string ⟨#[]⟩, Value.slice none 0 0, Value.string ⟨#[]⟩, Value.int .i64 0] [(0, 3, x39), (3, 1, (zc vs 1)), (4, 1, x44)])) fun x45 =>
 zb (zcv [x32, x45]) fun x46 =>
 zb (za (ext 0 x46)) fun x47 =>
 zb (za (ext 1 x46)) fun x48 =>
 zb (
 zb (za (un .not x48)) fun x50 =>
 zi x50 (
 ret (.ret [(Value.int .i64 0), (Value.int .i64 2)])
 ) (
 ret (.nxt [x47])
 )
 ) fun o => nx o zyk
def znb (x0 x1 x2 : V) : M V :=
 zb (
 zb (za (zu x0)) fun x14 =>
 zb (za (zg 0 x14)) fun x15 =>
 zb (z7 x15) fun x16 =>
 zb (zjy [x16, x1]) fun x18 =>
 zb (za (ext 0 x18)) fun x19 =>
 zb (za (ext 1 x18)) fun x20 =>
 zb (
 zb (
 zb (za (zj .neq x20 (Value.int .i64 0))) fun x23 =>
 zi x23 (
 ret (.ret [(Value.int .i64 0), x20])
 ) (
 zb (za (zct x2)) fun x27 =>
 zb (za (zj .neq x27 (Value.int .i64 16))) fun x28 =>
 zi x28 (
 ret (.ret [(Value.int .i64 0), (Value.int .i64 4)])
 ) (
 ret (.nxt [x0, x2, x19])
 )
 )
 ) fun o => ret (zw 0 o)
 ) fun o => nx o zyl
 ) fun o => zcf o fun vs => ret (zca [(zc vs 0), (zc vs 1)])
def z0a : Hint := (.seq [] .leaf (.seq [] .leaf (.seq [0, 2, 8] (.blk (.seq [] .leaf (.cond (.seq [] .leaf .leaf) (.seq [] .leaf (.cond (.seq [] .leaf .leaf) .leaf))))) (.seq [] (.reg [0, 1, 2, 3, 4, 5, 7, 10, 11, 12, 13, 6, 8, 9, 14, 15, 16, 17, 18, 19, 20, 21] []) (.seq [10] (.seq [] .leaf (.cond (.seq [] .leaf .leaf) .leaf)) (.seq [] .leaf .leaf))))))
def zen (l : List V) : M V := match l with | [x0, x1, x2] => znb x0 x1 x2 | _ => fail
def z0b : zp := ovr [(znr, zjy), (zf6, zcv)] noC
theorem zbcl (x0 x1 x2 : V) : zcs Tryz.prog (z0b) zgm z0a [x0, x1, x2] = znb x0 x1 x2 := by kernel_rfl
theorem z0c : zy Tryz.prog zgm (zen) := zh (σ := z0b) (hint := z0a) (by kernel_rfl) (zd zbch (zd zty ze)) fun l H r H' h => by
 unfold zen at h; split at h
 · rw [zbcl]; exact h
 · exact (zf h).elim
def z9h (vs_3 : List V) : M Out :=
 zb (za (zj .add (zc vs_3 2) (Value.int .i64 1))) fun x12 =>
 ret (.nxt [(zc vs_3 0), (zc vs_3 1), x12])
def z1v (vs_2 : List V) : M Out :=
 zb (
 zb (
 zb (za (zv 3 (zc vs_2 0) (zc vs_2 2))) fun x15 =>
 zb (za (zg 0 x15)) fun x16 =>
 zb (z7 x16) fun x17 =>
 zb (za (zj .eql x17 (zc vs_2 1))) fun x19 =>
 zi x19 (
 ret (.ret [(zc vs_2 2), (Value.int .i64 0)])
 ) (
 ret (.nxt [(zc vs_2 0), (zc vs_2 1), (zc vs_2 2)])
 )
 ) fun o => ret (zw 1 o)
 ) fun o => nx o z9h
def zur (vs : List V) : M Out :=
 zb (
 zb (za (zb9 (zc vs 0))) fun x9 =>
 zb (za (zj .lss (zc vs 2) x9)) fun x10 =>
 zi x10 (
 ret (.nxt [(zc vs 0), (zc vs 1), (zc vs 2)])
 ) (
 ret (.brk 0 [])
 )
 ) fun o => nx o z1v
def z9i (vs_4 : List V) : M Out :=
 ret (.ret [(Value.int .i64 0), (Value.int .i64 90)])
def zw3 (x0 x1 : V) : M V :=
 zb (
 zb (
 zb (
 zce zcc zur [x0, x1, (Value.int .i64 0)]
 ) fun o => ret (zw 0 o)
 ) fun o => nx o z9i
 ) fun o => zcf o fun vs => ret (zca [(zc vs 0), (zc vs 1)])
def zbcm : Hint := (.seq [] .leaf (.seq [] (.seq [] .leaf (.blk (.loop [0, 1, 6] (.seq [0, 1, 6] (.seq [] .leaf (.cond .leaf .leaf)) (.seq [0, 1, 6] (.blk (.seq [] .leaf (.cond (.seq [] .leaf .leaf) .leaf))) .leaf))))) (.seq [] .leaf .leaf)))
def zst (l : List V) : M V := match l with | [x0, x1] => zw3 x0 x1 | _ => fail
theorem zbno (x0 x1 : V) : zcs Tryz.prog (ovr [] noC) zx5 zbcm [x0, x1] = zw3 x0 x1 := by kernel_rfl
theorem zbnp : zy Tryz.prog zx5 (zst) := zh (σ := ovr [] noC) (hint := zbcm) (by kernel_rfl) ze fun l H r H' h => by
 unfold zst at h; split at h
 · rw [zbno]; exact h
 · exact (zf h).elim
def zv9 (vs_3 : List V) : M Out :=
 zb (za (zu (zc vs_3 0))) fun x32 =>
 zb (za (zg 5 x32)) fun x33 =>
 zb (z7 x33) fun x34 =>
 zb (za (zj .add x34 (Value.int .i64 1))) fun x35 =>
 zb (za (zu (zc vs_3 0))) fun x36 =>
 zb (za (zg 5 x36)) fun x37 =>
 zb (st1 x37 x35) fun _ =>
 zu5 2 fun base h0 =>
 zb (za (zu (zc vs_3 0))) fun x41 =>
 zb (za (zg 3 x41)) fun x42 =>
 zb (za (zu (zc vs_3 0))) fun x46 =>
 zb (za (zg 5 x46)) fun x47 =>
 zb (za (zu (zc vs_3 0))) fun x51 =>
 zb (za (zg 2 x51)) fun x52 =>
 zb (z7 x42) fun x43 =>
 zb (z7 x47) fun x48 =>
 zb (z7 x52) fun x53 =>
 zb (za (build [Value.int .i64 0, Value.int .i64 0, Value.int .i64 0, Value.string ⟨#[]⟩] [(0, 1, x48), (1, 1, (zc vs_3 2)), (2, 1, x53), (3, 1, (zc vs_3 1))])) fun x55 =>
 zb (flt (base + 0) (zd7 4 0 (rep 0 [Value.int .i64 0, Value.int .i64 0, Value.int .i64 0, Value.string ⟨#[]⟩]) [])) fun x39 =>
 zfq (ze6 4 40 x39 x43) fun ha x44 h1 =>
 zdc (zej ha [base + 1] && zej h1 [base + 1]) <|
 zb (flt (base + 1) (zd7 4 1 (rep 1 [Value.int .i64 0, Value.int .i64 0, Value.int .i64 0, Value.string ⟨#[]⟩]) [(0, 4, x55)])) fun x56 =>
 zfq (ze6 4 40 x44 x56) fun ha_2 x57 h2 =>
 zb (za (zu (zc vs_3 0))) fun x58 =>
 zb (za (zg 3 x58)) fun x59 =>
 zfq (st1 x59 x57) fun ha_3 u h3 =>
 zdc (chk (z7 x47) h1 x48) <|
 zdc (chk (z7 x52) h1 x53) <|
 zb (za (zu (zc vs_3 0))) fun x61 =>
 zb (za (zg 5 x61)) fun x62 =>
 zb (z7 x62) fun x63 =>
 ret (.ret [x63, (Value.int .i64 0)])
def zpt (vs_2 : List V) : M Out :=
 zb (
 zb (za (zu (zc vs_2 0))) fun x26 =>
 zb (za (zg 3 x26)) fun x27 =>
 zb (z7 x27) fun x28 =>
 zb (za (zb9 x28)) fun x29 =>
 zb (za (zj .geq x29 (Value.int .i64 8))) fun x30 =>
 zi x30 (
 ret (.ret [(Value.int .i64 0), (Value.int .i64 2)])
 ) (
 ret (.nxt [(zc vs_2 0), (zc vs_2 1), (zc vs_2 2)])
 )
 ) fun o => nx o zv9
def zkx (vs : List V) : M Out :=
 zb (
 zb (za (zct (zc vs 1))) fun x23 =>
 zb (za (zj .neq x23 (Value.int .i64 16))) fun x24 =>
 zi x24 (
 ret (.ret [(Value.int .i64 0), (Value.int .i64 4)])
 ) (
 ret (.nxt [(zc vs 0), (zc vs 1), (zc vs 2)])
 )
 ) fun o => nx o zpt
def zl6 (x0 x1 x2 : V) : M V :=
 zb (
 zb (za (zu x0)) fun x12 =>
 zb (za (zg 0 x12)) fun x13 =>
 zb (z7 x13) fun x14 =>
 zb (zst [x14, x1]) fun x16 =>
 zb (za (ext 0 x16)) fun x17 =>
 zb (za (ext 1 x16)) fun x18 =>
 zb (
 zb (za (zj .neq x18 (Value.int .i64 0))) fun x20 =>
 zi x20 (
 ret (.ret [(Value.int .i64 0), x18])
 ) (
 ret (.nxt [x0, x2, x17])
 )
 ) fun o => nx o zkx
 ) fun o => zcf o fun vs => ret (zca [(zc vs 0), (zc vs 1)])
def zym : Hint := (.seq [] .leaf (.seq [] .leaf (.seq [0, 2, 8] (.seq [] .leaf (.cond (.seq [] .leaf .leaf) .leaf)) (.seq [0, 2, 8] (.seq [] .leaf (.cond (.seq [] .leaf .leaf) .leaf)) (.seq [0, 2, 8] (.seq [] .leaf (.cond (.seq [] .leaf .leaf) .leaf)) (.seq [] .leaf (.seq [] (.reg [0, 2, 3, 4, 7, 8, 9, 11, 12, 13, 14, 16, 5, 10, 15, 17, 1, 6, 18, 19, 20, 21, 22] [1, 18]) (.seq [] .leaf .leaf))))))))
def zg5 (l : List V) : M V := match l with | [x0, x1, x2] => zl6 x0 x1 x2 | _ => fail
def zyn : zp := ovr [(zx5, zst)] noC
theorem zba2 (x0 x1 x2 : V) : zcs Tryz.prog (zyn) zjv zym [x0, x1, x2] = zl6 x0 x1 x2 := by kernel_rfl
theorem zba3 : zy Tryz.prog zjv (zg5) := zh (σ := zyn) (hint := zym) (by kernel_rfl) (zd zbnp ze) fun l H r H' h => by
 unfold zg5 at h; split at h
 · rw [zba2]; exact h
 · exact (zf h).elim
def z7c (vs_3 : List V) : M Out :=
 zb (za (zj .sub (zc vs_3 2) (Value.int .i64 1))) fun x8 =>
 ret (.nxt [(zc vs_3 0), (zc vs_3 1), x8])
def z7d (vs_2 : List V) : M Out :=
 zb (
 zb (
 zb (za (cvi .u64 (zc vs_2 0))) fun x11 =>
 zb (za (zj .mul (Value.int .i64 8) (zc vs_2 2))) fun x13 =>
 zb (za (zj .shr x11 x13)) fun x14 =>
 zb (za (cvi .u8 x14)) fun x15 =>
 zb (zd7 1 1 (rep 1 [Value.int .u8 0]) [(0, 1, x15)]) fun x16 =>
 zb (ze6 1 1 (zc vs_2 1) x16) fun x17 =>
 ret (.nxt [(zc vs_2 0), x17, (zc vs_2 2)])
 ) fun o => ret (zw 1 o)
 ) fun o => nx o z7c
def zyo (vs : List V) : M Out :=
 zb (
 zb (za (zj .geq (zc vs 2) (Value.int .i64 0))) fun x6 =>
 zi x6 (
 ret (.nxt [(zc vs 0), (zc vs 1), (zc vs 2)])
 ) (
 ret (.brk 0 [(zc vs 1)])
 )
 ) fun o => nx o z7d
def z7e (vs_4 : List V) : M Out :=
 zb (b2s (zc vs_4 0)) fun x19 =>
 ret (.ret [x19])
def zus (x0 : V) : M V :=
 zb (
 zb (
 zb (
 zce zcc zyo [x0, (Value.slice none 0 0), (Value.int .i64 7)]
 ) fun o => ret (zw 0 o)
 ) fun o => nx o z7e
 ) fun o => zcf o fun vs => ret (zca [(zc vs 0)])
def z9j : Hint := (.seq [] .leaf (.seq [] .leaf (.seq [3] (.seq [] .leaf (.blk (.loop [0, 3, 4] (.seq [0, 3, 4] (.seq [] .leaf (.cond .leaf .leaf)) (.seq [0, 3, 4] (.blk .leaf) .leaf))))) (.seq [] .leaf .leaf))))
def zmz (l : List V) : M V := match l with | [x0] => zus x0 | _ => fail
theorem zbky (x0 : V) : zcs Tryz.prog (ovr [] noC) zvq z9j [x0] = zus x0 := by kernel_rfl
theorem zbkz : zy Tryz.prog zvq (zmz) := zh (σ := ovr [] noC) (hint := z9j) (by kernel_rfl) ze fun l H r H' h => by
 unfold zmz at h; split at h
 · rw [zbky]; exact h
 · exact (zf h).elim
def z40 (vs_2 : List V) : M Out :=
 zb (
 zb (zd7 1 1 (rep 1 [Value.int .u8 0]) [(0, 1, (Value.int .u8 0))]) fun x16 =>
 zb (ze6 1 1 (zc vs_2 1) x16) fun x17 =>
 ret (.nxt [(zc vs_2 0), x17])
 ) fun o => ret (zw 1 o)
def zvx (vs : List V) : M Out :=
 zb (
 zb (za (zb9 (zc vs 1))) fun x12 =>
 zb (za (zj .rem x12 (Value.int .i64 64))) fun x13 =>
 zb (za (zj .neq x13 (Value.int .i64 56))) fun x14 =>
 zi x14 (
 ret (.nxt [(zc vs 0), (zc vs 1)])
 ) (
 ret (.brk 0 [(zc vs 0), (zc vs 1)])
 )
 ) fun o => nx o z40
def z41 (vs_6 : List V) : M Out :=
 zb (za (zj .sub (zc vs_6 2) (Value.int .i64 1))) fun x25 =>
 ret (.nxt [(zc vs_6 0), (zc vs_6 1), x25])
def z42 (vs_5 : List V) : M Out :=
 zb (
 zb (
 zb (za (zj .mul (Value.int .i64 8) (zc vs_5 2))) fun x29 =>
 zb (za (zj .shr (zc vs_5 1) x29)) fun x30 =>
 zb (za (cvi .u8 x30)) fun x31 =>
 zb (zd7 1 1 (rep 1 [Value.int .u8 0]) [(0, 1, x31)]) fun x32 =>
 zb (ze6 1 1 (zc vs_5 0) x32) fun x33 =>
 ret (.nxt [x33, (zc vs_5 1), (zc vs_5 2)])
 ) fun o => ret (zw 3 o)
 ) fun o => nx o z41
def zvy (vs_4 : List V) : M Out :=
 zb (
 zb (za (zj .geq (zc vs_4 2) (Value.int .i64 0))) fun x23 =>
 zi x23 (
 ret (.nxt [(zc vs_4 0), (zc vs_4 1), (zc vs_4 2)])
 ) (
 ret (.brk 2 [(zc vs_4 0)])
 )
 ) fun o => nx o z42
def z43 (vs_7 : List V) : M Out :=
 ret (.ret [(zc vs_7 0)])
def z44 (vs_3 : List V) : M Out :=
 zb (za (zct (zc vs_3 0))) fun x19 =>
 zb (za (cvi .u64 x19)) fun x20 =>
 zb (za (zj .mul x20 (Value.int .u64 8))) fun x21 =>
 zb (
 zb (
 zce zcc zvy [(zc vs_3 1), x21, (Value.int .i64 7)]
 ) fun o => ret (zw 2 o)
 ) fun o => nx o z43
def zoe (x0 : V) : M V :=
 zb (
 zb (s2b x0) fun x7 =>
 zb (zd7 1 1 (rep 1 [Value.int .u8 0]) [(0, 1, (Value.int .u8 128))]) fun x9 =>
 zb (ze6 1 1 x7 x9) fun x10 =>
 zb (
 zb (
 zce zcc zvx [x0, x10]
 ) fun o => ret (zw 0 o)
 ) fun o => nx o z44
 ) fun o => zcf o fun vs => ret (zca [(zc vs 0)])
def z7f : Hint := (.seq [] .leaf (.seq [] .leaf (.seq [] .leaf (.seq [0, 3] (.blk (.loop [0, 3] (.seq [0, 3] (.seq [] .leaf (.cond .leaf .leaf)) (.blk .leaf)))) (.seq [] .leaf (.seq [3] (.seq [] .leaf (.blk (.loop [3, 4, 5] (.seq [3, 4, 5] (.seq [] .leaf (.cond .leaf .leaf)) (.seq [3, 4, 5] (.blk .leaf) .leaf))))) (.seq [] .leaf .leaf)))))))
def zsu (l : List V) : M V := match l with | [x0] => zoe x0 | _ => fail
theorem zbi3 (x0 : V) : zcs Tryz.prog (ovr [] noC) zt9 z7f [x0] = zoe x0 := by kernel_rfl
theorem zbi4 : zy Tryz.prog zt9 (zsu) := zh (σ := ovr [] noC) (hint := z7f) (by kernel_rfl) ze fun l H r H' h => by
 unfold zsu at h; split at h
 · rw [zbi3]; exact h
 · exact (zf h).elim
def z4f (x0 x1 : V) : M V :=
 zb (
 zb (za (zj .shr x0 x1)) fun x7 =>
 zb (za (zj .sub (Value.int .i64 32) x1)) fun x10 =>
 zb (za (zj .shl x0 x10)) fun x11 =>
 zb (za (zj .or x7 x11)) fun x12 =>
 ret (.ret [x12])
 ) fun o => zcf o fun vs => ret (zca [(zc vs 0)])
def zbcn : Hint := (.seq [] .leaf (.seq [] (.reg [0, 1, 2, 3, 4, 5, 6, 7, 8] []) .leaf))
def zch (l : List V) : M V := match l with | [x0, x1] => z4f x0 x1 | _ => fail
theorem zbnq (x0 x1 : V) : zcs Tryz.prog (ovr [] noC) zsi zbcn [x0, x1] = z4f x0 x1 := by kernel_rfl
theorem zbco : zy Tryz.prog zsi (zch) := zh (σ := ovr [] noC) (hint := zbcn) (by kernel_rfl) ze fun l H r H' h => by
 unfold zch at h; split at h
 · rw [zbnq]; exact h
 · exact (zf h).elim
def z7g (vs_3 : List V) : M Out :=
 zb (za (zj .sub (zc vs_3 2) (Value.int .i64 15))) fun x53 =>
 zb (za (zv 1 (zc vs_3 1) x53)) fun x54 =>
 zb (za (zj .sub (zc vs_3 2) (Value.int .i64 2))) fun x58 =>
 zb (za (zv 1 (zc vs_3 1) x58)) fun x59 =>
 zb (z7 x54) fun x55 =>
 zb (z7 x59) fun x60 =>
 zb (zch [x55, (Value.int .i64 7)]) fun x62 =>
 zb (zch [x55, (Value.int .i64 18)]) fun x64 =>
 zb (za (zj .xor x62 x64)) fun x65 =>
 zb (za (zj .shr x55 (Value.int .u64 3))) fun x67 =>
 zb (za (zj .xor x65 x67)) fun x68 =>
 zb (zch [x60, (Value.int .i64 17)]) fun x70 =>
 zb (zch [x60, (Value.int .i64 19)]) fun x72 =>
 zb (za (zj .xor x70 x72)) fun x73 =>
 zb (za (zj .shr x60 (Value.int .u64 10))) fun x75 =>
 zb (za (zj .xor x73 x75)) fun x76 =>
 zb (za (zj .sub (zc vs_3 2) (Value.int .i64 7))) fun x81 =>
 zb (za (zv 1 (zc vs_3 1) x81)) fun x82 =>
 zb (za (zj .sub (zc vs_3 2) (Value.int .i64 16))) fun x89 =>
 zb (za (zv 1 (zc vs_3 1) x89)) fun x90 =>
 zb (z7 x82) fun x83 =>
 zb (za (zj .add x76 x83)) fun x84 =>
 zb (za (zj .add x84 x68)) fun x86 =>
 zb (z7 x90) fun x91 =>
 zb (za (zj .add x86 x91)) fun x92 =>
 zb (zd7 1 1 (rep 1 [Value.int .u32 0]) [(0, 1, x92)]) fun x93 =>
 zb (ze6 1 4 (zc vs_3 1) x93) fun x94 =>
 ret (.nxt [(zc vs_3 0), x94, (zc vs_3 2)])
def zyp (vs_4 : List V) : M Out :=
 zb (za (zj .add (zc vs_4 2) (Value.int .i64 1))) fun x12 =>
 ret (.nxt [(zc vs_4 0), (zc vs_4 1), x12])
def zof (vs_2 : List V) : M Out :=
 zb (
 zb (
 zb (
 zb (za (zj .lss (zc vs_2 2) (Value.int .i64 16))) fun x14 =>
 zi x14 (
 zb (za (zj .mul (Value.int .i64 4) (zc vs_2 2))) fun x18 =>
 zb (za (zv 1 (zc vs_2 0) x18)) fun x19 =>
 zb (za (zj .mul (Value.int .i64 4) (zc vs_2 2))) fun x25 =>
 zb (za (zj .add x25 (Value.int .i64 1))) fun x26 =>
 zb (za (zv 1 (zc vs_2 0) x26)) fun x27 =>
 zb (za (zj .mul (Value.int .i64 4) (zc vs_2 2))) fun x34 =>
 zb (za (zj .add x34 (Value.int .i64 2))) fun x35 =>
 zb (za (zv 1 (zc vs_2 0) x35)) fun x36 =>
 zb (za (zj .mul (Value.int .i64 4) (zc vs_2 2))) fun x43 =>
 zb (za (zj .add x43 (Value.int .i64 3))) fun x44 =>
 zb (za (zv 1 (zc vs_2 0) x44)) fun x45 =>
 zb (z7 x19) fun x20 =>
 zb (za (cvi .u32 x20)) fun x21 =>
 zb (za (zj .shl x21 (Value.int .u64 24))) fun x22 =>
 zb (z7 x27) fun x28 =>
 zb (za (cvi .u32 x28)) fun x29 =>
 zb (za (zj .shl x29 (Value.int .u64 16))) fun x30 =>
 zb (za (zj .add x22 x30)) fun x31 =>
 zb (z7 x36) fun x37 =>
 zb (za (cvi .u32 x37)) fun x38 =>
 zb (za (zj .shl x38 (Value.int .u64 8))) fun x39 =>
 zb (za (zj .add x31 x39)) fun x40 =>
 zb (z7 x45) fun x46 =>
 zb (za (cvi .u32 x46)) fun x47 =>
 zb (za (zj .add x40 x47)) fun x48 =>
 zb (zd7 1 1 (rep 1 [Value.int .u32 0]) [(0, 1, x48)]) fun x49 =>
 zb (ze6 1 4 (zc vs_2 1) x49) fun x50 =>
 ret (.brk 1 [(zc vs_2 0), x50, (zc vs_2 2)])
 ) (
 ret (.nxt [(zc vs_2 0), (zc vs_2 1), (zc vs_2 2)])
 )
 ) fun o => nx o z7g
 ) fun o => ret (zw 1 o)
 ) fun o => nx o zyp
def zyq (vs : List V) : M Out :=
 zb (
 zb (za (zj .lss (zc vs 2) (Value.int .i64 64))) fun x10 =>
 zi x10 (
 ret (.nxt [(zc vs 0), (zc vs 1), (zc vs 2)])
 ) (
 ret (.brk 0 [(zc vs 1)])
 )
 ) fun o => nx o zof
def z7h (vs_5 : List V) : M Out :=
 ret (.ret [(zc vs_5 0)])
def zqc (x0 : V) : M V :=
 zb (
 zb (
 zb (
 zce zcc zyq [x0, (Value.slice none 0 0), (Value.int .i64 0)]
 ) fun o => ret (zw 0 o)
 ) fun o => nx o z7h
 ) fun o => zcf o fun vs => ret (zca [(zc vs 0)])
def z9k : Hint := (.seq [] .leaf (.seq [] .leaf (.seq [3] (.seq [] .leaf (.blk (.loop [0, 3, 4] (.seq [0, 3, 4] (.seq [] .leaf (.cond .leaf .leaf)) (.seq [0, 3, 4] (.blk (.seq [0, 3, 4] (.seq [] .leaf (.cond (.seq [] (.reg [0, 1, 2, 3, 4, 8, 9, 10, 11, 12, 17, 18, 19, 20, 21, 26, 27, 28, 29, 30, 5, 6, 7, 13, 14, 15, 16, 22, 23, 24, 25, 31, 32, 33, 34, 35, 36] []) .leaf) .leaf)) (.seq [] (.reg [0, 1, 2, 3, 5, 6, 7, 8, 4, 10, 9, 11] []) (.seq [] .leaf (.seq [] .leaf (.reg [0, 1, 2, 3, 4, 5, 8, 10, 11, 12, 13, 6, 7, 9, 14, 15, 16, 17, 18] [])))))) .leaf))))) (.seq [] .leaf .leaf))))
def zut (l : List V) : M V := match l with | [x0] => zqc x0 | _ => fail
def z9l : zp := ovr [(zsi, zch)] noC
theorem zbk0 (x0 : V) : zcs Tryz.prog (z9l) zvw z9k [x0] = zqc x0 := by kernel_rfl
theorem zbk1 : zy Tryz.prog zvw (zut) := zh (σ := z9l) (hint := z9k) (by kernel_rfl) (zd zbco ze) fun l H r H' h => by
 unfold zut at h; split at h
 · rw [zbk0]; exact h
 · exact (zf h).elim
def zj0 : M V :=
 zb (
 zb (zd7 1 64 (rep 64 [Value.int .u32 0]) [(0, 1, (Value.int .u32 1116352408)), (1, 1, (Value.int .u32 1899447441)), (2, 1, (Value.int .u32 3049323471)), (3, 1, (Value.int .u32 3921009573)), (4, 1, (Value.int .u32 961987163)), (5, 1, (Value.int .u32 1508970993)), (6, 1, (Value.int .u32 2453635748)), (7, 1, (Value.int .u32 2870763221)), (8, 1, (Value.int .u32 3624381080)), (9, 1, (Value.int .u32 310598401)), (10, 1, (Value.int .u32 607225278)), (11, 1, (Value.int .u32 1426881987)), (12, 1, (Value.int .u32 1925078388)), (13, 1, (Value.int .u32 2162078206)), (14, 1, (Value.int .u32 2614888103)), (15, 1, (Value.int .u32 3248222580)), (16, 1, (Value.int .u32 3835390401)), (17, 1, (Value.int .u32 4022224774)), (18, 1, (Value.int .u32 264347078)), (19, 1, (Value.int .u32 604807628)), (20, 1, (Value.int .u32 770255983)), (21, 1, (Value.int .u32 1249150122)), (22, 1, (Value.int .u32 1555081692)), (23, 1, (Value.int .u32 1996064986)), (24, 1, (Value.int .u32 2554220882)), (25, 1, (Value.int .u32 2821834349)), (26, 1, (Value.int .u32 2952996808)), (27, 1, (Value.int .u32 3210313671)), (28, 1, (Value.int .u32 3336571891)), (29, 1, (Value.int .u32 3584528711)), (30, 1, (Value.int .u32 113926993)), (31, 1, (Value.int .u32 338241895)), (32, 1, (Value.int .u32 666307205)), (33, 1, (Value.int .u32 773529912)), (34, 1, (Value.int .u32 1294757372)), (35, 1, (Value.int .u32 1396182291)), (36, 1, (Value.int .u32 1695183700)), (37, 1, (Value.int .u32 1986661051)), (38, 1, (Value.int .u32 2177026350)), (39, 1, (Value.int .u32 2456956037)), (40, 1, (Value.int .u32 2730485921)), (41, 1, (Value.int .u32 2820302411)), (42, 1, (Value.int .u32 3259730800)), (43, 1, (Value.int .u32 3345764771)), (44, 1, (Value.int .u32 3516065817)), (45, 1, (Value.int .u32 3600352804)), (46, 1, (Value.int .u32 4094571909)), (47, 1, (Value.int .u32 275423344)), (48, 1, (Value.int .u32 430227734)), (49, 1, (Value.int .u32 506948616)), (50, 1, (Value.int .u32 659060556)), (51, 1, (Value.int .u32 883997877)), (52, 1, (Value.int .u32 958139571)), (53, 1, (Value.int .u32 1322822218)), (54, 1, (Value.int .u32 1537002063)), (55, 1, (Value.int .u32 1747873779)), (56, 1, (Value.int .u32 1955562222)), (57, 1, (Value.int .u32 2024104815)), (58, 1, (Value.int .u32 2227730452)), (59, 1, (Value.int .u32 2361852424)), (60, 1, (Value.int .u32 2428436474)), (61, 1, (Value.int .u32 2756734187)), (62, 1, (Value.int .u32 3204031479)), (63, 1, (Value.int .u32 3329325298))]) fun x1 =>
 ret (.ret [x1])
 ) fun o => zcf o fun vs => ret (zca [(zc vs 0)])
def z0d : Hint := (.seq [] .leaf (.seq [] .leaf .leaf))
def znc (l : List V) : M V := match l with | [] => zj0  | _ => fail
theorem zbcp : zcs Tryz.prog (ovr [] noC) zps z0d [] = zj0  := by kernel_rfl
theorem zbcq : zy Tryz.prog zps (znc) := zh (σ := ovr [] noC) (hint := z0d) (by kernel_rfl) ze fun l H r H' h => by
 unfold znc at h; split at h
 · rw [zbcp]; exact h
 · exact (zf h).elim
def z9m (vs_3 : List V) : M Out :=
 zb (za (zj .add (zc vs_3 11) (Value.int .i64 1))) fun x48 =>
 ret (.nxt [(zc vs_3 0), (zc vs_3 1), (zc vs_3 2), (zc vs_3 3), (zc vs_3 4), (zc vs_3 5), (zc vs_3 6), (zc vs_3 7), (zc vs_3 8), (zc vs_3 9), (zc vs_3 10), x48])
def z1w (vs_2 : List V) : M Out :=
 zb (
 zb (
 zxv fun h0 =>
 zb (za (zj .and (zc vs_2 7) (zc vs_2 8))) fun x61 =>
 zb (za (un .xor (zc vs_2 7))) fun x63 =>
 zb (za (zj .and x63 (zc vs_2 9))) fun x65 =>
 zb (za (zj .xor x61 x65)) fun x66 =>
 zb (za (zv 1 (zc vs_2 2) (zc vs_2 11))) fun x70 =>
 zb (za (zv 1 (zc vs_2 1) (zc vs_2 11))) fun x75 =>
 zb (z7 x70) fun x71 =>
 zb (z7 x75) fun x76 =>
 zfq (zch [(zc vs_2 7), (Value.int .i64 6)]) fun ha x51 h1 =>
 zfq (zch [(zc vs_2 7), (Value.int .i64 11)]) fun ha_2 x53 h2 =>
 zb (za (zj .xor x51 x53)) fun x54 =>
 zfq (zch [(zc vs_2 7), (Value.int .i64 25)]) fun ha_3 x56 h3 =>
 zb (za (zj .xor x54 x56)) fun x57 =>
 zb (za (zj .add (zc vs_2 10) x57)) fun x58 =>
 zb (za (zj .add x58 x66)) fun x67 =>
 zb (za (zj .add x67 x71)) fun x72 =>
 zb (za (zj .add x72 x76)) fun x77 =>
 zdc (chk (z7 x70) h1 x71) <|
 zdc (chk (z7 x70) h2 x71) <|
 zdc (chk (z7 x70) h3 x71) <|
 zdc (chk (z7 x75) h1 x76) <|
 zdc (chk (z7 x75) h2 x76) <|
 zdc (chk (z7 x75) h3 x76) <|
 zb (zch [(zc vs_2 3), (Value.int .i64 2)]) fun x79 =>
 zb (zch [(zc vs_2 3), (Value.int .i64 13)]) fun x81 =>
 zb (za (zj .xor x79 x81)) fun x82 =>
 zb (zch [(zc vs_2 3), (Value.int .i64 22)]) fun x84 =>
 zb (za (zj .xor x82 x84)) fun x85 =>
 zb (za (zj .and (zc vs_2 3) (zc vs_2 4))) fun x88 =>
 zb (za (zj .and (zc vs_2 3) (zc vs_2 5))) fun x91 =>
 zb (za (zj .xor x88 x91)) fun x92 =>
 zb (za (zj .and (zc vs_2 4) (zc vs_2 5))) fun x95 =>
 zb (za (zj .xor x92 x95)) fun x96 =>
 zb (za (zj .add x85 x96)) fun x97 =>
 zb (za (zj .add (zc vs_2 6) x77)) fun x103 =>
 zb (za (zj .add x77 x97)) fun x109 =>
 ret (.nxt [(zc vs_2 0), (zc vs_2 1), (zc vs_2 2), x109, (zc vs_2 3), (zc vs_2 4), (zc vs_2 5), x103, (zc vs_2 7), (zc vs_2 8), (zc vs_2 9), (zc vs_2 11)])
 ) fun o => ret (zw 1 o)
 ) fun o => nx o z9m
def z1x (vs : List V) : M Out :=
 zb (
 zb (za (zj .lss (zc vs 11) (Value.int .i64 64))) fun x46 =>
 zi x46 (
 ret (.nxt [(zc vs 0), (zc vs 1), (zc vs 2), (zc vs 3), (zc vs 4), (zc vs 5), (zc vs 6), (zc vs 7), (zc vs 8), (zc vs 9), (zc vs 10), (zc vs 11)])
 ) (
 ret (.brk 0 [(zc vs 0), (zc vs 3), (zc vs 4), (zc vs 5), (zc vs 6), (zc vs 7), (zc vs 8), (zc vs 9), (zc vs 10)])
 )
 ) fun o => nx o z1w
def z9n (vs_4 : List V) : M Out :=
 zb (za (zv 1 (zc vs_4 0) (Value.int .i64 0))) fun x111 =>
 zb (za (zv 1 (zc vs_4 0) (Value.int .i64 1))) fun x116 =>
 zb (za (zv 1 (zc vs_4 0) (Value.int .i64 2))) fun x121 =>
 zb (za (zv 1 (zc vs_4 0) (Value.int .i64 3))) fun x126 =>
 zb (za (zv 1 (zc vs_4 0) (Value.int .i64 4))) fun x131 =>
 zb (za (zv 1 (zc vs_4 0) (Value.int .i64 5))) fun x136 =>
 zb (za (zv 1 (zc vs_4 0) (Value.int .i64 6))) fun x141 =>
 zb (za (zv 1 (zc vs_4 0) (Value.int .i64 7))) fun x146 =>
 zb (z7 x111) fun x112 =>
 zb (za (zj .add x112 (zc vs_4 1))) fun x114 =>
 zb (z7 x116) fun x117 =>
 zb (za (zj .add x117 (zc vs_4 2))) fun x119 =>
 zb (z7 x121) fun x122 =>
 zb (za (zj .add x122 (zc vs_4 3))) fun x124 =>
 zb (z7 x126) fun x127 =>
 zb (za (zj .add x127 (zc vs_4 4))) fun x129 =>
 zb (z7 x131) fun x132 =>
 zb (za (zj .add x132 (zc vs_4 5))) fun x134 =>
 zb (z7 x136) fun x137 =>
 zb (za (zj .add x137 (zc vs_4 6))) fun x139 =>
 zb (z7 x141) fun x142 =>
 zb (za (zj .add x142 (zc vs_4 7))) fun x144 =>
 zb (z7 x146) fun x147 =>
 zb (za (zj .add x147 (zc vs_4 8))) fun x149 =>
 zb (zd7 1 8 (rep 8 [Value.int .u32 0]) [(0, 1, x114), (1, 1, x119), (2, 1, x124), (3, 1, x129), (4, 1, x134), (5, 1, x139), (6, 1, x144), (7, 1, x149)]) fun x150 =>
 ret (.ret [x150])
def zsv (x0 x1 : V) : M V :=
 zb (
 zb (zut [x1]) fun x19 =>
 zb (znc []) fun x20 =>
 zb (za (zv 1 x0 (Value.int .i64 0))) fun x22 =>
 zb (za (zv 1 x0 (Value.int .i64 1))) fun x25 =>
 zb (za (zv 1 x0 (Value.int .i64 2))) fun x28 =>
 zb (za (zv 1 x0 (Value.int .i64 3))) fun x31 =>
 zb (z7 x22) fun x23 =>
 zb (z7 x25) fun x26 =>
 zb (z7 x28) fun x29 =>
 zb (z7 x31) fun x32 =>
 zb (za (zv 1 x0 (Value.int .i64 4))) fun x34 =>
 zb (za (zv 1 x0 (Value.int .i64 5))) fun x37 =>
 zb (za (zv 1 x0 (Value.int .i64 6))) fun x40 =>
 zb (za (zv 1 x0 (Value.int .i64 7))) fun x43 =>
 zb (z7 x34) fun x35 =>
 zb (z7 x37) fun x38 =>
 zb (z7 x40) fun x41 =>
 zb (z7 x43) fun x44 =>
 zb (
 zb (
 zce zcc z1x [x0, x19, x20, x23, x26, x29, x32, x35, x38, x41, x44, (Value.int .i64 0)]
 ) fun o => ret (zw 0 o)
 ) fun o => nx o z9n
 ) fun o => zcf o fun vs => ret (zca [(zc vs 0)])
def zbcr : Hint := (.seq [] .leaf (.seq [] .leaf (.seq [] (.reg [0, 1, 3, 4, 6, 7, 9, 10, 2, 12, 5, 13, 8, 14, 11, 15] []) (.seq [] (.reg [0, 1, 3, 4, 6, 7, 9, 10, 2, 12, 5, 13, 8, 14, 11, 15] []) (.seq [0, 7, 8, 9, 10, 11, 12, 13, 14] (.seq [] .leaf (.blk (.loop [0, 5, 6, 7, 8, 9, 10, 11, 12, 13, 14, 15] (.seq [0, 5, 6, 7, 8, 9, 10, 11, 12, 13, 14, 15] (.seq [] .leaf (.cond .leaf .leaf)) (.seq [0, 5, 6, 7, 8, 9, 10, 11, 12, 13, 14, 15] (.blk (.seq [] (.reg [0, 1, 3, 6, 10, 11, 12, 13, 14, 15, 16, 17, 19, 20, 21, 24, 25, 26, 22, 27, 2, 4, 5, 7, 8, 9, 18, 23, 28, 29] []) (.seq [] .leaf (.seq [] .leaf (.seq [] .leaf (.seq [] .leaf (.seq [] .leaf (.seq [] .leaf (.seq [] .leaf (.seq [] .leaf .leaf)))))))))) .leaf))))) (.seq [] (.reg [0, 1, 3, 5, 6, 8, 10, 11, 13, 15, 16, 18, 20, 21, 23, 25, 26, 28, 30, 31, 33, 35, 36, 38, 2, 4, 7, 9, 12, 14, 17, 19, 22, 24, 27, 29, 32, 34, 37, 39, 40, 41] []) .leaf))))))
def zw4 (l : List V) : M V := match l with | [x0, x1] => zsv x0 x1 | _ => fail
def zbcs : zp := ovr [(zvw, zut), (zps, znc), (zsi, zch)] noC
theorem zbnr (x0 x1 : V) : zcs Tryz.prog (zbcs) zx6 zbcr [x0, x1] = zsv x0 x1 := by kernel_rfl
theorem zbns : zy Tryz.prog zx6 (zw4) := zh (σ := zbcs) (hint := zbcr) (by kernel_rfl) (zd zbk1 (zd zbcq (zd zbco ze))) fun l H r H' h => by
 unfold zw4 at h; split at h
 · rw [zbnr]; exact h
 · exact (zf h).elim
def zbct (vs_3 : List V) : M Out :=
 zb (za (zj .add (zc vs_3 2) (Value.int .i64 64))) fun x16 =>
 ret (.nxt [(zc vs_3 0), (zc vs_3 1), x16])
def zbcu (vs_2 : List V) : M Out :=
 zb (
 zb (
 zb (za (zj .add (zc vs_2 2) (Value.int .i64 64))) fun x21 =>
 zb (za (zh7 1 (zc vs_2 1) (some (zc vs_2 2)) (some x21))) fun x22 =>
 zb (zw4 [(zc vs_2 0), x22]) fun x23 =>
 ret (.nxt [x23, (zc vs_2 1), (zc vs_2 2)])
 ) fun o => ret (zw 1 o)
 ) fun o => nx o zbct
def zw5 (vs : List V) : M Out :=
 zb (
 zb (za (zb9 (zc vs 1))) fun x13 =>
 zb (za (zj .lss (zc vs 2) x13)) fun x14 =>
 zi x14 (
 ret (.nxt [(zc vs 0), (zc vs 1), (zc vs 2)])
 ) (
 ret (.brk 0 [(zc vs 0)])
 )
 ) fun o => nx o zbcu
def zbcv (vs_7 : List V) : M Out :=
 zb (za (zj .add (zc vs_7 2) (Value.int .i64 1))) fun x27 =>
 ret (.nxt [(zc vs_7 0), (zc vs_7 1), x27])
def zbcw (vs_6 : List V) : M Out :=
 zb (
 zb (
 zb (za (zv 1 (zc vs_6 0) (zc vs_6 2))) fun x31 =>
 zb (za (zv 1 (zc vs_6 0) (zc vs_6 2))) fun x37 =>
 zb (za (zv 1 (zc vs_6 0) (zc vs_6 2))) fun x43 =>
 zb (za (zv 1 (zc vs_6 0) (zc vs_6 2))) fun x49 =>
 zb (z7 x31) fun x32 =>
 zb (za (zj .shr x32 (Value.int .u64 24))) fun x33 =>
 zb (za (cvi .u8 x33)) fun x34 =>
 zb (z7 x37) fun x38 =>
 zb (za (zj .shr x38 (Value.int .u64 16))) fun x39 =>
 zb (za (cvi .u8 x39)) fun x40 =>
 zb (z7 x43) fun x44 =>
 zb (za (zj .shr x44 (Value.int .u64 8))) fun x45 =>
 zb (za (cvi .u8 x45)) fun x46 =>
 zb (z7 x49) fun x50 =>
 zb (za (cvi .u8 x50)) fun x51 =>
 zb (zd7 1 4 (rep 4 [Value.int .u8 0]) [(0, 1, x34), (1, 1, x40), (2, 1, x46), (3, 1, x51)]) fun x52 =>
 zb (ze6 1 1 (zc vs_6 1) x52) fun x53 =>
 ret (.nxt [(zc vs_6 0), x53, (zc vs_6 2)])
 ) fun o => ret (zw 3 o)
 ) fun o => nx o zbcv
def zw6 (vs_5 : List V) : M Out :=
 zb (
 zb (za (zj .lss (zc vs_5 2) (Value.int .i64 8))) fun x25 =>
 zi x25 (
 ret (.nxt [(zc vs_5 0), (zc vs_5 1), (zc vs_5 2)])
 ) (
 ret (.brk 2 [(zc vs_5 1)])
 )
 ) fun o => nx o zbcw
def zbcx (vs_8 : List V) : M Out :=
 zb (b2s (zc vs_8 0)) fun x55 =>
 ret (.ret [x55])
def zbcy (vs_4 : List V) : M Out :=
 zb (
 zb (
 zce zcc zw6 [(zc vs_4 0), (Value.slice none 0 0), (Value.int .i64 0)]
 ) fun o => ret (zw 2 o)
 ) fun o => nx o zbcx
def z0e (x0 : V) : M V :=
 zb (
 zb (zd7 1 8 (rep 8 [Value.int .u32 0]) [(0, 1, (Value.int .u32 1779033703)), (1, 1, (Value.int .u32 3144134277)), (2, 1, (Value.int .u32 1013904242)), (3, 1, (Value.int .u32 2773480762)), (4, 1, (Value.int .u32 1359893119)), (5, 1, (Value.int .u32 2600822924)), (6, 1, (Value.int .u32 528734635)), (7, 1, (Value.int .u32 1541459225))]) fun x8 =>
 zb (zsu [x0]) fun x10 =>
 zb (
 zb (
 zce zcc zw5 [x8, x10, (Value.int .i64 0)]
 ) fun o => ret (zw 0 o)
 ) fun o => nx o zbcy
 ) fun o => zcf o fun vs => ret (zca [(zc vs 0)])
def zbfw : Hint := (.seq [] .leaf (.seq [] .leaf (.seq [] .leaf (.seq [3] (.seq [] .leaf (.blk (.loop [3, 4, 5] (.seq [3, 4, 5] (.seq [] .leaf (.cond .leaf .leaf)) (.seq [3, 4, 5] (.blk .leaf) .leaf))))) (.seq [] .leaf (.seq [6] (.seq [] .leaf (.blk (.loop [3, 6, 7] (.seq [3, 6, 7] (.seq [] .leaf (.cond .leaf .leaf)) (.seq [3, 6, 7] (.blk (.reg [0, 1, 2, 3, 7, 8, 9, 13, 14, 15, 19, 20, 21, 4, 5, 6, 10, 11, 12, 16, 17, 18, 22, 23, 24, 25, 26] [])) .leaf))))) (.seq [] .leaf .leaf)))))))
def zls (l : List V) : M V := match l with | [x0] => z0e x0 | _ => fail
def zbfx : zp := ovr [(zt9, zsu), (zx6, zw4)] noC
theorem zbqa (x0 : V) : zcs Tryz.prog (zbfx) zum zbfw [x0] = z0e x0 := by kernel_rfl
theorem zbfy : zy Tryz.prog zum (zls) := zh (σ := zbfx) (hint := zbfw) (by kernel_rfl) (zd zbi4 (zd zbns ze)) fun l H r H' h => by
 unfold zls at h; split at h
 · rw [zbqa]; exact h
 · exact (zf h).elim
def z45 (vs_3 : List V) : M Out :=
 zb (
 zb (zd7 1 1 (rep 1 [Value.int .u8 0]) [(0, 1, (Value.int .u8 0))]) fun x15 =>
 zb (ze6 1 1 (zc vs_3 0) x15) fun x16 =>
 ret (.nxt [x16])
 ) fun o => ret (zw 1 o)
def zvz (vs_2 : List V) : M Out :=
 zb (
 zb (za (zb9 (zc vs_2 0))) fun x12 =>
 zb (za (zj .lss x12 (Value.int .i64 64))) fun x13 =>
 zi x13 (
 ret (.nxt [(zc vs_2 0)])
 ) (
 ret (.brk 0 [(zc vs_2 0)])
 )
 ) fun o => nx o z45
def z46 (vs_4 : List V) : M Out :=
 ret (.ret [(zc vs_4 0)])
def zv0 (vs : List V) : M Out :=
 zb (s2b (zc vs 0)) fun x10 =>
 zb (
 zb (
 zce zcc zvz [x10]
 ) fun o => ret (zw 0 o)
 ) fun o => nx o z46
def zog (x0 : V) : M V :=
 zb (
 zb (
 zb (za (zct x0)) fun x5 =>
 zb (za (zj .gtr x5 (Value.int .i64 64))) fun x6 =>
 zi x6 (
 zb (zls [x0]) fun x8 =>
 ret (.nxt [x8])
 ) (
 ret (.nxt [x0])
 )
 ) fun o => nx o zv0
 ) fun o => zcf o fun vs => ret (zca [(zc vs 0)])
def z7i : Hint := (.seq [] .leaf (.seq [0] (.seq [] .leaf (.cond .leaf .leaf)) (.seq [] .leaf (.seq [3] (.blk (.loop [3] (.seq [3] (.seq [] .leaf (.cond .leaf .leaf)) (.blk .leaf)))) (.seq [] .leaf .leaf)))))
def zoh (l : List V) : M V := match l with | [x0] => zog x0 | _ => fail
def z7j : zp := ovr [(zum, zls)] noC
theorem zbi5 (x0 : V) : zcs Tryz.prog (z7j) zt6 z7i [x0] = zog x0 := by kernel_rfl
theorem zbi6 : zy Tryz.prog zt6 (zoh) := zh (σ := z7j) (hint := z7i) (by kernel_rfl) (zd zbfy ze) fun l H r H' h => by
 unfold zoh at h; split at h
 · rw [zbi5]; exact h
 · exact (zf h).elim
def z9o (vs_3 : List V) : M Out :=
 zb (za (zj .add (zc vs_3 3) (Value.int .i64 1))) fun x12 =>
 ret (.nxt [(zc vs_3 0), (zc vs_3 1), (zc vs_3 2), x12])
def z9p (vs_2 : List V) : M Out :=
 zb (
 zb (
 zb (za (zv 1 (zc vs_2 0) (zc vs_2 3))) fun x16 =>
 zb (z7 x16) fun x17 =>
 zb (za (zj .xor x17 (zc vs_2 1))) fun x19 =>
 zb (zd7 1 1 (rep 1 [Value.int .u8 0]) [(0, 1, x19)]) fun x20 =>
 zb (ze6 1 1 (zc vs_2 2) x20) fun x21 =>
 ret (.nxt [(zc vs_2 0), (zc vs_2 1), x21, (zc vs_2 3)])
 ) fun o => ret (zw 1 o)
 ) fun o => nx o z9o
def z1y (vs : List V) : M Out :=
 zb (
 zb (za (zb9 (zc vs 0))) fun x9 =>
 zb (za (zj .lss (zc vs 3) x9)) fun x10 =>
 zi x10 (
 ret (.nxt [(zc vs 0), (zc vs 1), (zc vs 2), (zc vs 3)])
 ) (
 ret (.brk 0 [(zc vs 2)])
 )
 ) fun o => nx o z9p
def z9q (vs_4 : List V) : M Out :=
 zb (b2s (zc vs_4 0)) fun x23 =>
 ret (.ret [x23])
def zw7 (x0 x1 : V) : M V :=
 zb (
 zb (
 zb (
 zce zcc z1y [x0, x1, (Value.slice none 0 0), (Value.int .i64 0)]
 ) fun o => ret (zw 0 o)
 ) fun o => nx o z9q
 ) fun o => zcf o fun vs => ret (zca [(zc vs 0)])
def zbcz : Hint := (.seq [] .leaf (.seq [] .leaf (.seq [5] (.seq [] .leaf (.blk (.loop [0, 1, 5, 6] (.seq [0, 1, 5, 6] (.seq [] .leaf (.cond .leaf .leaf)) (.seq [0, 1, 5, 6] (.blk .leaf) .leaf))))) (.seq [] .leaf .leaf))))
def zo8 (l : List V) : M V := match l with | [x0, x1] => zw7 x0 x1 | _ => fail
theorem zbnt (x0 x1 : V) : zcs Tryz.prog (ovr [] noC) zx2 zbcz [x0, x1] = zw7 x0 x1 := by kernel_rfl
theorem zbnu : zy Tryz.prog zx2 (zo8) := zh (σ := ovr [] noC) (hint := zbcz) (by kernel_rfl) ze fun l H r H' h => by
 unfold zo8 at h; split at h
 · rw [zbnt]; exact h
 · exact (zf h).elim
def z0f (x0 x1 : V) : M V :=
 zb (
 zb (zoh [x0]) fun x7 =>
 zb (zo8 [x7, (Value.int .u8 92)]) fun x9 =>
 zb (zo8 [x7, (Value.int .u8 54)]) fun x11 =>
 zb (za (zj .add x11 x1)) fun x13 =>
 zb (zls [x13]) fun x14 =>
 zb (za (zj .add x9 x14)) fun x15 =>
 zb (zls [x15]) fun x16 =>
 ret (.ret [x16])
 ) fun o => zcf o fun vs => ret (zca [(zc vs 0)])
def zbfz : Hint := (.seq [] .leaf (.seq [] .leaf (.seq [] .leaf .leaf)))
def ziq (l : List V) : M V := match l with | [x0, x1] => z0f x0 x1 | _ => fail
def zbf0 : zp := ovr [(zt6, zoh), (zx2, zo8), (zum, zls)] noC
theorem zbqb (x0 x1 : V) : zcs Tryz.prog (zbf0) zp2 zbfz [x0, x1] = z0f x0 x1 := by kernel_rfl
theorem z7k : zy Tryz.prog zp2 (ziq) := zh (σ := zbf0) (hint := zbfz) (by kernel_rfl) (zd zbi6 (zd zbnu (zd zbfy ze))) fun l H r H' h => by
 unfold ziq at h; split at h
 · rw [zbqb]; exact h
 · exact (zf h).elim
def zuu (x0 x1 x2 : V) : M V :=
 zb (
 zb (za (zj .add (Value.string ⟨#[108, 111, 103, 105, 110]⟩) x1)) fun x10 =>
 zb (zmz [x2]) fun x12 =>
 zb (za (zj .add x10 x12)) fun x13 =>
 zb (ziq [x0, x13]) fun x14 =>
 zb (za (zj .add (Value.string ⟨#[115, 101, 115, 115, 105, 111, 110]⟩) x1)) fun x17 =>
 zb (zmz [x2]) fun x19 =>
 zb (za (zj .add x17 x19)) fun x20 =>
 zb (ziq [x0, x20]) fun x21 =>
 ret (.ret [x14, x21])
 ) fun o => zcf o fun vs => ret (zca [(zc vs 0), (zc vs 1)])
def z9r : Hint := (.seq [] .leaf (.seq [] .leaf .leaf))
def zkk (l : List V) : M V := match l with | [x0, x1, x2] => zuu x0 x1 x2 | _ => fail
def z9s : zp := ovr [(zvq, zmz), (zp2, ziq)] noC
theorem zbk2 (x0 x1 x2 : V) : zcs Tryz.prog (z9s) zql z9r [x0, x1, x2] = zuu x0 x1 x2 := by kernel_rfl
theorem z9t : zy Tryz.prog zql (zkk) := zh (σ := z9s) (hint := z9r) (by kernel_rfl) (zd zbkz (zd z7k ze)) fun l H r H' h => by
 unfold zkk at h; split at h
 · rw [zbk2]; exact h
 · exact (zf h).elim
def zoi (x0 : V) : M V :=
 zb (
 zb (zlw x0) fun x1 =>
 zb (za (zg 0 x1)) fun x3 =>
 zb (z7 x3) fun x4 =>
 zb (gd x4 true (za (zg 1 x1))) fun x6 =>
 zb (gd x4 true (z7 x6)) fun x7 =>
 zb (gd x4 true (za (zj .eql x7 (Value.int .i64 0)))) fun x8 =>
 zb (za (zcq x4 x8 (Value.bool false))) fun x9 =>
 zb (gd x9 true (za (zg 2 x1))) fun x11 =>
 zb (gd x9 true (z7 x11)) fun x12 =>
 zb (gd x9 true (za (zct x12))) fun x13 =>
 zb (gd x9 true (za (zj .leq x13 (Value.int .i64 65535)))) fun x14 =>
 zb (za (zcq x9 x14 (Value.bool false))) fun x15 =>
 zb (gd x15 false (za (zg 0 x1))) fun x17 =>
 zb (gd x15 false (z7 x17)) fun x18 =>
 zb (gd x15 false (za (un .not x18))) fun x19 =>
 zb (gd x15 false (za (some x19))) fun x20 =>
 zb (gd x20 true (za (zg 2 x1))) fun x21 =>
 zb (gd x20 true (z7 x21)) fun x22 =>
 zb (gd x20 true (za (zj .eql x22 (Value.string ⟨#[]⟩)))) fun x23 =>
 zb (gd x15 false (za (zcq x20 x23 (Value.bool false)))) fun x24 =>
 zb (za (zcq x15 (Value.bool true) x24)) fun x25 =>
 ret (.ret [x25])
 ) fun o => zcf o fun vs => ret (zca [(zc vs 0)])
def zbf1 : Hint := (.seq [] .leaf (.seq [] .leaf .leaf))
def zu9 (l : List V) : M V := match l with | [x0] => zoi x0 | _ => fail
theorem zbqc (x0 : V) : zcs Tryz.prog (ovr [] noC) z1j zbf1 [x0] = zoi x0 := by kernel_rfl
theorem zbqd : zy Tryz.prog z1j (zu9) := zh (σ := ovr [] noC) (hint := zbf1) (by kernel_rfl) ze fun l H r H' h => by
 unfold zu9 at h; split at h
 · rw [zbqc]; exact h
 · exact (zf h).elim
def zbc0 (vs_4 : List V) : M Out :=
 zb (za (zj .sub (zc vs_4 2) (Value.int .i64 1))) fun x26 =>
 ret (.nxt [(zc vs_4 0), (zc vs_4 1), x26])
def zbc1 (vs_3 : List V) : M Out :=
 zb (
 zb (
 zb (za (zg 1 (zc vs_3 0))) fun x28 =>
 zb (z7 x28) fun x29 =>
 zb (za (cvi .u64 x29)) fun x30 =>
 zb (za (zj .mul (Value.int .i64 8) (zc vs_3 2))) fun x32 =>
 zb (za (zj .shr x30 x32)) fun x33 =>
 zb (za (cvi .u8 x33)) fun x34 =>
 zb (zd7 1 1 (rep 1 [Value.int .u8 0]) [(0, 1, x34)]) fun x35 =>
 zb (ze6 1 1 (zc vs_3 1) x35) fun x36 =>
 ret (.nxt [(zc vs_3 0), x36, (zc vs_3 2)])
 ) fun o => ret (zw 1 o)
 ) fun o => nx o zbc0
def z4g (vs_2 : List V) : M Out :=
 zb (
 zb (za (zj .geq (zc vs_2 2) (Value.int .i64 0))) fun x24 =>
 zi x24 (
 ret (.nxt [(zc vs_2 0), (zc vs_2 1), (zc vs_2 2)])
 ) (
 ret (.brk 0 [(zc vs_2 1)])
 )
 ) fun o => nx o zbc1
def zbc2 (vs_5 : List V) : M Out :=
 zb (b2s (zc vs_5 0)) fun x38 =>
 ret (.ret [x38])
def zbc3 (vs : List V) : M Out :=
 zb (zd7 1 1 (rep 1 [Value.int .u8 0]) [(0, 1, (Value.int .u8 35))]) fun x22 =>
 zb (
 zb (
 zce zcc z4g [(zc vs 0), x22, (Value.int .i64 7)]
 ) fun o => ret (zw 0 o)
 ) fun o => nx o zbc2
def zva (x0 : V) : M V :=
 zb (
 zb (zlw x0) fun x1 =>
 zb (
 zb (za (zg 0 x1)) fun x5 =>
 zb (z7 x5) fun x6 =>
 zi x6 (
 zb (za (zg 2 x1)) fun x7 =>
 zb (z7 x7) fun x8 =>
 zb (za (zct x8)) fun x9 =>
 zb (za (zj .quo x9 (Value.int .i64 256))) fun x10 =>
 zb (za (cvi .u8 x10)) fun x11 =>
 zb (za (zg 2 x1)) fun x12 =>
 zb (z7 x12) fun x13 =>
 zb (za (zct x13)) fun x14 =>
 zb (za (zj .rem x14 (Value.int .i64 256))) fun x15 =>
 zb (za (cvi .u8 x15)) fun x16 =>
 zb (zd7 1 3 (rep 3 [Value.int .u8 0]) [(0, 1, (Value.int .u8 36)), (1, 1, x11), (2, 1, x16)]) fun x17 =>
 zb (b2s x17) fun x18 =>
 zb (za (zg 2 x1)) fun x19 =>
 zb (z7 x19) fun x20 =>
 zb (za (zj .add x18 x20)) fun x21 =>
 ret (.ret [x21])
 ) (
 ret (.nxt [x1])
 )
 ) fun o => nx o zbc3
 ) fun o => zcf o fun vs => ret (zca [(zc vs 0)])
def zbf2 : Hint := (.seq [] .leaf (.seq [1] (.seq [] .leaf (.cond (.seq [] .leaf .leaf) .leaf)) (.seq [] .leaf (.seq [3] (.seq [] .leaf (.blk (.loop [1, 3, 4] (.seq [1, 3, 4] (.seq [] .leaf (.cond .leaf .leaf)) (.seq [1, 3, 4] (.blk .leaf) .leaf))))) (.seq [] .leaf .leaf)))))
def zvb (l : List V) : M V := match l with | [x0] => zva x0 | _ => fail
theorem zbqe (x0 : V) : zcs Tryz.prog (ovr [] noC) z1k zbf2 [x0] = zva x0 := by kernel_rfl
theorem zbqf : zy Tryz.prog z1k (zvb) := zh (σ := ovr [] noC) (hint := zbf2) (by kernel_rfl) ze fun l H r H' h => by
 unfold zvb at h; split at h
 · rw [zbqe]; exact h
 · exact (zf h).elim
def z7l (vs_3 : List V) : M Out :=
 zb (za (zj .add (zc vs_3 2) (Value.int .i64 1))) fun x24 =>
 ret (.nxt [(zc vs_3 0), (zc vs_3 1), x24])
def z7m (vs_2 : List V) : M Out :=
 zb (
 zb (
 zb (za (zv 3 (zc vs_2 0) (zc vs_2 2))) fun x28 =>
 zb (ldn 3 x28) fun x29 =>
 zb (zvb [x29]) fun x30 =>
 zb (appS (zc vs_2 1) x30) fun x31 =>
 ret (.nxt [(zc vs_2 0), x31, (zc vs_2 2)])
 ) fun o => ret (zw 1 o)
 ) fun o => nx o z7l
def zoj (vs : List V) : M Out :=
 zb (
 zb (za (zb9 (zc vs 0))) fun x16 =>
 zb (za (zj .lss (zc vs 2) x16)) fun x17 =>
 zb (gd x17 true (za (some (zc vs 1)))) fun x19 =>
 zb (gd x17 true (za (zb9 x19))) fun x20 =>
 zb (gd x17 true (za (zj .leq x20 (Value.int .i64 65536)))) fun x21 =>
 zb (za (zcq x17 x21 (Value.bool false))) fun x22 =>
 zi x22 (
 ret (.nxt [(zc vs 0), (zc vs 1), (zc vs 2)])
 ) (
 ret (.brk 0 [(zc vs 1)])
 )
 ) fun o => nx o z7m
def zsw (vs_4 : List V) : M Out :=
 zb (b2s (zc vs_4 0)) fun x33 =>
 ret (.ret [x33])
def zuv (x0 : V) : M V :=
 zb (
 zb (za (zb9 x0)) fun x6 =>
 zb (za (zj .quo x6 (Value.int .i64 256))) fun x7 =>
 zb (za (cvi .u8 x7)) fun x8 =>
 zb (za (zb9 x0)) fun x10 =>
 zb (za (zj .rem x10 (Value.int .i64 256))) fun x11 =>
 zb (za (cvi .u8 x11)) fun x12 =>
 zb (zd7 1 2 (rep 2 [Value.int .u8 0]) [(0, 1, x8), (1, 1, x12)]) fun x13 =>
 zb (
 zb (
 zce zcc zoj [x0, x13, (Value.int .i64 0)]
 ) fun o => ret (zw 0 o)
 ) fun o => nx o zsw
 ) fun o => zcf o fun vs => ret (zca [(zc vs 0)])
def z9u : Hint := (.seq [] .leaf (.seq [] .leaf (.seq [3] (.seq [] .leaf (.blk (.loop [0, 3, 4] (.seq [0, 3, 4] (.seq [] .leaf (.cond .leaf .leaf)) (.seq [0, 3, 4] (.blk .leaf) .leaf))))) (.seq [] .leaf .leaf))))
def zqd (l : List V) : M V := match l with | [x0] => zuv x0 | _ => fail
def z9v : zp := ovr [(z1k, zvb)] noC
theorem zbk3 (x0 : V) : zcs Tryz.prog (z9v) zvu z9u [x0] = zuv x0 := by kernel_rfl
theorem zbk4 : zy Tryz.prog zvu (zqd) := zh (σ := z9v) (hint := z9u) (by kernel_rfl) (zd zbqf ze) fun l H r H' h => by
 unfold zqd at h; split at h
 · rw [zbk3]; exact h
 · exact (zf h).elim
def z47 (vs_4 : List V) : M Out :=
 zb (za (zj .add (zc vs_4 1) (Value.int .i64 1))) fun x14 =>
 ret (.nxt [(zc vs_4 0), x14])
def z48 (vs_3 : List V) : M Out :=
 zb (
 zb (
 zb (za (zv 3 (zc vs_3 0) (zc vs_3 1))) fun x17 =>
 zb (ldn 3 x17) fun x18 =>
 zb (zu9 [x18]) fun x19 =>
 zb (za (un .not x19)) fun x20 =>
 zi x20 (
 ret (.ret [(Value.string ⟨#[]⟩), (Value.int .i64 4)])
 ) (
 ret (.nxt [(zc vs_3 0), (zc vs_3 1)])
 )
 ) fun o => ret (zw 1 o)
 ) fun o => nx o z47
def zv1 (vs_2 : List V) : M Out :=
 zb (
 zb (za (zb9 (zc vs_2 0))) fun x11 =>
 zb (za (zj .lss (zc vs_2 1) x11)) fun x12 =>
 zi x12 (
 ret (.nxt [(zc vs_2 0), (zc vs_2 1)])
 ) (
 ret (.brk 0 [(zc vs_2 0)])
 )
 ) fun o => nx o z48
def z49 (vs_6 : List V) : M Out :=
 ret (.ret [(zc vs_6 0), (Value.int .i64 0)])
def z5a (vs_5 : List V) : M Out :=
 zb (zqd [(zc vs_5 0)]) fun x22 =>
 zb (
 zb (za (zct x22)) fun x24 =>
 zb (za (zj .gtr x24 (Value.int .i64 65536))) fun x25 =>
 zi x25 (
 ret (.ret [(Value.string ⟨#[]⟩), (Value.int .i64 2)])
 ) (
 ret (.nxt [x22])
 )
 ) fun o => nx o z49
def z5b (vs : List V) : M Out :=
 zb (
 zb (
 zce zcc zv1 [(zc vs 0), (Value.int .i64 0)]
 ) fun o => ret (zw 0 o)
 ) fun o => nx o z5a
def zsx (x0 : V) : M V :=
 zb (
 zb (
 zb (za (zb9 x0)) fun x7 =>
 zb (za (zj .gtr x7 (Value.int .i64 1000))) fun x8 =>
 zi x8 (
 ret (.ret [(Value.string ⟨#[]⟩), (Value.int .i64 2)])
 ) (
 ret (.nxt [x0])
 )
 ) fun o => nx o z5b
 ) fun o => zcf o fun vs => ret (zca [(zc vs 0), (zc vs 1)])
def z7n : Hint := (.seq [] .leaf (.seq [0] (.seq [] .leaf (.cond (.seq [] .leaf .leaf) .leaf)) (.seq [0] (.seq [] .leaf (.blk (.loop [0, 4] (.seq [0, 4] (.seq [] .leaf (.cond .leaf .leaf)) (.seq [0, 4] (.blk (.seq [] .leaf (.cond (.seq [] .leaf .leaf) .leaf))) .leaf))))) (.seq [] .leaf (.seq [5] (.seq [] .leaf (.cond (.seq [] .leaf .leaf) .leaf)) (.seq [] .leaf .leaf))))))
def zok (l : List V) : M V := match l with | [x0] => zsx x0 | _ => fail
def z7o : zp := ovr [(z1j, zu9), (zvu, zqd)] noC
theorem zbi7 (x0 : V) : zcs Tryz.prog (z7o) zt7 z7n [x0] = zsx x0 := by kernel_rfl
theorem zbi8 : zy Tryz.prog zt7 (zok) := zh (σ := z7o) (hint := z7n) (by kernel_rfl) (zd zbqd (zd zbk4 ze)) fun l H r H' h => by
 unfold zok at h; split at h
 · rw [zbi7]; exact h
 · exact (zf h).elim
def z9w (vs : List V) : M Out :=
 zb (ziq [(zc vs 0), (zc vs 1)]) fun x35 =>
 zb (za (zj .add (zc vs 1) x35)) fun x36 =>
 ret (.ret [x36, (Value.int .i64 0)])
def zw8 (x0 x1 x2 x3 x4 : V) : M V :=
 zb (
 zb (za (build [Value.bool false, Value.int .i64 0, Value.string ⟨#[]⟩] [(1, 1, x2)])) fun x16 =>
 zb (za (build [Value.bool false, Value.int .i64 0, Value.string ⟨#[]⟩] [(1, 1, x3)])) fun x18 =>
 zb (zd7 3 2 (rep 2 [Value.bool false, Value.int .i64 0, Value.string ⟨#[]⟩]) [(0, 3, x16), (3, 3, x18)]) fun x19 =>
 zb (ze6 3 32 x1 x19) fun x20 =>
 zb (ze6 3 32 x20 x4) fun x23 =>
 zb (zok [x23]) fun x26 =>
 zb (za (ext 0 x26)) fun x27 =>
 zb (za (ext 1 x26)) fun x28 =>
 zb (
 zb (za (zj .neq x28 (Value.int .i64 0))) fun x30 =>
 zi x30 (
 ret (.ret [(Value.string ⟨#[]⟩), x28])
 ) (
 ret (.nxt [x0, x27])
 )
 ) fun o => nx o z9w
 ) fun o => zcf o fun vs => ret (zca [(zc vs 0), (zc vs 1)])
def zbc4 : Hint := (.seq [] .leaf (.seq [] .leaf (.seq [] .leaf (.seq [] .leaf (.seq [0, 12] (.seq [] .leaf (.cond (.seq [] .leaf .leaf) .leaf)) (.seq [] .leaf .leaf))))))
def zl7 (l : List V) : M V := match l with | [x0, x1, x2, x3, x4] => zw8 x0 x1 x2 x3 x4 | _ => fail
def zbc5 : zp := ovr [(zt7, zok), (zp2, ziq)] noC
theorem zbnv (x0 x1 x2 x3 x4 : V) : zcs Tryz.prog (zbc5) zsd zbc4 [x0, x1, x2, x3, x4] = zw8 x0 x1 x2 x3 x4 := by kernel_rfl
theorem zbc6 : zy Tryz.prog zsd (zl7) := zh (σ := zbc5) (hint := zbc4) (by kernel_rfl) (zd zbi8 (zd z7k ze)) fun l H r H' h => by
 unfold zl7 at h; split at h
 · rw [zbnv]; exact h
 · exact (zf h).elim
def zqq (x0 x1 x2 x3 : V) : M V :=
 zb (
 zb (zl7 [x0, (Value.slice none 0 0), x1, x2, x3]) fun x14 =>
 zb (za (ext 0 x14)) fun x15 =>
 zb (za (ext 1 x14)) fun x16 =>
 ret (.ret [x15, x16])
 ) fun o => zcf o fun vs => ret (zca [(zc vs 0), (zc vs 1)])
def z5c : Hint := (.seq [] .leaf (.seq [] .leaf .leaf))
def zmo (l : List V) : M V := match l with | [x0, x1, x2, x3] => zqq x0 x1 x2 x3 | _ => fail
def z5d : zp := ovr [(zsd, zl7)] noC
theorem zbgr (x0 x1 x2 x3 : V) : zcs Tryz.prog (z5d) zsb z5c [x0, x1, x2, x3] = zqq x0 x1 x2 x3 := by kernel_rfl
theorem zbgs : zy Tryz.prog zsb (zmo) := zh (σ := z5d) (hint := z5c) (by kernel_rfl) (zd zbc6 ze) fun l H r H' h => by
 unfold zmo at h; split at h
 · rw [zbgr]; exact h
 · exact (zf h).elim
def z9x (vs_4 : List V) : M Out :=
 zb (za (zj .add (zc vs_4 2) (Value.int .i64 1))) fun x28 =>
 ret (.nxt [(zc vs_4 0), (zc vs_4 1), x28])
def z1z (vs_3 : List V) : M Out :=
 zb (
 zb (
 zb (za (zu (zc vs_3 0))) fun x30 =>
 zb (za (zg 3 x30)) fun x31 =>
 zb (za (zg 2 (zc vs_3 1))) fun x37 =>
 zb (z7 x31) fun x32 =>
 zb (za (zv 4 x32 (zc vs_3 2))) fun x34 =>
 zb (za (zg 0 x34)) fun x35 =>
 zb (z7 x35) fun x36 =>
 zb (z7 x37) fun x38 =>
 zb (za (zj .eql x36 x38)) fun x39 =>
 zi x39 (
 zb (za (zu (zc vs_3 0))) fun x42 =>
 zb (za (zg 0 x42)) fun x43 =>
 zb (za (zu (zc vs_3 0))) fun x46 =>
 zb (za (zg 3 x46)) fun x47 =>
 zb (za (zu (zc vs_3 0))) fun x57 =>
 zb (za (zg 3 x57)) fun x58 =>
 zb (za (zg 2 (zc vs_3 1))) fun x64 =>
 zb (z7 x43) fun x44 =>
 zb (z7 x47) fun x48 =>
 zb (za (zv 4 x48 (zc vs_3 2))) fun x50 =>
 zb (za (zg 1 x50)) fun x51 =>
 zb (z7 x51) fun x52 =>
 zb (za (zv 3 x44 x52)) fun x53 =>
 zb (za (zg 1 x53)) fun x54 =>
 zb (z7 x54) fun x55 =>
 zb (z7 x58) fun x59 =>
 zb (za (zv 4 x59 (zc vs_3 2))) fun x61 =>
 zb (za (zg 3 x61)) fun x62 =>
 zb (z7 x62) fun x63 =>
 zb (z7 x64) fun x65 =>
 zb (zkk [x55, x63, x65]) fun x66 =>
 zb (za (ext 0 x66)) fun x67 =>
 zb (za (ext 1 x66)) fun x68 =>
 ret (.ret [x67])
 ) (
 ret (.nxt [(zc vs_3 0), (zc vs_3 1), (zc vs_3 2)])
 )
 ) fun o => ret (zw 1 o)
 ) fun o => nx o z9x
def zuw (vs_2 : List V) : M Out :=
 zb (
 zb (za (zu (zc vs_2 0))) fun x22 =>
 zb (za (zg 3 x22)) fun x23 =>
 zb (z7 x23) fun x24 =>
 zb (za (zb9 x24)) fun x25 =>
 zb (za (zj .lss (zc vs_2 2) x25)) fun x26 =>
 zi x26 (
 ret (.nxt [(zc vs_2 0), (zc vs_2 1), (zc vs_2 2)])
 ) (
 ret (.brk 0 [(zc vs_2 1)])
 )
 ) fun o => nx o z1z
def z9y (vs_5 : List V) : M Out :=
 zb (za (zg 4 (zc vs_5 0))) fun x70 =>
 zb (z7 x70) fun x71 =>
 ret (.ret [x71])
def z9z (vs_9 : List V) : M Out :=
 zb (za (zj .add (zc vs_9 2) (Value.int .i64 1))) fun x80 =>
 ret (.nxt [(zc vs_9 0), (zc vs_9 1), x80])
def z10 (vs_8 : List V) : M Out :=
 zb (
 zb (
 zb (za (zu (zc vs_8 0))) fun x82 =>
 zb (za (zg 4 x82)) fun x83 =>
 zb (za (zg 2 (zc vs_8 1))) fun x89 =>
 zb (z7 x83) fun x84 =>
 zb (za (zv 5 x84 (zc vs_8 2))) fun x86 =>
 zb (za (zg 0 x86)) fun x87 =>
 zb (z7 x87) fun x88 =>
 zb (z7 x89) fun x90 =>
 zb (za (zj .eql x88 x90)) fun x91 =>
 zi x91 (
 zb (za (zu (zc vs_8 0))) fun x94 =>
 zb (za (zg 4 x94)) fun x95 =>
 zb (za (zg 2 (zc vs_8 1))) fun x101 =>
 zb (za (zu (zc vs_8 0))) fun x104 =>
 zb (za (zg 4 x104)) fun x105 =>
 zb (za (zg 1 (zc vs_8 1))) fun x111 =>
 zb (za (zg 6 (zc vs_8 1))) fun x114 =>
 zb (z7 x95) fun x96 =>
 zb (za (zv 5 x96 (zc vs_8 2))) fun x98 =>
 zb (za (zg 4 x98)) fun x99 =>
 zb (z7 x99) fun x100 =>
 zb (z7 x101) fun x102 =>
 zb (z7 x105) fun x106 =>
 zb (za (zv 5 x106 (zc vs_8 2))) fun x108 =>
 zb (za (zg 2 x108)) fun x109 =>
 zb (z7 x109) fun x110 =>
 zb (z7 x111) fun x112 =>
 zb (za (zj .add x110 x112)) fun x113 =>
 zb (z7 x114) fun x115 =>
 zb (zmo [x100, x102, x113, x115]) fun x116 =>
 zb (za (ext 0 x116)) fun x117 =>
 zb (za (ext 1 x116)) fun x118 =>
 ret (.ret [x117])
 ) (
 ret (.nxt [(zc vs_8 0), (zc vs_8 1), (zc vs_8 2)])
 )
 ) fun o => ret (zw 3 o)
 ) fun o => nx o z9z
def zux (vs_7 : List V) : M Out :=
 zb (
 zb (za (zu (zc vs_7 0))) fun x74 =>
 zb (za (zg 4 x74)) fun x75 =>
 zb (z7 x75) fun x76 =>
 zb (za (zb9 x76)) fun x77 =>
 zb (za (zj .lss (zc vs_7 2) x77)) fun x78 =>
 zi x78 (
 ret (.nxt [(zc vs_7 0), (zc vs_7 1), (zc vs_7 2)])
 ) (
 ret (.brk 2 [(zc vs_7 1)])
 )
 ) fun o => nx o z10
def z90 (vs_10 : List V) : M Out :=
 zb (za (zg 4 (zc vs_10 0))) fun x120 =>
 zb (z7 x120) fun x121 =>
 ret (.ret [x121])
def z11 (vs_6 : List V) : M Out :=
 zb (
 zb (
 zce zcc zux [(zc vs_6 0), (zc vs_6 1), (Value.int .i64 0)]
 ) fun o => ret (zw 2 o)
 ) fun o => nx o z90
def z91 (vs : List V) : M Out :=
 zb (
 zb (za (zg 0 (zc vs 1))) fun x16 =>
 zb (z7 x16) fun x17 =>
 zb (zio [x17, (Value.int .i64 6)]) fun x18 =>
 zb (za (zj .eql x18 (Value.int .i64 1))) fun x19 =>
 zi x19 (
 zb (
 zb (
 zce zcc zuw [(zc vs 0), (zc vs 1), (Value.int .i64 0)]
 ) fun o => ret (zw 0 o)
 ) fun o => nx o z9y
 ) (
 ret (.nxt [(zc vs 0), (zc vs 1)])
 )
 ) fun o => nx o z11
def zw9 (x0 x1 : V) : M V :=
 zb (
 zb (zlw x1) fun x3 =>
 zb (
 zb (za (zg 5 x3)) fun x11 =>
 zb (z7 x11) fun x12 =>
 zb (za (un .not x12)) fun x13 =>
 zi x13 (
 zb (za (zg 4 x3)) fun x14 =>
 zb (z7 x14) fun x15 =>
 ret (.ret [x15])
 ) (
 ret (.nxt [x0, x3])
 )
 ) fun o => nx o z91
 ) fun o => zcf o fun vs => ret (zca [(zc vs 0)])
def zbc7 : Hint := (.seq [] .leaf (.seq [0, 3] (.seq [] .leaf (.cond (.seq [] .leaf .leaf) .leaf)) (.seq [0, 3] (.seq [] .leaf (.cond (.seq [3] (.seq [] .leaf (.blk (.loop [0, 3, 5] (.seq [0, 3, 5] (.seq [] .leaf (.cond .leaf .leaf)) (.seq [0, 3, 5] (.blk (.seq [] (.reg [0, 1, 2, 4, 8, 3, 5, 6, 7, 9, 10] []) (.cond (.seq [] (.reg [0, 1, 2, 4, 5, 6, 8, 15, 16, 17, 19, 23, 3, 7, 9, 10, 11, 12, 13, 14, 18, 20, 21, 22, 24, 25, 26, 27, 28, 29, 30] []) (.seq [] .leaf .leaf)) .leaf))) .leaf))))) (.seq [] .leaf .leaf)) .leaf)) (.seq [3] (.seq [] .leaf (.blk (.loop [0, 3, 8] (.seq [0, 3, 8] (.seq [] .leaf (.cond .leaf .leaf)) (.seq [0, 3, 8] (.blk (.seq [] (.reg [0, 1, 2, 4, 8, 3, 5, 6, 7, 9, 10] []) (.cond (.seq [] (.reg [0, 1, 2, 4, 8, 10, 11, 12, 14, 18, 21, 3, 5, 6, 7, 9, 13, 15, 16, 17, 19, 20, 22, 23, 24, 25, 26, 27, 28] []) (.seq [] .leaf .leaf)) .leaf))) .leaf))))) (.seq [] .leaf .leaf)))))
def zl8 (l : List V) : M V := match l with | [x0, x1] => zw9 x0 x1 | _ => fail
def zbc8 : zp := ovr [(zmn, zio), (zql, zkk), (zsb, zmo)] noC
theorem zbnw (x0 x1 : V) : zcs Tryz.prog (zbc8) zsf zbc7 [x0, x1] = zw9 x0 x1 := by kernel_rfl
theorem zbnx : zy Tryz.prog zsf (zl8) := zh (σ := zbc8) (hint := zbc7) (by kernel_rfl) (zd z9g (zd z9t (zd zbgs ze))) fun l H r H' h => by
 unfold zl8 at h; split at h
 · rw [zbnw]; exact h
 · exact (zf h).elim
def zj1 (vs : List V) : M Out :=
 zb (za (zu (zc vs 0))) fun x15 =>
 zb (za (zg 2 x15)) fun x16 =>
 zb (z7 x16) fun x17 =>
 zb (za (zv 5 x17 (zc vs 1))) fun x19 =>
 ret (.ret [x19])
def zez (x0 x1 : V) : M V :=
 zb (
 zb (za (zu x0)) fun x7 =>
 zb (za (zg 1 x7)) fun x8 =>
 zb (z7 x8) fun x9 =>
 zb (zc0 [x9, x1]) fun x11 =>
 zb (
 zb (za (zj .lss x11 (Value.int .i64 0))) fun x13 =>
 zi x13 (
 ret (.ret [(Value.pointer none)])
 ) (
 ret (.nxt [x0, x11])
 )
 ) fun o => nx o zj1
 ) fun o => zcf o fun vs => ret (zca [(zc vs 0)])
def zkn : Hint := (.seq [] .leaf (.seq [] .leaf (.seq [0, 5] (.seq [] .leaf (.cond (.seq [] .leaf .leaf) .leaf)) (.seq [] .leaf .leaf))))
def zdb (l : List V) : M V := match l with | [x0, x1] => zez x0 x1 | _ => fail
def zko : zp := ovr [(ze1, zc0)] noC
theorem ztz (x0 x1 : V) : zcs Tryz.prog (zko) zf7 zkn [x0, x1] = zez x0 x1 := by kernel_rfl
theorem zt0 : zy Tryz.prog zf7 (zdb) := zh (σ := zko) (hint := zkn) (by kernel_rfl) (zd zkg ze) fun l H r H' h => by
 unfold zdb at h; split at h
 · rw [ztz]; exact h
 · exact (zf h).elim
def zd3 (x0 x1 x2 : V) : M V :=
 zb (
 zb (zlw x1) fun x4 =>
 zb (z7 x2) fun x7 =>
 zb (za (zj .neq x0 x7)) fun x8 =>
 ret (.ret [x8])
 ) fun o => zcf o fun vs => ret (zca [(zc vs 0)])
def zja : Hint := (.seq [] .leaf (.seq [] .leaf .leaf))
def zdl (l : List V) : M V := match l with | [x0, x1, x2] => zd3 x0 x1 x2 | _ => fail
theorem zq6 (x0 x1 x2 : V) : zcs Tryz.prog (ovr [] noC) zcd zja [x0, x1, x2] = zd3 x0 x1 x2 := by kernel_rfl
theorem zq7 : zy Tryz.prog zcd (zdl) := zh (σ := ovr [] noC) (hint := zja) (by kernel_rfl) ze fun l H r H' h => by
 unfold zdl at h; split at h
 · rw [zq6]; exact h
 · exact (zf h).elim
def zf8 (S : zp) (vs_3 : List V) : M Out :=
 zb (za (zj .add (zc vs_3 6) (Value.int .i64 1))) fun x42 =>
 ret (.nxt [(zc vs_3 0), (zc vs_3 1), (zc vs_3 2), (zc vs_3 3), (zc vs_3 4), (zc vs_3 5), x42])
def zjl (S : zp) (vs_2 : List V) : M Out :=
 zb (
 zb (
 zb (za (zv 5 (zc vs_2 4) (zc vs_2 6))) fun x16 =>
 zb (ldn 5 x16) fun x17 =>
 zb (newc [Value.string ⟨#[]⟩, Value.string ⟨#[]⟩, Value.slice none 0 0, Value.string ⟨#[]⟩, Value.int .i64 0]) fun x7 =>
 zb (stn 5 x7 x17) fun _ =>
 zb (za (zu (zc vs_2 0))) fun x20 =>
 zb (za (zg 1 x20)) fun x21 =>
 zb (z7 x21) fun x22 =>
 zb (za (zv 1 x22 (zc vs_2 6))) fun x24 =>
 zb (z7 x24) fun x25 =>
 zb (ldn 5 x7) fun x26 =>
 zb (zxn (ovr [] S) (zc vs_2 1) [x25, x26]) fun x27 =>
 zi x27 (
 zu5 2 fun base h0 =>
 zb (za (zu (zc vs_2 0))) fun x30 =>
 zb (za (zg 1 x30)) fun x31 =>
 zb (z7 x31) fun x32 =>
 zb (za (zv 1 x32 (zc vs_2 6))) fun x34 =>
 zb (z7 x34) fun x35 =>
 zb (ldn 5 x7) fun x39 =>
 zb (flt (base + 0) (zd7 1 1 (rep 1 [Value.int .i64 0]) [(0, 1, x35)])) fun x36 =>
 zfq (ze6 1 8 (zc vs_2 2) x36) fun ha x37 h1 =>
 zdc (zej ha [base + 1] && zej h1 [base + 1]) <|
 zb (flt (base + 1) (zd7 5 1 (rep 1 [Value.string ⟨#[]⟩, Value.string ⟨#[]⟩, Value.slice none 0 0, Value.string ⟨#[]⟩, Value.int .i64 0]) [(0, 5, x39)])) fun x40 =>
 zfq (ze6 5 80 (zc vs_2 3) x40) fun ha_2 x41 h2 =>
 zdc (chk (ldn 5 x7) h1 x39) <|
 ret (.nxt [(zc vs_2 0), (zc vs_2 1), x37, x41, (zc vs_2 4), (zc vs_2 5), (zc vs_2 6)])
 ) (
 ret (.nxt [(zc vs_2 0), (zc vs_2 1), (zc vs_2 2), (zc vs_2 3), (zc vs_2 4), (zc vs_2 5), (zc vs_2 6)])
 )
 ) fun o => ret (zw 1 o)
 ) fun o => nx o (zf8 S)
def zf9 (S : zp) (vs : List V) : M Out :=
 zb (za (zj .lss (zc vs 6) (zc vs 5))) fun x14 =>
 zb (
 zi x14 (
 ret (.nxt [(zc vs 0), (zc vs 1), (zc vs 2), (zc vs 3), (zc vs 4), (zc vs 5), (zc vs 6)])
 ) (
 ret (.brk 0 [(zc vs 0), (zc vs 2), (zc vs 3)])
 )
 ) fun o => nx o (zjl S)
def zjm (S : zp) (vs_4 : List V) : M Out :=
 zb (za (zu (zc vs_4 0))) fun x47 =>
 zb (za (zg 1 x47)) fun x48 =>
 zb (st1 x48 (zc vs_4 1)) fun _ =>
 zb (za (zu (zc vs_4 0))) fun x49 =>
 zb (za (zg 2 x49)) fun x50 =>
 zb (st1 x50 (zc vs_4 2)) fun _ =>
 ret (.nxt [])
def zeo (S : zp) (x0 x1 : V) : M V :=
 zb (
 zb (
 zb (za (zu x0)) fun x9 =>
 zb (za (zg 2 x9)) fun x10 =>
 zb (z7 x10) fun x11 =>
 zb (za (zb9 x11)) fun x12 =>
 zb (
 zce zcc (zf9 S) [x0, x1, (Value.slice none 0 0), (Value.slice none 0 0), x11, x12, (Value.int .i64 0)]
 ) fun o => ret (zw 0 o)
 ) fun o => nx o (zjm S)
 ) fun o => zcf o fun vs => ret (zca [])
def zj2 : Hint := (.seq [] .leaf (.seq [] .leaf (.seq [0, 4, 5] (.seq [] .leaf (.blk (.loop [0, 1, 4, 5, 11, 12, 13] (.seq [] .leaf (.seq [0, 1, 4, 5, 11, 12, 13] (.cond .leaf .leaf) (.seq [0, 1, 4, 5, 11, 12, 13] (.blk (.seq [] .leaf (.seq [] (.reg [0, 1, 2, 3, 5, 4, 6, 7, 8, 9] []) (.cond (.reg [0, 1, 2, 3, 5, 10, 4, 6, 7, 11, 8, 9, 12, 13, 14, 15] [8, 12]) .leaf)))) .leaf)))))) .leaf)))
def zci (S : zp) (l : List V) : M V := match l with | [x0, x1] => zeo S x0 x1 | _ => fail
theorem zsy (S : zp) (x0 x1 : V) : zcs Tryz.prog (ovr [] S) zd2 zj2 [x0, x1] = zeo S x0 x1 := by kernel_rfl
theorem zj3 {S : zp} (hS : zlx Tryz.prog S) : zy Tryz.prog zd2 (zci S) := zh (σ := ovr [] S) (hint := zj2) (by kernel_rfl) (z6l hS) fun l H r H' h => by
 unfold zci at h; split at h
 · rw [zsy]; exact h
 · exact (zf h).elim
def zep (x0 x1 : V) : M V :=
 zb (
 zb (zlw x1) fun x3 =>
 zb (za (some (Value.func (.func zcd) #[] #[x3]))) fun x5 =>
 zb ((zci (ovr [(zcd, zdl)] noC)) [x0, x5]) fun x6 =>
 ret (.nxt [])
 ) fun o => zcf o fun vs => ret (zca [])
def zj4 : Hint := (.seq [] .leaf .leaf)
def zc5 (l : List V) : M V := match l with | [x0, x1] => zep x0 x1 | _ => fail
def zj5 : zp := ovr [(zd2, zci (ovr [(zcd, zdl)] noC))] noC
theorem zsz (x0 x1 : V) : zcs Tryz.prog (zj5) zfv zj4 [x0, x1] = zep x0 x1 := by kernel_rfl
theorem zs0 : zy Tryz.prog zfv (zc5) := zh (σ := zj5) (hint := zj4) (by kernel_rfl) (zd (zj3 (zd zq7 ze)) ze) fun l H r H' h => by
 unfold zc5 at h; split at h
 · rw [zsz]; exact h
 · exact (zf h).elim
def z92 (vs_3 : List V) : M Out :=
 zb (za (zj .sub (zc vs_3 2) (Value.int .i64 8))) fun x8 =>
 ret (.nxt [(zc vs_3 0), (zc vs_3 1), x8])
def z93 (vs_2 : List V) : M Out :=
 zb (
 zb (
 zb (za (cvi .u64 (zc vs_2 0))) fun x11 =>
 zb (za (zj .shr x11 (zc vs_2 2))) fun x13 =>
 zb (za (cvi .u8 x13)) fun x14 =>
 zb (zd7 1 1 (rep 1 [Value.int .u8 0]) [(0, 1, x14)]) fun x15 =>
 zb (ze6 1 1 (zc vs_2 1) x15) fun x16 =>
 ret (.nxt [(zc vs_2 0), x16, (zc vs_2 2)])
 ) fun o => ret (zw 1 o)
 ) fun o => nx o z92
def z12 (vs : List V) : M Out :=
 zb (
 zb (za (zj .geq (zc vs 2) (Value.int .i64 0))) fun x6 =>
 zi x6 (
 ret (.nxt [(zc vs 0), (zc vs 1), (zc vs 2)])
 ) (
 ret (.brk 0 [(zc vs 1)])
 )
 ) fun o => nx o z93
def z94 (vs_4 : List V) : M Out :=
 zb (b2s (zc vs_4 0)) fun x18 =>
 ret (.ret [x18])
def zxa (x0 : V) : M V :=
 zb (
 zb (
 zb (
 zce zcc z12 [x0, (Value.slice none 0 0), (Value.int .i64 56)]
 ) fun o => ret (zw 0 o)
 ) fun o => nx o z94
 ) fun o => zcf o fun vs => ret (zca [(zc vs 0)])
def zbc9 : Hint := (.seq [] .leaf (.seq [] .leaf (.seq [3] (.seq [] .leaf (.blk (.loop [0, 3, 4] (.seq [0, 3, 4] (.seq [] .leaf (.cond .leaf .leaf)) (.seq [0, 3, 4] (.blk .leaf) .leaf))))) (.seq [] .leaf .leaf))))
def zs1 (l : List V) : M V := match l with | [x0] => zxa x0 | _ => fail
theorem zbny (x0 : V) : zcs Tryz.prog (ovr [] noC) zx1 zbc9 [x0] = zxa x0 := by kernel_rfl
theorem zbnz : zy Tryz.prog zx1 (zs1) := zh (σ := ovr [] noC) (hint := zbc9) (by kernel_rfl) ze fun l H r H' h => by
 unfold zs1 at h; split at h
 · rw [zbny]; exact h
 · exact (zf h).elim
def z8q : M V :=
 zb (
 zb (ldn 8 (ptr gid_sha_first 0)) fun x1 =>
 zb (za (build [Value.int .u32 0, Value.int .u32 0, Value.int .u32 0, Value.int .u32 0, Value.int .u32 0, Value.int .u32 0, Value.int .u32 0, Value.int .u32 0, Value.slice none 0 0, Value.int .i64 0] [(0, 8, x1)])) fun x2 =>
 zb (zlw x2) fun x3 =>
 ret (.ret [x3])
 ) fun o => zcf o fun vs => ret (zca [(zc vs 0)])
def zbl3 : Hint := (.seq [] .leaf (.seq [] .leaf .leaf))
def z8r (l : List V) : M V := match l with | [] => z8q  | _ => fail
theorem zbvs : zcs Tryz.prog (ovr [] noC) z6o zbl3 [] = z8q  := by kernel_rfl
theorem zbvt : zy Tryz.prog z6o (z8r) := zh (σ := ovr [] noC) (hint := zbl3) (by kernel_rfl) ze fun l H r H' h => by
 unfold z8r at h; split at h
 · rw [zbvs]; exact h
 · exact (zf h).elim
def z4h (x0 x1 : V) : M V :=
 zb (
 zb (za (zj .shr x0 x1)) fun x7 =>
 zb (za (zj .sub (Value.int .i64 32) x1)) fun x10 =>
 zb (za (zj .shl x0 x10)) fun x11 =>
 zb (za (zj .or x7 x11)) fun x12 =>
 ret (.ret [x12])
 ) fun o => zcf o fun vs => ret (zca [(zc vs 0)])
def zbi9 : Hint := (.seq [] .leaf (.seq [] (.reg [0, 1, 2, 3, 4, 5, 6, 7, 8] []) .leaf))
def zc7 (l : List V) : M V := match l with | [x0, x1] => z4h x0 x1 | _ => fail
theorem zbst (x0 x1 : V) : zcs Tryz.prog (ovr [] noC) z38 zbi9 [x0, x1] = z4h x0 x1 := by kernel_rfl
theorem zbsu : zy Tryz.prog z38 (zc7) := zh (σ := ovr [] noC) (hint := zbi9) (by kernel_rfl) ze fun l H r H' h => by
 unfold zc7 at h; split at h
 · rw [zbst]; exact h
 · exact (zf h).elim
def z0g (vs_3 : List V) : M Out :=
 zb (za (zj .add (zc vs_3 3) (Value.int .i64 1))) fun x54 =>
 ret (.nxt [(zc vs_3 0), (zc vs_3 1), (zc vs_3 2), x54])
def zs2 (vs_2 : List V) : M Out :=
 zb (
 zb (
 zb (za (zj .mul (Value.int .i64 4) (zc vs_2 3))) fun x22 =>
 zb (za (zv 1 (zc vs_2 1) x22)) fun x23 =>
 zb (za (zj .mul (Value.int .i64 4) (zc vs_2 3))) fun x29 =>
 zb (za (zj .add x29 (Value.int .i64 1))) fun x30 =>
 zb (za (zv 1 (zc vs_2 1) x30)) fun x31 =>
 zb (za (zj .mul (Value.int .i64 4) (zc vs_2 3))) fun x38 =>
 zb (za (zj .add x38 (Value.int .i64 2))) fun x39 =>
 zb (za (zv 1 (zc vs_2 1) x39)) fun x40 =>
 zb (za (zj .mul (Value.int .i64 4) (zc vs_2 3))) fun x47 =>
 zb (za (zj .add x47 (Value.int .i64 3))) fun x48 =>
 zb (za (zv 1 (zc vs_2 1) x48)) fun x49 =>
 zb (z7 x23) fun x24 =>
 zb (za (cvi .u32 x24)) fun x25 =>
 zb (za (zj .shl x25 (Value.int .u64 24))) fun x26 =>
 zb (z7 x31) fun x32 =>
 zb (za (cvi .u32 x32)) fun x33 =>
 zb (za (zj .shl x33 (Value.int .u64 16))) fun x34 =>
 zb (za (zj .or x26 x34)) fun x35 =>
 zb (z7 x40) fun x41 =>
 zb (za (cvi .u32 x41)) fun x42 =>
 zb (za (zj .shl x42 (Value.int .u64 8))) fun x43 =>
 zb (za (zj .or x35 x43)) fun x44 =>
 zb (z7 x49) fun x50 =>
 zb (za (cvi .u32 x50)) fun x51 =>
 zb (za (zj .or x44 x51)) fun x52 =>
 zb (za (zei 64 1 (zc vs_2 2) (zc vs_2 3))) fun x53 =>
 zb (st1 x53 x52) fun _ =>
 ret (.nxt [(zc vs_2 0), (zc vs_2 1), (zc vs_2 2), (zc vs_2 3)])
 ) fun o => ret (zw 1 o)
 ) fun o => nx o z0g
def znd (vs : List V) : M Out :=
 zb (za (zj .lss (zc vs 3) (Value.int .i64 16))) fun x17 =>
 zb (
 zi x17 (
 ret (.nxt [(zc vs 0), (zc vs 1), (zc vs 2), (zc vs 3)])
 ) (
 ret (.brk 0 [(zc vs 0), (zc vs 2)])
 )
 ) fun o => nx o zs2
def z0h (vs_7 : List V) : M Out :=
 zb (za (zj .add (zc vs_7 2) (Value.int .i64 1))) fun x58 =>
 ret (.nxt [(zc vs_7 0), (zc vs_7 1), x58])
def zs3 (vs_6 : List V) : M Out :=
 zb (
 zb (
 zb (za (zj .sub (zc vs_6 2) (Value.int .i64 15))) fun x60 =>
 zb (za (zei 64 1 (zc vs_6 1) x60)) fun x61 =>
 zb (za (zj .sub (zc vs_6 2) (Value.int .i64 2))) fun x64 =>
 zb (za (zei 64 1 (zc vs_6 1) x64)) fun x65 =>
 zb (z7 x61) fun x62 =>
 zb (z7 x65) fun x66 =>
 zxv fun h0 =>
 zb (za (zj .sub (zc vs_6 2) (Value.int .i64 16))) fun x69 =>
 zb (za (zei 64 1 (zc vs_6 1) x69)) fun x70 =>
 zb (za (zj .shr x62 (Value.int .u64 3))) fun x78 =>
 zb (za (zj .sub (zc vs_6 2) (Value.int .i64 7))) fun x82 =>
 zb (za (zei 64 1 (zc vs_6 1) x82)) fun x83 =>
 zb (za (zj .shr x66 (Value.int .u64 10))) fun x92 =>
 zb (z7 x70) fun x71 =>
 zb (z7 x83) fun x84 =>
 zfq (zc7 [x62, (Value.int .i64 7)]) fun ha x73 h1 =>
 zfq (zc7 [x62, (Value.int .i64 18)]) fun ha_2 x75 h2 =>
 zb (za (zj .xor x73 x75)) fun x76 =>
 zb (za (zj .xor x76 x78)) fun x79 =>
 zb (za (zj .add x71 x79)) fun x80 =>
 zb (za (zj .add x80 x84)) fun x85 =>
 zfq (zc7 [x66, (Value.int .i64 17)]) fun ha_3 x87 h3 =>
 zfq (zc7 [x66, (Value.int .i64 19)]) fun ha_4 x89 h4 =>
 zb (za (zj .xor x87 x89)) fun x90 =>
 zb (za (zj .xor x90 x92)) fun x93 =>
 zb (za (zj .add x85 x93)) fun x94 =>
 zb (za (zei 64 1 (zc vs_6 1) (zc vs_6 2))) fun x95 =>
 zfq (st1 x95 x94) fun ha_5 u_2 h5 =>
 zdc (chk (z7 x70) h1 x71) <|
 zdc (chk (z7 x70) h2 x71) <|
 zdc (chk (z7 x70) h3 x71) <|
 zdc (chk (z7 x70) h4 x71) <|
 zdc (chk (z7 x83) h1 x84) <|
 zdc (chk (z7 x83) h2 x84) <|
 zdc (chk (z7 x83) h3 x84) <|
 zdc (chk (z7 x83) h4 x84) <|
 ret (.nxt [(zc vs_6 0), (zc vs_6 1), (zc vs_6 2)])
 ) fun o => ret (zw 3 o)
 ) fun o => nx o z0h
def zne (vs_5 : List V) : M Out :=
 zb (
 zb (za (zj .lss (zc vs_5 2) (Value.int .i64 64))) fun x56 =>
 zi x56 (
 ret (.nxt [(zc vs_5 0), (zc vs_5 1), (zc vs_5 2)])
 ) (
 ret (.brk 2 [(zc vs_5 0), (zc vs_5 1)])
 )
 ) fun o => nx o zs3
def z0i (vs_11 : List V) : M Out :=
 zb (za (zj .add (zc vs_11 3) (Value.int .i64 1))) fun x178 =>
 ret (.nxt [(zc vs_11 0), (zc vs_11 1), (zc vs_11 2), x178])
def zs4 (vs_10 : List V) : M Out :=
 zb (
 zb (
 zb (za (zei 8 1 (zc vs_10 2) (Value.int .i64 0))) fun x102 =>
 zb (za (zei 8 1 (zc vs_10 2) (Value.int .i64 4))) fun x104 =>
 zb (z7 x102) fun x103 =>
 zb (z7 x104) fun x105 =>
 zxv fun h0_2 =>
 zb (za (zei 8 1 (zc vs_10 2) (Value.int .i64 7))) fun x106 =>
 zb (za (zei 8 1 (zc vs_10 2) (Value.int .i64 5))) fun x118 =>
 zb (za (un .xor x105)) fun x122 =>
 zb (za (zei 8 1 (zc vs_10 2) (Value.int .i64 6))) fun x123 =>
 zb (za (zei 64 1 (ptr gid_sha_rounds 0) (zc vs_10 3))) fun x129 =>
 zb (za (zei 64 1 (zc vs_10 1) (zc vs_10 3))) fun x133 =>
 zb (z7 x106) fun x107 =>
 zb (z7 x118) fun x119 =>
 zb (za (zj .and x105 x119)) fun x120 =>
 zb (z7 x123) fun x124 =>
 zb (za (zj .and x122 x124)) fun x125 =>
 zb (za (zj .xor x120 x125)) fun x126 =>
 zb (z7 x129) fun x130 =>
 zb (z7 x133) fun x134 =>
 zfq (zc7 [x105, (Value.int .i64 6)]) fun ha_6 x109 h1_2 =>
 zfq (zc7 [x105, (Value.int .i64 11)]) fun ha_7 x111 h2_2 =>
 zb (za (zj .xor x109 x111)) fun x112 =>
 zfq (zc7 [x105, (Value.int .i64 25)]) fun ha_8 x114 h3_2 =>
 zb (za (zj .xor x112 x114)) fun x115 =>
 zb (za (zj .add x107 x115)) fun x116 =>
 zb (za (zj .add x116 x126)) fun x127 =>
 zb (za (zj .add x127 x130)) fun x131 =>
 zb (za (zj .add x131 x134)) fun x135 =>
 zdc (chk (z7 x106) h1_2 x107) <|
 zdc (chk (z7 x106) h2_2 x107) <|
 zdc (chk (z7 x106) h3_2 x107) <|
 zdc (chk (z7 x118) h1_2 x119) <|
 zdc (chk (z7 x118) h2_2 x119) <|
 zdc (chk (z7 x118) h3_2 x119) <|
 zdc (chk (z7 x123) h1_2 x124) <|
 zdc (chk (z7 x123) h2_2 x124) <|
 zdc (chk (z7 x123) h3_2 x124) <|
 zdc (chk (z7 x129) h1_2 x130) <|
 zdc (chk (z7 x129) h2_2 x130) <|
 zdc (chk (z7 x129) h3_2 x130) <|
 zdc (chk (z7 x133) h1_2 x134) <|
 zdc (chk (z7 x133) h2_2 x134) <|
 zdc (chk (z7 x133) h3_2 x134) <|
 zxv fun h0_3 =>
 zb (za (zei 8 1 (zc vs_10 2) (Value.int .i64 1))) fun x145 =>
 zb (za (zei 8 1 (zc vs_10 2) (Value.int .i64 2))) fun x149 =>
 zb (za (zei 8 1 (zc vs_10 2) (Value.int .i64 1))) fun x153 =>
 zb (za (zei 8 1 (zc vs_10 2) (Value.int .i64 2))) fun x155 =>
 zb (z7 x145) fun x146 =>
 zb (za (zj .and x103 x146)) fun x147 =>
 zb (z7 x149) fun x150 =>
 zb (za (zj .and x103 x150)) fun x151 =>
 zb (za (zj .xor x147 x151)) fun x152 =>
 zb (z7 x153) fun x154 =>
 zb (z7 x155) fun x156 =>
 zb (za (zj .and x154 x156)) fun x157 =>
 zb (za (zj .xor x152 x157)) fun x158 =>
 zfq (zc7 [x103, (Value.int .i64 2)]) fun ha_9 x137 h1_3 =>
 zfq (zc7 [x103, (Value.int .i64 13)]) fun ha_10 x139 h2_3 =>
 zb (za (zj .xor x137 x139)) fun x140 =>
 zfq (zc7 [x103, (Value.int .i64 22)]) fun ha_11 x142 h3_3 =>
 zb (za (zj .xor x140 x142)) fun x143 =>
 zb (za (zj .add x143 x158)) fun x159 =>
 zdc (chk (z7 x145) h1_3 x146) <|
 zdc (chk (z7 x145) h2_3 x146) <|
 zdc (chk (z7 x145) h3_3 x146) <|
 zdc (chk (z7 x149) h1_3 x150) <|
 zdc (chk (z7 x149) h2_3 x150) <|
 zdc (chk (z7 x149) h3_3 x150) <|
 zdc (chk (z7 x153) h1_3 x154) <|
 zdc (chk (z7 x153) h2_3 x154) <|
 zdc (chk (z7 x153) h3_3 x154) <|
 zdc (chk (z7 x155) h1_3 x156) <|
 zdc (chk (z7 x155) h2_3 x156) <|
 zdc (chk (z7 x155) h3_3 x156) <|
 zb (za (zj .add x135 x159)) fun x162 =>
 zb (za (zei 8 1 (zc vs_10 2) (Value.int .i64 1))) fun x164 =>
 zb (z7 x164) fun x165 =>
 zb (za (zei 8 1 (zc vs_10 2) (Value.int .i64 2))) fun x166 =>
 zb (z7 x166) fun x167 =>
 zb (za (zei 8 1 (zc vs_10 2) (Value.int .i64 3))) fun x168 =>
 zb (z7 x168) fun x169 =>
 zb (za (zj .add x169 x135)) fun x171 =>
 zb (za (zei 8 1 (zc vs_10 2) (Value.int .i64 5))) fun x173 =>
 zb (z7 x173) fun x174 =>
 zb (za (zei 8 1 (zc vs_10 2) (Value.int .i64 6))) fun x175 =>
 zb (z7 x175) fun x176 =>
 zb (za (build [Value.int .u32 0, Value.int .u32 0, Value.int .u32 0, Value.int .u32 0, Value.int .u32 0, Value.int .u32 0, Value.int .u32 0, Value.int .u32 0] [(0, 1, x162), (1, 1, x103), (2, 1, x165), (3, 1, x167), (4, 1, x171), (5, 1, x105), (6, 1, x174), (7, 1, x176)])) fun x177 =>
 zb (stn 8 (zc vs_10 2) x177) fun _ =>
 ret (.nxt [(zc vs_10 0), (zc vs_10 1), (zc vs_10 2), (zc vs_10 3)])
 ) fun o => ret (zw 5 o)
 ) fun o => nx o z0i
def znf (vs_9 : List V) : M Out :=
 zb (za (zj .lss (zc vs_9 3) (Value.int .i64 64))) fun x100 =>
 zb (
 zi x100 (
 ret (.nxt [(zc vs_9 0), (zc vs_9 1), (zc vs_9 2), (zc vs_9 3)])
 ) (
 ret (.brk 4 [(zc vs_9 0), (zc vs_9 2)])
 )
 ) fun o => nx o zs4
def zs5 (vs_15 : List V) : M Out :=
 zb (za (zj .add (zc vs_15 2) (Value.int .i64 1))) fun x193 =>
 ret (.nxt [(zc vs_15 0), (zc vs_15 1), x193])
def zyr (vs_14 : List V) : M Out :=
 zb (
 zb (
 zb (za (zu (zc vs_14 0))) fun x184 =>
 zb (za (zei 8 1 x184 (zc vs_14 2))) fun x185 =>
 zb (za (zei 8 1 (zc vs_14 1) (zc vs_14 2))) fun x188 =>
 zb (za (zu (zc vs_14 0))) fun x191 =>
 zb (z7 x185) fun x186 =>
 zb (z7 x188) fun x189 =>
 zb (za (zj .add x186 x189)) fun x190 =>
 zb (za (zei 8 1 x191 (zc vs_14 2))) fun x192 =>
 zb (st1 x192 x190) fun _ =>
 ret (.nxt [(zc vs_14 0), (zc vs_14 1), (zc vs_14 2)])
 ) fun o => ret (zw 7 o)
 ) fun o => nx o zs5
def zl9 (vs_13 : List V) : M Out :=
 zb (za (zj .lss (zc vs_13 2) (Value.int .i64 8))) fun x180 =>
 zb (
 zi x180 (
 ret (.nxt [(zc vs_13 0), (zc vs_13 1), (zc vs_13 2)])
 ) (
 ret (.brk 6 [])
 )
 ) fun o => nx o zyr
def zys (vs_12 : List V) : M Out :=
 zb (
 zce zcc zl9 [(zc vs_12 0), (zc vs_12 1), (Value.int .i64 0)]
 ) fun o => ret (zw 6 o)
def zyt (vs_8 : List V) : M Out :=
 zb (za (zu (zc vs_8 0))) fun x97 =>
 zb (ldn 8 x97) fun x98 =>
 zb (newc [Value.int .u32 0, Value.int .u32 0, Value.int .u32 0, Value.int .u32 0, Value.int .u32 0, Value.int .u32 0, Value.int .u32 0, Value.int .u32 0]) fun x9 =>
 zb (stn 8 x9 x98) fun _ =>
 zb (
 zb (
 zce zcc znf [(zc vs_8 0), (zc vs_8 1), x9, (Value.int .i64 0)]
 ) fun o => ret (zw 4 o)
 ) fun o => nx o zys
def zyu (vs_4 : List V) : M Out :=
 zb (
 zb (
 zce zcc zne [(zc vs_4 0), (zc vs_4 1), (Value.int .i64 16)]
 ) fun o => ret (zw 2 o)
 ) fun o => nx o zyt
def ziv (x0 x1 : V) : M V :=
 zb (
 zb (newc (List.replicate 64 (Value.int .u32 0))) fun x4 =>
 zb (
 zb (
 zce zcc znd [x0, x1, x4, (Value.int .i64 0)]
 ) fun o => ret (zw 0 o)
 ) fun o => nx o zyu
 ) fun o => zcf o fun vs => ret (zca [])
def z2q : Hint := (.seq [] .leaf (.seq [0, 4] (.seq [] .leaf (.blk (.loop [0, 1, 4, 16] (.seq [] .leaf (.seq [0, 1, 4, 16] (.cond .leaf .leaf) (.seq [0, 1, 4, 16] (.blk (.seq [] .leaf (.reg [0, 1, 2, 3, 4, 8, 9, 10, 11, 12, 17, 18, 19, 20, 21, 26, 27, 28, 29, 30, 5, 6, 7, 13, 14, 15, 16, 22, 23, 24, 25, 31, 32, 33, 34, 35] []))) .leaf)))))) (.seq [0, 4] (.seq [] .leaf (.blk (.loop [0, 4, 6] (.seq [0, 4, 6] (.seq [] .leaf (.cond .leaf .leaf)) (.seq [0, 4, 6] (.blk (.seq [] (.reg [0, 1, 2, 4, 5, 6, 3, 8, 7, 9] []) (.reg [0, 1, 2, 3, 5, 7, 10, 11, 14, 15, 16, 19, 21, 24, 25, 4, 17, 6, 8, 9, 12, 13, 18, 20, 22, 23, 26, 27, 28, 29] []))) .leaf))))) (.seq [] .leaf (.seq [0, 9] (.seq [] .leaf (.blk (.loop [0, 4, 9, 99] (.seq [] .leaf (.seq [0, 4, 9, 99] (.cond .leaf .leaf) (.seq [0, 4, 9, 99] (.blk (.seq [] .leaf (.seq [] (.reg [0, 2, 1, 4, 3, 5] []) (.seq [] (.reg [0, 2, 4, 7, 11, 12, 15, 16, 17, 22, 23, 26, 27, 1, 13, 14, 18, 19, 20, 24, 28, 3, 5, 6, 8, 9, 10, 21, 25, 29, 30] []) (.seq [] (.reg [0, 2, 5, 8, 9, 12, 13, 17, 19, 10, 11, 14, 15, 16, 18, 20, 21, 22, 1, 3, 4, 6, 7, 23, 24] []) .leaf))))) .leaf)))))) (.seq [] .leaf (.blk (.loop [0, 9, 179] (.seq [] .leaf (.seq [0, 9, 179] (.cond .leaf .leaf) (.seq [0, 9, 179] (.blk (.seq [] .leaf (.reg [0, 1, 2, 3, 5, 6, 9, 4, 7, 8, 10, 11] []))) .leaf)))))))))))
def ziw (l : List V) : M V := match l with | [x0, x1] => ziv x0 x1 | _ => fail
def z2r : zp := ovr [(z38, zc7)] noC
theorem zbey (x0 x1 : V) : zcs Tryz.prog (z2r) zl4 z2q [x0, x1] = ziv x0 x1 := by kernel_rfl
theorem z2s : zy Tryz.prog zl4 (ziw) := zh (σ := z2r) (hint := z2q) (by kernel_rfl) (zd zbsu ze) fun l H r H' h => by
 unfold ziw at h; split at h
 · rw [zbey]; exact h
 · exact (zf h).elim
def z0j (vs_3 : List V) : M Out :=
 zb (
 zb (za (zu (zc vs_3 0))) fun x38 =>
 zb (za (zg 0 x38)) fun x39 =>
 zb (za (zu (zc vs_3 0))) fun x41 =>
 zb (za (zg 8 x41)) fun x42 =>
 zb (z7 x42) fun x43 =>
 zb (za (zh7 1 x43 none (some (Value.int .i64 64)))) fun x44 =>
 zb (ziw [x39, x44]) fun x45 =>
 zb (za (zu (zc vs_3 0))) fun x48 =>
 zb (za (zg 8 x48)) fun x49 =>
 zb (z7 x49) fun x50 =>
 zb (za (zh7 1 x50 (some (Value.int .i64 64)) none)) fun x51 =>
 zb (za (zu (zc vs_3 0))) fun x52 =>
 zb (za (zg 8 x52)) fun x53 =>
 zb (st1 x53 x51) fun _ =>
 ret (.nxt [(zc vs_3 0)])
 ) fun o => ret (zw 1 o)
def zj6 (vs_2 : List V) : M Out :=
 zb (
 zb (za (zu (zc vs_2 0))) fun x32 =>
 zb (za (zg 8 x32)) fun x33 =>
 zb (z7 x33) fun x34 =>
 zb (za (zb9 x34)) fun x35 =>
 zb (za (zj .geq x35 (Value.int .i64 64))) fun x36 =>
 zi x36 (
 ret (.nxt [(zc vs_2 0)])
 ) (
 ret (.brk 0 [])
 )
 ) fun o => nx o z0j
def zs6 (vs_4 : List V) : M Out :=
 ret (.ret [(Value.int .i64 0)])
def z0k (vs : List V) : M Out :=
 zb (za (zu (zc vs 0))) fun x14 =>
 zb (za (zg 9 x14)) fun x15 =>
 zb (z7 x15) fun x16 =>
 zb (za (zct (zc vs 1))) fun x18 =>
 zb (za (zj .add x16 x18)) fun x19 =>
 zb (za (zu (zc vs 0))) fun x20 =>
 zb (za (zg 9 x20)) fun x21 =>
 zb (st1 x21 x19) fun _ =>
 zb (za (zu (zc vs 0))) fun x24 =>
 zb (za (zg 8 x24)) fun x25 =>
 zb (z7 x25) fun x26 =>
 zb (appS x26 (zc vs 1)) fun x28 =>
 zb (za (zu (zc vs 0))) fun x29 =>
 zb (za (zg 8 x29)) fun x30 =>
 zb (st1 x30 x28) fun _ =>
 zb (
 zb (
 zce zcc zj6 [(zc vs 0)]
 ) fun o => ret (zw 0 o)
 ) fun o => nx o zs6
def zo9 (x0 x1 : V) : M V :=
 zb (
 zb (
 zb (za (zct x1)) fun x6 =>
 zb (za (zu x0)) fun x8 =>
 zb (za (zg 9 x8)) fun x9 =>
 zb (z7 x9) fun x10 =>
 zb (za (zj .sub (Value.int .i64 1099511627776) x10)) fun x11 =>
 zb (za (zj .gtr x6 x11)) fun x12 =>
 zi x12 (
 ret (.ret [(Value.int .i64 2)])
 ) (
 ret (.nxt [x0, x1])
 )
 ) fun o => nx o z0k
 ) fun o => zcf o fun vs => ret (zca [(zc vs 0)])
def z2t : Hint := (.seq [] .leaf (.seq [0, 1] (.seq [] .leaf (.cond (.seq [] .leaf .leaf) .leaf)) (.seq [] .leaf (.seq [] .leaf (.seq [] (.blk (.loop [0] (.seq [0] (.seq [] .leaf (.cond .leaf .leaf)) (.blk (.seq [] (.reg [0, 1, 2, 3, 4, 5, 6, 7, 8] []) .leaf))))) (.seq [] .leaf .leaf))))))
def zk9 (l : List V) : M V := match l with | [x0, x1] => zo9 x0 x1 | _ => fail
def z2u : zp := ovr [(zl4, ziw)] noC
theorem zbez (x0 x1 : V) : zcs Tryz.prog (z2u) zq2 z2t [x0, x1] = zo9 x0 x1 := by kernel_rfl
theorem zbe0 : zy Tryz.prog zq2 (zk9) := zh (σ := z2u) (hint := z2t) (by kernel_rfl) (zd z2s ze) fun l H r H' h => by
 unfold zk9 at h; split at h
 · rw [zbez]; exact h
 · exact (zf h).elim
def zmp (x0 : V) : M V :=
 zb (
 zxv fun h0 =>
 zb (za (zu x0)) fun x4 =>
 zb (za (zg 0 x4)) fun x5 =>
 zb (za (zu x0)) fun x9 =>
 zb (za (zg 8 x9)) fun x10 =>
 zb (za (zu x0)) fun x14 =>
 zb (za (zg 9 x14)) fun x15 =>
 zb (ldn 8 x5) fun x6 =>
 zb (z7 x10) fun x11 =>
 zb (z7 x15) fun x16 =>
 zfq (zd7 1 0 (rep 0 [Value.int .u8 0]) []) fun ha x7 h1 =>
 zfq (ze6 1 1 x7 x11) fun ha_2 x12 h2 =>
 zb (za (build [Value.int .u32 0, Value.int .u32 0, Value.int .u32 0, Value.int .u32 0, Value.int .u32 0, Value.int .u32 0, Value.int .u32 0, Value.int .u32 0, Value.slice none 0 0, Value.int .i64 0] [(0, 8, x6), (8, 1, x12), (9, 1, x16)])) fun x17 =>
 zfq (zlw x17) fun ha_3 x18 h3 =>
 zdc (chk (ldn 8 x5) h1 x6) <|
 zdc (chk (ldn 8 x5) h2 x6) <|
 zdc (chk (z7 x10) h1 x11) <|
 zdc (chk (z7 x15) h1 x16) <|
 zdc (chk (z7 x15) h2 x16) <|
 ret (.ret [x18])
 ) fun o => zcf o fun vs => ret (zca [(zc vs 0)])
def z5e : Hint := (.seq [] .leaf (.seq [] (.reg [0, 1, 2, 5, 6, 7, 10, 11, 12, 3, 8, 13, 4, 9, 14, 15, 16] []) .leaf))
def zqr (l : List V) : M V := match l with | [x0] => zmp x0 | _ => fail
theorem zbgt (x0 : V) : zcs Tryz.prog (ovr [] noC) zsh z5e [x0] = zmp x0 := by kernel_rfl
theorem zbgu : zy Tryz.prog zsh (zqr) := zh (σ := ovr [] noC) (hint := z5e) (by kernel_rfl) ze fun l H r H' h => by
 unfold zqr at h; split at h
 · rw [zbgt]; exact h
 · exact (zf h).elim
def z5f (vs_3 : List V) : M Out :=
 zb (za (zj .sub (zc vs_3 3) (Value.int .i64 1))) fun x30 =>
 ret (.nxt [(zc vs_3 0), (zc vs_3 1), (zc vs_3 2), x30])
def z5g (vs_2 : List V) : M Out :=
 zb (
 zb (
 zb (za (zj .mul (Value.int .i64 8) (zc vs_2 3))) fun x34 =>
 zb (za (zj .shr (zc vs_2 1) x34)) fun x35 =>
 zb (za (cvi .u8 x35)) fun x36 =>
 zb (zd7 1 1 (rep 1 [Value.int .u8 0]) [(0, 1, x36)]) fun x37 =>
 zb (ze6 1 1 (zc vs_2 2) x37) fun x38 =>
 ret (.nxt [(zc vs_2 0), (zc vs_2 1), x38, (zc vs_2 3)])
 ) fun o => ret (zw 1 o)
 ) fun o => nx o z5f
def zqs (vs : List V) : M Out :=
 zb (
 zb (za (zj .geq (zc vs 3) (Value.int .i64 0))) fun x28 =>
 zi x28 (
 ret (.nxt [(zc vs 0), (zc vs 1), (zc vs 2), (zc vs 3)])
 ) (
 ret (.brk 0 [(zc vs 0), (zc vs 2)])
 )
 ) fun o => nx o z5g
def z5h (vs_7 : List V) : M Out :=
 zb (za (zu (zc vs_7 0))) fun x56 =>
 zb (za (zg 8 x56)) fun x57 =>
 zb (z7 x57) fun x58 =>
 zb (za (zh7 1 x58 (some (Value.int .i64 64)) none)) fun x59 =>
 zb (za (zu (zc vs_7 0))) fun x60 =>
 zb (za (zg 8 x60)) fun x61 =>
 zb (st1 x61 x59) fun _ =>
 ret (.nxt [(zc vs_7 0)])
def z5i (vs_6 : List V) : M Out :=
 zb (
 zb (
 zb (za (zu (zc vs_6 0))) fun x63 =>
 zb (za (zg 0 x63)) fun x64 =>
 zb (za (zu (zc vs_6 0))) fun x66 =>
 zb (za (zg 8 x66)) fun x67 =>
 zb (z7 x67) fun x68 =>
 zb (za (zh7 1 x68 none (some (Value.int .i64 64)))) fun x69 =>
 zb (ziw [x64, x69]) fun x70 =>
 ret (.nxt [(zc vs_6 0)])
 ) fun o => ret (zw 3 o)
 ) fun o => nx o z5h
def zqt (vs_5 : List V) : M Out :=
 zb (
 zb (za (zu (zc vs_5 0))) fun x49 =>
 zb (za (zg 8 x49)) fun x50 =>
 zb (z7 x50) fun x51 =>
 zb (za (zb9 x51)) fun x52 =>
 zb (za (zj .gtr x52 (Value.int .i64 0))) fun x53 =>
 zi x53 (
 ret (.nxt [(zc vs_5 0)])
 ) (
 ret (.brk 2 [(zc vs_5 0)])
 )
 ) fun o => nx o z5i
def z5j (vs_11 : List V) : M Out :=
 zb (za (zj .add (zc vs_11 2) (Value.int .i64 1))) fun x92 =>
 ret (.nxt [(zc vs_11 0), (zc vs_11 1), x92])
def z5k (vs_10 : List V) : M Out :=
 zb (
 zb (
 zb (za (zbtp 8 (zc vs_10 1) (zc vs_10 2))) fun x77 =>
 zb (za (zj .shr x77 (Value.int .u64 24))) fun x80 =>
 zb (za (cvi .u8 x80)) fun x81 =>
 zb (za (zj .shr x77 (Value.int .u64 16))) fun x83 =>
 zb (za (cvi .u8 x83)) fun x84 =>
 zb (za (zj .shr x77 (Value.int .u64 8))) fun x86 =>
 zb (za (cvi .u8 x86)) fun x87 =>
 zb (za (cvi .u8 x77)) fun x89 =>
 zb (zd7 1 4 (rep 4 [Value.int .u8 0]) [(0, 1, x81), (1, 1, x84), (2, 1, x87), (3, 1, x89)]) fun x90 =>
 zb (ze6 1 1 (zc vs_10 0) x90) fun x91 =>
 ret (.nxt [x91, (zc vs_10 1), (zc vs_10 2)])
 ) fun o => ret (zw 5 o)
 ) fun o => nx o z5j
def zqu (vs_9 : List V) : M Out :=
 zb (za (zj .lss (zc vs_9 2) (Value.int .i64 8))) fun x76 =>
 zb (
 zi x76 (
 ret (.nxt [(zc vs_9 0), (zc vs_9 1), (zc vs_9 2)])
 ) (
 ret (.brk 4 [(zc vs_9 0)])
 )
 ) fun o => nx o z5k
def z5l (vs_12 : List V) : M Out :=
 zb (b2s (zc vs_12 0)) fun x94 =>
 ret (.ret [x94])
def z2v (vs_8 : List V) : M Out :=
 zb (
 zb (za (zu (zc vs_8 0))) fun x72 =>
 zb (za (zg 0 x72)) fun x73 =>
 zb (ldn 8 x73) fun x74 =>
 zb (
 zce zcc zqu [(Value.slice none 0 0), x74, (Value.int .i64 0)]
 ) fun o => ret (zw 4 o)
 ) fun o => nx o z5l
def z2w (vs_4 : List V) : M Out :=
 zb (za (zu (zc vs_4 0))) fun x41 =>
 zb (za (zg 8 x41)) fun x42 =>
 zb (z7 x42) fun x43 =>
 zb (ze6 1 1 x43 (zc vs_4 1)) fun x45 =>
 zb (za (zu (zc vs_4 0))) fun x46 =>
 zb (za (zg 8 x46)) fun x47 =>
 zb (st1 x47 x45) fun _ =>
 zb (
 zb (
 zce zcc zqt [(zc vs_4 0)]
 ) fun o => ret (zw 2 o)
 ) fun o => nx o z2v
def zs7 (x0 : V) : M V :=
 zb (
 zb (zqr [x0]) fun x11 =>
 zb (za (zu x0)) fun x13 =>
 zb (za (zg 9 x13)) fun x14 =>
 zb (z7 x14) fun x15 =>
 zb (za (cvi .u64 x15)) fun x16 =>
 zb (za (zj .mul x16 (Value.int .u64 8))) fun x17 =>
 zb (zd7 1 1 (rep 1 [Value.int .u8 0]) [(0, 1, (Value.int .u8 128))]) fun x18 =>
 zb (za (zu x0)) fun x20 =>
 zb (za (zg 9 x20)) fun x21 =>
 zb (z7 x21) fun x22 =>
 zb (za (zj .rem x22 (Value.int .i64 64))) fun x23 =>
 zb (za (zj .sub (Value.int .i64 119) x23)) fun x24 =>
 zb (za (zj .rem x24 (Value.int .i64 64))) fun x25 =>
 zb (appZ 1 1 [Value.int .u8 0] x18 x25) fun x26 =>
 zb (
 zb (
 zce zcc zqs [x11, x17, x26, (Value.int .i64 7)]
 ) fun o => ret (zw 0 o)
 ) fun o => nx o z2w
 ) fun o => zcf o fun vs => ret (zca [(zc vs 0)])
def z7p : Hint := (.seq [] .leaf (.seq [] .leaf (.seq [] .leaf (.seq [] .leaf (.seq [3, 5] (.seq [] .leaf (.blk (.loop [3, 4, 5, 6] (.seq [3, 4, 5, 6] (.seq [] .leaf (.cond .leaf .leaf)) (.seq [3, 4, 5, 6] (.blk .leaf) .leaf))))) (.seq [] .leaf (.seq [3] (.blk (.loop [3] (.seq [3] (.seq [] .leaf (.cond .leaf .leaf)) (.seq [3] (.blk (.reg [0, 1, 2, 3, 4, 5, 6, 7, 8] [])) .leaf)))) (.seq [] .leaf (.seq [7] (.seq [] .leaf (.blk (.loop [7, 74, 75] (.seq [] .leaf (.seq [7, 74, 75] (.cond .leaf .leaf) (.seq [7, 74, 75] (.blk (.seq [] .leaf .leaf)) .leaf)))))) (.seq [] .leaf .leaf))))))))))
def zol (l : List V) : M V := match l with | [x0] => zs7 x0 | _ => fail
def z7q : zp := ovr [(zsh, zqr), (zl4, ziw)] noC
theorem zbja (x0 : V) : zcs Tryz.prog (z7q) zt5 z7p [x0] = zs7 x0 := by kernel_rfl
theorem zbjb : zy Tryz.prog zt5 (zol) := zh (σ := z7q) (hint := z7p) (by kernel_rfl) (zd zbgu (zd z2s ze)) fun l H r H' h => by
 unfold zol at h; split at h
 · rw [zbja]; exact h
 · exact (zf h).elim
def z8s (x0 : V) : M V :=
 zb (
 zb (z8r []) fun x4 =>
 zb (zk9 [x4, x0]) fun x7 =>
 zb (zol [x4]) fun x9 =>
 ret (.ret [x9])
 ) fun o => zcf o fun vs => ret (zca [(zc vs 0)])
def zbl4 : Hint := (.seq [] .leaf (.seq [] .leaf (.seq [] .leaf (.seq [] .leaf .leaf))))
def zpa (l : List V) : M V := match l with | [x0] => z8s x0 | _ => fail
def zbl5 : zp := ovr [(z6o, z8r), (zq2, zk9), (zt5, zol)] noC
theorem zbvu (x0 : V) : zcs Tryz.prog (zbl5) zu8 zbl4 [x0] = z8s x0 := by kernel_rfl
theorem zbvv : zy Tryz.prog zu8 (zpa) := zh (σ := zbl5) (hint := zbl4) (by kernel_rfl) (zd zbvt (zd zbe0 (zd zbjb ze))) fun l H r H' h => by
 unfold zpa at h; split at h
 · rw [zbvu]; exact h
 · exact (zf h).elim
def zbda (vs_3 : List V) : M Out :=
 zb (za (zj .add (zc vs_3 2) (Value.int .i64 1))) fun x16 =>
 ret (.nxt [(zc vs_3 0), (zc vs_3 1), x16])
def zbdb (vs_2 : List V) : M Out :=
 zb (
 zb (
 zb (za (zei 64 1 (zc vs_2 1) (zc vs_2 2))) fun x11 =>
 zb (z7 x11) fun x12 =>
 zb (za (zj .xor x12 (zc vs_2 0))) fun x14 =>
 zb (za (zei 64 1 (zc vs_2 1) (zc vs_2 2))) fun x15 =>
 zb (st1 x15 x14) fun _ =>
 ret (.nxt [(zc vs_2 0), (zc vs_2 1), (zc vs_2 2)])
 ) fun o => ret (zw 1 o)
 ) fun o => nx o zbda
def z4i (vs : List V) : M Out :=
 zb (za (zj .lss (zc vs 2) (Value.int .i64 64))) fun x8 =>
 zb (
 zi x8 (
 ret (.nxt [(zc vs 0), (zc vs 1), (zc vs 2)])
 ) (
 ret (.brk 0 [(zc vs 1)])
 )
 ) fun o => nx o zbdb
def zbdc (vs_4 : List V) : M Out :=
 zb (za (subA 64 1 (zc vs_4 0) none none)) fun x17 =>
 zb (b2s x17) fun x18 =>
 ret (.ret [x18])
def z0l (x0 x1 : V) : M V :=
 zb (
 zb (ldn 64 x1) fun x6 =>
 zb (newc (List.replicate 64 (Value.int .u8 0))) fun x4 =>
 zb (stn 64 x4 x6) fun _ =>
 zb (
 zb (
 zce zcc z4i [x0, x4, (Value.int .i64 0)]
 ) fun o => ret (zw 0 o)
 ) fun o => nx o zbdc
 ) fun o => zcf o fun vs => ret (zca [(zc vs 0)])
def zbf3 : Hint := (.seq [] .leaf (.seq [] .leaf (.seq [4] (.seq [] .leaf (.blk (.loop [0, 4, 7] (.seq [] .leaf (.seq [0, 4, 7] (.cond .leaf .leaf) (.seq [0, 4, 7] (.blk (.seq [] .leaf .leaf)) .leaf)))))) (.seq [] .leaf .leaf))))
def zrv (l : List V) : M V := match l with | [x0, x1] => z0l x0 x1 | _ => fail
theorem zbqg (x0 x1 : V) : zcs Tryz.prog (ovr [] noC) zmu zbf3 [x0, x1] = z0l x0 x1 := by kernel_rfl
theorem zbqh : zy Tryz.prog zmu (zrv) := zh (σ := ovr [] noC) (hint := zbf3) (by kernel_rfl) ze fun l H r H' h => by
 unfold zrv at h; split at h
 · rw [zbqg]; exact h
 · exact (zf h).elim
def zba4 (vs : List V) : M Out :=
 zb (newc (List.replicate 64 (Value.int .u8 0))) fun x5 =>
 zb (za (subA 64 1 x5 none none)) fun x12 =>
 zb (cpy 1 x12 (zc vs 0)) fun x14 =>
 zb (za (some (Value.func (.func zmu) #[] #[x5]))) fun x15 =>
 zb (zxn (ovr [(zmu, zrv), (zu8, zpa)] noC) x15 [(Value.int .u8 92)]) fun x17 =>
 zb (zxn (ovr [(zmu, zrv), (zu8, zpa)] noC) x15 [(Value.int .u8 54)]) fun x19 =>
 zb (za (zj .add x19 (zc vs 1))) fun x21 =>
 zb (zpa [x21]) fun x22 =>
 zb (za (zj .add x17 x22)) fun x23 =>
 zb (zpa [x23]) fun x24 =>
 ret (.ret [x24])
def z2x (x0 x1 : V) : M V :=
 zb (
 zb (
 zb (za (zct x0)) fun x8 =>
 zb (za (zj .gtr x8 (Value.int .i64 64))) fun x9 =>
 zi x9 (
 zb (zpa [x0]) fun x11 =>
 ret (.nxt [x11, x1])
 ) (
 ret (.nxt [x0, x1])
 )
 ) fun o => nx o zba4
 ) fun o => zcf o fun vs => ret (zca [(zc vs 0)])
def zbl6 : Hint := (.seq [] .leaf (.seq [0, 1] (.seq [] .leaf (.cond .leaf .leaf)) (.seq [] .leaf (.seq [] .leaf (.seq [] .leaf (.seq [] .leaf .leaf))))))
def zla (l : List V) : M V := match l with | [x0, x1] => z2x x0 x1 | _ => fail
def zbl7 : zp := ovr [(zmu, zrv), (zu8, zpa)] noC
theorem zbvw (x0 x1 : V) : zcs Tryz.prog (zbl7) zrl zbl6 [x0, x1] = z2x x0 x1 := by kernel_rfl
theorem z8t : zy Tryz.prog zrl (zla) := zh (σ := zbl7) (hint := zbl6) (by kernel_rfl) (zd zbqh (zd zbvv ze)) fun l H r H' h => by
 unfold zla at h; split at h
 · rw [zbvw]; exact h
 · exact (zf h).elim
def z4j (x0 x1 : V) : M V :=
 zb (
 zb (zla [x0, x1]) fun x7 =>
 ret (.ret [x7])
 ) fun o => zcf o fun vs => ret (zca [(zc vs 0)])
def zbjc : Hint := (.seq [] .leaf (.seq [] .leaf .leaf))
def zyv (l : List V) : M V := match l with | [x0, x1] => z4j x0 x1 | _ => fail
def zbjd : zp := ovr [(zrl, zla)] noC
theorem zbsv (x0 x1 : V) : zcs Tryz.prog (zbjd) z36 zbjc [x0, x1] = z4j x0 x1 := by kernel_rfl
theorem zbsw : zy Tryz.prog z36 (zyv) := zh (σ := zbjd) (hint := zbjc) (by kernel_rfl) (zd z8t ze) fun l H r H' h => by
 unfold zyv at h; split at h
 · rw [zbsv]; exact h
 · exact (zf h).elim
def zxb (x0 x1 x2 : V) : M V :=
 zb (
 zb (zs1 [x2]) fun x11 =>
 zb (za (zj .add x1 x11)) fun x12 =>
 zb (za (zj .add (Value.string ⟨#[108, 111, 103, 105, 110]⟩) x12)) fun x15 =>
 zb (zla [x0, x15]) fun x16 =>
 zb (za (zj .add (Value.string ⟨#[115, 101, 115, 115, 105, 111, 110]⟩) x12)) fun x19 =>
 zb (zyv [x0, x19]) fun x20 =>
 ret (.ret [x16, x20])
 ) fun o => zcf o fun vs => ret (zca [(zc vs 0), (zc vs 1)])
def zbdd : Hint := (.seq [] .leaf (.seq [] .leaf (.seq [] .leaf .leaf)))
def zj7 (l : List V) : M V := match l with | [x0, x1, x2] => zxb x0 x1 x2 | _ => fail
def zbde : zp := ovr [(zx1, zs1), (zrl, zla), (z36, zyv)] noC
theorem zbn0 (x0 x1 x2 : V) : zcs Tryz.prog (zbde) znq zbdd [x0, x1, x2] = zxb x0 x1 x2 := by kernel_rfl
theorem zbdf : zy Tryz.prog znq (zj7) := zh (σ := zbde) (hint := zbdd) (by kernel_rfl) (zd zbnz (zd z8t (zd zbsw ze))) fun l H r H' h => by
 unfold zj7 at h; split at h
 · rw [zbn0]; exact h
 · exact (zf h).elim
def zbdg (vs_4 : List V) : M Out :=
 zb (za (zj .add (zc vs_4 4) (Value.int .i64 1))) fun x26 =>
 ret (.nxt [(zc vs_4 0), (zc vs_4 1), (zc vs_4 2), (zc vs_4 3), x26])
def zbdh (vs_3 : List V) : M Out :=
 zb (
 zb (
 zb (za (zk1 (zc vs_3 0) (zc vs_3 4))) fun x20 =>
 zb (za (zk1 (zc vs_3 1) (zc vs_3 4))) fun x23 =>
 zb (za (zj .xor x20 x23)) fun x24 =>
 zb (za (zj .or (zc vs_3 2) x24)) fun x25 =>
 ret (.nxt [(zc vs_3 0), (zc vs_3 1), x25, (zc vs_3 3), (zc vs_3 4)])
 ) fun o => ret (zw 1 o)
 ) fun o => nx o zbdg
def z4k (vs_2 : List V) : M Out :=
 zb (za (zj .lss (zc vs_2 4) (zc vs_2 3))) fun x15 =>
 zb (
 zi x15 (
 ret (.nxt [(zc vs_2 0), (zc vs_2 1), (zc vs_2 2), (zc vs_2 3), (zc vs_2 4)])
 ) (
 ret (.brk 0 [(zc vs_2 2)])
 )
 ) fun o => nx o zbdh
def zbdi (vs_5 : List V) : M Out :=
 zb (za (zj .eql (zc vs_5 0) (Value.int .u8 0))) fun x28 =>
 ret (.ret [x28])
def zbdj (vs : List V) : M Out :=
 zb (
 zb (za (zct (zc vs 0))) fun x13 =>
 zb (
 zce zcc z4k [(zc vs 0), (zc vs 1), (Value.int .u8 0), x13, (Value.int .i64 0)]
 ) fun o => ret (zw 0 o)
 ) fun o => nx o zbdi
def zvc (x0 x1 : V) : M V :=
 zb (
 zb (
 zb (za (zct x0)) fun x8 =>
 zb (za (zct x1)) fun x10 =>
 zb (za (zj .neq x8 x10)) fun x11 =>
 zi x11 (
 ret (.ret [(Value.bool false)])
 ) (
 ret (.nxt [x0, x1])
 )
 ) fun o => nx o zbdj
 ) fun o => zcf o fun vs => ret (zca [(zc vs 0)])
def zbf4 : Hint := (.seq [] .leaf (.seq [0, 1] (.seq [] .leaf (.cond (.seq [] .leaf .leaf) .leaf)) (.seq [] .leaf (.seq [5] (.seq [] .leaf (.blk (.loop [0, 1, 5, 13, 14] (.seq [] .leaf (.seq [0, 1, 5, 13, 14] (.cond .leaf .leaf) (.seq [0, 1, 5, 13, 14] (.blk (.seq [] .leaf (.reg [0, 1, 2, 3, 4, 5, 6, 7, 8, 9] []))) .leaf)))))) (.seq [] .leaf .leaf)))))
def zom (l : List V) : M V := match l with | [x0, x1] => zvc x0 x1 | _ => fail
theorem zbqi (x0 x1 : V) : zcs Tryz.prog (ovr [] noC) zuk zbf4 [x0, x1] = zvc x0 x1 := by kernel_rfl
theorem zbf5 : zy Tryz.prog zuk (zom) := zh (σ := ovr [] noC) (hint := zbf4) (by kernel_rfl) ze fun l H r H' h => by
 unfold zom at h; split at h
 · rw [zbqi]; exact h
 · exact (zf h).elim
def zlb (vs : List V) : M Out :=
 zb (za (zu (zc vs 0))) fun x13 =>
 zb (za (zg 0 x13)) fun x14 =>
 zb (z7 x14) fun x15 =>
 zb (za (zj .add x15 (Value.int .i64 1))) fun x16 =>
 zb (za (zu (zc vs 0))) fun x17 =>
 zb (za (zg 0 x17)) fun x18 =>
 zb (st1 x18 x16) fun _ =>
 zu5 2 fun base h0 =>
 zb (za (zu (zc vs 0))) fun x22 =>
 zb (za (zg 1 x22)) fun x23 =>
 zb (za (zu (zc vs 0))) fun x26 =>
 zb (za (zg 0 x26)) fun x27 =>
 zb (za (zu (zc vs 0))) fun x32 =>
 zb (za (zg 2 x32)) fun x33 =>
 zb (z7 x23) fun x24 =>
 zb (z7 x27) fun x28 =>
 zb (z7 x33) fun x34 =>
 zb (ldn 6 (zc vs 1)) fun x35 =>
 zb (flt (base + 0) (zd7 1 1 (rep 1 [Value.int .i64 0]) [(0, 1, x28)])) fun x29 =>
 zfq (ze6 1 8 x24 x29) fun ha x30 h1 =>
 zdc (zej ha [base + 1] && zej h1 [base + 1]) <|
 zb (flt (base + 1) (zd7 6 1 (rep 1 [Value.string ⟨#[]⟩, Value.string ⟨#[]⟩, Value.slice none 0 0, Value.string ⟨#[]⟩, Value.int .i64 0, Value.int .i64 0]) [(0, 6, x35)])) fun x36 =>
 zfq (ze6 6 88 x34 x36) fun ha_2 x37 h2 =>
 zb (za (zu (zc vs 0))) fun x38 =>
 zb (za (zg 1 x38)) fun x39 =>
 zfq (st1 x39 x30) fun ha_3 u h3 =>
 zb (za (zu (zc vs 0))) fun x40 =>
 zb (za (zg 2 x40)) fun x41 =>
 zfq (st1 x41 x37) fun ha_4 u_2 h4 =>
 zdc (chk (z7 x33) h1 x34) <|
 zdc (chk (ldn 6 (zc vs 1)) h1 x35) <|
 zb (za (zu (zc vs 0))) fun x43 =>
 zb (za (zg 0 x43)) fun x44 =>
 zb (z7 x44) fun x45 =>
 ret (.ret [x45, (Value.bool true)])
def zdm (x0 x1 : V) : M V :=
 zb (
 zb (zlw x1) fun x3 =>
 zb (
 zb (za (zu x0)) fun x7 =>
 zb (za (zg 2 x7)) fun x8 =>
 zb (z7 x8) fun x9 =>
 zb (za (zb9 x9)) fun x10 =>
 zb (za (zj .eql x10 (Value.int .i64 8))) fun x11 =>
 zi x11 (
 ret (.ret [(Value.int .i64 0), (Value.bool false)])
 ) (
 ret (.nxt [x0, x3])
 )
 ) fun o => nx o zlb
 ) fun o => zcf o fun vs => ret (zca [(zc vs 0), (zc vs 1)])
def zlt : Hint := (.seq [] .leaf (.seq [0, 3] (.seq [] .leaf (.cond (.seq [] .leaf .leaf) .leaf)) (.seq [] .leaf (.seq [] (.reg [0, 1, 2, 3, 4, 6, 7, 8, 12, 13, 14, 5, 9, 15, 16, 10, 11, 17, 18, 19, 20, 21, 22, 23, 24] [10, 17]) (.seq [] .leaf .leaf)))))
def zc2 (l : List V) : M V := match l with | [x0, x1] => zdm x0 x1 | _ => fail
theorem zvd (x0 x1 : V) : zcs Tryz.prog (ovr [] noC) zgs zlt [x0, x1] = zdm x0 x1 := by kernel_rfl
theorem zve : zy Tryz.prog zgs (zc2) := zh (σ := ovr [] noC) (hint := zlt) (by kernel_rfl) ze fun l H r H' h => by
 unfold zc2 at h; split at h
 · rw [zvd]; exact h
 · exact (zf h).elim
def zyw (vs_3 : List V) : M Out :=
 ret (.ret [(zc vs_3 0), (Value.int .i64 0)])
def zyx (vs_2 : List V) : M Out :=
 zb (za (zu (zc vs_2 0))) fun x45 =>
 zb (za (zg 6 x45)) fun x46 =>
 zb (za (zg 0 (zc vs_2 1))) fun x47 =>
 zb (za (zu (zc vs_2 0))) fun x51 =>
 zb (za (zg 2 x51)) fun x52 =>
 zb (ldn 3 x47) fun x48 =>
 zb (z7 x52) fun x53 =>
 zb (za (build [Value.string ⟨#[]⟩, Value.string ⟨#[]⟩, Value.slice none 0 0, Value.string ⟨#[]⟩, Value.int .i64 0, Value.int .i64 0] [(0, 3, x48), (3, 1, (zc vs_2 2)), (4, 1, (Value.int .i64 1)), (5, 1, x53)])) fun x54 =>
 zb (zc2 [x46, x54]) fun x55 =>
 zb (za (ext 0 x55)) fun x56 =>
 zb (za (ext 1 x55)) fun x57 =>
 zb (
 zb (za (un .not x57)) fun x59 =>
 zi x59 (
 ret (.ret [(Value.int .i64 0), (Value.int .i64 2)])
 ) (
 ret (.nxt [x56])
 )
 ) fun o => nx o zyw
def zyy (vs : List V) : M Out :=
 zb (za (zu (zc vs 3))) fun x22 =>
 zb (ldn 5 x22) fun x23 =>
 zb (newc [Value.string ⟨#[]⟩, Value.string ⟨#[]⟩, Value.slice none 0 0, Value.string ⟨#[]⟩, Value.int .i64 0]) fun x9 =>
 zb (stn 5 x9 x23) fun _ =>
 zb (za (zu (zc vs 0))) fun x25 =>
 zb (za (zg 3 x25)) fun x26 =>
 zb (zc5 [x26, (zc vs 1)]) fun x28 =>
 zb (za (zg 0 x9)) fun x30 =>
 zb (za (zg 1 x30)) fun x31 =>
 zb (z7 x31) fun x32 =>
 zb (za (zg 3 x9)) fun x33 =>
 zb (z7 x33) fun x34 =>
 zb (zj7 [x32, x34, (zc vs 1)]) fun x36 =>
 zb (za (ext 0 x36)) fun x37 =>
 zb (za (ext 1 x36)) fun x38 =>
 zb (
 zb (zom [x37, (zc vs 2)]) fun x41 =>
 zb (za (un .not x41)) fun x42 =>
 zi x42 (
 ret (.ret [(Value.int .i64 0), (Value.int .i64 20)])
 ) (
 ret (.nxt [(zc vs 0), x9, x38])
 )
 ) fun o => nx o zyx
def zng (x0 x1 x2 : V) : M V :=
 zb (
 zb (za (zu x0)) fun x15 =>
 zb (za (zg 3 x15)) fun x16 =>
 zb (zdb [x16, x1]) fun x18 =>
 zb (
 zb (za (zia false (isNil .p x18))) fun x20 =>
 zi x20 (
 ret (.ret [(Value.int .i64 0), (Value.int .i64 5)])
 ) (
 ret (.nxt [x0, x1, x2, x18])
 )
 ) fun o => nx o zyy
 ) fun o => zcf o fun vs => ret (zca [(zc vs 0), (zc vs 1)])
def z0m : Hint := (.seq [] .leaf (.seq [] .leaf (.seq [0, 1, 2, 8] (.seq [] .leaf (.cond (.seq [] .leaf .leaf) .leaf)) (.seq [] .leaf (.seq [] .leaf (.seq [] .leaf (.seq [0, 9, 11] (.seq [] .leaf (.cond (.seq [] .leaf .leaf) .leaf)) (.seq [] (.reg [0, 1, 2, 3, 5, 6, 7, 8, 4, 9, 10, 11, 12, 13, 14, 15, 16] []) (.seq [12] (.seq [] .leaf (.cond (.seq [] .leaf .leaf) .leaf)) (.seq [] .leaf .leaf))))))))))
def zeq (l : List V) : M V := match l with | [x0, x1, x2] => zng x0 x1 x2 | _ => fail
def z0n : zp := ovr [(zf7, zdb), (zfv, zc5), (znq, zj7), (zuk, zom), (zgs, zc2)] noC
theorem zbdk (x0 x1 x2 : V) : zcs Tryz.prog (z0n) zgn z0m [x0, x1, x2] = zng x0 x1 x2 := by kernel_rfl
theorem z0o : zy Tryz.prog zgn (zeq) := zh (σ := z0n) (hint := z0m) (by kernel_rfl) (zd zt0 (zd zs0 (zd zbdf (zd zbf5 (zd zve ze))))) fun l H r H' h => by
 unfold zeq at h; split at h
 · rw [zbdk]; exact h
 · exact (zf h).elim
def zwa (vs_5 : List V) : M Out :=
 zb (za (zu (zc vs_5 0))) fun x78 =>
 zb (za (zg 6 x78)) fun x79 =>
 zb (z7 x79) fun x80 =>
 zb (za (zj .add x80 (Value.int .i64 1))) fun x81 =>
 zb (za (zu (zc vs_5 0))) fun x82 =>
 zb (za (zg 6 x82)) fun x83 =>
 zb (st1 x83 x81) fun _ =>
 zu5 2 fun base_2 h0_2 =>
 zb (za (zu (zc vs_5 0))) fun x87 =>
 zb (za (zg 4 x87)) fun x88 =>
 zb (za (zu (zc vs_5 0))) fun x92 =>
 zb (za (zg 6 x92)) fun x93 =>
 zb (za (zg 1 (zc vs_5 1))) fun x95 =>
 zb (za (zu (zc vs_5 0))) fun x98 =>
 zb (za (zg 2 x98)) fun x99 =>
 zb (z7 x88) fun x89 =>
 zb (z7 x93) fun x94 =>
 zb (z7 x95) fun x96 =>
 zb (z7 x99) fun x100 =>
 zb (za (build [Value.int .i64 0, Value.int .i64 0, Value.int .i64 0, Value.int .i64 0, Value.string ⟨#[]⟩] [(0, 1, x94), (1, 1, x96), (2, 1, (Value.int .i64 1)), (3, 1, x100), (4, 1, (zc vs_5 2))])) fun x102 =>
 zb (flt (base_2 + 0) (zd7 5 0 (rep 0 [Value.int .i64 0, Value.int .i64 0, Value.int .i64 0, Value.int .i64 0, Value.string ⟨#[]⟩]) [])) fun x85 =>
 zfq (ze6 5 48 x85 x89) fun ha_5 x90 h1_2 =>
 zdc (zej ha_5 [base_2 + 1] && zej h1_2 [base_2 + 1]) <|
 zb (flt (base_2 + 1) (zd7 5 1 (rep 1 [Value.int .i64 0, Value.int .i64 0, Value.int .i64 0, Value.int .i64 0, Value.string ⟨#[]⟩]) [(0, 5, x102)])) fun x103 =>
 zfq (ze6 5 48 x90 x103) fun ha_6 x104 h2_2 =>
 zb (za (zu (zc vs_5 0))) fun x105 =>
 zb (za (zg 4 x105)) fun x106 =>
 zfq (st1 x106 x104) fun ha_7 u_2 h3_2 =>
 zdc (chk (z7 x93) h1_2 x94) <|
 zdc (chk (z7 x95) h1_2 x96) <|
 zdc (chk (z7 x99) h1_2 x100) <|
 zb (za (zu (zc vs_5 0))) fun x108 =>
 zb (za (zg 6 x108)) fun x109 =>
 zb (z7 x109) fun x110 =>
 ret (.ret [x110, (Value.int .i64 0)])
def zpu (vs_4 : List V) : M Out :=
 zb (
 zb (za (zu (zc vs_4 0))) fun x72 =>
 zb (za (zg 4 x72)) fun x73 =>
 zb (z7 x73) fun x74 =>
 zb (za (zb9 x74)) fun x75 =>
 zb (za (zj .geq x75 (Value.int .i64 8))) fun x76 =>
 zi x76 (
 ret (.ret [(Value.int .i64 0), (Value.int .i64 2)])
 ) (
 ret (.nxt [(zc vs_4 0), (zc vs_4 1), (zc vs_4 2)])
 )
 ) fun o => nx o zwa
def zwb (vs_3 : List V) : M Out :=
 zxv fun h0 =>
 zb (za (zu (zc vs_3 0))) fun x35 =>
 zb (za (zg 3 x35)) fun x36 =>
 zb (za (zu (zc vs_3 0))) fun x42 =>
 zb (za (zg 3 x42)) fun x43 =>
 zb (za (zj .add (zc vs_3 2) (Value.int .i64 1))) fun x46 =>
 zb (z7 x36) fun x37 =>
 zb (za (zh7 4 x37 none (some (zc vs_3 2)))) fun x39 =>
 zb (z7 x43) fun x44 =>
 zb (za (zh7 4 x44 (some x46) none)) fun x47 =>
 zfq (zd7 4 0 (rep 0 [Value.int .i64 0, Value.int .i64 0, Value.int .i64 0, Value.string ⟨#[]⟩]) []) fun ha x33 h1 =>
 zfq (ze6 4 40 x33 x39) fun ha_2 x40 h2 =>
 zfq (ze6 4 40 x40 x47) fun ha_3 x48 h3 =>
 zb (za (zu (zc vs_3 0))) fun x49 =>
 zb (za (zg 3 x49)) fun x50 =>
 zfq (st1 x50 x48) fun ha_4 u h4 =>
 zdc (chk (z7 x36) h1 x37) <|
 zdc (chk (z7 x43) h1 x44) <|
 zdc (chk (z7 x43) h2 x44) <|
 zb (za (zu (zc vs_3 0))) fun x53 =>
 zb (za (zg 0 x53)) fun x54 =>
 zb (za (zg 1 (zc vs_3 3))) fun x56 =>
 zb (za (zg 3 (zc vs_3 3))) fun x61 =>
 zb (za (zg 0 (zc vs_3 3))) fun x63 =>
 zb (z7 x54) fun x55 =>
 zb (z7 x56) fun x57 =>
 zb (za (zv 3 x55 x57)) fun x58 =>
 zb (za (zg 1 x58)) fun x59 =>
 zb (z7 x59) fun x60 =>
 zb (z7 x61) fun x62 =>
 zb (z7 x63) fun x64 =>
 zb (zkk [x60, x62, x64]) fun x65 =>
 zb (za (ext 0 x65)) fun x66 =>
 zb (za (ext 1 x65)) fun x67 =>
 zb (
 zb (za (zj .neq (zc vs_3 1) x66)) fun x70 =>
 zi x70 (
 ret (.ret [(Value.int .i64 0), (Value.int .i64 20)])
 ) (
 ret (.nxt [(zc vs_3 0), (zc vs_3 3), x67])
 )
 ) fun o => nx o zpu
def zwc (vs_6 : List V) : M Out :=
 zb (za (zj .add (zc vs_6 3) (Value.int .i64 1))) fun x20 =>
 ret (.nxt [(zc vs_6 0), (zc vs_6 1), (zc vs_6 2), x20])
def zwd (vs_2 : List V) : M Out :=
 zb (
 zb (
 zb (za (zu (zc vs_2 0))) fun x22 =>
 zb (za (zg 3 x22)) fun x23 =>
 zb (z7 x23) fun x24 =>
 zb (za (zv 4 x24 (zc vs_2 3))) fun x26 =>
 zb (ldn 4 x26) fun x27 =>
 zb (newc [Value.int .i64 0, Value.int .i64 0, Value.int .i64 0, Value.string ⟨#[]⟩]) fun x9 =>
 zb (stn 4 x9 x27) fun _ =>
 zb (
 zb (za (zg 0 x9)) fun x28 =>
 zb (z7 x28) fun x29 =>
 zb (za (zj .neq x29 (zc vs_2 1))) fun x31 =>
 zi x31 (
 ret (.brk 1 [(zc vs_2 0), (zc vs_2 1), (zc vs_2 2), (zc vs_2 3)])
 ) (
 ret (.nxt [(zc vs_2 0), (zc vs_2 2), (zc vs_2 3), x9])
 )
 ) fun o => nx o zwb
 ) fun o => ret (zw 1 o)
 ) fun o => nx o zwc
def zpv (vs : List V) : M Out :=
 zb (
 zb (za (zu (zc vs 0))) fun x14 =>
 zb (za (zg 3 x14)) fun x15 =>
 zb (z7 x15) fun x16 =>
 zb (za (zb9 x16)) fun x17 =>
 zb (za (zj .lss (zc vs 3) x17)) fun x18 =>
 zi x18 (
 ret (.nxt [(zc vs 0), (zc vs 1), (zc vs 2), (zc vs 3)])
 ) (
 ret (.brk 0 [])
 )
 ) fun o => nx o zwd
def zwe (vs_7 : List V) : M Out :=
 ret (.ret [(Value.int .i64 0), (Value.int .i64 5)])
def zma (x0 x1 x2 : V) : M V :=
 zb (
 zb (
 zb (
 zce zcc zpv [x0, x1, x2, (Value.int .i64 0)]
 ) fun o => ret (zw 0 o)
 ) fun o => nx o zwe
 ) fun o => zcf o fun vs => ret (zca [(zc vs 0), (zc vs 1)])
def zyz : Hint := (.seq [] .leaf (.seq [] (.seq [] .leaf (.blk (.loop [0, 1, 2, 8] (.seq [0, 1, 2, 8] (.seq [] .leaf (.cond .leaf .leaf)) (.seq [0, 1, 2, 8] (.blk (.seq [] .leaf (.seq [0, 2, 8, 9] (.seq [] .leaf (.cond .leaf .leaf)) (.seq [] (.reg [0, 2, 3, 4, 6, 9, 10, 11, 13, 14, 5, 7, 12, 15, 1, 8, 16, 17, 18, 19] []) (.seq [] (.reg [0, 1, 2, 4, 9, 11, 3, 5, 6, 7, 8, 10, 12, 13, 14, 15, 16, 17, 18] []) (.seq [0, 9, 11] (.seq [] .leaf (.cond (.seq [] .leaf .leaf) .leaf)) (.seq [0, 9, 11] (.seq [] .leaf (.cond (.seq [] .leaf .leaf) .leaf)) (.seq [] .leaf (.seq [] (.reg [0, 2, 3, 4, 7, 8, 9, 11, 13, 14, 15, 17, 5, 10, 12, 16, 18, 1, 6, 19, 20, 21, 22, 23] [1, 19]) (.seq [] .leaf .leaf)))))))))) .leaf))))) (.seq [] .leaf .leaf)))
def zg6 (l : List V) : M V := match l with | [x0, x1, x2] => zma x0 x1 x2 | _ => fail
def zy0 : zp := ovr [(zql, zkk)] noC
theorem zba5 (x0 x1 x2 : V) : zcs Tryz.prog (zy0) zjw zyz [x0, x1, x2] = zma x0 x1 x2 := by kernel_rfl
theorem zba6 : zy Tryz.prog zjw (zg6) := zh (σ := zy0) (hint := zyz) (by kernel_rfl) (zd z9t ze) fun l H r H' h => by
 unfold zg6 at h; split at h
 · rw [zba5]; exact h
 · exact (zf h).elim
def z4l (x0 x1 : V) : M V :=
 zb (
 zb (za (build [Value.int .i64 0, Value.int .i64 0] [(0, 1, x0), (1, 1, x1)])) fun x7 =>
 zb (za (build [Value.int .i64 0, Value.int .i64 0] [(0, 2, x7)])) fun x8 =>
 zb (za (some (Value.iface zbgp x8))) fun x9 =>
 ret (.ret [x9])
 ) fun o => zcf o fun vs => ret (zca [(zc vs 0)])
def zbje : Hint := (.seq [] .leaf (.seq [] .leaf .leaf))
def zh9 (l : List V) : M V := match l with | [x0, x1] => z4l x0 x1 | _ => fail
theorem zbsx (x0 x1 : V) : zcs Tryz.prog (ovr [] noC) zwr zbje [x0, x1] = z4l x0 x1 := by kernel_rfl
theorem zbjf : zy Tryz.prog zwr (zh9) := zh (σ := ovr [] noC) (hint := zbje) (by kernel_rfl) ze fun l H r H' h => by
 unfold zh9 at h; split at h
 · rw [zbsx]; exact h
 · exact (zf h).elim
def z2y (vs_3 : List V) : M Out :=
 zb (za (zj .add (zc vs_3 3) (Value.int .i64 1))) fun x16 =>
 ret (.nxt [(zc vs_3 0), (zc vs_3 1), (zc vs_3 2), x16])
def z2z (vs_2 : List V) : M Out :=
 zb (
 zb (
 zb (za (zj .shl (zc vs_2 1) (Value.int .u64 8))) fun x10 =>
 zb (za (zk1 (zc vs_2 0) (zc vs_2 3))) fun x13 =>
 zb (za (cvi .u64 x13)) fun x14 =>
 zb (za (zj .or x10 x14)) fun x15 =>
 ret (.nxt [(zc vs_2 0), x15, (zc vs_2 2), (zc vs_2 3)])
 ) fun o => ret (zw 1 o)
 ) fun o => nx o z2y
def zua (vs : List V) : M Out :=
 zb (za (zj .lss (zc vs 3) (zc vs 2))) fun x7 =>
 zb (
 zi x7 (
 ret (.nxt [(zc vs 0), (zc vs 1), (zc vs 2), (zc vs 3)])
 ) (
 ret (.brk 0 [(zc vs 1)])
 )
 ) fun o => nx o z2z
def z20 (vs_4 : List V) : M Out :=
 ret (.ret [(zc vs_4 0)])
def zqv (x0 : V) : M V :=
 zb (
 zb (
 zb (za (zct x0)) fun x5 =>
 zb (
 zce zcc zua [x0, (Value.int .u64 0), x5, (Value.int .i64 0)]
 ) fun o => ret (zw 0 o)
 ) fun o => nx o z20
 ) fun o => zcf o fun vs => ret (zca [(zc vs 0)])
def z5m : Hint := (.seq [] .leaf (.seq [2] (.seq [] .leaf (.blk (.loop [0, 2, 5, 6] (.seq [] .leaf (.seq [0, 2, 5, 6] (.cond .leaf .leaf) (.seq [0, 2, 5, 6] (.blk (.seq [] .leaf .leaf)) .leaf)))))) (.seq [] .leaf .leaf)))
def zfs (l : List V) : M V := match l with | [x0] => zqv x0 | _ => fail
theorem zbgv (x0 : V) : zcs Tryz.prog (ovr [] noC) zm5 z5m [x0] = zqv x0 := by kernel_rfl
theorem z5n : zy Tryz.prog zm5 (zfs) := zh (σ := ovr [] noC) (hint := z5m) (by kernel_rfl) ze fun l H r H' h => by
 unfold zfs at h; split at h
 · rw [zbgv]; exact h
 · exact (zf h).elim
def z4m (vs : List V) : M Out :=
 zxv fun h0_3 =>
 zb (ldn 3 (zc vs 1)) fun x73 =>
 zfq (zh9 [(zc vs 0), (Value.int .i64 30)]) fun ha_5 x75 h1_3 =>
 zfq (stn 3 (zc vs 1) x73) fun ha_6 u_3 h2_3 =>
 zdc (chk (ldn 3 (zc vs 1)) h1_3 x73) <|
 ret (.ret [(zc vs 1), (Value.int .i64 0), x75])
def z0p (x0 x1 : V) : M V :=
 zb (
 zb (newc [Value.bool false, Value.int .i64 0, Value.string ⟨#[]⟩]) fun x4 =>
 zb (za (zp0 x0 (some x1) none)) fun x11 =>
 zb (
 zb (
 zb (za (zj .eql x11 (Value.string ⟨#[]⟩))) fun x14 =>
 zi x14 (
 zxv fun h0 =>
 zb (ldn 3 x4) fun x15 =>
 zfq (zh9 [x1, (Value.int .i64 30)]) fun ha x17 h1 =>
 zfq (stn 3 x4 x15) fun ha_2 u h2 =>
 zdc (chk (ldn 3 x4) h1 x15) <|
 ret (.ret [x4, (Value.int .i64 0), x17])
 ) (
 zb (za (zk1 x11 (Value.int .i64 0))) fun x20 =>
 zb (za (zj .eql x20 (Value.int .u8 35))) fun x21 =>
 zb (gd x21 true (za (some x11))) fun x23 =>
 zb (gd x21 true (za (zct x23))) fun x24 =>
 zb (gd x21 true (za (zj .geq x24 (Value.int .i64 9)))) fun x25 =>
 zb (za (zcq x21 x25 (Value.bool false))) fun x26 =>
 zi x26 (
 zb (za (zp0 x11 (some (Value.int .i64 1)) (some (Value.int .i64 9)))) fun x28 =>
 zb (zfs [x28]) fun x29 =>
 zb (za (cvi .i64 x29)) fun x30 =>
 zb (za (build [Value.bool false, Value.int .i64 0, Value.string ⟨#[]⟩] [(1, 1, x30)])) fun x31 =>
 zb (za (zj .add x1 (Value.int .i64 9))) fun x33 =>
 zb (stn 3 x4 x31) fun _ =>
 ret (.ret [x4, x33, Value.nilIface])
 ) (
 zb (za (zk1 x11 (Value.int .i64 0))) fun x36 =>
 zb (za (zj .eql x36 (Value.int .u8 36))) fun x37 =>
 zb (gd x37 true (za (some x11))) fun x39 =>
 zb (gd x37 true (za (zct x39))) fun x40 =>
 zb (gd x37 true (za (zj .geq x40 (Value.int .i64 3)))) fun x41 =>
 zb (za (zcq x37 x41 (Value.bool false))) fun x42 =>
 zi x42 (
 zb (za (zp0 x11 (some (Value.int .i64 1)) (some (Value.int .i64 3)))) fun x44 =>
 zb (zfs [x44]) fun x45 =>
 zb (za (cvi .i64 x45)) fun x46 =>
 zb (za (zct x11)) fun x48 =>
 zb (za (zj .add (Value.int .i64 3) x46)) fun x50 =>
 zb (za (zj .geq x48 x50)) fun x51 =>
 zi x51 (
 zb (za (zj .add (Value.int .i64 3) x46)) fun x54 =>
 zb (za (zp0 x11 (some (Value.int .i64 3)) (some x54))) fun x55 =>
 zb (za (build [Value.bool false, Value.int .i64 0, Value.string ⟨#[]⟩] [(0, 1, (Value.bool true)), (2, 1, x55)])) fun x56 =>
 zb (za (zj .add x1 (Value.int .i64 3))) fun x58 =>
 zb (za (zj .add x58 x46)) fun x60 =>
 zb (stn 3 x4 x56) fun _ =>
 ret (.ret [x4, x60, Value.nilIface])
 ) (
 ret (.nxt [x1, x4])
 )
 ) (
 zb (za (zk1 x11 (Value.int .i64 0))) fun x63 =>
 zb (za (zj .neq x63 (Value.int .u8 35))) fun x64 =>
 zb (gd x64 true (za (some x11))) fun x66 =>
 zb (gd x64 true (za (zk1 x66 (Value.int .i64 0)))) fun x67 =>
 zb (gd x64 true (za (zj .neq x67 (Value.int .u8 36)))) fun x68 =>
 zb (za (zcq x64 x68 (Value.bool false))) fun x69 =>
 zi x69 (
 zxv fun h0_2 =>
 zb (ldn 3 x4) fun x70 =>
 zfq (zh9 [x1, (Value.int .i64 3)]) fun ha_3 x72 h1_2 =>
 zfq (stn 3 x4 x70) fun ha_4 u_2 h2_2 =>
 zdc (chk (ldn 3 x4) h1_2 x70) <|
 ret (.ret [x4, (Value.int .i64 0), x72])
 ) (
 ret (.nxt [x1, x4])
 )
 )
 )
 )
 ) fun o => ret (zw 0 o)
 ) fun o => nx o z4m
 ) fun o => zcf o fun vs => zb (ldn 3 (zc vs 0)) fun r0 => ret (zca [r0, (zc vs 1), (zc vs 2)])
def zbf6 : Hint := (.seq [] .leaf (.seq [] .leaf (.seq [1, 4] (.blk (.seq [] .leaf (.cond (.seq [] (.reg [1, 0, 2, 3, 4, 5] []) .leaf) (.seq [] .leaf (.cond (.seq [] .leaf .leaf) (.seq [] .leaf (.cond (.seq [] .leaf (.seq [] .leaf (.cond (.seq [] .leaf .leaf) .leaf))) (.seq [] .leaf (.cond (.seq [] (.reg [1, 0, 2, 3, 4, 5] []) .leaf) .leaf))))))))) (.seq [] (.reg [1, 0, 2, 3, 4, 5] []) .leaf))))
def zvf (l : List V) : M V := match l with | [x0, x1] => z0p x0 x1 | _ => fail
def zbf7 : zp := ovr [(zwr, zh9), (zm5, zfs)] noC
theorem zbqj (x0 x1 : V) : zcs Tryz.prog (zbf7) z1i zbf6 [x0, x1] = z0p x0 x1 := by kernel_rfl
theorem zbqk : zy Tryz.prog z1i (zvf) := zh (σ := zbf7) (hint := zbf6) (by kernel_rfl) (zd zbjf (zd z5n ze)) fun l H r H' h => by
 unfold zvf at h; split at h
 · rw [zbqj]; exact h
 · exact (zf h).elim
def zbdl (vs_4 : List V) : M Out :=
 zb (ldn 3 (zc vs_4 2)) fun x40 =>
 zb (zd7 3 1 (rep 1 [Value.bool false, Value.int .i64 0, Value.string ⟨#[]⟩]) [(0, 3, x40)]) fun x41 =>
 zb (ze6 3 32 (zc vs_4 1) x41) fun x42 =>
 ret (.nxt [(zc vs_4 0), x42, (zc vs_4 3), (zc vs_4 4), (zc vs_4 5)])
def zbdm (vs_5 : List V) : M Out :=
 zb (za (zj .add (zc vs_5 4) (Value.int .u64 1))) fun x44 =>
 ret (.nxt [(zc vs_5 0), (zc vs_5 1), (zc vs_5 2), (zc vs_5 3), x44])
def zbdn (vs_3 : List V) : M Out :=
 zb (
 zb (
 zb (zvf [(zc vs_3 0), (zc vs_3 2)]) fun x32 =>
 zb (za (ext 0 x32)) fun x33 =>
 zb (za (ext 1 x32)) fun x34 =>
 zb (za (ext 2 x32)) fun x35 =>
 zb (newc [Value.bool false, Value.int .i64 0, Value.string ⟨#[]⟩]) fun x5 =>
 zb (stn 3 x5 x33) fun _ =>
 zb (
 zb (za (zia true (isNil .i x35))) fun x37 =>
 zi x37 (
 ret (.ret [(Value.slice none 0 0), x35])
 ) (
 ret (.nxt [(zc vs_3 0), (zc vs_3 1), x5, x34, (zc vs_3 3), (zc vs_3 4)])
 )
 ) fun o => nx o zbdl
 ) fun o => ret (zw 2 o)
 ) fun o => nx o zbdm
def zxc (vs_2 : List V) : M Out :=
 zb (za (zj .lss (zc vs_2 4) (zc vs_2 3))) fun x28 =>
 zb (
 zi x28 (
 ret (.nxt [(zc vs_2 0), (zc vs_2 1), (zc vs_2 2), (zc vs_2 3), (zc vs_2 4)])
 ) (
 ret (.brk 1 [(zc vs_2 0), (zc vs_2 1), (zc vs_2 2)])
 )
 ) fun o => nx o zbdn
def zbdo (vs_7 : List V) : M Out :=
 ret (.ret [(zc vs_7 0), Value.nilIface])
def z4n (vs_6 : List V) : M Out :=
 zb (
 zb (za (zct (zc vs_6 0))) fun x47 =>
 zb (za (zj .lss (zc vs_6 2) x47)) fun x48 =>
 zi x48 (
 zb (zh9 [(zc vs_6 2), (Value.int .i64 31)]) fun x50 =>
 ret (.ret [(Value.slice none 0 0), x50])
 ) (
 ret (.nxt [(zc vs_6 1)])
 )
 ) fun o => nx o zbdo
def zbdp (vs : List V) : M Out :=
 zb (
 zb (za (zp0 (zc vs 0) none (some (Value.int .i64 2)))) fun x25 =>
 zb (zfs [x25]) fun x26 =>
 zb (
 zce zcc zxc [(zc vs 0), (zc vs 1), (Value.int .i64 2), x26, (Value.int .u64 0)]
 ) fun o => ret (zw 1 o)
 ) fun o => nx o z4n
def zon (x0 : V) : M V :=
 zb (
 zb (
 zb (
 zb (za (zct x0)) fun x10 =>
 zb (za (zj .gtr x10 (Value.int .i64 65536))) fun x11 =>
 zi x11 (
 zb (zh9 [(Value.int .i64 0), (Value.int .i64 2)]) fun x12 =>
 ret (.ret [(Value.slice none 0 0), x12])
 ) (
 zb (za (zct x0)) fun x15 =>
 zb (za (zj .lss x15 (Value.int .i64 2))) fun x16 =>
 zi x16 (
 zb (zh9 [(Value.int .i64 0), (Value.int .i64 30)]) fun x17 =>
 ret (.ret [(Value.slice none 0 0), x17])
 ) (
 zb (za (zp0 x0 none (some (Value.int .i64 2)))) fun x20 =>
 zb (zfs [x20]) fun x21 =>
 zb (za (zj .gtr x21 (Value.int .u64 1000))) fun x22 =>
 zi x22 (
 zb (zh9 [(Value.int .i64 0), (Value.int .i64 2)]) fun x23 =>
 ret (.ret [(Value.slice none 0 0), x23])
 ) (
 ret (.nxt [x0, (Value.slice none 0 0)])
 )
 )
 )
 ) fun o => ret (zw 0 o)
 ) fun o => nx o zbdp
 ) fun o => zcf o fun vs => ret (zca [(zc vs 0), (zc vs 1)])
def zbf8 : Hint := (.seq [] .leaf (.seq [0, 2] (.blk (.seq [] .leaf (.cond (.seq [] .leaf .leaf) (.seq [] .leaf (.cond (.seq [] .leaf .leaf) (.seq [] .leaf (.cond (.seq [] .leaf .leaf) .leaf))))))) (.seq [] .leaf (.seq [0, 2, 4] (.seq [] .leaf (.blk (.loop [0, 2, 4, 26, 27] (.seq [] .leaf (.seq [0, 2, 4, 26, 27] (.cond .leaf .leaf) (.seq [0, 2, 4, 26, 27] (.blk (.seq [] .leaf (.seq [0, 2, 5, 6, 26, 27] (.seq [] .leaf (.cond (.seq [] .leaf .leaf) .leaf)) .leaf))) .leaf)))))) (.seq [2] (.seq [] .leaf (.cond (.seq [] .leaf .leaf) .leaf)) (.seq [] .leaf .leaf))))))
def zrw (l : List V) : M V := match l with | [x0] => zon x0 | _ => fail
def zbf9 : zp := ovr [(zwr, zh9), (zm5, zfs), (z1i, zvf)] noC
theorem zbql (x0 : V) : zcs Tryz.prog (zbf9) zul zbf8 [x0] = zon x0 := by kernel_rfl
theorem zbqm : zy Tryz.prog zul (zrw) := zh (σ := zbf9) (hint := zbf8) (by kernel_rfl) (zd zbjf (zd z5n (zd zbqk ze))) fun l H r H' h => by
 unfold zrw at h; split at h
 · rw [zbql]; exact h
 · exact (zf h).elim
def z95 (G_errors_As : List V → M V) (vs : List V) : M Out :=
 zb (za (build [Value.int .i64 0, Value.int .i64 0] [])) fun x9 =>
 zb (stn 2 (zc vs 0) x9) fun _ =>
 ret (.ret [(zc vs 0)])
def zxd (G_errors_As : List V → M V) (x0 : V) : M V :=
 zb (
 zb (newc [Value.int .i64 0, Value.int .i64 0]) fun x2 =>
 zb (newc [Value.int .i64 0, Value.int .i64 0]) fun x3 =>
 zb (
 zb (za (some (Value.iface zm6 x3))) fun x5 =>
 zb (G_errors_As [x0, x5]) fun x6 =>
 zi x6 (
 zb (za (zg 0 x3)) fun x7 =>
 zb (ldn 2 x7) fun x8 =>
 zb (stn 2 x2 x8) fun _ =>
 ret (.ret [x2])
 ) (
 ret (.nxt [x2])
 )
 ) fun o => nx o (z95 G_errors_As)
 ) fun o => zcf o fun vs => zb (ldn 2 (zc vs 0)) fun r0 => ret (zca [r0])
def zbdq : Hint := (.seq [] .leaf (.seq [] .leaf (.seq [2] (.seq [] .leaf (.cond (.seq [] .leaf .leaf) .leaf)) (.seq [] .leaf .leaf))))
def zpb (G_errors_As : List V → M V) (l : List V) : M V := match l with | [x0] => zxd G_errors_As x0 | _ => fail
theorem zbn1 (G_errors_As : List V → M V) (x0 : V) : zcs Tryz.prog (ovr [(zhd, G_errors_As)] noC) zsg zbdq [x0] = zxd G_errors_As x0 := by kernel_rfl
theorem zbn2 {G_errors_As : List V → M V} (k_errors_As : zy Tryz.prog zhd G_errors_As) : zy Tryz.prog zsg (zpb G_errors_As) := zh (σ := ovr [(zhd, G_errors_As)] noC) (hint := zbdq) (by kernel_rfl) (zd k_errors_As ze) fun l H r H' h => by
 unfold zpb at h; split at h
 · rw [zbn1]; exact h
 · exact (zf h).elim
end Go.AM.Cap
