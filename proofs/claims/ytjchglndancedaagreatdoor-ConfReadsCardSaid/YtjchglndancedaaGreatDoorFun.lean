import Derived.Test.YtjchglndancedaaGreatDoorAmSlc
import Derived.Test.YtjchglndancedaaGreatDoorProg
set_option linter.all false
/- Printed by amprint2.py: functions of YtjchglndancedaaGreatDoor on the abstract machine. -/
set_option linter.unusedVariables false
set_option maxRecDepth 100000
namespace Go.AM.Cap
open Go.AM Go.Proofs
def gid_conf_levels:Nat:=0
def gid_conf_types:Nat:=1
def z24:Nat:=3
def ztt:Nat:=4
def z9x:Nat:=3
def zw5:Nat:=8
def z4d:Nat:=9
def z56:Nat:=10
def z4e:Nat:=11
def zcv:Nat:=14
def zbai:Nat:=15
def zbhm:Nat:=16
def z4f:Nat:=17
def z57:Nat:=18
def zbaj:Nat:=19
def ztu:Nat:=20
def z1z:Nat:=30
def z10:Nat:=32
def ztv:Nat:=33
def zbel:Nat:=34
def zbem:Nat:=35
def zgc:Nat:=36
def zgy:Nat:=37
def zr8:Nat:=38
def zbak:Nat:=39
def zbal:Nat:=40
def zu2:Nat:=41
def zuj:Nat:=47
def zbx:Nat:=52
def zca:Nat:=53
def zcb:Nat:=54
def zcj:Nat:=55
def zc1:Nat:=56
def zcf:Nat:=57
def zdl:Nat:=58
def zck:Nat:=59
def zdm:Nat:=60
def zdn:Nat:=61
def zcw:Nat:=62
def z58:Nat:=63
def zfk:Nat:=64
def z59:Nat:=65
def zbam:Nat:=66
def zban:Nat:=67
def zben:Nat:=68
def z4g:Nat:=69
def zgz:Nat:=70
def z4h:Nat:=71
def zp2:Nat:=72
def z6a:Nat:=73
def zqo:Nat:=74
def zl2:Nat:=75
def zr9:Nat:=76
def zp3:Nat:=77
def zsa:Nat:=78
def zsb:Nat:=79
def z4i:Nat:=80
def zbao:Nat:=81
def zbap:Nat:=82
def zbaq:Nat:=83
def z4j:Nat:=84
def z4k:Nat:=85
def zd5:Nat:=89
def zhj:Nat:=92
def zz4:Nat:=93
def zh5:Nat:=94
def zo6:Nat:=95
def zcl:Nat:=96
def z6b:Nat:=97
def zsl:Nat:=98
def zuk:Nat:=99
def z6c:Nat:=100
def zcq:Nat:=101
def zdu:Nat:=102
def zer:Nat:=103
def zdv:Nat:=104
def z6d:Nat:=105
def zgd:Nat:=106
def zg0:Nat:=107
def zhp:Nat:=108
def zh6:Nat:=109
def zlm:Nat:=110
def zqp:Nat:=111
def zl3:Nat:=112
def z11:Nat:=113
def z6e:Nat:=114
def z4l:Nat:=115
def zkr:Nat:=116
def zoo:Nat:=117
def z4m:Nat:=118
def zul:Nat:=119
def zum:Nat:=120
def z4n:Nat:=121
def z4o:Nat:=122
def z6f:Nat:=123
def zf0:Nat:=126
def zi2:Nat:=131
def znn:Nat:=132
def zbp:Nat:=133
def zb5:Nat:=134
def zd8:Nat:=135
def zcn:Nat:=136
def z12:Nat:=137
def z4p:Nat:=138
def zbar:Nat:=139
def zet:Nat:=140
def zfl:Nat:=141
def zce:Nat:=142
def zjo:Nat:=143
def zn5:Nat:=144
def zfm:Nat:=145
def zno:Nat:=146
def zka:Nat:=147
def zbas:Nat:=148
def zbeo:Nat:=149
def zbat:Nat:=150
def z4q:Nat:=151
def zop:Nat:=158
def zn6:Nat:=159
def zoq:Nat:=160
def zn7:Nat:=161
def zl4:Nat:=162
def zln:Nat:=163
def zks:Nat:=164
def zeu:Nat:=167
def z4r:Nat:=168
def zg1:Nat:=169
def zl5:Nat:=170
def z6g:Nat:=171
def zge:Nat:=177
def zit:Nat:=178
def zf1:Nat:=179
def zx:Nat:=187
def zl6:Nat:=188
def zg2:Nat:=226
def zhq:Nat:=227
def zei:Nat:=229
def zhr:Nat:=231
def zih:Nat:=232
def zja:Nat:=235
def zhs:Nat:=236
def zl7:Nat:=9
def zqq:Nat:=273
def zs1:Nat:=274
def zw6:Nat:=276
def zz5 (v2:List V):M Out :=
 zb (
 zb (za (zc0 (zc v2 0))) fun x19 =>
 zb (za (zr .sub x19 (Value.int .i64 1))) fun x20 =>
 zb (za (zzx (zc v2 0) none (some x20))) fun x21 =>
 ret (.nxt [x21,(zc v2 1)])
 ) fun o=>ret (zw 1 o)
def zz6 (vs:List V):M Out :=
 zb (
 zb (za (zc0 (zc vs 0))) fun x6 =>
 zb (za (zr .gtr x6 (Value.int .i64 0))) fun x7 =>
 zb (gd x7 true (za (some (zc vs 0)))) fun x9 =>
 zb (gd x7 true (za (some (zc vs 0)))) fun x10 =>
 zb (gd x7 true (za (zc0 x10))) fun x11 =>
 zb (gd x7 true (za (zr .sub x11 (Value.int .i64 1)))) fun x12 =>
 zb (gd x7 true (za (zj3 x9 x12))) fun x13 =>
 zb (gd x7 true (za (some (zc vs 1)))) fun x14 =>
 zb (gd x7 true (za (zr .eql x13 x14))) fun x15 =>
 zb (za (zy x7 x15 (Value.bool false))) fun x16 =>
 zn x16 (
 ret (.nxt [(zc vs 0),(zc vs 1)])
 ) (
 ret (.brk 0 [(zc vs 0)])
 )
 ) fun o=>nx o zz5
def zz7 (v3:List V):M Out :=
 ret (.ret [(zc v3 0)])
def z13 (x0 x1:V):M V :=
 zb (
 zb (
 zb (
 zbf zbs zz6 [x0,x1]
 ) fun o=>ret (zw 0 o)
 ) fun o=>nx o zz7
 ) fun o=>zbg o fun vs=>ret (zbe [(zc vs 0)])
def z14:Hint:=(.seq [] .leaf (.seq [0] (.blk (.loop [0,1] (.seq [0,1] (.seq [] .leaf (.cond .leaf .leaf)) (.blk .leaf)))) (.seq [] .leaf .leaf)))
def zjp:List V→M V:=ap2 z13
theorem z15:zu Tryz.prog zn6 (zjp):=kn2 (σ:=ovr [] noC) (hint:=z14) (by kernel_rfl) zk fun _ _=>(by kernel_rfl)
def z16 (v2:List V):M Out :=
 zb (
 zb (za (zzx (zc v2 0) (some (Value.int .i64 1)) none)) fun x15 =>
 ret (.nxt [x15,(zc v2 1)])
 ) fun o=>ret (zw 1 o)
def z17 (vs:List V):M Out :=
 zb (
 zb (za (zc0 (zc vs 0))) fun x6 =>
 zb (za (zr .gtr x6 (Value.int .i64 0))) fun x7 =>
 zb (gd x7 true (za (some (zc vs 0)))) fun x9 =>
 zb (gd x7 true (za (zj3 x9 (Value.int .i64 0)))) fun x10 =>
 zb (gd x7 true (za (some (zc vs 1)))) fun x11 =>
 zb (gd x7 true (za (zr .eql x10 x11))) fun x12 =>
 zb (za (zy x7 x12 (Value.bool false))) fun x13 =>
 zn x13 (
 ret (.nxt [(zc vs 0),(zc vs 1)])
 ) (
 ret (.brk 0 [(zc vs 0)])
 )
 ) fun o=>nx o z16
def z18 (v3:List V):M Out :=
 ret (.ret [(zc v3 0)])
def z25 (x0 x1:V):M V :=
 zb (
 zb (
 zb (
 zbf zbs z17 [x0,x1]
 ) fun o=>ret (zw 0 o)
 ) fun o=>nx o z18
 ) fun o=>zbg o fun vs=>ret (zbe [(zc vs 0)])
def z26:Hint:=(.seq [] .leaf (.seq [0] (.blk (.loop [0,1] (.seq [0,1] (.seq [] .leaf (.cond .leaf .leaf)) (.blk .leaf)))) (.seq [] .leaf .leaf)))
def zkh:List V→M V:=ap2 z25
theorem z27:zu Tryz.prog zop (zkh):=kn2 (σ:=ovr [] noC) (hint:=z26) (by kernel_rfl) zk fun _ _=>(by kernel_rfl)
def zp4 (v3:List V):M Out :=
 zb (za (zzw 256 1 (zc v3 1) (zc v3 3))) fun x19 =>
 zb (st1 x19 (Value.bool true)) fun _ =>
 ret (.nxt [(zc v3 0),(zc v3 1),(zc v3 2)])
def zp5 (v4:List V):M Out :=
 zb (za (zr .add (zc v4 2) (Value.int .i64 1))) fun x11 =>
 ret (.nxt [(zc v4 0),(zc v4 1),x11])
def zp6 (v2:List V):M Out :=
 zb (
 zb (
 zb (za (zj3 (zc v2 0) (zc v2 2))) fun x14 =>
 zb (
 zb (za (zr .geq x14 (Value.int .u8 128))) fun x16 =>
 zn x16 (
 zb (ldn 256 (zc v2 1)) fun x17 =>
 zb (stn 256 (zc v2 1) x17) fun _ =>
 ret (.ret [(zc v2 1),(Value.bool false)])
 ) (
 ret (.nxt [(zc v2 0),(zc v2 1),(zc v2 2),x14])
 )
 ) fun o=>nx o zp4
 ) fun o=>ret (zw 1 o)
 ) fun o=>nx o zp5
def zjq (vs:List V):M Out :=
 zb (
 zb (za (zc0 (zc vs 0))) fun x8 =>
 zb (za (zr .lss (zc vs 2) x8)) fun x9 =>
 zn x9 (
 ret (.nxt [(zc vs 0),(zc vs 1),(zc vs 2)])
 ) (
 ret (.brk 0 [(zc vs 1)])
 )
 ) fun o=>nx o zp6
def zp7 (v5:List V):M Out :=
 zb (ldn 256 (zc v5 0)) fun x20 =>
 zb (stn 256 (zc v5 0) x20) fun _ =>
 ret (.ret [(zc v5 0),(Value.bool true)])
def zki (x0:V):M V :=
 zb (
 zb (newc (List.replicate 256 (Value.bool false))) fun x2 =>
 zb (
 zb (
 zbf zbs zjq [x0,x2,(Value.int .i64 0)]
 ) fun o=>ret (zw 0 o)
 ) fun o=>nx o zp7
 ) fun o=>zbg o fun vs=>zb (ldn 256 (zc vs 0)) fun r0=>ret (zbe [r0,(zc vs 1)])
def z28:Hint:=(.seq [] .leaf (.seq [2] (.seq [] .leaf (.blk (.loop [0,2,4] (.seq [0,2,4] (.seq [] .leaf (.cond .leaf .leaf)) (.seq [0,2,4] (.blk (.seq [] .leaf (.seq [0,2,4,5] (.seq [] .leaf (.cond (.seq [] .leaf .leaf) .leaf)) .leaf))) .leaf))))) (.seq [] .leaf .leaf)))
def zg6:List V→M V:=ap1 zki
theorem z29:zu Tryz.prog zoq (zg6):=kn1 (σ:=ovr [] noC) (hint:=z28) (by kernel_rfl) zk fun _=>(by kernel_rfl)
def zg7 (x0 x1:V):M V :=
 zb (
 zb (za (zbo x0)) fun x7 =>
 zb (za (zzw 256 1 x7 x1)) fun x8 =>
 zb (zz x8) fun x9 =>
 ret (.ret [x9])
 ) fun o=>zbg o fun vs=>ret (zbe [(zc vs 0)])
def zvm:Hint:=(.seq [] .leaf (.seq [] .leaf .leaf))
def zco:List V→M V:=ap2 zg7
theorem zlo:zu Tryz.prog zge (zco):=kn2 (σ:=ovr [] noC) (hint:=zvm) (by kernel_rfl) zk fun _ _=>(by kernel_rfl)
def zn8 (v3:List V):M Out :=
 zb (za (zc0 (zc v3 0))) fun x18 =>
 zb (za (zr .sub x18 (Value.int .i64 1))) fun x19 =>
 zb (za (zzx (zc v3 0) none (some x19))) fun x20 =>
 ret (.nxt [x20,(zc v3 1)])
def zn9 (v2:List V):M Out :=
 zb (
 zb (
 zb (za (zc0 (zc v2 0))) fun x11 =>
 zb (za (zr .sub x11 (Value.int .i64 1))) fun x12 =>
 zb (za (zj3 (zc v2 0) x12)) fun x13 =>
 zb (zco [(zc v2 1),x13]) fun x14 =>
 zb (za (un .not x14)) fun x15 =>
 zn x15 (
 ret (.brk 0 [(zc v2 0)])
 ) (
 ret (.nxt [(zc v2 0),(zc v2 1)])
 )
 ) fun o=>nx o zn8
 ) fun o=>ret (zw 1 o)
def zia (vs:List V):M Out :=
 zb (
 zb (za (zc0 (zc vs 0))) fun x6 =>
 zb (za (zr .gtr x6 (Value.int .i64 0))) fun x7 =>
 zn x7 (
 ret (.nxt [(zc vs 0),(zc vs 1)])
 ) (
 ret (.brk 0 [(zc vs 0)])
 )
 ) fun o=>nx o zn9
def zib (v4:List V):M Out :=
 ret (.ret [(zc v4 0)])
def ziu (x0 x1:V):M V :=
 zb (
 zb (
 zb (
 zbf zbs zia [x0,x1]
 ) fun o=>ret (zw 0 o)
 ) fun o=>nx o zib
 ) fun o=>zbg o fun vs=>ret (zbe [(zc vs 0)])
def zz8:Hint:=(.seq [] .leaf (.seq [0] (.blk (.loop [0,1] (.seq [0,1] (.seq [] .leaf (.cond .leaf .leaf)) (.blk (.seq [0,1] (.seq [] .leaf (.cond .leaf .leaf)) .leaf))))) (.seq [] .leaf .leaf)))
def zf6:List V→M V:=ap2 ziu
def zz9:zv:=ovr [(zge,zco)] noC
theorem z0a:zu Tryz.prog zl4 (zf6):=kn2 (σ:=zz9) (hint:=zz8) (by kernel_rfl) (zj zlo zk) fun _ _=>(by kernel_rfl)
def zor (v3:List V):M Out :=
 zb (za (zzx (zc v3 0) (some (Value.int .i64 1)) none)) fun x14 =>
 ret (.nxt [x14,(zc v3 1)])
def zos (v2:List V):M Out :=
 zb (
 zb (
 zb (za (zj3 (zc v2 0) (Value.int .i64 0))) fun x10 =>
 zb (zco [(zc v2 1),x10]) fun x11 =>
 zb (za (un .not x11)) fun x12 =>
 zn x12 (
 ret (.brk 0 [(zc v2 0)])
 ) (
 ret (.nxt [(zc v2 0),(zc v2 1)])
 )
 ) fun o=>nx o zor
 ) fun o=>ret (zw 1 o)
def ziv (vs:List V):M Out :=
 zb (
 zb (za (zc0 (zc vs 0))) fun x6 =>
 zb (za (zr .gtr x6 (Value.int .i64 0))) fun x7 =>
 zn x7 (
 ret (.nxt [(zc vs 0),(zc vs 1)])
 ) (
 ret (.brk 0 [(zc vs 0)])
 )
 ) fun o=>nx o zos
def ziw (v4:List V):M Out :=
 ret (.ret [(zc v4 0)])
def zjr (x0 x1:V):M V :=
 zb (
 zb (
 zb (
 zbf zbs ziv [x0,x1]
 ) fun o=>ret (zw 0 o)
 ) fun o=>nx o ziw
 ) fun o=>zbg o fun vs=>ret (zbe [(zc vs 0)])
def z19:Hint:=(.seq [] .leaf (.seq [0] (.blk (.loop [0,1] (.seq [0,1] (.seq [] .leaf (.cond .leaf .leaf)) (.blk (.seq [0,1] (.seq [] .leaf (.cond .leaf .leaf)) .leaf))))) (.seq [] .leaf .leaf)))
def zgo:List V→M V:=ap2 zjr
def z2a:zv:=ovr [(zge,zco)] noC
theorem z2b:zu Tryz.prog zn7 (zgo):=kn2 (σ:=z2a) (hint:=z19) (by kernel_rfl) (zj zlo zk) fun _ _=>(by kernel_rfl)
def z0b (x0:V):M V :=
 zb (
 zb (za (zr .and x0 (Value.int .u8 192))) fun x4 =>
 zb (za (zr .neq x4 (Value.int .u8 128))) fun x5 =>
 ret (.ret [x5])
 ) fun o=>zbg o fun vs=>ret (zbe [(zc vs 0)])
def z0c:Hint:=(.seq [] .leaf (.seq [] .leaf .leaf))
def zix:List V→M V:=ap1 z0b
theorem z0d:zu Tryz.prog zl6 (zix):=kn1 (σ:=ovr [] noC) (hint:=z0c) (by kernel_rfl) zk fun _=>(by kernel_rfl)
def zl8 (v8:List V):M Out :=
 zb (za (zr .and (zc v8 0) (Value.int .u8 7))) fun x100 =>
 zb (za (cvi .i32 x100)) fun x101 =>
 zb (za (zr .shl x101 (Value.int .u64 18))) fun x102 =>
 zb (za (zr .and (zc v8 1) (Value.int .u8 63))) fun x104 =>
 zb (za (cvi .i32 x104)) fun x105 =>
 zb (za (zr .shl x105 (Value.int .u64 12))) fun x106 =>
 zb (za (zr .or x102 x106)) fun x107 =>
 zb (za (zr .and (zc v8 2) (Value.int .u8 63))) fun x109 =>
 zb (za (cvi .i32 x109)) fun x110 =>
 zb (za (zr .shl x110 (Value.int .u64 6))) fun x111 =>
 zb (za (zr .or x107 x111)) fun x112 =>
 zb (za (zr .and (zc v8 3) (Value.int .u8 63))) fun x114 =>
 zb (za (cvi .i32 x114)) fun x115 =>
 zb (za (zr .or x112 x115)) fun x116 =>
 ret (.ret [x116,(Value.int .i64 4)])
def zl9 (v7:List V):M Out :=
 zb (za (zj3 (zc v7 0) (Value.int .i64 3))) fun x92 =>
 zb (
 zb (za (zr .lss x92 (Value.int .u8 128))) fun x94 =>
 zb (gd x94 false (za (some x92))) fun x96 =>
 zb (gd x94 false (za (zr .lss (Value.int .u8 191) x96))) fun x97 =>
 zb (za (zy x94 (Value.bool true) x97)) fun x98 =>
 zn x98 (
 ret (.ret [(Value.int .i32 65533),(Value.int .i64 1)])
 ) (
 ret (.nxt [(zc v7 1),(zc v7 2),(zc v7 3),x92])
 )
 ) fun o=>nx o zl8
def zma (v6:List V):M Out :=
 zb (
 zb (za (zr .leq (zc v6 2) (Value.int .i64 3))) fun x77 =>
 zn x77 (
 zb (za (zr .and (zc v6 1) (Value.int .u8 15))) fun x79 =>
 zb (za (cvi .i32 x79)) fun x80 =>
 zb (za (zr .shl x80 (Value.int .u64 12))) fun x81 =>
 zb (za (zr .and (zc v6 3) (Value.int .u8 63))) fun x83 =>
 zb (za (cvi .i32 x83)) fun x84 =>
 zb (za (zr .shl x84 (Value.int .u64 6))) fun x85 =>
 zb (za (zr .or x81 x85)) fun x86 =>
 zb (za (zr .and (zc v6 4) (Value.int .u8 63))) fun x88 =>
 zb (za (cvi .i32 x88)) fun x89 =>
 zb (za (zr .or x86 x89)) fun x90 =>
 ret (.ret [x90,(Value.int .i64 3)])
 ) (
 ret (.nxt [(zc v6 0),(zc v6 1),(zc v6 3),(zc v6 4)])
 )
 ) fun o=>nx o zl9
def zmb (v5:List V):M Out :=
 zb (za (zj3 (zc v5 0) (Value.int .i64 2))) fun x69 =>
 zb (
 zb (za (zr .lss x69 (Value.int .u8 128))) fun x71 =>
 zb (gd x71 false (za (some x69))) fun x73 =>
 zb (gd x71 false (za (zr .lss (Value.int .u8 191) x73))) fun x74 =>
 zb (za (zy x71 (Value.bool true) x74)) fun x75 =>
 zn x75 (
 ret (.ret [(Value.int .i32 65533),(Value.int .i64 1)])
 ) (
 ret (.nxt [(zc v5 0),(zc v5 1),(zc v5 2),(zc v5 3),x69])
 )
 ) fun o=>nx o zma
def zmc (v4:List V):M Out :=
 zb (
 zb (za (zr .leq (zc v4 2) (Value.int .i64 2))) fun x59 =>
 zn x59 (
 zb (za (zr .and (zc v4 1) (Value.int .u8 31))) fun x61 =>
 zb (za (cvi .i32 x61)) fun x62 =>
 zb (za (zr .shl x62 (Value.int .u64 6))) fun x63 =>
 zb (za (zr .and (zc v4 3) (Value.int .u8 63))) fun x65 =>
 zb (za (cvi .i32 x65)) fun x66 =>
 zb (za (zr .or x63 x66)) fun x67 =>
 ret (.ret [x67,(Value.int .i64 2)])
 ) (
 ret (.nxt [(zc v4 0),(zc v4 1),(zc v4 2),(zc v4 3)])
 )
 ) fun o=>nx o zmb
def zmd (v3:List V):M Out :=
 zb (za (zj3 (zc v3 0) (Value.int .i64 1))) fun x47 =>
 zb (
 zb (za (ze 0 (zc v3 3))) fun x49 =>
 zb (zz x49) fun x50 =>
 zb (za (zr .lss x47 x50)) fun x51 =>
 zb (gd x51 false (za (ze 1 (zc v3 3)))) fun x53 =>
 zb (gd x51 false (zz x53)) fun x54 =>
 zb (gd x51 false (za (some x47))) fun x55 =>
 zb (gd x51 false (za (zr .lss x54 x55))) fun x56 =>
 zb (za (zy x51 (Value.bool true) x56)) fun x57 =>
 zn x57 (
 ret (.ret [(Value.int .i32 65533),(Value.int .i64 1)])
 ) (
 ret (.nxt [(zc v3 0),(zc v3 1),(zc v3 2),x47])
 )
 ) fun o=>nx o zmc
def zme (v2:List V):M Out :=
 zb (za (zr .and (zc v2 3) (Value.int .u8 7))) fun x37 =>
 zb (za (cvi .i64 x37)) fun x38 =>
 zb (za (zr .shr (zc v2 3) (Value.int .u64 4))) fun x40 =>
 zb (za (zzw 16 2 (ptr ztt 0) x40)) fun x41 =>
 zb (ldn 2 x41) fun x42 =>
 zb (newc [Value.int .u8 0,Value.int .u8 0]) fun x9 =>
 zb (stn 2 x9 x42) fun _ =>
 zb (
 zb (za (zr .lss (zc v2 1) x38)) fun x45 =>
 zn x45 (
 ret (.ret [(Value.int .i32 65533),(Value.int .i64 1)])
 ) (
 ret (.nxt [(zc v2 0),(zc v2 2),x38,x9])
 )
 ) fun o=>nx o zmd
def zmf (vs:List V):M Out :=
 zb (za (zj3 (zc vs 0) (Value.int .i64 0))) fun x18 =>
 zb (za (zzw 256 1 (ptr z24 0) x18)) fun x20 =>
 zb (zz x20) fun x21 =>
 zb (
 zb (za (zr .geq x21 (Value.int .u8 240))) fun x23 =>
 zn x23 (
 zb (za (cvi .i32 x21)) fun x25 =>
 zb (za (zr .shl x25 (Value.int .u64 31))) fun x26 =>
 zb (za (zr .shr x26 (Value.int .u64 31))) fun x27 =>
 zb (za (zj3 (zc vs 0) (Value.int .i64 0))) fun x29 =>
 zb (za (cvi .i32 x29)) fun x30 =>
 zb (za (zr .andNot x30 x27)) fun x32 =>
 zb (za (zr .and (Value.int .i32 65533) x27)) fun x34 =>
 zb (za (zr .or x32 x34)) fun x35 =>
 ret (.ret [x35,(Value.int .i64 1)])
 ) (
 ret (.nxt [(zc vs 0),(zc vs 1),x18,x21])
 )
 ) fun o=>nx o zme
def znp (x0:V):M V :=
 zb (
 zb (za (zc0 x0)) fun x14 =>
 zb (
 zb (za (zr .lss x14 (Value.int .i64 1))) fun x16 =>
 zn x16 (
 ret (.ret [(Value.int .i32 65533),(Value.int .i64 0)])
 ) (
 ret (.nxt [x0,x14])
 )
 ) fun o=>nx o zmf
 ) fun o=>zbg o fun vs=>ret (zbe [(zc vs 0),(zc vs 1)])
def znq:Hint:=(.seq [] .leaf (.seq [] .leaf (.seq [0,4] (.seq [] .leaf (.cond (.seq [] .leaf .leaf) .leaf)) (.seq [] .leaf (.seq [] .leaf (.seq [0,4,5,6] (.seq [] .leaf (.cond (.seq [] .leaf (.seq [] .leaf .leaf)) .leaf)) (.seq [] .leaf (.seq [] .leaf (.seq [0,5,8,9] (.seq [] .leaf (.cond (.seq [] .leaf .leaf) .leaf)) (.seq [] .leaf (.seq [0,5,8,10] (.seq [] .leaf (.cond (.seq [] .leaf .leaf) .leaf)) (.seq [0,5,8,10] (.seq [] .leaf (.cond (.seq [] .leaf .leaf) .leaf)) (.seq [] .leaf (.seq [0,5,8,10,11] (.seq [] .leaf (.cond (.seq [] .leaf .leaf) .leaf)) (.seq [0,5,10,11] (.seq [] .leaf (.cond (.seq [] .leaf .leaf) .leaf)) (.seq [] .leaf (.seq [5,10,11,12] (.seq [] .leaf (.cond (.seq [] .leaf .leaf) .leaf)) (.seq [] .leaf .leaf))))))))))))))))))
def zdw:List V→M V:=ap1 znp
theorem znr:zu Tryz.prog zf0 (zdw):=kn1 (σ:=ovr [] noC) (hint:=znq) (by kernel_rfl) zk fun _=>(by kernel_rfl)
def zpe (vs:List V):M Out :=
 ret (.ret [(zc vs 0),(zc vs 1)])
def zqb (x0:V):M V :=
 zb (
 zb (
 zb (za (zr .neq x0 (Value.string ⟨#[]⟩))) fun x5 =>
 zb (gd x5 true (za (some x0))) fun x7 =>
 zb (gd x5 true (za (zj3 x7 (Value.int .i64 0)))) fun x8 =>
 zb (gd x5 true (za (zr .lss x8 (Value.int .u8 128)))) fun x9 =>
 zb (za (zy x5 x9 (Value.bool false))) fun x10 =>
 zn x10 (
 zb (za (zj3 x0 (Value.int .i64 0))) fun x12 =>
 zb (za (cvi .i32 x12)) fun x13 =>
 ret (.ret [x13,(Value.int .i64 1)])
 ) (
 zb (zdw [x0]) fun x16 =>
 zb (za (ext 0 x16)) fun x17 =>
 zb (za (ext 1 x16)) fun x18 =>
 ret (.nxt [x17,x18])
 )
 ) fun o=>nx o zpe
 ) fun o=>zbg o fun vs=>ret (zbe [(zc vs 0),(zc vs 1)])
def zqc:Hint:=(.seq [] .leaf (.seq [2,3] (.seq [] .leaf (.cond (.seq [] .leaf .leaf) .leaf)) .leaf))
def zcd:List V→M V:=ap1 zqb
def zqd:zv:=ovr [(zf0,zdw)] noC
theorem zh7:zu Tryz.prog zd5 (zcd):=kn1 (σ:=zqd) (hint:=zqc) (by kernel_rfl) (zj znr zk) fun _=>(by kernel_rfl)
def zmg (v5:List V):M Out :=
 zb (za (zr .sub (zc v5 2) (Value.int .i64 1))) fun x29 =>
 ret (.nxt [(zc v5 0),(zc v5 1),x29,(zc v5 3)])
def zmh (v4:List V):M Out :=
 zb (
 zb (
 zb (za (zj3 (zc v4 0) (zc v4 2))) fun x32 =>
 zb (zix [x32]) fun x33 =>
 zn x33 (
 ret (.brk 0 [(zc v4 0),(zc v4 1),(zc v4 2)])
 ) (
 ret (.nxt [(zc v4 0),(zc v4 1),(zc v4 2),(zc v4 3)])
 )
 ) fun o=>ret (zw 1 o)
 ) fun o=>nx o zmg
def zmi (v3:List V):M Out :=
 zb (
 zb (za (zr .geq (zc v3 2) (zc v3 3))) fun x27 =>
 zn x27 (
 ret (.nxt [(zc v3 0),(zc v3 1),(zc v3 2),(zc v3 3)])
 ) (
 ret (.brk 0 [(zc v3 0),(zc v3 1),(zc v3 2)])
 )
 ) fun o=>nx o zmh
def zmj (v8:List V):M Out :=
 ret (.ret [(zc v8 0),(zc v8 1)])
def zmk (v7:List V):M Out :=
 zb (za (zzx (zc v7 0) (some (zc v7 2)) (some (zc v7 1)))) fun x40 =>
 zb (zcd [x40]) fun x41 =>
 zb (za (ext 0 x41)) fun x42 =>
 zb (za (ext 1 x41)) fun x43 =>
 zb (
 zb (za (zr .add (zc v7 2) x43)) fun x46 =>
 zb (za (zr .neq x46 (zc v7 1))) fun x48 =>
 zn x48 (
 ret (.ret [(Value.int .i32 65533),(Value.int .i64 1)])
 ) (
 ret (.nxt [x42,x43])
 )
 ) fun o=>nx o zmj
def zml (v6:List V):M Out :=
 zb (
 zb (za (zr .lss (zc v6 2) (Value.int .i64 0))) fun x35 =>
 zn x35 (
 ret (.nxt [(zc v6 0),(zc v6 1),(Value.int .i64 0)])
 ) (
 ret (.nxt [(zc v6 0),(zc v6 1),(zc v6 2)])
 )
 ) fun o=>nx o zmk
def zmm (v2:List V):M Out :=
 zb (za (zr .sub (zc v2 1) (Value.int .i64 4))) fun x21 =>
 zb (za (maxV x21 (Value.int .i64 0))) fun x22 =>
 zb (
 zb (za (zr .sub (zc v2 2) (Value.int .i64 1))) fun x24 =>
 zb (
 zbf zbs zmi [(zc v2 0),(zc v2 1),x24,x22]
 ) fun o=>ret (zw 0 o)
 ) fun o=>nx o zml
def zmn (vs:List V):M Out :=
 zb (za (zr .sub (zc vs 1) (Value.int .i64 1))) fun x12 =>
 zb (za (zj3 (zc vs 0) x12)) fun x15 =>
 zb (za (cvi .i32 x15)) fun x16 =>
 zb (
 zb (za (zr .lss x16 (Value.int .i32 128))) fun x18 =>
 zn x18 (
 ret (.ret [x16,(Value.int .i64 1)])
 ) (
 ret (.nxt [(zc vs 0),(zc vs 1),x12])
 )
 ) fun o=>nx o zmm
def zns (x0:V):M V :=
 zb (
 zb (za (zc0 x0)) fun x8 =>
 zb (
 zb (za (zr .eql x8 (Value.int .i64 0))) fun x10 =>
 zn x10 (
 ret (.ret [(Value.int .i32 65533),(Value.int .i64 0)])
 ) (
 ret (.nxt [x0,x8])
 )
 ) fun o=>nx o zmn
 ) fun o=>zbg o fun vs=>ret (zbe [(zc vs 0),(zc vs 1)])
def znt:Hint:=(.seq [] .leaf (.seq [] .leaf (.seq [0,4] (.seq [] .leaf (.cond (.seq [] .leaf .leaf) .leaf)) (.seq [] .leaf (.seq [] .leaf (.seq [0,4,5] (.seq [] .leaf (.cond (.seq [] .leaf .leaf) .leaf)) (.seq [] .leaf (.seq [0,4,5] (.seq [] .leaf (.blk (.loop [0,4,5,6] (.seq [0,4,5,6] (.seq [] .leaf (.cond .leaf .leaf)) (.seq [0,4,5,6] (.blk (.seq [] .leaf (.cond .leaf .leaf))) .leaf))))) (.seq [0,4,5] (.seq [] .leaf (.cond .leaf .leaf)) (.seq [] .leaf (.seq [2,3] (.seq [] .leaf (.cond (.seq [] .leaf .leaf) .leaf)) (.seq [] .leaf .leaf))))))))))))
def zdx:List V→M V:=ap1 zns
def znu:zv:=ovr [(zl6,zix),(zd5,zcd)] noC
theorem znv:zu Tryz.prog zf1 (zdx):=kn1 (σ:=znu) (hint:=znt) (by kernel_rfl) (zj z0d (zj zh7 zk)) fun _=>(by kernel_rfl)
def z3a (G_strings_IndexRune:List V→M V) (x0 x1:V):M V :=
 zb (
 zb (G_strings_IndexRune [x0,x1]) fun x7 =>
 zb (za (zr .geq x7 (Value.int .i64 0))) fun x8 =>
 ret (.ret [x8])
 ) fun o=>zbg o fun vs=>ret (zbe [(zc vs 0)])
def z3b:Hint:=(.seq [] .leaf (.seq [] .leaf .leaf))
def zev (G_strings_IndexRune:List V→M V):List V→M V:=ap2 (z3a G_strings_IndexRune)
theorem zqr {G_strings_IndexRune:List V→M V} (k_strings_IndexRune:zu Tryz.prog zx G_strings_IndexRune):zu Tryz.prog zit (zev G_strings_IndexRune):=kn2 (σ:=ovr [(zx,G_strings_IndexRune)] noC) (hint:=z3b) (by kernel_rfl) (zj k_strings_IndexRune zk) fun _ _=>(by kernel_rfl)
def zvn (G_strings_IndexRune:List V→M V) (v4:List V):M Out :=
 zb (za (zc0 (zc v4 0))) fun x29 =>
 zb (za (zr .sub x29 (zc v4 2))) fun x31 =>
 zb (za (zzx (zc v4 0) none (some x31))) fun x32 =>
 ret (.nxt [x32,(zc v4 1)])
def zvo (G_strings_IndexRune:List V→M V) (v3:List V):M Out :=
 zb (
 zb ((zev G_strings_IndexRune) [(zc v3 1),(zc v3 2)]) fun x25 =>
 zb (za (un .not x25)) fun x26 =>
 zn x26 (
 ret (.brk 0 [(zc v3 0)])
 ) (
 ret (.nxt [(zc v3 0),(zc v3 1),(zc v3 3)])
 )
 ) fun o=>nx o (zvn G_strings_IndexRune)
def zvp (G_strings_IndexRune:List V→M V) (v2:List V):M Out :=
 zb (
 zb (za (zc0 (zc v2 0))) fun x12 =>
 zb (za (zr .sub x12 (Value.int .i64 1))) fun x13 =>
 zb (za (zj3 (zc v2 0) x13)) fun x14 =>
 zb (za (cvi .i32 x14)) fun x15 =>
 zb (
 zb (za (zr .geq x15 (Value.int .i32 128))) fun x17 =>
 zn x17 (
 zb (zdx [(zc v2 0)]) fun x20 =>
 zb (za (ext 0 x20)) fun x21 =>
 zb (za (ext 1 x20)) fun x22 =>
 ret (.nxt [(zc v2 0),(zc v2 1),x21,x22])
 ) (
 ret (.nxt [(zc v2 0),(zc v2 1),x15,(Value.int .i64 1)])
 )
 ) fun o=>nx o (zvo G_strings_IndexRune)
 ) fun o=>ret (zw 1 o)
def zvq (G_strings_IndexRune:List V→M V) (vs:List V):M Out :=
 zb (
 zb (za (zc0 (zc vs 0))) fun x8 =>
 zb (za (zr .gtr x8 (Value.int .i64 0))) fun x9 =>
 zn x9 (
 ret (.nxt [(zc vs 0),(zc vs 1)])
 ) (
 ret (.brk 0 [(zc vs 0)])
 )
 ) fun o=>nx o (zvp G_strings_IndexRune)
def zvr (G_strings_IndexRune:List V→M V) (v5:List V):M Out :=
 ret (.ret [(zc v5 0)])
def zw7 (G_strings_IndexRune:List V→M V) (x0 x1:V):M V :=
 zb (
 zb (
 zb (
 zbf zbs (zvq G_strings_IndexRune) [x0,x1]
 ) fun o=>ret (zw 0 o)
 ) fun o=>nx o (zvr G_strings_IndexRune)
 ) fun o=>zbg o fun vs=>ret (zbe [(zc vs 0)])
def zw8:Hint:=(.seq [] .leaf (.seq [0] (.blk (.loop [0,1] (.seq [0,1] (.seq [] .leaf (.cond .leaf .leaf)) (.blk (.seq [] .leaf (.seq [0,1,5,6] (.seq [] .leaf (.cond .leaf .leaf)) (.seq [0,1,6] (.seq [] .leaf (.cond .leaf .leaf)) .leaf))))))) (.seq [] .leaf .leaf)))
def zht (G_strings_IndexRune:List V→M V):List V→M V:=ap2 (zw7 G_strings_IndexRune)
theorem zw9 {G_strings_IndexRune:List V→M V} (k_strings_IndexRune:zu Tryz.prog zx G_strings_IndexRune):zu Tryz.prog zks (zht G_strings_IndexRune):=kn2 (σ:=ovr [(zf1,zdx),(zit,zev G_strings_IndexRune)] noC) (hint:=zw8) (by kernel_rfl) (zj znv (zj (zqr k_strings_IndexRune) zk)) fun _ _=>(by kernel_rfl)
def zxa (G_strings_IndexRune:List V→M V) (v3:List V):M Out :=
 zb (za (zzx (zc v3 0) (some (zc v3 2)) none)) fun x21 =>
 ret (.nxt [x21,(zc v3 1)])
def zxb (G_strings_IndexRune:List V→M V) (v2:List V):M Out :=
 zb (
 zb (zcd [(zc v2 0)]) fun x12 =>
 zb (za (ext 0 x12)) fun x13 =>
 zb (za (ext 1 x12)) fun x14 =>
 zb (
 zb ((zev G_strings_IndexRune) [(zc v2 1),x13]) fun x17 =>
 zb (za (un .not x17)) fun x18 =>
 zn x18 (
 ret (.brk 0 [(zc v2 0)])
 ) (
 ret (.nxt [(zc v2 0),(zc v2 1),x14])
 )
 ) fun o=>nx o (zxa G_strings_IndexRune)
 ) fun o=>ret (zw 1 o)
def zxc (G_strings_IndexRune:List V→M V) (vs:List V):M Out :=
 zb (
 zb (za (zc0 (zc vs 0))) fun x8 =>
 zb (za (zr .gtr x8 (Value.int .i64 0))) fun x9 =>
 zn x9 (
 ret (.nxt [(zc vs 0),(zc vs 1)])
 ) (
 ret (.brk 0 [(zc vs 0)])
 )
 ) fun o=>nx o (zxb G_strings_IndexRune)
def zxd (G_strings_IndexRune:List V→M V) (v4:List V):M Out :=
 ret (.ret [(zc v4 0)])
def zy1 (G_strings_IndexRune:List V→M V) (x0 x1:V):M V :=
 zb (
 zb (
 zb (
 zbf zbs (zxc G_strings_IndexRune) [x0,x1]
 ) fun o=>ret (zw 0 o)
 ) fun o=>nx o (zxd G_strings_IndexRune)
 ) fun o=>zbg o fun vs=>ret (zbe [(zc vs 0)])
def zy2:Hint:=(.seq [] .leaf (.seq [0] (.blk (.loop [0,1] (.seq [0,1] (.seq [] .leaf (.cond .leaf .leaf)) (.blk (.seq [] .leaf (.seq [0,1,6] (.seq [] .leaf (.cond .leaf .leaf)) .leaf)))))) (.seq [] .leaf .leaf)))
def zic (G_strings_IndexRune:List V→M V):List V→M V:=ap2 (zy1 G_strings_IndexRune)
theorem zy3 {G_strings_IndexRune:List V→M V} (k_strings_IndexRune:zu Tryz.prog zx G_strings_IndexRune):zu Tryz.prog zln (zic G_strings_IndexRune):=kn2 (σ:=ovr [(zd5,zcd),(zit,zev G_strings_IndexRune)] noC) (hint:=zy2) (by kernel_rfl) (zj zh7 (zj (zqr k_strings_IndexRune) zk)) fun _ _=>(by kernel_rfl)
def zbib (G_strings_IndexRune:List V→M V) (v3:List V):M Out :=
 zb ((zht G_strings_IndexRune) [(zc v3 0),(zc v3 1)]) fun x40 =>
 zb ((zic G_strings_IndexRune) [x40,(zc v3 1)]) fun x42 =>
 ret (.ret [x42])
def z4s (G_strings_IndexRune:List V→M V) (v2:List V):M Out :=
 zb (
 zb (zg6 [(zc v2 1)]) fun x31 =>
 zb (za (ext 0 x31)) fun x32 =>
 zb (za (ext 1 x31)) fun x33 =>
 zb (newc (List.replicate 256 (Value.bool false))) fun x5 =>
 zb (stn 256 x5 x32) fun _ =>
 zn x33 (
 zb (zf6 [(zc v2 0),x5]) fun x36 =>
 zb (zgo [x36,x5]) fun x37 =>
 ret (.ret [x37])
 ) (
 ret (.nxt [(zc v2 0),(zc v2 1)])
 )
 ) fun o=>nx o (zbib G_strings_IndexRune)
def z4t (G_strings_IndexRune:List V→M V) (vs:List V):M Out :=
 zb (
 zb (za (zc0 (zc vs 1))) fun x15 =>
 zb (za (zr .eql x15 (Value.int .i64 1))) fun x16 =>
 zb (gd x16 true (za (some (zc vs 1)))) fun x18 =>
 zb (gd x16 true (za (zj3 x18 (Value.int .i64 0)))) fun x19 =>
 zb (gd x16 true (za (zr .lss x19 (Value.int .u8 128)))) fun x20 =>
 zb (za (zy x16 x20 (Value.bool false))) fun x21 =>
 zn x21 (
 zb (za (zj3 (zc vs 1) (Value.int .i64 0))) fun x24 =>
 zb (za (zj3 (zc vs 1) (Value.int .i64 0))) fun x27 =>
 zb (zjp [(zc vs 0),x24]) fun x25 =>
 zb (zkh [x25,x27]) fun x28 =>
 ret (.ret [x28])
 ) (
 ret (.nxt [(zc vs 0),(zc vs 1)])
 )
 ) fun o=>nx o (z4s G_strings_IndexRune)
def zqs (G_strings_IndexRune:List V→M V) (x0 x1:V):M V :=
 zb (
 zb (
 zb (za (zr .eql x0 (Value.string ⟨#[]⟩))) fun x8 =>
 zb (gd x8 false (za (some x1))) fun x10 =>
 zb (gd x8 false (za (zr .eql x10 (Value.string ⟨#[]⟩)))) fun x11 =>
 zb (za (zy x8 (Value.bool true) x11)) fun x12 =>
 zn x12 (
 ret (.ret [x0])
 ) (
 ret (.nxt [x0,x1])
 )
 ) fun o=>nx o (z4t G_strings_IndexRune)
 ) fun o=>zbg o fun vs=>ret (zbe [(zc vs 0)])
def zbjn:Hint:=(.seq [] .leaf (.seq [0,1] (.seq [] .leaf (.cond (.seq [] .leaf .leaf) .leaf)) (.seq [0,1] (.seq [] .leaf (.cond (.seq [] (.reg [0,1,2,4,5,3,6,7] []) .leaf) .leaf)) (.seq [0,1] (.seq [] .leaf (.seq [] .leaf (.cond (.seq [] .leaf .leaf) .leaf))) (.seq [] .leaf .leaf)))))
def zgf (G_strings_IndexRune:List V→M V):List V→M V:=ap2 (zqs G_strings_IndexRune)
theorem zxe {G_strings_IndexRune:List V→M V} (k_strings_IndexRune:zu Tryz.prog zx G_strings_IndexRune):zu Tryz.prog znn (zgf G_strings_IndexRune):=kn2 (σ:=ovr [(zn6,zjp),(zop,zkh),(zoq,zg6),(zl4,zf6),(zn7,zgo),(zks,zht G_strings_IndexRune),(zln,zic G_strings_IndexRune)] noC) (hint:=zbjn) (by kernel_rfl) (zj z15 (zj z27 (zj z29 (zj z0a (zj z2b (zj (zw9 k_strings_IndexRune) (zj (zy3 k_strings_IndexRune) zk))))))) fun _ _=>(by kernel_rfl)
def zxf (G_strings_IndexRune:List V→M V) (G_strconv_Atoi:List V→M V) (vs:List V):M Out :=
 zb (G_strconv_Atoi [(zc vs 0)]) fun x30 =>
 zb (za (ext 0 x30)) fun x31 =>
 zb (za (ext 1 x30)) fun x32 =>
 zb (za (zcp false (zef .i x32))) fun x35 =>
 zb (gd x35 true (za (some x31))) fun x37 =>
 zb (gd x35 true (za (zr .leq x37 (Value.int .i64 1000000000)))) fun x38 =>
 zb (za (zy x35 x38 (Value.bool false))) fun x39 =>
 ret (.ret [x31,x39])
def zot (G_strings_IndexRune:List V→M V) (G_strconv_Atoi:List V→M V) (x0:V):M V :=
 zb (
 zb (
 zb (za (zr .eql x0 (Value.string ⟨#[]⟩))) fun x7 =>
 zb (gd x7 false (za (some x0))) fun x9 =>
 zb (gd x7 false (za (zc0 x9))) fun x10 =>
 zb (gd x7 false (za (zr .gtr x10 (Value.int .i64 10)))) fun x11 =>
 zb (za (zy x7 (Value.bool true) x11)) fun x12 =>
 zb (gd x12 false (za (some x0))) fun x14 =>
 zb (gd x12 false ((zgf G_strings_IndexRune) [x14,(Value.string ⟨#[48,49,50,51,52,53,54,55,56,57]⟩)])) fun x15 =>
 zb (gd x12 false (za (zr .neq x15 (Value.string ⟨#[]⟩)))) fun x16 =>
 zb (za (zy x12 (Value.bool true) x16)) fun x17 =>
 zb (gd x17 false (za (some x0))) fun x19 =>
 zb (gd x17 false (za (zc0 x19))) fun x20 =>
 zb (gd x17 false (za (zr .gtr x20 (Value.int .i64 1)))) fun x21 =>
 zb (gd x17 false (za (some x21))) fun x22 =>
 zb (gd x22 true (za (some x0))) fun x23 =>
 zb (gd x22 true (za (zj3 x23 (Value.int .i64 0)))) fun x24 =>
 zb (gd x22 true (za (zr .eql x24 (Value.int .u8 48)))) fun x25 =>
 zb (gd x17 false (za (zy x22 x25 (Value.bool false)))) fun x26 =>
 zb (za (zy x17 (Value.bool true) x26)) fun x27 =>
 zn x27 (
 ret (.ret [(Value.int .i64 0),(Value.bool false)])
 ) (
 ret (.nxt [x0])
 )
 ) fun o=>nx o (zxf G_strings_IndexRune G_strconv_Atoi)
 ) fun o=>zbg o fun vs=>ret (zbe [(zc vs 0),(zc vs 1)])
def zbk5:Hint:=(.seq [] .leaf (.seq [0] (.seq [] .leaf (.cond (.seq [] .leaf .leaf) .leaf)) (.seq [] .leaf (.seq [] .leaf .leaf))))
def zhd (G_strings_IndexRune:List V→M V) (G_strconv_Atoi:List V→M V):List V→M V:=ap1 (zot G_strings_IndexRune G_strconv_Atoi)
theorem z0e {G_strings_IndexRune:List V→M V} {G_strconv_Atoi:List V→M V} (k_strings_IndexRune:zu Tryz.prog zx G_strings_IndexRune) (k_strconv_Atoi:zu Tryz.prog zbp G_strconv_Atoi):zu Tryz.prog zo6 (zhd G_strings_IndexRune G_strconv_Atoi):=kn1 (σ:=ovr [(znn,zgf G_strings_IndexRune),(zbp,G_strconv_Atoi)] noC) (hint:=zbk5) (by kernel_rfl) (zj (zxe k_strings_IndexRune) (zj k_strconv_Atoi zk)) fun _=>(by kernel_rfl)
def z4u (G_strings_IndexRune:List V→M V) (G_strconv_Atoi:List V→M V) (v3:List V):M Out :=
 zb (zcz 1 1 (rep 1 [Value.int .i64 0]) [(0,1,(zc v3 2))]) fun x26 =>
 zb (zc4 1 8 (zc v3 1) x26) fun x27 =>
 ret (.nxt [(zc v3 0),x27,(zc v3 3),(zc v3 4),(zc v3 5)])
def z4v (G_strings_IndexRune:List V→M V) (G_strconv_Atoi:List V→M V) (v4:List V):M Out :=
 zb (za (zr .add (zc v4 4) (Value.int .i64 1))) fun x28 =>
 ret (.nxt [(zc v4 0),(zc v4 1),(zc v4 2),(zc v4 3),x28])
def z4w (G_strings_IndexRune:List V→M V) (G_strconv_Atoi:List V→M V) (v2:List V):M Out :=
 zb (
 zb (
 zb (za (zq 1 (zc v2 2) (zc v2 4))) fun x15 =>
 zb (zz x15) fun x16 =>
 zb ((zhd G_strings_IndexRune G_strconv_Atoi) [x16]) fun x19 =>
 zb (za (ext 0 x19)) fun x20 =>
 zb (za (ext 1 x19)) fun x21 =>
 zb (
 zb (za (un .not x21)) fun x23 =>
 zn x23 (
 ret (.ret [(Value.slice none 0 0),(Value.bool false)])
 ) (
 ret (.nxt [(zc v2 0),(zc v2 1),x20,(zc v2 2),(zc v2 3),(zc v2 4)])
 )
 ) fun o=>nx o (z4u G_strings_IndexRune G_strconv_Atoi)
 ) fun o=>ret (zw 1 o)
 ) fun o=>nx o (z4v G_strings_IndexRune G_strconv_Atoi)
def zo7 (G_strings_IndexRune:List V→M V) (G_strconv_Atoi:List V→M V) (vs:List V):M Out :=
 zb (za (zr .lss (zc vs 4) (zc vs 3))) fun x14 =>
 zb (
 zn x14 (
 ret (.nxt [(zc vs 0),(zc vs 1),(zc vs 2),(zc vs 3),(zc vs 4)])
 ) (
 ret (.brk 0 [(zc vs 0),(zc vs 1)])
 )
 ) fun o=>nx o (z4w G_strings_IndexRune G_strconv_Atoi)
def zun (G_strings_IndexRune:List V→M V) (G_strconv_Atoi:List V→M V) (v5:List V):M Out :=
 zb (za (zt (zc v5 1))) fun x31 =>
 zb (za (zr .eql x31 (zc v5 0))) fun x33 =>
 ret (.ret [(zc v5 1),x33])
def zxg (G_strings_IndexRune:List V→M V) (G_strconv_Atoi:List V→M V) (x0 x1:V):M V :=
 zb (
 zb (
 zb (za (zt x0)) fun x12 =>
 zb (
 zbf zbs (zo7 G_strings_IndexRune G_strconv_Atoi) [x1,(Value.slice none 0 0),x0,x12,(Value.int .i64 0)]
 ) fun o=>ret (zw 0 o)
 ) fun o=>nx o (zun G_strings_IndexRune G_strconv_Atoi)
 ) fun o=>zbg o fun vs=>ret (zbe [(zc vs 0),(zc vs 1)])
def zbjo:Hint:=(.seq [] .leaf (.seq [] .leaf (.seq [1,6] (.seq [] .leaf (.blk (.loop [1,6,11,12,13] (.seq [] .leaf (.seq [1,6,11,12,13] (.cond .leaf .leaf) (.seq [1,6,11,12,13] (.blk (.seq [] .leaf (.seq [] .leaf (.seq [1,6,9,11,12,13] (.seq [] .leaf (.cond (.seq [] .leaf .leaf) .leaf)) .leaf)))) .leaf)))))) (.seq [] .leaf .leaf))))
def zc5 (G_strings_IndexRune:List V→M V) (G_strconv_Atoi:List V→M V):List V→M V:=ap2 (zxg G_strings_IndexRune G_strconv_Atoi)
theorem zmo {G_strings_IndexRune:List V→M V} {G_strconv_Atoi:List V→M V} (k_strings_IndexRune:zu Tryz.prog zx G_strings_IndexRune) (k_strconv_Atoi:zu Tryz.prog zbp G_strconv_Atoi):zu Tryz.prog zhj (zc5 G_strings_IndexRune G_strconv_Atoi):=kn2 (σ:=ovr [(zo6,zhd G_strings_IndexRune G_strconv_Atoi)] noC) (hint:=zbjo) (by kernel_rfl) (zj (z0e k_strings_IndexRune k_strconv_Atoi) zk) fun _ _=>(by kernel_rfl)
def zld (G_strings_IndexRune:List V→M V) (G_strconv_Atoi:List V→M V) (v2:List V):M Out :=
 zhc fun h0 =>
 zb (za (zbo (zc v2 0))) fun x50 =>
 zb (za (ze 9 x50)) fun x51 =>
 zb (za (zq 1 (zc v2 1) (Value.int .i64 0))) fun x54 =>
 zb (zz x51) fun x52 =>
 zb (zz x54) fun x55 =>
 zb4 (zcz 1 1 (rep 1 [Value.string ⟨#[]⟩]) [(0,1,x55)]) fun ha x56 h1 =>
 zb4 (zc4 1 16 x52 x56) fun ha_2 x57 h2 =>
 zb (za (zbo (zc v2 0))) fun x58 =>
 zb (za (ze 9 x58)) fun x59 =>
 zb4 (st1 x59 x57) fun ha_3 u h3 =>
 zfi (chk (zz x51) h1 x52) <|
 ret (.ret [(Value.bool true)])
def zh2 (G_strings_IndexRune:List V→M V) (G_strconv_Atoi:List V→M V) (vs:List V):M Out :=
 zb (
 zb (za (zq 1 (zc vs 1) (Value.int .i64 0))) fun x16 =>
 zb (zz x16) fun x17 =>
 zb (
 zb (za (zr .eql x17 (Value.string ⟨#[109,105,108,108,105,115]⟩))) fun x19 =>
 zn x19 (
 zb (za (zq 1 (zc vs 2) (Value.int .i64 0))) fun x22 =>
 zb (zz x22) fun x23 =>
 zb (za (zbo (zc vs 0))) fun x24 =>
 zb (za (ze 0 x24)) fun x25 =>
 zb (za (ze 0 x25)) fun x26 =>
 zb (za (ze 6 x26)) fun x27 =>
 zb (st1 x27 x23) fun _ =>
 ret (.nxt [(zc vs 0),(zc vs 1)])
 ) (
 zb (za (zr .eql x17 (Value.string ⟨#[102,114,97,109,101]⟩))) fun x29 =>
 zn x29 (
 zb (za (zq 1 (zc vs 2) (Value.int .i64 0))) fun x32 =>
 zb (zz x32) fun x33 =>
 zb (za (zbo (zc vs 0))) fun x34 =>
 zb (za (ze 0 x34)) fun x35 =>
 zb (za (ze 0 x35)) fun x36 =>
 zb (za (ze 3 x36)) fun x37 =>
 zb (za (ze 0 x37)) fun x38 =>
 zb (st1 x38 x33) fun _ =>
 ret (.nxt [(zc vs 0),(zc vs 1)])
 ) (
 zb (za (zr .eql x17 (Value.string ⟨#[105,100,108,101]⟩))) fun x40 =>
 zn x40 (
 zb (za (zq 1 (zc vs 2) (Value.int .i64 0))) fun x43 =>
 zb (zz x43) fun x44 =>
 zb (za (zbo (zc vs 0))) fun x45 =>
 zb (za (ze 0 x45)) fun x46 =>
 zb (za (ze 8 x46)) fun x47 =>
 zb (st1 x47 x44) fun _ =>
 ret (.nxt [(zc vs 0),(zc vs 1)])
 ) (
 ret (.nxt [(zc vs 0),(zc vs 1)])
 )
 )
 )
 ) fun o=>ret (zw 0 o)
 ) fun o=>nx o (zld G_strings_IndexRune G_strconv_Atoi)
def zmp (G_strings_IndexRune:List V→M V) (G_strconv_Atoi:List V→M V) (x0 x1:V):M V :=
 zb (
 zb (za (zgs 1 x1 (some (Value.int .i64 1)) none)) fun x9 =>
 zb ((zc5 G_strings_IndexRune G_strconv_Atoi) [x9,(Value.int .i64 1)]) fun x10 =>
 zb (za (ext 0 x10)) fun x11 =>
 zb (za (ext 1 x10)) fun x12 =>
 zb (
 zb (za (un .not x12)) fun x14 =>
 zn x14 (
 ret (.ret [(Value.bool false)])
 ) (
 ret (.nxt [x0,x1,x11])
 )
 ) fun o=>nx o (zh2 G_strings_IndexRune G_strconv_Atoi)
 ) fun o=>zbg o fun vs=>ret (zbe [(zc vs 0)])
def z6h:Hint:=(.seq [] .leaf (.seq [] .leaf (.seq [0,1,5] (.seq [] .leaf (.cond (.seq [] .leaf .leaf) .leaf)) (.seq [0,1] (.seq [] .leaf (.blk (.seq [] .leaf (.cond .leaf (.seq [] .leaf (.cond .leaf (.seq [] .leaf (.cond .leaf .leaf)))))))) (.seq [] (.reg [0,1,2,3,5,6,4,7,8,9,10,11,12] []) (.seq [] .leaf .leaf))))))
def zej (G_strings_IndexRune:List V→M V) (G_strconv_Atoi:List V→M V):List V→M V:=ap2 (zmp G_strings_IndexRune G_strconv_Atoi)
theorem z6i {G_strings_IndexRune:List V→M V} {G_strconv_Atoi:List V→M V} (k_strings_IndexRune:zu Tryz.prog zx G_strings_IndexRune) (k_strconv_Atoi:zu Tryz.prog zbp G_strconv_Atoi):zu Tryz.prog zbx (zej G_strings_IndexRune G_strconv_Atoi):=kn2 (σ:=ovr [(zhj,zc5 G_strings_IndexRune G_strconv_Atoi)] noC) (hint:=z6h) (by kernel_rfl) (zj (zmo k_strings_IndexRune k_strconv_Atoi) zk) fun _ _=>(by kernel_rfl)
def zi3 (v3:List V):M Out :=
 zb (za (zr .add (zc v3 3) (Value.int .i64 1))) fun x18 =>
 ret (.nxt [(zc v3 0),(zc v3 1),(zc v3 2),x18])
def zfb (v2:List V):M Out :=
 zb (
 zb (
 zb (za (zq 1 (zc v2 0) (zc v2 3))) fun x14 =>
 zb (zz x14) fun x15 =>
 zb (za (zr .eql (zc v2 1) x15)) fun x16 =>
 zn x16 (
 ret (.ret [(zc v2 3)])
 ) (
 ret (.nxt [(zc v2 0),(zc v2 1),(zc v2 2),(zc v2 3)])
 )
 ) fun o=>ret (zw 1 o)
 ) fun o=>nx o zi3
def zdh (vs:List V):M Out :=
 zb (za (zr .lss (zc vs 3) (zc vs 2))) fun x9 =>
 zb (
 zn x9 (
 ret (.nxt [(zc vs 0),(zc vs 1),(zc vs 2),(zc vs 3)])
 ) (
 ret (.brk 0 [])
 )
 ) fun o=>nx o zfb
def zi4 (v4:List V):M Out :=
 ret (.ret [(Value.int .i64 (-1))])
def zfr (x0 x1:V):M V :=
 zb (
 zb (
 zb (za (zt x0)) fun x7 =>
 zb (
 zbf zbs zdh [x0,x1,x7,(Value.int .i64 0)]
 ) fun o=>ret (zw 0 o)
 ) fun o=>nx o zi4
 ) fun o=>zbg o fun vs=>ret (zbe [(zc vs 0)])
def zsm:Hint:=(.seq [] .leaf (.seq [] (.seq [] .leaf (.blk (.loop [0,1,7,8] (.seq [] .leaf (.seq [0,1,7,8] (.cond .leaf .leaf) (.seq [0,1,7,8] (.blk (.seq [] .leaf (.seq [] .leaf (.cond (.seq [] .leaf .leaf) .leaf)))) .leaf)))))) (.seq [] .leaf .leaf)))
def zbi:List V→M V:=ap2 zfr
theorem zdy:zu Tryz.prog zcl (zbi):=kn2 (σ:=ovr [] noC) (hint:=zsm) (by kernel_rfl) zk fun _ _=>(by kernel_rfl)
def z6j (x0:V):M V :=
 zb (
 zb (za (subA 4 1 (ptr gid_conf_types 0) (some (Value.int .i64 1)) none)) fun x5 =>
 zb (zbi [x5,x0]) fun x7 =>
 zb (za (zr .add x7 (Value.int .i64 1))) fun x8 =>
 zb (za (zr .gtr x8 (Value.int .i64 0))) fun x11 =>
 ret (.ret [x8,x11])
 ) fun o=>zbg o fun vs=>ret (zbe [(zc vs 0),(zc vs 1)])
def zbri:Hint:=(.seq [] .leaf (.seq [] .leaf (.seq [] .leaf .leaf)))
def zp8:List V→M V:=ap1 z6j
def zbrj:zv:=ovr [(zcl,zbi)] noC
theorem zbhn:zu Tryz.prog zz4 (zp8):=kn1 (σ:=zbrj) (hint:=zbri) (by kernel_rfl) (zj zdy zk) fun _=>(by kernel_rfl)
def ztw (vs:List V):M Out :=
 zb (za (zq 1 (zc vs 1) (Value.int .i64 1))) fun x12 =>
 zb (zz x12) fun x13 =>
 zb (zp8 [x13]) fun x14 =>
 zb (za (ext 0 x14)) fun x15 =>
 zb (za (ext 1 x14)) fun x16 =>
 zhc fun h0 =>
 zb (za (zbo (zc vs 0))) fun x19 =>
 zb (za (ze 0 x19)) fun x20 =>
 zb (za (ze 0 x20)) fun x21 =>
 zb (za (ze 0 x21)) fun x22 =>
 zb (za (zq 1 (zc vs 1) (Value.int .i64 0))) fun x26 =>
 zb (zz x22) fun x23 =>
 zb (zz x26) fun x27 =>
 zb (za (zr .eql x27 (Value.string ⟨#[111,117,116]⟩))) fun x28 =>
 zb (za (build [Value.int .i64 0,Value.bool false] [(0,1,x15),(1,1,x28)])) fun x29 =>
 zb4 (zcz 2 1 (rep 1 [Value.int .i64 0,Value.bool false]) [(0,2,x29)]) fun ha x30 h1 =>
 zb4 (zc4 2 16 x23 x30) fun ha_2 x31 h2 =>
 zb (za (zbo (zc vs 0))) fun x32 =>
 zb (za (ze 0 x32)) fun x33 =>
 zb (za (ze 0 x33)) fun x34 =>
 zb (za (ze 0 x34)) fun x35 =>
 zb4 (st1 x35 x31) fun ha_3 u h3 =>
 zfi (chk (zz x22) h1 x23) <|
 ret (.ret [x16])
def zjb (x0 x1:V):M V :=
 zb (
 zb (
 zb (za (zt x1)) fun x8 =>
 zb (za (zr .neq x8 (Value.int .i64 2))) fun x9 =>
 zn x9 (
 ret (.ret [(Value.bool false)])
 ) (
 ret (.nxt [x0,x1])
 )
 ) fun o=>nx o ztw
 ) fun o=>zbg o fun vs=>ret (zbe [(zc vs 0)])
def z9y:Hint:=(.seq [] .leaf (.seq [0,1] (.seq [] .leaf (.cond (.seq [] .leaf .leaf) .leaf)) (.seq [] .leaf (.seq [] (.reg [0,1,2,3,4,5,7,8,9,6,10,11,12,13,14,15,16,17,18,19] []) (.seq [] .leaf .leaf)))))
def ze4:List V→M V:=ap2 zjb
def z9z:zv:=ovr [(zz4,zp8)] noC
theorem z90:zu Tryz.prog zca (ze4):=kn2 (σ:=z9z) (hint:=z9y) (by kernel_rfl) (zj zbhn zk) fun _ _=>(by kernel_rfl)
def zmq (G_strings_IndexRune:List V→M V) (G_strconv_Atoi:List V→M V) (vs:List V):M Out :=
 ret (.ret [(zc vs 0)])
def zoe (G_strings_IndexRune:List V→M V) (G_strconv_Atoi:List V→M V) (x0 x1:V):M V :=
 zb (
 zb (za (zgs 1 x1 (some (Value.int .i64 1)) none)) fun x9 =>
 zb ((zc5 G_strings_IndexRune G_strconv_Atoi) [x9,(Value.int .i64 2)]) fun x10 =>
 zb (za (ext 0 x10)) fun x11 =>
 zb (za (ext 1 x10)) fun x12 =>
 zb (
 zn x12 (
 zhc fun h0 =>
 zb (za (zbo x0)) fun x16 =>
 zb (za (ze 0 x16)) fun x17 =>
 zb (za (ze 0 x17)) fun x18 =>
 zb (za (ze 1 x18)) fun x19 =>
 zb (za (zq 1 x11 (Value.int .i64 0))) fun x22 =>
 zb (za (zq 1 x11 (Value.int .i64 1))) fun x25 =>
 zb (za (zq 1 x1 (Value.int .i64 0))) fun x28 =>
 zb (zz x19) fun x20 =>
 zb (zz x22) fun x23 =>
 zb (zz x25) fun x26 =>
 zb (zz x28) fun x29 =>
 zb (za (zr .eql x29 (Value.string ⟨#[119,114,105,116,101]⟩))) fun x30 =>
 zb (za (build [Value.int .i64 0,Value.int .i64 0,Value.bool false] [(0,1,x23),(1,1,x26),(2,1,x30)])) fun x31 =>
 zb4 (zcz 3 1 (rep 1 [Value.int .i64 0,Value.int .i64 0,Value.bool false]) [(0,3,x31)]) fun ha x32 h1 =>
 zb4 (zc4 3 24 x20 x32) fun ha_2 x33 h2 =>
 zb (za (zbo x0)) fun x34 =>
 zb (za (ze 0 x34)) fun x35 =>
 zb (za (ze 0 x35)) fun x36 =>
 zb (za (ze 1 x36)) fun x37 =>
 zb4 (st1 x37 x33) fun ha_3 u h3 =>
 zfi (chk (zz x19) h1 x20) <|
 ret (.nxt [x12])
 ) (
 ret (.nxt [x12])
 )
 ) fun o=>nx o (zmq G_strings_IndexRune G_strconv_Atoi)
 ) fun o=>zbg o fun vs=>ret (zbe [(zc vs 0)])
def z91:Hint:=(.seq [] .leaf (.seq [] .leaf (.seq [6] (.seq [] .leaf (.cond (.reg [0,1,2,3,4,5,7,8,10,11,13,14,6,9,12,15,16,17,18,19,20,21,22,23,24] []) .leaf)) (.seq [] .leaf .leaf))))
def ze5 (G_strings_IndexRune:List V→M V) (G_strconv_Atoi:List V→M V):List V→M V:=ap2 (zoe G_strings_IndexRune G_strconv_Atoi)
theorem z92 {G_strings_IndexRune:List V→M V} {G_strconv_Atoi:List V→M V} (k_strings_IndexRune:zu Tryz.prog zx G_strings_IndexRune) (k_strconv_Atoi:zu Tryz.prog zbp G_strconv_Atoi):zu Tryz.prog zcb (ze5 G_strings_IndexRune G_strconv_Atoi):=kn2 (σ:=ovr [(zhj,zc5 G_strings_IndexRune G_strconv_Atoi)] noC) (hint:=z91) (by kernel_rfl) (zj (zmo k_strings_IndexRune k_strconv_Atoi) zk) fun _ _=>(by kernel_rfl)
def zsn (v2:List V):M Out :=
 ret (.ret [(zc v2 0)])
def zso (vs:List V):M Out :=
 zb (
 zb (za (capV (zc vs 0))) fun x10 =>
 zb (za (zt (zc vs 0))) fun x12 =>
 zb (za (zr .sub x10 x12)) fun x13 =>
 zb (za (zr .sub (zc vs 1) x13)) fun x14 =>
 zb (za (zr .gtr x14 (Value.int .i64 0))) fun x16 =>
 zn x16 (
 zb (za (capV (zc vs 0))) fun x19 =>
 zb (za (zgs 1 (zc vs 0) none (some x19))) fun x20 =>
 zb (appZ 1 16 [Value.string ⟨#[]⟩] x20 x14) fun x22 =>
 zb (za (zt (zc vs 0))) fun x24 =>
 zb (za (zgs 1 x22 none (some x24))) fun x25 =>
 ret (.nxt [x25])
 ) (
 ret (.nxt [(zc vs 0)])
 )
 ) fun o=>nx o zsn
def ztx (x0 x1:V):M V :=
 zb (
 zb (
 zb (za (zr .lss x1 (Value.int .i64 0))) fun x6 =>
 zn x6 (
 zb (za (some (Value.iface zl7 (Value.string ⟨#[99,97,110,110,111,116,32,98,101,32,110,101,103,97,116,105,118,101]⟩)))) fun x7 =>
 zb (za ((none:Option V))) fun _ =>
 ret (.nxt [x0,x1])
 ) (
 ret (.nxt [x0,x1])
 )
 ) fun o=>nx o zso
 ) fun o=>zbg o fun vs=>ret (zbe [(zc vs 0)])
def zty:Hint:=(.seq [] .leaf (.seq [0,1] (.seq [] .leaf (.cond .leaf .leaf)) (.seq [0] (.seq [] .leaf (.seq [] .leaf (.cond .leaf .leaf))) (.seq [] .leaf .leaf))))
def zgg:List V→M V:=ap2 ztx
theorem ztz:zu Tryz.prog zi2 (zgg):=kn2 (σ:=ovr [] noC) (hint:=zty) (by kernel_rfl) zk fun _ _=>(by kernel_rfl)
def zqt (v3:List V):M Out :=
 zb (za (zr .add (zc v3 4) (Value.int .i64 1))) fun x22 =>
 ret (.nxt [(zc v3 0),(zc v3 1),(zc v3 2),(zc v3 3),x22])
def zqu (v2:List V):M Out :=
 zb (
 zb (
 zb (za (zq 1 (zc v2 2) (zc v2 4))) fun x13 =>
 zb (zz x13) fun x14 =>
 zb (za (zt x14)) fun x17 =>
 zb (za (zr .add (zc v2 1) x17)) fun x18 =>
 zb (za (zr .lss x18 (Value.int .i64 0))) fun x20 =>
 zn x20 (
 zb (za (some (Value.iface zl7 (Value.string ⟨#[108,101,110,32,111,117,116,32,111,102,32,114,97,110,103,101]⟩)))) fun x21 =>
 zb (za ((none:Option V))) fun _ =>
 ret (.nxt [(zc v2 0),x18,(zc v2 2),(zc v2 3),(zc v2 4)])
 ) (
 ret (.nxt [(zc v2 0),x18,(zc v2 2),(zc v2 3),(zc v2 4)])
 )
 ) fun o=>ret (zw 1 o)
 ) fun o=>nx o zqt
def zqv (vs:List V):M Out :=
 zb (za (zr .lss (zc vs 4) (zc vs 3))) fun x12 =>
 zb (
 zn x12 (
 ret (.nxt [(zc vs 0),(zc vs 1),(zc vs 2),(zc vs 3),(zc vs 4)])
 ) (
 ret (.brk 0 [(zc vs 0),(zc vs 1)])
 )
 ) fun o=>nx o zqu
def zqw (v7:List V):M Out :=
 zb (za (zr .add (zc v7 3) (Value.int .i64 1))) fun x34 =>
 ret (.nxt [(zc v7 0),(zc v7 1),(zc v7 2),x34])
def zqx (v6:List V):M Out :=
 zb (
 zb (
 zb (za (zq 1 (zc v6 1) (zc v6 3))) fun x29 =>
 zb (zz x29) fun x30 =>
 zb (zc4 1 16 (zc v6 0) x30) fun x33 =>
 ret (.nxt [x33,(zc v6 1),(zc v6 2),(zc v6 3)])
 ) fun o=>ret (zw 3 o)
 ) fun o=>nx o zqw
def zqy (v5:List V):M Out :=
 zb (za (zr .lss (zc v5 3) (zc v5 2))) fun x28 =>
 zb (
 zn x28 (
 ret (.nxt [(zc v5 0),(zc v5 1),(zc v5 2),(zc v5 3)])
 ) (
 ret (.brk 2 [(zc v5 0)])
 )
 ) fun o=>nx o zqx
def zqz (v8:List V):M Out :=
 ret (.ret [(zc v8 0)])
def zq0 (v4:List V):M Out :=
 zb (zgg [(Value.slice none 0 0),(zc v4 1)]) fun x24 =>
 zb (
 zb (za (zt (zc v4 0))) fun x26 =>
 zb (
 zbf zbs zqy [x24,(zc v4 0),x26,(Value.int .i64 0)]
 ) fun o=>ret (zw 2 o)
 ) fun o=>nx o zqz
def zrz (x0:V):M V :=
 zb (
 zb (
 zb (za (zt x0)) fun x10 =>
 zb (
 zbf zbs zqv [x0,(Value.int .i64 0),x0,x10,(Value.int .i64 0)]
 ) fun o=>ret (zw 0 o)
 ) fun o=>nx o zq0
 ) fun o=>zbg o fun vs=>ret (zbe [(zc vs 0)])
def zr0:Hint:=(.seq [] .leaf (.seq [] .leaf (.seq [0,3] (.seq [] .leaf (.blk (.loop [0,3,9,10,11] (.seq [] .leaf (.seq [0,3,9,10,11] (.cond .leaf .leaf) (.seq [0,3,9,10,11] (.blk (.seq [] .leaf (.seq [] .leaf (.seq [] .leaf (.cond .leaf .leaf))))) .leaf)))))) (.seq [] .leaf (.seq [6] (.seq [] .leaf (.blk (.loop [6,25,26,27] (.seq [] .leaf (.seq [6,25,26,27] (.cond .leaf .leaf) (.seq [6,25,26,27] (.blk (.seq [] .leaf .leaf)) .leaf)))))) (.seq [] .leaf .leaf))))))
def zdi:List V→M V:=ap1 zrz
def zr1:zv:=ovr [(zi2,zgg)] noC
theorem zr2:zu Tryz.prog zh5 (zdi):=kn1 (σ:=zr1) (hint:=zr0) (by kernel_rfl) (zj ztz zk) fun _=>(by kernel_rfl)
def zof (G_strings_IndexRune:List V→M V) (G_strconv_Atoi:List V→M V) (v4:List V):M Out :=
 zhc fun h0_2 =>
 zb (za (zbo (zc v4 0))) fun x65 =>
 zb (za (ze 0 x65)) fun x66 =>
 zb (za (ze 0 x66)) fun x67 =>
 zb (za (ze 2 x67)) fun x68 =>
 zb (zz x68) fun x69 =>
 zb (ldn 5 (zc v4 1)) fun x70 =>
 zb4 (zcz 5 1 (rep 1 [Value.int .i64 0,Value.int .i64 0,Value.int .i64 0,Value.int .i64 0,Value.int .i64 0]) [(0,5,x70)]) fun ha_4 x71 h1_2 =>
 zb4 (zc4 5 40 x69 x71) fun ha_5 x72 h2_2 =>
 zb (za (zbo (zc v4 0))) fun x73 =>
 zb (za (ze 0 x73)) fun x74 =>
 zb (za (ze 0 x74)) fun x75 =>
 zb (za (ze 2 x75)) fun x76 =>
 zb4 (st1 x76 x72) fun ha_6 u_4 h3_2 =>
 zfi (chk (zz x68) h1_2 x69) <|
 ret (.ret [(Value.bool true)])
def zu3 (G_strings_IndexRune:List V→M V) (G_strconv_Atoi:List V→M V) (v3:List V):M Out :=
 zhc fun h0 =>
 zb (za (zq 1 (zc v3 3) (Value.int .i64 0))) fun x47 =>
 zb (za (zq 1 (zc v3 3) (Value.int .i64 1))) fun x50 =>
 zb (zz x47) fun x48 =>
 zb (za (ze 1 (zc v3 1))) fun x53 =>
 zb (zz x50) fun x51 =>
 zb4 (st1 x53 x48) fun ha u h1 =>
 zb (za (ze 2 (zc v3 1))) fun x54 =>
 zb4 (st1 x54 x51) fun ha_2 u_2 h2 =>
 zb (za (ze 3 (zc v3 1))) fun x55 =>
 zb4 (st1 x55 (zc v3 2)) fun ha_3 u_3 h3 =>
 zfi (chk (zz x50) h1 x51) <|
 zb (
 zb (za (zt (zc v3 3))) fun x57 =>
 zb (za (zr .eql x57 (Value.int .i64 3))) fun x58 =>
 zn x58 (
 zb (za (zq 1 (zc v3 3) (Value.int .i64 2))) fun x60 =>
 zb (zz x60) fun x61 =>
 zb (za (ze 4 (zc v3 1))) fun x62 =>
 zb (st1 x62 x61) fun _ =>
 ret (.nxt [(zc v3 0),(zc v3 1)])
 ) (
 ret (.nxt [(zc v3 0),(zc v3 1)])
 )
 ) fun o=>nx o (zof G_strings_IndexRune G_strconv_Atoi)
def zu4 (G_strings_IndexRune:List V→M V) (G_strconv_Atoi:List V→M V) (v2:List V):M Out :=
 zb (za (zq 1 (zc v2 1) (Value.int .i64 3))) fun x23 =>
 zb (zz x23) fun x24 =>
 zb (zp8 [x24]) fun x25 =>
 zb (za (ext 0 x25)) fun x26 =>
 zb (za (ext 1 x25)) fun x27 =>
 zb (za (zgs 1 (zc v2 1) (some (Value.int .i64 1)) (some (Value.int .i64 3)))) fun x30 =>
 zb (za (zgs 1 (zc v2 1) (some (Value.int .i64 4)) none)) fun x32 =>
 zb (za (zr .sub (zc v2 3) (Value.int .i64 2))) fun x36 =>
 zb (zcz 1 2 (rep 2 [Value.slice none 0 0]) [(0,1,x30),(1,1,x32)]) fun x33 =>
 zb (zdi [x33]) fun x34 =>
 zb ((zc5 G_strings_IndexRune G_strconv_Atoi) [x34,x36]) fun x37 =>
 zb (za (ext 0 x37)) fun x38 =>
 zb (za (ext 1 x37)) fun x39 =>
 zb (
 zb (za (un .not x39)) fun x41 =>
 zb (gd x41 false (za (some x27))) fun x43 =>
 zb (gd x41 false (za (un .not x43))) fun x44 =>
 zb (za (zy x41 (Value.bool true) x44)) fun x45 =>
 zn x45 (
 ret (.ret [(Value.bool false)])
 ) (
 ret (.nxt [(zc v2 0),(zc v2 2),x26,x38])
 )
 ) fun o=>nx o (zu3 G_strings_IndexRune G_strconv_Atoi)
def zjc (G_strings_IndexRune:List V→M V) (G_strconv_Atoi:List V→M V) (vs:List V):M Out :=
 zb (
 zb (za (zt (zc vs 1))) fun x18 =>
 zb (za (zr .neq x18 (zc vs 3))) fun x20 =>
 zn x20 (
 ret (.ret [(Value.bool false)])
 ) (
 ret (.nxt [(zc vs 0),(zc vs 1),(zc vs 2),(zc vs 3)])
 )
 ) fun o=>nx o (zu4 G_strings_IndexRune G_strconv_Atoi)
def zkj (G_strings_IndexRune:List V→M V) (G_strconv_Atoi:List V→M V) (x0 x1:V):M V :=
 zb (
 zb (za (build [Value.int .i64 0,Value.int .i64 0,Value.int .i64 0,Value.int .i64 0,Value.int .i64 0] [(0,1,(Value.int .i64 1))])) fun x11 =>
 zb (newc [Value.int .i64 0,Value.int .i64 0,Value.int .i64 0,Value.int .i64 0,Value.int .i64 0]) fun x5 =>
 zb (stn 5 x5 x11) fun _ =>
 zb (
 zb (za (zq 1 x1 (Value.int .i64 0))) fun x13 =>
 zb (zz x13) fun x14 =>
 zb (za (zr .eql x14 (Value.string ⟨#[113,117,101,117,101]⟩))) fun x15 =>
 zn x15 (
 zb (za (ze 0 x5)) fun x16 =>
 zb (st1 x16 (Value.int .i64 2)) fun _ =>
 ret (.nxt [x0,x1,x5,(Value.int .i64 5)])
 ) (
 ret (.nxt [x0,x1,x5,(Value.int .i64 4)])
 )
 ) fun o=>nx o (zjc G_strings_IndexRune G_strconv_Atoi)
 ) fun o=>zbg o fun vs=>ret (zbe [(zc vs 0)])
def zbcs:Hint:=(.seq [] .leaf (.seq [] .leaf (.seq [] .leaf (.seq [0,1,5,6] (.seq [] .leaf (.cond .leaf .leaf)) (.seq [0,1,5,6] (.seq [] .leaf (.cond (.seq [] .leaf .leaf) .leaf)) (.seq [] .leaf (.seq [] (.reg [0,1,2,3,6,7,4,5,8,9,10,11,12,13] []) (.seq [0,5,7,9] (.seq [] .leaf (.cond (.seq [] .leaf .leaf) .leaf)) (.seq [] (.reg [0,1,3,4,6,2,7,5,8,9,10,11,12] []) (.seq [0,5] (.seq [] .leaf (.cond .leaf .leaf)) (.seq [] (.reg [0,1,2,3,4,5,6,7,8,9,10,11,12,13,14] []) (.seq [] .leaf .leaf))))))))))))
def zfs (G_strings_IndexRune:List V→M V) (G_strconv_Atoi:List V→M V):List V→M V:=ap2 (zkj G_strings_IndexRune G_strconv_Atoi)
theorem zbct {G_strings_IndexRune:List V→M V} {G_strconv_Atoi:List V→M V} (k_strings_IndexRune:zu Tryz.prog zx G_strings_IndexRune) (k_strconv_Atoi:zu Tryz.prog zbp G_strconv_Atoi):zu Tryz.prog zcj (zfs G_strings_IndexRune G_strconv_Atoi):=kn2 (σ:=ovr [(zz4,zp8),(zh5,zdi),(zhj,zc5 G_strings_IndexRune G_strconv_Atoi)] noC) (hint:=zbcs) (by kernel_rfl) (zj zbhn (zj zr2 (zj (zmo k_strings_IndexRune k_strconv_Atoi) zk))) fun _ _=>(by kernel_rfl)
def zle (G_strings_IndexRune:List V→M V) (G_strconv_Atoi:List V→M V) (vs:List V):M Out :=
 ret (.ret [(zc vs 0)])
def zmr (G_strings_IndexRune:List V→M V) (G_strconv_Atoi:List V→M V) (x0 x1:V):M V :=
 zb (
 zb (za (zgs 1 x1 (some (Value.int .i64 1)) none)) fun x9 =>
 zb ((zc5 G_strings_IndexRune G_strconv_Atoi) [x9,(Value.int .i64 3)]) fun x10 =>
 zb (za (ext 0 x10)) fun x11 =>
 zb (za (ext 1 x10)) fun x12 =>
 zb (
 zn x12 (
 zhc fun h0 =>
 zb (za (zbo x0)) fun x16 =>
 zb (za (ze 0 x16)) fun x17 =>
 zb (za (ze 0 x17)) fun x18 =>
 zb (za (ze 3 x18)) fun x19 =>
 zb (za (ze 1 x19)) fun x20 =>
 zb (za (zq 1 x11 (Value.int .i64 0))) fun x23 =>
 zb (za (zq 1 x11 (Value.int .i64 1))) fun x26 =>
 zb (za (zq 1 x11 (Value.int .i64 2))) fun x29 =>
 zb (zz x20) fun x21 =>
 zb (zz x23) fun x24 =>
 zb (zz x26) fun x27 =>
 zb (zz x29) fun x30 =>
 zb (za (build [Value.int .i64 0,Value.int .i64 0,Value.int .i64 0] [(0,1,x24),(1,1,x27),(2,1,x30)])) fun x31 =>
 zb4 (zcz 3 1 (rep 1 [Value.int .i64 0,Value.int .i64 0,Value.int .i64 0]) [(0,3,x31)]) fun ha x32 h1 =>
 zb4 (zc4 3 24 x21 x32) fun ha_2 x33 h2 =>
 zb (za (zbo x0)) fun x34 =>
 zb (za (ze 0 x34)) fun x35 =>
 zb (za (ze 0 x35)) fun x36 =>
 zb (za (ze 3 x36)) fun x37 =>
 zb (za (ze 1 x37)) fun x38 =>
 zb4 (st1 x38 x33) fun ha_3 u h3 =>
 zfi (chk (zz x20) h1 x21) <|
 ret (.nxt [x12])
 ) (
 ret (.nxt [x12])
 )
 ) fun o=>nx o (zle G_strings_IndexRune G_strconv_Atoi)
 ) fun o=>zbg o fun vs=>ret (zbe [(zc vs 0)])
def z6k:Hint:=(.seq [] .leaf (.seq [] .leaf (.seq [6] (.seq [] .leaf (.cond (.reg [0,1,2,3,4,5,6,8,9,11,12,14,15,7,10,13,16,17,18,19,20,21,22,23,24,25] []) .leaf)) (.seq [] .leaf .leaf))))
def zek (G_strings_IndexRune:List V→M V) (G_strconv_Atoi:List V→M V):List V→M V:=ap2 (zmr G_strings_IndexRune G_strconv_Atoi)
theorem z6l {G_strings_IndexRune:List V→M V} {G_strconv_Atoi:List V→M V} (k_strings_IndexRune:zu Tryz.prog zx G_strings_IndexRune) (k_strconv_Atoi:zu Tryz.prog zbp G_strconv_Atoi):zu Tryz.prog zc1 (zek G_strings_IndexRune G_strconv_Atoi):=kn2 (σ:=ovr [(zhj,zc5 G_strings_IndexRune G_strconv_Atoi)] noC) (hint:=z6k) (by kernel_rfl) (zj (zmo k_strings_IndexRune k_strconv_Atoi) zk) fun _ _=>(by kernel_rfl)
def ziy (G_strings_IndexRune:List V→M V) (G_strconv_Atoi:List V→M V) (vs:List V):M Out :=
 ret (.ret [(zc vs 0)])
def zjs (G_strings_IndexRune:List V→M V) (G_strconv_Atoi:List V→M V) (x0 x1:V):M V :=
 zb (
 zb (za (zgs 1 x1 (some (Value.int .i64 1)) none)) fun x9 =>
 zb ((zc5 G_strings_IndexRune G_strconv_Atoi) [x9,(Value.int .i64 2)]) fun x10 =>
 zb (za (ext 0 x10)) fun x11 =>
 zb (za (ext 1 x10)) fun x12 =>
 zb (
 zn x12 (
 zhc fun h0 =>
 zb (za (zbo x0)) fun x16 =>
 zb (za (ze 0 x16)) fun x17 =>
 zb (za (ze 0 x17)) fun x18 =>
 zb (za (ze 3 x18)) fun x19 =>
 zb (za (ze 1 x19)) fun x20 =>
 zb (za (zq 1 x11 (Value.int .i64 0))) fun x23 =>
 zb (za (zq 1 x11 (Value.int .i64 1))) fun x26 =>
 zb (zz x20) fun x21 =>
 zb (zz x23) fun x24 =>
 zb (zz x26) fun x27 =>
 zb (za (build [Value.int .i64 0,Value.int .i64 0,Value.int .i64 0] [(0,1,(Value.int .i64 (-1))),(1,1,x24),(2,1,x27)])) fun x28 =>
 zb4 (zcz 3 1 (rep 1 [Value.int .i64 0,Value.int .i64 0,Value.int .i64 0]) [(0,3,x28)]) fun ha x29 h1 =>
 zb4 (zc4 3 24 x21 x29) fun ha_2 x30 h2 =>
 zb (za (zbo x0)) fun x31 =>
 zb (za (ze 0 x31)) fun x32 =>
 zb (za (ze 0 x32)) fun x33 =>
 zb (za (ze 3 x33)) fun x34 =>
 zb (za (ze 1 x34)) fun x35 =>
 zb4 (st1 x35 x30) fun ha_3 u h3 =>
 zfi (chk (zz x20) h1 x21) <|
 ret (.nxt [x12])
 ) (
 ret (.nxt [x12])
 )
 ) fun o=>nx o (ziy G_strings_IndexRune G_strconv_Atoi)
 ) fun o=>zbg o fun vs=>ret (zbe [(zc vs 0)])
def z2c:Hint:=(.seq [] .leaf (.seq [] .leaf (.seq [6] (.seq [] .leaf (.cond (.reg [0,1,2,3,4,5,6,8,9,11,12,7,10,13,14,15,16,17,18,19,20,21,22] []) .leaf)) (.seq [] .leaf .leaf))))
def zde (G_strings_IndexRune:List V→M V) (G_strconv_Atoi:List V→M V):List V→M V:=ap2 (zjs G_strings_IndexRune G_strconv_Atoi)
theorem z2d {G_strings_IndexRune:List V→M V} {G_strconv_Atoi:List V→M V} (k_strings_IndexRune:zu Tryz.prog zx G_strings_IndexRune) (k_strconv_Atoi:zu Tryz.prog zbp G_strconv_Atoi):zu Tryz.prog zcf (zde G_strings_IndexRune G_strconv_Atoi):=kn2 (σ:=ovr [(zhj,zc5 G_strings_IndexRune G_strconv_Atoi)] noC) (hint:=z2c) (by kernel_rfl) (zj (zmo k_strings_IndexRune k_strconv_Atoi) zk) fun _ _=>(by kernel_rfl)
def zpf (x0 x1:V):M V :=
 zb (
 zb (za (zbo x0)) fun x7 =>
 zb (za (ze 0 x7)) fun x8 =>
 zb (za (ze 0 x8)) fun x9 =>
 zb (za (ze 5 x9)) fun x10 =>
 zb (zz x10) fun x11 =>
 zb (za (build [Value.slice none 0 0,Value.slice none 0 0] [])) fun x12 =>
 zb (zcz 2 1 (rep 1 [Value.slice none 0 0,Value.slice none 0 0]) [(0,2,x12)]) fun x13 =>
 zb (zc4 2 48 x11 x13) fun x14 =>
 zb (za (zbo x0)) fun x15 =>
 zb (za (ze 0 x15)) fun x16 =>
 zb (za (ze 0 x16)) fun x17 =>
 zb (za (ze 5 x17)) fun x18 =>
 zb (st1 x18 x14) fun _ =>
 zb (za (zt x1)) fun x20 =>
 zb (za (zr .eql x20 (Value.int .i64 1))) fun x21 =>
 ret (.ret [x21])
 ) fun o=>zbg o fun vs=>ret (zbe [(zc vs 0)])
def zbcu:Hint:=(.seq [] .leaf (.seq [] .leaf (.seq [] .leaf .leaf)))
def zft:List V→M V:=ap2 zpf
theorem zbcv:zu Tryz.prog zdl (zft):=kn2 (σ:=ovr [] noC) (hint:=zbcu) (by kernel_rfl) zk fun _ _=>(by kernel_rfl)
def zg3 (G_strings_IndexRune:List V→M V) (G_strconv_Atoi:List V→M V) (v2:List V):M Out :=
 zb (gd (zc v2 0) true (za (ze 0 (zc v2 1)))) fun x78 =>
 zb (gd (zc v2 0) true (zz x78)) fun x79 =>
 zb (gd (zc v2 0) true (za (zr .gtr x79 (Value.int .i64 0)))) fun x80 =>
 zb (za (zy (zc v2 0) x80 (Value.bool false))) fun x81 =>
 ret (.ret [x81])
def zu5 (G_strings_IndexRune:List V→M V) (G_strconv_Atoi:List V→M V) (vs:List V):M Out :=
 zb (za (zq 1 (zc vs 1) (Value.int .i64 2))) fun x24 =>
 zb (zz x24) fun x25 =>
 zb ((zhd G_strings_IndexRune G_strconv_Atoi) [x25]) fun x26 =>
 zb (za (ext 0 x26)) fun x27 =>
 zb (za (ext 1 x26)) fun x28 =>
 zb (zcz 1 2 (rep 2 [Value.string ⟨#[]⟩]) [(0,1,(Value.string ⟨#[112,111,105,110,116]⟩)),(1,1,(Value.string ⟨#[112,111,114,116]⟩))]) fun x29 =>
 zb (za (zq 1 (zc vs 1) (Value.int .i64 1))) fun x31 =>
 zb (zz x31) fun x32 =>
 zb (zbi [x29,x32]) fun x33 =>
 zb (za (zr .add (Value.int .i64 1) x33)) fun x34 =>
 zb (za (build [Value.int .i64 0,Value.int .i64 0] [(0,1,x34),(1,1,x27)])) fun x36 =>
 zb (newc [Value.int .i64 0,Value.int .i64 0]) fun x7 =>
 zb (stn 2 x7 x36) fun _ =>
 zb (za (zbo (zc vs 0))) fun x38 =>
 zb (za (ze 0 x38)) fun x39 =>
 zb (za (ze 0 x39)) fun x40 =>
 zb (za (ze 5 x40)) fun x41 =>
 zb (za (zbo (zc vs 0))) fun x44 =>
 zb (za (ze 0 x44)) fun x45 =>
 zb (za (ze 0 x45)) fun x46 =>
 zb (za (ze 5 x46)) fun x47 =>
 zb (zz x41) fun x42 =>
 zb (zz x47) fun x48 =>
 zb (za (zt x48)) fun x49 =>
 zb (za (zr .sub x49 (Value.int .i64 1))) fun x50 =>
 zb (za (zq 2 x42 x50)) fun x51 =>
 zb (
 zb (za (zq 1 (zc vs 1) (Value.int .i64 0))) fun x53 =>
 zb (zz x53) fun x54 =>
 zb (za (zr .eql x54 (Value.string ⟨#[103,101,116]⟩))) fun x55 =>
 zn x55 (
 zhc fun h0 =>
 zb (za (zbo x51)) fun x58 =>
 zb (za (ze 0 x58)) fun x59 =>
 zb (zz x59) fun x60 =>
 zb (ldn 2 x7) fun x61 =>
 zb4 (zcz 2 1 (rep 1 [Value.int .i64 0,Value.int .i64 0]) [(0,2,x61)]) fun ha x62 h1 =>
 zb4 (zc4 2 16 x60 x62) fun ha_2 x63 h2 =>
 zb (za (zbo x51)) fun x64 =>
 zb (za (ze 0 x64)) fun x65 =>
 zb4 (st1 x65 x63) fun ha_3 u h3 =>
 zfi (chk (zz x59) h1 x60) <|
 ret (.nxt [x28,x7])
 ) (
 zhc fun h0_2 =>
 zb (za (zbo x51)) fun x68 =>
 zb (za (ze 1 x68)) fun x69 =>
 zb (zz x69) fun x70 =>
 zb (ldn 2 x7) fun x71 =>
 zb4 (zcz 2 1 (rep 1 [Value.int .i64 0,Value.int .i64 0]) [(0,2,x71)]) fun ha_4 x72 h1_2 =>
 zb4 (zc4 2 16 x70 x72) fun ha_5 x73 h2_2 =>
 zb (za (zbo x51)) fun x74 =>
 zb (za (ze 1 x74)) fun x75 =>
 zb4 (st1 x75 x73) fun ha_6 u_2 h3_2 =>
 zfi (chk (zz x69) h1_2 x70) <|
 ret (.nxt [x28,x7])
 )
 ) fun o=>nx o (zg3 G_strings_IndexRune G_strconv_Atoi)
def zhu (G_strings_IndexRune:List V→M V) (G_strconv_Atoi:List V→M V) (x0 x1:V):M V :=
 zb (
 zb (
 zb (za (zt x1)) fun x10 =>
 zb (za (zr .neq x10 (Value.int .i64 3))) fun x11 =>
 zb (gd x11 false (za (some x0))) fun x13 =>
 zb (gd x11 false (za (zbo x13))) fun x14 =>
 zb (gd x11 false (za (ze 0 x14))) fun x15 =>
 zb (gd x11 false (za (ze 0 x15))) fun x16 =>
 zb (gd x11 false (za (ze 5 x16))) fun x17 =>
 zb (gd x11 false (zz x17)) fun x18 =>
 zb (gd x11 false (za (zt x18))) fun x19 =>
 zb (gd x11 false (za (zr .eql x19 (Value.int .i64 0)))) fun x20 =>
 zb (za (zy x11 (Value.bool true) x20)) fun x21 =>
 zn x21 (
 ret (.ret [(Value.bool false)])
 ) (
 ret (.nxt [x0,x1])
 )
 ) fun o=>nx o (zu5 G_strings_IndexRune G_strconv_Atoi)
 ) fun o=>zbg o fun vs=>ret (zbe [(zc vs 0)])
def zbcw:Hint:=(.seq [] .leaf (.seq [0,1] (.seq [] .leaf (.cond (.seq [] .leaf .leaf) .leaf)) (.seq [] .leaf (.seq [] .leaf (.seq [] (.reg [0,1,2,3,4,6,7,8,9,10,5,11,12,13,14,15] []) (.seq [6,7] (.seq [] .leaf (.cond (.reg [0,1,2,3,4,5,6,7,8,9,10] []) (.reg [0,1,2,3,4,5,6,7,8,9,10] []))) (.seq [] .leaf .leaf)))))))
def zfu (G_strings_IndexRune:List V→M V) (G_strconv_Atoi:List V→M V):List V→M V:=ap2 (zhu G_strings_IndexRune G_strconv_Atoi)
theorem zbcx {G_strings_IndexRune:List V→M V} {G_strconv_Atoi:List V→M V} (k_strings_IndexRune:zu Tryz.prog zx G_strings_IndexRune) (k_strconv_Atoi:zu Tryz.prog zbp G_strconv_Atoi):zu Tryz.prog zck (zfu G_strings_IndexRune G_strconv_Atoi):=kn2 (σ:=ovr [(zo6,zhd G_strings_IndexRune G_strconv_Atoi),(zcl,zbi)] noC) (hint:=zbcw) (by kernel_rfl) (zj (z0e k_strings_IndexRune k_strconv_Atoi) (zj zdy zk)) fun _ _=>(by kernel_rfl)
def zbau (G_strings_IndexRune:List V→M V) (G_strings_IndexByte:List V→M V) (v4:List V):M Out :=
 zb (za (zr .add (zc v4 2) (Value.int .i64 2))) fun x20 =>
 ret (.nxt [(zc v4 0),(zc v4 1),x20])
def zbav (G_strings_IndexRune:List V→M V) (G_strings_IndexByte:List V→M V) (v3:List V):M Out :=
 zb (
 zb (
 zb (za (zj3 (zc v3 0) (zc v3 2))) fun x24 =>
 zb (za (zr .add (zc v3 2) (Value.int .i64 1))) fun x29 =>
 zb (za (zj3 (zc v3 0) x29)) fun x30 =>
 zb (G_strings_IndexByte [(Value.string ⟨#[48,49,50,51,52,53,54,55,56,57,97,98,99,100,101,102]⟩),x24]) fun x25 =>
 zb (za (zr .shl x25 (Value.int .u64 4))) fun x26 =>
 zb (G_strings_IndexByte [(Value.string ⟨#[48,49,50,51,52,53,54,55,56,57,97,98,99,100,101,102]⟩),x30]) fun x31 =>
 zb (za (zr .or x26 x31)) fun x32 =>
 zb (za (cvi .u8 x32)) fun x33 =>
 zb (zcz 1 1 (rep 1 [Value.int .u8 0]) [(0,1,x33)]) fun x34 =>
 zb (zc4 1 1 (zc v3 1) x34) fun x35 =>
 ret (.nxt [(zc v3 0),x35,(zc v3 2)])
 ) fun o=>ret (zw 1 o)
 ) fun o=>nx o (zbau G_strings_IndexRune G_strings_IndexByte)
def z0f (G_strings_IndexRune:List V→M V) (G_strings_IndexByte:List V→M V) (v2:List V):M Out :=
 zb (
 zb (za (zc0 (zc v2 0))) fun x17 =>
 zb (za (zr .lss (zc v2 2) x17)) fun x18 =>
 zn x18 (
 ret (.nxt [(zc v2 0),(zc v2 1),(zc v2 2)])
 ) (
 ret (.brk 0 [(zc v2 1)])
 )
 ) fun o=>nx o (zbav G_strings_IndexRune G_strings_IndexByte)
def zbaw (G_strings_IndexRune:List V→M V) (G_strings_IndexByte:List V→M V) (v5:List V):M Out :=
 zb (b2s (zc v5 0)) fun x37 =>
 ret (.ret [x37,(Value.bool true)])
def zbax (G_strings_IndexRune:List V→M V) (G_strings_IndexByte:List V→M V) (vs:List V):M Out :=
 zb (
 zb (
 zbf zbs (z0f G_strings_IndexRune G_strings_IndexByte) [(zc vs 0),(Value.slice none 0 0),(Value.int .i64 0)]
 ) fun o=>ret (zw 0 o)
 ) fun o=>nx o (zbaw G_strings_IndexRune G_strings_IndexByte)
def zvs (G_strings_IndexRune:List V→M V) (G_strings_IndexByte:List V→M V) (x0:V):M V :=
 zb (
 zb (
 zb (za (zc0 x0)) fun x7 =>
 zb (za (zr .rem x7 (Value.int .i64 2))) fun x8 =>
 zb (za (zr .gtr x8 (Value.int .i64 0))) fun x9 =>
 zb (gd x9 false (za (some x0))) fun x11 =>
 zb (gd x9 false ((zgf G_strings_IndexRune) [x11,(Value.string ⟨#[48,49,50,51,52,53,54,55,56,57,97,98,99,100,101,102]⟩)])) fun x12 =>
 zb (gd x9 false (za (zr .neq x12 (Value.string ⟨#[]⟩)))) fun x13 =>
 zb (za (zy x9 (Value.bool true) x13)) fun x14 =>
 zn x14 (
 ret (.ret [(Value.string ⟨#[]⟩),(Value.bool false)])
 ) (
 ret (.nxt [x0])
 )
 ) fun o=>nx o (zbax G_strings_IndexRune G_strings_IndexByte)
 ) fun o=>zbg o fun vs=>ret (zbe [(zc vs 0),(zc vs 1)])
def zboj:Hint:=(.seq [] .leaf (.seq [0] (.seq [] .leaf (.cond (.seq [] .leaf .leaf) .leaf)) (.seq [] .leaf (.seq [4] (.seq [] .leaf (.blk (.loop [0,4,5] (.seq [0,4,5] (.seq [] .leaf (.cond .leaf .leaf)) (.seq [0,4,5] (.blk (.reg [0,1,2,3,6,7,8,9,4,5,10,11,12,13,14,15] [])) .leaf))))) (.seq [] .leaf .leaf)))))
def zvt (G_strings_IndexRune:List V→M V) (G_strings_IndexByte:List V→M V):List V→M V:=ap1 (zvs G_strings_IndexRune G_strings_IndexByte)
theorem zbok {G_strings_IndexRune:List V→M V} {G_strings_IndexByte:List V→M V} (k_strings_IndexRune:zu Tryz.prog zx G_strings_IndexRune) (k_strings_IndexByte:zu Tryz.prog zb5 G_strings_IndexByte):zu Tryz.prog z6b (zvt G_strings_IndexRune G_strings_IndexByte):=kn1 (σ:=ovr [(znn,zgf G_strings_IndexRune),(zb5,G_strings_IndexByte)] noC) (hint:=zboj) (by kernel_rfl) (zj (zxe k_strings_IndexRune) (zj k_strings_IndexByte zk)) fun _=>(by kernel_rfl)
def zu6 (G_strings_IndexRune:List V→M V) (G_strings_IndexByte:List V→M V) (vs:List V):M Out :=
 zb (za (zq 1 (zc vs 1) (Value.int .i64 2))) fun x12 =>
 zb (zz x12) fun x13 =>
 zb ((zvt G_strings_IndexRune G_strings_IndexByte) [x13]) fun x14 =>
 zb (za (ext 0 x14)) fun x15 =>
 zb (za (ext 1 x14)) fun x16 =>
 zhc fun h0 =>
 zb (za (zbo (zc vs 0))) fun x19 =>
 zb (za (ze 0 x19)) fun x20 =>
 zb (za (ze 7 x20)) fun x21 =>
 zb (za (zq 1 (zc vs 1) (Value.int .i64 1))) fun x24 =>
 zb (zz x21) fun x22 =>
 zb (zz x24) fun x25 =>
 zb (za (build [Value.string ⟨#[]⟩,Value.string ⟨#[]⟩,Value.slice none 0 0] [(0,1,x25),(1,1,x15)])) fun x27 =>
 zb4 (zcz 3 1 (rep 1 [Value.string ⟨#[]⟩,Value.string ⟨#[]⟩,Value.slice none 0 0]) [(0,3,x27)]) fun ha x28 h1 =>
 zb4 (zc4 3 56 x22 x28) fun ha_2 x29 h2 =>
 zb (za (zbo (zc vs 0))) fun x30 =>
 zb (za (ze 0 x30)) fun x31 =>
 zb (za (ze 7 x31)) fun x32 =>
 zb4 (st1 x32 x29) fun ha_3 u h3 =>
 zfi (chk (zz x21) h1 x22) <|
 ret (.ret [x16])
def zkk (G_strings_IndexRune:List V→M V) (G_strings_IndexByte:List V→M V) (x0 x1:V):M V :=
 zb (
 zb (
 zb (za (zt x1)) fun x8 =>
 zb (za (zr .neq x8 (Value.int .i64 3))) fun x9 =>
 zn x9 (
 ret (.ret [(Value.bool false)])
 ) (
 ret (.nxt [x0,x1])
 )
 ) fun o=>nx o (zu6 G_strings_IndexRune G_strings_IndexByte)
 ) fun o=>zbg o fun vs=>ret (zbe [(zc vs 0)])
def zbcy:Hint:=(.seq [] .leaf (.seq [0,1] (.seq [] .leaf (.cond (.seq [] .leaf .leaf) .leaf)) (.seq [] .leaf (.seq [] (.reg [0,1,2,3,4,6,7,9,5,8,10,11,12,13,14,15,16] []) (.seq [] .leaf .leaf)))))
def zfv (G_strings_IndexRune:List V→M V) (G_strings_IndexByte:List V→M V):List V→M V:=ap2 (zkk G_strings_IndexRune G_strings_IndexByte)
theorem zbcz {G_strings_IndexRune:List V→M V} {G_strings_IndexByte:List V→M V} (k_strings_IndexRune:zu Tryz.prog zx G_strings_IndexRune) (k_strings_IndexByte:zu Tryz.prog zb5 G_strings_IndexByte):zu Tryz.prog zdm (zfv G_strings_IndexRune G_strings_IndexByte):=kn2 (σ:=ovr [(z6b,zvt G_strings_IndexRune G_strings_IndexByte)] noC) (hint:=zbcy) (by kernel_rfl) (zj (zbok k_strings_IndexRune k_strings_IndexByte) zk) fun _ _=>(by kernel_rfl)
def zu7 (G_strings_IndexRune:List V→M V) (G_strconv_Atoi:List V→M V) (vs:List V):M Out :=
 zb (za (zq 1 (zc vs 1) (Value.int .i64 1))) fun x23 =>
 zb (zz x23) fun x24 =>
 zb ((zhd G_strings_IndexRune G_strconv_Atoi) [x24]) fun x25 =>
 zb (za (ext 0 x25)) fun x26 =>
 zb (za (ext 1 x25)) fun x27 =>
 zb (za (subA 5 1 (ptr gid_conf_levels 0) (some (Value.int .i64 1)) none)) fun x28 =>
 zb (za (zq 1 (zc vs 1) (Value.int .i64 2))) fun x30 =>
 zb (zz x30) fun x31 =>
 zb (zbi [x28,x31]) fun x32 =>
 zb (za (zr .add x32 (Value.int .i64 1))) fun x33 =>
 zb (za (zbo (zc vs 0))) fun x35 =>
 zb (za (ze 0 x35)) fun x36 =>
 zb (za (ze 7 x36)) fun x37 =>
 zb (za (zbo (zc vs 0))) fun x40 =>
 zb (za (ze 0 x40)) fun x41 =>
 zb (za (ze 7 x41)) fun x42 =>
 zb (zz x37) fun x38 =>
 zb (zz x42) fun x43 =>
 zb (za (zt x43)) fun x44 =>
 zb (za (zr .sub x44 (Value.int .i64 1))) fun x45 =>
 zb (za (zq 3 x38 x45)) fun x46 =>
 zb (za (zbo x46)) fun x49 =>
 zb (za (ze 2 x49)) fun x50 =>
 zb (zz x50) fun x51 =>
 zb (za (build [Value.int .i64 0,Value.int .i64 0] [(0,1,x26),(1,1,x33)])) fun x54 =>
 zb (zcz 2 1 (rep 1 [Value.int .i64 0,Value.int .i64 0]) [(0,2,x54)]) fun x55 =>
 zb (zc4 2 16 x51 x55) fun x56 =>
 zb (za (zbo x46)) fun x57 =>
 zb (za (ze 2 x57)) fun x58 =>
 zb (st1 x58 x56) fun _ =>
 zb (gd x27 true (za (some x33))) fun x61 =>
 zb (gd x27 true (za (zr .gtr x61 (Value.int .i64 0)))) fun x62 =>
 zb (za (zy x27 x62 (Value.bool false))) fun x63 =>
 ret (.ret [x63])
def zhv (G_strings_IndexRune:List V→M V) (G_strconv_Atoi:List V→M V) (x0 x1:V):M V :=
 zb (
 zb (
 zb (za (zt x1)) fun x10 =>
 zb (za (zr .neq x10 (Value.int .i64 3))) fun x11 =>
 zb (gd x11 false (za (some x0))) fun x13 =>
 zb (gd x11 false (za (zbo x13))) fun x14 =>
 zb (gd x11 false (za (ze 0 x14))) fun x15 =>
 zb (gd x11 false (za (ze 7 x15))) fun x16 =>
 zb (gd x11 false (zz x16)) fun x17 =>
 zb (gd x11 false (za (zt x17))) fun x18 =>
 zb (gd x11 false (za (zr .eql x18 (Value.int .i64 0)))) fun x19 =>
 zb (za (zy x11 (Value.bool true) x19)) fun x20 =>
 zn x20 (
 ret (.ret [(Value.bool false)])
 ) (
 ret (.nxt [x0,x1])
 )
 ) fun o=>nx o (zu7 G_strings_IndexRune G_strconv_Atoi)
 ) fun o=>zbg o fun vs=>ret (zbe [(zc vs 0)])
def zbc0:Hint:=(.seq [] .leaf (.seq [0,1] (.seq [] .leaf (.cond (.seq [] .leaf .leaf) .leaf)) (.seq [] .leaf (.seq [] (.reg [0,1,2,3,4,5,6] []) (.seq [] (.reg [0,1,2,3,5,6,7,8,4,9,10,11,12,13] []) (.seq [] .leaf (.seq [] .leaf .leaf)))))))
def zfw (G_strings_IndexRune:List V→M V) (G_strconv_Atoi:List V→M V):List V→M V:=ap2 (zhv G_strings_IndexRune G_strconv_Atoi)
theorem zbc1 {G_strings_IndexRune:List V→M V} {G_strconv_Atoi:List V→M V} (k_strings_IndexRune:zu Tryz.prog zx G_strings_IndexRune) (k_strconv_Atoi:zu Tryz.prog zbp G_strconv_Atoi):zu Tryz.prog zdn (zfw G_strings_IndexRune G_strconv_Atoi):=kn2 (σ:=ovr [(zo6,zhd G_strings_IndexRune G_strconv_Atoi),(zcl,zbi)] noC) (hint:=zbc0) (by kernel_rfl) (zj (z0e k_strings_IndexRune k_strconv_Atoi) (zj zdy zk)) fun _ _=>(by kernel_rfl)
def zxh (G_strings_IndexRune:List V→M V) (G_strconv_Atoi:List V→M V) (G_strings_IndexByte:List V→M V):M V :=
 zb (
 zb (zwr) fun x1 =>
 zb (zgt (.one .s) x1 (Value.string ⟨#[109,105,108,108,105,115]⟩) (Value.func (.func zbx) #[] #[])) fun _ =>
 zb (zgt (.one .s) x1 (Value.string ⟨#[102,114,97,109,101]⟩) (Value.func (.func zbx) #[] #[])) fun _ =>
 zb (zgt (.one .s) x1 (Value.string ⟨#[105,100,108,101]⟩) (Value.func (.func zbx) #[] #[])) fun _ =>
 zb (zgt (.one .s) x1 (Value.string ⟨#[105,110]⟩) (Value.func (.func zca) #[] #[])) fun _ =>
 zb (zgt (.one .s) x1 (Value.string ⟨#[111,117,116]⟩) (Value.func (.func zca) #[] #[])) fun _ =>
 zb (zgt (.one .s) x1 (Value.string ⟨#[114,101,97,100]⟩) (Value.func (.func zcb) #[] #[])) fun _ =>
 zb (zgt (.one .s) x1 (Value.string ⟨#[119,114,105,116,101]⟩) (Value.func (.func zcb) #[] #[])) fun _ =>
 zb (zgt (.one .s) x1 (Value.string ⟨#[115,97,109,112,108,101]⟩) (Value.func (.func zcj) #[] #[])) fun _ =>
 zb (zgt (.one .s) x1 (Value.string ⟨#[113,117,101,117,101]⟩) (Value.func (.func zcj) #[] #[])) fun _ =>
 zb (zgt (.one .s) x1 (Value.string ⟨#[119,105,110,100,111,119]⟩) (Value.func (.func zc1) #[] #[])) fun _ =>
 zb (zgt (.one .s) x1 (Value.string ⟨#[101,110,103,105,110,101,101,114,115]⟩) (Value.func (.func zcf) #[] #[])) fun _ =>
 zb (zgt (.one .s) x1 (Value.string ⟨#[117,110,105,116]⟩) (Value.func (.func zdl) #[] #[])) fun _ =>
 zb (zgt (.one .s) x1 (Value.string ⟨#[103,101,116]⟩) (Value.func (.func zck) #[] #[])) fun _ =>
 zb (zgt (.one .s) x1 (Value.string ⟨#[112,117,116]⟩) (Value.func (.func zck) #[] #[])) fun _ =>
 zb (zgt (.one .s) x1 (Value.string ⟨#[117,115,101,114]⟩) (Value.func (.func zdm) #[] #[])) fun _ =>
 zb (zgt (.one .s) x1 (Value.string ⟨#[114,111,108,101]⟩) (Value.func (.func zdn) #[] #[])) fun _ =>
 ret (.ret [x1])
 ) fun o=>zbg o fun vs=>ret (zbe [(zc vs 0)])
def zbjp:Hint:=(.seq [] .leaf (.seq [] .leaf .leaf))
def zq1 (G_strings_IndexRune:List V→M V) (G_strconv_Atoi:List V→M V) (G_strings_IndexByte:List V→M V):List V→M V:=ap0 (zxh G_strings_IndexRune G_strconv_Atoi G_strings_IndexByte)
theorem zbjq {G_strings_IndexRune:List V→M V} {G_strconv_Atoi:List V→M V} {G_strings_IndexByte:List V→M V} (k_strings_IndexRune:zu Tryz.prog zx G_strings_IndexRune) (k_strconv_Atoi:zu Tryz.prog zbp G_strconv_Atoi) (k_strings_IndexByte:zu Tryz.prog zb5 G_strings_IndexByte):zu Tryz.prog z10 (zq1 G_strings_IndexRune G_strconv_Atoi G_strings_IndexByte):=kn0 (σ:=ovr [] noC) (hint:=zbjp) (by kernel_rfl) zk (by kernel_rfl)
def zep (x0 x1:V):M V :=
 zb (
 zb (zbi [x0,x1]) fun x7 =>
 zb (za (zr .geq x7 (Value.int .i64 0))) fun x8 =>
 ret (.ret [x8])
 ) fun o=>zbg o fun vs=>ret (zbe [(zc vs 0)])
def zqe:Hint:=(.seq [] .leaf (.seq [] .leaf .leaf))
def zbu:List V→M V:=ap2 zep
def zqf:zv:=ovr [(zcl,zbi)] noC
theorem zqg:zu Tryz.prog zcw (zbu):=kn2 (σ:=zqf) (hint:=zqe) (by kernel_rfl) (zj zdy zk) fun _ _=>(by kernel_rfl)
def zu8 (G_strings_Split:List V→M V) (G_strings_IndexRune:List V→M V) (G_strconv_Atoi:List V→M V) (G_strings_IndexByte:List V→M V) (v3:List V):M Out :=
 ret (.ret [(Value.int .i64 0)])
def zu9 (G_strings_Split:List V→M V) (G_strings_IndexRune:List V→M V) (G_strconv_Atoi:List V→M V) (G_strings_IndexByte:List V→M V) (v2:List V):M Out :=
 zb (za (zbo (zc v2 0))) fun x32 =>
 zb (za (ze 9 x32)) fun x33 =>
 zb (za (zq 1 (zc v2 1) (Value.int .i64 0))) fun x36 =>
 zb (zz x33) fun x34 =>
 zb (zz x36) fun x37 =>
 zb (zbu [x34,x37]) fun x38 =>
 zb (
 zb (zn4 (ovr [(zbx,zej G_strings_IndexRune G_strconv_Atoi),(zca,ze4),(zcb,ze5 G_strings_IndexRune G_strconv_Atoi),(zcj,zfs G_strings_IndexRune G_strconv_Atoi),(zc1,zek G_strings_IndexRune G_strconv_Atoi),(zcf,zde G_strings_IndexRune G_strconv_Atoi),(zdl,zft),(zck,zfu G_strings_IndexRune G_strconv_Atoi),(zdm,zfv G_strings_IndexRune G_strings_IndexByte),(zdn,zfw G_strings_IndexRune G_strconv_Atoi),(zcv,G_strings_Split),(zcw,zbu)] noC) (zc v2 2) [(zc v2 0),(zc v2 1)]) fun x42 =>
 zb (
 zb (za (un .not x42)) fun x45 =>
 zn x45 (
 ret (.ret [(Value.int .i64 3)])
 ) (
 zn x38 (
 ret (.ret [(Value.int .i64 6)])
 ) (
 ret (.nxt [])
 )
 )
 ) fun o=>ret (zw 0 o)
 ) fun o=>nx o (zu8 G_strings_Split G_strings_IndexRune G_strconv_Atoi G_strings_IndexByte)
def zva (G_strings_Split:List V→M V) (G_strings_IndexRune:List V→M V) (G_strconv_Atoi:List V→M V) (G_strings_IndexByte:List V→M V) (vs:List V):M Out :=
 zb (G_strings_Split [(zc vs 1),(Value.string ⟨#[32]⟩)]) fun x19 =>
 zb (za (zq 1 x19 (Value.int .i64 0))) fun x22 =>
 zb (zz x22) fun x23 =>
 zb (lookup (.one .s) (Value.nilFunc) false (zc vs 2) x23) fun x24 =>
 zb (
 zb (za (zcp false (zef .f x24))) fun x26 =>
 zb (gd x26 false (za (some x19))) fun x28 =>
 zb (gd x26 false (zbu [x28,(Value.string ⟨#[]⟩)])) fun x29 =>
 zb (za (zy x26 (Value.bool true) x29)) fun x30 =>
 zn x30 (
 ret (.ret [(Value.int .i64 3)])
 ) (
 ret (.nxt [(zc vs 0),x19,x24])
 )
 ) fun o=>nx o (zu9 G_strings_Split G_strings_IndexRune G_strconv_Atoi G_strings_IndexByte)
def zhw (G_strings_Split:List V→M V) (G_strings_IndexRune:List V→M V) (G_strconv_Atoi:List V→M V) (G_strings_IndexByte:List V→M V) (x0 x1 x2:V):M V :=
 zb (
 zb (
 zb (za (zr .eql x1 (Value.string ⟨#[]⟩))) fun x12 =>
 zb (gd x12 false (za (some x1))) fun x14 =>
 zb (gd x12 false (za (zj3 x14 (Value.int .i64 0)))) fun x15 =>
 zb (gd x12 false (za (zr .eql x15 (Value.int .u8 35)))) fun x16 =>
 zb (za (zy x12 (Value.bool true) x16)) fun x17 =>
 zn x17 (
 ret (.ret [(Value.int .i64 0)])
 ) (
 ret (.nxt [x0,x1,x2])
 )
 ) fun o=>nx o (zva G_strings_Split G_strings_IndexRune G_strconv_Atoi G_strings_IndexByte)
 ) fun o=>zbg o fun vs=>ret (zbe [(zc vs 0)])
def zbc2:Hint:=(.seq [] .leaf (.seq [0,1,2] (.seq [] .leaf (.cond (.seq [] .leaf .leaf) .leaf)) (.seq [] .leaf (.seq [] .leaf (.seq [0,7,8] (.seq [] .leaf (.cond (.seq [] .leaf .leaf) .leaf)) (.seq [] (.reg [0,1,2,4,5,3,6,7,8] []) (.seq [] (.seq [] .leaf (.blk (.seq [] .leaf (.cond (.seq [] .leaf .leaf) (.seq [] .leaf (.cond (.seq [] .leaf .leaf) .leaf)))))) (.seq [] .leaf .leaf))))))))
def zkl (G_strings_Split:List V→M V) (G_strings_IndexRune:List V→M V) (G_strconv_Atoi:List V→M V) (G_strings_IndexByte:List V→M V):List V→M V:=ap3 (zhw G_strings_Split G_strings_IndexRune G_strconv_Atoi G_strings_IndexByte)
theorem zbc3 {G_strings_Split:List V→M V} {G_strings_IndexRune:List V→M V} {G_strconv_Atoi:List V→M V} {G_strings_IndexByte:List V→M V} (k_strings_Split:zu Tryz.prog zcv G_strings_Split) (k_strings_IndexRune:zu Tryz.prog zx G_strings_IndexRune) (k_strconv_Atoi:zu Tryz.prog zbp G_strconv_Atoi) (k_strings_IndexByte:zu Tryz.prog zb5 G_strings_IndexByte):zu Tryz.prog ztv (zkl G_strings_Split G_strings_IndexRune G_strconv_Atoi G_strings_IndexByte):=kn3 (σ:=ovr [(zbx,zej G_strings_IndexRune G_strconv_Atoi),(zca,ze4),(zcb,ze5 G_strings_IndexRune G_strconv_Atoi),(zcj,zfs G_strings_IndexRune G_strconv_Atoi),(zc1,zek G_strings_IndexRune G_strconv_Atoi),(zcf,zde G_strings_IndexRune G_strconv_Atoi),(zdl,zft),(zck,zfu G_strings_IndexRune G_strconv_Atoi),(zdm,zfv G_strings_IndexRune G_strings_IndexByte),(zdn,zfw G_strings_IndexRune G_strconv_Atoi),(zcv,G_strings_Split),(zcw,zbu)] noC) (hint:=zbc2) (by kernel_rfl) (zj (z6i k_strings_IndexRune k_strconv_Atoi) (zj z90 (zj (z92 k_strings_IndexRune k_strconv_Atoi) (zj (zbct k_strings_IndexRune k_strconv_Atoi) (zj (z6l k_strings_IndexRune k_strconv_Atoi) (zj (z2d k_strings_IndexRune k_strconv_Atoi) (zj zbcv (zj (zbcx k_strings_IndexRune k_strconv_Atoi) (zj (zbcz k_strings_IndexRune k_strings_IndexByte) (zj (zbc1 k_strings_IndexRune k_strconv_Atoi) (zj k_strings_Split (zj zqg zk)))))))))))) fun _ _ _=>(by kernel_rfl)
def zbep (G_strings_IndexRune:List V→M V) (G_strconv_Atoi:List V→M V) (G_strings_IndexByte:List V→M V) (G_strings_Split:List V→M V) (v3:List V):M Out :=
 zb (za (zr .add (zc v3 5) (Value.int .i64 1))) fun x30 =>
 ret (.nxt [(zc v3 0),(zc v3 1),(zc v3 2),(zc v3 3),(zc v3 4),x30])
def zbeq (G_strings_IndexRune:List V→M V) (G_strconv_Atoi:List V→M V) (G_strings_IndexByte:List V→M V) (G_strings_Split:List V→M V) (v2:List V):M Out :=
 zb (
 zb (
 zb (za (zq 1 (zc v2 3) (zc v2 5))) fun x18 =>
 zb (zz x18) fun x19 =>
 zb ((zkl G_strings_Split G_strings_IndexRune G_strconv_Atoi G_strings_IndexByte) [(zc v2 1),x19,(zc v2 2)]) fun x23 =>
 zb (za (zr .neq x23 (Value.int .i64 0))) fun x25 =>
 zn x25 (
 zb (za (build [Value.slice none 0 0,Value.slice none 0 0,Value.slice none 0 0,Value.int .i64 0,Value.slice none 0 0,Value.slice none 0 0,Value.int .i64 0,Value.slice none 0 0,Value.int .i64 0] [])) fun x26 =>
 zb (za (zr .add (zc v2 5) (Value.int .i64 1))) fun x28 =>
 zb (stn 9 (zc v2 0) x26) fun _ =>
 ret (.ret [(zc v2 0),x28,x23])
 ) (
 ret (.nxt [(zc v2 0),(zc v2 1),(zc v2 2),(zc v2 3),(zc v2 4),(zc v2 5)])
 )
 ) fun o=>ret (zw 1 o)
 ) fun o=>nx o (zbep G_strings_IndexRune G_strconv_Atoi G_strings_IndexByte G_strings_Split)
def z3c (G_strings_IndexRune:List V→M V) (G_strconv_Atoi:List V→M V) (G_strings_IndexByte:List V→M V) (G_strings_Split:List V→M V) (vs:List V):M Out :=
 zb (za (zr .lss (zc vs 5) (zc vs 4))) fun x16 =>
 zb (
 zn x16 (
 ret (.nxt [(zc vs 0),(zc vs 1),(zc vs 2),(zc vs 3),(zc vs 4),(zc vs 5)])
 ) (
 ret (.brk 0 [(zc vs 0),(zc vs 1)])
 )
 ) fun o=>nx o (zbeq G_strings_IndexRune G_strconv_Atoi G_strings_IndexByte G_strings_Split)
def zber (G_strings_IndexRune:List V→M V) (G_strconv_Atoi:List V→M V) (G_strings_IndexByte:List V→M V) (G_strings_Split:List V→M V) (v4:List V):M Out :=
 zb (za (zbo (zc v4 1))) fun x32 =>
 zb (za (ze 0 x32)) fun x33 =>
 zb (ldn 9 x33) fun x34 =>
 zb (stn 9 (zc v4 0) x34) fun _ =>
 ret (.ret [(zc v4 0),(Value.int .i64 0),(Value.int .i64 0)])
def z6m (G_strings_IndexRune:List V→M V) (G_strconv_Atoi:List V→M V) (G_strings_IndexByte:List V→M V) (G_strings_Split:List V→M V) (x0:V):M V :=
 zb (
 zb (newc [Value.slice none 0 0,Value.slice none 0 0,Value.slice none 0 0,Value.int .i64 0,Value.slice none 0 0,Value.slice none 0 0,Value.int .i64 0,Value.slice none 0 0,Value.int .i64 0]) fun x2 =>
 zb (za (build [Value.slice none 0 0,Value.slice none 0 0,Value.slice none 0 0,Value.int .i64 0,Value.slice none 0 0,Value.slice none 0 0,Value.int .i64 0,Value.slice none 0 0,Value.int .i64 0,Value.slice none 0 0] [])) fun x10 =>
 zb (zdf x10) fun x11 =>
 zb ((zq1 G_strings_IndexRune G_strconv_Atoi G_strings_IndexByte) []) fun x12 =>
 zb (
 zb (za (zt x0)) fun x14 =>
 zb (
 zbf zbs (z3c G_strings_IndexRune G_strconv_Atoi G_strings_IndexByte G_strings_Split) [x2,x11,x12,x0,x14,(Value.int .i64 0)]
 ) fun o=>ret (zw 0 o)
 ) fun o=>nx o (zber G_strings_IndexRune G_strconv_Atoi G_strings_IndexByte G_strings_Split)
 ) fun o=>zbg o fun vs=>zb (ldn 9 (zc vs 0)) fun r0=>ret (zbe [r0,(zc vs 1),(zc vs 2)])
def zbrk:Hint:=(.seq [] .leaf (.seq [] .leaf (.seq [2,5] (.seq [] .leaf (.blk (.loop [2,5,6,13,14,15] (.seq [] .leaf (.seq [2,5,6,13,14,15] (.cond .leaf .leaf) (.seq [2,5,6,13,14,15] (.blk (.seq [] .leaf (.seq [] .leaf (.seq [] .leaf (.cond (.seq [] .leaf .leaf) .leaf))))) .leaf)))))) (.seq [] .leaf .leaf))))
def zzg (G_strings_IndexRune:List V→M V) (G_strconv_Atoi:List V→M V) (G_strings_IndexByte:List V→M V) (G_strings_Split:List V→M V):List V→M V:=ap1 (z6m G_strings_IndexRune G_strconv_Atoi G_strings_IndexByte G_strings_Split)
theorem zbrl {G_strings_IndexRune:List V→M V} {G_strconv_Atoi:List V→M V} {G_strings_IndexByte:List V→M V} {G_strings_Split:List V→M V} (k_strings_IndexRune:zu Tryz.prog zx G_strings_IndexRune) (k_strconv_Atoi:zu Tryz.prog zbp G_strconv_Atoi) (k_strings_IndexByte:zu Tryz.prog zb5 G_strings_IndexByte) (k_strings_Split:zu Tryz.prog zcv G_strings_Split):zu Tryz.prog zbai (zzg G_strings_IndexRune G_strconv_Atoi G_strings_IndexByte G_strings_Split):=kn1 (σ:=ovr [(z10,zq1 G_strings_IndexRune G_strconv_Atoi G_strings_IndexByte),(ztv,zkl G_strings_Split G_strings_IndexRune G_strconv_Atoi G_strings_IndexByte)] noC) (hint:=zbrk) (by kernel_rfl) (zj (zbjq k_strings_IndexRune k_strconv_Atoi k_strings_IndexByte) (zj (zbc3 k_strings_Split k_strings_IndexRune k_strconv_Atoi k_strings_IndexByte) zk)) fun _=>(by kernel_rfl)
def ze7 (S:zv) (v3:List V):M Out :=
 zb (za (zr .add (zc v3 3) (Value.int .i64 1))) fun x18 =>
 ret (.nxt [(zc v3 0),(zc v3 1),(zc v3 2),x18])
def ze8 (S:zv) (v2:List V):M Out :=
 zb (
 zb (
 zb (za (zq 2 (zc v2 0) (zc v2 3))) fun x14 =>
 zb (ldn 2 x14) fun x15 =>
 zb (zn4 (ovr [] S) (zc v2 1) [x15]) fun x16 =>
 zn x16 (
 ret (.ret [(zc v2 3)])
 ) (
 ret (.nxt [(zc v2 0),(zc v2 1),(zc v2 2),(zc v2 3)])
 )
 ) fun o=>ret (zw 1 o)
 ) fun o=>nx o (ze7 S)
def zc6 (S:zv) (vs:List V):M Out :=
 zb (za (zr .lss (zc vs 3) (zc vs 2))) fun x9 =>
 zb (
 zn x9 (
 ret (.nxt [(zc vs 0),(zc vs 1),(zc vs 2),(zc vs 3)])
 ) (
 ret (.brk 0 [])
 )
 ) fun o=>nx o (ze8 S)
def ze9 (S:zv) (v4:List V):M Out :=
 ret (.ret [(Value.int .i64 (-1))])
def zc9 (S:zv) (x0 x1:V):M V :=
 zb (
 zb (
 zb (za (zt x0)) fun x7 =>
 zb (
 zbf zbs (zc6 S) [x0,x1,x7,(Value.int .i64 0)]
 ) fun o=>ret (zw 0 o)
 ) fun o=>nx o (ze9 S)
 ) fun o=>zbg o fun vs=>ret (zbe [(zc vs 0)])
def zlf:Hint:=(.seq [] .leaf (.seq [] (.seq [] .leaf (.blk (.loop [0,1,7,8] (.seq [] .leaf (.seq [0,1,7,8] (.cond .leaf .leaf) (.seq [0,1,7,8] (.blk (.seq [] .leaf (.seq [] .leaf (.cond (.seq [] .leaf .leaf) .leaf)))) .leaf)))))) (.seq [] .leaf .leaf)))
def zda (S:zv):List V→M V:=ap2 (zc9 S)
theorem zlg {S:zv} (hS:zd9 Tryz.prog S):zu Tryz.prog zeu (zda S):=kn2 (σ:=ovr [] S) (hint:=zlf) (by kernel_rfl) (zeg hS) fun _ _=>(by kernel_rfl)
def zcy (S:zv) (x0 x1:V):M V :=
 zb (
 zb ((zda S) [x0,x1]) fun x7 =>
 zb (za (zr .geq x7 (Value.int .i64 0))) fun x8 =>
 ret (.ret [x8])
 ) fun o=>zbg o fun vs=>ret (zbe [(zc vs 0)])
def zj4:Hint:=(.seq [] .leaf (.seq [] .leaf .leaf))
def zb7 (S:zv):List V→M V:=ap2 (zcy S)
theorem zj5 {S:zv} (hS:zd9 Tryz.prog S):zu Tryz.prog zd8 (zb7 S):=kn2 (σ:=ovr [(zeu,zda S)] S) (hint:=zj4) (by kernel_rfl) (zj (zlg (zeg hS)) (zeg hS)) fun _ _=>(by kernel_rfl)
def zsp (x0:V):M V :=
 zb (
 zb (zdf x0) fun x1 =>
 zb (za (ze 0 x1)) fun x3 =>
 zb (zz x3) fun x4 =>
 zb (za (zr .lss x4 (Value.int .i64 1))) fun x5 =>
 zb (gd x5 false (za (ze 0 x1))) fun x7 =>
 zb (gd x5 false (zz x7)) fun x8 =>
 zb (gd x5 false (za (zr .gtr x8 (Value.int .i64 3)))) fun x9 =>
 zb (za (zy x5 (Value.bool true) x9)) fun x10 =>
 ret (.ret [x10])
 ) fun o=>zbg o fun vs=>ret (zbe [(zc vs 0)])
def zbgx:Hint:=(.seq [] .leaf (.seq [] .leaf .leaf))
def zhk:List V→M V:=ap1 zsp
theorem zbgy:zu Tryz.prog zcn (zhk):=kn1 (σ:=ovr [] noC) (hint:=zbgx) (by kernel_rfl) zk fun _=>(by kernel_rfl)
def zxi (x0:V):M V :=
 zb (
 zb (za (zr .geq x0 (Value.int .i64 0))) fun x4 =>
 zb (gd x4 true (za (some x0))) fun x6 =>
 zb (gd x4 true (za (zr .lss x6 (Value.int .i64 8)))) fun x7 =>
 zb (za (zy x4 x7 (Value.bool false))) fun x8 =>
 ret (.ret [x8])
 ) fun o=>zbg o fun vs=>ret (zbe [(zc vs 0)])
def zbjr:Hint:=(.seq [] .leaf (.seq [] .leaf .leaf))
def zq2:List V→M V:=ap1 zxi
theorem zbjs:zu Tryz.prog z12 (zq2):=kn1 (σ:=ovr [] noC) (hint:=zbjr) (by kernel_rfl) zk fun _=>(by kernel_rfl)
def zkt (v4:List V):M Out :=
 zb (ldn 3 (zc v4 3)) fun x73 =>
 zb (zgt (.agg [.i,.i,.b]) (zc v4 1) x73 (Value.bool true)) fun _ =>
 zb (za (ze 1 (zc v4 3))) fun x75 =>
 zb (zz x75) fun x76 =>
 zb (za (ze 1 (zc v4 3))) fun x78 =>
 zb (zz x78) fun x79 =>
 zb (lookup (.one .i) (Value.bool false) false (zc v4 2) x79) fun x80 =>
 zb (gd x80 false (za (ze 2 (zc v4 3)))) fun x82 =>
 zb (gd x80 false (zz x82)) fun x83 =>
 zb (za (zy x80 (Value.bool true) x83)) fun x84 =>
 zb (zgt (.one .i) (zc v4 2) x76 x84) fun _ =>
 ret (.nxt [(zc v4 0),(zc v4 1),(zc v4 2),(zc v4 4),(zc v4 5),(zc v4 6)])
def zuo (v5:List V):M Out :=
 zb (za (zr .add (zc v5 5) (Value.int .i64 1))) fun x85 =>
 ret (.nxt [(zc v5 0),(zc v5 1),(zc v5 2),(zc v5 3),(zc v5 4),x85])
def z4x (v3:List V):M Out :=
 zb (
 zb (
 zb (za (zq 3 (zc v3 3) (zc v3 5))) fun x24 =>
 zb (ldn 3 x24) fun x25 =>
 zb (newc [Value.int .i64 0,Value.int .i64 0,Value.bool false]) fun x9 =>
 zb (stn 3 x9 x25) fun _ =>
 zb (
 zb (
 zb (za (ze 0 x9)) fun x27 =>
 zb (zz x27) fun x28 =>
 zb (zq2 [x28]) fun x29 =>
 zb (za (un .not x29)) fun x30 =>
 zb (gd x30 false (za (ze 1 x9))) fun x32 =>
 zb (gd x30 false (zz x32)) fun x33 =>
 zb (gd x30 false (za (zr .lss x33 (Value.int .i64 0)))) fun x34 =>
 zb (za (zy x30 (Value.bool true) x34)) fun x35 =>
 zb (gd x35 false (za (ze 1 x9))) fun x37 =>
 zb (gd x35 false (zz x37)) fun x38 =>
 zb (gd x35 false (za (some (zc v3 0)))) fun x39 =>
 zb (gd x35 false (za (zt x39))) fun x40 =>
 zb (gd x35 false (za (zr .geq x38 x40))) fun x41 =>
 zb (za (zy x35 (Value.bool true) x41)) fun x42 =>
 zn x42 (
 ret (.ret [(zc v3 5),(Value.int .i64 1)])
 ) (
 zb (za (ze 2 x9)) fun x45 =>
 zb (zz x45) fun x46 =>
 zb (gd x46 true (za (some (zc v3 0)))) fun x48 =>
 zb (gd x46 true (za (ze 1 x9))) fun x49 =>
 zb (gd x46 true (zz x49)) fun x50 =>
 zb (gd x46 true (za (zq 2 x48 x50))) fun x51 =>
 zb (gd x46 true (za (ze 1 x51))) fun x52 =>
 zb (gd x46 true (zz x52)) fun x53 =>
 zb (gd x46 true (za (un .not x53))) fun x54 =>
 zb (za (zy x46 x54 (Value.bool false))) fun x55 =>
 zn x55 (
 ret (.ret [(zc v3 5),(Value.int .i64 91)])
 ) (
 zb (ldn 3 x9) fun x59 =>
 zb (lookup (.agg [.i,.i,.b]) (Value.bool false) false (zc v3 1) x59) fun x60 =>
 zb (gd x60 false (za (ze 2 x9))) fun x62 =>
 zb (gd x60 false (zz x62)) fun x63 =>
 zb (gd x60 false (za (some x63))) fun x64 =>
 zb (gd x64 true (za (some (zc v3 2)))) fun x65 =>
 zb (gd x64 true (za (ze 1 x9))) fun x66 =>
 zb (gd x64 true (zz x66)) fun x67 =>
 zb (gd x64 true (lookup (.one .i) (Value.bool false) false x65 x67)) fun x68 =>
 zb (gd x60 false (za (zy x64 x68 (Value.bool false)))) fun x69 =>
 zb (za (zy x60 (Value.bool true) x69)) fun x70 =>
 zn x70 (
 ret (.ret [(zc v3 5),(Value.int .i64 190)])
 ) (
 ret (.nxt [(zc v3 0),(zc v3 1),(zc v3 2),x9,(zc v3 3),(zc v3 4),(zc v3 5)])
 )
 )
 )
 ) fun o=>ret (zw 3 o)
 ) fun o=>nx o zkt
 ) fun o=>ret (zw 2 o)
 ) fun o=>nx o zuo
def zup (v2:List V):M Out :=
 zb (za (zr .lss (zc v2 5) (zc v2 4))) fun x22 =>
 zb (
 zn x22 (
 ret (.nxt [(zc v2 0),(zc v2 1),(zc v2 2),(zc v2 3),(zc v2 4),(zc v2 5)])
 ) (
 ret (.brk 1 [])
 )
 ) fun o=>nx o z4x
def z4y (v6:List V):M Out :=
 ret (.ret [(Value.int .i64 0),(Value.int .i64 0)])
def z4z (vs:List V):M Out :=
 zb (zwr) fun x17 =>
 zb (zwr) fun x18 =>
 zb (
 zb (za (zt (zc vs 1))) fun x20 =>
 zb (
 zbf zbs zup [(zc vs 0),x17,x18,(zc vs 1),x20,(Value.int .i64 0)]
 ) fun o=>ret (zw 1 o)
 ) fun o=>nx o z4y
def zq3 (x0 x1:V):M V :=
 zb (
 zb (
 zb (
 zb (za (zt x0)) fun x12 =>
 zb (za (zr .gtr x12 (Value.int .i64 64))) fun x13 =>
 zn x13 (
 ret (.ret [(Value.int .i64 (-1)),(Value.int .i64 2)])
 ) (
 zb ((zb7 (ovr [(zcn,zhk)] noC)) [x0,(Value.func (.func zcn) #[] #[])]) fun x16 =>
 zn x16 (
 ret (.ret [(Value.int .i64 (-1)),(Value.int .i64 40)])
 ) (
 ret (.nxt [x0,x1])
 )
 )
 ) fun o=>ret (zw 0 o)
 ) fun o=>nx o z4z
 ) fun o=>zbg o fun vs=>ret (zbe [(zc vs 0),(zc vs 1)])
def zbjt:Hint:=(.seq [] .leaf (.seq [0,1] (.blk (.seq [] .leaf (.cond (.seq [] .leaf .leaf) (.seq [] .leaf (.cond (.seq [] .leaf .leaf) .leaf))))) (.seq [] .leaf (.seq [] .leaf (.seq [] (.seq [] .leaf (.blk (.loop [0,6,7,19,20,21] (.seq [] .leaf (.seq [0,6,7,19,20,21] (.cond .leaf .leaf) (.seq [0,6,7,19,20,21] (.blk (.seq [] .leaf (.seq [0,6,7,9,19,20,21] (.blk (.seq [] .leaf (.cond (.seq [] .leaf .leaf) (.seq [] .leaf (.cond (.seq [] .leaf .leaf) (.seq [] .leaf (.cond (.seq [] .leaf .leaf) .leaf))))))) (.seq [] .leaf .leaf)))) .leaf)))))) (.seq [] .leaf .leaf))))))
def zjt:List V→M V:=ap2 zq3
def zbju:zv:=ovr [(zd8,zb7 (ovr [(zcn,zhk)] noC)),(z12,zq2)] noC
theorem z6n:zu Tryz.prog zsl (zjt):=kn2 (σ:=zbju) (hint:=zbjt) (by kernel_rfl) (zj (zj5 (zj zbgy zk)) (zj zbjs zk)) fun _ _=>(by kernel_rfl)
def z0g (x0:V):M V :=
 zb (
 zb (za (zr .geq x0 (Value.int .i64 0))) fun x4 =>
 zb (gd x4 true (za (some x0))) fun x6 =>
 zb (gd x4 true (za (zr .lss x6 (Value.int .i64 8)))) fun x7 =>
 zb (za (zy x4 x7 (Value.bool false))) fun x8 =>
 ret (.ret [x8])
 ) fun o=>zbg o fun vs=>ret (zbe [(zc vs 0)])
def zbk6:Hint:=(.seq [] .leaf (.seq [] .leaf .leaf))
def zou:List V→M V:=ap1 z0g
theorem zbk7:zu Tryz.prog z4r (zou):=kn1 (σ:=ovr [] noC) (hint:=zbk6) (by kernel_rfl) zk fun _=>(by kernel_rfl)
def z6o (v2:List V):M Out :=
 ret (.ret [(Value.int .i64 0)])
def z6p (vs:List V):M Out :=
 zb (
 zb (
 zb (za (ze 0 (zc vs 0))) fun x9 =>
 zb (zz x9) fun x10 =>
 zb (za (zr .neq x10 (Value.int .i64 1))) fun x11 =>
 zb (gd x11 true (za (ze 0 (zc vs 0)))) fun x13 =>
 zb (gd x11 true (zz x13)) fun x14 =>
 zb (gd x11 true (za (zr .neq x14 (Value.int .i64 2)))) fun x15 =>
 zb (za (zy x11 x15 (Value.bool false))) fun x16 =>
 zn x16 (
 ret (.ret [(Value.int .i64 91)])
 ) (
 zb (za (ze 1 (zc vs 0))) fun x18 =>
 zb (zz x18) fun x19 =>
 zb (zou [x19]) fun x20 =>
 zb (za (un .not x20)) fun x21 =>
 zb (gd x21 false (za (ze 2 (zc vs 0)))) fun x23 =>
 zb (gd x21 false (zz x23)) fun x24 =>
 zb (gd x21 false (zou [x24])) fun x25 =>
 zb (gd x21 false (za (un .not x25))) fun x26 =>
 zb (za (zy x21 (Value.bool true) x26)) fun x27 =>
 zn x27 (
 ret (.ret [(Value.int .i64 1)])
 ) (
 zb (za (ze 1 (zc vs 0))) fun x29 =>
 zb (zz x29) fun x30 =>
 zb (za (ze 2 (zc vs 0))) fun x31 =>
 zb (zz x31) fun x32 =>
 zb (za (zr .eql x30 x32)) fun x33 =>
 zn x33 (
 ret (.ret [(Value.int .i64 4)])
 ) (
 zb (za (ze 3 (zc vs 0))) fun x35 =>
 zb (zz x35) fun x36 =>
 zb (za (zr .lss x36 (Value.int .i64 1))) fun x37 =>
 zb (gd x37 false (za (ze 3 (zc vs 0)))) fun x39 =>
 zb (gd x37 false (zz x39)) fun x40 =>
 zb (gd x37 false (za (zr .gtr x40 (Value.int .i64 3)))) fun x41 =>
 zb (za (zy x37 (Value.bool true) x41)) fun x42 =>
 zn x42 (
 ret (.ret [(Value.int .i64 40)])
 ) (
 zb (za (ze 4 (zc vs 0))) fun x44 =>
 zb (zz x44) fun x45 =>
 zb (za (zr .lss x45 (zc vs 1))) fun x47 =>
 zb (gd x47 false (za (ze 4 (zc vs 0)))) fun x49 =>
 zb (gd x47 false (zz x49)) fun x50 =>
 zb (gd x47 false (za (some (zc vs 2)))) fun x51 =>
 zb (gd x47 false (za (zr .gtr x50 x51))) fun x52 =>
 zb (za (zy x47 (Value.bool true) x52)) fun x53 =>
 zn x53 (
 ret (.ret [(Value.int .i64 1)])
 ) (
 ret (.nxt [])
 )
 )
 )
 )
 )
 ) fun o=>ret (zw 0 o)
 ) fun o=>nx o z6o
def z0h (x0:V):M V :=
 zb (
 zb (zdf x0) fun x1 =>
 zb (
 zb (za (ze 0 x1)) fun x5 =>
 zb (zz x5) fun x6 =>
 zb (za (zr .eql x6 (Value.int .i64 2))) fun x7 =>
 zn x7 (
 ret (.nxt [x1,(Value.int .i64 1),(Value.int .i64 16)])
 ) (
 ret (.nxt [x1,(Value.int .i64 0),(Value.int .i64 0)])
 )
 ) fun o=>nx o z6p
 ) fun o=>zbg o fun vs=>ret (zbe [(zc vs 0)])
def zbk8:Hint:=(.seq [] .leaf (.seq [] .leaf (.seq [1,3,4] (.seq [] .leaf (.cond .leaf .leaf)) (.seq [] (.blk (.seq [] .leaf (.cond (.seq [] .leaf .leaf) (.seq [] .leaf (.cond (.seq [] .leaf .leaf) (.seq [] .leaf (.cond (.seq [] .leaf .leaf) (.seq [] .leaf (.cond (.seq [] .leaf .leaf) (.seq [] .leaf (.cond (.seq [] .leaf .leaf) .leaf))))))))))) (.seq [] .leaf .leaf)))))
def zs2:List V→M V:=ap1 z0h
def zbk9:zv:=ovr [(z4r,zou)] noC
theorem zbla:zu Tryz.prog z4p (zs2):=kn1 (σ:=zbk9) (hint:=zbk8) (by kernel_rfl) (zj zbk7 zk) fun _=>(by kernel_rfl)
def z6q (v4:List V):M Out :=
 zb (za (zr .add (zc v4 2) (Value.int .i64 1))) fun x23 =>
 ret (.nxt [(zc v4 0),(zc v4 1),x23])
def z6r (v3:List V):M Out :=
 zb (
 zb (
 zb (za (zq 5 (zc v3 0) (zc v3 2))) fun x15 =>
 zb (ldn 5 x15) fun x16 =>
 zb (newc [Value.int .i64 0,Value.int .i64 0,Value.int .i64 0,Value.int .i64 0,Value.int .i64 0]) fun x5 =>
 zb (stn 5 x5 x16) fun _ =>
 zb (ldn 5 x5) fun x17 =>
 zb (zs2 [x17]) fun x18 =>
 zb (za (zr .neq x18 (Value.int .i64 0))) fun x20 =>
 zn x20 (
 ret (.ret [(zc v3 2),x18])
 ) (
 ret (.nxt [(zc v3 0),(zc v3 1),(zc v3 2)])
 )
 ) fun o=>ret (zw 1 o)
 ) fun o=>nx o z6q
def zxj (v2:List V):M Out :=
 zb (za (zr .lss (zc v2 2) (zc v2 1))) fun x13 =>
 zb (
 zn x13 (
 ret (.nxt [(zc v2 0),(zc v2 1),(zc v2 2)])
 ) (
 ret (.brk 0 [])
 )
 ) fun o=>nx o z6r
def z6s (v5:List V):M Out :=
 ret (.ret [(Value.int .i64 0),(Value.int .i64 0)])
def z6t (vs:List V):M Out :=
 zb (
 zb (za (zt (zc vs 0))) fun x11 =>
 zb (
 zbf zbs zxj [(zc vs 0),x11,(Value.int .i64 0)]
 ) fun o=>ret (zw 0 o)
 ) fun o=>nx o z6s
def zs3 (x0:V):M V :=
 zb (
 zb (
 zb (za (zt x0)) fun x8 =>
 zb (za (zr .gtr x8 (Value.int .i64 16))) fun x9 =>
 zn x9 (
 ret (.ret [(Value.int .i64 (-1)),(Value.int .i64 2)])
 ) (
 ret (.nxt [x0])
 )
 ) fun o=>nx o z6t
 ) fun o=>zbg o fun vs=>ret (zbe [(zc vs 0),(zc vs 1)])
def zblb:Hint:=(.seq [] .leaf (.seq [0] (.seq [] .leaf (.cond (.seq [] .leaf .leaf) .leaf)) (.seq [] (.seq [] .leaf (.blk (.loop [10,11,12] (.seq [] .leaf (.seq [10,11,12] (.cond .leaf .leaf) (.seq [10,11,12] (.blk (.seq [] .leaf (.seq [] .leaf (.seq [] .leaf (.cond (.seq [] .leaf .leaf) .leaf))))) .leaf)))))) (.seq [] .leaf .leaf))))
def zk6:List V→M V:=ap1 zs3
def zblc:zv:=ovr [(z4p,zs2)] noC
theorem zbay:zu Tryz.prog zuk (zk6):=kn1 (σ:=zblc) (hint:=zblb) (by kernel_rfl) (zj zbla zk) fun _=>(by kernel_rfl)
def z3d (v3:List V):M Out :=
 zb (za (zr .add (zc v3 4) (Value.int .i64 1))) fun x21 =>
 ret (.nxt [(zc v3 0),(zc v3 1),(zc v3 2),(zc v3 3),x21])
def z3e (v2:List V):M Out :=
 zb (
 zb (
 zb (za (zq 3 (zc v2 2) (zc v2 4))) fun x13 =>
 zb (ldn 3 x13) fun x14 =>
 zb (newc [Value.int .i64 0,Value.int .i64 0,Value.int .i64 0]) fun x7 =>
 zb (stn 3 x7 x14) fun _ =>
 zb (za (ze 0 x7)) fun x15 =>
 zb (zz x15) fun x16 =>
 zb (za (zr .eql x16 (zc v2 0))) fun x18 =>
 zn x18 (
 zb (za (zr .add (zc v2 1) (Value.int .i64 1))) fun x20 =>
 ret (.nxt [(zc v2 0),x20,(zc v2 2),(zc v2 3),(zc v2 4)])
 ) (
 ret (.nxt [(zc v2 0),(zc v2 1),(zc v2 2),(zc v2 3),(zc v2 4)])
 )
 ) fun o=>ret (zw 1 o)
 ) fun o=>nx o z3d
def zvu (vs:List V):M Out :=
 zb (za (zr .lss (zc vs 4) (zc vs 3))) fun x12 =>
 zb (
 zn x12 (
 ret (.nxt [(zc vs 0),(zc vs 1),(zc vs 2),(zc vs 3),(zc vs 4)])
 ) (
 ret (.brk 0 [(zc vs 1)])
 )
 ) fun o=>nx o z3e
def zbes (v4:List V):M Out :=
 ret (.ret [(zc v4 0)])
def z6u (x0 x1:V):M V :=
 zb (
 zb (zdf x0) fun x2 =>
 zb (
 zb (za (ze 1 x2)) fun x8 =>
 zb (zz x8) fun x9 =>
 zb (za (zt x9)) fun x10 =>
 zb (
 zbf zbs zvu [x1,(Value.int .i64 0),x9,x10,(Value.int .i64 0)]
 ) fun o=>ret (zw 0 o)
 ) fun o=>nx o zbes
 ) fun o=>zbg o fun vs=>ret (zbe [(zc vs 0)])
def zbrm:Hint:=(.seq [] .leaf (.seq [] .leaf (.seq [5] (.seq [] .leaf (.blk (.loop [1,5,9,10,11] (.seq [] .leaf (.seq [1,5,9,10,11] (.cond .leaf .leaf) (.seq [1,5,9,10,11] (.blk (.seq [] .leaf (.seq [] .leaf (.cond .leaf .leaf)))) .leaf)))))) (.seq [] .leaf .leaf))))
def zt0:List V→M V:=ap2 z6u
theorem zbrn:zu Tryz.prog zbar (zt0):=kn2 (σ:=ovr [] noC) (hint:=zbrm) (by kernel_rfl) zk fun _ _=>(by kernel_rfl)
def zbaz (v4:List V):M Out :=
 zb (za (ze 1 (zc v4 2))) fun x84 =>
 zb (zz x84) fun x85 =>
 zb (za (ze 2 (zc v4 2))) fun x86 =>
 zb (zz x86) fun x87 =>
 zb (za (zr .add x85 x87)) fun x88 =>
 ret (.nxt [(zc v4 0),(zc v4 1),x88,(zc v4 3),(zc v4 4),(zc v4 5)])
def zba0 (v5:List V):M Out :=
 zb (za (zr .add (zc v5 5) (Value.int .i64 1))) fun x89 =>
 ret (.nxt [(zc v5 0),(zc v5 1),(zc v5 2),(zc v5 3),(zc v5 4),x89])
def zhe (v3:List V):M Out :=
 zb (
 zb (
 zb (za (zq 3 (zc v3 3) (zc v3 5))) fun x44 =>
 zb (ldn 3 x44) fun x45 =>
 zb (newc [Value.int .i64 0,Value.int .i64 0,Value.int .i64 0]) fun x8 =>
 zb (stn 3 x8 x45) fun _ =>
 zb (
 zb (za (ze 0 x8)) fun x46 =>
 zb (zz x46) fun x47 =>
 zb (za (zr .lss x47 (Value.int .i64 (-1)))) fun x48 =>
 zb (gd x48 false (za (ze 0 x8))) fun x50 =>
 zb (gd x48 false (zz x50)) fun x51 =>
 zb (gd x48 false (za (some (zc v3 0)))) fun x52 =>
 zb (gd x48 false (za (zr .geq x51 x52))) fun x53 =>
 zb (za (zy x48 (Value.bool true) x53)) fun x54 =>
 zb (gd x54 false (za (ze 2 x8))) fun x56 =>
 zb (gd x54 false (zz x56)) fun x57 =>
 zb (gd x54 false (za (zr .lss x57 (Value.int .i64 1)))) fun x58 =>
 zb (za (zy x54 (Value.bool true) x58)) fun x59 =>
 zb (gd x59 false (za (ze 1 x8))) fun x61 =>
 zb (gd x59 false (zz x61)) fun x62 =>
 zb (gd x59 false (za (some (zc v3 2)))) fun x63 =>
 zb (gd x59 false (za (zr .lss x62 x63))) fun x64 =>
 zb (za (zy x59 (Value.bool true) x64)) fun x65 =>
 zb (gd x65 false (za (ze 1 x8))) fun x67 =>
 zb (gd x65 false (zz x67)) fun x68 =>
 zb (gd x65 false (za (ze 0 (zc v3 1)))) fun x69 =>
 zb (gd x65 false (zz x69)) fun x70 =>
 zb (gd x65 false (za (zr .gtr x68 x70))) fun x71 =>
 zb (za (zy x65 (Value.bool true) x71)) fun x72 =>
 zb (gd x72 false (za (ze 2 x8))) fun x74 =>
 zb (gd x72 false (zz x74)) fun x75 =>
 zb (gd x72 false (za (ze 0 (zc v3 1)))) fun x76 =>
 zb (gd x72 false (zz x76)) fun x77 =>
 zb (gd x72 false (za (ze 1 x8))) fun x78 =>
 zb (gd x72 false (zz x78)) fun x79 =>
 zb (gd x72 false (za (zr .sub x77 x79))) fun x80 =>
 zb (gd x72 false (za (zr .gtr x75 x80))) fun x81 =>
 zb (za (zy x72 (Value.bool true) x81)) fun x82 =>
 zn x82 (
 ret (.ret [(zc v3 5),(Value.int .i64 210)])
 ) (
 ret (.nxt [(zc v3 0),(zc v3 1),x8,(zc v3 3),(zc v3 4),(zc v3 5)])
 )
 ) fun o=>nx o zbaz
 ) fun o=>ret (zw 2 o)
 ) fun o=>nx o zba0
def zf7 (v2:List V):M Out :=
 zb (za (zr .lss (zc v2 5) (zc v2 4))) fun x42 =>
 zb (
 zn x42 (
 ret (.nxt [(zc v2 0),(zc v2 1),(zc v2 2),(zc v2 3),(zc v2 4),(zc v2 5)])
 ) (
 ret (.brk 1 [(zc v2 0),(zc v2 1)])
 )
 ) fun o=>nx o zhe
def zba1 (v10:List V):M Out :=
 zb (za (zr .add (zc v10 2) (Value.int .i64 1))) fun x101 =>
 ret (.nxt [(zc v10 0),(zc v10 1),x101])
def zba2 (v9:List V):M Out :=
 zb (
 zb (
 zb (ldn 2 (zc v9 0)) fun x97 =>
 zb (zt0 [x97,(zc v9 2)]) fun x99 =>
 zb (za (zr .eql x99 (Value.int .i64 0))) fun x100 =>
 zn x100 (
 ret (.ret [(Value.int .i64 (-1)),(Value.int .i64 210)])
 ) (
 ret (.nxt [(zc v9 0),(zc v9 1),(zc v9 2)])
 )
 ) fun o=>ret (zw 4 o)
 ) fun o=>nx o zba1
def z0i (v8:List V):M Out :=
 zb (za (zr .lss (zc v8 2) (zc v8 1))) fun x95 =>
 zb (
 zn x95 (
 ret (.nxt [(zc v8 0),(zc v8 1),(zc v8 2)])
 ) (
 ret (.brk 3 [])
 )
 ) fun o=>nx o zba2
def zba3 (v11:List V):M Out :=
 ret (.ret [(Value.int .i64 0),(Value.int .i64 0)])
def zba4 (v7:List V):M Out :=
 zb (
 zb (
 zbf zbs z0i [(zc v7 1),(zc v7 0),(Value.int .i64 0)]
 ) fun o=>ret (zw 3 o)
 ) fun o=>nx o zba3
def zba5 (v6:List V):M Out :=
 zb (
 zb (ldn 2 (zc v6 1)) fun x90 =>
 zb (zt0 [x90,(Value.int .i64 (-1))]) fun x91 =>
 zb (za (zr .gtr x91 (Value.int .i64 1))) fun x92 =>
 zn x92 (
 ret (.ret [(Value.int .i64 (-1)),(Value.int .i64 210)])
 ) (
 ret (.nxt [(zc v6 0),(zc v6 1)])
 )
 ) fun o=>nx o zba4
def z6v (vs:List V):M Out :=
 zb (
 zb (za (ze 1 (zc vs 1))) fun x38 =>
 zb (zz x38) fun x39 =>
 zb (za (zt x39)) fun x40 =>
 zb (
 zbf zbs zf7 [(zc vs 0),(zc vs 1),(Value.int .i64 0),x39,x40,(Value.int .i64 0)]
 ) fun o=>ret (zw 1 o)
 ) fun o=>nx o zba5
def zg8 (x0 x1:V):M V :=
 zb (
 zb (zdf x0) fun x2 =>
 zb (
 zb (
 zb (za (zr .lss x1 (Value.int .i64 1))) fun x12 =>
 zb (gd x12 false (za (some x1))) fun x14 =>
 zb (gd x12 false (za (zr .gtr x14 (Value.int .i64 8)))) fun x15 =>
 zb (za (zy x12 (Value.bool true) x15)) fun x16 =>
 zn x16 (
 ret (.ret [(Value.int .i64 (-1)),(Value.int .i64 1)])
 ) (
 zb (za (ze 0 x2)) fun x18 =>
 zb (zz x18) fun x19 =>
 zb (za (zr .lss x19 (Value.int .i64 1))) fun x20 =>
 zb (gd x20 false (za (ze 0 x2))) fun x22 =>
 zb (gd x20 false (zz x22)) fun x23 =>
 zb (gd x20 false (za (zr .gtr x23 (Value.int .i64 65536)))) fun x24 =>
 zb (za (zy x20 (Value.bool true) x24)) fun x25 =>
 zb (gd x25 false (za (ze 1 x2))) fun x27 =>
 zb (gd x25 false (zz x27)) fun x28 =>
 zb (gd x25 false (za (zt x28))) fun x29 =>
 zb (gd x25 false (za (zr .lss x29 (Value.int .i64 1)))) fun x30 =>
 zb (za (zy x25 (Value.bool true) x30)) fun x31 =>
 zb (gd x31 false (za (ze 1 x2))) fun x33 =>
 zb (gd x31 false (zz x33)) fun x34 =>
 zb (gd x31 false (za (zt x34))) fun x35 =>
 zb (gd x31 false (za (zr .gtr x35 (Value.int .i64 32)))) fun x36 =>
 zb (za (zy x31 (Value.bool true) x36)) fun x37 =>
 zn x37 (
 ret (.ret [(Value.int .i64 (-1)),(Value.int .i64 210)])
 ) (
 ret (.nxt [x1,x2])
 )
 )
 ) fun o=>ret (zw 0 o)
 ) fun o=>nx o z6v
 ) fun o=>zbg o fun vs=>ret (zbe [(zc vs 0),(zc vs 1)])
def zbol:Hint:=(.seq [] .leaf (.seq [1,2] (.blk (.seq [] .leaf (.cond (.seq [] .leaf .leaf) (.seq [] .leaf (.cond (.seq [] .leaf .leaf) .leaf))))) (.seq [] .leaf (.seq [1,2] (.seq [] .leaf (.blk (.loop [1,2,6,39,40,41] (.seq [] .leaf (.seq [1,2,6,39,40,41] (.cond .leaf .leaf) (.seq [1,2,6,39,40,41] (.blk (.seq [] .leaf (.seq [1,2,8,39,40,41] (.seq [] .leaf (.cond (.seq [] .leaf .leaf) .leaf)) .leaf))) .leaf)))))) (.seq [1,2] (.seq [] .leaf (.cond (.seq [] .leaf .leaf) .leaf)) (.seq [] (.seq [] .leaf (.blk (.loop [2,93,94] (.seq [] .leaf (.seq [2,93,94] (.cond .leaf .leaf) (.seq [2,93,94] (.blk (.seq [] .leaf (.seq [] .leaf (.cond (.seq [] .leaf .leaf) .leaf)))) .leaf)))))) (.seq [] .leaf .leaf)))))))
def zvv:List V→M V:=ap2 zg8
def zbom:zv:=ovr [(zbar,zt0)] noC
theorem zbon:zu Tryz.prog z6c (zvv):=kn2 (σ:=zbom) (hint:=zbol) (by kernel_rfl) (zj zbrn zk) fun _ _=>(by kernel_rfl)
def zxk (x0 x1:V):M V :=
 zb (
 zb (zdf x0) fun x2 =>
 zb (za (ze 0 x2)) fun x4 =>
 zb (zz x4) fun x5 =>
 zb (zz x1) fun x6 =>
 zb (za (zr .geq x5 x6)) fun x7 =>
 ret (.ret [x7])
 ) fun o=>zbg o fun vs=>ret (zbe [(zc vs 0)])
def zbjv:Hint:=(.seq [] .leaf (.seq [] .leaf .leaf))
def zew:List V→M V:=ap2 zxk
theorem z6w:zu Tryz.prog zdu (zew):=kn2 (σ:=ovr [] noC) (hint:=zbjv) (by kernel_rfl) zk fun _ _=>(by kernel_rfl)
def zku (S:zv) (v3:List V):M Out :=
 zb (za (zr .add (zc v3 3) (Value.int .i64 1))) fun x18 =>
 ret (.nxt [(zc v3 0),(zc v3 1),(zc v3 2),x18])
def zkv (S:zv) (v2:List V):M Out :=
 zb (
 zb (
 zb (za (zq 3 (zc v2 0) (zc v2 3))) fun x14 =>
 zb (ldn 3 x14) fun x15 =>
 zb (zn4 (ovr [] S) (zc v2 1) [x15]) fun x16 =>
 zn x16 (
 ret (.ret [(zc v2 3)])
 ) (
 ret (.nxt [(zc v2 0),(zc v2 1),(zc v2 2),(zc v2 3)])
 )
 ) fun o=>ret (zw 1 o)
 ) fun o=>nx o (zku S)
def zkw (S:zv) (vs:List V):M Out :=
 zb (za (zr .lss (zc vs 3) (zc vs 2))) fun x9 =>
 zb (
 zn x9 (
 ret (.nxt [(zc vs 0),(zc vs 1),(zc vs 2),(zc vs 3)])
 ) (
 ret (.brk 0 [])
 )
 ) fun o=>nx o (zkv S)
def zkx (S:zv) (v4:List V):M Out :=
 ret (.ret [(Value.int .i64 (-1))])
def zlh (S:zv) (x0 x1:V):M V :=
 zb (
 zb (
 zb (za (zt x0)) fun x7 =>
 zb (
 zbf zbs (zkw S) [x0,x1,x7,(Value.int .i64 0)]
 ) fun o=>ret (zw 0 o)
 ) fun o=>nx o (zkx S)
 ) fun o=>zbg o fun vs=>ret (zbe [(zc vs 0)])
def zli:Hint:=(.seq [] .leaf (.seq [] (.seq [] .leaf (.blk (.loop [0,1,7,8] (.seq [] .leaf (.seq [0,1,7,8] (.cond .leaf .leaf) (.seq [0,1,7,8] (.blk (.seq [] .leaf (.seq [] .leaf (.cond (.seq [] .leaf .leaf) .leaf)))) .leaf)))))) (.seq [] .leaf .leaf)))
def zdb (S:zv):List V→M V:=ap2 (zlh S)
theorem zlj {S:zv} (hS:zd9 Tryz.prog S):zu Tryz.prog zet (zdb S):=kn2 (σ:=ovr [] S) (hint:=zli) (by kernel_rfl) (zeg hS) fun _ _=>(by kernel_rfl)
def zj6 (S:zv) (x0 x1:V):M V :=
 zb (
 zb ((zdb S) [x0,x1]) fun x7 =>
 zb (za (zr .geq x7 (Value.int .i64 0))) fun x8 =>
 ret (.ret [x8])
 ) fun o=>zbg o fun vs=>ret (zbe [(zc vs 0)])
def zj7:Hint:=(.seq [] .leaf (.seq [] .leaf .leaf))
def zbl (S:zv):List V→M V:=ap2 (zj6 S)
theorem zes {S:zv} (hS:zd9 Tryz.prog S):zu Tryz.prog zcq (zbl S):=kn2 (σ:=ovr [(zet,zdb S)] S) (hint:=zj7) (by kernel_rfl) (zj (zlj (zeg hS)) (zeg hS)) fun _ _=>(by kernel_rfl)
def zq4 (x0 x1:V):M V :=
 zb (
 zb (zdf x0) fun x2 =>
 zb (za (ze 1 x2)) fun x4 =>
 zb (zz x4) fun x5 =>
 zb (zz x1) fun x6 =>
 zb (za (zr .geq x5 x6)) fun x7 =>
 zb (gd x7 false (za (ze 2 x2))) fun x9 =>
 zb (gd x7 false (zz x9)) fun x10 =>
 zb (gd x7 false (zz x1)) fun x11 =>
 zb (gd x7 false (za (zr .geq x10 x11))) fun x12 =>
 zb (za (zy x7 (Value.bool true) x12)) fun x13 =>
 ret (.ret [x13])
 ) fun o=>zbg o fun vs=>ret (zbe [(zc vs 0)])
def zbjw:Hint:=(.seq [] .leaf (.seq [] .leaf .leaf))
def zex:List V→M V:=ap2 zq4
theorem z6x:zu Tryz.prog zdv (zex):=kn2 (σ:=ovr [] noC) (hint:=zbjw) (by kernel_rfl) zk fun _ _=>(by kernel_rfl)
def zlt (S:zv) (v3:List V):M Out :=
 zb (za (zr .add (zc v3 3) (Value.int .i64 1))) fun x18 =>
 ret (.nxt [(zc v3 0),(zc v3 1),(zc v3 2),x18])
def zlu (S:zv) (v2:List V):M Out :=
 zb (
 zb (
 zb (za (zq 5 (zc v2 0) (zc v2 3))) fun x14 =>
 zb (ldn 5 x14) fun x15 =>
 zb (zn4 (ovr [] S) (zc v2 1) [x15]) fun x16 =>
 zn x16 (
 ret (.ret [(zc v2 3)])
 ) (
 ret (.nxt [(zc v2 0),(zc v2 1),(zc v2 2),(zc v2 3)])
 )
 ) fun o=>ret (zw 1 o)
 ) fun o=>nx o (zlt S)
def zlv (S:zv) (vs:List V):M Out :=
 zb (za (zr .lss (zc vs 3) (zc vs 2))) fun x9 =>
 zb (
 zn x9 (
 ret (.nxt [(zc vs 0),(zc vs 1),(zc vs 2),(zc vs 3)])
 ) (
 ret (.brk 0 [])
 )
 ) fun o=>nx o (zlu S)
def zlw (S:zv) (v4:List V):M Out :=
 ret (.ret [(Value.int .i64 (-1))])
def zms (S:zv) (x0 x1:V):M V :=
 zb (
 zb (
 zb (za (zt x0)) fun x7 =>
 zb (
 zbf zbs (zlv S) [x0,x1,x7,(Value.int .i64 0)]
 ) fun o=>ret (zw 0 o)
 ) fun o=>nx o (zlw S)
 ) fun o=>zbg o fun vs=>ret (zbe [(zc vs 0)])
def zmt:Hint:=(.seq [] .leaf (.seq [] (.seq [] .leaf (.blk (.loop [0,1,7,8] (.seq [] .leaf (.seq [0,1,7,8] (.cond .leaf .leaf) (.seq [0,1,7,8] (.blk (.seq [] .leaf (.seq [] .leaf (.cond (.seq [] .leaf .leaf) .leaf)))) .leaf)))))) (.seq [] .leaf .leaf)))
def zdo (S:zv):List V→M V:=ap2 (zms S)
theorem zmu {S:zv} (hS:zd9 Tryz.prog S):zu Tryz.prog zfl (zdo S):=kn2 (σ:=ovr [] S) (hint:=zmt) (by kernel_rfl) (zeg hS) fun _ _=>(by kernel_rfl)
def zky (S:zv) (x0 x1:V):M V :=
 zb (
 zb ((zdo S) [x0,x1]) fun x7 =>
 zb (za (zr .geq x7 (Value.int .i64 0))) fun x8 =>
 ret (.ret [x8])
 ) fun o=>zbg o fun vs=>ret (zbe [(zc vs 0)])
def zkz:Hint:=(.seq [] .leaf (.seq [] .leaf .leaf))
def zb9 (S:zv):List V→M V:=ap2 (zky S)
theorem zk0 {S:zv} (hS:zd9 Tryz.prog S):zu Tryz.prog zer (zb9 S):=kn2 (σ:=ovr [(zfl,zdo S)] S) (hint:=zkz) (by kernel_rfl) (zj (zmu (zeg hS)) (zeg hS)) fun _ _=>(by kernel_rfl)
def zba6 (vs:List V):M Out :=
 zb (za (build [] [])) fun x15 =>
 zb (za (some (Value.iface zw6 x15))) fun x16 =>
 ret (.ret [x16])
def zq5 (x0:V):M V :=
 zb (
 zb (zdf x0) fun x1 =>
 zb (
 zb (za (ze 0 x1)) fun x3 =>
 zb (zz x3) fun x4 =>
 zb (
 zb (za (zr .eql x4 (Value.int .i64 1))) fun x6 =>
 zn x6 (
 zb (za (ze 1 x1)) fun x7 =>
 zb (zz x7) fun x8 =>
 zb (za (some (Value.iface zqq x8))) fun x9 =>
 ret (.ret [x9])
 ) (
 zb (za (zr .eql x4 (Value.int .i64 2))) fun x11 =>
 zn x11 (
 zb (za (ze 1 x1)) fun x12 =>
 zb (zz x12) fun x13 =>
 zb (za (some (Value.iface zs1 x13))) fun x14 =>
 ret (.ret [x14])
 ) (
 ret (.nxt [])
 )
 )
 ) fun o=>ret (zw 0 o)
 ) fun o=>nx o zba6
 ) fun o=>zbg o fun vs=>ret (zbe [(zc vs 0)])
def zboo:Hint:=(.seq [] .leaf (.seq [] (.seq [] .leaf (.blk (.seq [] .leaf (.cond (.seq [] .leaf .leaf) (.seq [] .leaf (.cond (.seq [] .leaf .leaf) .leaf)))))) (.seq [] .leaf .leaf)))
def zey:List V→M V:=ap1 zq5
theorem zbet:zu Tryz.prog zhp (zey):=kn1 (σ:=ovr [] noC) (hint:=zboo) (by kernel_rfl) zk fun _=>(by kernel_rfl)
def zhf (v3:List V):M Out :=
 zb (za (zr .add (zc v3 3) (Value.int .i64 1))) fun x18 =>
 ret (.nxt [(zc v3 0),(zc v3 1),(zc v3 2),x18])
def zd6 (v2:List V):M Out :=
 zb (
 zb (
 zb (za (zq 2 (zc v2 0) (zc v2 3))) fun x14 =>
 zb (ldn 2 (zc v2 1)) fun x11 =>
 zb (ldn 2 x14) fun x15 =>
 zb (za (zcp false (ze6 [.i,.i] x11 x15))) fun x16 =>
 zn x16 (
 ret (.ret [(zc v2 3)])
 ) (
 ret (.nxt [(zc v2 0),(zc v2 1),(zc v2 2),(zc v2 3)])
 )
 ) fun o=>ret (zw 1 o)
 ) fun o=>nx o zhf
def zcx (vs:List V):M Out :=
 zb (za (zr .lss (zc vs 3) (zc vs 2))) fun x9 =>
 zb (
 zn x9 (
 ret (.nxt [(zc vs 0),(zc vs 1),(zc vs 2),(zc vs 3)])
 ) (
 ret (.brk 0 [])
 )
 ) fun o=>nx o zd6
def zhg (v4:List V):M Out :=
 ret (.ret [(Value.int .i64 (-1))])
def zea (x0 x1:V):M V :=
 zb (
 zb (zdf x1) fun x3 =>
 zb (
 zb (za (zt x0)) fun x7 =>
 zb (
 zbf zbs zcx [x0,x3,x7,(Value.int .i64 0)]
 ) fun o=>ret (zw 0 o)
 ) fun o=>nx o zhg
 ) fun o=>zbg o fun vs=>ret (zbe [(zc vs 0)])
def zpg:Hint:=(.seq [] .leaf (.seq [] (.seq [] .leaf (.blk (.loop [0,3,7,8] (.seq [] .leaf (.seq [0,3,7,8] (.cond .leaf .leaf) (.seq [0,3,7,8] (.blk (.seq [] .leaf (.seq [] (.reg [1,2,3,0,4,5] []) (.cond (.seq [] .leaf .leaf) .leaf)))) .leaf)))))) (.seq [] .leaf .leaf)))
def zc2:List V→M V:=ap2 zea
theorem zph:zu Tryz.prog zg1 (zc2):=kn2 (σ:=ovr [] noC) (hint:=zpg) (by kernel_rfl) zk fun _ _=>(by kernel_rfl)
def zdz (x0 x1:V):M V :=
 zb (
 zb (zdf x1) fun x3 =>
 zb (ldn 2 x3) fun x6 =>
 zb (zc2 [x0,x6]) fun x7 =>
 zb (za (zr .geq x7 (Value.int .i64 0))) fun x8 =>
 ret (.ret [x8])
 ) fun o=>zbg o fun vs=>ret (zbe [(zc vs 0)])
def znw:Hint:=(.seq [] .leaf (.seq [] .leaf .leaf))
def zbv:List V→M V:=ap2 zdz
def znx:zv:=ovr [(zg1,zc2)] noC
theorem zny:zu Tryz.prog zce (zbv):=kn2 (σ:=znx) (hint:=znw) (by kernel_rfl) (zj zph zk) fun _ _=>(by kernel_rfl)
def zeb (x0 x1 x2 x3:V):M V :=
 zb (
 zb (zdf x0) fun x4 =>
 zb (za (ze 0 x4)) fun x6 =>
 zb (zz x6) fun x7 =>
 zb (zz x1) fun x8 =>
 zb (za (zr .eql x7 x8)) fun x9 =>
 zb (gd x9 true (za (ze 1 x4))) fun x11 =>
 zb (gd x9 true (zz x11)) fun x12 =>
 zb (gd x9 true (zz x2)) fun x13 =>
 zb (gd x9 true (za (zr .eql x12 x13))) fun x14 =>
 zb (za (zy x9 x14 (Value.bool false))) fun x15 =>
 zb (gd x15 true (za (ze 2 x4))) fun x17 =>
 zb (gd x15 true (zz x17)) fun x18 =>
 zb (gd x15 true (za (some x18))) fun x19 =>
 zb (gd x19 false (zz x3)) fun x20 =>
 zb (gd x19 false (za (un .not x20))) fun x21 =>
 zb (gd x15 true (za (zy x19 (Value.bool true) x21))) fun x22 =>
 zb (za (zy x15 x22 (Value.bool false))) fun x23 =>
 ret (.ret [x23])
 ) fun o=>zbg o fun vs=>ret (zbe [(zc vs 0)])
def zbc4:Hint:=(.seq [] .leaf (.seq [] .leaf .leaf))
def zfx:List V→M V:=ap4 zeb
theorem zbc5:zu Tryz.prog zei (zfx):=kn4 (σ:=ovr [] noC) (hint:=zbc4) (by kernel_rfl) zk fun _ _ _ _=>(by kernel_rfl)
def zsq (x0 x1 x2 x3:V):M V :=
 zb (
 zb (zdf x0) fun x4 =>
 zb (zdf x1) fun x5 =>
 zb (zdf x2) fun x6 =>
 zb (zdf x3) fun x7 =>
 zb (za (ze 1 x5)) fun x9 =>
 zb (zz x9) fun x10 =>
 zb (za (some (Value.func (.func zei) #[] #[x6,x4,x7]))) fun x11 =>
 zb ((zbl (ovr [(zei,zfx)] noC)) [x10,x11]) fun x12 =>
 ret (.ret [x12])
 ) fun o=>zbg o fun vs=>ret (zbe [(zc vs 0)])
def zbgz:Hint:=(.seq [] .leaf (.seq [] .leaf .leaf))
def zju:List V→M V:=ap4 zsq
def zbg0:zv:=ovr [(zcq,zbl (ovr [(zei,zfx)] noC))] noC
theorem zbg1:zu Tryz.prog zhq (zju):=kn4 (σ:=zbg0) (hint:=zbgz) (by kernel_rfl) (zj (zes (zj zbc5 zk)) zk) fun _ _ _ _=>(by kernel_rfl)
def zsr (v2:List V):M Out :=
 zb (za (ze 2 (zc v2 2))) fun x27 =>
 zb (zz x27) fun x28 =>
 zb (za (zq 5 x28 (zc v2 0))) fun x30 =>
 zb (za (ze 2 x30)) fun x31 =>
 zb (zz x31) fun x32 =>
 zb (za (zr .eql x32 (zc v2 1))) fun x34 =>
 ret (.ret [x34])
def zss (vs:List V):M Out :=
 zb (
 zn (zc vs 2) (
 zb (za (ze 2 (zc vs 3))) fun x19 =>
 zb (zz x19) fun x20 =>
 zb (za (zq 5 x20 (zc vs 0))) fun x22 =>
 zb (za (ze 1 x22)) fun x23 =>
 zb (zz x23) fun x24 =>
 zb (za (zr .eql x24 (zc vs 1))) fun x26 =>
 ret (.ret [x26])
 ) (
 ret (.nxt [(zc vs 0),(zc vs 1),(zc vs 3)])
 )
 ) fun o=>nx o zsr
def zuq (x0 x1 x2 x3:V):M V :=
 zb (
 zb (zdf x1) fun x5 =>
 zb (
 zb (za (zr .lss x0 (Value.int .i64 0))) fun x10 =>
 zb (gd x10 false (za (some x0))) fun x12 =>
 zb (gd x10 false (za (ze 2 x5))) fun x13 =>
 zb (gd x10 false (zz x13)) fun x14 =>
 zb (gd x10 false (za (zt x14))) fun x15 =>
 zb (gd x10 false (za (zr .geq x12 x15))) fun x16 =>
 zb (za (zy x10 (Value.bool true) x16)) fun x17 =>
 zn x17 (
 ret (.ret [(Value.bool false)])
 ) (
 ret (.nxt [x0,x2,x3,x5])
 )
 ) fun o=>nx o zss
 ) fun o=>zbg o fun vs=>ret (zbe [(zc vs 0)])
def zbic:Hint:=(.seq [] .leaf (.seq [0,2,3,5] (.seq [] .leaf (.cond (.seq [] .leaf .leaf) .leaf)) (.seq [0,2,5] (.seq [] .leaf (.cond (.seq [] .leaf .leaf) .leaf)) (.seq [] .leaf .leaf))))
def zk1:List V→M V:=ap4 zuq
theorem zbid:zu Tryz.prog zih (zk1):=kn4 (σ:=ovr [] noC) (hint:=zbic) (by kernel_rfl) zk fun _ _ _ _=>(by kernel_rfl)
def zst (x0 x1 x2 x3:V):M V :=
 zb (
 zb (zdf x0) fun x4 =>
 zb (zdf x1) fun x5 =>
 ret (.ret [(Value.bool false)])
 ) fun o=>zbg o fun vs=>ret (zbe [(zc vs 0)])
def zbg2:Hint:=(.seq [] .leaf (.seq [] .leaf .leaf))
def zjv:List V→M V:=ap4 zst
theorem zbg3:zu Tryz.prog zhs (zjv):=kn4 (σ:=ovr [] noC) (hint:=zbg2) (by kernel_rfl) zk fun _ _ _ _=>(by kernel_rfl)
noncomputable def zba7 (v4:List V):M Out :=
 zb (za (zr .add (zc v4 6) (Value.int .i64 1))) fun x35 =>
 ret (.nxt [(zc v4 0),(zc v4 1),(zc v4 2),(zc v4 3),(zc v4 4),(zc v4 5),x35])
noncomputable def zba8 (v3:List V):M Out :=
 zb (
 zb (
 zb (za (zq 2 (zc v3 4) (zc v3 6))) fun x19 =>
 zb (ldn 2 x19) fun x20 =>
 zb (newc [Value.int .i64 0,Value.int .i64 0]) fun x10 =>
 zb (stn 2 x10 x20) fun _ =>
 zhc fun h0 =>
 zb (ldn 2 x10) fun x21 =>
 zb (ldn 7 (zc v3 3)) fun x23 =>
 zb4 (zey [x21]) fun ha x22 h1 =>
 zb4 (invM Tryz.prog (ovr [(zhq,zju),(zih,zk1),(zhs,zjv),(zhp,zey),(zce,zbv)] noC) x22 "capstan/exec.may" [x23,(zc v3 0),(zc v3 2)]) fun ha_2 x26 h2 =>
 zb (za (un .not x26)) fun x27 =>
 zb (gd x27 false (za (some (zc v3 1)))) fun x29 =>
 zb (gd x27 false (za (some (zc v3 6)))) fun x30 =>
 zb (gd x27 false (za (zgs 2 x29 none (some x30)))) fun x31 =>
 zb (gd x27 false (ldn 2 x10)) fun x32 =>
 zb4 (gd x27 false (zbv [x31,x32])) fun ha_3 x33 h3 =>
 zb (za (zy x27 (Value.bool true) x33)) fun x34 =>
 zfi (chk (ldn 7 (zc v3 3)) h1 x23) <|
 zn x34 (
 ret (.ret [(Value.bool false)])
 ) (
 ret (.nxt [(zc v3 0),(zc v3 1),(zc v3 2),(zc v3 3),(zc v3 4),(zc v3 5),(zc v3 6)])
 )
 ) fun o=>ret (zw 1 o)
 ) fun o=>nx o zba7
noncomputable def z0j (v2:List V):M Out :=
 zb (za (zr .lss (zc v2 6) (zc v2 5))) fun x17 =>
 zb (
 zn x17 (
 ret (.nxt [(zc v2 0),(zc v2 1),(zc v2 2),(zc v2 3),(zc v2 4),(zc v2 5),(zc v2 6)])
 ) (
 ret (.brk 0 [])
 )
 ) fun o=>nx o zba8
noncomputable def zba9 (v5:List V):M Out :=
 ret (.ret [(Value.bool true)])
noncomputable def zbba (vs:List V):M Out :=
 zb (
 zb (za (zt (zc vs 1))) fun x15 =>
 zb (
 zbf zbs z0j [(zc vs 0),(zc vs 1),(zc vs 2),(zc vs 3),(zc vs 1),x15,(Value.int .i64 0)]
 ) fun o=>ret (zw 0 o)
 ) fun o=>nx o zba9
noncomputable def z3f (x0 x1 x2 x3:V):M V :=
 zb (
 zb (zdf x0) fun x4 =>
 zb (
 zb (za (zt x2)) fun x12 =>
 zb (za (zr .gtr x12 (Value.int .i64 32))) fun x13 =>
 zn x13 (
 ret (.ret [(Value.bool false)])
 ) (
 ret (.nxt [x1,x2,x3,x4])
 )
 ) fun o=>nx o zbba
 ) fun o=>zbg o fun vs=>ret (zbe [(zc vs 0)])
def zbop:Hint:=(.seq [] .leaf (.seq [1,2,3,4] (.seq [] .leaf (.cond (.seq [] .leaf .leaf) .leaf)) (.seq [] (.seq [] .leaf (.blk (.loop [1,2,3,4,14,15,16] (.seq [] .leaf (.seq [1,2,3,4,14,15,16] (.cond .leaf .leaf) (.seq [1,2,3,4,14,15,16] (.blk (.seq [] .leaf (.seq [] (.reg [3,4,0,2,1,5,6,7,8,9,10,11,12,13] []) (.cond (.seq [] .leaf .leaf) .leaf)))) .leaf)))))) (.seq [] .leaf .leaf))))
noncomputable def zq6:List V→M V:=ap4 z3f
noncomputable def zboq:zv:=ovr [(zhq,zju),(zih,zk1),(zhs,zjv),(zhp,zey),(zce,zbv)] noC
theorem zbor:zu Tryz.prog z6d (zq6):=kn4 (σ:=zboq) (hint:=zbop) (by kernel_rfl) (zj zbg1 (zj zbid (zj zbg3 (zj zbet (zj zny zk))))) fun _ _ _ _=>(by kernel_rfl)
noncomputable def zbbb (v7:List V):M Out :=
 zb (za (zr .add (zc v7 3) (Value.int .i64 1))) fun x89 =>
 ret (.nxt [(zc v7 0),(zc v7 1),(zc v7 2),x89])
noncomputable def zbbc (v6:List V):M Out :=
 zb (
 zb (
 zb (za (zq 2 (zc v6 1) (zc v6 3))) fun x73 =>
 zb (ldn 2 x73) fun x74 =>
 zb (newc [Value.slice none 0 0,Value.slice none 0 0]) fun x11 =>
 zb (stn 2 x11 x74) fun _ =>
 zb (ldn 7 (zc v6 0)) fun x75 =>
 zb (za (ze 0 x11)) fun x77 =>
 zb (zz x77) fun x78 =>
 zb (zq6 [x75,(zc v6 3),x78,(Value.bool false)]) fun x79 =>
 zb (za (un .not x79)) fun x80 =>
 zb (gd x80 false (ldn 7 (zc v6 0))) fun x82 =>
 zb (gd x80 false (za (some (zc v6 3)))) fun x83 =>
 zb (gd x80 false (za (ze 1 x11))) fun x84 =>
 zb (gd x80 false (zz x84)) fun x85 =>
 zb (gd x80 false (zq6 [x82,x83,x85,(Value.bool true)])) fun x86 =>
 zb (gd x80 false (za (un .not x86))) fun x87 =>
 zb (za (zy x80 (Value.bool true) x87)) fun x88 =>
 zn x88 (
 ret (.ret [(Value.int .i64 270)])
 ) (
 ret (.nxt [(zc v6 0),(zc v6 1),(zc v6 2),(zc v6 3)])
 )
 ) fun o=>ret (zw 1 o)
 ) fun o=>nx o zbbb
noncomputable def z0k (v5:List V):M Out :=
 zb (za (zr .lss (zc v5 3) (zc v5 2))) fun x71 =>
 zb (
 zn x71 (
 ret (.nxt [(zc v5 0),(zc v5 1),(zc v5 2),(zc v5 3)])
 ) (
 ret (.brk 0 [])
 )
 ) fun o=>nx o zbbc
noncomputable def zbbd (v8:List V):M Out :=
 ret (.ret [(Value.int .i64 0)])
noncomputable def zs4 (v4:List V):M Out :=
 zb (
 zb (za (ze 5 (zc v4 0))) fun x67 =>
 zb (zz x67) fun x68 =>
 zb (za (zt x68)) fun x69 =>
 zb (
 zbf zbs z0k [(zc v4 0),x68,x69,(Value.int .i64 0)]
 ) fun o=>ret (zw 0 o)
 ) fun o=>nx o zbbd
noncomputable def zbbe (v3:List V):M Out :=
 zb (za (ze 5 (zc v3 0))) fun x44 =>
 zb (zz x44) fun x45 =>
 zb (za (zt x45)) fun x46 =>
 zb (newc [Value.int .i64 0]) fun x9 =>
 zb (st1 x9 x46) fun _ =>
 zb (
 zb (za (ze 6 (zc v3 0))) fun x47 =>
 zb (zz x47) fun x48 =>
 zb (za (zr .lss x48 (Value.int .i64 1))) fun x49 =>
 zb (gd x49 false (za (ze 6 (zc v3 0)))) fun x51 =>
 zb (gd x49 false (zz x51)) fun x52 =>
 zb (gd x49 false (za (zr .gtr x52 (Value.int .i64 10000)))) fun x53 =>
 zb (za (zy x49 (Value.bool true) x53)) fun x54 =>
 zb (gd x54 false (za (ze 1 (zc v3 0)))) fun x56 =>
 zb (gd x54 false (zz x56)) fun x57 =>
 zb (gd x54 false (za (some (Value.func (.func zdu) #[] #[x9])))) fun x58 =>
 zb (gd x54 false ((zbl (ovr [(zdu,zew),(zdv,zex)] noC)) [x57,x58])) fun x59 =>
 zb (za (zy x54 (Value.bool true) x59)) fun x60 =>
 zb (gd x60 false (za (ze 2 (zc v3 0)))) fun x62 =>
 zb (gd x60 false (zz x62)) fun x63 =>
 zb (gd x60 false (za (some (Value.func (.func zdv) #[] #[x9])))) fun x64 =>
 zb (gd x60 false ((zb9 (ovr [(zdu,zew),(zdv,zex)] noC)) [x63,x64])) fun x65 =>
 zb (za (zy x60 (Value.bool true) x65)) fun x66 =>
 zn x66 (
 ret (.ret [(Value.int .i64 270)])
 ) (
 ret (.nxt [(zc v3 0)])
 )
 ) fun o=>nx o zs4
noncomputable def zbbf (v2:List V):M Out :=
 zb (
 zb (za (ze 3 (zc v2 0))) fun x33 =>
 zb (ldn 2 x33) fun x34 =>
 zb (za (ze 5 (zc v2 0))) fun x35 =>
 zb (zz x35) fun x36 =>
 zb (za (zt x36)) fun x37 =>
 zb (zvv [x34,x37]) fun x38 =>
 zb (za (ext 0 x38)) fun x39 =>
 zb (za (ext 1 x38)) fun x40 =>
 zb (za (zr .neq x40 (Value.int .i64 0))) fun x42 =>
 zn x42 (
 ret (.ret [x40])
 ) (
 ret (.nxt [(zc v2 0)])
 )
 ) fun o=>nx o zbbe
noncomputable def zbbg (vs:List V):M Out :=
 zb (
 zb (za (ze 2 (zc vs 0))) fun x24 =>
 zb (zz x24) fun x25 =>
 zb (zk6 [x25]) fun x26 =>
 zb (za (ext 0 x26)) fun x27 =>
 zb (za (ext 1 x26)) fun x28 =>
 zb (za (zr .neq x28 (Value.int .i64 0))) fun x30 =>
 zn x30 (
 ret (.ret [x28])
 ) (
 ret (.nxt [(zc vs 0)])
 )
 ) fun o=>nx o zbbf
noncomputable def z3g (x0:V):M V :=
 zb (
 zb (zdf x0) fun x1 =>
 zb (
 zb (za (ze 0 x1)) fun x13 =>
 zb (zz x13) fun x14 =>
 zb (za (ze 1 x1)) fun x15 =>
 zb (zz x15) fun x16 =>
 zb (zjt [x14,x16]) fun x17 =>
 zb (za (ext 0 x17)) fun x18 =>
 zb (za (ext 1 x17)) fun x19 =>
 zb (za (zr .neq x19 (Value.int .i64 0))) fun x21 =>
 zn x21 (
 ret (.ret [x19])
 ) (
 ret (.nxt [x1])
 )
 ) fun o=>nx o zbbg
 ) fun o=>zbg o fun vs=>ret (zbe [(zc vs 0)])
def zbos:Hint:=(.seq [] .leaf (.seq [1] (.seq [] .leaf (.seq [] .leaf (.cond (.seq [] .leaf .leaf) .leaf))) (.seq [1] (.seq [] .leaf (.seq [] .leaf (.cond (.seq [] .leaf .leaf) .leaf))) (.seq [1] (.seq [] .leaf (.seq [] .leaf (.cond (.seq [] .leaf .leaf) .leaf))) (.seq [] .leaf (.seq [1] (.seq [] .leaf (.cond (.seq [] .leaf .leaf) .leaf)) (.seq [] (.seq [] .leaf (.blk (.loop [1,68,69,70] (.seq [] .leaf (.seq [1,68,69,70] (.cond .leaf .leaf) (.seq [1,68,69,70] (.blk (.seq [] .leaf (.seq [] .leaf (.cond (.seq [] .leaf .leaf) .leaf)))) .leaf)))))) (.seq [] .leaf .leaf))))))))
noncomputable def zvw:List V→M V:=ap1 z3g
noncomputable def zbot:zv:=ovr [(zsl,zjt),(zuk,zk6),(z6c,zvv),(zcq,zbl (ovr [(zdu,zew),(zdv,zex)] noC)),(zer,zb9 (ovr [(zdu,zew),(zdv,zex)] noC)),(z6d,zq6)] noC
theorem zbou:zu Tryz.prog z58 (zvw):=kn1 (σ:=zbot) (hint:=zbos) (by kernel_rfl) (zj z6n (zj zbay (zj zbon (zj (zes (zj z6w (zj z6x zk))) (zj (zk0 (zj z6w (zj z6x zk))) (zj zbor zk)))))) fun _=>(by kernel_rfl)
def zlx (vs:List V):M Out :=
 zb (zcz 3 0 (rep 0 [Value.int .i64 0,Value.int .i64 0,Value.int .i64 0]) []) fun x5 =>
 zb (zc4 3 24 x5 (zc vs 0)) fun x7 =>
 ret (.ret [x7])
def zmv (x0:V):M V :=
 zb (
 zb (
 zb (za (zcp false (zef .s x0))) fun x4 =>
 zn x4 (
 ret (.ret [(Value.slice none 0 0)])
 ) (
 ret (.nxt [x0])
 )
 ) fun o=>nx o zlx
 ) fun o=>zbg o fun vs=>ret (zbe [(zc vs 0)])
def zmw:Hint:=(.seq [] .leaf (.seq [0] (.seq [] .leaf (.cond (.seq [] .leaf .leaf) .leaf)) (.seq [] .leaf .leaf)))
def zdp:List V→M V:=ap1 zmv
theorem zmx:zu Tryz.prog zfk (zdp):=kn1 (σ:=ovr [] noC) (hint:=zmw) (by kernel_rfl) zk fun _=>(by kernel_rfl)
def zgp (vs:List V):M Out :=
 zb (zcz 2 0 (rep 0 [Value.int .i64 0,Value.bool false]) []) fun x5 =>
 zb (zc4 2 16 x5 (zc vs 0)) fun x7 =>
 ret (.ret [x7])
def zcr (x0:V):M V :=
 zb (
 zb (
 zb (za (zcp false (zef .s x0))) fun x4 =>
 zn x4 (
 ret (.ret [(Value.slice none 0 0)])
 ) (
 ret (.nxt [x0])
 )
 ) fun o=>nx o zgp
 ) fun o=>zbg o fun vs=>ret (zbe [(zc vs 0)])
def zog:Hint:=(.seq [] .leaf (.seq [0] (.seq [] .leaf (.cond (.seq [] .leaf .leaf) .leaf)) (.seq [] .leaf .leaf)))
def zcs:List V→M V:=ap1 zcr
theorem zoh:zu Tryz.prog zgd (zcs):=kn1 (σ:=ovr [] noC) (hint:=zog) (by kernel_rfl) zk fun _=>(by kernel_rfl)
def z0l (v4:List V):M Out :=
 zb (za (zr .add (zc v4 3) (Value.int .i64 1))) fun x57 =>
 ret (.nxt [(zc v4 0),(zc v4 1),(zc v4 2),x57])
def z0m (v3:List V):M Out :=
 zb (
 zb (
 zb (za (zq 3 (zc v3 1) (zc v3 3))) fun x35 =>
 zb (ldn 3 x35) fun x36 =>
 zb (newc [Value.int .i64 0,Value.int .i64 0,Value.bool false]) fun x10 =>
 zb (stn 3 x10 x36) fun _ =>
 zb (za (ze 0 x10)) fun x37 =>
 zb (zz x37) fun x38 =>
 zb (za (ze 1 x10)) fun x39 =>
 zb (zz x39) fun x40 =>
 zb (za (build [Value.int .i64 0,Value.int .i64 0] [(0,1,x38),(1,1,x40)])) fun x41 =>
 zb (newc [Value.int .i64 0,Value.int .i64 0]) fun x11 =>
 zb (stn 2 x11 x41) fun _ =>
 zb (za (zbo (zc v3 0))) fun x43 =>
 zb (za (ze 1 x43)) fun x44 =>
 zb (za (zbo (zc v3 0))) fun x48 =>
 zb (za (ze 1 x48)) fun x49 =>
 zb (zz x44) fun x45 =>
 zb (ldn 2 x11) fun x46 =>
 zb (zz x49) fun x50 =>
 zb (ldn 2 x11) fun x51 =>
 zb (lookup (.agg [.i,.i]) (Value.bool false) false x50 x51) fun x52 =>
 zb (gd x52 false (za (ze 2 x10))) fun x54 =>
 zb (gd x52 false (zz x54)) fun x55 =>
 zb (za (zy x52 (Value.bool true) x55)) fun x56 =>
 zb (zgt (.agg [.i,.i]) x45 x46 x56) fun _ =>
 ret (.nxt [(zc v3 0),(zc v3 1),(zc v3 2),(zc v3 3)])
 ) fun o=>ret (zw 1 o)
 ) fun o=>nx o z0l
def zov (v2:List V):M Out :=
 zb (za (zr .lss (zc v2 3) (zc v2 2))) fun x34 =>
 zb (
 zn x34 (
 ret (.nxt [(zc v2 0),(zc v2 1),(zc v2 2),(zc v2 3)])
 ) (
 ret (.brk 0 [(zc v2 0)])
 )
 ) fun o=>nx o z0m
def zbbh (v5:List V):M Out :=
 ret (.ret [(zc v5 0),(Value.int .i64 0)])
def zbbi (vs:List V):M Out :=
 zw3 4 fun base h0 =>
 zb (za (zt (zc vs 0))) fun x25 =>
 zb4 (zcs [(zc vs 0)]) fun ha x22 h1 =>
 zfi (zeo ha [base + 0,base + 1,base + 2,base + 3] && zeo h1 [base + 0,base + 1,base + 2,base + 3]) <|
 zb (flt (base + 0) (zwr)) fun x23 =>
 zb (flt (base + 1) (zu0 1 8 [Value.int .i64 0] x25 x25)) fun x26 =>
 zb (flt (base + 2) (zwr)) fun x27 =>
 zb (flt (base + 3) (zwr)) fun x28 =>
 zb (za (build [Value.slice none 0 0,Value.map none,Value.slice none 0 0,Value.map none,Value.map none] [(0,1,x22),(1,1,x23),(2,1,x26),(3,1,x27),(4,1,x28)])) fun x29 =>
 zb4 (zdf x29) fun ha_2 x30 h2 =>
 zb (
 zb (za (zt (zc vs 1))) fun x32 =>
 zb (
 zbf zbs zov [x30,(zc vs 1),x32,(Value.int .i64 0)]
 ) fun o=>ret (zw 0 o)
 ) fun o=>nx o zbbh
def z3h (x0 x1:V):M V :=
 zb (
 zb (
 zb (zjt [x0,x1]) fun x15 =>
 zb (za (ext 0 x15)) fun x16 =>
 zb (za (ext 1 x15)) fun x17 =>
 zb (za (zr .neq x17 (Value.int .i64 0))) fun x19 =>
 zn x19 (
 ret (.ret [(Value.pointer none),x17])
 ) (
 ret (.nxt [x0,x1])
 )
 ) fun o=>nx o zbbi
 ) fun o=>zbg o fun vs=>ret (zbe [(zc vs 0),(zc vs 1)])
def zbov:Hint:=(.seq [] .leaf (.seq [0,1] (.seq [] .leaf (.seq [] .leaf (.cond (.seq [] .leaf .leaf) .leaf))) (.seq [] (.reg [0,3,4,1,2,5,6,7,8,9,10] [2,5,6,7]) (.seq [8] (.seq [] .leaf (.blk (.loop [8,31,32,33] (.seq [] .leaf (.seq [8,31,32,33] (.cond .leaf .leaf) (.seq [8,31,32,33] (.blk (.seq [] .leaf (.seq [] .leaf (.reg [0,1,2,5,6,7,3,4,8,9,10,11,12,13,14,15] [])))) .leaf)))))) (.seq [] .leaf .leaf)))))
def zvx:List V→M V:=ap2 z3h
def zbow:zv:=ovr [(zsl,zjt),(zgd,zcs)] noC
theorem zbox:zu Tryz.prog z59 (zvx):=kn2 (σ:=zbow) (hint:=zbov) (by kernel_rfl) (zj z6n (zj zoh zk)) fun _ _=>(by kernel_rfl)
def zow (vs:List V):M Out :=
 zb (zcz 5 0 (rep 0 [Value.int .i64 0,Value.int .i64 0,Value.int .i64 0,Value.int .i64 0,Value.int .i64 0]) []) fun x5 =>
 zb (zc4 5 40 x5 (zc vs 0)) fun x7 =>
 ret (.ret [x7])
def zpi (x0:V):M V :=
 zb (
 zb (
 zb (za (zcp false (zef .s x0))) fun x4 =>
 zn x4 (
 ret (.ret [(Value.slice none 0 0)])
 ) (
 ret (.nxt [x0])
 )
 ) fun o=>nx o zow
 ) fun o=>zbg o fun vs=>ret (zbe [(zc vs 0)])
def zpj:Hint:=(.seq [] .leaf (.seq [0] (.seq [] .leaf (.cond (.seq [] .leaf .leaf) .leaf)) (.seq [] .leaf .leaf)))
def zec:List V→M V:=ap1 zpi
theorem zpk:zu Tryz.prog zg0 (zec):=kn1 (σ:=ovr [] noC) (hint:=zpj) (by kernel_rfl) zk fun _=>(by kernel_rfl)
def zbeu (vs:List V):M Out :=
 zw3 1 fun base h0 =>
 zb (za (zt (zc vs 0))) fun x17 =>
 zb4 (zec [(zc vs 0)]) fun ha x15 h1 =>
 zfi (zeo ha [base + 0] && zeo h1 [base + 0]) <|
 zb (flt (base + 0) (zu0 4 64 [Value.slice none 0 0,Value.slice none 0 0,Value.int .i64 0,Value.int .i64 0] x17 x17)) fun x18 =>
 zb (za (build [Value.slice none 0 0,Value.slice none 0 0] [(0,1,x15),(1,1,x18)])) fun x19 =>
 zb4 (zdf x19) fun ha_2 x20 h2 =>
 ret (.ret [x20,(Value.int .i64 0)])
def z6y (x0:V):M V :=
 zb (
 zb (
 zb (zk6 [x0]) fun x8 =>
 zb (za (ext 0 x8)) fun x9 =>
 zb (za (ext 1 x8)) fun x10 =>
 zb (za (zr .neq x10 (Value.int .i64 0))) fun x12 =>
 zn x12 (
 ret (.ret [(Value.pointer none),x10])
 ) (
 ret (.nxt [x0])
 )
 ) fun o=>nx o zbeu
 ) fun o=>zbg o fun vs=>ret (zbe [(zc vs 0),(zc vs 1)])
def zbro:Hint:=(.seq [] .leaf (.seq [0] (.seq [] .leaf (.seq [] .leaf (.cond (.seq [] .leaf .leaf) .leaf))) (.seq [] (.reg [0,2,3,1,4,5,6,7,8] [4]) .leaf)))
def zzh:List V→M V:=ap1 z6y
def zbrp:zv:=ovr [(zuk,zk6),(zg0,zec)] noC
theorem zbrq:zu Tryz.prog zbam (zzh):=kn1 (σ:=zbrp) (hint:=zbro) (by kernel_rfl) (zj zbay (zj zpk zk)) fun _=>(by kernel_rfl)
def zq7 (x0 x1:V):M V :=
 zb (
 zb (zdf x1) fun x3 =>
 zb (za (ze 0 x3)) fun x5 =>
 zb (zz x5) fun x6 =>
 zb (za (zq 2 x6 x0)) fun x8 =>
 zb (za (ze 0 x8)) fun x9 =>
 zb (zz x9) fun x10 =>
 ret (.ret [x10])
 ) fun o=>zbg o fun vs=>ret (zbe [(zc vs 0)])
def zbev:Hint:=(.seq [] .leaf (.seq [] .leaf .leaf))
def zlp:List V→M V:=ap2 zq7
theorem zbew:zu Tryz.prog zg2 (zlp):=kn2 (σ:=ovr [] noC) (hint:=zbev) (by kernel_rfl) zk fun _ _=>(by kernel_rfl)
def zsu (x0 x1:V):M V :=
 zb (
 zb (zdf x1) fun x3 =>
 zb (za (ze 2 x3)) fun x5 =>
 zb (zz x5) fun x6 =>
 zb (za (zq 5 x6 x0)) fun x8 =>
 zb (za (ze 3 x8)) fun x9 =>
 zb (zz x9) fun x10 =>
 ret (.ret [x10])
 ) fun o=>zbg o fun vs=>ret (zbe [(zc vs 0)])
def zbg4:Hint:=(.seq [] .leaf (.seq [] .leaf .leaf))
def znz:List V→M V:=ap2 zsu
theorem zbg5:zu Tryz.prog zhr (znz):=kn2 (σ:=ovr [] noC) (hint:=zbg4) (by kernel_rfl) zk fun _ _=>(by kernel_rfl)
def zbex (x0 x1:V):M V :=
 zb (
 zb (zdf x0) fun x2 =>
 zb (zdf x1) fun x3 =>
 ret (.ret [(Value.int .i64 0)])
 ) fun o=>zbg o fun vs=>ret (zbe [(zc vs 0)])
def zbey:Hint:=(.seq [] .leaf (.seq [] .leaf .leaf))
def zlq:List V→M V:=ap2 zbex
theorem zbez:zu Tryz.prog zja (zlq):=kn2 (σ:=ovr [] noC) (hint:=zbey) (by kernel_rfl) zk fun _ _=>(by kernel_rfl)
noncomputable def zbe0 (v3:List V):M Out :=
 zb (za (zr .add (zc v3 5) (Value.int .i64 1))) fun x26 =>
 ret (.nxt [(zc v3 0),(zc v3 1),(zc v3 2),(zc v3 3),(zc v3 4),x26])
noncomputable def zbe1 (v2:List V):M Out :=
 zb (
 zb (
 zb (za (zq 2 (zc v2 3) (zc v2 5))) fun x12 =>
 zb (ldn 2 x12) fun x13 =>
 zb (newc [Value.int .i64 0,Value.int .i64 0]) fun x7 =>
 zb (stn 2 x7 x13) fun _ =>
 zb (ldn 2 x7) fun x15 =>
 zb (zey [x15]) fun x16 =>
 zb (zcz 1 1 (rep 1 [Value.nilIface]) [(0,1,x16)]) fun x17 =>
 zb (zc4 1 16 (zc v2 1) x17) fun x18 =>
 zhc fun h0 =>
 zb (ldn 2 x7) fun x20 =>
 zb (ldn 7 (zc v2 0)) fun x22 =>
 zb4 (zey [x20]) fun ha x21 h1 =>
 zb4 (invM Tryz.prog (ovr [(zg2,zlp),(zhr,znz),(zja,zlq),(zhp,zey)] noC) x21 "capstan/exec.kind" [x22]) fun ha_2 x23 h2 =>
 zb4 (zcz 1 1 (rep 1 [Value.int .i64 0]) [(0,1,x23)]) fun ha_3 x24 h3 =>
 zb4 (zc4 1 8 (zc v2 2) x24) fun ha_4 x25 h4 =>
 zfi (chk (ldn 7 (zc v2 0)) h1 x22) <|
 ret (.nxt [(zc v2 0),x18,x25,(zc v2 3),(zc v2 4),(zc v2 5)])
 ) fun o=>ret (zw 1 o)
 ) fun o=>nx o zbe0
noncomputable def z3i (vs:List V):M Out :=
 zb (za (zr .lss (zc vs 5) (zc vs 4))) fun x11 =>
 zb (
 zn x11 (
 ret (.nxt [(zc vs 0),(zc vs 1),(zc vs 2),(zc vs 3),(zc vs 4),(zc vs 5)])
 ) (
 ret (.brk 0 [(zc vs 1),(zc vs 2)])
 )
 ) fun o=>nx o zbe1
noncomputable def zbe2 (v4:List V):M Out :=
 ret (.ret [(zc v4 0),(zc v4 1)])
noncomputable def z6z (x0 x1:V):M V :=
 zb (
 zb (zdf x0) fun x2 =>
 zb (
 zb (za (zt x1)) fun x9 =>
 zb (
 zbf zbs z3i [x2,(Value.slice none 0 0),(Value.slice none 0 0),x1,x9,(Value.int .i64 0)]
 ) fun o=>ret (zw 0 o)
 ) fun o=>nx o zbe2
 ) fun o=>zbg o fun vs=>ret (zbe [(zc vs 0),(zc vs 1)])
def zbrr:Hint:=(.seq [] .leaf (.seq [4,5] (.seq [] .leaf (.blk (.loop [2,4,5,8,9,10] (.seq [] .leaf (.seq [2,4,5,8,9,10] (.cond .leaf .leaf) (.seq [2,4,5,8,9,10] (.blk (.seq [] .leaf (.seq [] .leaf (.reg [0,1,3,2,4,5,6,7] [])))) .leaf)))))) (.seq [] .leaf .leaf)))
noncomputable def zt1:List V→M V:=ap2 z6z
noncomputable def zbrs:zv:=ovr [(zg2,zlp),(zhr,znz),(zja,zlq),(zhp,zey)] noC
theorem zbrt:zu Tryz.prog zban (zt1):=kn2 (σ:=zbrs) (hint:=zbrr) (by kernel_rfl) (zj zbew (zj zbg5 (zj zbez (zj zbet zk)))) fun _ _=>(by kernel_rfl)
def z0n (v2:List V):M Out :=
 ret (.ret [(zc v2 0)])
def z0o (vs:List V):M Out :=
 zb (
 zb (za (capV (zc vs 0))) fun x10 =>
 zb (za (zt (zc vs 0))) fun x12 =>
 zb (za (zr .sub x10 x12)) fun x13 =>
 zb (za (zr .sub (zc vs 1) x13)) fun x14 =>
 zb (za (zr .gtr x14 (Value.int .i64 0))) fun x16 =>
 zn x16 (
 zb (za (capV (zc vs 0))) fun x19 =>
 zb (za (zgs 1 (zc vs 0) none (some x19))) fun x20 =>
 zb (appZ 1 8 [Value.int .i64 0] x20 x14) fun x22 =>
 zb (za (zt (zc vs 0))) fun x24 =>
 zb (za (zgs 1 x22 none (some x24))) fun x25 =>
 ret (.nxt [x25])
 ) (
 ret (.nxt [(zc vs 0)])
 )
 ) fun o=>nx o z0n
def z2e (x0 x1:V):M V :=
 zb (
 zb (
 zb (za (zr .lss x1 (Value.int .i64 0))) fun x6 =>
 zn x6 (
 zb (za (some (Value.iface zl7 (Value.string ⟨#[99,97,110,110,111,116,32,98,101,32,110,101,103,97,116,105,118,101]⟩)))) fun x7 =>
 zb (za ((none:Option V))) fun _ =>
 ret (.nxt [x0,x1])
 ) (
 ret (.nxt [x0,x1])
 )
 ) fun o=>nx o z0o
 ) fun o=>zbg o fun vs=>ret (zbe [(zc vs 0)])
def z2f:Hint:=(.seq [] .leaf (.seq [0,1] (.seq [] .leaf (.cond .leaf .leaf)) (.seq [0] (.seq [] .leaf (.seq [] .leaf (.cond .leaf .leaf))) (.seq [] .leaf .leaf))))
def zjw:List V→M V:=ap2 z2e
theorem z2g:zu Tryz.prog zn5 (zjw):=kn2 (σ:=ovr [] noC) (hint:=z2f) (by kernel_rfl) zk fun _ _=>(by kernel_rfl)
def zxl (v3:List V):M Out :=
 zb (za (zr .add (zc v3 4) (Value.int .i64 1))) fun x22 =>
 ret (.nxt [(zc v3 0),(zc v3 1),(zc v3 2),(zc v3 3),x22])
def zxm (v2:List V):M Out :=
 zb (
 zb (
 zb (za (zq 1 (zc v2 2) (zc v2 4))) fun x13 =>
 zb (zz x13) fun x14 =>
 zb (za (zt x14)) fun x17 =>
 zb (za (zr .add (zc v2 1) x17)) fun x18 =>
 zb (za (zr .lss x18 (Value.int .i64 0))) fun x20 =>
 zn x20 (
 zb (za (some (Value.iface zl7 (Value.string ⟨#[108,101,110,32,111,117,116,32,111,102,32,114,97,110,103,101]⟩)))) fun x21 =>
 zb (za ((none:Option V))) fun _ =>
 ret (.nxt [(zc v2 0),x18,(zc v2 2),(zc v2 3),(zc v2 4)])
 ) (
 ret (.nxt [(zc v2 0),x18,(zc v2 2),(zc v2 3),(zc v2 4)])
 )
 ) fun o=>ret (zw 1 o)
 ) fun o=>nx o zxl
def zxn (vs:List V):M Out :=
 zb (za (zr .lss (zc vs 4) (zc vs 3))) fun x12 =>
 zb (
 zn x12 (
 ret (.nxt [(zc vs 0),(zc vs 1),(zc vs 2),(zc vs 3),(zc vs 4)])
 ) (
 ret (.brk 0 [(zc vs 0),(zc vs 1)])
 )
 ) fun o=>nx o zxm
def zxo (v7:List V):M Out :=
 zb (za (zr .add (zc v7 3) (Value.int .i64 1))) fun x34 =>
 ret (.nxt [(zc v7 0),(zc v7 1),(zc v7 2),x34])
def zxp (v6:List V):M Out :=
 zb (
 zb (
 zb (za (zq 1 (zc v6 1) (zc v6 3))) fun x29 =>
 zb (zz x29) fun x30 =>
 zb (zc4 1 8 (zc v6 0) x30) fun x33 =>
 ret (.nxt [x33,(zc v6 1),(zc v6 2),(zc v6 3)])
 ) fun o=>ret (zw 3 o)
 ) fun o=>nx o zxo
def zxq (v5:List V):M Out :=
 zb (za (zr .lss (zc v5 3) (zc v5 2))) fun x28 =>
 zb (
 zn x28 (
 ret (.nxt [(zc v5 0),(zc v5 1),(zc v5 2),(zc v5 3)])
 ) (
 ret (.brk 2 [(zc v5 0)])
 )
 ) fun o=>nx o zxp
def zxr (v8:List V):M Out :=
 ret (.ret [(zc v8 0)])
def zxs (v4:List V):M Out :=
 zb (zjw [(Value.slice none 0 0),(zc v4 1)]) fun x24 =>
 zb (
 zb (za (zt (zc v4 0))) fun x26 =>
 zb (
 zbf zbs zxq [x24,(zc v4 0),x26,(Value.int .i64 0)]
 ) fun o=>ret (zw 2 o)
 ) fun o=>nx o zxr
def zy4 (x0:V):M V :=
 zb (
 zb (
 zb (za (zt x0)) fun x10 =>
 zb (
 zbf zbs zxn [x0,(Value.int .i64 0),x0,x10,(Value.int .i64 0)]
 ) fun o=>ret (zw 0 o)
 ) fun o=>nx o zxs
 ) fun o=>zbg o fun vs=>ret (zbe [(zc vs 0)])
def zy5:Hint:=(.seq [] .leaf (.seq [] .leaf (.seq [0,3] (.seq [] .leaf (.blk (.loop [0,3,9,10,11] (.seq [] .leaf (.seq [0,3,9,10,11] (.cond .leaf .leaf) (.seq [0,3,9,10,11] (.blk (.seq [] .leaf (.seq [] .leaf (.seq [] .leaf (.cond .leaf .leaf))))) .leaf)))))) (.seq [] .leaf (.seq [6] (.seq [] .leaf (.blk (.loop [6,25,26,27] (.seq [] .leaf (.seq [6,25,26,27] (.cond .leaf .leaf) (.seq [6,25,26,27] (.blk (.seq [] .leaf .leaf)) .leaf)))))) (.seq [] .leaf .leaf))))))
def zfe:List V→M V:=ap1 zy4
def zy6:zv:=ovr [(zn5,zjw)] noC
theorem zy7:zu Tryz.prog zlm (zfe):=kn1 (σ:=zy6) (hint:=zy5) (by kernel_rfl) (zj z2g zk) fun _=>(by kernel_rfl)
def zkb (S:zv) (v3:List V):M Out :=
 zb (za (zr .add (zc v3 3) (Value.int .i64 1))) fun x18 =>
 ret (.nxt [(zc v3 0),(zc v3 1),(zc v3 2),x18])
def zkc (S:zv) (v2:List V):M Out :=
 zb (
 zb (
 zb (za (zq 1 (zc v2 0) (zc v2 3))) fun x14 =>
 zb (zz x14) fun x15 =>
 zb (zn4 (ovr [] S) (zc v2 1) [x15]) fun x16 =>
 zn x16 (
 ret (.ret [(zc v2 3)])
 ) (
 ret (.nxt [(zc v2 0),(zc v2 1),(zc v2 2),(zc v2 3)])
 )
 ) fun o=>ret (zw 1 o)
 ) fun o=>nx o (zkb S)
def zgh (S:zv) (vs:List V):M Out :=
 zb (za (zr .lss (zc vs 3) (zc vs 2))) fun x9 =>
 zb (
 zn x9 (
 ret (.nxt [(zc vs 0),(zc vs 1),(zc vs 2),(zc vs 3)])
 ) (
 ret (.brk 0 [])
 )
 ) fun o=>nx o (zkc S)
def zkd (S:zv) (v4:List V):M Out :=
 ret (.ret [(Value.int .i64 (-1))])
def zgu (S:zv) (x0 x1:V):M V :=
 zb (
 zb (
 zb (za (zt x0)) fun x7 =>
 zb (
 zbf zbs (zgh S) [x0,x1,x7,(Value.int .i64 0)]
 ) fun o=>ret (zw 0 o)
 ) fun o=>nx o (zkd S)
 ) fun o=>zbg o fun vs=>ret (zbe [(zc vs 0)])
def zur:Hint:=(.seq [] .leaf (.seq [] (.seq [] .leaf (.blk (.loop [0,1,7,8] (.seq [] .leaf (.seq [0,1,7,8] (.cond .leaf .leaf) (.seq [0,1,7,8] (.blk (.seq [] .leaf (.seq [] .leaf (.cond (.seq [] .leaf .leaf) .leaf)))) .leaf)))))) (.seq [] .leaf .leaf)))
def zgv (S:zv):List V→M V:=ap2 (zgu S)
theorem zus {S:zv} (hS:zd9 Tryz.prog S):zu Tryz.prog zjo (zgv S):=kn2 (σ:=ovr [] S) (hint:=zur) (by kernel_rfl) (zeg hS) fun _ _=>(by kernel_rfl)
def zfc (S:zv) (x0 x1:V):M V :=
 zb (
 zb ((zgv S) [x0,x1]) fun x7 =>
 zb (za (zr .geq x7 (Value.int .i64 0))) fun x8 =>
 ret (.ret [x8])
 ) fun o=>zbg o fun vs=>ret (zbe [(zc vs 0)])
def zr3:Hint:=(.seq [] .leaf (.seq [] .leaf .leaf))
def zdj (S:zv):List V→M V:=ap2 (zfc S)
theorem zr4 {S:zv} (hS:zd9 Tryz.prog S):zu Tryz.prog zh6 (zdj S):=kn2 (σ:=ovr [(zjo,zgv S)] S) (hint:=zr3) (by kernel_rfl) (zj (zus (zeg hS)) (zeg hS)) fun _ _=>(by kernel_rfl)
def z3j (x0:V):M V :=
 zb (
 zb (za (zr .lss x0 (Value.int .i64 1))) fun x4 =>
 zb (gd x4 false (za (some x0))) fun x6 =>
 zb (gd x4 false (za (zr .gtr x6 (Value.int .i64 3)))) fun x7 =>
 zb (za (zy x4 (Value.bool true) x7)) fun x8 =>
 ret (.ret [x8])
 ) fun o=>zbg o fun vs=>ret (zbe [(zc vs 0)])
def zboy:Hint:=(.seq [] .leaf (.seq [] .leaf .leaf))
def zvy:List V→M V:=ap1 z3j
theorem zboz:zu Tryz.prog zqp (zvy):=kn1 (σ:=ovr [] noC) (hint:=zboy) (by kernel_rfl) zk fun _=>(by kernel_rfl)
def zy8 (vs:List V):M Out :=
 zb (zcz 1 0 (rep 0 [Value.int .i64 0]) []) fun x5 =>
 zb (zc4 1 8 x5 (zc vs 0)) fun x7 =>
 ret (.ret [x7])
def z0p (x0:V):M V :=
 zb (
 zb (
 zb (za (zcp false (zef .s x0))) fun x4 =>
 zn x4 (
 ret (.ret [(Value.slice none 0 0)])
 ) (
 ret (.nxt [x0])
 )
 ) fun o=>nx o zy8
 ) fun o=>zbg o fun vs=>ret (zbe [(zc vs 0)])
def z0q:Hint:=(.seq [] .leaf (.seq [0] (.seq [] .leaf (.cond (.seq [] .leaf .leaf) .leaf)) (.seq [] .leaf .leaf)))
def zf8:List V→M V:=ap1 z0p
theorem z0r:zu Tryz.prog zl3 (zf8):=kn1 (σ:=ovr [] noC) (hint:=z0q) (by kernel_rfl) zk fun _=>(by kernel_rfl)
def zbho (v2:List V):M Out :=
 zb (zf8 [(zc v2 0)]) fun x20 =>
 zb (zf8 [(zc v2 1)]) fun x22 =>
 zb (za (build [Value.slice none 0 0,Value.slice none 0 0,Value.pointer none,Value.string ⟨#[]⟩,Value.slice none 0 0,Value.slice none 0 0,Value.slice none 0 0,Value.slice none 0 0,Value.slice none 0 0,Value.slice none 0 0,Value.int .i64 0,Value.int .i64 0,Value.int .i64 0,Value.int .i64 0] [(0,1,x20),(1,1,x22)])) fun x23 =>
 zb (zdf x23) fun x24 =>
 ret (.ret [x24,(Value.int .i64 0)])
def zbhp (vs:List V):M Out :=
 zb (
 zb (zcz 1 2 (rep 2 [Value.slice none 0 0]) [(0,1,(zc vs 0)),(1,1,(zc vs 1))]) fun x16 =>
 zb (zfe [x16]) fun x17 =>
 zb ((zdj (ovr [(zqp,zvy)] noC)) [x17,(Value.func (.func zqp) #[] #[])]) fun x18 =>
 zn x18 (
 ret (.ret [(Value.pointer none),(Value.int .i64 40)])
 ) (
 ret (.nxt [(zc vs 0),(zc vs 1)])
 )
 ) fun o=>nx o zbho
def zbc6 (x0 x1:V):M V :=
 zb (
 zb (
 zb (za (zt x0)) fun x7 =>
 zb (za (zr .gtr x7 (Value.int .i64 32))) fun x8 =>
 zb (gd x8 false (za (some x1))) fun x10 =>
 zb (gd x8 false (za (zt x10))) fun x11 =>
 zb (gd x8 false (za (zr .gtr x11 (Value.int .i64 32)))) fun x12 =>
 zb (za (zy x8 (Value.bool true) x12)) fun x13 =>
 zn x13 (
 ret (.ret [(Value.pointer none),(Value.int .i64 2)])
 ) (
 ret (.nxt [x0,x1])
 )
 ) fun o=>nx o zbhp
 ) fun o=>zbg o fun vs=>ret (zbe [(zc vs 0),(zc vs 1)])
def zbuf:Hint:=(.seq [] .leaf (.seq [0,1] (.seq [] .leaf (.cond (.seq [] .leaf .leaf) .leaf)) (.seq [0,1] (.seq [] .leaf (.cond (.seq [] .leaf .leaf) .leaf)) (.seq [] .leaf .leaf))))
def z3k:List V→M V:=ap2 zbc6
def zbug:zv:=ovr [(zlm,zfe),(zh6,zdj (ovr [(zqp,zvy)] noC)),(zl3,zf8)] noC
theorem zbuh:zu Tryz.prog zben (z3k):=kn2 (σ:=zbug) (hint:=zbuf) (by kernel_rfl) (zj zy7 (zj (zr4 (zj zboz zk)) (zj z0r zk))) fun _ _=>(by kernel_rfl)
noncomputable def zbhq (v4:List V):M Out :=
 zb (za (zbo (zc v4 1))) fun x79 =>
 zb (za (ze 2 x79)) fun x80 =>
 zb (zz x80) fun x81 =>
 zb (za (build [Value.pointer none,Value.slice none 0 0,Value.slice none 0 0] [(0,1,(zc v4 4)),(1,1,(zc v4 2)),(2,1,(zc v4 3))])) fun x85 =>
 zb (zcz 3 1 (rep 1 [Value.pointer none,Value.slice none 0 0,Value.slice none 0 0]) [(0,3,x85)]) fun x86 =>
 zb (zc4 3 56 x81 x86) fun x87 =>
 zb (za (zbo (zc v4 1))) fun x88 =>
 zb (za (ze 2 x88)) fun x89 =>
 zb (st1 x89 x87) fun _ =>
 ret (.nxt [(zc v4 0),(zc v4 1),(zc v4 5),(zc v4 6),(zc v4 7)])
noncomputable def zbhr (v5:List V):M Out :=
 zb (za (zr .add (zc v5 4) (Value.int .i64 1))) fun x90 =>
 ret (.nxt [(zc v5 0),(zc v5 1),(zc v5 2),(zc v5 3),x90])
noncomputable def zbhs (v3:List V):M Out :=
 zb (
 zb (
 zb (za (zq 2 (zc v3 2) (zc v3 4))) fun x52 =>
 zb (ldn 2 x52) fun x53 =>
 zb (newc [Value.slice none 0 0,Value.slice none 0 0]) fun x7 =>
 zb (stn 2 x7 x53) fun _ =>
 zb (ldn 7 (zc v3 0)) fun x55 =>
 zb (za (ze 0 x7)) fun x56 =>
 zb (zz x56) fun x57 =>
 zb (zt1 [x55,x57]) fun x58 =>
 zb (za (ext 0 x58)) fun x59 =>
 zb (za (ext 1 x58)) fun x60 =>
 zb (ldn 7 (zc v3 0)) fun x62 =>
 zb (za (ze 1 x7)) fun x63 =>
 zb (zz x63) fun x64 =>
 zb (zt1 [x62,x64]) fun x65 =>
 zb (za (ext 0 x65)) fun x66 =>
 zb (za (ext 1 x65)) fun x67 =>
 zb (z3k [x60,x67]) fun x71 =>
 zb (za (ext 0 x71)) fun x72 =>
 zb (za (ext 1 x71)) fun x73 =>
 zb (
 zb (za (zr .neq x73 (Value.int .i64 0))) fun x75 =>
 zn x75 (
 ret (.ret [(Value.pointer none),x73])
 ) (
 ret (.nxt [(zc v3 0),(zc v3 1),x59,x66,x72,(zc v3 2),(zc v3 3),(zc v3 4)])
 )
 ) fun o=>nx o zbhq
 ) fun o=>ret (zw 1 o)
 ) fun o=>nx o zbhr
noncomputable def z60 (v2:List V):M Out :=
 zb (za (zr .lss (zc v2 4) (zc v2 3))) fun x51 =>
 zb (
 zn x51 (
 ret (.nxt [(zc v2 0),(zc v2 1),(zc v2 2),(zc v2 3),(zc v2 4)])
 ) (
 ret (.brk 0 [(zc v2 1)])
 )
 ) fun o=>nx o zbhs
noncomputable def zbht (v6:List V):M Out :=
 ret (.ret [(zc v6 0),(Value.int .i64 0)])
noncomputable def zbhu (vs:List V):M Out :=
 zhc fun h0 =>
 zb (za (ze 3 (zc vs 0))) fun x19 =>
 zb (za (ze 1 x19)) fun x20 =>
 zb (za (ze 6 (zc vs 0))) fun x23 =>
 zb (zz x20) fun x21 =>
 zb (zz x23) fun x24 =>
 zb4 (zdp [x21]) fun ha x22 h1 =>
 zb (za (build [Value.pointer none,Value.pointer none,Value.slice none 0 0,Value.slice none 0 0,Value.int .i64 0,Value.int .i64 0] [(3,1,x22),(4,1,x24)])) fun x25 =>
 zb4 (zdf x25) fun ha_2 x26 h2 =>
 zfi (chk (zz x23) h1 x24) <|
 zb (za (ze 0 (zc vs 0))) fun x29 =>
 zb (zz x29) fun x30 =>
 zb (za (ze 1 (zc vs 0))) fun x31 =>
 zb (zz x31) fun x32 =>
 zb (zvx [x30,x32]) fun x33 =>
 zb (za (ext 0 x33)) fun x34 =>
 zb (za (ext 1 x33)) fun x35 =>
 zb (za (zbo x26)) fun x36 =>
 zb (za (ze 0 x36)) fun x37 =>
 zb (st1 x37 x34) fun _ =>
 zb (za (ze 2 (zc vs 0))) fun x40 =>
 zb (zz x40) fun x41 =>
 zb (zzh [x41]) fun x42 =>
 zb (za (ext 0 x42)) fun x43 =>
 zb (za (ext 1 x42)) fun x44 =>
 zb (za (zbo x26)) fun x45 =>
 zb (za (ze 1 x45)) fun x46 =>
 zb (st1 x46 x43) fun _ =>
 zb (
 zb (za (ze 5 (zc vs 0))) fun x47 =>
 zb (zz x47) fun x48 =>
 zb (za (zt x48)) fun x49 =>
 zb (
 zbf zbs z60 [(zc vs 0),x26,x48,x49,(Value.int .i64 0)]
 ) fun o=>ret (zw 0 o)
 ) fun o=>nx o zbht
noncomputable def zbc7 (x0:V):M V :=
 zb (
 zb (zdf x0) fun x1 =>
 zb (
 zb (ldn 7 x1) fun x14 =>
 zb (zvw [x14]) fun x15 =>
 zb (za (zr .neq x15 (Value.int .i64 0))) fun x17 =>
 zn x17 (
 ret (.ret [(Value.pointer none),x15])
 ) (
 ret (.nxt [x1])
 )
 ) fun o=>nx o zbhu
 ) fun o=>zbg o fun vs=>ret (zbe [(zc vs 0),(zc vs 1)])
def zbui:Hint:=(.seq [] .leaf (.seq [1] (.seq [] .leaf (.seq [] .leaf (.cond (.seq [] .leaf .leaf) .leaf))) (.seq [] (.reg [0,1,4,2,5,3,6,7,8] []) (.seq [] .leaf (.seq [] .leaf (.seq [5] (.seq [] .leaf (.blk (.loop [1,5,48,49,50] (.seq [] .leaf (.seq [1,5,48,49,50] (.cond .leaf .leaf) (.seq [1,5,48,49,50] (.blk (.seq [] .leaf (.seq [] .leaf (.seq [] .leaf (.seq [] .leaf (.seq [1,5,8,10,12,48,49,50] (.seq [] .leaf (.cond (.seq [] .leaf .leaf) .leaf)) .leaf)))))) .leaf)))))) (.seq [] .leaf .leaf)))))))
noncomputable def z3l:List V→M V:=ap1 zbc7
noncomputable def zbuj:zv:=ovr [(z58,zvw),(zfk,zdp),(z59,zvx),(zbam,zzh),(zban,zt1),(zben,z3k)] noC
theorem zbuk:zu Tryz.prog zbel (z3l):=kn1 (σ:=zbuj) (hint:=zbui) (by kernel_rfl) (zj zbou (zj zmx (zj zbox (zj zbrq (zj zbrt (zj zbuh zk)))))) fun _=>(by kernel_rfl)
def zxt (G_strings_IndexRune:List V→M V) (x0:V):M V :=
 zb (
 zb (zdf x0) fun x1 =>
 zb (za (ze 0 x1)) fun x3 =>
 zb (zz x3) fun x4 =>
 zb (za (zr .neq x4 (Value.string ⟨#[]⟩))) fun x5 =>
 zb (gd x5 true (za (ze 0 x1))) fun x7 =>
 zb (gd x5 true (zz x7)) fun x8 =>
 zb (gd x5 true (za (zc0 x8))) fun x9 =>
 zb (gd x5 true (za (zr .leq x9 (Value.int .i64 24)))) fun x10 =>
 zb (za (zy x5 x10 (Value.bool false))) fun x11 =>
 zb (gd x11 true (za (ze 0 x1))) fun x13 =>
 zb (gd x11 true (zz x13)) fun x14 =>
 zb (gd x11 true ((zgf G_strings_IndexRune) [x14,(Value.string ⟨#[97,98,99,100,101,102,103,104,105,106,107,108,109,110,111,112,113,114,115,116,117,118,119,120,121,122,48,49,50,51,52,53,54,55,56,57]⟩)])) fun x15 =>
 zb (gd x11 true (za (zr .eql x15 (Value.string ⟨#[]⟩)))) fun x16 =>
 zb (za (zy x11 x16 (Value.bool false))) fun x17 =>
 zb (gd x17 true (za (ze 1 x1))) fun x19 =>
 zb (gd x17 true (zz x19)) fun x20 =>
 zb (gd x17 true (za (zc0 x20))) fun x21 =>
 zb (gd x17 true (za (zr .geq x21 (Value.int .i64 16)))) fun x22 =>
 zb (za (zy x17 x22 (Value.bool false))) fun x23 =>
 zb (gd x23 true (za (ze 1 x1))) fun x25 =>
 zb (gd x23 true (zz x25)) fun x26 =>
 zb (gd x23 true (za (zc0 x26))) fun x27 =>
 zb (gd x23 true (za (zr .leq x27 (Value.int .i64 64)))) fun x28 =>
 zb (za (zy x23 x28 (Value.bool false))) fun x29 =>
 ret (.ret [x29])
 ) fun o=>zbg o fun vs=>ret (zbe [(zc vs 0)])
def zbjx:Hint:=(.seq [] .leaf (.seq [] .leaf .leaf))
def zq8 (G_strings_IndexRune:List V→M V):List V→M V:=ap1 (zxt G_strings_IndexRune)
theorem zbjy {G_strings_IndexRune:List V→M V} (k_strings_IndexRune:zu Tryz.prog zx G_strings_IndexRune):zu Tryz.prog z11 (zq8 G_strings_IndexRune):=kn1 (σ:=ovr [(znn,zgf G_strings_IndexRune)] noC) (hint:=zbjx) (by kernel_rfl) (zj (zxe k_strings_IndexRune) zk) fun _=>(by kernel_rfl)
def zxu (x0 x1:V):M V :=
 zb (
 zb (zdf x0) fun x2 =>
 zb (za (ze 0 x2)) fun x4 =>
 zb (zz x4) fun x5 =>
 zb (zz x1) fun x6 =>
 zb (za (zr .eql x5 x6)) fun x7 =>
 ret (.ret [x7])
 ) fun o=>zbg o fun vs=>ret (zbe [(zc vs 0)])
def zbjz:Hint:=(.seq [] .leaf (.seq [] .leaf .leaf))
def zq9:List V→M V:=ap2 zxu
theorem zbj0:zu Tryz.prog zno (zq9):=kn2 (σ:=ovr [] noC) (hint:=zbjz) (by kernel_rfl) zk fun _ _=>(by kernel_rfl)
def zf2 (S:zv) (v3:List V):M Out :=
 zb (za (zr .add (zc v3 3) (Value.int .i64 1))) fun x18 =>
 ret (.nxt [(zc v3 0),(zc v3 1),(zc v3 2),x18])
def zf3 (S:zv) (v2:List V):M Out :=
 zb (
 zb (
 zb (za (zq 3 (zc v2 0) (zc v2 3))) fun x14 =>
 zb (ldn 3 x14) fun x15 =>
 zb (zn4 (ovr [] S) (zc v2 1) [x15]) fun x16 =>
 zn x16 (
 ret (.ret [(zc v2 3)])
 ) (
 ret (.nxt [(zc v2 0),(zc v2 1),(zc v2 2),(zc v2 3)])
 )
 ) fun o=>ret (zw 1 o)
 ) fun o=>nx o (zf2 S)
def zdd (S:zv) (vs:List V):M Out :=
 zb (za (zr .lss (zc vs 3) (zc vs 2))) fun x9 =>
 zb (
 zn x9 (
 ret (.nxt [(zc vs 0),(zc vs 1),(zc vs 2),(zc vs 3)])
 ) (
 ret (.brk 0 [])
 )
 ) fun o=>nx o (zf3 S)
def zf4 (S:zv) (v4:List V):M Out :=
 ret (.ret [(Value.int .i64 (-1))])
def zdq (S:zv) (x0 x1:V):M V :=
 zb (
 zb (
 zb (za (zt x0)) fun x7 =>
 zb (
 zbf zbs (zdd S) [x0,x1,x7,(Value.int .i64 0)]
 ) fun o=>ret (zw 0 o)
 ) fun o=>nx o (zf4 S)
 ) fun o=>zbg o fun vs=>ret (zbe [(zc vs 0)])
def zmy:Hint:=(.seq [] .leaf (.seq [] (.seq [] .leaf (.blk (.loop [0,1,7,8] (.seq [] .leaf (.seq [0,1,7,8] (.cond .leaf .leaf) (.seq [0,1,7,8] (.blk (.seq [] .leaf (.seq [] .leaf (.cond (.seq [] .leaf .leaf) .leaf)))) .leaf)))))) (.seq [] .leaf .leaf)))
def zcm (S:zv):List V→M V:=ap2 (zdq S)
theorem zmz {S:zv} (hS:zd9 Tryz.prog S):zu Tryz.prog zfm (zcm S):=kn2 (σ:=ovr [] S) (hint:=zmy) (by kernel_rfl) (zeg hS) fun _ _=>(by kernel_rfl)
def zbbj (vs:List V):M Out :=
 ret (.ret [(zc vs 0),(Value.int .i64 0)])
def z3m (x0 x1:V):M V :=
 zb (
 zb (zdf x1) fun x3 =>
 zb (za (some (Value.func (.func zno) #[] #[x3]))) fun x8 =>
 zb ((zcm (ovr [(zno,zq9)] noC)) [x0,x8]) fun x9 =>
 zb (
 zb (za (zr .lss x9 (Value.int .i64 0))) fun x11 =>
 zn x11 (
 ret (.ret [(Value.int .i64 0),(Value.int .i64 90)])
 ) (
 ret (.nxt [x9])
 )
 ) fun o=>nx o zbbj
 ) fun o=>zbg o fun vs=>ret (zbe [(zc vs 0),(zc vs 1)])
def zbo0:Hint:=(.seq [] .leaf (.seq [] .leaf (.seq [6] (.seq [] .leaf (.cond (.seq [] .leaf .leaf) .leaf)) (.seq [] .leaf .leaf))))
def zvz:List V→M V:=ap2 z3m
def zbo1:zv:=ovr [(zfm,zcm (ovr [(zno,zq9)] noC))] noC
theorem zbo2:zu Tryz.prog z6e (zvz):=kn2 (σ:=zbo1) (hint:=zbo0) (by kernel_rfl) (zj (zmz (zj zbj0 zk)) zk) fun _ _=>(by kernel_rfl)
def zoa (v3:List V):M Out :=
 zb (za (zr .add (zc v3 3) (Value.int .i64 1))) fun x18 =>
 ret (.nxt [(zc v3 0),(zc v3 1),(zc v3 2),x18])
def zid (v2:List V):M Out :=
 zb (
 zb (
 zb (za (zq 1 (zc v2 0) (zc v2 3))) fun x14 =>
 zb (zz x14) fun x15 =>
 zb (za (zr .eql (zc v2 1) x15)) fun x16 =>
 zn x16 (
 ret (.ret [(zc v2 3)])
 ) (
 ret (.nxt [(zc v2 0),(zc v2 1),(zc v2 2),(zc v2 3)])
 )
 ) fun o=>ret (zw 1 o)
 ) fun o=>nx o zoa
def zff (vs:List V):M Out :=
 zb (za (zr .lss (zc vs 3) (zc vs 2))) fun x9 =>
 zb (
 zn x9 (
 ret (.nxt [(zc vs 0),(zc vs 1),(zc vs 2),(zc vs 3)])
 ) (
 ret (.brk 0 [])
 )
 ) fun o=>nx o zid
def zob (v4:List V):M Out :=
 ret (.ret [(Value.int .i64 (-1))])
def ziz (x0 x1:V):M V :=
 zb (
 zb (
 zb (za (zt x0)) fun x7 =>
 zb (
 zbf zbs zff [x0,x1,x7,(Value.int .i64 0)]
 ) fun o=>ret (zw 0 o)
 ) fun o=>nx o zob
 ) fun o=>zbg o fun vs=>ret (zbe [(zc vs 0)])
def z0s:Hint:=(.seq [] .leaf (.seq [] (.seq [] .leaf (.blk (.loop [0,1,7,8] (.seq [] .leaf (.seq [0,1,7,8] (.cond .leaf .leaf) (.seq [0,1,7,8] (.blk (.seq [] .leaf (.seq [] .leaf (.cond (.seq [] .leaf .leaf) .leaf)))) .leaf)))))) (.seq [] .leaf .leaf)))
def zf9:List V→M V:=ap2 ziz
theorem z0t:zu Tryz.prog zl5 (zf9):=kn2 (σ:=ovr [] noC) (hint:=z0s) (by kernel_rfl) zk fun _ _=>(by kernel_rfl)
def zg9 (x0 x1:V):M V :=
 zb (
 zb (zf9 [x0,x1]) fun x7 =>
 zb (za (zr .geq x7 (Value.int .i64 0))) fun x8 =>
 ret (.ret [x8])
 ) fun o=>zbg o fun vs=>ret (zbe [(zc vs 0)])
def zv0:Hint:=(.seq [] .leaf (.seq [] .leaf .leaf))
def zem:List V→M V:=ap2 zg9
def zv1:zv:=ovr [(zl5,zf9)] noC
theorem zv2:zu Tryz.prog zka (zem):=kn2 (σ:=zv1) (hint:=zv0) (by kernel_rfl) (zj z0t zk) fun _ _=>(by kernel_rfl)
def z61 (v3:List V):M Out :=
 zb (gd (zc v3 2) false (za (some (zc v3 1)))) fun x37 =>
 zb (gd (zc v3 2) false (za (ze 0 (zc v3 3)))) fun x38 =>
 zb (gd (zc v3 2) false (zz x38)) fun x39 =>
 zb (gd (zc v3 2) false (zem [x37,x39])) fun x40 =>
 zb (za (zy (zc v3 2) (Value.bool true) x40)) fun x41 =>
 zb (za (ze 0 (zc v3 3))) fun x43 =>
 zb (zz x43) fun x44 =>
 zb (zcz 1 1 (rep 1 [Value.int .i64 0]) [(0,1,x44)]) fun x45 =>
 zb (zc4 1 8 (zc v3 1) x45) fun x46 =>
 ret (.nxt [(zc v3 0),x46,x41,(zc v3 4),(zc v3 5),(zc v3 6)])
def zxv (v4:List V):M Out :=
 zb (za (zr .add (zc v4 5) (Value.int .i64 1))) fun x47 =>
 ret (.nxt [(zc v4 0),(zc v4 1),(zc v4 2),(zc v4 3),(zc v4 4),x47])
def z62 (v2:List V):M Out :=
 zb (
 zb (
 zb (za (zq 2 (zc v2 3) (zc v2 5))) fun x14 =>
 zb (ldn 2 x14) fun x15 =>
 zb (newc [Value.int .i64 0,Value.int .i64 0]) fun x8 =>
 zb (stn 2 x8 x15) fun _ =>
 zb (
 zb (za (ze 0 x8)) fun x16 =>
 zb (zz x16) fun x17 =>
 zb (za (zr .lss x17 (Value.int .i64 0))) fun x18 =>
 zb (gd x18 false (za (ze 0 x8))) fun x20 =>
 zb (gd x18 false (zz x20)) fun x21 =>
 zb (gd x18 false (za (some (zc v2 0)))) fun x22 =>
 zb (gd x18 false (za (zr .geq x21 x22))) fun x23 =>
 zb (za (zy x18 (Value.bool true) x23)) fun x24 =>
 zb (gd x24 false (za (ze 1 x8))) fun x26 =>
 zb (gd x24 false (zz x26)) fun x27 =>
 zb (gd x24 false (za (zr .lss x27 (Value.int .i64 1)))) fun x28 =>
 zb (za (zy x24 (Value.bool true) x28)) fun x29 =>
 zb (gd x29 false (za (ze 1 x8))) fun x31 =>
 zb (gd x29 false (zz x31)) fun x32 =>
 zb (gd x29 false (za (zr .gtr x32 (Value.int .i64 4)))) fun x33 =>
 zb (za (zy x29 (Value.bool true) x33)) fun x34 =>
 zn x34 (
 ret (.ret [(Value.int .i64 1)])
 ) (
 ret (.nxt [(zc v2 0),(zc v2 1),(zc v2 2),x8,(zc v2 3),(zc v2 4),(zc v2 5)])
 )
 ) fun o=>nx o z61
 ) fun o=>ret (zw 1 o)
 ) fun o=>nx o zxv
def zra (vs:List V):M Out :=
 zb (za (zr .lss (zc vs 5) (zc vs 4))) fun x13 =>
 zb (
 zn x13 (
 ret (.nxt [(zc vs 0),(zc vs 1),(zc vs 2),(zc vs 3),(zc vs 4),(zc vs 5)])
 ) (
 ret (.brk 0 [(zc vs 2)])
 )
 ) fun o=>nx o z62
def z63 (v6:List V):M Out :=
 ret (.ret [(Value.int .i64 0)])
def zxw (v5:List V):M Out :=
 zb (
 zn (zc v5 0) (
 ret (.ret [(Value.int .i64 240)])
 ) (
 ret (.nxt [])
 )
 ) fun o=>nx o z63
def z0u (x0 x1:V):M V :=
 zb (
 zb (zdf x0) fun x2 =>
 zb (
 zb (za (ze 2 x2)) fun x9 =>
 zb (zz x9) fun x10 =>
 zb (za (zt x10)) fun x11 =>
 zb (
 zbf zbs zra [x1,(Value.slice none 0 0),(Value.bool false),x10,x11,(Value.int .i64 0)]
 ) fun o=>ret (zw 0 o)
 ) fun o=>nx o zxw
 ) fun o=>zbg o fun vs=>ret (zbe [(zc vs 0)])
def zbld:Hint:=(.seq [] .leaf (.seq [] .leaf (.seq [] .leaf (.seq [6] (.seq [] .leaf (.blk (.loop [1,5,6,10,11,12] (.seq [] .leaf (.seq [1,5,6,10,11,12] (.cond .leaf .leaf) (.seq [1,5,6,10,11,12] (.blk (.seq [] .leaf (.seq [1,5,6,8,10,11,12] (.seq [] .leaf (.cond (.seq [] .leaf .leaf) .leaf)) (.seq [] .leaf .leaf)))) .leaf)))))) (.seq [] (.seq [] .leaf (.cond (.seq [] .leaf .leaf) .leaf)) (.seq [] .leaf .leaf))))))
def zs5:List V→M V:=ap2 z0u
def zble:zv:=ovr [(zka,zem)] noC
theorem zblf:zu Tryz.prog z4l (zs5):=kn2 (σ:=zble) (hint:=zbld) (by kernel_rfl) (zj zv2 zk) fun _ _=>(by kernel_rfl)
def z64 (G_strings_IndexRune:List V→M V) (v5:List V):M Out :=
 zb (ldn 3 (zc v5 3)) fun x45 =>
 zb (zs5 [x45,(zc v5 1)]) fun x47 =>
 zb (za (zr .neq x47 (Value.int .i64 0))) fun x49 =>
 zn x49 (
 ret (.ret [(zc v5 2),x47])
 ) (
 ret (.nxt [(zc v5 0),(zc v5 1),(zc v5 4),(zc v5 5),(zc v5 6)])
 )
def z65 (G_strings_IndexRune:List V→M V) (v4:List V):M Out :=
 zb (
 zb (za (zgs 3 (zc v4 0) none (some (zc v4 2)))) fun x36 =>
 zb (za (ze 0 (zc v4 3))) fun x37 =>
 zb (zz x37) fun x38 =>
 zb (zvz [x36,x38]) fun x39 =>
 zb (za (ext 0 x39)) fun x40 =>
 zb (za (ext 1 x39)) fun x41 =>
 zb (za (zr .eql x41 (Value.int .i64 0))) fun x43 =>
 zn x43 (
 ret (.ret [(zc v4 2),(Value.int .i64 6)])
 ) (
 ret (.nxt [(zc v4 0),(zc v4 1),(zc v4 2),(zc v4 3),(zc v4 4),(zc v4 5),(zc v4 6)])
 )
 ) fun o=>nx o (z64 G_strings_IndexRune)
def z66 (G_strings_IndexRune:List V→M V) (v6:List V):M Out :=
 zb (za (zr .add (zc v6 4) (Value.int .i64 1))) fun x52 =>
 ret (.nxt [(zc v6 0),(zc v6 1),(zc v6 2),(zc v6 3),x52])
def z67 (G_strings_IndexRune:List V→M V) (v3:List V):M Out :=
 zb (
 zb (
 zb (za (zq 3 (zc v3 2) (zc v3 4))) fun x27 =>
 zb (ldn 3 x27) fun x28 =>
 zb (newc [Value.string ⟨#[]⟩,Value.string ⟨#[]⟩,Value.slice none 0 0]) fun x7 =>
 zb (stn 3 x7 x28) fun _ =>
 zb (
 zb (ldn 3 x7) fun x29 =>
 zb ((zq8 G_strings_IndexRune) [x29]) fun x30 =>
 zb (za (un .not x30)) fun x31 =>
 zn x31 (
 ret (.ret [(zc v3 4),(Value.int .i64 3)])
 ) (
 ret (.nxt [(zc v3 0),(zc v3 1),(zc v3 4),x7,(zc v3 2),(zc v3 3),(zc v3 4)])
 )
 ) fun o=>nx o (z65 G_strings_IndexRune)
 ) fun o=>ret (zw 2 o)
 ) fun o=>nx o (z66 G_strings_IndexRune)
def zxx (G_strings_IndexRune:List V→M V) (v2:List V):M Out :=
 zb (za (zr .lss (zc v2 4) (zc v2 3))) fun x25 =>
 zb (
 zn x25 (
 ret (.nxt [(zc v2 0),(zc v2 1),(zc v2 2),(zc v2 3),(zc v2 4)])
 ) (
 ret (.brk 1 [])
 )
 ) fun o=>nx o (z67 G_strings_IndexRune)
def z68 (G_strings_IndexRune:List V→M V) (v7:List V):M Out :=
 ret (.ret [(Value.int .i64 0),(Value.int .i64 0)])
def z69 (G_strings_IndexRune:List V→M V) (vs:List V):M Out :=
 zb (
 zb (za (zt (zc vs 0))) fun x23 =>
 zb (
 zbf zbs (zxx G_strings_IndexRune) [(zc vs 0),(zc vs 1),(zc vs 0),x23,(Value.int .i64 0)]
 ) fun o=>ret (zw 1 o)
 ) fun o=>nx o (z68 G_strings_IndexRune)
def zk7 (G_strings_IndexRune:List V→M V) (x0 x1:V):M V :=
 zb (
 zb (
 zb (
 zb (za (zr .lss x1 (Value.int .i64 1))) fun x13 =>
 zb (gd x13 false (za (some x1))) fun x15 =>
 zb (gd x13 false (za (zr .gtr x15 (Value.int .i64 8)))) fun x16 =>
 zb (za (zy x13 (Value.bool true) x16)) fun x17 =>
 zn x17 (
 ret (.ret [(Value.int .i64 (-1)),(Value.int .i64 1)])
 ) (
 zb (za (zt x0)) fun x20 =>
 zb (za (zr .gtr x20 (Value.int .i64 8))) fun x21 =>
 zn x21 (
 ret (.ret [(Value.int .i64 (-1)),(Value.int .i64 2)])
 ) (
 ret (.nxt [x0,x1])
 )
 )
 ) fun o=>ret (zw 0 o)
 ) fun o=>nx o (z69 G_strings_IndexRune)
 ) fun o=>zbg o fun vs=>ret (zbe [(zc vs 0),(zc vs 1)])
def zblg:Hint:=(.seq [] .leaf (.seq [0,1] (.blk (.seq [] .leaf (.cond (.seq [] .leaf .leaf) (.seq [] .leaf (.cond (.seq [] .leaf .leaf) .leaf))))) (.seq [] (.seq [] .leaf (.blk (.loop [0,1,22,23,24] (.seq [] .leaf (.seq [0,1,22,23,24] (.cond .leaf .leaf) (.seq [0,1,22,23,24] (.blk (.seq [] .leaf (.seq [0,1,6,7,22,23,24] (.seq [] .leaf (.cond (.seq [] .leaf .leaf) .leaf)) (.seq [0,1,6,7,22,23,24] (.seq [] (.reg [0,1,2,3,4,5,6,7,8,9,10] []) (.seq [] .leaf (.cond (.seq [] .leaf .leaf) .leaf))) (.seq [] .leaf (.seq [] .leaf (.cond (.seq [] .leaf .leaf) .leaf))))))) .leaf)))))) (.seq [] .leaf .leaf))))
def zs6 (G_strings_IndexRune:List V→M V):List V→M V:=ap2 (zk7 G_strings_IndexRune)
theorem zblh {G_strings_IndexRune:List V→M V} (k_strings_IndexRune:zu Tryz.prog zx G_strings_IndexRune):zu Tryz.prog z4g (zs6 G_strings_IndexRune):=kn2 (σ:=ovr [(z11,zq8 G_strings_IndexRune),(z6e,zvz),(z4l,zs5)] noC) (hint:=zblg) (by kernel_rfl) (zj (zbjy k_strings_IndexRune) (zj zbo2 (zj zblf zk))) fun _ _=>(by kernel_rfl)
def zox (vs:List V):M Out :=
 zb (zcz 3 0 (rep 0 [Value.string ⟨#[]⟩,Value.string ⟨#[]⟩,Value.slice none 0 0]) []) fun x5 =>
 zb (zc4 3 56 x5 (zc vs 0)) fun x7 =>
 ret (.ret [x7])
def zpl (x0:V):M V :=
 zb (
 zb (
 zb (za (zcp false (zef .s x0))) fun x4 =>
 zn x4 (
 ret (.ret [(Value.slice none 0 0)])
 ) (
 ret (.nxt [x0])
 )
 ) fun o=>nx o zox
 ) fun o=>zbg o fun vs=>ret (zbe [(zc vs 0)])
def zpm:Hint:=(.seq [] .leaf (.seq [0] (.seq [] .leaf (.cond (.seq [] .leaf .leaf) .leaf)) (.seq [] .leaf .leaf)))
def zed:List V→M V:=ap1 zpl
theorem zpn:zu Tryz.prog zgz (zed):=kn1 (σ:=ovr [] noC) (hint:=zpm) (by kernel_rfl) zk fun _=>(by kernel_rfl)
def zbhv (G_strings_IndexRune:List V→M V) (v2:List V):M Out :=
 zb (zed [(zc v2 0)]) fun x26 =>
 zb (za (build [Value.slice none 0 0,Value.int .i64 0,Value.int .i64 0,Value.int .i64 0,Value.slice none 0 0,Value.slice none 0 0,Value.int .i64 0,Value.slice none 0 0,Value.slice none 0 0] [(0,1,x26),(1,1,(zc v2 1))])) fun x28 =>
 zb (zdf x28) fun x29 =>
 ret (.ret [x29,(Value.int .i64 0)])
def zzi (G_strings_IndexRune:List V→M V) (vs:List V):M Out :=
 zb (
 zb (za (zr .lss (zc vs 1) (Value.int .i64 1))) fun x20 =>
 zb (gd x20 false (za (some (zc vs 1)))) fun x22 =>
 zb (gd x20 false (za (zr .gtr x22 (Value.int .i64 100000)))) fun x23 =>
 zb (za (zy x20 (Value.bool true) x23)) fun x24 =>
 zn x24 (
 ret (.ret [(Value.pointer none),(Value.int .i64 1)])
 ) (
 ret (.nxt [(zc vs 0),(zc vs 1)])
 )
 ) fun o=>nx o (zbhv G_strings_IndexRune)
def zbc8 (G_strings_IndexRune:List V→M V) (x0 x1 x2:V):M V :=
 zb (
 zb (
 zb ((zs6 G_strings_IndexRune) [x0,x1]) fun x13 =>
 zb (za (ext 0 x13)) fun x14 =>
 zb (za (ext 1 x13)) fun x15 =>
 zb (za (zr .neq x15 (Value.int .i64 0))) fun x17 =>
 zn x17 (
 ret (.ret [(Value.pointer none),x15])
 ) (
 ret (.nxt [x0,x2])
 )
 ) fun o=>nx o (zzi G_strings_IndexRune)
 ) fun o=>zbg o fun vs=>ret (zbe [(zc vs 0),(zc vs 1)])
def zbul:Hint:=(.seq [] .leaf (.seq [0,2] (.seq [] .leaf (.seq [] .leaf (.cond (.seq [] .leaf .leaf) .leaf))) (.seq [0,2] (.seq [] .leaf (.cond (.seq [] .leaf .leaf) .leaf)) (.seq [] .leaf .leaf))))
def z3n (G_strings_IndexRune:List V→M V):List V→M V:=ap3 (zbc8 G_strings_IndexRune)
theorem zbum {G_strings_IndexRune:List V→M V} (k_strings_IndexRune:zu Tryz.prog zx G_strings_IndexRune):zu Tryz.prog zbem (z3n G_strings_IndexRune):=kn3 (σ:=ovr [(z4g,zs6 G_strings_IndexRune),(zgz,zed)] noC) (hint:=zbul) (by kernel_rfl) (zj (zblh k_strings_IndexRune) (zj zpn zk)) fun _ _ _=>(by kernel_rfl)
def zn0 (vs:List V):M Out :=
 zb (zcz 3 0 (rep 0 [Value.int .i64 0,Value.int .i64 0,Value.bool false]) []) fun x5 =>
 zb (zc4 3 24 x5 (zc vs 0)) fun x7 =>
 ret (.ret [x7])
def zoi (x0:V):M V :=
 zb (
 zb (
 zb (za (zcp false (zef .s x0))) fun x4 =>
 zn x4 (
 ret (.ret [(Value.slice none 0 0)])
 ) (
 ret (.nxt [x0])
 )
 ) fun o=>nx o zn0
 ) fun o=>zbg o fun vs=>ret (zbe [(zc vs 0)])
def zoj:Hint:=(.seq [] .leaf (.seq [0] (.seq [] .leaf (.cond (.seq [] .leaf .leaf) .leaf)) (.seq [] .leaf .leaf)))
def zd1:List V→M V:=ap1 zoi
theorem zok:zu Tryz.prog zgc (zd1):=kn1 (σ:=ovr [] noC) (hint:=zoj) (by kernel_rfl) zk fun _=>(by kernel_rfl)
def zoy (vs:List V):M Out :=
 zb (zcz 2 0 (rep 0 [Value.int .i64 0,Value.int .i64 0]) []) fun x5 =>
 zb (zc4 2 16 x5 (zc vs 0)) fun x7 =>
 ret (.ret [x7])
def zpo (x0:V):M V :=
 zb (
 zb (
 zb (za (zcp false (zef .s x0))) fun x4 =>
 zn x4 (
 ret (.ret [(Value.slice none 0 0)])
 ) (
 ret (.nxt [x0])
 )
 ) fun o=>nx o zoy
 ) fun o=>zbg o fun vs=>ret (zbe [(zc vs 0)])
def zpp:Hint:=(.seq [] .leaf (.seq [0] (.seq [] .leaf (.cond (.seq [] .leaf .leaf) .leaf)) (.seq [] .leaf .leaf)))
def zee:List V→M V:=ap1 zpo
theorem zpq:zu Tryz.prog zgy (zee):=kn1 (σ:=ovr [] noC) (hint:=zpp) (by kernel_rfl) zk fun _=>(by kernel_rfl)
noncomputable def zbj1 (G_strings_IndexRune:List V→M V) (v5:List V):M Out :=
 zb (za (zr .add (zc v5 4) (Value.int .i64 1))) fun x65 =>
 ret (.nxt [(zc v5 0),(zc v5 1),(zc v5 2),(zc v5 3),x65])
noncomputable def zbj2 (G_strings_IndexRune:List V→M V) (v4:List V):M Out :=
 zb (
 zb (
 zb (za (zq 3 (zc v4 2) (zc v4 4))) fun x49 =>
 zb (ldn 3 x49) fun x50 =>
 zb (newc [Value.string ⟨#[]⟩,Value.string ⟨#[]⟩,Value.slice none 0 0]) fun x13 =>
 zb (stn 3 x13 x50) fun _ =>
 zb (za (ze 2 x13)) fun x51 =>
 zb (zz x51) fun x52 =>
 zb (zee [x52]) fun x53 =>
 zb (za (ze 2 x13)) fun x54 =>
 zb (st1 x54 x53) fun _ =>
 zhc fun h0 =>
 zb (za (zbo (zc v4 1))) fun x57 =>
 zb (za (ze 2 x57)) fun x58 =>
 zb (zz x58) fun x59 =>
 zb (ldn 3 x13) fun x60 =>
 zb4 (zcz 3 1 (rep 1 [Value.string ⟨#[]⟩,Value.string ⟨#[]⟩,Value.slice none 0 0]) [(0,3,x60)]) fun ha x61 h1 =>
 zb4 (zc4 3 56 x59 x61) fun ha_2 x62 h2 =>
 zb (za (zbo (zc v4 1))) fun x63 =>
 zb (za (ze 2 x63)) fun x64 =>
 zb4 (st1 x64 x62) fun ha_3 u h3 =>
 zfi (chk (zz x58) h1 x59) <|
 ret (.nxt [(zc v4 0),(zc v4 1),(zc v4 2),(zc v4 3),(zc v4 4)])
 ) fun o=>ret (zw 1 o)
 ) fun o=>nx o (zbj1 G_strings_IndexRune)
noncomputable def zbc9 (G_strings_IndexRune:List V→M V) (v3:List V):M Out :=
 zb (za (zr .lss (zc v3 4) (zc v3 3))) fun x48 =>
 zb (
 zn x48 (
 ret (.nxt [(zc v3 0),(zc v3 1),(zc v3 2),(zc v3 3),(zc v3 4)])
 ) (
 ret (.brk 0 [(zc v3 0),(zc v3 1)])
 )
 ) fun o=>nx o (zbj2 G_strings_IndexRune)
noncomputable def zbda (G_strings_IndexRune:List V→M V) (v9:List V):M Out :=
 zb (za (zr .add (zc v9 4) (Value.int .i64 1))) fun x87 =>
 ret (.nxt [(zc v9 0),(zc v9 1),(zc v9 2),(zc v9 3),x87])
noncomputable def zbj3 (G_strings_IndexRune:List V→M V) (v8:List V):M Out :=
 zb (
 zb (
 zb (za (zq 2 (zc v8 2) (zc v8 4))) fun x71 =>
 zb (ldn 2 x71) fun x72 =>
 zb (newc [Value.int .i64 0,Value.bool false]) fun x15 =>
 zb (stn 2 x15 x72) fun _ =>
 zb (za (ze 1 x15)) fun x73 =>
 zb (zz x73) fun x74 =>
 zb (za (un .not x74)) fun x75 =>
 zn x75 (
 zhc fun h0_2 =>
 zb (za (zbo (zc v8 1))) fun x78 =>
 zb (za (ze 4 x78)) fun x79 =>
 zb (za (ze 0 x15)) fun x81 =>
 zb (zz x79) fun x80 =>
 zb (zz x81) fun x82 =>
 zb4 (zcz 1 1 (rep 1 [Value.int .i64 0]) [(0,1,x82)]) fun ha_4 x83 h1_2 =>
 zb4 (zc4 1 8 x80 x83) fun ha_5 x84 h2_2 =>
 zb (za (zbo (zc v8 1))) fun x85 =>
 zb (za (ze 4 x85)) fun x86 =>
 zb4 (st1 x86 x84) fun ha_6 u_2 h3_2 =>
 zfi (chk (zz x79) h1_2 x80) <|
 ret (.nxt [(zc v8 0),(zc v8 1),(zc v8 2),(zc v8 3),(zc v8 4)])
 ) (
 ret (.nxt [(zc v8 0),(zc v8 1),(zc v8 2),(zc v8 3),(zc v8 4)])
 )
 ) fun o=>ret (zw 3 o)
 ) fun o=>nx o (zbda G_strings_IndexRune)
noncomputable def zbdb (G_strings_IndexRune:List V→M V) (v7:List V):M Out :=
 zb (za (zr .lss (zc v7 4) (zc v7 3))) fun x70 =>
 zb (
 zn x70 (
 ret (.nxt [(zc v7 0),(zc v7 1),(zc v7 2),(zc v7 3),(zc v7 4)])
 ) (
 ret (.brk 2 [(zc v7 0),(zc v7 1)])
 )
 ) fun o=>nx o (zbj3 G_strings_IndexRune)
noncomputable def zbdc (G_strings_IndexRune:List V→M V) (v13:List V):M Out :=
 zb (za (zr .add (zc v13 3) (Value.int .i64 1))) fun x104 =>
 ret (.nxt [(zc v13 0),(zc v13 1),(zc v13 2),x104])
noncomputable def zbj4 (G_strings_IndexRune:List V→M V) (v12:List V):M Out :=
 zb (
 zb (
 zb (za (zq 3 (zc v12 1) (zc v12 3))) fun x94 =>
 zb (ldn 3 x94) fun x95 =>
 zb (newc [Value.int .i64 0,Value.int .i64 0,Value.int .i64 0]) fun x17 =>
 zb (stn 3 x17 x95) fun _ =>
 zb (za (ze 0 x17)) fun x96 =>
 zb (zz x96) fun x97 =>
 zb (za (zr .eql x97 (Value.int .i64 (-1)))) fun x98 =>
 zn x98 (
 zb (za (ze 2 x17)) fun x100 =>
 zb (zz x100) fun x101 =>
 zb (za (zbo (zc v12 0))) fun x102 =>
 zb (za (ze 5 x102)) fun x103 =>
 zb (st1 x103 x101) fun _ =>
 ret (.nxt [(zc v12 0),(zc v12 1),(zc v12 2),(zc v12 3)])
 ) (
 ret (.nxt [(zc v12 0),(zc v12 1),(zc v12 2),(zc v12 3)])
 )
 ) fun o=>ret (zw 5 o)
 ) fun o=>nx o (zbdc G_strings_IndexRune)
noncomputable def zbdd (G_strings_IndexRune:List V→M V) (v11:List V):M Out :=
 zb (za (zr .lss (zc v11 3) (zc v11 2))) fun x93 =>
 zb (
 zn x93 (
 ret (.nxt [(zc v11 0),(zc v11 1),(zc v11 2),(zc v11 3)])
 ) (
 ret (.brk 4 [(zc v11 0)])
 )
 ) fun o=>nx o (zbj4 G_strings_IndexRune)
noncomputable def zbj5 (G_strings_IndexRune:List V→M V) (v14:List V):M Out :=
 ret (.ret [(zc v14 0),(Value.int .i64 0)])
noncomputable def zbhw (G_strings_IndexRune:List V→M V) (v10:List V):M Out :=
 zb (
 zb (za (ze 3 (zc v10 0))) fun x88 =>
 zb (za (ze 1 x88)) fun x89 =>
 zb (zz x89) fun x90 =>
 zb (za (zt x90)) fun x91 =>
 zb (
 zbf zbs (zbdd G_strings_IndexRune) [(zc v10 1),x90,x91,(Value.int .i64 0)]
 ) fun o=>ret (zw 4 o)
 ) fun o=>nx o (zbj5 G_strings_IndexRune)
noncomputable def zbhx (G_strings_IndexRune:List V→M V) (v6:List V):M Out :=
 zb (
 zb (za (ze 0 (zc v6 0))) fun x66 =>
 zb (zz x66) fun x67 =>
 zb (za (zt x67)) fun x68 =>
 zb (
 zbf zbs (zbdb G_strings_IndexRune) [(zc v6 0),(zc v6 1),x67,x68,(Value.int .i64 0)]
 ) fun o=>ret (zw 2 o)
 ) fun o=>nx o (zbhw G_strings_IndexRune)
noncomputable def zbhy (G_strings_IndexRune:List V→M V) (v2:List V):M Out :=
 zb (za (ze 1 (zc v2 1))) fun x40 =>
 zb (zz x40) fun x41 =>
 zb (zd1 [x41]) fun x42 =>
 zb (za (build [Value.pointer none,Value.pointer none,Value.slice none 0 0,Value.slice none 0 0,Value.slice none 0 0,Value.int .i64 0,Value.int .i64 0,Value.int .i64 0] [(0,1,(zc v2 2)),(1,1,(zc v2 3)),(3,1,x42)])) fun x43 =>
 zb (zdf x43) fun x44 =>
 zb (
 zb (za (zt (zc v2 0))) fun x46 =>
 zb (
 zbf zbs (zbc9 G_strings_IndexRune) [(zc v2 1),x44,(zc v2 0),x46,(Value.int .i64 0)]
 ) fun o=>ret (zw 0 o)
 ) fun o=>nx o (zbhx G_strings_IndexRune)
noncomputable def zbhz (G_strings_IndexRune:List V→M V) (vs:List V):M Out :=
 zb (za (ze 5 (zc vs 2))) fun x28 =>
 zb (zz x28) fun x29 =>
 zb (za (zt x29)) fun x30 =>
 zb ((z3n G_strings_IndexRune) [(zc vs 0),x30,(zc vs 1)]) fun x32 =>
 zb (za (ext 0 x32)) fun x33 =>
 zb (za (ext 1 x32)) fun x34 =>
 zb (
 zb (za (zr .neq x34 (Value.int .i64 0))) fun x36 =>
 zn x36 (
 ret (.ret [(Value.pointer none),x34])
 ) (
 ret (.nxt [(zc vs 0),(zc vs 2),(zc vs 3),x33])
 )
 ) fun o=>nx o (zbhy G_strings_IndexRune)
noncomputable def zbg6 (G_strings_IndexRune:List V→M V) (x0 x1 x2:V):M V :=
 zb (
 zb (zdf x0) fun x3 =>
 zb (ldn 7 x3) fun x19 =>
 zb (z3l [x19]) fun x20 =>
 zb (za (ext 0 x20)) fun x21 =>
 zb (za (ext 1 x20)) fun x22 =>
 zb (
 zb (za (zr .neq x22 (Value.int .i64 0))) fun x24 =>
 zn x24 (
 ret (.ret [(Value.pointer none),x22])
 ) (
 ret (.nxt [x1,x2,x3,x21])
 )
 ) fun o=>nx o (zbhz G_strings_IndexRune)
 ) fun o=>zbg o fun vs=>ret (zbe [(zc vs 0),(zc vs 1)])
def zbxb:Hint:=(.seq [] .leaf (.seq [] .leaf (.seq [1,2,3,8] (.seq [] .leaf (.cond (.seq [] .leaf .leaf) .leaf)) (.seq [] .leaf (.seq [1,3,8,10] (.seq [] .leaf (.cond (.seq [] .leaf .leaf) .leaf)) (.seq [] .leaf (.seq [3,11] (.seq [] .leaf (.blk (.loop [3,11,45,46,47] (.seq [] .leaf (.seq [3,11,45,46,47] (.cond .leaf .leaf) (.seq [3,11,45,46,47] (.blk (.seq [] .leaf (.seq [] .leaf (.reg [0,1,2,3,4,5,6,7,8,9,10] [])))) .leaf)))))) (.seq [3,11] (.seq [] .leaf (.blk (.loop [3,11,67,68,69] (.seq [] .leaf (.seq [3,11,67,68,69] (.cond .leaf .leaf) (.seq [3,11,67,68,69] (.blk (.seq [] .leaf (.seq [] .leaf (.cond (.reg [0,1,2,3,5,4,6,7,8,9,10,11] []) .leaf)))) .leaf)))))) (.seq [11] (.seq [] .leaf (.blk (.loop [11,90,91,92] (.seq [] .leaf (.seq [11,90,91,92] (.cond .leaf .leaf) (.seq [11,90,91,92] (.blk (.seq [] .leaf (.seq [] .leaf (.cond .leaf .leaf)))) .leaf)))))) (.seq [] .leaf .leaf))))))))))
noncomputable def z9n (G_strings_IndexRune:List V→M V):List V→M V:=ap3 (zbg6 G_strings_IndexRune)
theorem zbxc {G_strings_IndexRune:List V→M V} (k_strings_IndexRune:zu Tryz.prog zx G_strings_IndexRune):zu Tryz.prog zbhm (z9n G_strings_IndexRune):=kn3 (σ:=ovr [(zbel,z3l),(zbem,z3n G_strings_IndexRune),(zgc,zd1),(zgy,zee)] noC) (hint:=zbxb) (by kernel_rfl) (zj zbuk (zj (zbum k_strings_IndexRune) (zj zok (zj zpq zk)))) fun _ _ _=>(by kernel_rfl)
end Go.AM.Cap
