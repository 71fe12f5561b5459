import Derived.Test.YtjchglndancedaaGreatDoorAmWp
import Derived.Test.YtjchglndancedaaGreatDoorProg
set_option linter.all false
/- Printed by amprint2.py: functions of YtjchglndancedaaGreatDoor on the abstract machine. -/
set_option linter.unusedVariables false
set_option maxRecDepth 100000
namespace Go.AM.Cap
open Go.AM Go.Proofs
def gid_conf_levels:Nat:=0
def gid_conf_types:Nat:=1
def z1m:Nat:=3
def ztw:Nat:=4
def z8d:Nat:=5
def z4q:Nat:=8
def z2u:Nat:=11
def z8p:Nat:=12
def z4r:Nat:=13
def zcu:Nat:=14
def z8q:Nat:=15
def z4s:Nat:=16
def z8r:Nat:=19
def zlu:Nat:=21
def zqs:Nat:=22
def zbf6:Nat:=23
def zgf:Nat:=24
def zet:Nat:=25
def zht:Nat:=26
def znc:Nat:=27
def zp0:Nat:=28
def z8s:Nat:=29
def z0h:Nat:=30
def z0i:Nat:=32
def ztx:Nat:=33
def zbcp:Nat:=34
def zbcq:Nat:=35
def zf6:Nat:=36
def zgs:Nat:=37
def z8t:Nat:=39
def z8u:Nat:=40
def zb5:Nat:=42
def zcb:Nat:=43
def zhc:Nat:=44
def z2v:Nat:=45
def z0j:Nat:=46
def z2w:Nat:=47
def zsh:Nat:=48
def zbt:Nat:=52
def zb9:Nat:=53
def zca:Nat:=54
def zcj:Nat:=55
def zcy:Nat:=56
def zch:Nat:=57
def zdk:Nat:=58
def zck:Nat:=59
def zdl:Nat:=60
def zdm:Nat:=61
def zcv:Nat:=62
def z4t:Nat:=63
def zfi:Nat:=64
def z4u:Nat:=65
def z8v:Nat:=66
def z8w:Nat:=67
def zbcr:Nat:=68
def z2x:Nat:=69
def zgt:Nat:=70
def z2y:Nat:=80
def z8x:Nat:=81
def z8y:Nat:=82
def z8z:Nat:=83
def z2z:Nat:=84
def z22:Nat:=85
def zd3:Nat:=89
def zhd:Nat:=92
def zy3:Nat:=93
def zh1:Nat:=94
def zo5:Nat:=95
def zcl:Nat:=96
def z4v:Nat:=97
def zss:Nat:=98
def zt8:Nat:=99
def z4w:Nat:=100
def zcr:Nat:=101
def zds:Nat:=102
def zep:Nat:=103
def zdt:Nat:=104
def z4x:Nat:=105
def zf7:Nat:=106
def zgu:Nat:=107
def zhi:Nat:=108
def zh2:Nat:=109
def zlh:Nat:=110
def zqt:Nat:=111
def zlv:Nat:=112
def z0k:Nat:=113
def z4y:Nat:=114
def z23:Nat:=115
def zt9:Nat:=119
def zua:Nat:=120
def z24:Nat:=121
def z25:Nat:=122
def z4z:Nat:=123
def zfv:Nat:=126
def zix:Nat:=131
def znd:Nat:=132
def zbp:Nat:=133
def zb3:Nat:=134
def zd7:Nat:=135
def zco:Nat:=136
def z0l:Nat:=137
def z26:Nat:=138
def z80:Nat:=139
def zeu:Nat:=140
def zfj:Nat:=141
def zcf:Nat:=142
def zi7:Nat:=143
def znx:Nat:=144
def zfk:Nat:=145
def zne:Nat:=146
def zjt:Nat:=147
def z81:Nat:=148
def zbcs:Nat:=149
def z82:Nat:=150
def z27:Nat:=151
def zoo:Nat:=158
def zny:Nat:=159
def zop:Nat:=160
def znz:Nat:=161
def zlw:Nat:=162
def zli:Nat:=163
def zkj:Nat:=164
def zev:Nat:=167
def z28:Nat:=168
def zgv:Nat:=169
def zlx:Nat:=170
def z40:Nat:=171
def zf8:Nat:=177
def zin:Nat:=178
def zfw:Nat:=179
def zy:Nat:=187
def zly:Nat:=188
def zgw:Nat:=226
def zhj:Nat:=227
def zeh:Nat:=229
def zhk:Nat:=231
def zig:Nat:=232
def zi0:Nat:=235
def zhl:Nat:=236
def zfe:Nat:=3
def zcz:Nat:=9
def z29:Nat:=74
def zqu:Nat:=273
def ztc:Nat:=274
def zv8:Nat:=276
def zy4 (v2:List V):M Out :=
 zb (
 zb (za (zd9 (zd v2 0))) fun x19 =>
 zb (za (zu .sub x19 (Value.int .i64 1))) fun x20 =>
 zb (za (subS (zd v2 0) none (some x20))) fun x21 =>
 ret (.nxt [x21,(zd v2 1)])
 ) fun o=>ret (zv 1 o)
def zy5 (vs:List V):M Out :=
 zb (
 zb (za (zd9 (zd vs 0))) fun x6 =>
 zb (za (zu .gtr x6 (Value.int .i64 0))) fun x7 =>
 zb (gd x7 true (za (some (zd vs 0)))) fun x9 =>
 zb (gd x7 true (za (some (zd vs 0)))) fun x10 =>
 zb (gd x7 true (za (zd9 x10))) fun x11 =>
 zb (gd x7 true (za (zu .sub x11 (Value.int .i64 1)))) fun x12 =>
 zb (gd x7 true (za (zjm x9 x12))) fun x13 =>
 zb (gd x7 true (za (some (zd vs 1)))) fun x14 =>
 zb (gd x7 true (za (zu .eql x13 x14))) fun x15 =>
 zb (za (z8 x7 x15 (Value.bool false))) fun x16 =>
 zp x16 (
 ret (.nxt [(zd vs 0),(zd vs 1)])
 ) (
 ret (.brk 0 [(zd vs 0)])
 )
 ) fun o=>nx o zy4
def zy6 (v3:List V):M Out :=
 ret (.ret [(zd v3 0)])
def z0m (x0 x1:V):M V :=
 zb (
 zb (
 zb (
 zba zbm zy5 [x0,x1]
 ) fun o=>ret (zv 0 o)
 ) fun o=>nx o zy6
 ) fun o=>zbk o fun vs=>ret (zbi [(zd vs 0)])
def z0n:Hint:=(.seq [] .leaf (.seq [0] (.blk (.loop [0,1] (.seq [0,1] (.seq [] .leaf (.cond .leaf .leaf)) (.blk .leaf)))) (.seq [] .leaf .leaf)))
def zi8:List V→M V:=ap2 z0m
theorem z0o:zq Tryz.prog zny (zi8):=kn2 (σ:=ovr [] noC) (hint:=z0n) (by kernel_rfl) zl fun _ _=>(by kernel_rfl)
def z0p (v2:List V):M Out :=
 zb (
 zb (za (subS (zd v2 0) (some (Value.int .i64 1)) none)) fun x15 =>
 ret (.nxt [x15,(zd v2 1)])
 ) fun o=>ret (zv 1 o)
def z0q (vs:List V):M Out :=
 zb (
 zb (za (zd9 (zd vs 0))) fun x6 =>
 zb (za (zu .gtr x6 (Value.int .i64 0))) fun x7 =>
 zb (gd x7 true (za (some (zd vs 0)))) fun x9 =>
 zb (gd x7 true (za (zjm x9 (Value.int .i64 0)))) fun x10 =>
 zb (gd x7 true (za (some (zd vs 1)))) fun x11 =>
 zb (gd x7 true (za (zu .eql x10 x11))) fun x12 =>
 zb (za (z8 x7 x12 (Value.bool false))) fun x13 =>
 zp x13 (
 ret (.nxt [(zd vs 0),(zd vs 1)])
 ) (
 ret (.brk 0 [(zd vs 0)])
 )
 ) fun o=>nx o z0p
def z0r (v3:List V):M Out :=
 ret (.ret [(zd v3 0)])
def z1n (x0 x1:V):M V :=
 zb (
 zb (
 zb (
 zba zbm z0q [x0,x1]
 ) fun o=>ret (zv 0 o)
 ) fun o=>nx o z0r
 ) fun o=>zbk o fun vs=>ret (zbi [(zd vs 0)])
def z1o:Hint:=(.seq [] .leaf (.seq [0] (.blk (.loop [0,1] (.seq [0,1] (.seq [] .leaf (.cond .leaf .leaf)) (.blk .leaf)))) (.seq [] .leaf .leaf)))
def zj0:List V→M V:=ap2 z1n
theorem z1p:zq Tryz.prog zoo (zj0):=kn2 (σ:=ovr [] noC) (hint:=z1o) (by kernel_rfl) zl fun _ _=>(by kernel_rfl)
def zp1 (v3:List V):M Out :=
 zb (za (zn5 256 1 (zd v3 1) (zd v3 3))) fun x19 =>
 zb (st1 x19 (Value.bool true)) fun _ =>
 ret (.nxt [(zd v3 0),(zd v3 1),(zd v3 2)])
def zp2 (v4:List V):M Out :=
 zb (za (zu .add (zd v4 2) (Value.int .i64 1))) fun x11 =>
 ret (.nxt [(zd v4 0),(zd v4 1),x11])
def zp3 (v2:List V):M Out :=
 zb (
 zb (
 zb (za (zjm (zd v2 0) (zd v2 2))) fun x14 =>
 zb (
 zb (za (zu .geq x14 (Value.int .u8 128))) fun x16 =>
 zp x16 (
 zb (ldn 256 (zd v2 1)) fun x17 =>
 zb (stn 256 (zd v2 1) x17) fun _ =>
 ret (.ret [(zd v2 1),(Value.bool false)])
 ) (
 ret (.nxt [(zd v2 0),(zd v2 1),(zd v2 2),x14])
 )
 ) fun o=>nx o zp1
 ) fun o=>ret (zv 1 o)
 ) fun o=>nx o zp2
def zi9 (vs:List V):M Out :=
 zb (
 zb (za (zd9 (zd vs 0))) fun x8 =>
 zb (za (zu .lss (zd vs 2) x8)) fun x9 =>
 zp x9 (
 ret (.nxt [(zd vs 0),(zd vs 1),(zd vs 2)])
 ) (
 ret (.brk 0 [(zd vs 1)])
 )
 ) fun o=>nx o zp3
def zp4 (v5:List V):M Out :=
 zb (ldn 256 (zd v5 0)) fun x20 =>
 zb (stn 256 (zd v5 0) x20) fun _ =>
 ret (.ret [(zd v5 0),(Value.bool true)])
def zj1 (x0:V):M V :=
 zb (
 zb (newc (List.replicate 256 (Value.bool false))) fun x2 =>
 zb (
 zb (
 zba zbm zi9 [x0,x2,(Value.int .i64 0)]
 ) fun o=>ret (zv 0 o)
 ) fun o=>nx o zp4
 ) fun o=>zbk o fun vs=>zb (ldn 256 (zd vs 0)) fun r0=>ret (zbi [r0,(zd vs 1)])
def z1q:Hint:=(.seq [] .leaf (.seq [2] (.seq [] .leaf (.blk (.loop [0,2,4] (.seq [0,2,4] (.seq [] .leaf (.cond .leaf .leaf)) (.seq [0,2,4] (.blk (.seq [] .leaf (.seq [0,2,4,5] (.seq [] .leaf (.cond (.seq [] .leaf .leaf) .leaf)) .leaf))) .leaf))))) (.seq [] .leaf .leaf)))
def zgz:List V→M V:=ap1 zj1
theorem z1r:zq Tryz.prog zop (zgz):=kn1 (σ:=ovr [] noC) (hint:=z1q) (by kernel_rfl) zl fun _=>(by kernel_rfl)
def zg0 (x0 x1:V):M V :=
 zb (
 zb (za (zb2 x0)) fun x7 =>
 zb (za (zn5 256 1 x7 x1)) fun x8 =>
 zb (zz x8) fun x9 =>
 ret (.ret [x9])
 ) fun o=>zbk o fun vs=>ret (zbi [(zd vs 0)])
def zu0:Hint:=(.seq [] .leaf (.seq [] .leaf .leaf))
def zcq:List V→M V:=ap2 zg0
theorem zlj:zq Tryz.prog zf8 (zcq):=kn2 (σ:=ovr [] noC) (hint:=zu0) (by kernel_rfl) zl fun _ _=>(by kernel_rfl)
def zn0 (v3:List V):M Out :=
 zb (za (zd9 (zd v3 0))) fun x18 =>
 zb (za (zu .sub x18 (Value.int .i64 1))) fun x19 =>
 zb (za (subS (zd v3 0) none (some x19))) fun x20 =>
 ret (.nxt [x20,(zd v3 1)])
def zn1 (v2:List V):M Out :=
 zb (
 zb (
 zb (za (zd9 (zd v2 0))) fun x11 =>
 zb (za (zu .sub x11 (Value.int .i64 1))) fun x12 =>
 zb (za (zjm (zd v2 0) x12)) fun x13 =>
 zb (zcq [(zd v2 1),x13]) fun x14 =>
 zb (za (un .not x14)) fun x15 =>
 zp x15 (
 ret (.brk 0 [(zd v2 0)])
 ) (
 ret (.nxt [(zd v2 0),(zd v2 1)])
 )
 ) fun o=>nx o zn0
 ) fun o=>ret (zv 1 o)
def zh8 (vs:List V):M Out :=
 zb (
 zb (za (zd9 (zd vs 0))) fun x6 =>
 zb (za (zu .gtr x6 (Value.int .i64 0))) fun x7 =>
 zp x7 (
 ret (.nxt [(zd vs 0),(zd vs 1)])
 ) (
 ret (.brk 0 [(zd vs 0)])
 )
 ) fun o=>nx o zn1
def zh9 (v4:List V):M Out :=
 ret (.ret [(zd v4 0)])
def zio (x0 x1:V):M V :=
 zb (
 zb (
 zb (
 zba zbm zh8 [x0,x1]
 ) fun o=>ret (zv 0 o)
 ) fun o=>nx o zh9
 ) fun o=>zbk o fun vs=>ret (zbi [(zd vs 0)])
def zy7:Hint:=(.seq [] .leaf (.seq [0] (.blk (.loop [0,1] (.seq [0,1] (.seq [] .leaf (.cond .leaf .leaf)) (.blk (.seq [0,1] (.seq [] .leaf (.cond .leaf .leaf)) .leaf))))) (.seq [] .leaf .leaf)))
def zf0:List V→M V:=ap2 zio
def zy8:zx:=ovr [(zf8,zcq)] noC
theorem zy9:zq Tryz.prog zlw (zf0):=kn2 (σ:=zy8) (hint:=zy7) (by kernel_rfl) (zh zlj zl) fun _ _=>(by kernel_rfl)
def zoq (v3:List V):M Out :=
 zb (za (subS (zd v3 0) (some (Value.int .i64 1)) none)) fun x14 =>
 ret (.nxt [x14,(zd v3 1)])
def zor (v2:List V):M Out :=
 zb (
 zb (
 zb (za (zjm (zd v2 0) (Value.int .i64 0))) fun x10 =>
 zb (zcq [(zd v2 1),x10]) fun x11 =>
 zb (za (un .not x11)) fun x12 =>
 zp x12 (
 ret (.brk 0 [(zd v2 0)])
 ) (
 ret (.nxt [(zd v2 0),(zd v2 1)])
 )
 ) fun o=>nx o zoq
 ) fun o=>ret (zv 1 o)
def ziq (vs:List V):M Out :=
 zb (
 zb (za (zd9 (zd vs 0))) fun x6 =>
 zb (za (zu .gtr x6 (Value.int .i64 0))) fun x7 =>
 zp x7 (
 ret (.nxt [(zd vs 0),(zd vs 1)])
 ) (
 ret (.brk 0 [(zd vs 0)])
 )
 ) fun o=>nx o zor
def zir (v4:List V):M Out :=
 ret (.ret [(zd v4 0)])
def zja (x0 x1:V):M V :=
 zb (
 zb (
 zb (
 zba zbm ziq [x0,x1]
 ) fun o=>ret (zv 0 o)
 ) fun o=>nx o zir
 ) fun o=>zbk o fun vs=>ret (zbi [(zd vs 0)])
def z0s:Hint:=(.seq [] .leaf (.seq [0] (.blk (.loop [0,1] (.seq [0,1] (.seq [] .leaf (.cond .leaf .leaf)) (.blk (.seq [0,1] (.seq [] .leaf (.cond .leaf .leaf)) .leaf))))) (.seq [] .leaf .leaf)))
def zgg:List V→M V:=ap2 zja
def z0t:zx:=ovr [(zf8,zcq)] noC
theorem z0u:zq Tryz.prog znz (zgg):=kn2 (σ:=z0t) (hint:=z0s) (by kernel_rfl) (zh zlj zl) fun _ _=>(by kernel_rfl)
def zza (x0:V):M V :=
 zb (
 zb (za (zu .and x0 (Value.int .u8 192))) fun x4 =>
 zb (za (zu .neq x4 (Value.int .u8 128))) fun x5 =>
 ret (.ret [x5])
 ) fun o=>zbk o fun vs=>ret (zbi [(zd vs 0)])
def zzb:Hint:=(.seq [] .leaf (.seq [] .leaf .leaf))
def zis:List V→M V:=ap1 zza
theorem zzc:zq Tryz.prog zly (zis):=kn1 (σ:=ovr [] noC) (hint:=zzb) (by kernel_rfl) zl fun _=>(by kernel_rfl)
def zlz (v8:List V):M Out :=
 zb (za (zu .and (zd v8 0) (Value.int .u8 7))) fun x100 =>
 zb (za (cvi .i32 x100)) fun x101 =>
 zb (za (zu .shl x101 (Value.int .u64 18))) fun x102 =>
 zb (za (zu .and (zd v8 1) (Value.int .u8 63))) fun x104 =>
 zb (za (cvi .i32 x104)) fun x105 =>
 zb (za (zu .shl x105 (Value.int .u64 12))) fun x106 =>
 zb (za (zu .or x102 x106)) fun x107 =>
 zb (za (zu .and (zd v8 2) (Value.int .u8 63))) fun x109 =>
 zb (za (cvi .i32 x109)) fun x110 =>
 zb (za (zu .shl x110 (Value.int .u64 6))) fun x111 =>
 zb (za (zu .or x107 x111)) fun x112 =>
 zb (za (zu .and (zd v8 3) (Value.int .u8 63))) fun x114 =>
 zb (za (cvi .i32 x114)) fun x115 =>
 zb (za (zu .or x112 x115)) fun x116 =>
 ret (.ret [x116,(Value.int .i64 4)])
def zl0 (v7:List V):M Out :=
 zb (za (zjm (zd v7 0) (Value.int .i64 3))) fun x92 =>
 zb (
 zb (za (zu .lss x92 (Value.int .u8 128))) fun x94 =>
 zb (gd x94 false (za (some x92))) fun x96 =>
 zb (gd x94 false (za (zu .lss (Value.int .u8 191) x96))) fun x97 =>
 zb (za (z8 x94 (Value.bool true) x97)) fun x98 =>
 zp x98 (
 ret (.ret [(Value.int .i32 65533),(Value.int .i64 1)])
 ) (
 ret (.nxt [(zd v7 1),(zd v7 2),(zd v7 3),x92])
 )
 ) fun o=>nx o zlz
def zl1 (v6:List V):M Out :=
 zb (
 zb (za (zu .leq (zd v6 2) (Value.int .i64 3))) fun x77 =>
 zp x77 (
 zb (za (zu .and (zd v6 1) (Value.int .u8 15))) fun x79 =>
 zb (za (cvi .i32 x79)) fun x80 =>
 zb (za (zu .shl x80 (Value.int .u64 12))) fun x81 =>
 zb (za (zu .and (zd v6 3) (Value.int .u8 63))) fun x83 =>
 zb (za (cvi .i32 x83)) fun x84 =>
 zb (za (zu .shl x84 (Value.int .u64 6))) fun x85 =>
 zb (za (zu .or x81 x85)) fun x86 =>
 zb (za (zu .and (zd v6 4) (Value.int .u8 63))) fun x88 =>
 zb (za (cvi .i32 x88)) fun x89 =>
 zb (za (zu .or x86 x89)) fun x90 =>
 ret (.ret [x90,(Value.int .i64 3)])
 ) (
 ret (.nxt [(zd v6 0),(zd v6 1),(zd v6 3),(zd v6 4)])
 )
 ) fun o=>nx o zl0
def zl2 (v5:List V):M Out :=
 zb (za (zjm (zd v5 0) (Value.int .i64 2))) fun x69 =>
 zb (
 zb (za (zu .lss x69 (Value.int .u8 128))) fun x71 =>
 zb (gd x71 false (za (some x69))) fun x73 =>
 zb (gd x71 false (za (zu .lss (Value.int .u8 191) x73))) fun x74 =>
 zb (za (z8 x71 (Value.bool true) x74)) fun x75 =>
 zp x75 (
 ret (.ret [(Value.int .i32 65533),(Value.int .i64 1)])
 ) (
 ret (.nxt [(zd v5 0),(zd v5 1),(zd v5 2),(zd v5 3),x69])
 )
 ) fun o=>nx o zl1
def zl3 (v4:List V):M Out :=
 zb (
 zb (za (zu .leq (zd v4 2) (Value.int .i64 2))) fun x59 =>
 zp x59 (
 zb (za (zu .and (zd v4 1) (Value.int .u8 31))) fun x61 =>
 zb (za (cvi .i32 x61)) fun x62 =>
 zb (za (zu .shl x62 (Value.int .u64 6))) fun x63 =>
 zb (za (zu .and (zd v4 3) (Value.int .u8 63))) fun x65 =>
 zb (za (cvi .i32 x65)) fun x66 =>
 zb (za (zu .or x63 x66)) fun x67 =>
 ret (.ret [x67,(Value.int .i64 2)])
 ) (
 ret (.nxt [(zd v4 0),(zd v4 1),(zd v4 2),(zd v4 3)])
 )
 ) fun o=>nx o zl2
def zl4 (v3:List V):M Out :=
 zb (za (zjm (zd v3 0) (Value.int .i64 1))) fun x47 =>
 zb (
 zb (za (zf 0 (zd v3 3))) fun x49 =>
 zb (zz x49) fun x50 =>
 zb (za (zu .lss x47 x50)) fun x51 =>
 zb (gd x51 false (za (zf 1 (zd v3 3)))) fun x53 =>
 zb (gd x51 false (zz x53)) fun x54 =>
 zb (gd x51 false (za (some x47))) fun x55 =>
 zb (gd x51 false (za (zu .lss x54 x55))) fun x56 =>
 zb (za (z8 x51 (Value.bool true) x56)) fun x57 =>
 zp x57 (
 ret (.ret [(Value.int .i32 65533),(Value.int .i64 1)])
 ) (
 ret (.nxt [(zd v3 0),(zd v3 1),(zd v3 2),x47])
 )
 ) fun o=>nx o zl3
def zl5 (v2:List V):M Out :=
 zb (za (zu .and (zd v2 3) (Value.int .u8 7))) fun x37 =>
 zb (za (cvi .i64 x37)) fun x38 =>
 zb (za (zu .shr (zd v2 3) (Value.int .u64 4))) fun x40 =>
 zb (za (zn5 16 2 (ptr ztw 0) x40)) fun x41 =>
 zb (ldn 2 x41) fun x42 =>
 zb (newc [Value.int .u8 0,Value.int .u8 0]) fun x9 =>
 zb (stn 2 x9 x42) fun _ =>
 zb (
 zb (za (zu .lss (zd v2 1) x38)) fun x45 =>
 zp x45 (
 ret (.ret [(Value.int .i32 65533),(Value.int .i64 1)])
 ) (
 ret (.nxt [(zd v2 0),(zd v2 2),x38,x9])
 )
 ) fun o=>nx o zl4
def zl6 (vs:List V):M Out :=
 zb (za (zjm (zd vs 0) (Value.int .i64 0))) fun x18 =>
 zb (za (zn5 256 1 (ptr z1m 0) x18)) fun x20 =>
 zb (zz x20) fun x21 =>
 zb (
 zb (za (zu .geq x21 (Value.int .u8 240))) fun x23 =>
 zp x23 (
 zb (za (cvi .i32 x21)) fun x25 =>
 zb (za (zu .shl x25 (Value.int .u64 31))) fun x26 =>
 zb (za (zu .shr x26 (Value.int .u64 31))) fun x27 =>
 zb (za (zjm (zd vs 0) (Value.int .i64 0))) fun x29 =>
 zb (za (cvi .i32 x29)) fun x30 =>
 zb (za (zu .andNot x30 x27)) fun x32 =>
 zb (za (zu .and (Value.int .i32 65533) x27)) fun x34 =>
 zb (za (zu .or x32 x34)) fun x35 =>
 ret (.ret [x35,(Value.int .i64 1)])
 ) (
 ret (.nxt [(zd vs 0),(zd vs 1),x18,x21])
 )
 ) fun o=>nx o zl5
def znf (x0:V):M V :=
 zb (
 zb (za (zd9 x0)) fun x14 =>
 zb (
 zb (za (zu .lss x14 (Value.int .i64 1))) fun x16 =>
 zp x16 (
 ret (.ret [(Value.int .i32 65533),(Value.int .i64 0)])
 ) (
 ret (.nxt [x0,x14])
 )
 ) fun o=>nx o zl6
 ) fun o=>zbk o fun vs=>ret (zbi [(zd vs 0),(zd vs 1)])
def zng:Hint:=(.seq [] .leaf (.seq [] .leaf (.seq [0,4] (.seq [] .leaf (.cond (.seq [] .leaf .leaf) .leaf)) (.seq [] .leaf (.seq [] .leaf (.seq [0,4,5,6] (.seq [] .leaf (.cond (.seq [] .leaf (.seq [] .leaf .leaf)) .leaf)) (.seq [] .leaf (.seq [] .leaf (.seq [0,5,8,9] (.seq [] .leaf (.cond (.seq [] .leaf .leaf) .leaf)) (.seq [] .leaf (.seq [0,5,8,10] (.seq [] .leaf (.cond (.seq [] .leaf .leaf) .leaf)) (.seq [0,5,8,10] (.seq [] .leaf (.cond (.seq [] .leaf .leaf) .leaf)) (.seq [] .leaf (.seq [0,5,8,10,11] (.seq [] .leaf (.cond (.seq [] .leaf .leaf) .leaf)) (.seq [0,5,10,11] (.seq [] .leaf (.cond (.seq [] .leaf .leaf) .leaf)) (.seq [] .leaf (.seq [5,10,11,12] (.seq [] .leaf (.cond (.seq [] .leaf .leaf) .leaf)) (.seq [] .leaf .leaf))))))))))))))))))
def zdu:List V→M V:=ap1 znf
theorem znh:zq Tryz.prog zfv (zdu):=kn1 (σ:=ovr [] noC) (hint:=zng) (by kernel_rfl) zl fun _=>(by kernel_rfl)
def zpc (vs:List V):M Out :=
 ret (.ret [(zd vs 0),(zd vs 1)])
def zqe (x0:V):M V :=
 zb (
 zb (
 zb (za (zu .neq x0 (Value.string ⟨#[]⟩))) fun x5 =>
 zb (gd x5 true (za (some x0))) fun x7 =>
 zb (gd x5 true (za (zjm x7 (Value.int .i64 0)))) fun x8 =>
 zb (gd x5 true (za (zu .lss x8 (Value.int .u8 128)))) fun x9 =>
 zb (za (z8 x5 x9 (Value.bool false))) fun x10 =>
 zp x10 (
 zb (za (zjm x0 (Value.int .i64 0))) fun x12 =>
 zb (za (cvi .i32 x12)) fun x13 =>
 ret (.ret [x13,(Value.int .i64 1)])
 ) (
 zb (zdu [x0]) fun x16 =>
 zb (za (ext 0 x16)) fun x17 =>
 zb (za (ext 1 x16)) fun x18 =>
 ret (.nxt [x17,x18])
 )
 ) fun o=>nx o zpc
 ) fun o=>zbk o fun vs=>ret (zbi [(zd vs 0),(zd vs 1)])
def zqf:Hint:=(.seq [] .leaf (.seq [2,3] (.seq [] .leaf (.cond (.seq [] .leaf .leaf) .leaf)) .leaf))
def zcd:List V→M V:=ap1 zqe
def zqg:zx:=ovr [(zfv,zdu)] noC
theorem zh3:zq Tryz.prog zd3 (zcd):=kn1 (σ:=zqg) (hint:=zqf) (by kernel_rfl) (zh znh zl) fun _=>(by kernel_rfl)
def zl7 (v5:List V):M Out :=
 zb (za (zu .sub (zd v5 2) (Value.int .i64 1))) fun x29 =>
 ret (.nxt [(zd v5 0),(zd v5 1),x29,(zd v5 3)])
def zl8 (v4:List V):M Out :=
 zb (
 zb (
 zb (za (zjm (zd v4 0) (zd v4 2))) fun x32 =>
 zb (zis [x32]) fun x33 =>
 zp x33 (
 ret (.brk 0 [(zd v4 0),(zd v4 1),(zd v4 2)])
 ) (
 ret (.nxt [(zd v4 0),(zd v4 1),(zd v4 2),(zd v4 3)])
 )
 ) fun o=>ret (zv 1 o)
 ) fun o=>nx o zl7
def zl9 (v3:List V):M Out :=
 zb (
 zb (za (zu .geq (zd v3 2) (zd v3 3))) fun x27 =>
 zp x27 (
 ret (.nxt [(zd v3 0),(zd v3 1),(zd v3 2),(zd v3 3)])
 ) (
 ret (.brk 0 [(zd v3 0),(zd v3 1),(zd v3 2)])
 )
 ) fun o=>nx o zl8
def zma (v8:List V):M Out :=
 ret (.ret [(zd v8 0),(zd v8 1)])
def zmb (v7:List V):M Out :=
 zb (za (subS (zd v7 0) (some (zd v7 2)) (some (zd v7 1)))) fun x40 =>
 zb (zcd [x40]) fun x41 =>
 zb (za (ext 0 x41)) fun x42 =>
 zb (za (ext 1 x41)) fun x43 =>
 zb (
 zb (za (zu .add (zd v7 2) x43)) fun x46 =>
 zb (za (zu .neq x46 (zd v7 1))) fun x48 =>
 zp x48 (
 ret (.ret [(Value.int .i32 65533),(Value.int .i64 1)])
 ) (
 ret (.nxt [x42,x43])
 )
 ) fun o=>nx o zma
def zmc (v6:List V):M Out :=
 zb (
 zb (za (zu .lss (zd v6 2) (Value.int .i64 0))) fun x35 =>
 zp x35 (
 ret (.nxt [(zd v6 0),(zd v6 1),(Value.int .i64 0)])
 ) (
 ret (.nxt [(zd v6 0),(zd v6 1),(zd v6 2)])
 )
 ) fun o=>nx o zmb
def zmd (v2:List V):M Out :=
 zb (za (zu .sub (zd v2 1) (Value.int .i64 4))) fun x21 =>
 zb (za (maxV x21 (Value.int .i64 0))) fun x22 =>
 zb (
 zb (za (zu .sub (zd v2 2) (Value.int .i64 1))) fun x24 =>
 zb (
 zba zbm zl9 [(zd v2 0),(zd v2 1),x24,x22]
 ) fun o=>ret (zv 0 o)
 ) fun o=>nx o zmc
def zme (vs:List V):M Out :=
 zb (za (zu .sub (zd vs 1) (Value.int .i64 1))) fun x12 =>
 zb (za (zjm (zd vs 0) x12)) fun x15 =>
 zb (za (cvi .i32 x15)) fun x16 =>
 zb (
 zb (za (zu .lss x16 (Value.int .i32 128))) fun x18 =>
 zp x18 (
 ret (.ret [x16,(Value.int .i64 1)])
 ) (
 ret (.nxt [(zd vs 0),(zd vs 1),x12])
 )
 ) fun o=>nx o zmd
def zni (x0:V):M V :=
 zb (
 zb (za (zd9 x0)) fun x8 =>
 zb (
 zb (za (zu .eql x8 (Value.int .i64 0))) fun x10 =>
 zp x10 (
 ret (.ret [(Value.int .i32 65533),(Value.int .i64 0)])
 ) (
 ret (.nxt [x0,x8])
 )
 ) fun o=>nx o zme
 ) fun o=>zbk o fun vs=>ret (zbi [(zd vs 0),(zd vs 1)])
def znj:Hint:=(.seq [] .leaf (.seq [] .leaf (.seq [0,4] (.seq [] .leaf (.cond (.seq [] .leaf .leaf) .leaf)) (.seq [] .leaf (.seq [] .leaf (.seq [0,4,5] (.seq [] .leaf (.cond (.seq [] .leaf .leaf) .leaf)) (.seq [] .leaf (.seq [0,4,5] (.seq [] .leaf (.blk (.loop [0,4,5,6] (.seq [0,4,5,6] (.seq [] .leaf (.cond .leaf .leaf)) (.seq [0,4,5,6] (.blk (.seq [] .leaf (.cond .leaf .leaf))) .leaf))))) (.seq [0,4,5] (.seq [] .leaf (.cond .leaf .leaf)) (.seq [] .leaf (.seq [2,3] (.seq [] .leaf (.cond (.seq [] .leaf .leaf) .leaf)) (.seq [] .leaf .leaf))))))))))))
def zdv:List V→M V:=ap1 zni
def znk:zx:=ovr [(zly,zis),(zd3,zcd)] noC
theorem znl:zq Tryz.prog zfw (zdv):=kn1 (σ:=znk) (hint:=znj) (by kernel_rfl) (zh zzc (zh zh3 zl)) fun _=>(by kernel_rfl)
def z1s (G_strings_IndexRune:List V→M V) (x0 x1:V):M V :=
 zb (
 zb (G_strings_IndexRune [x0,x1]) fun x7 =>
 zb (za (zu .geq x7 (Value.int .i64 0))) fun x8 =>
 ret (.ret [x8])
 ) fun o=>zbk o fun vs=>ret (zbi [(zd vs 0)])
def z1t:Hint:=(.seq [] .leaf (.seq [] .leaf .leaf))
def zew (G_strings_IndexRune:List V→M V):List V→M V:=ap2 (z1s G_strings_IndexRune)
theorem zqv {G_strings_IndexRune:List V→M V} (k_strings_IndexRune:zq Tryz.prog zy G_strings_IndexRune):zq Tryz.prog zin (zew G_strings_IndexRune):=kn2 (σ:=ovr [(zy,G_strings_IndexRune)] noC) (hint:=z1t) (by kernel_rfl) (zh k_strings_IndexRune zl) fun _ _=>(by kernel_rfl)
def zu1 (G_strings_IndexRune:List V→M V) (v4:List V):M Out :=
 zb (za (zd9 (zd v4 0))) fun x29 =>
 zb (za (zu .sub x29 (zd v4 2))) fun x31 =>
 zb (za (subS (zd v4 0) none (some x31))) fun x32 =>
 ret (.nxt [x32,(zd v4 1)])
def zu2 (G_strings_IndexRune:List V→M V) (v3:List V):M Out :=
 zb (
 zb ((zew G_strings_IndexRune) [(zd v3 1),(zd v3 2)]) fun x25 =>
 zb (za (un .not x25)) fun x26 =>
 zp x26 (
 ret (.brk 0 [(zd v3 0)])
 ) (
 ret (.nxt [(zd v3 0),(zd v3 1),(zd v3 3)])
 )
 ) fun o=>nx o (zu1 G_strings_IndexRune)
def zu3 (G_strings_IndexRune:List V→M V) (v2:List V):M Out :=
 zb (
 zb (za (zd9 (zd v2 0))) fun x12 =>
 zb (za (zu .sub x12 (Value.int .i64 1))) fun x13 =>
 zb (za (zjm (zd v2 0) x13)) fun x14 =>
 zb (za (cvi .i32 x14)) fun x15 =>
 zb (
 zb (za (zu .geq x15 (Value.int .i32 128))) fun x17 =>
 zp x17 (
 zb (zdv [(zd v2 0)]) fun x20 =>
 zb (za (ext 0 x20)) fun x21 =>
 zb (za (ext 1 x20)) fun x22 =>
 ret (.nxt [(zd v2 0),(zd v2 1),x21,x22])
 ) (
 ret (.nxt [(zd v2 0),(zd v2 1),x15,(Value.int .i64 1)])
 )
 ) fun o=>nx o (zu2 G_strings_IndexRune)
 ) fun o=>ret (zv 1 o)
def zu4 (G_strings_IndexRune:List V→M V) (vs:List V):M Out :=
 zb (
 zb (za (zd9 (zd vs 0))) fun x8 =>
 zb (za (zu .gtr x8 (Value.int .i64 0))) fun x9 =>
 zp x9 (
 ret (.nxt [(zd vs 0),(zd vs 1)])
 ) (
 ret (.brk 0 [(zd vs 0)])
 )
 ) fun o=>nx o (zu3 G_strings_IndexRune)
def zu5 (G_strings_IndexRune:List V→M V) (v5:List V):M Out :=
 ret (.ret [(zd v5 0)])
def zv9 (G_strings_IndexRune:List V→M V) (x0 x1:V):M V :=
 zb (
 zb (
 zb (
 zba zbm (zu4 G_strings_IndexRune) [x0,x1]
 ) fun o=>ret (zv 0 o)
 ) fun o=>nx o (zu5 G_strings_IndexRune)
 ) fun o=>zbk o fun vs=>ret (zbi [(zd vs 0)])
def zwa:Hint:=(.seq [] .leaf (.seq [0] (.blk (.loop [0,1] (.seq [0,1] (.seq [] .leaf (.cond .leaf .leaf)) (.blk (.seq [] .leaf (.seq [0,1,5,6] (.seq [] .leaf (.cond .leaf .leaf)) (.seq [0,1,6] (.seq [] .leaf (.cond .leaf .leaf)) .leaf))))))) (.seq [] .leaf .leaf)))
def zhm (G_strings_IndexRune:List V→M V):List V→M V:=ap2 (zv9 G_strings_IndexRune)
theorem zwb {G_strings_IndexRune:List V→M V} (k_strings_IndexRune:zq Tryz.prog zy G_strings_IndexRune):zq Tryz.prog zkj (zhm G_strings_IndexRune):=kn2 (σ:=ovr [(zfw,zdv),(zin,zew G_strings_IndexRune)] noC) (hint:=zwa) (by kernel_rfl) (zh znl (zh (zqv k_strings_IndexRune) zl)) fun _ _=>(by kernel_rfl)
def zwc (G_strings_IndexRune:List V→M V) (v3:List V):M Out :=
 zb (za (subS (zd v3 0) (some (zd v3 2)) none)) fun x21 =>
 ret (.nxt [x21,(zd v3 1)])
def zwd (G_strings_IndexRune:List V→M V) (v2:List V):M Out :=
 zb (
 zb (zcd [(zd v2 0)]) fun x12 =>
 zb (za (ext 0 x12)) fun x13 =>
 zb (za (ext 1 x12)) fun x14 =>
 zb (
 zb ((zew G_strings_IndexRune) [(zd v2 1),x13]) fun x17 =>
 zb (za (un .not x17)) fun x18 =>
 zp x18 (
 ret (.brk 0 [(zd v2 0)])
 ) (
 ret (.nxt [(zd v2 0),(zd v2 1),x14])
 )
 ) fun o=>nx o (zwc G_strings_IndexRune)
 ) fun o=>ret (zv 1 o)
def zwe (G_strings_IndexRune:List V→M V) (vs:List V):M Out :=
 zb (
 zb (za (zd9 (zd vs 0))) fun x8 =>
 zb (za (zu .gtr x8 (Value.int .i64 0))) fun x9 =>
 zp x9 (
 ret (.nxt [(zd vs 0),(zd vs 1)])
 ) (
 ret (.brk 0 [(zd vs 0)])
 )
 ) fun o=>nx o (zwd G_strings_IndexRune)
def zwf (G_strings_IndexRune:List V→M V) (v4:List V):M Out :=
 ret (.ret [(zd v4 0)])
def zxw (G_strings_IndexRune:List V→M V) (x0 x1:V):M V :=
 zb (
 zb (
 zb (
 zba zbm (zwe G_strings_IndexRune) [x0,x1]
 ) fun o=>ret (zv 0 o)
 ) fun o=>nx o (zwf G_strings_IndexRune)
 ) fun o=>zbk o fun vs=>ret (zbi [(zd vs 0)])
def zxx:Hint:=(.seq [] .leaf (.seq [0] (.blk (.loop [0,1] (.seq [0,1] (.seq [] .leaf (.cond .leaf .leaf)) (.blk (.seq [] .leaf (.seq [0,1,6] (.seq [] .leaf (.cond .leaf .leaf)) .leaf)))))) (.seq [] .leaf .leaf)))
def zia (G_strings_IndexRune:List V→M V):List V→M V:=ap2 (zxw G_strings_IndexRune)
theorem zxy {G_strings_IndexRune:List V→M V} (k_strings_IndexRune:zq Tryz.prog zy G_strings_IndexRune):zq Tryz.prog zli (zia G_strings_IndexRune):=kn2 (σ:=ovr [(zd3,zcd),(zin,zew G_strings_IndexRune)] noC) (hint:=zxx) (by kernel_rfl) (zh zh3 (zh (zqv k_strings_IndexRune) zl)) fun _ _=>(by kernel_rfl)
def zbg0 (G_strings_IndexRune:List V→M V) (v3:List V):M Out :=
 zb ((zhm G_strings_IndexRune) [(zd v3 0),(zd v3 1)]) fun x40 =>
 zb ((zia G_strings_IndexRune) [x40,(zd v3 1)]) fun x42 =>
 ret (.ret [x42])
def z3a (G_strings_IndexRune:List V→M V) (v2:List V):M Out :=
 zb (
 zb (zgz [(zd v2 1)]) fun x31 =>
 zb (za (ext 0 x31)) fun x32 =>
 zb (za (ext 1 x31)) fun x33 =>
 zb (newc (List.replicate 256 (Value.bool false))) fun x5 =>
 zb (stn 256 x5 x32) fun _ =>
 zp x33 (
 zb (zf0 [(zd v2 0),x5]) fun x36 =>
 zb (zgg [x36,x5]) fun x37 =>
 ret (.ret [x37])
 ) (
 ret (.nxt [(zd v2 0),(zd v2 1)])
 )
 ) fun o=>nx o (zbg0 G_strings_IndexRune)
def z3b (G_strings_IndexRune:List V→M V) (vs:List V):M Out :=
 zb (
 zb (za (zd9 (zd vs 1))) fun x15 =>
 zb (za (zu .eql x15 (Value.int .i64 1))) fun x16 =>
 zb (gd x16 true (za (some (zd vs 1)))) fun x18 =>
 zb (gd x16 true (za (zjm x18 (Value.int .i64 0)))) fun x19 =>
 zb (gd x16 true (za (zu .lss x19 (Value.int .u8 128)))) fun x20 =>
 zb (za (z8 x16 x20 (Value.bool false))) fun x21 =>
 zp x21 (
 zb (za (zjm (zd vs 1) (Value.int .i64 0))) fun x24 =>
 zb (za (zjm (zd vs 1) (Value.int .i64 0))) fun x27 =>
 zb (zi8 [(zd vs 0),x24]) fun x25 =>
 zb (zj0 [x25,x27]) fun x28 =>
 ret (.ret [x28])
 ) (
 ret (.nxt [(zd vs 0),(zd vs 1)])
 )
 ) fun o=>nx o (z3a G_strings_IndexRune)
def zqw (G_strings_IndexRune:List V→M V) (x0 x1:V):M V :=
 zb (
 zb (
 zb (za (zu .eql x0 (Value.string ⟨#[]⟩))) fun x8 =>
 zb (gd x8 false (za (some x1))) fun x10 =>
 zb (gd x8 false (za (zu .eql x10 (Value.string ⟨#[]⟩)))) fun x11 =>
 zb (za (z8 x8 (Value.bool true) x11)) fun x12 =>
 zp x12 (
 ret (.ret [x0])
 ) (
 ret (.nxt [x0,x1])
 )
 ) fun o=>nx o (z3b G_strings_IndexRune)
 ) fun o=>zbk o fun vs=>ret (zbi [(zd vs 0)])
def zbiw:Hint:=(.seq [] .leaf (.seq [0,1] (.seq [] .leaf (.cond (.seq [] .leaf .leaf) .leaf)) (.seq [0,1] (.seq [] .leaf (.cond (.seq [] (.reg [0,1,2,4,5,3,6,7] []) .leaf) .leaf)) (.seq [0,1] (.seq [] .leaf (.seq [] .leaf (.cond (.seq [] .leaf .leaf) .leaf))) (.seq [] .leaf .leaf)))))
def zf9 (G_strings_IndexRune:List V→M V):List V→M V:=ap2 (zqw G_strings_IndexRune)
theorem zwg {G_strings_IndexRune:List V→M V} (k_strings_IndexRune:zq Tryz.prog zy G_strings_IndexRune):zq Tryz.prog znd (zf9 G_strings_IndexRune):=kn2 (σ:=ovr [(zny,zi8),(zoo,zj0),(zop,zgz),(zlw,zf0),(znz,zgg),(zkj,zhm G_strings_IndexRune),(zli,zia G_strings_IndexRune)] noC) (hint:=zbiw) (by kernel_rfl) (zh z0o (zh z1p (zh z1r (zh zy9 (zh z0u (zh (zwb k_strings_IndexRune) (zh (zxy k_strings_IndexRune) zl))))))) fun _ _=>(by kernel_rfl)
def zwh (G_strings_IndexRune:List V→M V) (G_strconv_Atoi:List V→M V) (vs:List V):M Out :=
 zb (G_strconv_Atoi [(zd vs 0)]) fun x30 =>
 zb (za (ext 0 x30)) fun x31 =>
 zb (za (ext 1 x30)) fun x32 =>
 zb (za (zer false (zef .i x32))) fun x35 =>
 zb (gd x35 true (za (some x31))) fun x37 =>
 zb (gd x35 true (za (zu .leq x37 (Value.int .i64 1000000000)))) fun x38 =>
 zb (za (z8 x35 x38 (Value.bool false))) fun x39 =>
 ret (.ret [x31,x39])
def zos (G_strings_IndexRune:List V→M V) (G_strconv_Atoi:List V→M V) (x0:V):M V :=
 zb (
 zb (
 zb (za (zu .eql x0 (Value.string ⟨#[]⟩))) fun x7 =>
 zb (gd x7 false (za (some x0))) fun x9 =>
 zb (gd x7 false (za (zd9 x9))) fun x10 =>
 zb (gd x7 false (za (zu .gtr x10 (Value.int .i64 10)))) fun x11 =>
 zb (za (z8 x7 (Value.bool true) x11)) fun x12 =>
 zb (gd x12 false (za (some x0))) fun x14 =>
 zb (gd x12 false ((zf9 G_strings_IndexRune) [x14,(Value.string ⟨#[48,49,50,51,52,53,54,55,56,57]⟩)])) fun x15 =>
 zb (gd x12 false (za (zu .neq x15 (Value.string ⟨#[]⟩)))) fun x16 =>
 zb (za (z8 x12 (Value.bool true) x16)) fun x17 =>
 zb (gd x17 false (za (some x0))) fun x19 =>
 zb (gd x17 false (za (zd9 x19))) fun x20 =>
 zb (gd x17 false (za (zu .gtr x20 (Value.int .i64 1)))) fun x21 =>
 zb (gd x17 false (za (some x21))) fun x22 =>
 zb (gd x22 true (za (some x0))) fun x23 =>
 zb (gd x22 true (za (zjm x23 (Value.int .i64 0)))) fun x24 =>
 zb (gd x22 true (za (zu .eql x24 (Value.int .u8 48)))) fun x25 =>
 zb (gd x17 false (za (z8 x22 x25 (Value.bool false)))) fun x26 =>
 zb (za (z8 x17 (Value.bool true) x26)) fun x27 =>
 zp x27 (
 ret (.ret [(Value.int .i64 0),(Value.bool false)])
 ) (
 ret (.nxt [x0])
 )
 ) fun o=>nx o (zwh G_strings_IndexRune G_strconv_Atoi)
 ) fun o=>zbk o fun vs=>ret (zbi [(zd vs 0),(zd vs 1)])
def zbkp:Hint:=(.seq [] .leaf (.seq [0] (.seq [] .leaf (.cond (.seq [] .leaf .leaf) .leaf)) (.seq [] .leaf (.seq [] .leaf .leaf))))
def zg7 (G_strings_IndexRune:List V→M V) (G_strconv_Atoi:List V→M V):List V→M V:=ap1 (zos G_strings_IndexRune G_strconv_Atoi)
theorem zzd {G_strings_IndexRune:List V→M V} {G_strconv_Atoi:List V→M V} (k_strings_IndexRune:zq Tryz.prog zy G_strings_IndexRune) (k_strconv_Atoi:zq Tryz.prog zbp G_strconv_Atoi):zq Tryz.prog zo5 (zg7 G_strings_IndexRune G_strconv_Atoi):=kn1 (σ:=ovr [(znd,zf9 G_strings_IndexRune),(zbp,G_strconv_Atoi)] noC) (hint:=zbkp) (by kernel_rfl) (zh (zwg k_strings_IndexRune) (zh k_strconv_Atoi zl)) fun _=>(by kernel_rfl)
def z3c (G_strings_IndexRune:List V→M V) (G_strconv_Atoi:List V→M V) (v3:List V):M Out :=
 zb (zcc 1 1 (rep 1 [Value.int .i64 0]) [(0,1,(zd v3 2))]) fun x26 =>
 zb (zd0 1 8 (zd v3 1) x26) fun x27 =>
 ret (.nxt [(zd v3 0),x27,(zd v3 3),(zd v3 4),(zd v3 5)])
def z3d (G_strings_IndexRune:List V→M V) (G_strconv_Atoi:List V→M V) (v4:List V):M Out :=
 zb (za (zu .add (zd v4 4) (Value.int .i64 1))) fun x28 =>
 ret (.nxt [(zd v4 0),(zd v4 1),(zd v4 2),(zd v4 3),x28])
def z3e (G_strings_IndexRune:List V→M V) (G_strconv_Atoi:List V→M V) (v2:List V):M Out :=
 zb (
 zb (
 zb (za (zr 1 (zd v2 2) (zd v2 4))) fun x15 =>
 zb (zz x15) fun x16 =>
 zb ((zg7 G_strings_IndexRune G_strconv_Atoi) [x16]) fun x19 =>
 zb (za (ext 0 x19)) fun x20 =>
 zb (za (ext 1 x19)) fun x21 =>
 zb (
 zb (za (un .not x21)) fun x23 =>
 zp x23 (
 ret (.ret [(Value.slice none 0 0),(Value.bool false)])
 ) (
 ret (.nxt [(zd v2 0),(zd v2 1),x20,(zd v2 2),(zd v2 3),(zd v2 4)])
 )
 ) fun o=>nx o (z3c G_strings_IndexRune G_strconv_Atoi)
 ) fun o=>ret (zv 1 o)
 ) fun o=>nx o (z3d G_strings_IndexRune G_strconv_Atoi)
def zo6 (G_strings_IndexRune:List V→M V) (G_strconv_Atoi:List V→M V) (vs:List V):M Out :=
 zb (za (zu .lss (zd vs 4) (zd vs 3))) fun x14 =>
 zb (
 zp x14 (
 ret (.nxt [(zd vs 0),(zd vs 1),(zd vs 2),(zd vs 3),(zd vs 4)])
 ) (
 ret (.brk 0 [(zd vs 0),(zd vs 1)])
 )
 ) fun o=>nx o (z3e G_strings_IndexRune G_strconv_Atoi)
def zub (G_strings_IndexRune:List V→M V) (G_strconv_Atoi:List V→M V) (v5:List V):M Out :=
 zb (za (zw (zd v5 1))) fun x31 =>
 zb (za (zu .eql x31 (zd v5 0))) fun x33 =>
 ret (.ret [(zd v5 1),x33])
def zwi (G_strings_IndexRune:List V→M V) (G_strconv_Atoi:List V→M V) (x0 x1:V):M V :=
 zb (
 zb (
 zb (za (zw x0)) fun x12 =>
 zb (
 zba zbm (zo6 G_strings_IndexRune G_strconv_Atoi) [x1,(Value.slice none 0 0),x0,x12,(Value.int .i64 0)]
 ) fun o=>ret (zv 0 o)
 ) fun o=>nx o (zub G_strings_IndexRune G_strconv_Atoi)
 ) fun o=>zbk o fun vs=>ret (zbi [(zd vs 0),(zd vs 1)])
def zbix:Hint:=(.seq [] .leaf (.seq [] .leaf (.seq [1,6] (.seq [] .leaf (.blk (.loop [1,6,11,12,13] (.seq [] .leaf (.seq [1,6,11,12,13] (.cond .leaf .leaf) (.seq [1,6,11,12,13] (.blk (.seq [] .leaf (.seq [] .leaf (.seq [1,6,9,11,12,13] (.seq [] .leaf (.cond (.seq [] .leaf .leaf) .leaf)) .leaf)))) .leaf)))))) (.seq [] .leaf .leaf))))
def zc4 (G_strings_IndexRune:List V→M V) (G_strconv_Atoi:List V→M V):List V→M V:=ap2 (zwi G_strings_IndexRune G_strconv_Atoi)
theorem zmf {G_strings_IndexRune:List V→M V} {G_strconv_Atoi:List V→M V} (k_strings_IndexRune:zq Tryz.prog zy G_strings_IndexRune) (k_strconv_Atoi:zq Tryz.prog zbp G_strconv_Atoi):zq Tryz.prog zhd (zc4 G_strings_IndexRune G_strconv_Atoi):=kn2 (σ:=ovr [(zo5,zg7 G_strings_IndexRune G_strconv_Atoi)] noC) (hint:=zbix) (by kernel_rfl) (zh (zzd k_strings_IndexRune k_strconv_Atoi) zl) fun _ _=>(by kernel_rfl)
def zk5 (G_strings_IndexRune:List V→M V) (G_strconv_Atoi:List V→M V) (v2:List V):M Out :=
 zh0 fun h0 =>
 zb (za (zb2 (zd v2 0))) fun x50 =>
 zb (za (zf 9 x50)) fun x51 =>
 zb (za (zr 1 (zd v2 1) (Value.int .i64 0))) fun x54 =>
 zb (zz x51) fun x52 =>
 zb (zz x54) fun x55 =>
 zbw (zcc 1 1 (rep 1 [Value.string ⟨#[]⟩]) [(0,1,x55)]) fun ha x56 h1 =>
 zbw (zd0 1 16 x52 x56) fun ha_2 x57 h2 =>
 zb (za (zb2 (zd v2 0))) fun x58 =>
 zb (za (zf 9 x58)) fun x59 =>
 zbw (st1 x59 x57) fun ha_3 u h3 =>
 zdj (chk (zz x51) h1 x52) <|
 ret (.ret [(Value.bool true)])
def zhu (G_strings_IndexRune:List V→M V) (G_strconv_Atoi:List V→M V) (vs:List V):M Out :=
 zb (
 zb (za (zr 1 (zd vs 1) (Value.int .i64 0))) fun x16 =>
 zb (zz x16) fun x17 =>
 zb (
 zb (za (zu .eql x17 (Value.string ⟨#[109,105,108,108,105,115]⟩))) fun x19 =>
 zp x19 (
 zb (za (zr 1 (zd vs 2) (Value.int .i64 0))) fun x22 =>
 zb (zz x22) fun x23 =>
 zb (za (zb2 (zd vs 0))) fun x24 =>
 zb (za (zf 0 x24)) fun x25 =>
 zb (za (zf 0 x25)) fun x26 =>
 zb (za (zf 6 x26)) fun x27 =>
 zb (st1 x27 x23) fun _ =>
 ret (.nxt [(zd vs 0),(zd vs 1)])
 ) (
 zb (za (zu .eql x17 (Value.string ⟨#[102,114,97,109,101]⟩))) fun x29 =>
 zp x29 (
 zb (za (zr 1 (zd vs 2) (Value.int .i64 0))) fun x32 =>
 zb (zz x32) fun x33 =>
 zb (za (zb2 (zd vs 0))) fun x34 =>
 zb (za (zf 0 x34)) fun x35 =>
 zb (za (zf 0 x35)) fun x36 =>
 zb (za (zf 3 x36)) fun x37 =>
 zb (za (zf 0 x37)) fun x38 =>
 zb (st1 x38 x33) fun _ =>
 ret (.nxt [(zd vs 0),(zd vs 1)])
 ) (
 zb (za (zu .eql x17 (Value.string ⟨#[105,100,108,101]⟩))) fun x40 =>
 zp x40 (
 zb (za (zr 1 (zd vs 2) (Value.int .i64 0))) fun x43 =>
 zb (zz x43) fun x44 =>
 zb (za (zb2 (zd vs 0))) fun x45 =>
 zb (za (zf 0 x45)) fun x46 =>
 zb (za (zf 8 x46)) fun x47 =>
 zb (st1 x47 x44) fun _ =>
 ret (.nxt [(zd vs 0),(zd vs 1)])
 ) (
 ret (.nxt [(zd vs 0),(zd vs 1)])
 )
 )
 )
 ) fun o=>ret (zv 0 o)
 ) fun o=>nx o (zk5 G_strings_IndexRune G_strconv_Atoi)
def zmg (G_strings_IndexRune:List V→M V) (G_strconv_Atoi:List V→M V) (x0 x1:V):M V :=
 zb (
 zb (za (zh6 1 x1 (some (Value.int .i64 1)) none)) fun x9 =>
 zb ((zc4 G_strings_IndexRune G_strconv_Atoi) [x9,(Value.int .i64 1)]) fun x10 =>
 zb (za (ext 0 x10)) fun x11 =>
 zb (za (ext 1 x10)) fun x12 =>
 zb (
 zb (za (un .not x12)) fun x14 =>
 zp x14 (
 ret (.ret [(Value.bool false)])
 ) (
 ret (.nxt [x0,x1,x11])
 )
 ) fun o=>nx o (zhu G_strings_IndexRune G_strconv_Atoi)
 ) fun o=>zbk o fun vs=>ret (zbi [(zd vs 0)])
def z41:Hint:=(.seq [] .leaf (.seq [] .leaf (.seq [0,1,5] (.seq [] .leaf (.cond (.seq [] .leaf .leaf) .leaf)) (.seq [0,1] (.seq [] .leaf (.blk (.seq [] .leaf (.cond .leaf (.seq [] .leaf (.cond .leaf (.seq [] .leaf (.cond .leaf .leaf)))))))) (.seq [] (.reg [0,1,2,3,5,6,4,7,8,9,10,11,12] []) (.seq [] .leaf .leaf))))))
def zei (G_strings_IndexRune:List V→M V) (G_strconv_Atoi:List V→M V):List V→M V:=ap2 (zmg G_strings_IndexRune G_strconv_Atoi)
theorem z42 {G_strings_IndexRune:List V→M V} {G_strconv_Atoi:List V→M V} (k_strings_IndexRune:zq Tryz.prog zy G_strings_IndexRune) (k_strconv_Atoi:zq Tryz.prog zbp G_strconv_Atoi):zq Tryz.prog zbt (zei G_strings_IndexRune G_strconv_Atoi):=kn2 (σ:=ovr [(zhd,zc4 G_strings_IndexRune G_strconv_Atoi)] noC) (hint:=z41) (by kernel_rfl) (zh (zmf k_strings_IndexRune k_strconv_Atoi) zl) fun _ _=>(by kernel_rfl)
def ziy (v3:List V):M Out :=
 zb (za (zu .add (zd v3 3) (Value.int .i64 1))) fun x18 =>
 ret (.nxt [(zd v3 0),(zd v3 1),(zd v3 2),x18])
def zfc (v2:List V):M Out :=
 zb (
 zb (
 zb (za (zr 1 (zd v2 0) (zd v2 3))) fun x14 =>
 zb (zz x14) fun x15 =>
 zb (za (zu .eql (zd v2 1) x15)) fun x16 =>
 zp x16 (
 ret (.ret [(zd v2 3)])
 ) (
 ret (.nxt [(zd v2 0),(zd v2 1),(zd v2 2),(zd v2 3)])
 )
 ) fun o=>ret (zv 1 o)
 ) fun o=>nx o ziy
def zdg (vs:List V):M Out :=
 zb (za (zu .lss (zd vs 3) (zd vs 2))) fun x9 =>
 zb (
 zp x9 (
 ret (.nxt [(zd vs 0),(zd vs 1),(zd vs 2),(zd vs 3)])
 ) (
 ret (.brk 0 [])
 )
 ) fun o=>nx o zfc
def ziz (v4:List V):M Out :=
 ret (.ret [(Value.int .i64 (-1))])
def zfm (x0 x1:V):M V :=
 zb (
 zb (
 zb (za (zw x0)) fun x7 =>
 zb (
 zba zbm zdg [x0,x1,x7,(Value.int .i64 0)]
 ) fun o=>ret (zv 0 o)
 ) fun o=>nx o ziz
 ) fun o=>zbk o fun vs=>ret (zbi [(zd vs 0)])
def zst:Hint:=(.seq [] .leaf (.seq [] (.seq [] .leaf (.blk (.loop [0,1,7,8] (.seq [] .leaf (.seq [0,1,7,8] (.cond .leaf .leaf) (.seq [0,1,7,8] (.blk (.seq [] .leaf (.seq [] .leaf (.cond (.seq [] .leaf .leaf) .leaf)))) .leaf)))))) (.seq [] .leaf .leaf)))
def zbg:List V→M V:=ap2 zfm
theorem zdw:zq Tryz.prog zcl (zbg):=kn2 (σ:=ovr [] noC) (hint:=zst) (by kernel_rfl) zl fun _ _=>(by kernel_rfl)
def z43 (x0:V):M V :=
 zb (
 zb (za (subA 4 1 (ptr gid_conf_types 0) (some (Value.int .i64 1)) none)) fun x5 =>
 zb (zbg [x5,x0]) fun x7 =>
 zb (za (zu .add x7 (Value.int .i64 1))) fun x8 =>
 zb (za (zu .gtr x8 (Value.int .i64 0))) fun x11 =>
 ret (.ret [x8,x11])
 ) fun o=>zbk o fun vs=>ret (zbi [(zd vs 0),(zd vs 1)])
def zbqp:Hint:=(.seq [] .leaf (.seq [] .leaf (.seq [] .leaf .leaf)))
def zp5:List V→M V:=ap1 z43
def zbqq:zx:=ovr [(zcl,zbg)] noC
theorem zbf7:zq Tryz.prog zy3 (zp5):=kn1 (σ:=zbqq) (hint:=zbqp) (by kernel_rfl) (zh zdw zl) fun _=>(by kernel_rfl)
def zty (vs:List V):M Out :=
 zb (za (zr 1 (zd vs 1) (Value.int .i64 1))) fun x12 =>
 zb (zz x12) fun x13 =>
 zb (zp5 [x13]) fun x14 =>
 zb (za (ext 0 x14)) fun x15 =>
 zb (za (ext 1 x14)) fun x16 =>
 zh0 fun h0 =>
 zb (za (zb2 (zd vs 0))) fun x19 =>
 zb (za (zf 0 x19)) fun x20 =>
 zb (za (zf 0 x20)) fun x21 =>
 zb (za (zf 0 x21)) fun x22 =>
 zb (za (zr 1 (zd vs 1) (Value.int .i64 0))) fun x26 =>
 zb (zz x22) fun x23 =>
 zb (zz x26) fun x27 =>
 zb (za (zu .eql x27 (Value.string ⟨#[111,117,116]⟩))) fun x28 =>
 zb (za (build [Value.int .i64 0,Value.bool false] [(0,1,x15),(1,1,x28)])) fun x29 =>
 zbw (zcc 2 1 (rep 1 [Value.int .i64 0,Value.bool false]) [(0,2,x29)]) fun ha x30 h1 =>
 zbw (zd0 2 16 x23 x30) fun ha_2 x31 h2 =>
 zb (za (zb2 (zd vs 0))) fun x32 =>
 zb (za (zf 0 x32)) fun x33 =>
 zb (za (zf 0 x33)) fun x34 =>
 zb (za (zf 0 x34)) fun x35 =>
 zbw (st1 x35 x31) fun ha_3 u h3 =>
 zdj (chk (zz x22) h1 x23) <|
 ret (.ret [x16])
def zi1 (x0 x1:V):M V :=
 zb (
 zb (
 zb (za (zw x1)) fun x8 =>
 zb (za (zu .neq x8 (Value.int .i64 2))) fun x9 =>
 zp x9 (
 ret (.ret [(Value.bool false)])
 ) (
 ret (.nxt [x0,x1])
 )
 ) fun o=>nx o zty
 ) fun o=>zbk o fun vs=>ret (zbi [(zd vs 0)])
def z8e:Hint:=(.seq [] .leaf (.seq [0,1] (.seq [] .leaf (.cond (.seq [] .leaf .leaf) .leaf)) (.seq [] .leaf (.seq [] (.reg [0,1,2,3,4,5,7,8,9,6,10,11,12,13,14,15,16,17,18,19] []) (.seq [] .leaf .leaf)))))
def ze5:List V→M V:=ap2 zi1
def z8f:zx:=ovr [(zy3,zp5)] noC
theorem z8g:zq Tryz.prog zb9 (ze5):=kn2 (σ:=z8f) (hint:=z8e) (by kernel_rfl) (zh zbf7 zl) fun _ _=>(by kernel_rfl)
def zmh (G_strings_IndexRune:List V→M V) (G_strconv_Atoi:List V→M V) (vs:List V):M Out :=
 ret (.ret [(zd vs 0)])
def zn8 (G_strings_IndexRune:List V→M V) (G_strconv_Atoi:List V→M V) (x0 x1:V):M V :=
 zb (
 zb (za (zh6 1 x1 (some (Value.int .i64 1)) none)) fun x9 =>
 zb ((zc4 G_strings_IndexRune G_strconv_Atoi) [x9,(Value.int .i64 2)]) fun x10 =>
 zb (za (ext 0 x10)) fun x11 =>
 zb (za (ext 1 x10)) fun x12 =>
 zb (
 zp x12 (
 zh0 fun h0 =>
 zb (za (zb2 x0)) fun x16 =>
 zb (za (zf 0 x16)) fun x17 =>
 zb (za (zf 0 x17)) fun x18 =>
 zb (za (zf 1 x18)) fun x19 =>
 zb (za (zr 1 x11 (Value.int .i64 0))) fun x22 =>
 zb (za (zr 1 x11 (Value.int .i64 1))) fun x25 =>
 zb (za (zr 1 x1 (Value.int .i64 0))) fun x28 =>
 zb (zz x19) fun x20 =>
 zb (zz x22) fun x23 =>
 zb (zz x25) fun x26 =>
 zb (zz x28) fun x29 =>
 zb (za (zu .eql x29 (Value.string ⟨#[119,114,105,116,101]⟩))) fun x30 =>
 zb (za (build [Value.int .i64 0,Value.int .i64 0,Value.bool false] [(0,1,x23),(1,1,x26),(2,1,x30)])) fun x31 =>
 zbw (zcc 3 1 (rep 1 [Value.int .i64 0,Value.int .i64 0,Value.bool false]) [(0,3,x31)]) fun ha x32 h1 =>
 zbw (zd0 3 24 x20 x32) fun ha_2 x33 h2 =>
 zb (za (zb2 x0)) fun x34 =>
 zb (za (zf 0 x34)) fun x35 =>
 zb (za (zf 0 x35)) fun x36 =>
 zb (za (zf 1 x36)) fun x37 =>
 zbw (st1 x37 x33) fun ha_3 u h3 =>
 zdj (chk (zz x19) h1 x20) <|
 ret (.nxt [x12])
 ) (
 ret (.nxt [x12])
 )
 ) fun o=>nx o (zmh G_strings_IndexRune G_strconv_Atoi)
 ) fun o=>zbk o fun vs=>ret (zbi [(zd vs 0)])
def z8h:Hint:=(.seq [] .leaf (.seq [] .leaf (.seq [6] (.seq [] .leaf (.cond (.reg [0,1,2,3,4,5,7,8,10,11,13,14,6,9,12,15,16,17,18,19,20,21,22,23,24] []) .leaf)) (.seq [] .leaf .leaf))))
def ze6 (G_strings_IndexRune:List V→M V) (G_strconv_Atoi:List V→M V):List V→M V:=ap2 (zn8 G_strings_IndexRune G_strconv_Atoi)
theorem z8i {G_strings_IndexRune:List V→M V} {G_strconv_Atoi:List V→M V} (k_strings_IndexRune:zq Tryz.prog zy G_strings_IndexRune) (k_strconv_Atoi:zq Tryz.prog zbp G_strconv_Atoi):zq Tryz.prog zca (ze6 G_strings_IndexRune G_strconv_Atoi):=kn2 (σ:=ovr [(zhd,zc4 G_strings_IndexRune G_strconv_Atoi)] noC) (hint:=z8h) (by kernel_rfl) (zh (zmf k_strings_IndexRune k_strconv_Atoi) zl) fun _ _=>(by kernel_rfl)
def zsu (v2:List V):M Out :=
 ret (.ret [(zd v2 0)])
def zsv (vs:List V):M Out :=
 zb (
 zb (za (capV (zd vs 0))) fun x10 =>
 zb (za (zw (zd vs 0))) fun x12 =>
 zb (za (zu .sub x10 x12)) fun x13 =>
 zb (za (zu .sub (zd vs 1) x13)) fun x14 =>
 zb (za (zu .gtr x14 (Value.int .i64 0))) fun x16 =>
 zp x16 (
 zb (za (capV (zd vs 0))) fun x19 =>
 zb (za (zh6 1 (zd vs 0) none (some x19))) fun x20 =>
 zb (appZ 1 16 [Value.string ⟨#[]⟩] x20 x14) fun x22 =>
 zb (za (zw (zd vs 0))) fun x24 =>
 zb (za (zh6 1 x22 none (some x24))) fun x25 =>
 ret (.nxt [x25])
 ) (
 ret (.nxt [(zd vs 0)])
 )
 ) fun o=>nx o zsu
def ztz (x0 x1:V):M V :=
 zb (
 zb (
 zb (za (zu .lss x1 (Value.int .i64 0))) fun x6 =>
 zp x6 (
 zb (za (some (Value.iface zcz (Value.string ⟨#[99,97,110,110,111,116,32,98,101,32,110,101,103,97,116,105,118,101]⟩)))) fun x7 =>
 zb (za ((none:Option V))) fun _ =>
 ret (.nxt [x0,x1])
 ) (
 ret (.nxt [x0,x1])
 )
 ) fun o=>nx o zsv
 ) fun o=>zbk o fun vs=>ret (zbi [(zd vs 0)])
def zt0:Hint:=(.seq [] .leaf (.seq [0,1] (.seq [] .leaf (.cond .leaf .leaf)) (.seq [0] (.seq [] .leaf (.seq [] .leaf (.cond .leaf .leaf))) (.seq [] .leaf .leaf))))
def zga:List V→M V:=ap2 ztz
theorem zt1:zq Tryz.prog zix (zga):=kn2 (σ:=ovr [] noC) (hint:=zt0) (by kernel_rfl) zl fun _ _=>(by kernel_rfl)
def zqx (v3:List V):M Out :=
 zb (za (zu .add (zd v3 4) (Value.int .i64 1))) fun x22 =>
 ret (.nxt [(zd v3 0),(zd v3 1),(zd v3 2),(zd v3 3),x22])
def zqy (v2:List V):M Out :=
 zb (
 zb (
 zb (za (zr 1 (zd v2 2) (zd v2 4))) fun x13 =>
 zb (zz x13) fun x14 =>
 zb (za (zw x14)) fun x17 =>
 zb (za (zu .add (zd v2 1) x17)) fun x18 =>
 zb (za (zu .lss x18 (Value.int .i64 0))) fun x20 =>
 zp x20 (
 zb (za (some (Value.iface zcz (Value.string ⟨#[108,101,110,32,111,117,116,32,111,102,32,114,97,110,103,101]⟩)))) fun x21 =>
 zb (za ((none:Option V))) fun _ =>
 ret (.nxt [(zd v2 0),x18,(zd v2 2),(zd v2 3),(zd v2 4)])
 ) (
 ret (.nxt [(zd v2 0),x18,(zd v2 2),(zd v2 3),(zd v2 4)])
 )
 ) fun o=>ret (zv 1 o)
 ) fun o=>nx o zqx
def zqz (vs:List V):M Out :=
 zb (za (zu .lss (zd vs 4) (zd vs 3))) fun x12 =>
 zb (
 zp x12 (
 ret (.nxt [(zd vs 0),(zd vs 1),(zd vs 2),(zd vs 3),(zd vs 4)])
 ) (
 ret (.brk 0 [(zd vs 0),(zd vs 1)])
 )
 ) fun o=>nx o zqy
def zq0 (v7:List V):M Out :=
 zb (za (zu .add (zd v7 3) (Value.int .i64 1))) fun x34 =>
 ret (.nxt [(zd v7 0),(zd v7 1),(zd v7 2),x34])
def zq1 (v6:List V):M Out :=
 zb (
 zb (
 zb (za (zr 1 (zd v6 1) (zd v6 3))) fun x29 =>
 zb (zz x29) fun x30 =>
 zb (zd0 1 16 (zd v6 0) x30) fun x33 =>
 ret (.nxt [x33,(zd v6 1),(zd v6 2),(zd v6 3)])
 ) fun o=>ret (zv 3 o)
 ) fun o=>nx o zq0
def zq2 (v5:List V):M Out :=
 zb (za (zu .lss (zd v5 3) (zd v5 2))) fun x28 =>
 zb (
 zp x28 (
 ret (.nxt [(zd v5 0),(zd v5 1),(zd v5 2),(zd v5 3)])
 ) (
 ret (.brk 2 [(zd v5 0)])
 )
 ) fun o=>nx o zq1
def zq3 (v8:List V):M Out :=
 ret (.ret [(zd v8 0)])
def zq4 (v4:List V):M Out :=
 zb (zga [(Value.slice none 0 0),(zd v4 1)]) fun x24 =>
 zb (
 zb (za (zw (zd v4 0))) fun x26 =>
 zb (
 zba zbm zq2 [x24,(zd v4 0),x26,(Value.int .i64 0)]
 ) fun o=>ret (zv 2 o)
 ) fun o=>nx o zq3
def zsa (x0:V):M V :=
 zb (
 zb (
 zb (za (zw x0)) fun x10 =>
 zb (
 zba zbm zqz [x0,(Value.int .i64 0),x0,x10,(Value.int .i64 0)]
 ) fun o=>ret (zv 0 o)
 ) fun o=>nx o zq4
 ) fun o=>zbk o fun vs=>ret (zbi [(zd vs 0)])
def zsb:Hint:=(.seq [] .leaf (.seq [] .leaf (.seq [0,3] (.seq [] .leaf (.blk (.loop [0,3,9,10,11] (.seq [] .leaf (.seq [0,3,9,10,11] (.cond .leaf .leaf) (.seq [0,3,9,10,11] (.blk (.seq [] .leaf (.seq [] .leaf (.seq [] .leaf (.cond .leaf .leaf))))) .leaf)))))) (.seq [] .leaf (.seq [6] (.seq [] .leaf (.blk (.loop [6,25,26,27] (.seq [] .leaf (.seq [6,25,26,27] (.cond .leaf .leaf) (.seq [6,25,26,27] (.blk (.seq [] .leaf .leaf)) .leaf)))))) (.seq [] .leaf .leaf))))))
def zdh:List V→M V:=ap1 zsa
def zsc:zx:=ovr [(zix,zga)] noC
theorem zsd:zq Tryz.prog zh1 (zdh):=kn1 (σ:=zsc) (hint:=zsb) (by kernel_rfl) (zh zt1 zl) fun _=>(by kernel_rfl)
def zn9 (G_strings_IndexRune:List V→M V) (G_strconv_Atoi:List V→M V) (v4:List V):M Out :=
 zh0 fun h0_2 =>
 zb (za (zb2 (zd v4 0))) fun x65 =>
 zb (za (zf 0 x65)) fun x66 =>
 zb (za (zf 0 x66)) fun x67 =>
 zb (za (zf 2 x67)) fun x68 =>
 zb (zz x68) fun x69 =>
 zb (ldn 5 (zd v4 1)) fun x70 =>
 zbw (zcc 5 1 (rep 1 [Value.int .i64 0,Value.int .i64 0,Value.int .i64 0,Value.int .i64 0,Value.int .i64 0]) [(0,5,x70)]) fun ha_4 x71 h1_2 =>
 zbw (zd0 5 40 x69 x71) fun ha_5 x72 h2_2 =>
 zb (za (zb2 (zd v4 0))) fun x73 =>
 zb (za (zf 0 x73)) fun x74 =>
 zb (za (zf 0 x74)) fun x75 =>
 zb (za (zf 2 x75)) fun x76 =>
 zbw (st1 x76 x72) fun ha_6 u_4 h3_2 =>
 zdj (chk (zz x68) h1_2 x69) <|
 ret (.ret [(Value.bool true)])
def zuo (G_strings_IndexRune:List V→M V) (G_strconv_Atoi:List V→M V) (v3:List V):M Out :=
 zh0 fun h0 =>
 zb (za (zr 1 (zd v3 3) (Value.int .i64 0))) fun x47 =>
 zb (za (zr 1 (zd v3 3) (Value.int .i64 1))) fun x50 =>
 zb (zz x47) fun x48 =>
 zb (za (zf 1 (zd v3 1))) fun x53 =>
 zb (zz x50) fun x51 =>
 zbw (st1 x53 x48) fun ha u h1 =>
 zb (za (zf 2 (zd v3 1))) fun x54 =>
 zbw (st1 x54 x51) fun ha_2 u_2 h2 =>
 zb (za (zf 3 (zd v3 1))) fun x55 =>
 zbw (st1 x55 (zd v3 2)) fun ha_3 u_3 h3 =>
 zdj (chk (zz x50) h1 x51) <|
 zb (
 zb (za (zw (zd v3 3))) fun x57 =>
 zb (za (zu .eql x57 (Value.int .i64 3))) fun x58 =>
 zp x58 (
 zb (za (zr 1 (zd v3 3) (Value.int .i64 2))) fun x60 =>
 zb (zz x60) fun x61 =>
 zb (za (zf 4 (zd v3 1))) fun x62 =>
 zb (st1 x62 x61) fun _ =>
 ret (.nxt [(zd v3 0),(zd v3 1)])
 ) (
 ret (.nxt [(zd v3 0),(zd v3 1)])
 )
 ) fun o=>nx o (zn9 G_strings_IndexRune G_strconv_Atoi)
def zup (G_strings_IndexRune:List V→M V) (G_strconv_Atoi:List V→M V) (v2:List V):M Out :=
 zb (za (zr 1 (zd v2 1) (Value.int .i64 3))) fun x23 =>
 zb (zz x23) fun x24 =>
 zb (zp5 [x24]) fun x25 =>
 zb (za (ext 0 x25)) fun x26 =>
 zb (za (ext 1 x25)) fun x27 =>
 zb (za (zh6 1 (zd v2 1) (some (Value.int .i64 1)) (some (Value.int .i64 3)))) fun x30 =>
 zb (za (zh6 1 (zd v2 1) (some (Value.int .i64 4)) none)) fun x32 =>
 zb (za (zu .sub (zd v2 3) (Value.int .i64 2))) fun x36 =>
 zb (zcc 1 2 (rep 2 [Value.slice none 0 0]) [(0,1,x30),(1,1,x32)]) fun x33 =>
 zb (zdh [x33]) fun x34 =>
 zb ((zc4 G_strings_IndexRune G_strconv_Atoi) [x34,x36]) fun x37 =>
 zb (za (ext 0 x37)) fun x38 =>
 zb (za (ext 1 x37)) fun x39 =>
 zb (
 zb (za (un .not x39)) fun x41 =>
 zb (gd x41 false (za (some x27))) fun x43 =>
 zb (gd x41 false (za (un .not x43))) fun x44 =>
 zb (za (z8 x41 (Value.bool true) x44)) fun x45 =>
 zp x45 (
 ret (.ret [(Value.bool false)])
 ) (
 ret (.nxt [(zd v2 0),(zd v2 2),x26,x38])
 )
 ) fun o=>nx o (zuo G_strings_IndexRune G_strconv_Atoi)
def zi2 (G_strings_IndexRune:List V→M V) (G_strconv_Atoi:List V→M V) (vs:List V):M Out :=
 zb (
 zb (za (zw (zd vs 1))) fun x18 =>
 zb (za (zu .neq x18 (zd vs 3))) fun x20 =>
 zp x20 (
 ret (.ret [(Value.bool false)])
 ) (
 ret (.nxt [(zd vs 0),(zd vs 1),(zd vs 2),(zd vs 3)])
 )
 ) fun o=>nx o (zup G_strings_IndexRune G_strconv_Atoi)
def zj2 (G_strings_IndexRune:List V→M V) (G_strconv_Atoi:List V→M V) (x0 x1:V):M V :=
 zb (
 zb (za (build [Value.int .i64 0,Value.int .i64 0,Value.int .i64 0,Value.int .i64 0,Value.int .i64 0] [(0,1,(Value.int .i64 1))])) fun x11 =>
 zb (newc [Value.int .i64 0,Value.int .i64 0,Value.int .i64 0,Value.int .i64 0,Value.int .i64 0]) fun x5 =>
 zb (stn 5 x5 x11) fun _ =>
 zb (
 zb (za (zr 1 x1 (Value.int .i64 0))) fun x13 =>
 zb (zz x13) fun x14 =>
 zb (za (zu .eql x14 (Value.string ⟨#[113,117,101,117,101]⟩))) fun x15 =>
 zp x15 (
 zb (za (zf 0 x5)) fun x16 =>
 zb (st1 x16 (Value.int .i64 2)) fun _ =>
 ret (.nxt [x0,x1,x5,(Value.int .i64 5)])
 ) (
 ret (.nxt [x0,x1,x5,(Value.int .i64 4)])
 )
 ) fun o=>nx o (zi2 G_strings_IndexRune G_strconv_Atoi)
 ) fun o=>zbk o fun vs=>ret (zbi [(zd vs 0)])
def zbaw:Hint:=(.seq [] .leaf (.seq [] .leaf (.seq [] .leaf (.seq [0,1,5,6] (.seq [] .leaf (.cond .leaf .leaf)) (.seq [0,1,5,6] (.seq [] .leaf (.cond (.seq [] .leaf .leaf) .leaf)) (.seq [] .leaf (.seq [] (.reg [0,1,2,3,6,7,4,5,8,9,10,11,12,13] []) (.seq [0,5,7,9] (.seq [] .leaf (.cond (.seq [] .leaf .leaf) .leaf)) (.seq [] (.reg [0,1,3,4,6,2,7,5,8,9,10,11,12] []) (.seq [0,5] (.seq [] .leaf (.cond .leaf .leaf)) (.seq [] (.reg [0,1,2,3,4,5,6,7,8,9,10,11,12,13,14] []) (.seq [] .leaf .leaf))))))))))))
def zfn (G_strings_IndexRune:List V→M V) (G_strconv_Atoi:List V→M V):List V→M V:=ap2 (zj2 G_strings_IndexRune G_strconv_Atoi)
theorem zbax {G_strings_IndexRune:List V→M V} {G_strconv_Atoi:List V→M V} (k_strings_IndexRune:zq Tryz.prog zy G_strings_IndexRune) (k_strconv_Atoi:zq Tryz.prog zbp G_strconv_Atoi):zq Tryz.prog zcj (zfn G_strings_IndexRune G_strconv_Atoi):=kn2 (σ:=ovr [(zy3,zp5),(zh1,zdh),(zhd,zc4 G_strings_IndexRune G_strconv_Atoi)] noC) (hint:=zbaw) (by kernel_rfl) (zh zbf7 (zh zsd (zh (zmf k_strings_IndexRune k_strconv_Atoi) zl))) fun _ _=>(by kernel_rfl)
def zk6 (G_strings_IndexRune:List V→M V) (G_strconv_Atoi:List V→M V) (vs:List V):M Out :=
 ret (.ret [(zd vs 0)])
def zmi (G_strings_IndexRune:List V→M V) (G_strconv_Atoi:List V→M V) (x0 x1:V):M V :=
 zb (
 zb (za (zh6 1 x1 (some (Value.int .i64 1)) none)) fun x9 =>
 zb ((zc4 G_strings_IndexRune G_strconv_Atoi) [x9,(Value.int .i64 3)]) fun x10 =>
 zb (za (ext 0 x10)) fun x11 =>
 zb (za (ext 1 x10)) fun x12 =>
 zb (
 zp x12 (
 zh0 fun h0 =>
 zb (za (zb2 x0)) fun x16 =>
 zb (za (zf 0 x16)) fun x17 =>
 zb (za (zf 0 x17)) fun x18 =>
 zb (za (zf 3 x18)) fun x19 =>
 zb (za (zf 1 x19)) fun x20 =>
 zb (za (zr 1 x11 (Value.int .i64 0))) fun x23 =>
 zb (za (zr 1 x11 (Value.int .i64 1))) fun x26 =>
 zb (za (zr 1 x11 (Value.int .i64 2))) fun x29 =>
 zb (zz x20) fun x21 =>
 zb (zz x23) fun x24 =>
 zb (zz x26) fun x27 =>
 zb (zz x29) fun x30 =>
 zb (za (build [Value.int .i64 0,Value.int .i64 0,Value.int .i64 0] [(0,1,x24),(1,1,x27),(2,1,x30)])) fun x31 =>
 zbw (zcc 3 1 (rep 1 [Value.int .i64 0,Value.int .i64 0,Value.int .i64 0]) [(0,3,x31)]) fun ha x32 h1 =>
 zbw (zd0 3 24 x21 x32) fun ha_2 x33 h2 =>
 zb (za (zb2 x0)) fun x34 =>
 zb (za (zf 0 x34)) fun x35 =>
 zb (za (zf 0 x35)) fun x36 =>
 zb (za (zf 3 x36)) fun x37 =>
 zb (za (zf 1 x37)) fun x38 =>
 zbw (st1 x38 x33) fun ha_3 u h3 =>
 zdj (chk (zz x20) h1 x21) <|
 ret (.nxt [x12])
 ) (
 ret (.nxt [x12])
 )
 ) fun o=>nx o (zk6 G_strings_IndexRune G_strconv_Atoi)
 ) fun o=>zbk o fun vs=>ret (zbi [(zd vs 0)])
def z44:Hint:=(.seq [] .leaf (.seq [] .leaf (.seq [6] (.seq [] .leaf (.cond (.reg [0,1,2,3,4,5,6,8,9,11,12,14,15,7,10,13,16,17,18,19,20,21,22,23,24,25] []) .leaf)) (.seq [] .leaf .leaf))))
def zej (G_strings_IndexRune:List V→M V) (G_strconv_Atoi:List V→M V):List V→M V:=ap2 (zmi G_strings_IndexRune G_strconv_Atoi)
theorem z45 {G_strings_IndexRune:List V→M V} {G_strconv_Atoi:List V→M V} (k_strings_IndexRune:zq Tryz.prog zy G_strings_IndexRune) (k_strconv_Atoi:zq Tryz.prog zbp G_strconv_Atoi):zq Tryz.prog zcy (zej G_strings_IndexRune G_strconv_Atoi):=kn2 (σ:=ovr [(zhd,zc4 G_strings_IndexRune G_strconv_Atoi)] noC) (hint:=z44) (by kernel_rfl) (zh (zmf k_strings_IndexRune k_strconv_Atoi) zl) fun _ _=>(by kernel_rfl)
def zit (G_strings_IndexRune:List V→M V) (G_strconv_Atoi:List V→M V) (vs:List V):M Out :=
 ret (.ret [(zd vs 0)])
def zjb (G_strings_IndexRune:List V→M V) (G_strconv_Atoi:List V→M V) (x0 x1:V):M V :=
 zb (
 zb (za (zh6 1 x1 (some (Value.int .i64 1)) none)) fun x9 =>
 zb ((zc4 G_strings_IndexRune G_strconv_Atoi) [x9,(Value.int .i64 2)]) fun x10 =>
 zb (za (ext 0 x10)) fun x11 =>
 zb (za (ext 1 x10)) fun x12 =>
 zb (
 zp x12 (
 zh0 fun h0 =>
 zb (za (zb2 x0)) fun x16 =>
 zb (za (zf 0 x16)) fun x17 =>
 zb (za (zf 0 x17)) fun x18 =>
 zb (za (zf 3 x18)) fun x19 =>
 zb (za (zf 1 x19)) fun x20 =>
 zb (za (zr 1 x11 (Value.int .i64 0))) fun x23 =>
 zb (za (zr 1 x11 (Value.int .i64 1))) fun x26 =>
 zb (zz x20) fun x21 =>
 zb (zz x23) fun x24 =>
 zb (zz x26) fun x27 =>
 zb (za (build [Value.int .i64 0,Value.int .i64 0,Value.int .i64 0] [(0,1,(Value.int .i64 (-1))),(1,1,x24),(2,1,x27)])) fun x28 =>
 zbw (zcc 3 1 (rep 1 [Value.int .i64 0,Value.int .i64 0,Value.int .i64 0]) [(0,3,x28)]) fun ha x29 h1 =>
 zbw (zd0 3 24 x21 x29) fun ha_2 x30 h2 =>
 zb (za (zb2 x0)) fun x31 =>
 zb (za (zf 0 x31)) fun x32 =>
 zb (za (zf 0 x32)) fun x33 =>
 zb (za (zf 3 x33)) fun x34 =>
 zb (za (zf 1 x34)) fun x35 =>
 zbw (st1 x35 x30) fun ha_3 u h3 =>
 zdj (chk (zz x20) h1 x21) <|
 ret (.nxt [x12])
 ) (
 ret (.nxt [x12])
 )
 ) fun o=>nx o (zit G_strings_IndexRune G_strconv_Atoi)
 ) fun o=>zbk o fun vs=>ret (zbi [(zd vs 0)])
def z0v:Hint:=(.seq [] .leaf (.seq [] .leaf (.seq [6] (.seq [] .leaf (.cond (.reg [0,1,2,3,4,5,6,8,9,11,12,7,10,13,14,15,16,17,18,19,20,21,22] []) .leaf)) (.seq [] .leaf .leaf))))
def zde (G_strings_IndexRune:List V→M V) (G_strconv_Atoi:List V→M V):List V→M V:=ap2 (zjb G_strings_IndexRune G_strconv_Atoi)
theorem z0w {G_strings_IndexRune:List V→M V} {G_strconv_Atoi:List V→M V} (k_strings_IndexRune:zq Tryz.prog zy G_strings_IndexRune) (k_strconv_Atoi:zq Tryz.prog zbp G_strconv_Atoi):zq Tryz.prog zch (zde G_strings_IndexRune G_strconv_Atoi):=kn2 (σ:=ovr [(zhd,zc4 G_strings_IndexRune G_strconv_Atoi)] noC) (hint:=z0v) (by kernel_rfl) (zh (zmf k_strings_IndexRune k_strconv_Atoi) zl) fun _ _=>(by kernel_rfl)
def zpd (x0 x1:V):M V :=
 zb (
 zb (za (zb2 x0)) fun x7 =>
 zb (za (zf 0 x7)) fun x8 =>
 zb (za (zf 0 x8)) fun x9 =>
 zb (za (zf 5 x9)) fun x10 =>
 zb (zz x10) fun x11 =>
 zb (za (build [Value.slice none 0 0,Value.slice none 0 0] [])) fun x12 =>
 zb (zcc 2 1 (rep 1 [Value.slice none 0 0,Value.slice none 0 0]) [(0,2,x12)]) fun x13 =>
 zb (zd0 2 48 x11 x13) fun x14 =>
 zb (za (zb2 x0)) fun x15 =>
 zb (za (zf 0 x15)) fun x16 =>
 zb (za (zf 0 x16)) fun x17 =>
 zb (za (zf 5 x17)) fun x18 =>
 zb (st1 x18 x14) fun _ =>
 zb (za (zw x1)) fun x20 =>
 zb (za (zu .eql x20 (Value.int .i64 1))) fun x21 =>
 ret (.ret [x21])
 ) fun o=>zbk o fun vs=>ret (zbi [(zd vs 0)])
def zbay:Hint:=(.seq [] .leaf (.seq [] .leaf (.seq [] .leaf .leaf)))
def zfo:List V→M V:=ap2 zpd
theorem zbaz:zq Tryz.prog zdk (zfo):=kn2 (σ:=ovr [] noC) (hint:=zbay) (by kernel_rfl) zl fun _ _=>(by kernel_rfl)
def zgx (G_strings_IndexRune:List V→M V) (G_strconv_Atoi:List V→M V) (v2:List V):M Out :=
 zb (gd (zd v2 0) true (za (zf 0 (zd v2 1)))) fun x78 =>
 zb (gd (zd v2 0) true (zz x78)) fun x79 =>
 zb (gd (zd v2 0) true (za (zu .gtr x79 (Value.int .i64 0)))) fun x80 =>
 zb (za (z8 (zd v2 0) x80 (Value.bool false))) fun x81 =>
 ret (.ret [x81])
def zuq (G_strings_IndexRune:List V→M V) (G_strconv_Atoi:List V→M V) (vs:List V):M Out :=
 zb (za (zr 1 (zd vs 1) (Value.int .i64 2))) fun x24 =>
 zb (zz x24) fun x25 =>
 zb ((zg7 G_strings_IndexRune G_strconv_Atoi) [x25]) fun x26 =>
 zb (za (ext 0 x26)) fun x27 =>
 zb (za (ext 1 x26)) fun x28 =>
 zb (zcc 1 2 (rep 2 [Value.string ⟨#[]⟩]) [(0,1,(Value.string ⟨#[112,111,105,110,116]⟩)),(1,1,(Value.string ⟨#[112,111,114,116]⟩))]) fun x29 =>
 zb (za (zr 1 (zd vs 1) (Value.int .i64 1))) fun x31 =>
 zb (zz x31) fun x32 =>
 zb (zbg [x29,x32]) fun x33 =>
 zb (za (zu .add (Value.int .i64 1) x33)) fun x34 =>
 zb (za (build [Value.int .i64 0,Value.int .i64 0] [(0,1,x34),(1,1,x27)])) fun x36 =>
 zb (newc [Value.int .i64 0,Value.int .i64 0]) fun x7 =>
 zb (stn 2 x7 x36) fun _ =>
 zb (za (zb2 (zd vs 0))) fun x38 =>
 zb (za (zf 0 x38)) fun x39 =>
 zb (za (zf 0 x39)) fun x40 =>
 zb (za (zf 5 x40)) fun x41 =>
 zb (za (zb2 (zd vs 0))) fun x44 =>
 zb (za (zf 0 x44)) fun x45 =>
 zb (za (zf 0 x45)) fun x46 =>
 zb (za (zf 5 x46)) fun x47 =>
 zb (zz x41) fun x42 =>
 zb (zz x47) fun x48 =>
 zb (za (zw x48)) fun x49 =>
 zb (za (zu .sub x49 (Value.int .i64 1))) fun x50 =>
 zb (za (zr 2 x42 x50)) fun x51 =>
 zb (
 zb (za (zr 1 (zd vs 1) (Value.int .i64 0))) fun x53 =>
 zb (zz x53) fun x54 =>
 zb (za (zu .eql x54 (Value.string ⟨#[103,101,116]⟩))) fun x55 =>
 zp x55 (
 zh0 fun h0 =>
 zb (za (zb2 x51)) fun x58 =>
 zb (za (zf 0 x58)) fun x59 =>
 zb (zz x59) fun x60 =>
 zb (ldn 2 x7) fun x61 =>
 zbw (zcc 2 1 (rep 1 [Value.int .i64 0,Value.int .i64 0]) [(0,2,x61)]) fun ha x62 h1 =>
 zbw (zd0 2 16 x60 x62) fun ha_2 x63 h2 =>
 zb (za (zb2 x51)) fun x64 =>
 zb (za (zf 0 x64)) fun x65 =>
 zbw (st1 x65 x63) fun ha_3 u h3 =>
 zdj (chk (zz x59) h1 x60) <|
 ret (.nxt [x28,x7])
 ) (
 zh0 fun h0_2 =>
 zb (za (zb2 x51)) fun x68 =>
 zb (za (zf 1 x68)) fun x69 =>
 zb (zz x69) fun x70 =>
 zb (ldn 2 x7) fun x71 =>
 zbw (zcc 2 1 (rep 1 [Value.int .i64 0,Value.int .i64 0]) [(0,2,x71)]) fun ha_4 x72 h1_2 =>
 zbw (zd0 2 16 x70 x72) fun ha_5 x73 h2_2 =>
 zb (za (zb2 x51)) fun x74 =>
 zb (za (zf 1 x74)) fun x75 =>
 zbw (st1 x75 x73) fun ha_6 u_2 h3_2 =>
 zdj (chk (zz x69) h1_2 x70) <|
 ret (.nxt [x28,x7])
 )
 ) fun o=>nx o (zgx G_strings_IndexRune G_strconv_Atoi)
def zhn (G_strings_IndexRune:List V→M V) (G_strconv_Atoi:List V→M V) (x0 x1:V):M V :=
 zb (
 zb (
 zb (za (zw x1)) fun x10 =>
 zb (za (zu .neq x10 (Value.int .i64 3))) fun x11 =>
 zb (gd x11 false (za (some x0))) fun x13 =>
 zb (gd x11 false (za (zb2 x13))) fun x14 =>
 zb (gd x11 false (za (zf 0 x14))) fun x15 =>
 zb (gd x11 false (za (zf 0 x15))) fun x16 =>
 zb (gd x11 false (za (zf 5 x16))) fun x17 =>
 zb (gd x11 false (zz x17)) fun x18 =>
 zb (gd x11 false (za (zw x18))) fun x19 =>
 zb (gd x11 false (za (zu .eql x19 (Value.int .i64 0)))) fun x20 =>
 zb (za (z8 x11 (Value.bool true) x20)) fun x21 =>
 zp x21 (
 ret (.ret [(Value.bool false)])
 ) (
 ret (.nxt [x0,x1])
 )
 ) fun o=>nx o (zuq G_strings_IndexRune G_strconv_Atoi)
 ) fun o=>zbk o fun vs=>ret (zbi [(zd vs 0)])
def zba0:Hint:=(.seq [] .leaf (.seq [0,1] (.seq [] .leaf (.cond (.seq [] .leaf .leaf) .leaf)) (.seq [] .leaf (.seq [] .leaf (.seq [] (.reg [0,1,2,3,4,6,7,8,9,10,5,11,12,13,14,15] []) (.seq [6,7] (.seq [] .leaf (.cond (.reg [0,1,2,3,4,5,6,7,8,9,10] []) (.reg [0,1,2,3,4,5,6,7,8,9,10] []))) (.seq [] .leaf .leaf)))))))
def zfp (G_strings_IndexRune:List V→M V) (G_strconv_Atoi:List V→M V):List V→M V:=ap2 (zhn G_strings_IndexRune G_strconv_Atoi)
theorem zba1 {G_strings_IndexRune:List V→M V} {G_strconv_Atoi:List V→M V} (k_strings_IndexRune:zq Tryz.prog zy G_strings_IndexRune) (k_strconv_Atoi:zq Tryz.prog zbp G_strconv_Atoi):zq Tryz.prog zck (zfp G_strings_IndexRune G_strconv_Atoi):=kn2 (σ:=ovr [(zo5,zg7 G_strings_IndexRune G_strconv_Atoi),(zcl,zbg)] noC) (hint:=zba0) (by kernel_rfl) (zh (zzd k_strings_IndexRune k_strconv_Atoi) (zh zdw zl)) fun _ _=>(by kernel_rfl)
def z83 (G_strings_IndexRune:List V→M V) (G_strings_IndexByte:List V→M V) (v4:List V):M Out :=
 zb (za (zu .add (zd v4 2) (Value.int .i64 2))) fun x20 =>
 ret (.nxt [(zd v4 0),(zd v4 1),x20])
def z84 (G_strings_IndexRune:List V→M V) (G_strings_IndexByte:List V→M V) (v3:List V):M Out :=
 zb (
 zb (
 zb (za (zjm (zd v3 0) (zd v3 2))) fun x24 =>
 zb (za (zu .add (zd v3 2) (Value.int .i64 1))) fun x29 =>
 zb (za (zjm (zd v3 0) x29)) fun x30 =>
 zb (G_strings_IndexByte [(Value.string ⟨#[48,49,50,51,52,53,54,55,56,57,97,98,99,100,101,102]⟩),x24]) fun x25 =>
 zb (za (zu .shl x25 (Value.int .u64 4))) fun x26 =>
 zb (G_strings_IndexByte [(Value.string ⟨#[48,49,50,51,52,53,54,55,56,57,97,98,99,100,101,102]⟩),x30]) fun x31 =>
 zb (za (zu .or x26 x31)) fun x32 =>
 zb (za (cvi .u8 x32)) fun x33 =>
 zb (zcc 1 1 (rep 1 [Value.int .u8 0]) [(0,1,x33)]) fun x34 =>
 zb (zd0 1 1 (zd v3 1) x34) fun x35 =>
 ret (.nxt [(zd v3 0),x35,(zd v3 2)])
 ) fun o=>ret (zv 1 o)
 ) fun o=>nx o (z83 G_strings_IndexRune G_strings_IndexByte)
def zze (G_strings_IndexRune:List V→M V) (G_strings_IndexByte:List V→M V) (v2:List V):M Out :=
 zb (
 zb (za (zd9 (zd v2 0))) fun x17 =>
 zb (za (zu .lss (zd v2 2) x17)) fun x18 =>
 zp x18 (
 ret (.nxt [(zd v2 0),(zd v2 1),(zd v2 2)])
 ) (
 ret (.brk 0 [(zd v2 1)])
 )
 ) fun o=>nx o (z84 G_strings_IndexRune G_strings_IndexByte)
def z86 (G_strings_IndexRune:List V→M V) (G_strings_IndexByte:List V→M V) (v5:List V):M Out :=
 zb (b2s (zd v5 0)) fun x37 =>
 ret (.ret [x37,(Value.bool true)])
def z87 (G_strings_IndexRune:List V→M V) (G_strings_IndexByte:List V→M V) (vs:List V):M Out :=
 zb (
 zb (
 zba zbm (zze G_strings_IndexRune G_strings_IndexByte) [(zd vs 0),(Value.slice none 0 0),(Value.int .i64 0)]
 ) fun o=>ret (zv 0 o)
 ) fun o=>nx o (z86 G_strings_IndexRune G_strings_IndexByte)
def zu6 (G_strings_IndexRune:List V→M V) (G_strings_IndexByte:List V→M V) (x0:V):M V :=
 zb (
 zb (
 zb (za (zd9 x0)) fun x7 =>
 zb (za (zu .rem x7 (Value.int .i64 2))) fun x8 =>
 zb (za (zu .gtr x8 (Value.int .i64 0))) fun x9 =>
 zb (gd x9 false (za (some x0))) fun x11 =>
 zb (gd x9 false ((zf9 G_strings_IndexRune) [x11,(Value.string ⟨#[48,49,50,51,52,53,54,55,56,57,97,98,99,100,101,102]⟩)])) fun x12 =>
 zb (gd x9 false (za (zu .neq x12 (Value.string ⟨#[]⟩)))) fun x13 =>
 zb (za (z8 x9 (Value.bool true) x13)) fun x14 =>
 zp x14 (
 ret (.ret [(Value.string ⟨#[]⟩),(Value.bool false)])
 ) (
 ret (.nxt [x0])
 )
 ) fun o=>nx o (z87 G_strings_IndexRune G_strings_IndexByte)
 ) fun o=>zbk o fun vs=>ret (zbi [(zd vs 0),(zd vs 1)])
def zbnu:Hint:=(.seq [] .leaf (.seq [0] (.seq [] .leaf (.cond (.seq [] .leaf .leaf) .leaf)) (.seq [] .leaf (.seq [4] (.seq [] .leaf (.blk (.loop [0,4,5] (.seq [0,4,5] (.seq [] .leaf (.cond .leaf .leaf)) (.seq [0,4,5] (.blk (.reg [0,1,2,3,6,7,8,9,4,5,10,11,12,13,14,15] [])) .leaf))))) (.seq [] .leaf .leaf)))))
def zu7 (G_strings_IndexRune:List V→M V) (G_strings_IndexByte:List V→M V):List V→M V:=ap1 (zu6 G_strings_IndexRune G_strings_IndexByte)
theorem zbnv {G_strings_IndexRune:List V→M V} {G_strings_IndexByte:List V→M V} (k_strings_IndexRune:zq Tryz.prog zy G_strings_IndexRune) (k_strings_IndexByte:zq Tryz.prog zb3 G_strings_IndexByte):zq Tryz.prog z4v (zu7 G_strings_IndexRune G_strings_IndexByte):=kn1 (σ:=ovr [(znd,zf9 G_strings_IndexRune),(zb3,G_strings_IndexByte)] noC) (hint:=zbnu) (by kernel_rfl) (zh (zwg k_strings_IndexRune) (zh k_strings_IndexByte zl)) fun _=>(by kernel_rfl)
def zur (G_strings_IndexRune:List V→M V) (G_strings_IndexByte:List V→M V) (vs:List V):M Out :=
 zb (za (zr 1 (zd vs 1) (Value.int .i64 2))) fun x12 =>
 zb (zz x12) fun x13 =>
 zb ((zu7 G_strings_IndexRune G_strings_IndexByte) [x13]) fun x14 =>
 zb (za (ext 0 x14)) fun x15 =>
 zb (za (ext 1 x14)) fun x16 =>
 zh0 fun h0 =>
 zb (za (zb2 (zd vs 0))) fun x19 =>
 zb (za (zf 0 x19)) fun x20 =>
 zb (za (zf 7 x20)) fun x21 =>
 zb (za (zr 1 (zd vs 1) (Value.int .i64 1))) fun x24 =>
 zb (zz x21) fun x22 =>
 zb (zz x24) fun x25 =>
 zb (za (build [Value.string ⟨#[]⟩,Value.string ⟨#[]⟩,Value.slice none 0 0] [(0,1,x25),(1,1,x15)])) fun x27 =>
 zbw (zcc 3 1 (rep 1 [Value.string ⟨#[]⟩,Value.string ⟨#[]⟩,Value.slice none 0 0]) [(0,3,x27)]) fun ha x28 h1 =>
 zbw (zd0 3 56 x22 x28) fun ha_2 x29 h2 =>
 zb (za (zb2 (zd vs 0))) fun x30 =>
 zb (za (zf 0 x30)) fun x31 =>
 zb (za (zf 7 x31)) fun x32 =>
 zbw (st1 x32 x29) fun ha_3 u h3 =>
 zdj (chk (zz x21) h1 x22) <|
 ret (.ret [x16])
def zj3 (G_strings_IndexRune:List V→M V) (G_strings_IndexByte:List V→M V) (x0 x1:V):M V :=
 zb (
 zb (
 zb (za (zw x1)) fun x8 =>
 zb (za (zu .neq x8 (Value.int .i64 3))) fun x9 =>
 zp x9 (
 ret (.ret [(Value.bool false)])
 ) (
 ret (.nxt [x0,x1])
 )
 ) fun o=>nx o (zur G_strings_IndexRune G_strings_IndexByte)
 ) fun o=>zbk o fun vs=>ret (zbi [(zd vs 0)])
def zba2:Hint:=(.seq [] .leaf (.seq [0,1] (.seq [] .leaf (.cond (.seq [] .leaf .leaf) .leaf)) (.seq [] .leaf (.seq [] (.reg [0,1,2,3,4,6,7,9,5,8,10,11,12,13,14,15,16] []) (.seq [] .leaf .leaf)))))
def zfq (G_strings_IndexRune:List V→M V) (G_strings_IndexByte:List V→M V):List V→M V:=ap2 (zj3 G_strings_IndexRune G_strings_IndexByte)
theorem zba3 {G_strings_IndexRune:List V→M V} {G_strings_IndexByte:List V→M V} (k_strings_IndexRune:zq Tryz.prog zy G_strings_IndexRune) (k_strings_IndexByte:zq Tryz.prog zb3 G_strings_IndexByte):zq Tryz.prog zdl (zfq G_strings_IndexRune G_strings_IndexByte):=kn2 (σ:=ovr [(z4v,zu7 G_strings_IndexRune G_strings_IndexByte)] noC) (hint:=zba2) (by kernel_rfl) (zh (zbnv k_strings_IndexRune k_strings_IndexByte) zl) fun _ _=>(by kernel_rfl)
def zus (G_strings_IndexRune:List V→M V) (G_strconv_Atoi:List V→M V) (vs:List V):M Out :=
 zb (za (zr 1 (zd vs 1) (Value.int .i64 1))) fun x23 =>
 zb (zz x23) fun x24 =>
 zb ((zg7 G_strings_IndexRune G_strconv_Atoi) [x24]) fun x25 =>
 zb (za (ext 0 x25)) fun x26 =>
 zb (za (ext 1 x25)) fun x27 =>
 zb (za (subA 5 1 (ptr gid_conf_levels 0) (some (Value.int .i64 1)) none)) fun x28 =>
 zb (za (zr 1 (zd vs 1) (Value.int .i64 2))) fun x30 =>
 zb (zz x30) fun x31 =>
 zb (zbg [x28,x31]) fun x32 =>
 zb (za (zu .add x32 (Value.int .i64 1))) fun x33 =>
 zb (za (zb2 (zd vs 0))) fun x35 =>
 zb (za (zf 0 x35)) fun x36 =>
 zb (za (zf 7 x36)) fun x37 =>
 zb (za (zb2 (zd vs 0))) fun x40 =>
 zb (za (zf 0 x40)) fun x41 =>
 zb (za (zf 7 x41)) fun x42 =>
 zb (zz x37) fun x38 =>
 zb (zz x42) fun x43 =>
 zb (za (zw x43)) fun x44 =>
 zb (za (zu .sub x44 (Value.int .i64 1))) fun x45 =>
 zb (za (zr 3 x38 x45)) fun x46 =>
 zb (za (zb2 x46)) fun x49 =>
 zb (za (zf 2 x49)) fun x50 =>
 zb (zz x50) fun x51 =>
 zb (za (build [Value.int .i64 0,Value.int .i64 0] [(0,1,x26),(1,1,x33)])) fun x54 =>
 zb (zcc 2 1 (rep 1 [Value.int .i64 0,Value.int .i64 0]) [(0,2,x54)]) fun x55 =>
 zb (zd0 2 16 x51 x55) fun x56 =>
 zb (za (zb2 x46)) fun x57 =>
 zb (za (zf 2 x57)) fun x58 =>
 zb (st1 x58 x56) fun _ =>
 zb (gd x27 true (za (some x33))) fun x61 =>
 zb (gd x27 true (za (zu .gtr x61 (Value.int .i64 0)))) fun x62 =>
 zb (za (z8 x27 x62 (Value.bool false))) fun x63 =>
 ret (.ret [x63])
def zho (G_strings_IndexRune:List V→M V) (G_strconv_Atoi:List V→M V) (x0 x1:V):M V :=
 zb (
 zb (
 zb (za (zw x1)) fun x10 =>
 zb (za (zu .neq x10 (Value.int .i64 3))) fun x11 =>
 zb (gd x11 false (za (some x0))) fun x13 =>
 zb (gd x11 false (za (zb2 x13))) fun x14 =>
 zb (gd x11 false (za (zf 0 x14))) fun x15 =>
 zb (gd x11 false (za (zf 7 x15))) fun x16 =>
 zb (gd x11 false (zz x16)) fun x17 =>
 zb (gd x11 false (za (zw x17))) fun x18 =>
 zb (gd x11 false (za (zu .eql x18 (Value.int .i64 0)))) fun x19 =>
 zb (za (z8 x11 (Value.bool true) x19)) fun x20 =>
 zp x20 (
 ret (.ret [(Value.bool false)])
 ) (
 ret (.nxt [x0,x1])
 )
 ) fun o=>nx o (zus G_strings_IndexRune G_strconv_Atoi)
 ) fun o=>zbk o fun vs=>ret (zbi [(zd vs 0)])
def zba4:Hint:=(.seq [] .leaf (.seq [0,1] (.seq [] .leaf (.cond (.seq [] .leaf .leaf) .leaf)) (.seq [] .leaf (.seq [] (.reg [0,1,2,3,4,5,6] []) (.seq [] (.reg [0,1,2,3,5,6,7,8,4,9,10,11,12,13] []) (.seq [] .leaf (.seq [] .leaf .leaf)))))))
def zfr (G_strings_IndexRune:List V→M V) (G_strconv_Atoi:List V→M V):List V→M V:=ap2 (zho G_strings_IndexRune G_strconv_Atoi)
theorem zba5 {G_strings_IndexRune:List V→M V} {G_strconv_Atoi:List V→M V} (k_strings_IndexRune:zq Tryz.prog zy G_strings_IndexRune) (k_strconv_Atoi:zq Tryz.prog zbp G_strconv_Atoi):zq Tryz.prog zdm (zfr G_strings_IndexRune G_strconv_Atoi):=kn2 (σ:=ovr [(zo5,zg7 G_strings_IndexRune G_strconv_Atoi),(zcl,zbg)] noC) (hint:=zba4) (by kernel_rfl) (zh (zzd k_strings_IndexRune k_strconv_Atoi) (zh zdw zl)) fun _ _=>(by kernel_rfl)
def zwj (G_strings_IndexRune:List V→M V) (G_strconv_Atoi:List V→M V) (G_strings_IndexByte:List V→M V):M V :=
 zb (
 zb (zvw) fun x1 =>
 zb (zgm (.one .s) x1 (Value.string ⟨#[109,105,108,108,105,115]⟩) (Value.func (.func zbt) #[] #[])) fun _ =>
 zb (zgm (.one .s) x1 (Value.string ⟨#[102,114,97,109,101]⟩) (Value.func (.func zbt) #[] #[])) fun _ =>
 zb (zgm (.one .s) x1 (Value.string ⟨#[105,100,108,101]⟩) (Value.func (.func zbt) #[] #[])) fun _ =>
 zb (zgm (.one .s) x1 (Value.string ⟨#[105,110]⟩) (Value.func (.func zb9) #[] #[])) fun _ =>
 zb (zgm (.one .s) x1 (Value.string ⟨#[111,117,116]⟩) (Value.func (.func zb9) #[] #[])) fun _ =>
 zb (zgm (.one .s) x1 (Value.string ⟨#[114,101,97,100]⟩) (Value.func (.func zca) #[] #[])) fun _ =>
 zb (zgm (.one .s) x1 (Value.string ⟨#[119,114,105,116,101]⟩) (Value.func (.func zca) #[] #[])) fun _ =>
 zb (zgm (.one .s) x1 (Value.string ⟨#[115,97,109,112,108,101]⟩) (Value.func (.func zcj) #[] #[])) fun _ =>
 zb (zgm (.one .s) x1 (Value.string ⟨#[113,117,101,117,101]⟩) (Value.func (.func zcj) #[] #[])) fun _ =>
 zb (zgm (.one .s) x1 (Value.string ⟨#[119,105,110,100,111,119]⟩) (Value.func (.func zcy) #[] #[])) fun _ =>
 zb (zgm (.one .s) x1 (Value.string ⟨#[101,110,103,105,110,101,101,114,115]⟩) (Value.func (.func zch) #[] #[])) fun _ =>
 zb (zgm (.one .s) x1 (Value.string ⟨#[117,110,105,116]⟩) (Value.func (.func zdk) #[] #[])) fun _ =>
 zb (zgm (.one .s) x1 (Value.string ⟨#[103,101,116]⟩) (Value.func (.func zck) #[] #[])) fun _ =>
 zb (zgm (.one .s) x1 (Value.string ⟨#[112,117,116]⟩) (Value.func (.func zck) #[] #[])) fun _ =>
 zb (zgm (.one .s) x1 (Value.string ⟨#[117,115,101,114]⟩) (Value.func (.func zdl) #[] #[])) fun _ =>
 zb (zgm (.one .s) x1 (Value.string ⟨#[114,111,108,101]⟩) (Value.func (.func zdm) #[] #[])) fun _ =>
 ret (.ret [x1])
 ) fun o=>zbk o fun vs=>ret (zbi [(zd vs 0)])
def zbiy:Hint:=(.seq [] .leaf (.seq [] .leaf .leaf))
def zq5 (G_strings_IndexRune:List V→M V) (G_strconv_Atoi:List V→M V) (G_strings_IndexByte:List V→M V):List V→M V:=ap0 (zwj G_strings_IndexRune G_strconv_Atoi G_strings_IndexByte)
theorem zbiz {G_strings_IndexRune:List V→M V} {G_strconv_Atoi:List V→M V} {G_strings_IndexByte:List V→M V} (k_strings_IndexRune:zq Tryz.prog zy G_strings_IndexRune) (k_strconv_Atoi:zq Tryz.prog zbp G_strconv_Atoi) (k_strings_IndexByte:zq Tryz.prog zb3 G_strings_IndexByte):zq Tryz.prog z0i (zq5 G_strings_IndexRune G_strconv_Atoi G_strings_IndexByte):=kn0 (σ:=ovr [] noC) (hint:=zbiy) (by kernel_rfl) zl (by kernel_rfl)
def zeo (x0 x1:V):M V :=
 zb (
 zb (zbg [x0,x1]) fun x7 =>
 zb (za (zu .geq x7 (Value.int .i64 0))) fun x8 =>
 ret (.ret [x8])
 ) fun o=>zbk o fun vs=>ret (zbi [(zd vs 0)])
def zqh:Hint:=(.seq [] .leaf (.seq [] .leaf .leaf))
def zbr:List V→M V:=ap2 zeo
def zqi:zx:=ovr [(zcl,zbg)] noC
theorem zqj:zq Tryz.prog zcv (zbr):=kn2 (σ:=zqi) (hint:=zqh) (by kernel_rfl) (zh zdw zl) fun _ _=>(by kernel_rfl)
def zut (G_strings_Split:List V→M V) (G_strings_IndexRune:List V→M V) (G_strconv_Atoi:List V→M V) (G_strings_IndexByte:List V→M V) (v3:List V):M Out :=
 ret (.ret [(Value.int .i64 0)])
def zuu (G_strings_Split:List V→M V) (G_strings_IndexRune:List V→M V) (G_strconv_Atoi:List V→M V) (G_strings_IndexByte:List V→M V) (v2:List V):M Out :=
 zb (za (zb2 (zd v2 0))) fun x32 =>
 zb (za (zf 9 x32)) fun x33 =>
 zb (za (zr 1 (zd v2 1) (Value.int .i64 0))) fun x36 =>
 zb (zz x33) fun x34 =>
 zb (zz x36) fun x37 =>
 zb (zbr [x34,x37]) fun x38 =>
 zb (
 zb (znw (ovr [(zbt,zei G_strings_IndexRune G_strconv_Atoi),(zb9,ze5),(zca,ze6 G_strings_IndexRune G_strconv_Atoi),(zcj,zfn G_strings_IndexRune G_strconv_Atoi),(zcy,zej G_strings_IndexRune G_strconv_Atoi),(zch,zde G_strings_IndexRune G_strconv_Atoi),(zdk,zfo),(zck,zfp G_strings_IndexRune G_strconv_Atoi),(zdl,zfq G_strings_IndexRune G_strings_IndexByte),(zdm,zfr G_strings_IndexRune G_strconv_Atoi),(zcu,G_strings_Split),(zcv,zbr)] noC) (zd v2 2) [(zd v2 0),(zd v2 1)]) fun x42 =>
 zb (
 zb (za (un .not x42)) fun x45 =>
 zp x45 (
 ret (.ret [(Value.int .i64 3)])
 ) (
 zp x38 (
 ret (.ret [(Value.int .i64 6)])
 ) (
 ret (.nxt [])
 )
 )
 ) fun o=>ret (zv 0 o)
 ) fun o=>nx o (zut G_strings_Split G_strings_IndexRune G_strconv_Atoi G_strings_IndexByte)
def zuv (G_strings_Split:List V→M V) (G_strings_IndexRune:List V→M V) (G_strconv_Atoi:List V→M V) (G_strings_IndexByte:List V→M V) (vs:List V):M Out :=
 zb (G_strings_Split [(zd vs 1),(Value.string ⟨#[32]⟩)]) fun x19 =>
 zb (za (zr 1 x19 (Value.int .i64 0))) fun x22 =>
 zb (zz x22) fun x23 =>
 zb (lookup (.one .s) (Value.nilFunc) false (zd vs 2) x23) fun x24 =>
 zb (
 zb (za (zer false (zef .f x24))) fun x26 =>
 zb (gd x26 false (za (some x19))) fun x28 =>
 zb (gd x26 false (zbr [x28,(Value.string ⟨#[]⟩)])) fun x29 =>
 zb (za (z8 x26 (Value.bool true) x29)) fun x30 =>
 zp x30 (
 ret (.ret [(Value.int .i64 3)])
 ) (
 ret (.nxt [(zd vs 0),x19,x24])
 )
 ) fun o=>nx o (zuu G_strings_Split G_strings_IndexRune G_strconv_Atoi G_strings_IndexByte)
def zhp (G_strings_Split:List V→M V) (G_strings_IndexRune:List V→M V) (G_strconv_Atoi:List V→M V) (G_strings_IndexByte:List V→M V) (x0 x1 x2:V):M V :=
 zb (
 zb (
 zb (za (zu .eql x1 (Value.string ⟨#[]⟩))) fun x12 =>
 zb (gd x12 false (za (some x1))) fun x14 =>
 zb (gd x12 false (za (zjm x14 (Value.int .i64 0)))) fun x15 =>
 zb (gd x12 false (za (zu .eql x15 (Value.int .u8 35)))) fun x16 =>
 zb (za (z8 x12 (Value.bool true) x16)) fun x17 =>
 zp x17 (
 ret (.ret [(Value.int .i64 0)])
 ) (
 ret (.nxt [x0,x1,x2])
 )
 ) fun o=>nx o (zuv G_strings_Split G_strings_IndexRune G_strconv_Atoi G_strings_IndexByte)
 ) fun o=>zbk o fun vs=>ret (zbi [(zd vs 0)])
def zba6:Hint:=(.seq [] .leaf (.seq [0,1,2] (.seq [] .leaf (.cond (.seq [] .leaf .leaf) .leaf)) (.seq [] .leaf (.seq [] .leaf (.seq [0,7,8] (.seq [] .leaf (.cond (.seq [] .leaf .leaf) .leaf)) (.seq [] (.reg [0,1,2,4,5,3,6,7,8] []) (.seq [] (.seq [] .leaf (.blk (.seq [] .leaf (.cond (.seq [] .leaf .leaf) (.seq [] .leaf (.cond (.seq [] .leaf .leaf) .leaf)))))) (.seq [] .leaf .leaf))))))))
def zj4 (G_strings_Split:List V→M V) (G_strings_IndexRune:List V→M V) (G_strconv_Atoi:List V→M V) (G_strings_IndexByte:List V→M V):List V→M V:=ap3 (zhp G_strings_Split G_strings_IndexRune G_strconv_Atoi G_strings_IndexByte)
theorem zba7 {G_strings_Split:List V→M V} {G_strings_IndexRune:List V→M V} {G_strconv_Atoi:List V→M V} {G_strings_IndexByte:List V→M V} (k_strings_Split:zq Tryz.prog zcu G_strings_Split) (k_strings_IndexRune:zq Tryz.prog zy G_strings_IndexRune) (k_strconv_Atoi:zq Tryz.prog zbp G_strconv_Atoi) (k_strings_IndexByte:zq Tryz.prog zb3 G_strings_IndexByte):zq Tryz.prog ztx (zj4 G_strings_Split G_strings_IndexRune G_strconv_Atoi G_strings_IndexByte):=kn3 (σ:=ovr [(zbt,zei G_strings_IndexRune G_strconv_Atoi),(zb9,ze5),(zca,ze6 G_strings_IndexRune G_strconv_Atoi),(zcj,zfn G_strings_IndexRune G_strconv_Atoi),(zcy,zej G_strings_IndexRune G_strconv_Atoi),(zch,zde G_strings_IndexRune G_strconv_Atoi),(zdk,zfo),(zck,zfp G_strings_IndexRune G_strconv_Atoi),(zdl,zfq G_strings_IndexRune G_strings_IndexByte),(zdm,zfr G_strings_IndexRune G_strconv_Atoi),(zcu,G_strings_Split),(zcv,zbr)] noC) (hint:=zba6) (by kernel_rfl) (zh (z42 k_strings_IndexRune k_strconv_Atoi) (zh z8g (zh (z8i k_strings_IndexRune k_strconv_Atoi) (zh (zbax k_strings_IndexRune k_strconv_Atoi) (zh (z45 k_strings_IndexRune k_strconv_Atoi) (zh (z0w k_strings_IndexRune k_strconv_Atoi) (zh zbaz (zh (zba1 k_strings_IndexRune k_strconv_Atoi) (zh (zba3 k_strings_IndexRune k_strings_IndexByte) (zh (zba5 k_strings_IndexRune k_strconv_Atoi) (zh k_strings_Split (zh zqj zl)))))))))))) fun _ _ _=>(by kernel_rfl)
def zbct (G_strings_IndexRune:List V→M V) (G_strconv_Atoi:List V→M V) (G_strings_IndexByte:List V→M V) (G_strings_Split:List V→M V) (v3:List V):M Out :=
 zb (za (zu .add (zd v3 5) (Value.int .i64 1))) fun x30 =>
 ret (.nxt [(zd v3 0),(zd v3 1),(zd v3 2),(zd v3 3),(zd v3 4),x30])
def zbcu (G_strings_IndexRune:List V→M V) (G_strconv_Atoi:List V→M V) (G_strings_IndexByte:List V→M V) (G_strings_Split:List V→M V) (v2:List V):M Out :=
 zb (
 zb (
 zb (za (zr 1 (zd v2 3) (zd v2 5))) fun x18 =>
 zb (zz x18) fun x19 =>
 zb ((zj4 G_strings_Split G_strings_IndexRune G_strconv_Atoi G_strings_IndexByte) [(zd v2 1),x19,(zd v2 2)]) fun x23 =>
 zb (za (zu .neq x23 (Value.int .i64 0))) fun x25 =>
 zp x25 (
 zb (za (build [Value.slice none 0 0,Value.slice none 0 0,Value.slice none 0 0,Value.int .i64 0,Value.slice none 0 0,Value.slice none 0 0,Value.int .i64 0,Value.slice none 0 0,Value.int .i64 0] [])) fun x26 =>
 zb (za (zu .add (zd v2 5) (Value.int .i64 1))) fun x28 =>
 zb (stn 9 (zd v2 0) x26) fun _ =>
 ret (.ret [(zd v2 0),x28,x23])
 ) (
 ret (.nxt [(zd v2 0),(zd v2 1),(zd v2 2),(zd v2 3),(zd v2 4),(zd v2 5)])
 )
 ) fun o=>ret (zv 1 o)
 ) fun o=>nx o (zbct G_strings_IndexRune G_strconv_Atoi G_strings_IndexByte G_strings_Split)
def z1u (G_strings_IndexRune:List V→M V) (G_strconv_Atoi:List V→M V) (G_strings_IndexByte:List V→M V) (G_strings_Split:List V→M V) (vs:List V):M Out :=
 zb (za (zu .lss (zd vs 5) (zd vs 4))) fun x16 =>
 zb (
 zp x16 (
 ret (.nxt [(zd vs 0),(zd vs 1),(zd vs 2),(zd vs 3),(zd vs 4),(zd vs 5)])
 ) (
 ret (.brk 0 [(zd vs 0),(zd vs 1)])
 )
 ) fun o=>nx o (zbcu G_strings_IndexRune G_strconv_Atoi G_strings_IndexByte G_strings_Split)
def zbcv (G_strings_IndexRune:List V→M V) (G_strconv_Atoi:List V→M V) (G_strings_IndexByte:List V→M V) (G_strings_Split:List V→M V) (v4:List V):M Out :=
 zb (za (zb2 (zd v4 1))) fun x32 =>
 zb (za (zf 0 x32)) fun x33 =>
 zb (ldn 9 x33) fun x34 =>
 zb (stn 9 (zd v4 0) x34) fun _ =>
 ret (.ret [(zd v4 0),(Value.int .i64 0),(Value.int .i64 0)])
def z47 (G_strings_IndexRune:List V→M V) (G_strconv_Atoi:List V→M V) (G_strings_IndexByte:List V→M V) (G_strings_Split:List V→M V) (x0:V):M V :=
 zb (
 zb (newc [Value.slice none 0 0,Value.slice none 0 0,Value.slice none 0 0,Value.int .i64 0,Value.slice none 0 0,Value.slice none 0 0,Value.int .i64 0,Value.slice none 0 0,Value.int .i64 0]) fun x2 =>
 zb (za (build [Value.slice none 0 0,Value.slice none 0 0,Value.slice none 0 0,Value.int .i64 0,Value.slice none 0 0,Value.slice none 0 0,Value.int .i64 0,Value.slice none 0 0,Value.int .i64 0,Value.slice none 0 0] [])) fun x10 =>
 zb (zdc x10) fun x11 =>
 zb ((zq5 G_strings_IndexRune G_strconv_Atoi G_strings_IndexByte) []) fun x12 =>
 zb (
 zb (za (zw x0)) fun x14 =>
 zb (
 zba zbm (z1u G_strings_IndexRune G_strconv_Atoi G_strings_IndexByte G_strings_Split) [x2,x11,x12,x0,x14,(Value.int .i64 0)]
 ) fun o=>ret (zv 0 o)
 ) fun o=>nx o (zbcv G_strings_IndexRune G_strconv_Atoi G_strings_IndexByte G_strings_Split)
 ) fun o=>zbk o fun vs=>zb (ldn 9 (zd vs 0)) fun r0=>ret (zbi [r0,(zd vs 1),(zd vs 2)])
def zbqr:Hint:=(.seq [] .leaf (.seq [] .leaf (.seq [2,5] (.seq [] .leaf (.blk (.loop [2,5,6,13,14,15] (.seq [] .leaf (.seq [2,5,6,13,14,15] (.cond .leaf .leaf) (.seq [2,5,6,13,14,15] (.blk (.seq [] .leaf (.seq [] .leaf (.seq [] .leaf (.cond (.seq [] .leaf .leaf) .leaf))))) .leaf)))))) (.seq [] .leaf .leaf))))
def zyf (G_strings_IndexRune:List V→M V) (G_strconv_Atoi:List V→M V) (G_strings_IndexByte:List V→M V) (G_strings_Split:List V→M V):List V→M V:=ap1 (z47 G_strings_IndexRune G_strconv_Atoi G_strings_IndexByte G_strings_Split)
theorem zbqs {G_strings_IndexRune:List V→M V} {G_strconv_Atoi:List V→M V} {G_strings_IndexByte:List V→M V} {G_strings_Split:List V→M V} (k_strings_IndexRune:zq Tryz.prog zy G_strings_IndexRune) (k_strconv_Atoi:zq Tryz.prog zbp G_strconv_Atoi) (k_strings_IndexByte:zq Tryz.prog zb3 G_strings_IndexByte) (k_strings_Split:zq Tryz.prog zcu G_strings_Split):zq Tryz.prog z8q (zyf G_strings_IndexRune G_strconv_Atoi G_strings_IndexByte G_strings_Split):=kn1 (σ:=ovr [(z0i,zq5 G_strings_IndexRune G_strconv_Atoi G_strings_IndexByte),(ztx,zj4 G_strings_Split G_strings_IndexRune G_strconv_Atoi G_strings_IndexByte)] noC) (hint:=zbqr) (by kernel_rfl) (zh (zbiz k_strings_IndexRune k_strconv_Atoi k_strings_IndexByte) (zh (zba7 k_strings_Split k_strings_IndexRune k_strconv_Atoi k_strings_IndexByte) zl)) fun _=>(by kernel_rfl)
def ze7 (S:zx) (v3:List V):M Out :=
 zb (za (zu .add (zd v3 3) (Value.int .i64 1))) fun x18 =>
 ret (.nxt [(zd v3 0),(zd v3 1),(zd v3 2),x18])
def ze8 (S:zx) (v2:List V):M Out :=
 zb (
 zb (
 zb (za (zr 2 (zd v2 0) (zd v2 3))) fun x14 =>
 zb (ldn 2 x14) fun x15 =>
 zb (znw (ovr [] S) (zd v2 1) [x15]) fun x16 =>
 zp x16 (
 ret (.ret [(zd v2 3)])
 ) (
 ret (.nxt [(zd v2 0),(zd v2 1),(zd v2 2),(zd v2 3)])
 )
 ) fun o=>ret (zv 1 o)
 ) fun o=>nx o (ze7 S)
def zc5 (S:zx) (vs:List V):M Out :=
 zb (za (zu .lss (zd vs 3) (zd vs 2))) fun x9 =>
 zb (
 zp x9 (
 ret (.nxt [(zd vs 0),(zd vs 1),(zd vs 2),(zd vs 3)])
 ) (
 ret (.brk 0 [])
 )
 ) fun o=>nx o (ze8 S)
def ze9 (S:zx) (v4:List V):M Out :=
 ret (.ret [(Value.int .i64 (-1))])
def zc8 (S:zx) (x0 x1:V):M V :=
 zb (
 zb (
 zb (za (zw x0)) fun x7 =>
 zb (
 zba zbm (zc5 S) [x0,x1,x7,(Value.int .i64 0)]
 ) fun o=>ret (zv 0 o)
 ) fun o=>nx o (ze9 S)
 ) fun o=>zbk o fun vs=>ret (zbi [(zd vs 0)])
def zk7:Hint:=(.seq [] .leaf (.seq [] (.seq [] .leaf (.blk (.loop [0,1,7,8] (.seq [] .leaf (.seq [0,1,7,8] (.cond .leaf .leaf) (.seq [0,1,7,8] (.blk (.seq [] .leaf (.seq [] .leaf (.cond (.seq [] .leaf .leaf) .leaf)))) .leaf)))))) (.seq [] .leaf .leaf)))
def zc9 (S:zx):List V→M V:=ap2 (zc8 S)
theorem zk8 {S:zx} (hS:zd8 Tryz.prog S):zq Tryz.prog zev (zc9 S):=kn2 (σ:=ovr [] S) (hint:=zk7) (by kernel_rfl) (zeg hS) fun _ _=>(by kernel_rfl)
def zcx (S:zx) (x0 x1:V):M V :=
 zb (
 zb ((zc9 S) [x0,x1]) fun x7 =>
 zb (za (zu .geq x7 (Value.int .i64 0))) fun x8 =>
 ret (.ret [x8])
 ) fun o=>zbk o fun vs=>ret (zbi [(zd vs 0)])
def zjn:Hint:=(.seq [] .leaf (.seq [] .leaf .leaf))
def zb4 (S:zx):List V→M V:=ap2 (zcx S)
theorem zjo {S:zx} (hS:zd8 Tryz.prog S):zq Tryz.prog zd7 (zb4 S):=kn2 (σ:=ovr [(zev,zc9 S)] S) (hint:=zjn) (by kernel_rfl) (zh (zk8 (zeg hS)) (zeg hS)) fun _ _=>(by kernel_rfl)
def zsw (x0:V):M V :=
 zb (
 zb (zdc x0) fun x1 =>
 zb (za (zf 0 x1)) fun x3 =>
 zb (zz x3) fun x4 =>
 zb (za (zu .lss x4 (Value.int .i64 1))) fun x5 =>
 zb (gd x5 false (za (zf 0 x1))) fun x7 =>
 zb (gd x5 false (zz x7)) fun x8 =>
 zb (gd x5 false (za (zu .gtr x8 (Value.int .i64 3)))) fun x9 =>
 zb (za (z8 x5 (Value.bool true) x9)) fun x10 =>
 ret (.ret [x10])
 ) fun o=>zbk o fun vs=>ret (zbi [(zd vs 0)])
def zbfb:Hint:=(.seq [] .leaf (.seq [] .leaf .leaf))
def zhe:List V→M V:=ap1 zsw
theorem zbfc:zq Tryz.prog zco (zhe):=kn1 (σ:=ovr [] noC) (hint:=zbfb) (by kernel_rfl) zl fun _=>(by kernel_rfl)
def zwk (x0:V):M V :=
 zb (
 zb (za (zu .geq x0 (Value.int .i64 0))) fun x4 =>
 zb (gd x4 true (za (some x0))) fun x6 =>
 zb (gd x4 true (za (zu .lss x6 (Value.int .i64 8)))) fun x7 =>
 zb (za (z8 x4 x7 (Value.bool false))) fun x8 =>
 ret (.ret [x8])
 ) fun o=>zbk o fun vs=>ret (zbi [(zd vs 0)])
def zbi0:Hint:=(.seq [] .leaf (.seq [] .leaf .leaf))
def zq6:List V→M V:=ap1 zwk
theorem zbi1:zq Tryz.prog z0l (zq6):=kn1 (σ:=ovr [] noC) (hint:=zbi0) (by kernel_rfl) zl fun _=>(by kernel_rfl)
def zkk (v4:List V):M Out :=
 zb (ldn 3 (zd v4 3)) fun x73 =>
 zb (zgm (.agg [.i,.i,.b]) (zd v4 1) x73 (Value.bool true)) fun _ =>
 zb (za (zf 1 (zd v4 3))) fun x75 =>
 zb (zz x75) fun x76 =>
 zb (za (zf 1 (zd v4 3))) fun x78 =>
 zb (zz x78) fun x79 =>
 zb (lookup (.one .i) (Value.bool false) false (zd v4 2) x79) fun x80 =>
 zb (gd x80 false (za (zf 2 (zd v4 3)))) fun x82 =>
 zb (gd x80 false (zz x82)) fun x83 =>
 zb (za (z8 x80 (Value.bool true) x83)) fun x84 =>
 zb (zgm (.one .i) (zd v4 2) x76 x84) fun _ =>
 ret (.nxt [(zd v4 0),(zd v4 1),(zd v4 2),(zd v4 4),(zd v4 5),(zd v4 6)])
def zuc (v5:List V):M Out :=
 zb (za (zu .add (zd v5 5) (Value.int .i64 1))) fun x85 =>
 ret (.nxt [(zd v5 0),(zd v5 1),(zd v5 2),(zd v5 3),(zd v5 4),x85])
def z3f (v3:List V):M Out :=
 zb (
 zb (
 zb (za (zr 3 (zd v3 3) (zd v3 5))) fun x24 =>
 zb (ldn 3 x24) fun x25 =>
 zb (newc [Value.int .i64 0,Value.int .i64 0,Value.bool false]) fun x9 =>
 zb (stn 3 x9 x25) fun _ =>
 zb (
 zb (
 zb (za (zf 0 x9)) fun x27 =>
 zb (zz x27) fun x28 =>
 zb (zq6 [x28]) fun x29 =>
 zb (za (un .not x29)) fun x30 =>
 zb (gd x30 false (za (zf 1 x9))) fun x32 =>
 zb (gd x30 false (zz x32)) fun x33 =>
 zb (gd x30 false (za (zu .lss x33 (Value.int .i64 0)))) fun x34 =>
 zb (za (z8 x30 (Value.bool true) x34)) fun x35 =>
 zb (gd x35 false (za (zf 1 x9))) fun x37 =>
 zb (gd x35 false (zz x37)) fun x38 =>
 zb (gd x35 false (za (some (zd v3 0)))) fun x39 =>
 zb (gd x35 false (za (zw x39))) fun x40 =>
 zb (gd x35 false (za (zu .geq x38 x40))) fun x41 =>
 zb (za (z8 x35 (Value.bool true) x41)) fun x42 =>
 zp x42 (
 ret (.ret [(zd v3 5),(Value.int .i64 1)])
 ) (
 zb (za (zf 2 x9)) fun x45 =>
 zb (zz x45) fun x46 =>
 zb (gd x46 true (za (some (zd v3 0)))) fun x48 =>
 zb (gd x46 true (za (zf 1 x9))) fun x49 =>
 zb (gd x46 true (zz x49)) fun x50 =>
 zb (gd x46 true (za (zr 2 x48 x50))) fun x51 =>
 zb (gd x46 true (za (zf 1 x51))) fun x52 =>
 zb (gd x46 true (zz x52)) fun x53 =>
 zb (gd x46 true (za (un .not x53))) fun x54 =>
 zb (za (z8 x46 x54 (Value.bool false))) fun x55 =>
 zp x55 (
 ret (.ret [(zd v3 5),(Value.int .i64 91)])
 ) (
 zb (ldn 3 x9) fun x59 =>
 zb (lookup (.agg [.i,.i,.b]) (Value.bool false) false (zd v3 1) x59) fun x60 =>
 zb (gd x60 false (za (zf 2 x9))) fun x62 =>
 zb (gd x60 false (zz x62)) fun x63 =>
 zb (gd x60 false (za (some x63))) fun x64 =>
 zb (gd x64 true (za (some (zd v3 2)))) fun x65 =>
 zb (gd x64 true (za (zf 1 x9))) fun x66 =>
 zb (gd x64 true (zz x66)) fun x67 =>
 zb (gd x64 true (lookup (.one .i) (Value.bool false) false x65 x67)) fun x68 =>
 zb (gd x60 false (za (z8 x64 x68 (Value.bool false)))) fun x69 =>
 zb (za (z8 x60 (Value.bool true) x69)) fun x70 =>
 zp x70 (
 ret (.ret [(zd v3 5),(Value.int .i64 190)])
 ) (
 ret (.nxt [(zd v3 0),(zd v3 1),(zd v3 2),x9,(zd v3 3),(zd v3 4),(zd v3 5)])
 )
 )
 )
 ) fun o=>ret (zv 3 o)
 ) fun o=>nx o zkk
 ) fun o=>ret (zv 2 o)
 ) fun o=>nx o zuc
def zud (v2:List V):M Out :=
 zb (za (zu .lss (zd v2 5) (zd v2 4))) fun x22 =>
 zb (
 zp x22 (
 ret (.nxt [(zd v2 0),(zd v2 1),(zd v2 2),(zd v2 3),(zd v2 4),(zd v2 5)])
 ) (
 ret (.brk 1 [])
 )
 ) fun o=>nx o z3f
def z3g (v6:List V):M Out :=
 ret (.ret [(Value.int .i64 0),(Value.int .i64 0)])
def z3h (vs:List V):M Out :=
 zb (zvw) fun x17 =>
 zb (zvw) fun x18 =>
 zb (
 zb (za (zw (zd vs 1))) fun x20 =>
 zb (
 zba zbm zud [(zd vs 0),x17,x18,(zd vs 1),x20,(Value.int .i64 0)]
 ) fun o=>ret (zv 1 o)
 ) fun o=>nx o z3g
def zq7 (x0 x1:V):M V :=
 zb (
 zb (
 zb (
 zb (za (zw x0)) fun x12 =>
 zb (za (zu .gtr x12 (Value.int .i64 64))) fun x13 =>
 zp x13 (
 ret (.ret [(Value.int .i64 (-1)),(Value.int .i64 2)])
 ) (
 zb ((zb4 (ovr [(zco,zhe)] noC)) [x0,(Value.func (.func zco) #[] #[])]) fun x16 =>
 zp x16 (
 ret (.ret [(Value.int .i64 (-1)),(Value.int .i64 40)])
 ) (
 ret (.nxt [x0,x1])
 )
 )
 ) fun o=>ret (zv 0 o)
 ) fun o=>nx o z3h
 ) fun o=>zbk o fun vs=>ret (zbi [(zd vs 0),(zd vs 1)])
def zbi2:Hint:=(.seq [] .leaf (.seq [0,1] (.blk (.seq [] .leaf (.cond (.seq [] .leaf .leaf) (.seq [] .leaf (.cond (.seq [] .leaf .leaf) .leaf))))) (.seq [] .leaf (.seq [] .leaf (.seq [] (.seq [] .leaf (.blk (.loop [0,6,7,19,20,21] (.seq [] .leaf (.seq [0,6,7,19,20,21] (.cond .leaf .leaf) (.seq [0,6,7,19,20,21] (.blk (.seq [] .leaf (.seq [0,6,7,9,19,20,21] (.blk (.seq [] .leaf (.cond (.seq [] .leaf .leaf) (.seq [] .leaf (.cond (.seq [] .leaf .leaf) (.seq [] .leaf (.cond (.seq [] .leaf .leaf) .leaf))))))) (.seq [] .leaf .leaf)))) .leaf)))))) (.seq [] .leaf .leaf))))))
def zjc:List V→M V:=ap2 zq7
def zbi3:zx:=ovr [(zd7,zb4 (ovr [(zco,zhe)] noC)),(z0l,zq6)] noC
theorem z48:zq Tryz.prog zss (zjc):=kn2 (σ:=zbi3) (hint:=zbi2) (by kernel_rfl) (zh (zjo (zh zbfc zl)) (zh zbi1 zl)) fun _ _=>(by kernel_rfl)
def zzf (x0:V):M V :=
 zb (
 zb (za (zu .geq x0 (Value.int .i64 0))) fun x4 =>
 zb (gd x4 true (za (some x0))) fun x6 =>
 zb (gd x4 true (za (zu .lss x6 (Value.int .i64 8)))) fun x7 =>
 zb (za (z8 x4 x7 (Value.bool false))) fun x8 =>
 ret (.ret [x8])
 ) fun o=>zbk o fun vs=>ret (zbi [(zd vs 0)])
def zbkq:Hint:=(.seq [] .leaf (.seq [] .leaf .leaf))
def zot:List V→M V:=ap1 zzf
theorem zbkr:zq Tryz.prog z28 (zot):=kn1 (σ:=ovr [] noC) (hint:=zbkq) (by kernel_rfl) zl fun _=>(by kernel_rfl)
def z49 (v2:List V):M Out :=
 ret (.ret [(Value.int .i64 0)])
def z5a (vs:List V):M Out :=
 zb (
 zb (
 zb (za (zf 0 (zd vs 0))) fun x9 =>
 zb (zz x9) fun x10 =>
 zb (za (zu .neq x10 (Value.int .i64 1))) fun x11 =>
 zb (gd x11 true (za (zf 0 (zd vs 0)))) fun x13 =>
 zb (gd x11 true (zz x13)) fun x14 =>
 zb (gd x11 true (za (zu .neq x14 (Value.int .i64 2)))) fun x15 =>
 zb (za (z8 x11 x15 (Value.bool false))) fun x16 =>
 zp x16 (
 ret (.ret [(Value.int .i64 91)])
 ) (
 zb (za (zf 1 (zd vs 0))) fun x18 =>
 zb (zz x18) fun x19 =>
 zb (zot [x19]) fun x20 =>
 zb (za (un .not x20)) fun x21 =>
 zb (gd x21 false (za (zf 2 (zd vs 0)))) fun x23 =>
 zb (gd x21 false (zz x23)) fun x24 =>
 zb (gd x21 false (zot [x24])) fun x25 =>
 zb (gd x21 false (za (un .not x25))) fun x26 =>
 zb (za (z8 x21 (Value.bool true) x26)) fun x27 =>
 zp x27 (
 ret (.ret [(Value.int .i64 1)])
 ) (
 zb (za (zf 1 (zd vs 0))) fun x29 =>
 zb (zz x29) fun x30 =>
 zb (za (zf 2 (zd vs 0))) fun x31 =>
 zb (zz x31) fun x32 =>
 zb (za (zu .eql x30 x32)) fun x33 =>
 zp x33 (
 ret (.ret [(Value.int .i64 4)])
 ) (
 zb (za (zf 3 (zd vs 0))) fun x35 =>
 zb (zz x35) fun x36 =>
 zb (za (zu .lss x36 (Value.int .i64 1))) fun x37 =>
 zb (gd x37 false (za (zf 3 (zd vs 0)))) fun x39 =>
 zb (gd x37 false (zz x39)) fun x40 =>
 zb (gd x37 false (za (zu .gtr x40 (Value.int .i64 3)))) fun x41 =>
 zb (za (z8 x37 (Value.bool true) x41)) fun x42 =>
 zp x42 (
 ret (.ret [(Value.int .i64 40)])
 ) (
 zb (za (zf 4 (zd vs 0))) fun x44 =>
 zb (zz x44) fun x45 =>
 zb (za (zu .lss x45 (zd vs 1))) fun x47 =>
 zb (gd x47 false (za (zf 4 (zd vs 0)))) fun x49 =>
 zb (gd x47 false (zz x49)) fun x50 =>
 zb (gd x47 false (za (some (zd vs 2)))) fun x51 =>
 zb (gd x47 false (za (zu .gtr x50 x51))) fun x52 =>
 zb (za (z8 x47 (Value.bool true) x52)) fun x53 =>
 zp x53 (
 ret (.ret [(Value.int .i64 1)])
 ) (
 ret (.nxt [])
 )
 )
 )
 )
 )
 ) fun o=>ret (zv 0 o)
 ) fun o=>nx o z49
def zzg (x0:V):M V :=
 zb (
 zb (zdc x0) fun x1 =>
 zb (
 zb (za (zf 0 x1)) fun x5 =>
 zb (zz x5) fun x6 =>
 zb (za (zu .eql x6 (Value.int .i64 2))) fun x7 =>
 zp x7 (
 ret (.nxt [x1,(Value.int .i64 1),(Value.int .i64 16)])
 ) (
 ret (.nxt [x1,(Value.int .i64 0),(Value.int .i64 0)])
 )
 ) fun o=>nx o z5a
 ) fun o=>zbk o fun vs=>ret (zbi [(zd vs 0)])
def zbks:Hint:=(.seq [] .leaf (.seq [] .leaf (.seq [1,3,4] (.seq [] .leaf (.cond .leaf .leaf)) (.seq [] (.blk (.seq [] .leaf (.cond (.seq [] .leaf .leaf) (.seq [] .leaf (.cond (.seq [] .leaf .leaf) (.seq [] .leaf (.cond (.seq [] .leaf .leaf) (.seq [] .leaf (.cond (.seq [] .leaf .leaf) (.seq [] .leaf (.cond (.seq [] .leaf .leaf) .leaf))))))))))) (.seq [] .leaf .leaf)))))
def ztd:List V→M V:=ap1 zzg
def zbkt:zx:=ovr [(z28,zot)] noC
theorem zbku:zq Tryz.prog z26 (ztd):=kn1 (σ:=zbkt) (hint:=zbks) (by kernel_rfl) (zh zbkr zl) fun _=>(by kernel_rfl)
def z5b (v4:List V):M Out :=
 zb (za (zu .add (zd v4 2) (Value.int .i64 1))) fun x23 =>
 ret (.nxt [(zd v4 0),(zd v4 1),x23])
def z5c (v3:List V):M Out :=
 zb (
 zb (
 zb (za (zr 5 (zd v3 0) (zd v3 2))) fun x15 =>
 zb (ldn 5 x15) fun x16 =>
 zb (newc [Value.int .i64 0,Value.int .i64 0,Value.int .i64 0,Value.int .i64 0,Value.int .i64 0]) fun x5 =>
 zb (stn 5 x5 x16) fun _ =>
 zb (ldn 5 x5) fun x17 =>
 zb (ztd [x17]) fun x18 =>
 zb (za (zu .neq x18 (Value.int .i64 0))) fun x20 =>
 zp x20 (
 ret (.ret [(zd v3 2),x18])
 ) (
 ret (.nxt [(zd v3 0),(zd v3 1),(zd v3 2)])
 )
 ) fun o=>ret (zv 1 o)
 ) fun o=>nx o z5b
def zwl (v2:List V):M Out :=
 zb (za (zu .lss (zd v2 2) (zd v2 1))) fun x13 =>
 zb (
 zp x13 (
 ret (.nxt [(zd v2 0),(zd v2 1),(zd v2 2)])
 ) (
 ret (.brk 0 [])
 )
 ) fun o=>nx o z5c
def z5d (v5:List V):M Out :=
 ret (.ret [(Value.int .i64 0),(Value.int .i64 0)])
def z5e (vs:List V):M Out :=
 zb (
 zb (za (zw (zd vs 0))) fun x11 =>
 zb (
 zba zbm zwl [(zd vs 0),x11,(Value.int .i64 0)]
 ) fun o=>ret (zv 0 o)
 ) fun o=>nx o z5d
def zte (x0:V):M V :=
 zb (
 zb (
 zb (za (zw x0)) fun x8 =>
 zb (za (zu .gtr x8 (Value.int .i64 16))) fun x9 =>
 zp x9 (
 ret (.ret [(Value.int .i64 (-1)),(Value.int .i64 2)])
 ) (
 ret (.nxt [x0])
 )
 ) fun o=>nx o z5e
 ) fun o=>zbk o fun vs=>ret (zbi [(zd vs 0),(zd vs 1)])
def zbkv:Hint:=(.seq [] .leaf (.seq [0] (.seq [] .leaf (.cond (.seq [] .leaf .leaf) .leaf)) (.seq [] (.seq [] .leaf (.blk (.loop [10,11,12] (.seq [] .leaf (.seq [10,11,12] (.cond .leaf .leaf) (.seq [10,11,12] (.blk (.seq [] .leaf (.seq [] .leaf (.seq [] .leaf (.cond (.seq [] .leaf .leaf) .leaf))))) .leaf)))))) (.seq [] .leaf .leaf))))
def zky:List V→M V:=ap1 zte
def zbkw:zx:=ovr [(z26,ztd)] noC
theorem z88:zq Tryz.prog zt8 (zky):=kn1 (σ:=zbkw) (hint:=zbkv) (by kernel_rfl) (zh zbku zl) fun _=>(by kernel_rfl)
def z1v (v3:List V):M Out :=
 zb (za (zu .add (zd v3 4) (Value.int .i64 1))) fun x21 =>
 ret (.nxt [(zd v3 0),(zd v3 1),(zd v3 2),(zd v3 3),x21])
def z1w (v2:List V):M Out :=
 zb (
 zb (
 zb (za (zr 3 (zd v2 2) (zd v2 4))) fun x13 =>
 zb (ldn 3 x13) fun x14 =>
 zb (newc [Value.int .i64 0,Value.int .i64 0,Value.int .i64 0]) fun x7 =>
 zb (stn 3 x7 x14) fun _ =>
 zb (za (zf 0 x7)) fun x15 =>
 zb (zz x15) fun x16 =>
 zb (za (zu .eql x16 (zd v2 0))) fun x18 =>
 zp x18 (
 zb (za (zu .add (zd v2 1) (Value.int .i64 1))) fun x20 =>
 ret (.nxt [(zd v2 0),x20,(zd v2 2),(zd v2 3),(zd v2 4)])
 ) (
 ret (.nxt [(zd v2 0),(zd v2 1),(zd v2 2),(zd v2 3),(zd v2 4)])
 )
 ) fun o=>ret (zv 1 o)
 ) fun o=>nx o z1v
def zu8 (vs:List V):M Out :=
 zb (za (zu .lss (zd vs 4) (zd vs 3))) fun x12 =>
 zb (
 zp x12 (
 ret (.nxt [(zd vs 0),(zd vs 1),(zd vs 2),(zd vs 3),(zd vs 4)])
 ) (
 ret (.brk 0 [(zd vs 1)])
 )
 ) fun o=>nx o z1w
def zbcw (v4:List V):M Out :=
 ret (.ret [(zd v4 0)])
def z5f (x0 x1:V):M V :=
 zb (
 zb (zdc x0) fun x2 =>
 zb (
 zb (za (zf 1 x2)) fun x8 =>
 zb (zz x8) fun x9 =>
 zb (za (zw x9)) fun x10 =>
 zb (
 zba zbm zu8 [x1,(Value.int .i64 0),x9,x10,(Value.int .i64 0)]
 ) fun o=>ret (zv 0 o)
 ) fun o=>nx o zbcw
 ) fun o=>zbk o fun vs=>ret (zbi [(zd vs 0)])
def zbqt:Hint:=(.seq [] .leaf (.seq [] .leaf (.seq [5] (.seq [] .leaf (.blk (.loop [1,5,9,10,11] (.seq [] .leaf (.seq [1,5,9,10,11] (.cond .leaf .leaf) (.seq [1,5,9,10,11] (.blk (.seq [] .leaf (.seq [] .leaf (.cond .leaf .leaf)))) .leaf)))))) (.seq [] .leaf .leaf))))
def zt2:List V→M V:=ap2 z5f
theorem zbqu:zq Tryz.prog z80 (zt2):=kn2 (σ:=ovr [] noC) (hint:=zbqt) (by kernel_rfl) zl fun _ _=>(by kernel_rfl)
def z89 (v4:List V):M Out :=
 zb (za (zf 1 (zd v4 2))) fun x84 =>
 zb (zz x84) fun x85 =>
 zb (za (zf 2 (zd v4 2))) fun x86 =>
 zb (zz x86) fun x87 =>
 zb (za (zu .add x85 x87)) fun x88 =>
 ret (.nxt [(zd v4 0),(zd v4 1),x88,(zd v4 3),(zd v4 4),(zd v4 5)])
def z9a (v5:List V):M Out :=
 zb (za (zu .add (zd v5 5) (Value.int .i64 1))) fun x89 =>
 ret (.nxt [(zd v5 0),(zd v5 1),(zd v5 2),(zd v5 3),(zd v5 4),x89])
def zg8 (v3:List V):M Out :=
 zb (
 zb (
 zb (za (zr 3 (zd v3 3) (zd v3 5))) fun x44 =>
 zb (ldn 3 x44) fun x45 =>
 zb (newc [Value.int .i64 0,Value.int .i64 0,Value.int .i64 0]) fun x8 =>
 zb (stn 3 x8 x45) fun _ =>
 zb (
 zb (za (zf 0 x8)) fun x46 =>
 zb (zz x46) fun x47 =>
 zb (za (zu .lss x47 (Value.int .i64 (-1)))) fun x48 =>
 zb (gd x48 false (za (zf 0 x8))) fun x50 =>
 zb (gd x48 false (zz x50)) fun x51 =>
 zb (gd x48 false (za (some (zd v3 0)))) fun x52 =>
 zb (gd x48 false (za (zu .geq x51 x52))) fun x53 =>
 zb (za (z8 x48 (Value.bool true) x53)) fun x54 =>
 zb (gd x54 false (za (zf 2 x8))) fun x56 =>
 zb (gd x54 false (zz x56)) fun x57 =>
 zb (gd x54 false (za (zu .lss x57 (Value.int .i64 1)))) fun x58 =>
 zb (za (z8 x54 (Value.bool true) x58)) fun x59 =>
 zb (gd x59 false (za (zf 1 x8))) fun x61 =>
 zb (gd x59 false (zz x61)) fun x62 =>
 zb (gd x59 false (za (some (zd v3 2)))) fun x63 =>
 zb (gd x59 false (za (zu .lss x62 x63))) fun x64 =>
 zb (za (z8 x59 (Value.bool true) x64)) fun x65 =>
 zb (gd x65 false (za (zf 1 x8))) fun x67 =>
 zb (gd x65 false (zz x67)) fun x68 =>
 zb (gd x65 false (za (zf 0 (zd v3 1)))) fun x69 =>
 zb (gd x65 false (zz x69)) fun x70 =>
 zb (gd x65 false (za (zu .gtr x68 x70))) fun x71 =>
 zb (za (z8 x65 (Value.bool true) x71)) fun x72 =>
 zb (gd x72 false (za (zf 2 x8))) fun x74 =>
 zb (gd x72 false (zz x74)) fun x75 =>
 zb (gd x72 false (za (zf 0 (zd v3 1)))) fun x76 =>
 zb (gd x72 false (zz x76)) fun x77 =>
 zb (gd x72 false (za (zf 1 x8))) fun x78 =>
 zb (gd x72 false (zz x78)) fun x79 =>
 zb (gd x72 false (za (zu .sub x77 x79))) fun x80 =>
 zb (gd x72 false (za (zu .gtr x75 x80))) fun x81 =>
 zb (za (z8 x72 (Value.bool true) x81)) fun x82 =>
 zp x82 (
 ret (.ret [(zd v3 5),(Value.int .i64 210)])
 ) (
 ret (.nxt [(zd v3 0),(zd v3 1),x8,(zd v3 3),(zd v3 4),(zd v3 5)])
 )
 ) fun o=>nx o z89
 ) fun o=>ret (zv 2 o)
 ) fun o=>nx o z9a
def zf1 (v2:List V):M Out :=
 zb (za (zu .lss (zd v2 5) (zd v2 4))) fun x42 =>
 zb (
 zp x42 (
 ret (.nxt [(zd v2 0),(zd v2 1),(zd v2 2),(zd v2 3),(zd v2 4),(zd v2 5)])
 ) (
 ret (.brk 1 [(zd v2 0),(zd v2 1)])
 )
 ) fun o=>nx o zg8
def z9b (v10:List V):M Out :=
 zb (za (zu .add (zd v10 2) (Value.int .i64 1))) fun x101 =>
 ret (.nxt [(zd v10 0),(zd v10 1),x101])
def z9c (v9:List V):M Out :=
 zb (
 zb (
 zb (ldn 2 (zd v9 0)) fun x97 =>
 zb (zt2 [x97,(zd v9 2)]) fun x99 =>
 zb (za (zu .eql x99 (Value.int .i64 0))) fun x100 =>
 zp x100 (
 ret (.ret [(Value.int .i64 (-1)),(Value.int .i64 210)])
 ) (
 ret (.nxt [(zd v9 0),(zd v9 1),(zd v9 2)])
 )
 ) fun o=>ret (zv 4 o)
 ) fun o=>nx o z9b
def zzh (v8:List V):M Out :=
 zb (za (zu .lss (zd v8 2) (zd v8 1))) fun x95 =>
 zb (
 zp x95 (
 ret (.nxt [(zd v8 0),(zd v8 1),(zd v8 2)])
 ) (
 ret (.brk 3 [])
 )
 ) fun o=>nx o z9c
def z9d (v11:List V):M Out :=
 ret (.ret [(Value.int .i64 0),(Value.int .i64 0)])
def z9e (v7:List V):M Out :=
 zb (
 zb (
 zba zbm zzh [(zd v7 1),(zd v7 0),(Value.int .i64 0)]
 ) fun o=>ret (zv 3 o)
 ) fun o=>nx o z9d
def z9f (v6:List V):M Out :=
 zb (
 zb (ldn 2 (zd v6 1)) fun x90 =>
 zb (zt2 [x90,(Value.int .i64 (-1))]) fun x91 =>
 zb (za (zu .gtr x91 (Value.int .i64 1))) fun x92 =>
 zp x92 (
 ret (.ret [(Value.int .i64 (-1)),(Value.int .i64 210)])
 ) (
 ret (.nxt [(zd v6 0),(zd v6 1)])
 )
 ) fun o=>nx o z9e
def z5g (vs:List V):M Out :=
 zb (
 zb (za (zf 1 (zd vs 1))) fun x38 =>
 zb (zz x38) fun x39 =>
 zb (za (zw x39)) fun x40 =>
 zb (
 zba zbm zf1 [(zd vs 0),(zd vs 1),(Value.int .i64 0),x39,x40,(Value.int .i64 0)]
 ) fun o=>ret (zv 1 o)
 ) fun o=>nx o z9f
def zg1 (x0 x1:V):M V :=
 zb (
 zb (zdc x0) fun x2 =>
 zb (
 zb (
 zb (za (zu .lss x1 (Value.int .i64 1))) fun x12 =>
 zb (gd x12 false (za (some x1))) fun x14 =>
 zb (gd x12 false (za (zu .gtr x14 (Value.int .i64 8)))) fun x15 =>
 zb (za (z8 x12 (Value.bool true) x15)) fun x16 =>
 zp x16 (
 ret (.ret [(Value.int .i64 (-1)),(Value.int .i64 1)])
 ) (
 zb (za (zf 0 x2)) fun x18 =>
 zb (zz x18) fun x19 =>
 zb (za (zu .lss x19 (Value.int .i64 1))) fun x20 =>
 zb (gd x20 false (za (zf 0 x2))) fun x22 =>
 zb (gd x20 false (zz x22)) fun x23 =>
 zb (gd x20 false (za (zu .gtr x23 (Value.int .i64 65536)))) fun x24 =>
 zb (za (z8 x20 (Value.bool true) x24)) fun x25 =>
 zb (gd x25 false (za (zf 1 x2))) fun x27 =>
 zb (gd x25 false (zz x27)) fun x28 =>
 zb (gd x25 false (za (zw x28))) fun x29 =>
 zb (gd x25 false (za (zu .lss x29 (Value.int .i64 1)))) fun x30 =>
 zb (za (z8 x25 (Value.bool true) x30)) fun x31 =>
 zb (gd x31 false (za (zf 1 x2))) fun x33 =>
 zb (gd x31 false (zz x33)) fun x34 =>
 zb (gd x31 false (za (zw x34))) fun x35 =>
 zb (gd x31 false (za (zu .gtr x35 (Value.int .i64 32)))) fun x36 =>
 zb (za (z8 x31 (Value.bool true) x36)) fun x37 =>
 zp x37 (
 ret (.ret [(Value.int .i64 (-1)),(Value.int .i64 210)])
 ) (
 ret (.nxt [x1,x2])
 )
 )
 ) fun o=>ret (zv 0 o)
 ) fun o=>nx o z5g
 ) fun o=>zbk o fun vs=>ret (zbi [(zd vs 0),(zd vs 1)])
def zbnw:Hint:=(.seq [] .leaf (.seq [1,2] (.blk (.seq [] .leaf (.cond (.seq [] .leaf .leaf) (.seq [] .leaf (.cond (.seq [] .leaf .leaf) .leaf))))) (.seq [] .leaf (.seq [1,2] (.seq [] .leaf (.blk (.loop [1,2,6,39,40,41] (.seq [] .leaf (.seq [1,2,6,39,40,41] (.cond .leaf .leaf) (.seq [1,2,6,39,40,41] (.blk (.seq [] .leaf (.seq [1,2,8,39,40,41] (.seq [] .leaf (.cond (.seq [] .leaf .leaf) .leaf)) .leaf))) .leaf)))))) (.seq [1,2] (.seq [] .leaf (.cond (.seq [] .leaf .leaf) .leaf)) (.seq [] (.seq [] .leaf (.blk (.loop [2,93,94] (.seq [] .leaf (.seq [2,93,94] (.cond .leaf .leaf) (.seq [2,93,94] (.blk (.seq [] .leaf (.seq [] .leaf (.cond (.seq [] .leaf .leaf) .leaf)))) .leaf)))))) (.seq [] .leaf .leaf)))))))
def zu9:List V→M V:=ap2 zg1
def zbnx:zx:=ovr [(z80,zt2)] noC
theorem zbny:zq Tryz.prog z4w (zu9):=kn2 (σ:=zbnx) (hint:=zbnw) (by kernel_rfl) (zh zbqu zl) fun _ _=>(by kernel_rfl)
def zwm (x0 x1:V):M V :=
 zb (
 zb (zdc x0) fun x2 =>
 zb (za (zf 0 x2)) fun x4 =>
 zb (zz x4) fun x5 =>
 zb (zz x1) fun x6 =>
 zb (za (zu .geq x5 x6)) fun x7 =>
 ret (.ret [x7])
 ) fun o=>zbk o fun vs=>ret (zbi [(zd vs 0)])
def zbi4:Hint:=(.seq [] .leaf (.seq [] .leaf .leaf))
def zex:List V→M V:=ap2 zwm
theorem z5h:zq Tryz.prog zds (zex):=kn2 (σ:=ovr [] noC) (hint:=zbi4) (by kernel_rfl) zl fun _ _=>(by kernel_rfl)
def zkl (S:zx) (v3:List V):M Out :=
 zb (za (zu .add (zd v3 3) (Value.int .i64 1))) fun x18 =>
 ret (.nxt [(zd v3 0),(zd v3 1),(zd v3 2),x18])
def zkm (S:zx) (v2:List V):M Out :=
 zb (
 zb (
 zb (za (zr 3 (zd v2 0) (zd v2 3))) fun x14 =>
 zb (ldn 3 x14) fun x15 =>
 zb (znw (ovr [] S) (zd v2 1) [x15]) fun x16 =>
 zp x16 (
 ret (.ret [(zd v2 3)])
 ) (
 ret (.nxt [(zd v2 0),(zd v2 1),(zd v2 2),(zd v2 3)])
 )
 ) fun o=>ret (zv 1 o)
 ) fun o=>nx o (zkl S)
def zkn (S:zx) (vs:List V):M Out :=
 zb (za (zu .lss (zd vs 3) (zd vs 2))) fun x9 =>
 zb (
 zp x9 (
 ret (.nxt [(zd vs 0),(zd vs 1),(zd vs 2),(zd vs 3)])
 ) (
 ret (.brk 0 [])
 )
 ) fun o=>nx o (zkm S)
def zko (S:zx) (v4:List V):M Out :=
 ret (.ret [(Value.int .i64 (-1))])
def zk9 (S:zx) (x0 x1:V):M V :=
 zb (
 zb (
 zb (za (zw x0)) fun x7 =>
 zb (
 zba zbm (zkn S) [x0,x1,x7,(Value.int .i64 0)]
 ) fun o=>ret (zv 0 o)
 ) fun o=>nx o (zko S)
 ) fun o=>zbk o fun vs=>ret (zbi [(zd vs 0)])
def zla:Hint:=(.seq [] .leaf (.seq [] (.seq [] .leaf (.blk (.loop [0,1,7,8] (.seq [] .leaf (.seq [0,1,7,8] (.cond .leaf .leaf) (.seq [0,1,7,8] (.blk (.seq [] .leaf (.seq [] .leaf (.cond (.seq [] .leaf .leaf) .leaf)))) .leaf)))))) (.seq [] .leaf .leaf)))
def zda (S:zx):List V→M V:=ap2 (zk9 S)
theorem zlb {S:zx} (hS:zd8 Tryz.prog S):zq Tryz.prog zeu (zda S):=kn2 (σ:=ovr [] S) (hint:=zla) (by kernel_rfl) (zeg hS) fun _ _=>(by kernel_rfl)
def zjp (S:zx) (x0 x1:V):M V :=
 zb (
 zb ((zda S) [x0,x1]) fun x7 =>
 zb (za (zu .geq x7 (Value.int .i64 0))) fun x8 =>
 ret (.ret [x8])
 ) fun o=>zbk o fun vs=>ret (zbi [(zd vs 0)])
def zjq:Hint:=(.seq [] .leaf (.seq [] .leaf .leaf))
def zbl (S:zx):List V→M V:=ap2 (zjp S)
theorem zeq {S:zx} (hS:zd8 Tryz.prog S):zq Tryz.prog zcr (zbl S):=kn2 (σ:=ovr [(zeu,zda S)] S) (hint:=zjq) (by kernel_rfl) (zh (zlb (zeg hS)) (zeg hS)) fun _ _=>(by kernel_rfl)
def zq8 (x0 x1:V):M V :=
 zb (
 zb (zdc x0) fun x2 =>
 zb (za (zf 1 x2)) fun x4 =>
 zb (zz x4) fun x5 =>
 zb (zz x1) fun x6 =>
 zb (za (zu .geq x5 x6)) fun x7 =>
 zb (gd x7 false (za (zf 2 x2))) fun x9 =>
 zb (gd x7 false (zz x9)) fun x10 =>
 zb (gd x7 false (zz x1)) fun x11 =>
 zb (gd x7 false (za (zu .geq x10 x11))) fun x12 =>
 zb (za (z8 x7 (Value.bool true) x12)) fun x13 =>
 ret (.ret [x13])
 ) fun o=>zbk o fun vs=>ret (zbi [(zd vs 0)])
def zbi5:Hint:=(.seq [] .leaf (.seq [] .leaf .leaf))
def zey:List V→M V:=ap2 zq8
theorem z5i:zq Tryz.prog zdt (zey):=kn2 (σ:=ovr [] noC) (hint:=zbi5) (by kernel_rfl) zl fun _ _=>(by kernel_rfl)
def zln (S:zx) (v3:List V):M Out :=
 zb (za (zu .add (zd v3 3) (Value.int .i64 1))) fun x18 =>
 ret (.nxt [(zd v3 0),(zd v3 1),(zd v3 2),x18])
def zlo (S:zx) (v2:List V):M Out :=
 zb (
 zb (
 zb (za (zr 5 (zd v2 0) (zd v2 3))) fun x14 =>
 zb (ldn 5 x14) fun x15 =>
 zb (znw (ovr [] S) (zd v2 1) [x15]) fun x16 =>
 zp x16 (
 ret (.ret [(zd v2 3)])
 ) (
 ret (.nxt [(zd v2 0),(zd v2 1),(zd v2 2),(zd v2 3)])
 )
 ) fun o=>ret (zv 1 o)
 ) fun o=>nx o (zln S)
def zlp (S:zx) (vs:List V):M Out :=
 zb (za (zu .lss (zd vs 3) (zd vs 2))) fun x9 =>
 zb (
 zp x9 (
 ret (.nxt [(zd vs 0),(zd vs 1),(zd vs 2),(zd vs 3)])
 ) (
 ret (.brk 0 [])
 )
 ) fun o=>nx o (zlo S)
def zlq (S:zx) (v4:List V):M Out :=
 ret (.ret [(Value.int .i64 (-1))])
def zmj (S:zx) (x0 x1:V):M V :=
 zb (
 zb (
 zb (za (zw x0)) fun x7 =>
 zb (
 zba zbm (zlp S) [x0,x1,x7,(Value.int .i64 0)]
 ) fun o=>ret (zv 0 o)
 ) fun o=>nx o (zlq S)
 ) fun o=>zbk o fun vs=>ret (zbi [(zd vs 0)])
def zmk:Hint:=(.seq [] .leaf (.seq [] (.seq [] .leaf (.blk (.loop [0,1,7,8] (.seq [] .leaf (.seq [0,1,7,8] (.cond .leaf .leaf) (.seq [0,1,7,8] (.blk (.seq [] .leaf (.seq [] .leaf (.cond (.seq [] .leaf .leaf) .leaf)))) .leaf)))))) (.seq [] .leaf .leaf)))
def zdn (S:zx):List V→M V:=ap2 (zmj S)
theorem zml {S:zx} (hS:zd8 Tryz.prog S):zq Tryz.prog zfj (zdn S):=kn2 (σ:=ovr [] S) (hint:=zmk) (by kernel_rfl) (zeg hS) fun _ _=>(by kernel_rfl)
def zkp (S:zx) (x0 x1:V):M V :=
 zb (
 zb ((zdn S) [x0,x1]) fun x7 =>
 zb (za (zu .geq x7 (Value.int .i64 0))) fun x8 =>
 ret (.ret [x8])
 ) fun o=>zbk o fun vs=>ret (zbi [(zd vs 0)])
def zkq:Hint:=(.seq [] .leaf (.seq [] .leaf .leaf))
def zb8 (S:zx):List V→M V:=ap2 (zkp S)
theorem zkr {S:zx} (hS:zd8 Tryz.prog S):zq Tryz.prog zep (zb8 S):=kn2 (σ:=ovr [(zfj,zdn S)] S) (hint:=zkq) (by kernel_rfl) (zh (zml (zeg hS)) (zeg hS)) fun _ _=>(by kernel_rfl)
def z9g (vs:List V):M Out :=
 zb (za (build [] [])) fun x15 =>
 zb (za (some (Value.iface zv8 x15))) fun x16 =>
 ret (.ret [x16])
def zq9 (x0:V):M V :=
 zb (
 zb (zdc x0) fun x1 =>
 zb (
 zb (za (zf 0 x1)) fun x3 =>
 zb (zz x3) fun x4 =>
 zb (
 zb (za (zu .eql x4 (Value.int .i64 1))) fun x6 =>
 zp x6 (
 zb (za (zf 1 x1)) fun x7 =>
 zb (zz x7) fun x8 =>
 zb (za (some (Value.iface zqu x8))) fun x9 =>
 ret (.ret [x9])
 ) (
 zb (za (zu .eql x4 (Value.int .i64 2))) fun x11 =>
 zp x11 (
 zb (za (zf 1 x1)) fun x12 =>
 zb (zz x12) fun x13 =>
 zb (za (some (Value.iface ztc x13))) fun x14 =>
 ret (.ret [x14])
 ) (
 ret (.nxt [])
 )
 )
 ) fun o=>ret (zv 0 o)
 ) fun o=>nx o z9g
 ) fun o=>zbk o fun vs=>ret (zbi [(zd vs 0)])
def zbnz:Hint:=(.seq [] .leaf (.seq [] (.seq [] .leaf (.blk (.seq [] .leaf (.cond (.seq [] .leaf .leaf) (.seq [] .leaf (.cond (.seq [] .leaf .leaf) .leaf)))))) (.seq [] .leaf .leaf)))
def zez:List V→M V:=ap1 zq9
theorem zbcx:zq Tryz.prog zhi (zez):=kn1 (σ:=ovr [] noC) (hint:=zbnz) (by kernel_rfl) zl fun _=>(by kernel_rfl)
def zg9 (v3:List V):M Out :=
 zb (za (zu .add (zd v3 3) (Value.int .i64 1))) fun x18 =>
 ret (.nxt [(zd v3 0),(zd v3 1),(zd v3 2),x18])
def zd4 (v2:List V):M Out :=
 zb (
 zb (
 zb (za (zr 2 (zd v2 0) (zd v2 3))) fun x14 =>
 zb (ldn 2 (zd v2 1)) fun x11 =>
 zb (ldn 2 x14) fun x15 =>
 zb (za (zer false (zpt [.i,.i] x11 x15))) fun x16 =>
 zp x16 (
 ret (.ret [(zd v2 3)])
 ) (
 ret (.nxt [(zd v2 0),(zd v2 1),(zd v2 2),(zd v2 3)])
 )
 ) fun o=>ret (zv 1 o)
 ) fun o=>nx o zg9
def zcw (vs:List V):M Out :=
 zb (za (zu .lss (zd vs 3) (zd vs 2))) fun x9 =>
 zb (
 zp x9 (
 ret (.nxt [(zd vs 0),(zd vs 1),(zd vs 2),(zd vs 3)])
 ) (
 ret (.brk 0 [])
 )
 ) fun o=>nx o zd4
def zha (v4:List V):M Out :=
 ret (.ret [(Value.int .i64 (-1))])
def zea (x0 x1:V):M V :=
 zb (
 zb (zdc x1) fun x3 =>
 zb (
 zb (za (zw x0)) fun x7 =>
 zb (
 zba zbm zcw [x0,x3,x7,(Value.int .i64 0)]
 ) fun o=>ret (zv 0 o)
 ) fun o=>nx o zha
 ) fun o=>zbk o fun vs=>ret (zbi [(zd vs 0)])
def zpe:Hint:=(.seq [] .leaf (.seq [] (.seq [] .leaf (.blk (.loop [0,3,7,8] (.seq [] .leaf (.seq [0,3,7,8] (.cond .leaf .leaf) (.seq [0,3,7,8] (.blk (.seq [] .leaf (.seq [] (.reg [1,2,3,0,4,5] []) (.cond (.seq [] .leaf .leaf) .leaf)))) .leaf)))))) (.seq [] .leaf .leaf)))
def zc0:List V→M V:=ap2 zea
theorem zpf:zq Tryz.prog zgv (zc0):=kn2 (σ:=ovr [] noC) (hint:=zpe) (by kernel_rfl) zl fun _ _=>(by kernel_rfl)
def zdx (x0 x1:V):M V :=
 zb (
 zb (zdc x1) fun x3 =>
 zb (ldn 2 x3) fun x6 =>
 zb (zc0 [x0,x6]) fun x7 =>
 zb (za (zu .geq x7 (Value.int .i64 0))) fun x8 =>
 ret (.ret [x8])
 ) fun o=>zbk o fun vs=>ret (zbi [(zd vs 0)])
def znm:Hint:=(.seq [] .leaf (.seq [] .leaf .leaf))
def zbs:List V→M V:=ap2 zdx
def znn:zx:=ovr [(zgv,zc0)] noC
theorem zno:zq Tryz.prog zcf (zbs):=kn2 (σ:=znn) (hint:=znm) (by kernel_rfl) (zh zpf zl) fun _ _=>(by kernel_rfl)
def zeb (x0 x1 x2 x3:V):M V :=
 zb (
 zb (zdc x0) fun x4 =>
 zb (za (zf 0 x4)) fun x6 =>
 zb (zz x6) fun x7 =>
 zb (zz x1) fun x8 =>
 zb (za (zu .eql x7 x8)) fun x9 =>
 zb (gd x9 true (za (zf 1 x4))) fun x11 =>
 zb (gd x9 true (zz x11)) fun x12 =>
 zb (gd x9 true (zz x2)) fun x13 =>
 zb (gd x9 true (za (zu .eql x12 x13))) fun x14 =>
 zb (za (z8 x9 x14 (Value.bool false))) fun x15 =>
 zb (gd x15 true (za (zf 2 x4))) fun x17 =>
 zb (gd x15 true (zz x17)) fun x18 =>
 zb (gd x15 true (za (some x18))) fun x19 =>
 zb (gd x19 false (zz x3)) fun x20 =>
 zb (gd x19 false (za (un .not x20))) fun x21 =>
 zb (gd x15 true (za (z8 x19 (Value.bool true) x21))) fun x22 =>
 zb (za (z8 x15 x22 (Value.bool false))) fun x23 =>
 ret (.ret [x23])
 ) fun o=>zbk o fun vs=>ret (zbi [(zd vs 0)])
def zba8:Hint:=(.seq [] .leaf (.seq [] .leaf .leaf))
def zfs:List V→M V:=ap4 zeb
theorem zba9:zq Tryz.prog zeh (zfs):=kn4 (σ:=ovr [] noC) (hint:=zba8) (by kernel_rfl) zl fun _ _ _ _=>(by kernel_rfl)
def zsx (x0 x1 x2 x3:V):M V :=
 zb (
 zb (zdc x0) fun x4 =>
 zb (zdc x1) fun x5 =>
 zb (zdc x2) fun x6 =>
 zb (zdc x3) fun x7 =>
 zb (za (zf 1 x5)) fun x9 =>
 zb (zz x9) fun x10 =>
 zb (za (some (Value.func (.func zeh) #[] #[x6,x4,x7]))) fun x11 =>
 zb ((zbl (ovr [(zeh,zfs)] noC)) [x10,x11]) fun x12 =>
 ret (.ret [x12])
 ) fun o=>zbk o fun vs=>ret (zbi [(zd vs 0)])
def zbfd:Hint:=(.seq [] .leaf (.seq [] .leaf .leaf))
def zjd:List V→M V:=ap4 zsx
def zbfe:zx:=ovr [(zcr,zbl (ovr [(zeh,zfs)] noC))] noC
theorem zbff:zq Tryz.prog zhj (zjd):=kn4 (σ:=zbfe) (hint:=zbfd) (by kernel_rfl) (zh (zeq (zh zba9 zl)) zl) fun _ _ _ _=>(by kernel_rfl)
def zsy (v2:List V):M Out :=
 zb (za (zf 2 (zd v2 2))) fun x27 =>
 zb (zz x27) fun x28 =>
 zb (za (zr 5 x28 (zd v2 0))) fun x30 =>
 zb (za (zf 2 x30)) fun x31 =>
 zb (zz x31) fun x32 =>
 zb (za (zu .eql x32 (zd v2 1))) fun x34 =>
 ret (.ret [x34])
def zsz (vs:List V):M Out :=
 zb (
 zp (zd vs 2) (
 zb (za (zf 2 (zd vs 3))) fun x19 =>
 zb (zz x19) fun x20 =>
 zb (za (zr 5 x20 (zd vs 0))) fun x22 =>
 zb (za (zf 1 x22)) fun x23 =>
 zb (zz x23) fun x24 =>
 zb (za (zu .eql x24 (zd vs 1))) fun x26 =>
 ret (.ret [x26])
 ) (
 ret (.nxt [(zd vs 0),(zd vs 1),(zd vs 3)])
 )
 ) fun o=>nx o zsy
def zue (x0 x1 x2 x3:V):M V :=
 zb (
 zb (zdc x1) fun x5 =>
 zb (
 zb (za (zu .lss x0 (Value.int .i64 0))) fun x10 =>
 zb (gd x10 false (za (some x0))) fun x12 =>
 zb (gd x10 false (za (zf 2 x5))) fun x13 =>
 zb (gd x10 false (zz x13)) fun x14 =>
 zb (gd x10 false (za (zw x14))) fun x15 =>
 zb (gd x10 false (za (zu .geq x12 x15))) fun x16 =>
 zb (za (z8 x10 (Value.bool true) x16)) fun x17 =>
 zp x17 (
 ret (.ret [(Value.bool false)])
 ) (
 ret (.nxt [x0,x2,x3,x5])
 )
 ) fun o=>nx o zsz
 ) fun o=>zbk o fun vs=>ret (zbi [(zd vs 0)])
def zbg1:Hint:=(.seq [] .leaf (.seq [0,2,3,5] (.seq [] .leaf (.cond (.seq [] .leaf .leaf) .leaf)) (.seq [0,2,5] (.seq [] .leaf (.cond (.seq [] .leaf .leaf) .leaf)) (.seq [] .leaf .leaf))))
def zks:List V→M V:=ap4 zue
theorem zbg2:zq Tryz.prog zig (zks):=kn4 (σ:=ovr [] noC) (hint:=zbg1) (by kernel_rfl) zl fun _ _ _ _=>(by kernel_rfl)
def zs0 (x0 x1 x2 x3:V):M V :=
 zb (
 zb (zdc x0) fun x4 =>
 zb (zdc x1) fun x5 =>
 ret (.ret [(Value.bool false)])
 ) fun o=>zbk o fun vs=>ret (zbi [(zd vs 0)])
def zbfg:Hint:=(.seq [] .leaf (.seq [] .leaf .leaf))
def zje:List V→M V:=ap4 zs0
theorem zbfh:zq Tryz.prog zhl (zje):=kn4 (σ:=ovr [] noC) (hint:=zbfg) (by kernel_rfl) zl fun _ _ _ _=>(by kernel_rfl)
noncomputable def z9h (v4:List V):M Out :=
 zb (za (zu .add (zd v4 6) (Value.int .i64 1))) fun x35 =>
 ret (.nxt [(zd v4 0),(zd v4 1),(zd v4 2),(zd v4 3),(zd v4 4),(zd v4 5),x35])
noncomputable def z9i (v3:List V):M Out :=
 zb (
 zb (
 zb (za (zr 2 (zd v3 4) (zd v3 6))) fun x19 =>
 zb (ldn 2 x19) fun x20 =>
 zb (newc [Value.int .i64 0,Value.int .i64 0]) fun x10 =>
 zb (stn 2 x10 x20) fun _ =>
 zh0 fun h0 =>
 zb (ldn 2 x10) fun x21 =>
 zb (ldn 7 (zd v3 3)) fun x23 =>
 zbw (zez [x21]) fun ha x22 h1 =>
 zbw (invM Tryz.prog (ovr [(zhj,zjd),(zig,zks),(zhl,zje),(zhi,zez),(zcf,zbs)] noC) x22 "capstan/exec.may" [x23,(zd v3 0),(zd v3 2)]) fun ha_2 x26 h2 =>
 zb (za (un .not x26)) fun x27 =>
 zb (gd x27 false (za (some (zd v3 1)))) fun x29 =>
 zb (gd x27 false (za (some (zd v3 6)))) fun x30 =>
 zb (gd x27 false (za (zh6 2 x29 none (some x30)))) fun x31 =>
 zb (gd x27 false (ldn 2 x10)) fun x32 =>
 zbw (gd x27 false (zbs [x31,x32])) fun ha_3 x33 h3 =>
 zb (za (z8 x27 (Value.bool true) x33)) fun x34 =>
 zdj (chk (ldn 7 (zd v3 3)) h1 x23) <|
 zp x34 (
 ret (.ret [(Value.bool false)])
 ) (
 ret (.nxt [(zd v3 0),(zd v3 1),(zd v3 2),(zd v3 3),(zd v3 4),(zd v3 5),(zd v3 6)])
 )
 ) fun o=>ret (zv 1 o)
 ) fun o=>nx o z9h
noncomputable def zzi (v2:List V):M Out :=
 zb (za (zu .lss (zd v2 6) (zd v2 5))) fun x17 =>
 zb (
 zp x17 (
 ret (.nxt [(zd v2 0),(zd v2 1),(zd v2 2),(zd v2 3),(zd v2 4),(zd v2 5),(zd v2 6)])
 ) (
 ret (.brk 0 [])
 )
 ) fun o=>nx o z9i
noncomputable def z9j (v5:List V):M Out :=
 ret (.ret [(Value.bool true)])
noncomputable def z9k (vs:List V):M Out :=
 zb (
 zb (za (zw (zd vs 1))) fun x15 =>
 zb (
 zba zbm zzi [(zd vs 0),(zd vs 1),(zd vs 2),(zd vs 3),(zd vs 1),x15,(Value.int .i64 0)]
 ) fun o=>ret (zv 0 o)
 ) fun o=>nx o z9j
noncomputable def z1x (x0 x1 x2 x3:V):M V :=
 zb (
 zb (zdc x0) fun x4 =>
 zb (
 zb (za (zw x2)) fun x12 =>
 zb (za (zu .gtr x12 (Value.int .i64 32))) fun x13 =>
 zp x13 (
 ret (.ret [(Value.bool false)])
 ) (
 ret (.nxt [x1,x2,x3,x4])
 )
 ) fun o=>nx o z9k
 ) fun o=>zbk o fun vs=>ret (zbi [(zd vs 0)])
def zbn0:Hint:=(.seq [] .leaf (.seq [1,2,3,4] (.seq [] .leaf (.cond (.seq [] .leaf .leaf) .leaf)) (.seq [] (.seq [] .leaf (.blk (.loop [1,2,3,4,14,15,16] (.seq [] .leaf (.seq [1,2,3,4,14,15,16] (.cond .leaf .leaf) (.seq [1,2,3,4,14,15,16] (.blk (.seq [] .leaf (.seq [] (.reg [3,4,0,2,1,5,6,7,8,9,10,11,12,13] []) (.cond (.seq [] .leaf .leaf) .leaf)))) .leaf)))))) (.seq [] .leaf .leaf))))
noncomputable def zra:List V→M V:=ap4 z1x
noncomputable def zbn1:zx:=ovr [(zhj,zjd),(zig,zks),(zhl,zje),(zhi,zez),(zcf,zbs)] noC
theorem zbn2:zq Tryz.prog z4x (zra):=kn4 (σ:=zbn1) (hint:=zbn0) (by kernel_rfl) (zh zbff (zh zbg2 (zh zbfh (zh zbcx (zh zno zl))))) fun _ _ _ _=>(by kernel_rfl)
noncomputable def z9l (v7:List V):M Out :=
 zb (za (zu .add (zd v7 3) (Value.int .i64 1))) fun x89 =>
 ret (.nxt [(zd v7 0),(zd v7 1),(zd v7 2),x89])
noncomputable def z9m (v6:List V):M Out :=
 zb (
 zb (
 zb (za (zr 2 (zd v6 1) (zd v6 3))) fun x73 =>
 zb (ldn 2 x73) fun x74 =>
 zb (newc [Value.slice none 0 0,Value.slice none 0 0]) fun x11 =>
 zb (stn 2 x11 x74) fun _ =>
 zb (ldn 7 (zd v6 0)) fun x75 =>
 zb (za (zf 0 x11)) fun x77 =>
 zb (zz x77) fun x78 =>
 zb (zra [x75,(zd v6 3),x78,(Value.bool false)]) fun x79 =>
 zb (za (un .not x79)) fun x80 =>
 zb (gd x80 false (ldn 7 (zd v6 0))) fun x82 =>
 zb (gd x80 false (za (some (zd v6 3)))) fun x83 =>
 zb (gd x80 false (za (zf 1 x11))) fun x84 =>
 zb (gd x80 false (zz x84)) fun x85 =>
 zb (gd x80 false (zra [x82,x83,x85,(Value.bool true)])) fun x86 =>
 zb (gd x80 false (za (un .not x86))) fun x87 =>
 zb (za (z8 x80 (Value.bool true) x87)) fun x88 =>
 zp x88 (
 ret (.ret [(Value.int .i64 270)])
 ) (
 ret (.nxt [(zd v6 0),(zd v6 1),(zd v6 2),(zd v6 3)])
 )
 ) fun o=>ret (zv 1 o)
 ) fun o=>nx o z9l
noncomputable def zzj (v5:List V):M Out :=
 zb (za (zu .lss (zd v5 3) (zd v5 2))) fun x71 =>
 zb (
 zp x71 (
 ret (.nxt [(zd v5 0),(zd v5 1),(zd v5 2),(zd v5 3)])
 ) (
 ret (.brk 0 [])
 )
 ) fun o=>nx o z9m
noncomputable def z9n (v8:List V):M Out :=
 ret (.ret [(Value.int .i64 0)])
noncomputable def ztf (v4:List V):M Out :=
 zb (
 zb (za (zf 5 (zd v4 0))) fun x67 =>
 zb (zz x67) fun x68 =>
 zb (za (zw x68)) fun x69 =>
 zb (
 zba zbm zzj [(zd v4 0),x68,x69,(Value.int .i64 0)]
 ) fun o=>ret (zv 0 o)
 ) fun o=>nx o z9n
noncomputable def z9o (v3:List V):M Out :=
 zb (za (zf 5 (zd v3 0))) fun x44 =>
 zb (zz x44) fun x45 =>
 zb (za (zw x45)) fun x46 =>
 zb (newc [Value.int .i64 0]) fun x9 =>
 zb (st1 x9 x46) fun _ =>
 zb (
 zb (za (zf 6 (zd v3 0))) fun x47 =>
 zb (zz x47) fun x48 =>
 zb (za (zu .lss x48 (Value.int .i64 1))) fun x49 =>
 zb (gd x49 false (za (zf 6 (zd v3 0)))) fun x51 =>
 zb (gd x49 false (zz x51)) fun x52 =>
 zb (gd x49 false (za (zu .gtr x52 (Value.int .i64 10000)))) fun x53 =>
 zb (za (z8 x49 (Value.bool true) x53)) fun x54 =>
 zb (gd x54 false (za (zf 1 (zd v3 0)))) fun x56 =>
 zb (gd x54 false (zz x56)) fun x57 =>
 zb (gd x54 false (za (some (Value.func (.func zds) #[] #[x9])))) fun x58 =>
 zb (gd x54 false ((zbl (ovr [(zds,zex),(zdt,zey)] noC)) [x57,x58])) fun x59 =>
 zb (za (z8 x54 (Value.bool true) x59)) fun x60 =>
 zb (gd x60 false (za (zf 2 (zd v3 0)))) fun x62 =>
 zb (gd x60 false (zz x62)) fun x63 =>
 zb (gd x60 false (za (some (Value.func (.func zdt) #[] #[x9])))) fun x64 =>
 zb (gd x60 false ((zb8 (ovr [(zds,zex),(zdt,zey)] noC)) [x63,x64])) fun x65 =>
 zb (za (z8 x60 (Value.bool true) x65)) fun x66 =>
 zp x66 (
 ret (.ret [(Value.int .i64 270)])
 ) (
 ret (.nxt [(zd v3 0)])
 )
 ) fun o=>nx o ztf
noncomputable def z9p (v2:List V):M Out :=
 zb (
 zb (za (zf 3 (zd v2 0))) fun x33 =>
 zb (ldn 2 x33) fun x34 =>
 zb (za (zf 5 (zd v2 0))) fun x35 =>
 zb (zz x35) fun x36 =>
 zb (za (zw x36)) fun x37 =>
 zb (zu9 [x34,x37]) fun x38 =>
 zb (za (ext 0 x38)) fun x39 =>
 zb (za (ext 1 x38)) fun x40 =>
 zb (za (zu .neq x40 (Value.int .i64 0))) fun x42 =>
 zp x42 (
 ret (.ret [x40])
 ) (
 ret (.nxt [(zd v2 0)])
 )
 ) fun o=>nx o z9o
noncomputable def z9q (vs:List V):M Out :=
 zb (
 zb (za (zf 2 (zd vs 0))) fun x24 =>
 zb (zz x24) fun x25 =>
 zb (zky [x25]) fun x26 =>
 zb (za (ext 0 x26)) fun x27 =>
 zb (za (ext 1 x26)) fun x28 =>
 zb (za (zu .neq x28 (Value.int .i64 0))) fun x30 =>
 zp x30 (
 ret (.ret [x28])
 ) (
 ret (.nxt [(zd vs 0)])
 )
 ) fun o=>nx o z9p
noncomputable def z1y (x0:V):M V :=
 zb (
 zb (zdc x0) fun x1 =>
 zb (
 zb (za (zf 0 x1)) fun x13 =>
 zb (zz x13) fun x14 =>
 zb (za (zf 1 x1)) fun x15 =>
 zb (zz x15) fun x16 =>
 zb (zjc [x14,x16]) fun x17 =>
 zb (za (ext 0 x17)) fun x18 =>
 zb (za (ext 1 x17)) fun x19 =>
 zb (za (zu .neq x19 (Value.int .i64 0))) fun x21 =>
 zp x21 (
 ret (.ret [x19])
 ) (
 ret (.nxt [x1])
 )
 ) fun o=>nx o z9q
 ) fun o=>zbk o fun vs=>ret (zbi [(zd vs 0)])
def zbn3:Hint:=(.seq [] .leaf (.seq [1] (.seq [] .leaf (.seq [] .leaf (.cond (.seq [] .leaf .leaf) .leaf))) (.seq [1] (.seq [] .leaf (.seq [] .leaf (.cond (.seq [] .leaf .leaf) .leaf))) (.seq [1] (.seq [] .leaf (.seq [] .leaf (.cond (.seq [] .leaf .leaf) .leaf))) (.seq [] .leaf (.seq [1] (.seq [] .leaf (.cond (.seq [] .leaf .leaf) .leaf)) (.seq [] (.seq [] .leaf (.blk (.loop [1,68,69,70] (.seq [] .leaf (.seq [1,68,69,70] (.cond .leaf .leaf) (.seq [1,68,69,70] (.blk (.seq [] .leaf (.seq [] .leaf (.cond (.seq [] .leaf .leaf) .leaf)))) .leaf)))))) (.seq [] .leaf .leaf))))))))
noncomputable def zva:List V→M V:=ap1 z1y
noncomputable def zbn4:zx:=ovr [(zss,zjc),(zt8,zky),(z4w,zu9),(zcr,zbl (ovr [(zds,zex),(zdt,zey)] noC)),(zep,zb8 (ovr [(zds,zex),(zdt,zey)] noC)),(z4x,zra)] noC
theorem zbn5:zq Tryz.prog z4t (zva):=kn1 (σ:=zbn4) (hint:=zbn3) (by kernel_rfl) (zh z48 (zh z88 (zh zbny (zh (zeq (zh z5h (zh z5i zl))) (zh (zkr (zh z5h (zh z5i zl))) (zh zbn2 zl)))))) fun _=>(by kernel_rfl)
def zlr (vs:List V):M Out :=
 zb (zcc 3 0 (rep 0 [Value.int .i64 0,Value.int .i64 0,Value.int .i64 0]) []) fun x5 =>
 zb (zd0 3 24 x5 (zd vs 0)) fun x7 =>
 ret (.ret [x7])
def zmm (x0:V):M V :=
 zb (
 zb (
 zb (za (zer false (zef .s x0))) fun x4 =>
 zp x4 (
 ret (.ret [(Value.slice none 0 0)])
 ) (
 ret (.nxt [x0])
 )
 ) fun o=>nx o zlr
 ) fun o=>zbk o fun vs=>ret (zbi [(zd vs 0)])
def zmn:Hint:=(.seq [] .leaf (.seq [0] (.seq [] .leaf (.cond (.seq [] .leaf .leaf) .leaf)) (.seq [] .leaf .leaf)))
def zdo:List V→M V:=ap1 zmm
theorem zmo:zq Tryz.prog zfi (zdo):=kn1 (σ:=ovr [] noC) (hint:=zmn) (by kernel_rfl) zl fun _=>(by kernel_rfl)
def zgh (vs:List V):M Out :=
 zb (zcc 2 0 (rep 0 [Value.int .i64 0,Value.bool false]) []) fun x5 =>
 zb (zd0 2 16 x5 (zd vs 0)) fun x7 =>
 ret (.ret [x7])
def zcs (x0:V):M V :=
 zb (
 zb (
 zb (za (zer false (zef .s x0))) fun x4 =>
 zp x4 (
 ret (.ret [(Value.slice none 0 0)])
 ) (
 ret (.nxt [x0])
 )
 ) fun o=>nx o zgh
 ) fun o=>zbk o fun vs=>ret (zbi [(zd vs 0)])
def zoa:Hint:=(.seq [] .leaf (.seq [0] (.seq [] .leaf (.cond (.seq [] .leaf .leaf) .leaf)) (.seq [] .leaf .leaf)))
def zct:List V→M V:=ap1 zcs
theorem zob:zq Tryz.prog zf7 (zct):=kn1 (σ:=ovr [] noC) (hint:=zoa) (by kernel_rfl) zl fun _=>(by kernel_rfl)
def zzk (v4:List V):M Out :=
 zb (za (zu .add (zd v4 3) (Value.int .i64 1))) fun x57 =>
 ret (.nxt [(zd v4 0),(zd v4 1),(zd v4 2),x57])
def zzl (v3:List V):M Out :=
 zb (
 zb (
 zb (za (zr 3 (zd v3 1) (zd v3 3))) fun x35 =>
 zb (ldn 3 x35) fun x36 =>
 zb (newc [Value.int .i64 0,Value.int .i64 0,Value.bool false]) fun x10 =>
 zb (stn 3 x10 x36) fun _ =>
 zb (za (zf 0 x10)) fun x37 =>
 zb (zz x37) fun x38 =>
 zb (za (zf 1 x10)) fun x39 =>
 zb (zz x39) fun x40 =>
 zb (za (build [Value.int .i64 0,Value.int .i64 0] [(0,1,x38),(1,1,x40)])) fun x41 =>
 zb (newc [Value.int .i64 0,Value.int .i64 0]) fun x11 =>
 zb (stn 2 x11 x41) fun _ =>
 zb (za (zb2 (zd v3 0))) fun x43 =>
 zb (za (zf 1 x43)) fun x44 =>
 zb (za (zb2 (zd v3 0))) fun x48 =>
 zb (za (zf 1 x48)) fun x49 =>
 zb (zz x44) fun x45 =>
 zb (ldn 2 x11) fun x46 =>
 zb (zz x49) fun x50 =>
 zb (ldn 2 x11) fun x51 =>
 zb (lookup (.agg [.i,.i]) (Value.bool false) false x50 x51) fun x52 =>
 zb (gd x52 false (za (zf 2 x10))) fun x54 =>
 zb (gd x52 false (zz x54)) fun x55 =>
 zb (za (z8 x52 (Value.bool true) x55)) fun x56 =>
 zb (zgm (.agg [.i,.i]) x45 x46 x56) fun _ =>
 ret (.nxt [(zd v3 0),(zd v3 1),(zd v3 2),(zd v3 3)])
 ) fun o=>ret (zv 1 o)
 ) fun o=>nx o zzk
def zou (v2:List V):M Out :=
 zb (za (zu .lss (zd v2 3) (zd v2 2))) fun x34 =>
 zb (
 zp x34 (
 ret (.nxt [(zd v2 0),(zd v2 1),(zd v2 2),(zd v2 3)])
 ) (
 ret (.brk 0 [(zd v2 0)])
 )
 ) fun o=>nx o zzl
def z9r (v5:List V):M Out :=
 ret (.ret [(zd v5 0),(Value.int .i64 0)])
def z9s (vs:List V):M Out :=
 ztu 4 fun base h0 =>
 zb (za (zw (zd vs 0))) fun x25 =>
 zbw (zct [(zd vs 0)]) fun ha x22 h1 =>
 zdj (zdq ha [base + 0,base + 1,base + 2,base + 3] && zdq h1 [base + 0,base + 1,base + 2,base + 3]) <|
 zb (flt (base + 0) (zvw)) fun x23 =>
 zb (flt (base + 1) (zul 1 8 [Value.int .i64 0] x25 x25)) fun x26 =>
 zb (flt (base + 2) (zvw)) fun x27 =>
 zb (flt (base + 3) (zvw)) fun x28 =>
 zb (za (build [Value.slice none 0 0,Value.map none,Value.slice none 0 0,Value.map none,Value.map none] [(0,1,x22),(1,1,x23),(2,1,x26),(3,1,x27),(4,1,x28)])) fun x29 =>
 zbw (zdc x29) fun ha_2 x30 h2 =>
 zb (
 zb (za (zw (zd vs 1))) fun x32 =>
 zb (
 zba zbm zou [x30,(zd vs 1),x32,(Value.int .i64 0)]
 ) fun o=>ret (zv 0 o)
 ) fun o=>nx o z9r
def z1z (x0 x1:V):M V :=
 zb (
 zb (
 zb (zjc [x0,x1]) fun x15 =>
 zb (za (ext 0 x15)) fun x16 =>
 zb (za (ext 1 x15)) fun x17 =>
 zb (za (zu .neq x17 (Value.int .i64 0))) fun x19 =>
 zp x19 (
 ret (.ret [(Value.pointer none),x17])
 ) (
 ret (.nxt [x0,x1])
 )
 ) fun o=>nx o z9s
 ) fun o=>zbk o fun vs=>ret (zbi [(zd vs 0),(zd vs 1)])
def zbn6:Hint:=(.seq [] .leaf (.seq [0,1] (.seq [] .leaf (.seq [] .leaf (.cond (.seq [] .leaf .leaf) .leaf))) (.seq [] (.reg [0,3,4,1,2,5,6,7,8,9,10] [2,5,6,7]) (.seq [8] (.seq [] .leaf (.blk (.loop [8,31,32,33] (.seq [] .leaf (.seq [8,31,32,33] (.cond .leaf .leaf) (.seq [8,31,32,33] (.blk (.seq [] .leaf (.seq [] .leaf (.reg [0,1,2,5,6,7,3,4,8,9,10,11,12,13,14,15] [])))) .leaf)))))) (.seq [] .leaf .leaf)))))
def zvb:List V→M V:=ap2 z1z
def zbn7:zx:=ovr [(zss,zjc),(zf7,zct)] noC
theorem zbn8:zq Tryz.prog z4u (zvb):=kn2 (σ:=zbn7) (hint:=zbn6) (by kernel_rfl) (zh z48 (zh zob zl)) fun _ _=>(by kernel_rfl)
def zov (vs:List V):M Out :=
 zb (zcc 5 0 (rep 0 [Value.int .i64 0,Value.int .i64 0,Value.int .i64 0,Value.int .i64 0,Value.int .i64 0]) []) fun x5 =>
 zb (zd0 5 40 x5 (zd vs 0)) fun x7 =>
 ret (.ret [x7])
def zpg (x0:V):M V :=
 zb (
 zb (
 zb (za (zer false (zef .s x0))) fun x4 =>
 zp x4 (
 ret (.ret [(Value.slice none 0 0)])
 ) (
 ret (.nxt [x0])
 )
 ) fun o=>nx o zov
 ) fun o=>zbk o fun vs=>ret (zbi [(zd vs 0)])
def zph:Hint:=(.seq [] .leaf (.seq [0] (.seq [] .leaf (.cond (.seq [] .leaf .leaf) .leaf)) (.seq [] .leaf .leaf)))
def zec:List V→M V:=ap1 zpg
theorem zpi:zq Tryz.prog zgu (zec):=kn1 (σ:=ovr [] noC) (hint:=zph) (by kernel_rfl) zl fun _=>(by kernel_rfl)
def zbcy (vs:List V):M Out :=
 ztu 1 fun base h0 =>
 zb (za (zw (zd vs 0))) fun x17 =>
 zbw (zec [(zd vs 0)]) fun ha x15 h1 =>
 zdj (zdq ha [base + 0] && zdq h1 [base + 0]) <|
 zb (flt (base + 0) (zul 4 64 [Value.slice none 0 0,Value.slice none 0 0,Value.int .i64 0,Value.int .i64 0] x17 x17)) fun x18 =>
 zb (za (build [Value.slice none 0 0,Value.slice none 0 0] [(0,1,x15),(1,1,x18)])) fun x19 =>
 zbw (zdc x19) fun ha_2 x20 h2 =>
 ret (.ret [x20,(Value.int .i64 0)])
def z5j (x0:V):M V :=
 zb (
 zb (
 zb (zky [x0]) fun x8 =>
 zb (za (ext 0 x8)) fun x9 =>
 zb (za (ext 1 x8)) fun x10 =>
 zb (za (zu .neq x10 (Value.int .i64 0))) fun x12 =>
 zp x12 (
 ret (.ret [(Value.pointer none),x10])
 ) (
 ret (.nxt [x0])
 )
 ) fun o=>nx o zbcy
 ) fun o=>zbk o fun vs=>ret (zbi [(zd vs 0),(zd vs 1)])
def zbqv:Hint:=(.seq [] .leaf (.seq [0] (.seq [] .leaf (.seq [] .leaf (.cond (.seq [] .leaf .leaf) .leaf))) (.seq [] (.reg [0,2,3,1,4,5,6,7,8] [4]) .leaf)))
def zyg:List V→M V:=ap1 z5j
def zbqw:zx:=ovr [(zt8,zky),(zgu,zec)] noC
theorem zbqx:zq Tryz.prog z8v (zyg):=kn1 (σ:=zbqw) (hint:=zbqv) (by kernel_rfl) (zh z88 (zh zpi zl)) fun _=>(by kernel_rfl)
def zrb (x0 x1:V):M V :=
 zb (
 zb (zdc x1) fun x3 =>
 zb (za (zf 0 x3)) fun x5 =>
 zb (zz x5) fun x6 =>
 zb (za (zr 2 x6 x0)) fun x8 =>
 zb (za (zf 0 x8)) fun x9 =>
 zb (zz x9) fun x10 =>
 ret (.ret [x10])
 ) fun o=>zbk o fun vs=>ret (zbi [(zd vs 0)])
def zbcz:Hint:=(.seq [] .leaf (.seq [] .leaf .leaf))
def zlk:List V→M V:=ap2 zrb
theorem zbc0:zq Tryz.prog zgw (zlk):=kn2 (σ:=ovr [] noC) (hint:=zbcz) (by kernel_rfl) zl fun _ _=>(by kernel_rfl)
def zs1 (x0 x1:V):M V :=
 zb (
 zb (zdc x1) fun x3 =>
 zb (za (zf 2 x3)) fun x5 =>
 zb (zz x5) fun x6 =>
 zb (za (zr 5 x6 x0)) fun x8 =>
 zb (za (zf 3 x8)) fun x9 =>
 zb (zz x9) fun x10 =>
 ret (.ret [x10])
 ) fun o=>zbk o fun vs=>ret (zbi [(zd vs 0)])
def zbfi:Hint:=(.seq [] .leaf (.seq [] .leaf .leaf))
def znp:List V→M V:=ap2 zs1
theorem zbfj:zq Tryz.prog zhk (znp):=kn2 (σ:=ovr [] noC) (hint:=zbfi) (by kernel_rfl) zl fun _ _=>(by kernel_rfl)
def zbc1 (x0 x1:V):M V :=
 zb (
 zb (zdc x0) fun x2 =>
 zb (zdc x1) fun x3 =>
 ret (.ret [(Value.int .i64 0)])
 ) fun o=>zbk o fun vs=>ret (zbi [(zd vs 0)])
def zbc2:Hint:=(.seq [] .leaf (.seq [] .leaf .leaf))
def zll:List V→M V:=ap2 zbc1
theorem zbc3:zq Tryz.prog zi0 (zll):=kn2 (σ:=ovr [] noC) (hint:=zbc2) (by kernel_rfl) zl fun _ _=>(by kernel_rfl)
noncomputable def zbc4 (v3:List V):M Out :=
 zb (za (zu .add (zd v3 5) (Value.int .i64 1))) fun x26 =>
 ret (.nxt [(zd v3 0),(zd v3 1),(zd v3 2),(zd v3 3),(zd v3 4),x26])
noncomputable def zbc5 (v2:List V):M Out :=
 zb (
 zb (
 zb (za (zr 2 (zd v2 3) (zd v2 5))) fun x12 =>
 zb (ldn 2 x12) fun x13 =>
 zb (newc [Value.int .i64 0,Value.int .i64 0]) fun x7 =>
 zb (stn 2 x7 x13) fun _ =>
 zb (ldn 2 x7) fun x15 =>
 zb (zez [x15]) fun x16 =>
 zb (zcc 1 1 (rep 1 [Value.nilIface]) [(0,1,x16)]) fun x17 =>
 zb (zd0 1 16 (zd v2 1) x17) fun x18 =>
 zh0 fun h0 =>
 zb (ldn 2 x7) fun x20 =>
 zb (ldn 7 (zd v2 0)) fun x22 =>
 zbw (zez [x20]) fun ha x21 h1 =>
 zbw (invM Tryz.prog (ovr [(zgw,zlk),(zhk,znp),(zi0,zll),(zhi,zez)] noC) x21 "capstan/exec.kind" [x22]) fun ha_2 x23 h2 =>
 zbw (zcc 1 1 (rep 1 [Value.int .i64 0]) [(0,1,x23)]) fun ha_3 x24 h3 =>
 zbw (zd0 1 8 (zd v2 2) x24) fun ha_4 x25 h4 =>
 zdj (chk (ldn 7 (zd v2 0)) h1 x22) <|
 ret (.nxt [(zd v2 0),x18,x25,(zd v2 3),(zd v2 4),(zd v2 5)])
 ) fun o=>ret (zv 1 o)
 ) fun o=>nx o zbc4
noncomputable def z10 (vs:List V):M Out :=
 zb (za (zu .lss (zd vs 5) (zd vs 4))) fun x11 =>
 zb (
 zp x11 (
 ret (.nxt [(zd vs 0),(zd vs 1),(zd vs 2),(zd vs 3),(zd vs 4),(zd vs 5)])
 ) (
 ret (.brk 0 [(zd vs 1),(zd vs 2)])
 )
 ) fun o=>nx o zbc5
noncomputable def zbc6 (v4:List V):M Out :=
 ret (.ret [(zd v4 0),(zd v4 1)])
noncomputable def z5k (x0 x1:V):M V :=
 zb (
 zb (zdc x0) fun x2 =>
 zb (
 zb (za (zw x1)) fun x9 =>
 zb (
 zba zbm z10 [x2,(Value.slice none 0 0),(Value.slice none 0 0),x1,x9,(Value.int .i64 0)]
 ) fun o=>ret (zv 0 o)
 ) fun o=>nx o zbc6
 ) fun o=>zbk o fun vs=>ret (zbi [(zd vs 0),(zd vs 1)])
def zbqy:Hint:=(.seq [] .leaf (.seq [4,5] (.seq [] .leaf (.blk (.loop [2,4,5,8,9,10] (.seq [] .leaf (.seq [2,4,5,8,9,10] (.cond .leaf .leaf) (.seq [2,4,5,8,9,10] (.blk (.seq [] .leaf (.seq [] .leaf (.reg [0,1,3,2,4,5,6,7] [])))) .leaf)))))) (.seq [] .leaf .leaf)))
noncomputable def zt3:List V→M V:=ap2 z5k
noncomputable def zbqz:zx:=ovr [(zgw,zlk),(zhk,znp),(zi0,zll),(zhi,zez)] noC
theorem zbq0:zq Tryz.prog z8w (zt3):=kn2 (σ:=zbqz) (hint:=zbqy) (by kernel_rfl) (zh zbc0 (zh zbfj (zh zbc3 (zh zbcx zl)))) fun _ _=>(by kernel_rfl)
def zzm (v2:List V):M Out :=
 ret (.ret [(zd v2 0)])
def zzn (vs:List V):M Out :=
 zb (
 zb (za (capV (zd vs 0))) fun x10 =>
 zb (za (zw (zd vs 0))) fun x12 =>
 zb (za (zu .sub x10 x12)) fun x13 =>
 zb (za (zu .sub (zd vs 1) x13)) fun x14 =>
 zb (za (zu .gtr x14 (Value.int .i64 0))) fun x16 =>
 zp x16 (
 zb (za (capV (zd vs 0))) fun x19 =>
 zb (za (zh6 1 (zd vs 0) none (some x19))) fun x20 =>
 zb (appZ 1 8 [Value.int .i64 0] x20 x14) fun x22 =>
 zb (za (zw (zd vs 0))) fun x24 =>
 zb (za (zh6 1 x22 none (some x24))) fun x25 =>
 ret (.nxt [x25])
 ) (
 ret (.nxt [(zd vs 0)])
 )
 ) fun o=>nx o zzm
def z0x (x0 x1:V):M V :=
 zb (
 zb (
 zb (za (zu .lss x1 (Value.int .i64 0))) fun x6 =>
 zp x6 (
 zb (za (some (Value.iface zcz (Value.string ⟨#[99,97,110,110,111,116,32,98,101,32,110,101,103,97,116,105,118,101]⟩)))) fun x7 =>
 zb (za ((none:Option V))) fun _ =>
 ret (.nxt [x0,x1])
 ) (
 ret (.nxt [x0,x1])
 )
 ) fun o=>nx o zzn
 ) fun o=>zbk o fun vs=>ret (zbi [(zd vs 0)])
def z0y:Hint:=(.seq [] .leaf (.seq [0,1] (.seq [] .leaf (.cond .leaf .leaf)) (.seq [0] (.seq [] .leaf (.seq [] .leaf (.cond .leaf .leaf))) (.seq [] .leaf .leaf))))
def zjf:List V→M V:=ap2 z0x
theorem z0z:zq Tryz.prog znx (zjf):=kn2 (σ:=ovr [] noC) (hint:=z0y) (by kernel_rfl) zl fun _ _=>(by kernel_rfl)
def zwn (v3:List V):M Out :=
 zb (za (zu .add (zd v3 4) (Value.int .i64 1))) fun x22 =>
 ret (.nxt [(zd v3 0),(zd v3 1),(zd v3 2),(zd v3 3),x22])
def zwo (v2:List V):M Out :=
 zb (
 zb (
 zb (za (zr 1 (zd v2 2) (zd v2 4))) fun x13 =>
 zb (zz x13) fun x14 =>
 zb (za (zw x14)) fun x17 =>
 zb (za (zu .add (zd v2 1) x17)) fun x18 =>
 zb (za (zu .lss x18 (Value.int .i64 0))) fun x20 =>
 zp x20 (
 zb (za (some (Value.iface zcz (Value.string ⟨#[108,101,110,32,111,117,116,32,111,102,32,114,97,110,103,101]⟩)))) fun x21 =>
 zb (za ((none:Option V))) fun _ =>
 ret (.nxt [(zd v2 0),x18,(zd v2 2),(zd v2 3),(zd v2 4)])
 ) (
 ret (.nxt [(zd v2 0),x18,(zd v2 2),(zd v2 3),(zd v2 4)])
 )
 ) fun o=>ret (zv 1 o)
 ) fun o=>nx o zwn
def zwp (vs:List V):M Out :=
 zb (za (zu .lss (zd vs 4) (zd vs 3))) fun x12 =>
 zb (
 zp x12 (
 ret (.nxt [(zd vs 0),(zd vs 1),(zd vs 2),(zd vs 3),(zd vs 4)])
 ) (
 ret (.brk 0 [(zd vs 0),(zd vs 1)])
 )
 ) fun o=>nx o zwo
def zwq (v7:List V):M Out :=
 zb (za (zu .add (zd v7 3) (Value.int .i64 1))) fun x34 =>
 ret (.nxt [(zd v7 0),(zd v7 1),(zd v7 2),x34])
def zwr (v6:List V):M Out :=
 zb (
 zb (
 zb (za (zr 1 (zd v6 1) (zd v6 3))) fun x29 =>
 zb (zz x29) fun x30 =>
 zb (zd0 1 8 (zd v6 0) x30) fun x33 =>
 ret (.nxt [x33,(zd v6 1),(zd v6 2),(zd v6 3)])
 ) fun o=>ret (zv 3 o)
 ) fun o=>nx o zwq
def zws (v5:List V):M Out :=
 zb (za (zu .lss (zd v5 3) (zd v5 2))) fun x28 =>
 zb (
 zp x28 (
 ret (.nxt [(zd v5 0),(zd v5 1),(zd v5 2),(zd v5 3)])
 ) (
 ret (.brk 2 [(zd v5 0)])
 )
 ) fun o=>nx o zwr
def zwt (v8:List V):M Out :=
 ret (.ret [(zd v8 0)])
def zwu (v4:List V):M Out :=
 zb (zjf [(Value.slice none 0 0),(zd v4 1)]) fun x24 =>
 zb (
 zb (za (zw (zd v4 0))) fun x26 =>
 zb (
 zba zbm zws [x24,(zd v4 0),x26,(Value.int .i64 0)]
 ) fun o=>ret (zv 2 o)
 ) fun o=>nx o zwt
def zxz (x0:V):M V :=
 zb (
 zb (
 zb (za (zw x0)) fun x10 =>
 zb (
 zba zbm zwp [x0,(Value.int .i64 0),x0,x10,(Value.int .i64 0)]
 ) fun o=>ret (zv 0 o)
 ) fun o=>nx o zwu
 ) fun o=>zbk o fun vs=>ret (zbi [(zd vs 0)])
def zx0:Hint:=(.seq [] .leaf (.seq [] .leaf (.seq [0,3] (.seq [] .leaf (.blk (.loop [0,3,9,10,11] (.seq [] .leaf (.seq [0,3,9,10,11] (.cond .leaf .leaf) (.seq [0,3,9,10,11] (.blk (.seq [] .leaf (.seq [] .leaf (.seq [] .leaf (.cond .leaf .leaf))))) .leaf)))))) (.seq [] .leaf (.seq [6] (.seq [] .leaf (.blk (.loop [6,25,26,27] (.seq [] .leaf (.seq [6,25,26,27] (.cond .leaf .leaf) (.seq [6,25,26,27] (.blk (.seq [] .leaf .leaf)) .leaf)))))) (.seq [] .leaf .leaf))))))
def zff:List V→M V:=ap1 zxz
def zx1:zx:=ovr [(znx,zjf)] noC
theorem zx2:zq Tryz.prog zlh (zff):=kn1 (σ:=zx1) (hint:=zx0) (by kernel_rfl) (zh z0z zl) fun _=>(by kernel_rfl)
def zju (S:zx) (v3:List V):M Out :=
 zb (za (zu .add (zd v3 3) (Value.int .i64 1))) fun x18 =>
 ret (.nxt [(zd v3 0),(zd v3 1),(zd v3 2),x18])
def zjv (S:zx) (v2:List V):M Out :=
 zb (
 zb (
 zb (za (zr 1 (zd v2 0) (zd v2 3))) fun x14 =>
 zb (zz x14) fun x15 =>
 zb (znw (ovr [] S) (zd v2 1) [x15]) fun x16 =>
 zp x16 (
 ret (.ret [(zd v2 3)])
 ) (
 ret (.nxt [(zd v2 0),(zd v2 1),(zd v2 2),(zd v2 3)])
 )
 ) fun o=>ret (zv 1 o)
 ) fun o=>nx o (zju S)
def zgb (S:zx) (vs:List V):M Out :=
 zb (za (zu .lss (zd vs 3) (zd vs 2))) fun x9 =>
 zb (
 zp x9 (
 ret (.nxt [(zd vs 0),(zd vs 1),(zd vs 2),(zd vs 3)])
 ) (
 ret (.brk 0 [])
 )
 ) fun o=>nx o (zjv S)
def zjw (S:zx) (v4:List V):M Out :=
 ret (.ret [(Value.int .i64 (-1))])
def zgn (S:zx) (x0 x1:V):M V :=
 zb (
 zb (
 zb (za (zw x0)) fun x7 =>
 zb (
 zba zbm (zgb S) [x0,x1,x7,(Value.int .i64 0)]
 ) fun o=>ret (zv 0 o)
 ) fun o=>nx o (zjw S)
 ) fun o=>zbk o fun vs=>ret (zbi [(zd vs 0)])
def zuf:Hint:=(.seq [] .leaf (.seq [] (.seq [] .leaf (.blk (.loop [0,1,7,8] (.seq [] .leaf (.seq [0,1,7,8] (.cond .leaf .leaf) (.seq [0,1,7,8] (.blk (.seq [] .leaf (.seq [] .leaf (.cond (.seq [] .leaf .leaf) .leaf)))) .leaf)))))) (.seq [] .leaf .leaf)))
def zgo (S:zx):List V→M V:=ap2 (zgn S)
theorem zug {S:zx} (hS:zd8 Tryz.prog S):zq Tryz.prog zi7 (zgo S):=kn2 (σ:=ovr [] S) (hint:=zuf) (by kernel_rfl) (zeg hS) fun _ _=>(by kernel_rfl)
def zfd (S:zx) (x0 x1:V):M V :=
 zb (
 zb ((zgo S) [x0,x1]) fun x7 =>
 zb (za (zu .geq x7 (Value.int .i64 0))) fun x8 =>
 ret (.ret [x8])
 ) fun o=>zbk o fun vs=>ret (zbi [(zd vs 0)])
def zse:Hint:=(.seq [] .leaf (.seq [] .leaf .leaf))
def zdi (S:zx):List V→M V:=ap2 (zfd S)
theorem zsf {S:zx} (hS:zd8 Tryz.prog S):zq Tryz.prog zh2 (zdi S):=kn2 (σ:=ovr [(zi7,zgo S)] S) (hint:=zse) (by kernel_rfl) (zh (zug (zeg hS)) (zeg hS)) fun _ _=>(by kernel_rfl)
def z11 (x0:V):M V :=
 zb (
 zb (za (zu .lss x0 (Value.int .i64 1))) fun x4 =>
 zb (gd x4 false (za (some x0))) fun x6 =>
 zb (gd x4 false (za (zu .gtr x6 (Value.int .i64 3)))) fun x7 =>
 zb (za (z8 x4 (Value.bool true) x7)) fun x8 =>
 ret (.ret [x8])
 ) fun o=>zbk o fun vs=>ret (zbi [(zd vs 0)])
def zbn9:Hint:=(.seq [] .leaf (.seq [] .leaf .leaf))
def zvc:List V→M V:=ap1 z11
theorem zboa:zq Tryz.prog zqt (zvc):=kn1 (σ:=ovr [] noC) (hint:=zbn9) (by kernel_rfl) zl fun _=>(by kernel_rfl)
def zx3 (vs:List V):M Out :=
 zb (zcc 1 0 (rep 0 [Value.int .i64 0]) []) fun x5 =>
 zb (zd0 1 8 x5 (zd vs 0)) fun x7 =>
 ret (.ret [x7])
def zzo (x0:V):M V :=
 zb (
 zb (
 zb (za (zer false (zef .s x0))) fun x4 =>
 zp x4 (
 ret (.ret [(Value.slice none 0 0)])
 ) (
 ret (.nxt [x0])
 )
 ) fun o=>nx o zx3
 ) fun o=>zbk o fun vs=>ret (zbi [(zd vs 0)])
def zzp:Hint:=(.seq [] .leaf (.seq [0] (.seq [] .leaf (.cond (.seq [] .leaf .leaf) .leaf)) (.seq [] .leaf .leaf)))
def zf2:List V→M V:=ap1 zzo
theorem zzq:zq Tryz.prog zlv (zf2):=kn1 (σ:=ovr [] noC) (hint:=zzp) (by kernel_rfl) zl fun _=>(by kernel_rfl)
def zbf8 (v2:List V):M Out :=
 zb (zf2 [(zd v2 0)]) fun x20 =>
 zb (zf2 [(zd v2 1)]) fun x22 =>
 zb (za (build [Value.slice none 0 0,Value.slice none 0 0,Value.pointer none,Value.string ⟨#[]⟩,Value.slice none 0 0,Value.slice none 0 0,Value.slice none 0 0,Value.slice none 0 0,Value.slice none 0 0,Value.slice none 0 0,Value.int .i64 0,Value.int .i64 0,Value.int .i64 0,Value.int .i64 0] [(0,1,x20),(1,1,x22)])) fun x23 =>
 zb (zdc x23) fun x24 =>
 ret (.ret [x24,(Value.int .i64 0)])
def zbf9 (vs:List V):M Out :=
 zb (
 zb (zcc 1 2 (rep 2 [Value.slice none 0 0]) [(0,1,(zd vs 0)),(1,1,(zd vs 1))]) fun x16 =>
 zb (zff [x16]) fun x17 =>
 zb ((zdi (ovr [(zqt,zvc)] noC)) [x17,(Value.func (.func zqt) #[] #[])]) fun x18 =>
 zp x18 (
 ret (.ret [(Value.pointer none),(Value.int .i64 40)])
 ) (
 ret (.nxt [(zd vs 0),(zd vs 1)])
 )
 ) fun o=>nx o zbf8
def zbba (x0 x1:V):M V :=
 zb (
 zb (
 zb (za (zw x0)) fun x7 =>
 zb (za (zu .gtr x7 (Value.int .i64 32))) fun x8 =>
 zb (gd x8 false (za (some x1))) fun x10 =>
 zb (gd x8 false (za (zw x10))) fun x11 =>
 zb (gd x8 false (za (zu .gtr x11 (Value.int .i64 32)))) fun x12 =>
 zb (za (z8 x8 (Value.bool true) x12)) fun x13 =>
 zp x13 (
 ret (.ret [(Value.pointer none),(Value.int .i64 2)])
 ) (
 ret (.nxt [x0,x1])
 )
 ) fun o=>nx o zbf9
 ) fun o=>zbk o fun vs=>ret (zbi [(zd vs 0),(zd vs 1)])
def zbt0:Hint:=(.seq [] .leaf (.seq [0,1] (.seq [] .leaf (.cond (.seq [] .leaf .leaf) .leaf)) (.seq [0,1] (.seq [] .leaf (.cond (.seq [] .leaf .leaf) .leaf)) (.seq [] .leaf .leaf))))
def z12:List V→M V:=ap2 zbba
def zbt1:zx:=ovr [(zlh,zff),(zh2,zdi (ovr [(zqt,zvc)] noC)),(zlv,zf2)] noC
theorem zbt2:zq Tryz.prog zbcr (z12):=kn2 (σ:=zbt1) (hint:=zbt0) (by kernel_rfl) (zh zx2 (zh (zsf (zh zboa zl)) (zh zzq zl))) fun _ _=>(by kernel_rfl)
noncomputable def zbga (v4:List V):M Out :=
 zb (za (zb2 (zd v4 1))) fun x79 =>
 zb (za (zf 2 x79)) fun x80 =>
 zb (zz x80) fun x81 =>
 zb (za (build [Value.pointer none,Value.slice none 0 0,Value.slice none 0 0] [(0,1,(zd v4 4)),(1,1,(zd v4 2)),(2,1,(zd v4 3))])) fun x85 =>
 zb (zcc 3 1 (rep 1 [Value.pointer none,Value.slice none 0 0,Value.slice none 0 0]) [(0,3,x85)]) fun x86 =>
 zb (zd0 3 56 x81 x86) fun x87 =>
 zb (za (zb2 (zd v4 1))) fun x88 =>
 zb (za (zf 2 x88)) fun x89 =>
 zb (st1 x89 x87) fun _ =>
 ret (.nxt [(zd v4 0),(zd v4 1),(zd v4 5),(zd v4 6),(zd v4 7)])
noncomputable def zbgb (v5:List V):M Out :=
 zb (za (zu .add (zd v5 4) (Value.int .i64 1))) fun x90 =>
 ret (.nxt [(zd v5 0),(zd v5 1),(zd v5 2),(zd v5 3),x90])
noncomputable def zbgc (v3:List V):M Out :=
 zb (
 zb (
 zb (za (zr 2 (zd v3 2) (zd v3 4))) fun x52 =>
 zb (ldn 2 x52) fun x53 =>
 zb (newc [Value.slice none 0 0,Value.slice none 0 0]) fun x7 =>
 zb (stn 2 x7 x53) fun _ =>
 zb (ldn 7 (zd v3 0)) fun x55 =>
 zb (za (zf 0 x7)) fun x56 =>
 zb (zz x56) fun x57 =>
 zb (zt3 [x55,x57]) fun x58 =>
 zb (za (ext 0 x58)) fun x59 =>
 zb (za (ext 1 x58)) fun x60 =>
 zb (ldn 7 (zd v3 0)) fun x62 =>
 zb (za (zf 1 x7)) fun x63 =>
 zb (zz x63) fun x64 =>
 zb (zt3 [x62,x64]) fun x65 =>
 zb (za (ext 0 x65)) fun x66 =>
 zb (za (ext 1 x65)) fun x67 =>
 zb (z12 [x60,x67]) fun x71 =>
 zb (za (ext 0 x71)) fun x72 =>
 zb (za (ext 1 x71)) fun x73 =>
 zb (
 zb (za (zu .neq x73 (Value.int .i64 0))) fun x75 =>
 zp x75 (
 ret (.ret [(Value.pointer none),x73])
 ) (
 ret (.nxt [(zd v3 0),(zd v3 1),x59,x66,x72,(zd v3 2),(zd v3 3),(zd v3 4)])
 )
 ) fun o=>nx o zbga
 ) fun o=>ret (zv 1 o)
 ) fun o=>nx o zbgb
noncomputable def z5l (v2:List V):M Out :=
 zb (za (zu .lss (zd v2 4) (zd v2 3))) fun x51 =>
 zb (
 zp x51 (
 ret (.nxt [(zd v2 0),(zd v2 1),(zd v2 2),(zd v2 3),(zd v2 4)])
 ) (
 ret (.brk 0 [(zd v2 1)])
 )
 ) fun o=>nx o zbgc
noncomputable def zbgd (v6:List V):M Out :=
 ret (.ret [(zd v6 0),(Value.int .i64 0)])
noncomputable def zbge (vs:List V):M Out :=
 zh0 fun h0 =>
 zb (za (zf 3 (zd vs 0))) fun x19 =>
 zb (za (zf 1 x19)) fun x20 =>
 zb (za (zf 6 (zd vs 0))) fun x23 =>
 zb (zz x20) fun x21 =>
 zb (zz x23) fun x24 =>
 zbw (zdo [x21]) fun ha x22 h1 =>
 zb (za (build [Value.pointer none,Value.pointer none,Value.slice none 0 0,Value.slice none 0 0,Value.int .i64 0,Value.int .i64 0] [(3,1,x22),(4,1,x24)])) fun x25 =>
 zbw (zdc x25) fun ha_2 x26 h2 =>
 zdj (chk (zz x23) h1 x24) <|
 zb (za (zf 0 (zd vs 0))) fun x29 =>
 zb (zz x29) fun x30 =>
 zb (za (zf 1 (zd vs 0))) fun x31 =>
 zb (zz x31) fun x32 =>
 zb (zvb [x30,x32]) fun x33 =>
 zb (za (ext 0 x33)) fun x34 =>
 zb (za (ext 1 x33)) fun x35 =>
 zb (za (zb2 x26)) fun x36 =>
 zb (za (zf 0 x36)) fun x37 =>
 zb (st1 x37 x34) fun _ =>
 zb (za (zf 2 (zd vs 0))) fun x40 =>
 zb (zz x40) fun x41 =>
 zb (zyg [x41]) fun x42 =>
 zb (za (ext 0 x42)) fun x43 =>
 zb (za (ext 1 x42)) fun x44 =>
 zb (za (zb2 x26)) fun x45 =>
 zb (za (zf 1 x45)) fun x46 =>
 zb (st1 x46 x43) fun _ =>
 zb (
 zb (za (zf 5 (zd vs 0))) fun x47 =>
 zb (zz x47) fun x48 =>
 zb (za (zw x48)) fun x49 =>
 zb (
 zba zbm z5l [(zd vs 0),x26,x48,x49,(Value.int .i64 0)]
 ) fun o=>ret (zv 0 o)
 ) fun o=>nx o zbgd
noncomputable def zbbb (x0:V):M V :=
 zb (
 zb (zdc x0) fun x1 =>
 zb (
 zb (ldn 7 x1) fun x14 =>
 zb (zva [x14]) fun x15 =>
 zb (za (zu .neq x15 (Value.int .i64 0))) fun x17 =>
 zp x17 (
 ret (.ret [(Value.pointer none),x15])
 ) (
 ret (.nxt [x1])
 )
 ) fun o=>nx o zbge
 ) fun o=>zbk o fun vs=>ret (zbi [(zd vs 0),(zd vs 1)])
def zbt3:Hint:=(.seq [] .leaf (.seq [1] (.seq [] .leaf (.seq [] .leaf (.cond (.seq [] .leaf .leaf) .leaf))) (.seq [] (.reg [0,1,4,2,5,3,6,7,8] []) (.seq [] .leaf (.seq [] .leaf (.seq [5] (.seq [] .leaf (.blk (.loop [1,5,48,49,50] (.seq [] .leaf (.seq [1,5,48,49,50] (.cond .leaf .leaf) (.seq [1,5,48,49,50] (.blk (.seq [] .leaf (.seq [] .leaf (.seq [] .leaf (.seq [] .leaf (.seq [1,5,8,10,12,48,49,50] (.seq [] .leaf (.cond (.seq [] .leaf .leaf) .leaf)) .leaf)))))) .leaf)))))) (.seq [] .leaf .leaf)))))))
noncomputable def z13:List V→M V:=ap1 zbbb
noncomputable def zbt4:zx:=ovr [(z4t,zva),(zfi,zdo),(z4u,zvb),(z8v,zyg),(z8w,zt3),(zbcr,z12)] noC
theorem zbt5:zq Tryz.prog zbcp (z13):=kn1 (σ:=zbt4) (hint:=zbt3) (by kernel_rfl) (zh zbn5 (zh zmo (zh zbn8 (zh zbqx (zh zbq0 (zh zbt2 zl)))))) fun _=>(by kernel_rfl)
def zwv (G_strings_IndexRune:List V→M V) (x0:V):M V :=
 zb (
 zb (zdc x0) fun x1 =>
 zb (za (zf 0 x1)) fun x3 =>
 zb (zz x3) fun x4 =>
 zb (za (zu .neq x4 (Value.string ⟨#[]⟩))) fun x5 =>
 zb (gd x5 true (za (zf 0 x1))) fun x7 =>
 zb (gd x5 true (zz x7)) fun x8 =>
 zb (gd x5 true (za (zd9 x8))) fun x9 =>
 zb (gd x5 true (za (zu .leq x9 (Value.int .i64 24)))) fun x10 =>
 zb (za (z8 x5 x10 (Value.bool false))) fun x11 =>
 zb (gd x11 true (za (zf 0 x1))) fun x13 =>
 zb (gd x11 true (zz x13)) fun x14 =>
 zb (gd x11 true ((zf9 G_strings_IndexRune) [x14,(Value.string ⟨#[97,98,99,100,101,102,103,104,105,106,107,108,109,110,111,112,113,114,115,116,117,118,119,120,121,122,48,49,50,51,52,53,54,55,56,57]⟩)])) fun x15 =>
 zb (gd x11 true (za (zu .eql x15 (Value.string ⟨#[]⟩)))) fun x16 =>
 zb (za (z8 x11 x16 (Value.bool false))) fun x17 =>
 zb (gd x17 true (za (zf 1 x1))) fun x19 =>
 zb (gd x17 true (zz x19)) fun x20 =>
 zb (gd x17 true (za (zd9 x20))) fun x21 =>
 zb (gd x17 true (za (zu .geq x21 (Value.int .i64 16)))) fun x22 =>
 zb (za (z8 x17 x22 (Value.bool false))) fun x23 =>
 zb (gd x23 true (za (zf 1 x1))) fun x25 =>
 zb (gd x23 true (zz x25)) fun x26 =>
 zb (gd x23 true (za (zd9 x26))) fun x27 =>
 zb (gd x23 true (za (zu .leq x27 (Value.int .i64 64)))) fun x28 =>
 zb (za (z8 x23 x28 (Value.bool false))) fun x29 =>
 ret (.ret [x29])
 ) fun o=>zbk o fun vs=>ret (zbi [(zd vs 0)])
def zbi6:Hint:=(.seq [] .leaf (.seq [] .leaf .leaf))
def zrc (G_strings_IndexRune:List V→M V):List V→M V:=ap1 (zwv G_strings_IndexRune)
theorem zbi7 {G_strings_IndexRune:List V→M V} (k_strings_IndexRune:zq Tryz.prog zy G_strings_IndexRune):zq Tryz.prog z0k (zrc G_strings_IndexRune):=kn1 (σ:=ovr [(znd,zf9 G_strings_IndexRune)] noC) (hint:=zbi6) (by kernel_rfl) (zh (zwg k_strings_IndexRune) zl) fun _=>(by kernel_rfl)
def zww (x0 x1:V):M V :=
 zb (
 zb (zdc x0) fun x2 =>
 zb (za (zf 0 x2)) fun x4 =>
 zb (zz x4) fun x5 =>
 zb (zz x1) fun x6 =>
 zb (za (zu .eql x5 x6)) fun x7 =>
 ret (.ret [x7])
 ) fun o=>zbk o fun vs=>ret (zbi [(zd vs 0)])
def zbi8:Hint:=(.seq [] .leaf (.seq [] .leaf .leaf))
def zrd:List V→M V:=ap2 zww
theorem zbi9:zq Tryz.prog zne (zrd):=kn2 (σ:=ovr [] noC) (hint:=zbi8) (by kernel_rfl) zl fun _ _=>(by kernel_rfl)
def zfx (S:zx) (v3:List V):M Out :=
 zb (za (zu .add (zd v3 3) (Value.int .i64 1))) fun x18 =>
 ret (.nxt [(zd v3 0),(zd v3 1),(zd v3 2),x18])
def zfy (S:zx) (v2:List V):M Out :=
 zb (
 zb (
 zb (za (zr 3 (zd v2 0) (zd v2 3))) fun x14 =>
 zb (ldn 3 x14) fun x15 =>
 zb (znw (ovr [] S) (zd v2 1) [x15]) fun x16 =>
 zp x16 (
 ret (.ret [(zd v2 3)])
 ) (
 ret (.nxt [(zd v2 0),(zd v2 1),(zd v2 2),(zd v2 3)])
 )
 ) fun o=>ret (zv 1 o)
 ) fun o=>nx o (zfx S)
def zdd (S:zx) (vs:List V):M Out :=
 zb (za (zu .lss (zd vs 3) (zd vs 2))) fun x9 =>
 zb (
 zp x9 (
 ret (.nxt [(zd vs 0),(zd vs 1),(zd vs 2),(zd vs 3)])
 ) (
 ret (.brk 0 [])
 )
 ) fun o=>nx o (zfy S)
def zfz (S:zx) (v4:List V):M Out :=
 ret (.ret [(Value.int .i64 (-1))])
def zdp (S:zx) (x0 x1:V):M V :=
 zb (
 zb (
 zb (za (zw x0)) fun x7 =>
 zb (
 zba zbm (zdd S) [x0,x1,x7,(Value.int .i64 0)]
 ) fun o=>ret (zv 0 o)
 ) fun o=>nx o (zfz S)
 ) fun o=>zbk o fun vs=>ret (zbi [(zd vs 0)])
def zmp:Hint:=(.seq [] .leaf (.seq [] (.seq [] .leaf (.blk (.loop [0,1,7,8] (.seq [] .leaf (.seq [0,1,7,8] (.cond .leaf .leaf) (.seq [0,1,7,8] (.blk (.seq [] .leaf (.seq [] .leaf (.cond (.seq [] .leaf .leaf) .leaf)))) .leaf)))))) (.seq [] .leaf .leaf)))
def zcm (S:zx):List V→M V:=ap2 (zdp S)
theorem zmq {S:zx} (hS:zd8 Tryz.prog S):zq Tryz.prog zfk (zcm S):=kn2 (σ:=ovr [] S) (hint:=zmp) (by kernel_rfl) (zeg hS) fun _ _=>(by kernel_rfl)
def z9t (vs:List V):M Out :=
 ret (.ret [(zd vs 0),(Value.int .i64 0)])
def z14 (x0 x1:V):M V :=
 zb (
 zb (zdc x1) fun x3 =>
 zb (za (some (Value.func (.func zne) #[] #[x3]))) fun x8 =>
 zb ((zcm (ovr [(zne,zrd)] noC)) [x0,x8]) fun x9 =>
 zb (
 zb (za (zu .lss x9 (Value.int .i64 0))) fun x11 =>
 zp x11 (
 ret (.ret [(Value.int .i64 0),(Value.int .i64 90)])
 ) (
 ret (.nxt [x9])
 )
 ) fun o=>nx o z9t
 ) fun o=>zbk o fun vs=>ret (zbi [(zd vs 0),(zd vs 1)])
def zbob:Hint:=(.seq [] .leaf (.seq [] .leaf (.seq [6] (.seq [] .leaf (.cond (.seq [] .leaf .leaf) .leaf)) (.seq [] .leaf .leaf))))
def zvd:List V→M V:=ap2 z14
def zboc:zx:=ovr [(zfk,zcm (ovr [(zne,zrd)] noC))] noC
theorem zbod:zq Tryz.prog z4y (zvd):=kn2 (σ:=zboc) (hint:=zbob) (by kernel_rfl) (zh (zmq (zh zbi9 zl)) zl) fun _ _=>(by kernel_rfl)
def zn2 (v3:List V):M Out :=
 zb (za (zu .add (zd v3 3) (Value.int .i64 1))) fun x18 =>
 ret (.nxt [(zd v3 0),(zd v3 1),(zd v3 2),x18])
def zib (v2:List V):M Out :=
 zb (
 zb (
 zb (za (zr 1 (zd v2 0) (zd v2 3))) fun x14 =>
 zb (zz x14) fun x15 =>
 zb (za (zu .eql (zd v2 1) x15)) fun x16 =>
 zp x16 (
 ret (.ret [(zd v2 3)])
 ) (
 ret (.nxt [(zd v2 0),(zd v2 1),(zd v2 2),(zd v2 3)])
 )
 ) fun o=>ret (zv 1 o)
 ) fun o=>nx o zn2
def zfg (vs:List V):M Out :=
 zb (za (zu .lss (zd vs 3) (zd vs 2))) fun x9 =>
 zb (
 zp x9 (
 ret (.nxt [(zd vs 0),(zd vs 1),(zd vs 2),(zd vs 3)])
 ) (
 ret (.brk 0 [])
 )
 ) fun o=>nx o zib
def zn3 (v4:List V):M Out :=
 ret (.ret [(Value.int .i64 (-1))])
def ziu (x0 x1:V):M V :=
 zb (
 zb (
 zb (za (zw x0)) fun x7 =>
 zb (
 zba zbm zfg [x0,x1,x7,(Value.int .i64 0)]
 ) fun o=>ret (zv 0 o)
 ) fun o=>nx o zn3
 ) fun o=>zbk o fun vs=>ret (zbi [(zd vs 0)])
def zzr:Hint:=(.seq [] .leaf (.seq [] (.seq [] .leaf (.blk (.loop [0,1,7,8] (.seq [] .leaf (.seq [0,1,7,8] (.cond .leaf .leaf) (.seq [0,1,7,8] (.blk (.seq [] .leaf (.seq [] .leaf (.cond (.seq [] .leaf .leaf) .leaf)))) .leaf)))))) (.seq [] .leaf .leaf)))
def zf3:List V→M V:=ap2 ziu
theorem zzs:zq Tryz.prog zlx (zf3):=kn2 (σ:=ovr [] noC) (hint:=zzr) (by kernel_rfl) zl fun _ _=>(by kernel_rfl)
def zg2 (x0 x1:V):M V :=
 zb (
 zb (zf3 [x0,x1]) fun x7 =>
 zb (za (zu .geq x7 (Value.int .i64 0))) fun x8 =>
 ret (.ret [x8])
 ) fun o=>zbk o fun vs=>ret (zbi [(zd vs 0)])
def zve:Hint:=(.seq [] .leaf (.seq [] .leaf .leaf))
def zem:List V→M V:=ap2 zg2
def zvf:zx:=ovr [(zlx,zf3)] noC
theorem zvg:zq Tryz.prog zjt (zem):=kn2 (σ:=zvf) (hint:=zve) (by kernel_rfl) (zh zzs zl) fun _ _=>(by kernel_rfl)
def z5m (v3:List V):M Out :=
 zb (gd (zd v3 2) false (za (some (zd v3 1)))) fun x37 =>
 zb (gd (zd v3 2) false (za (zf 0 (zd v3 3)))) fun x38 =>
 zb (gd (zd v3 2) false (zz x38)) fun x39 =>
 zb (gd (zd v3 2) false (zem [x37,x39])) fun x40 =>
 zb (za (z8 (zd v3 2) (Value.bool true) x40)) fun x41 =>
 zb (za (zf 0 (zd v3 3))) fun x43 =>
 zb (zz x43) fun x44 =>
 zb (zcc 1 1 (rep 1 [Value.int .i64 0]) [(0,1,x44)]) fun x45 =>
 zb (zd0 1 8 (zd v3 1) x45) fun x46 =>
 ret (.nxt [(zd v3 0),x46,x41,(zd v3 4),(zd v3 5),(zd v3 6)])
def zwx (v4:List V):M Out :=
 zb (za (zu .add (zd v4 5) (Value.int .i64 1))) fun x47 =>
 ret (.nxt [(zd v4 0),(zd v4 1),(zd v4 2),(zd v4 3),(zd v4 4),x47])
def z5n (v2:List V):M Out :=
 zb (
 zb (
 zb (za (zr 2 (zd v2 3) (zd v2 5))) fun x14 =>
 zb (ldn 2 x14) fun x15 =>
 zb (newc [Value.int .i64 0,Value.int .i64 0]) fun x8 =>
 zb (stn 2 x8 x15) fun _ =>
 zb (
 zb (za (zf 0 x8)) fun x16 =>
 zb (zz x16) fun x17 =>
 zb (za (zu .lss x17 (Value.int .i64 0))) fun x18 =>
 zb (gd x18 false (za (zf 0 x8))) fun x20 =>
 zb (gd x18 false (zz x20)) fun x21 =>
 zb (gd x18 false (za (some (zd v2 0)))) fun x22 =>
 zb (gd x18 false (za (zu .geq x21 x22))) fun x23 =>
 zb (za (z8 x18 (Value.bool true) x23)) fun x24 =>
 zb (gd x24 false (za (zf 1 x8))) fun x26 =>
 zb (gd x24 false (zz x26)) fun x27 =>
 zb (gd x24 false (za (zu .lss x27 (Value.int .i64 1)))) fun x28 =>
 zb (za (z8 x24 (Value.bool true) x28)) fun x29 =>
 zb (gd x29 false (za (zf 1 x8))) fun x31 =>
 zb (gd x29 false (zz x31)) fun x32 =>
 zb (gd x29 false (za (zu .gtr x32 (Value.int .i64 4)))) fun x33 =>
 zb (za (z8 x29 (Value.bool true) x33)) fun x34 =>
 zp x34 (
 ret (.ret [(Value.int .i64 1)])
 ) (
 ret (.nxt [(zd v2 0),(zd v2 1),(zd v2 2),x8,(zd v2 3),(zd v2 4),(zd v2 5)])
 )
 ) fun o=>nx o z5m
 ) fun o=>ret (zv 1 o)
 ) fun o=>nx o zwx
def zre (vs:List V):M Out :=
 zb (za (zu .lss (zd vs 5) (zd vs 4))) fun x13 =>
 zb (
 zp x13 (
 ret (.nxt [(zd vs 0),(zd vs 1),(zd vs 2),(zd vs 3),(zd vs 4),(zd vs 5)])
 ) (
 ret (.brk 0 [(zd vs 2)])
 )
 ) fun o=>nx o z5n
def z5o (v6:List V):M Out :=
 ret (.ret [(Value.int .i64 0)])
def zwy (v5:List V):M Out :=
 zb (
 zp (zd v5 0) (
 ret (.ret [(Value.int .i64 240)])
 ) (
 ret (.nxt [])
 )
 ) fun o=>nx o z5o
def zzt (x0 x1:V):M V :=
 zb (
 zb (zdc x0) fun x2 =>
 zb (
 zb (za (zf 2 x2)) fun x9 =>
 zb (zz x9) fun x10 =>
 zb (za (zw x10)) fun x11 =>
 zb (
 zba zbm zre [x1,(Value.slice none 0 0),(Value.bool false),x10,x11,(Value.int .i64 0)]
 ) fun o=>ret (zv 0 o)
 ) fun o=>nx o zwy
 ) fun o=>zbk o fun vs=>ret (zbi [(zd vs 0)])
def zbkx:Hint:=(.seq [] .leaf (.seq [] .leaf (.seq [] .leaf (.seq [6] (.seq [] .leaf (.blk (.loop [1,5,6,10,11,12] (.seq [] .leaf (.seq [1,5,6,10,11,12] (.cond .leaf .leaf) (.seq [1,5,6,10,11,12] (.blk (.seq [] .leaf (.seq [1,5,6,8,10,11,12] (.seq [] .leaf (.cond (.seq [] .leaf .leaf) .leaf)) (.seq [] .leaf .leaf)))) .leaf)))))) (.seq [] (.seq [] .leaf (.cond (.seq [] .leaf .leaf) .leaf)) (.seq [] .leaf .leaf))))))
def ztg:List V→M V:=ap2 zzt
def zbky:zx:=ovr [(zjt,zem)] noC
theorem zbkz:zq Tryz.prog z23 (ztg):=kn2 (σ:=zbky) (hint:=zbkx) (by kernel_rfl) (zh zvg zl) fun _ _=>(by kernel_rfl)
def z5p (G_strings_IndexRune:List V→M V) (v5:List V):M Out :=
 zb (ldn 3 (zd v5 3)) fun x45 =>
 zb (ztg [x45,(zd v5 1)]) fun x47 =>
 zb (za (zu .neq x47 (Value.int .i64 0))) fun x49 =>
 zp x49 (
 ret (.ret [(zd v5 2),x47])
 ) (
 ret (.nxt [(zd v5 0),(zd v5 1),(zd v5 4),(zd v5 5),(zd v5 6)])
 )
def z5q (G_strings_IndexRune:List V→M V) (v4:List V):M Out :=
 zb (
 zb (za (zh6 3 (zd v4 0) none (some (zd v4 2)))) fun x36 =>
 zb (za (zf 0 (zd v4 3))) fun x37 =>
 zb (zz x37) fun x38 =>
 zb (zvd [x36,x38]) fun x39 =>
 zb (za (ext 0 x39)) fun x40 =>
 zb (za (ext 1 x39)) fun x41 =>
 zb (za (zu .eql x41 (Value.int .i64 0))) fun x43 =>
 zp x43 (
 ret (.ret [(zd v4 2),(Value.int .i64 6)])
 ) (
 ret (.nxt [(zd v4 0),(zd v4 1),(zd v4 2),(zd v4 3),(zd v4 4),(zd v4 5),(zd v4 6)])
 )
 ) fun o=>nx o (z5p G_strings_IndexRune)
def z5r (G_strings_IndexRune:List V→M V) (v6:List V):M Out :=
 zb (za (zu .add (zd v6 4) (Value.int .i64 1))) fun x52 =>
 ret (.nxt [(zd v6 0),(zd v6 1),(zd v6 2),(zd v6 3),x52])
def z5s (G_strings_IndexRune:List V→M V) (v3:List V):M Out :=
 zb (
 zb (
 zb (za (zr 3 (zd v3 2) (zd v3 4))) fun x27 =>
 zb (ldn 3 x27) fun x28 =>
 zb (newc [Value.string ⟨#[]⟩,Value.string ⟨#[]⟩,Value.slice none 0 0]) fun x7 =>
 zb (stn 3 x7 x28) fun _ =>
 zb (
 zb (ldn 3 x7) fun x29 =>
 zb ((zrc G_strings_IndexRune) [x29]) fun x30 =>
 zb (za (un .not x30)) fun x31 =>
 zp x31 (
 ret (.ret [(zd v3 4),(Value.int .i64 3)])
 ) (
 ret (.nxt [(zd v3 0),(zd v3 1),(zd v3 4),x7,(zd v3 2),(zd v3 3),(zd v3 4)])
 )
 ) fun o=>nx o (z5q G_strings_IndexRune)
 ) fun o=>ret (zv 2 o)
 ) fun o=>nx o (z5r G_strings_IndexRune)
def zwz (G_strings_IndexRune:List V→M V) (v2:List V):M Out :=
 zb (za (zu .lss (zd v2 4) (zd v2 3))) fun x25 =>
 zb (
 zp x25 (
 ret (.nxt [(zd v2 0),(zd v2 1),(zd v2 2),(zd v2 3),(zd v2 4)])
 ) (
 ret (.brk 1 [])
 )
 ) fun o=>nx o (z5s G_strings_IndexRune)
def z5t (G_strings_IndexRune:List V→M V) (v7:List V):M Out :=
 ret (.ret [(Value.int .i64 0),(Value.int .i64 0)])
def z5u (G_strings_IndexRune:List V→M V) (vs:List V):M Out :=
 zb (
 zb (za (zw (zd vs 0))) fun x23 =>
 zb (
 zba zbm (zwz G_strings_IndexRune) [(zd vs 0),(zd vs 1),(zd vs 0),x23,(Value.int .i64 0)]
 ) fun o=>ret (zv 1 o)
 ) fun o=>nx o (z5t G_strings_IndexRune)
def zkz (G_strings_IndexRune:List V→M V) (x0 x1:V):M V :=
 zb (
 zb (
 zb (
 zb (za (zu .lss x1 (Value.int .i64 1))) fun x13 =>
 zb (gd x13 false (za (some x1))) fun x15 =>
 zb (gd x13 false (za (zu .gtr x15 (Value.int .i64 8)))) fun x16 =>
 zb (za (z8 x13 (Value.bool true) x16)) fun x17 =>
 zp x17 (
 ret (.ret [(Value.int .i64 (-1)),(Value.int .i64 1)])
 ) (
 zb (za (zw x0)) fun x20 =>
 zb (za (zu .gtr x20 (Value.int .i64 8))) fun x21 =>
 zp x21 (
 ret (.ret [(Value.int .i64 (-1)),(Value.int .i64 2)])
 ) (
 ret (.nxt [x0,x1])
 )
 )
 ) fun o=>ret (zv 0 o)
 ) fun o=>nx o (z5u G_strings_IndexRune)
 ) fun o=>zbk o fun vs=>ret (zbi [(zd vs 0),(zd vs 1)])
def zbk0:Hint:=(.seq [] .leaf (.seq [0,1] (.blk (.seq [] .leaf (.cond (.seq [] .leaf .leaf) (.seq [] .leaf (.cond (.seq [] .leaf .leaf) .leaf))))) (.seq [] (.seq [] .leaf (.blk (.loop [0,1,22,23,24] (.seq [] .leaf (.seq [0,1,22,23,24] (.cond .leaf .leaf) (.seq [0,1,22,23,24] (.blk (.seq [] .leaf (.seq [0,1,6,7,22,23,24] (.seq [] .leaf (.cond (.seq [] .leaf .leaf) .leaf)) (.seq [0,1,6,7,22,23,24] (.seq [] (.reg [0,1,2,3,4,5,6,7,8,9,10] []) (.seq [] .leaf (.cond (.seq [] .leaf .leaf) .leaf))) (.seq [] .leaf (.seq [] .leaf (.cond (.seq [] .leaf .leaf) .leaf))))))) .leaf)))))) (.seq [] .leaf .leaf))))
def zth (G_strings_IndexRune:List V→M V):List V→M V:=ap2 (zkz G_strings_IndexRune)
theorem zbk1 {G_strings_IndexRune:List V→M V} (k_strings_IndexRune:zq Tryz.prog zy G_strings_IndexRune):zq Tryz.prog z2x (zth G_strings_IndexRune):=kn2 (σ:=ovr [(z0k,zrc G_strings_IndexRune),(z4y,zvd),(z23,ztg)] noC) (hint:=zbk0) (by kernel_rfl) (zh (zbi7 k_strings_IndexRune) (zh zbod (zh zbkz zl))) fun _ _=>(by kernel_rfl)
def zow (vs:List V):M Out :=
 zb (zcc 3 0 (rep 0 [Value.string ⟨#[]⟩,Value.string ⟨#[]⟩,Value.slice none 0 0]) []) fun x5 =>
 zb (zd0 3 56 x5 (zd vs 0)) fun x7 =>
 ret (.ret [x7])
def zpj (x0:V):M V :=
 zb (
 zb (
 zb (za (zer false (zef .s x0))) fun x4 =>
 zp x4 (
 ret (.ret [(Value.slice none 0 0)])
 ) (
 ret (.nxt [x0])
 )
 ) fun o=>nx o zow
 ) fun o=>zbk o fun vs=>ret (zbi [(zd vs 0)])
def zpk:Hint:=(.seq [] .leaf (.seq [0] (.seq [] .leaf (.cond (.seq [] .leaf .leaf) .leaf)) (.seq [] .leaf .leaf)))
def zed:List V→M V:=ap1 zpj
theorem zpl:zq Tryz.prog zgt (zed):=kn1 (σ:=ovr [] noC) (hint:=zpk) (by kernel_rfl) zl fun _=>(by kernel_rfl)
def zbgf (G_strings_IndexRune:List V→M V) (v2:List V):M Out :=
 zb (zed [(zd v2 0)]) fun x26 =>
 zb (za (build [Value.slice none 0 0,Value.int .i64 0,Value.int .i64 0,Value.int .i64 0,Value.slice none 0 0,Value.slice none 0 0,Value.int .i64 0,Value.slice none 0 0,Value.slice none 0 0] [(0,1,x26),(1,1,(zd v2 1))])) fun x28 =>
 zb (zdc x28) fun x29 =>
 ret (.ret [x29,(Value.int .i64 0)])
def zyh (G_strings_IndexRune:List V→M V) (vs:List V):M Out :=
 zb (
 zb (za (zu .lss (zd vs 1) (Value.int .i64 1))) fun x20 =>
 zb (gd x20 false (za (some (zd vs 1)))) fun x22 =>
 zb (gd x20 false (za (zu .gtr x22 (Value.int .i64 100000)))) fun x23 =>
 zb (za (z8 x20 (Value.bool true) x23)) fun x24 =>
 zp x24 (
 ret (.ret [(Value.pointer none),(Value.int .i64 1)])
 ) (
 ret (.nxt [(zd vs 0),(zd vs 1)])
 )
 ) fun o=>nx o (zbgf G_strings_IndexRune)
def zbbc (G_strings_IndexRune:List V→M V) (x0 x1 x2:V):M V :=
 zb (
 zb (
 zb ((zth G_strings_IndexRune) [x0,x1]) fun x13 =>
 zb (za (ext 0 x13)) fun x14 =>
 zb (za (ext 1 x13)) fun x15 =>
 zb (za (zu .neq x15 (Value.int .i64 0))) fun x17 =>
 zp x17 (
 ret (.ret [(Value.pointer none),x15])
 ) (
 ret (.nxt [x0,x2])
 )
 ) fun o=>nx o (zyh G_strings_IndexRune)
 ) fun o=>zbk o fun vs=>ret (zbi [(zd vs 0),(zd vs 1)])
def zbt6:Hint:=(.seq [] .leaf (.seq [0,2] (.seq [] .leaf (.seq [] .leaf (.cond (.seq [] .leaf .leaf) .leaf))) (.seq [0,2] (.seq [] .leaf (.cond (.seq [] .leaf .leaf) .leaf)) (.seq [] .leaf .leaf))))
def z15 (G_strings_IndexRune:List V→M V):List V→M V:=ap3 (zbbc G_strings_IndexRune)
theorem zbt7 {G_strings_IndexRune:List V→M V} (k_strings_IndexRune:zq Tryz.prog zy G_strings_IndexRune):zq Tryz.prog zbcq (z15 G_strings_IndexRune):=kn3 (σ:=ovr [(z2x,zth G_strings_IndexRune),(zgt,zed)] noC) (hint:=zbt6) (by kernel_rfl) (zh (zbk1 k_strings_IndexRune) (zh zpl zl)) fun _ _ _=>(by kernel_rfl)
def znq (vs:List V):M Out :=
 zb (zcc 3 0 (rep 0 [Value.int .i64 0,Value.int .i64 0,Value.bool false]) []) fun x5 =>
 zb (zd0 3 24 x5 (zd vs 0)) fun x7 =>
 ret (.ret [x7])
def zoc (x0:V):M V :=
 zb (
 zb (
 zb (za (zer false (zef .s x0))) fun x4 =>
 zp x4 (
 ret (.ret [(Value.slice none 0 0)])
 ) (
 ret (.nxt [x0])
 )
 ) fun o=>nx o znq
 ) fun o=>zbk o fun vs=>ret (zbi [(zd vs 0)])
def zod:Hint:=(.seq [] .leaf (.seq [0] (.seq [] .leaf (.cond (.seq [] .leaf .leaf) .leaf)) (.seq [] .leaf .leaf)))
def zdz:List V→M V:=ap1 zoc
theorem zoe:zq Tryz.prog zf6 (zdz):=kn1 (σ:=ovr [] noC) (hint:=zod) (by kernel_rfl) zl fun _=>(by kernel_rfl)
def zox (vs:List V):M Out :=
 zb (zcc 2 0 (rep 0 [Value.int .i64 0,Value.int .i64 0]) []) fun x5 =>
 zb (zd0 2 16 x5 (zd vs 0)) fun x7 =>
 ret (.ret [x7])
def zpm (x0:V):M V :=
 zb (
 zb (
 zb (za (zer false (zef .s x0))) fun x4 =>
 zp x4 (
 ret (.ret [(Value.slice none 0 0)])
 ) (
 ret (.nxt [x0])
 )
 ) fun o=>nx o zox
 ) fun o=>zbk o fun vs=>ret (zbi [(zd vs 0)])
def zpn:Hint:=(.seq [] .leaf (.seq [0] (.seq [] .leaf (.cond (.seq [] .leaf .leaf) .leaf)) (.seq [] .leaf .leaf)))
def zee:List V→M V:=ap1 zpm
theorem zpo:zq Tryz.prog zgs (zee):=kn1 (σ:=ovr [] noC) (hint:=zpn) (by kernel_rfl) zl fun _=>(by kernel_rfl)
noncomputable def zbja (G_strings_IndexRune:List V→M V) (v5:List V):M Out :=
 zb (za (zu .add (zd v5 4) (Value.int .i64 1))) fun x65 =>
 ret (.nxt [(zd v5 0),(zd v5 1),(zd v5 2),(zd v5 3),x65])
noncomputable def zbjb (G_strings_IndexRune:List V→M V) (v4:List V):M Out :=
 zb (
 zb (
 zb (za (zr 3 (zd v4 2) (zd v4 4))) fun x49 =>
 zb (ldn 3 x49) fun x50 =>
 zb (newc [Value.string ⟨#[]⟩,Value.string ⟨#[]⟩,Value.slice none 0 0]) fun x13 =>
 zb (stn 3 x13 x50) fun _ =>
 zb (za (zf 2 x13)) fun x51 =>
 zb (zz x51) fun x52 =>
 zb (zee [x52]) fun x53 =>
 zb (za (zf 2 x13)) fun x54 =>
 zb (st1 x54 x53) fun _ =>
 zh0 fun h0 =>
 zb (za (zb2 (zd v4 1))) fun x57 =>
 zb (za (zf 2 x57)) fun x58 =>
 zb (zz x58) fun x59 =>
 zb (ldn 3 x13) fun x60 =>
 zbw (zcc 3 1 (rep 1 [Value.string ⟨#[]⟩,Value.string ⟨#[]⟩,Value.slice none 0 0]) [(0,3,x60)]) fun ha x61 h1 =>
 zbw (zd0 3 56 x59 x61) fun ha_2 x62 h2 =>
 zb (za (zb2 (zd v4 1))) fun x63 =>
 zb (za (zf 2 x63)) fun x64 =>
 zbw (st1 x64 x62) fun ha_3 u h3 =>
 zdj (chk (zz x58) h1 x59) <|
 ret (.nxt [(zd v4 0),(zd v4 1),(zd v4 2),(zd v4 3),(zd v4 4)])
 ) fun o=>ret (zv 1 o)
 ) fun o=>nx o (zbja G_strings_IndexRune)
noncomputable def zbbd (G_strings_IndexRune:List V→M V) (v3:List V):M Out :=
 zb (za (zu .lss (zd v3 4) (zd v3 3))) fun x48 =>
 zb (
 zp x48 (
 ret (.nxt [(zd v3 0),(zd v3 1),(zd v3 2),(zd v3 3),(zd v3 4)])
 ) (
 ret (.brk 0 [(zd v3 0),(zd v3 1)])
 )
 ) fun o=>nx o (zbjb G_strings_IndexRune)
noncomputable def zbbe (G_strings_IndexRune:List V→M V) (v9:List V):M Out :=
 zb (za (zu .add (zd v9 4) (Value.int .i64 1))) fun x87 =>
 ret (.nxt [(zd v9 0),(zd v9 1),(zd v9 2),(zd v9 3),x87])
noncomputable def zbjc (G_strings_IndexRune:List V→M V) (v8:List V):M Out :=
 zb (
 zb (
 zb (za (zr 2 (zd v8 2) (zd v8 4))) fun x71 =>
 zb (ldn 2 x71) fun x72 =>
 zb (newc [Value.int .i64 0,Value.bool false]) fun x15 =>
 zb (stn 2 x15 x72) fun _ =>
 zb (za (zf 1 x15)) fun x73 =>
 zb (zz x73) fun x74 =>
 zb (za (un .not x74)) fun x75 =>
 zp x75 (
 zh0 fun h0_2 =>
 zb (za (zb2 (zd v8 1))) fun x78 =>
 zb (za (zf 4 x78)) fun x79 =>
 zb (za (zf 0 x15)) fun x81 =>
 zb (zz x79) fun x80 =>
 zb (zz x81) fun x82 =>
 zbw (zcc 1 1 (rep 1 [Value.int .i64 0]) [(0,1,x82)]) fun ha_4 x83 h1_2 =>
 zbw (zd0 1 8 x80 x83) fun ha_5 x84 h2_2 =>
 zb (za (zb2 (zd v8 1))) fun x85 =>
 zb (za (zf 4 x85)) fun x86 =>
 zbw (st1 x86 x84) fun ha_6 u_2 h3_2 =>
 zdj (chk (zz x79) h1_2 x80) <|
 ret (.nxt [(zd v8 0),(zd v8 1),(zd v8 2),(zd v8 3),(zd v8 4)])
 ) (
 ret (.nxt [(zd v8 0),(zd v8 1),(zd v8 2),(zd v8 3),(zd v8 4)])
 )
 ) fun o=>ret (zv 3 o)
 ) fun o=>nx o (zbbe G_strings_IndexRune)
noncomputable def zbbf (G_strings_IndexRune:List V→M V) (v7:List V):M Out :=
 zb (za (zu .lss (zd v7 4) (zd v7 3))) fun x70 =>
 zb (
 zp x70 (
 ret (.nxt [(zd v7 0),(zd v7 1),(zd v7 2),(zd v7 3),(zd v7 4)])
 ) (
 ret (.brk 2 [(zd v7 0),(zd v7 1)])
 )
 ) fun o=>nx o (zbjc G_strings_IndexRune)
noncomputable def zbbg (G_strings_IndexRune:List V→M V) (v13:List V):M Out :=
 zb (za (zu .add (zd v13 3) (Value.int .i64 1))) fun x104 =>
 ret (.nxt [(zd v13 0),(zd v13 1),(zd v13 2),x104])
noncomputable def zbjd (G_strings_IndexRune:List V→M V) (v12:List V):M Out :=
 zb (
 zb (
 zb (za (zr 3 (zd v12 1) (zd v12 3))) fun x94 =>
 zb (ldn 3 x94) fun x95 =>
 zb (newc [Value.int .i64 0,Value.int .i64 0,Value.int .i64 0]) fun x17 =>
 zb (stn 3 x17 x95) fun _ =>
 zb (za (zf 0 x17)) fun x96 =>
 zb (zz x96) fun x97 =>
 zb (za (zu .eql x97 (Value.int .i64 (-1)))) fun x98 =>
 zp x98 (
 zb (za (zf 2 x17)) fun x100 =>
 zb (zz x100) fun x101 =>
 zb (za (zb2 (zd v12 0))) fun x102 =>
 zb (za (zf 5 x102)) fun x103 =>
 zb (st1 x103 x101) fun _ =>
 ret (.nxt [(zd v12 0),(zd v12 1),(zd v12 2),(zd v12 3)])
 ) (
 ret (.nxt [(zd v12 0),(zd v12 1),(zd v12 2),(zd v12 3)])
 )
 ) fun o=>ret (zv 5 o)
 ) fun o=>nx o (zbbg G_strings_IndexRune)
noncomputable def zbbh (G_strings_IndexRune:List V→M V) (v11:List V):M Out :=
 zb (za (zu .lss (zd v11 3) (zd v11 2))) fun x93 =>
 zb (
 zp x93 (
 ret (.nxt [(zd v11 0),(zd v11 1),(zd v11 2),(zd v11 3)])
 ) (
 ret (.brk 4 [(zd v11 0)])
 )
 ) fun o=>nx o (zbjd G_strings_IndexRune)
noncomputable def zbje (G_strings_IndexRune:List V→M V) (v14:List V):M Out :=
 ret (.ret [(zd v14 0),(Value.int .i64 0)])
noncomputable def zbgg (G_strings_IndexRune:List V→M V) (v10:List V):M Out :=
 zb (
 zb (za (zf 3 (zd v10 0))) fun x88 =>
 zb (za (zf 1 x88)) fun x89 =>
 zb (zz x89) fun x90 =>
 zb (za (zw x90)) fun x91 =>
 zb (
 zba zbm (zbbh G_strings_IndexRune) [(zd v10 1),x90,x91,(Value.int .i64 0)]
 ) fun o=>ret (zv 4 o)
 ) fun o=>nx o (zbje G_strings_IndexRune)
noncomputable def zbgh (G_strings_IndexRune:List V→M V) (v6:List V):M Out :=
 zb (
 zb (za (zf 0 (zd v6 0))) fun x66 =>
 zb (zz x66) fun x67 =>
 zb (za (zw x67)) fun x68 =>
 zb (
 zba zbm (zbbf G_strings_IndexRune) [(zd v6 0),(zd v6 1),x67,x68,(Value.int .i64 0)]
 ) fun o=>ret (zv 2 o)
 ) fun o=>nx o (zbgg G_strings_IndexRune)
noncomputable def zbgi (G_strings_IndexRune:List V→M V) (v2:List V):M Out :=
 zb (za (zf 1 (zd v2 1))) fun x40 =>
 zb (zz x40) fun x41 =>
 zb (zdz [x41]) fun x42 =>
 zb (za (build [Value.pointer none,Value.pointer none,Value.slice none 0 0,Value.slice none 0 0,Value.slice none 0 0,Value.int .i64 0,Value.int .i64 0,Value.int .i64 0] [(0,1,(zd v2 2)),(1,1,(zd v2 3)),(3,1,x42)])) fun x43 =>
 zb (zdc x43) fun x44 =>
 zb (
 zb (za (zw (zd v2 0))) fun x46 =>
 zb (
 zba zbm (zbbd G_strings_IndexRune) [(zd v2 1),x44,(zd v2 0),x46,(Value.int .i64 0)]
 ) fun o=>ret (zv 0 o)
 ) fun o=>nx o (zbgh G_strings_IndexRune)
noncomputable def zbgj (G_strings_IndexRune:List V→M V) (vs:List V):M Out :=
 zb (za (zf 5 (zd vs 2))) fun x28 =>
 zb (zz x28) fun x29 =>
 zb (za (zw x29)) fun x30 =>
 zb ((z15 G_strings_IndexRune) [(zd vs 0),x30,(zd vs 1)]) fun x32 =>
 zb (za (ext 0 x32)) fun x33 =>
 zb (za (ext 1 x32)) fun x34 =>
 zb (
 zb (za (zu .neq x34 (Value.int .i64 0))) fun x36 =>
 zp x36 (
 ret (.ret [(Value.pointer none),x34])
 ) (
 ret (.nxt [(zd vs 0),(zd vs 2),(zd vs 3),x33])
 )
 ) fun o=>nx o (zbgi G_strings_IndexRune)
noncomputable def zbfk (G_strings_IndexRune:List V→M V) (x0 x1 x2:V):M V :=
 zb (
 zb (zdc x0) fun x3 =>
 zb (ldn 7 x3) fun x19 =>
 zb (z13 [x19]) fun x20 =>
 zb (za (ext 0 x20)) fun x21 =>
 zb (za (ext 1 x20)) fun x22 =>
 zb (
 zb (za (zu .neq x22 (Value.int .i64 0))) fun x24 =>
 zp x24 (
 ret (.ret [(Value.pointer none),x22])
 ) (
 ret (.nxt [x1,x2,x3,x21])
 )
 ) fun o=>nx o (zbgj G_strings_IndexRune)
 ) fun o=>zbk o fun vs=>ret (zbi [(zd vs 0),(zd vs 1)])
def zbxg:Hint:=(.seq [] .leaf (.seq [] .leaf (.seq [1,2,3,8] (.seq [] .leaf (.cond (.seq [] .leaf .leaf) .leaf)) (.seq [] .leaf (.seq [1,3,8,10] (.seq [] .leaf (.cond (.seq [] .leaf .leaf) .leaf)) (.seq [] .leaf (.seq [3,11] (.seq [] .leaf (.blk (.loop [3,11,45,46,47] (.seq [] .leaf (.seq [3,11,45,46,47] (.cond .leaf .leaf) (.seq [3,11,45,46,47] (.blk (.seq [] .leaf (.seq [] .leaf (.reg [0,1,2,3,4,5,6,7,8,9,10] [])))) .leaf)))))) (.seq [3,11] (.seq [] .leaf (.blk (.loop [3,11,67,68,69] (.seq [] .leaf (.seq [3,11,67,68,69] (.cond .leaf .leaf) (.seq [3,11,67,68,69] (.blk (.seq [] .leaf (.seq [] .leaf (.cond (.reg [0,1,2,3,5,4,6,7,8,9,10,11] []) .leaf)))) .leaf)))))) (.seq [11] (.seq [] .leaf (.blk (.loop [11,90,91,92] (.seq [] .leaf (.seq [11,90,91,92] (.cond .leaf .leaf) (.seq [11,90,91,92] (.blk (.seq [] .leaf (.seq [] .leaf (.cond .leaf .leaf)))) .leaf)))))) (.seq [] .leaf .leaf))))))))))
noncomputable def zvs (G_strings_IndexRune:List V→M V):List V→M V:=ap3 (zbfk G_strings_IndexRune)
theorem zbms {G_strings_IndexRune:List V→M V} (k_strings_IndexRune:zq Tryz.prog zy G_strings_IndexRune):zq Tryz.prog z4s (zvs G_strings_IndexRune):=kn3 (σ:=ovr [(zbcp,z13),(zbcq,z15 G_strings_IndexRune),(zf6,zdz),(zgs,zee)] noC) (hint:=zbxg) (by kernel_rfl) (zh zbt5 (zh (zbt7 k_strings_IndexRune) (zh zoe (zh zpo zl)))) fun _ _ _=>(by kernel_rfl)
end Go.AM.Cap
