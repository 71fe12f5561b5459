import Derived.Test.YtjchglndancedaaGreatDoorAmWp
import Derived.Test.YtjchglndancedaaGreatDoorProg
set_option linter.all false
/- Printed by amprint2.py: functions of YtjchglndancedaaGreatDoor on the abstract machine. -/
set_option linter.unusedVariables false
set_option maxRecDepth 100000
namespace Go.AM.Cap
open Go.AM Go.Proofs
def gid_conf_levels:Nat:=0
def gid_conf_types:Nat:=1
def zzm:Nat:=3
def zrw:Nat:=4
def z6a:Nat:=6
def zut:Nat:=8
def z11:Nat:=10
def z0m:Nat:=11
def z4l:Nat:=12
def zco:Nat:=14
def z4m:Nat:=15
def z12:Nat:=16
def zrx:Nat:=20
def zk0:Nat:=21
def zo5:Nat:=22
def zbat:Nat:=23
def zf5:Nat:=24
def zei:Nat:=25
def zyf:Nat:=32
def zry:Nat:=33
def z72:Nat:=34
def z73:Nat:=35
def zfy:Nat:=36
def zgf:Nat:=37
def zsy:Nat:=41
def zbt:Nat:=42
def zb3:Nat:=43
def zg4:Nat:=44
def z0n:Nat:=45
def zbm:Nat:=52
def zb0:Nat:=53
def zb1:Nat:=54
def zcb:Nat:=55
def zcs:Nat:=56
def zb8:Nat:=57
def zdd:Nat:=58
def zcc:Nat:=59
def zde:Nat:=60
def zdf:Nat:=61
def zcp:Nat:=62
def z13:Nat:=63
def ze8:Nat:=64
def z14:Nat:=65
def z4n:Nat:=66
def z4o:Nat:=67
def z74:Nat:=68
def z0o:Nat:=69
def zgg:Nat:=70
def zdy:Nat:=89
def zg5:Nat:=92
def zw1:Nat:=93
def zhp:Nat:=94
def znr:Nat:=95
def zcd:Nat:=96
def z15:Nat:=97
def zqx:Nat:=98
def zsj:Nat:=99
def z16:Nat:=100
def zcj:Nat:=101
def zdl:Nat:=102
def zeg:Nat:=103
def zdm:Nat:=104
def z17:Nat:=105
def zfz:Nat:=106
def zgh:Nat:=107
def zha:Nat:=108
def zhq:Nat:=109
def zkl:Nat:=110
def zo6:Nat:=111
def zk1:Nat:=112
def zyg:Nat:=113
def z18:Nat:=114
def z0p:Nat:=115
def zfl:Nat:=126
def zif:Nat:=131
def zl6:Nat:=132
def zbi:Nat:=133
def zbq:Nat:=134
def zd1:Nat:=135
def zcf:Nat:=136
def zyh:Nat:=137
def z0q:Nat:=138
def z4p:Nat:=139
def zej:Nat:=140
def ze9:Nat:=141
def zb6:Nat:=142
def ziv:Nat:=143
def zmn:Nat:=144
def zfa:Nat:=145
def zl7:Nat:=146
def zjb:Nat:=147
def znc:Nat:=158
def zmo:Nat:=159
def znd:Nat:=160
def zmp:Nat:=161
def zk2:Nat:=162
def zkm:Nat:=163
def zjt:Nat:=164
def zek:Nat:=167
def z0r:Nat:=168
def zgi:Nat:=169
def zk3:Nat:=170
def zf0:Nat:=177
def zh6:Nat:=178
def zfm:Nat:=179
def zr:Nat:=187
def zk4:Nat:=188
def zgj:Nat:=226
def zhb:Nat:=227
def zeb:Nat:=229
def zhc:Nat:=231
def zhz:Nat:=232
def zik:Nat:=235
def zhd:Nat:=236
def ze3:Nat:=3
def zct:Nat:=9
def z0s:Nat:=74
def zo7:Nat:=273
def zre:Nat:=274
def zuu:Nat:=276
def zw2 (v2:List V):M Out :=
 zb (
 zb (za (zfx (zd v2 0))) fun x19 =>
 zb (za (zy .sub x19 (Value.int .i64 1))) fun x20 =>
 zb (za (z7a (zd v2 0) none (some x20))) fun x21 =>
 ret (.nxt [x21,(zd v2 1)])
 ) fun o=>ret (zz 1 o)
def zw3 (vs:List V):M Out :=
 zb (
 zb (za (zfx (zd vs 0))) fun x6 =>
 zb (za (zy .gtr x6 (Value.int .i64 0))) fun x7 =>
 zb (gd x7 true (za (some (zd vs 0)))) fun x9 =>
 zb (gd x7 true (za (some (zd vs 0)))) fun x10 =>
 zb (gd x7 true (za (zfx x10))) fun x11 =>
 zb (gd x7 true (za (zy .sub x11 (Value.int .i64 1)))) fun x12 =>
 zb (gd x7 true (za (znu x9 x12))) fun x13 =>
 zb (gd x7 true (za (some (zd vs 1)))) fun x14 =>
 zb (gd x7 true (za (zy .eql x13 x14))) fun x15 =>
 zb (za (zbb x7 x15 (Value.bool false))) fun x16 =>
 zn x16 (
 ret (.nxt [(zd vs 0),(zd vs 1)])
 ) (
 ret (.brk 0 [(zd vs 0)])
 )
 ) fun o=>nx o zw2
def zw4 (v3:List V):M Out :=
 ret (.ret [(zd v3 0)])
def zyi (x0 x1:V):M V :=
 zb (
 zb (
 zb (
 zbg zby zw3 [x0,x1]
 ) fun o=>ret (zz 0 o)
 ) fun o=>nx o zw4
 ) fun o=>zbl o fun vs=>ret (zbh [(zd vs 0)])
def zyj:Hint:=(.seq [] .leaf (.seq [0] (.blk (.loop [0,1] (.seq [0,1] (.seq [] .leaf (.cond .leaf .leaf)) (.blk .leaf)))) (.seq [] .leaf .leaf)))
def ziw:List V→M V:=ap2 zyi
theorem zyk:zq Tryz.prog zmo (ziw):=kn2 (σ:=ovr [] noC) (hint:=zyj) (by kernel_rfl) zl fun _ _=>(by kernel_rfl)
def zyl (v2:List V):M Out :=
 zb (
 zb (za (z7a (zd v2 0) (some (Value.int .i64 1)) none)) fun x15 =>
 ret (.nxt [x15,(zd v2 1)])
 ) fun o=>ret (zz 1 o)
def zym (vs:List V):M Out :=
 zb (
 zb (za (zfx (zd vs 0))) fun x6 =>
 zb (za (zy .gtr x6 (Value.int .i64 0))) fun x7 =>
 zb (gd x7 true (za (some (zd vs 0)))) fun x9 =>
 zb (gd x7 true (za (znu x9 (Value.int .i64 0)))) fun x10 =>
 zb (gd x7 true (za (some (zd vs 1)))) fun x11 =>
 zb (gd x7 true (za (zy .eql x10 x11))) fun x12 =>
 zb (za (zbb x7 x12 (Value.bool false))) fun x13 =>
 zn x13 (
 ret (.nxt [(zd vs 0),(zd vs 1)])
 ) (
 ret (.brk 0 [(zd vs 0)])
 )
 ) fun o=>nx o zyl
def zyn (v3:List V):M Out :=
 ret (.ret [(zd v3 0)])
def zzn (x0 x1:V):M V :=
 zb (
 zb (
 zb (
 zbg zby zym [x0,x1]
 ) fun o=>ret (zz 0 o)
 ) fun o=>nx o zyn
 ) fun o=>zbl o fun vs=>ret (zbh [(zd vs 0)])
def zzo:Hint:=(.seq [] .leaf (.seq [0] (.blk (.loop [0,1] (.seq [0,1] (.seq [] .leaf (.cond .leaf .leaf)) (.blk .leaf)))) (.seq [] .leaf .leaf)))
def zjj:List V→M V:=ap2 zzn
theorem zzp:zq Tryz.prog znc (zjj):=kn2 (σ:=ovr [] noC) (hint:=zzo) (by kernel_rfl) zl fun _ _=>(by kernel_rfl)
def zoh (v3:List V):M Out :=
 zb (za (zmu 256 1 (zd v3 1) (zd v3 3))) fun x19 =>
 zb (st1 x19 (Value.bool true)) fun _ =>
 ret (.nxt [(zd v3 0),(zd v3 1),(zd v3 2)])
def zoi (v4:List V):M Out :=
 zb (za (zy .add (zd v4 2) (Value.int .i64 1))) fun x11 =>
 ret (.nxt [(zd v4 0),(zd v4 1),x11])
def zoj (v2:List V):M Out :=
 zb (
 zb (
 zb (za (znu (zd v2 0) (zd v2 2))) fun x14 =>
 zb (
 zb (za (zy .geq x14 (Value.int .u8 128))) fun x16 =>
 zn x16 (
 zb (ldn 256 (zd v2 1)) fun x17 =>
 zb (stn 256 (zd v2 1) x17) fun _ =>
 ret (.ret [(zd v2 1),(Value.bool false)])
 ) (
 ret (.nxt [(zd v2 0),(zd v2 1),(zd v2 2),x14])
 )
 ) fun o=>nx o zoh
 ) fun o=>ret (zz 1 o)
 ) fun o=>nx o zoi
def zix (vs:List V):M Out :=
 zb (
 zb (za (zfx (zd vs 0))) fun x8 =>
 zb (za (zy .lss (zd vs 2) x8)) fun x9 =>
 zn x9 (
 ret (.nxt [(zd vs 0),(zd vs 1),(zd vs 2)])
 ) (
 ret (.brk 0 [(zd vs 1)])
 )
 ) fun o=>nx o zoj
def zok (v5:List V):M Out :=
 zb (ldn 256 (zd v5 0)) fun x20 =>
 zb (stn 256 (zd v5 0) x20) fun _ =>
 ret (.ret [(zd v5 0),(Value.bool true)])
def zjk (x0:V):M V :=
 zb (
 zb (newc (List.replicate 256 (Value.bool false))) fun x2 =>
 zb (
 zb (
 zbg zby zix [x0,x2,(Value.int .i64 0)]
 ) fun o=>ret (zz 0 o)
 ) fun o=>nx o zok
 ) fun o=>zbl o fun vs=>zb (ldn 256 (zd vs 0)) fun r0=>ret (zbh [r0,(zd vs 1)])
def zzq:Hint:=(.seq [] .leaf (.seq [2] (.seq [] .leaf (.blk (.loop [0,2,4] (.seq [0,2,4] (.seq [] .leaf (.cond .leaf .leaf)) (.seq [0,2,4] (.blk (.seq [] .leaf (.seq [0,2,4,5] (.seq [] .leaf (.cond (.seq [] .leaf .leaf) .leaf)) .leaf))) .leaf))))) (.seq [] .leaf .leaf)))
def zgo:List V→M V:=ap1 zjk
theorem zzr:zq Tryz.prog znd (zgo):=kn1 (σ:=ovr [] noC) (hint:=zzq) (by kernel_rfl) zl fun _=>(by kernel_rfl)
def zgp (x0 x1:V):M V :=
 zb (
 zb (za (zci x0)) fun x7 =>
 zb (za (zmu 256 1 x7 x1)) fun x8 =>
 zb (z8 x8) fun x9 =>
 ret (.ret [x9])
 ) fun o=>zbl o fun vs=>ret (zbh [(zd vs 0)])
def ztj:Hint:=(.seq [] .leaf (.seq [] .leaf .leaf))
def zch:List V→M V:=ap2 zgp
theorem zkn:zq Tryz.prog zf0 (zch):=kn2 (σ:=ovr [] noC) (hint:=ztj) (by kernel_rfl) zl fun _ _=>(by kernel_rfl)
def zmq (v3:List V):M Out :=
 zb (za (zfx (zd v3 0))) fun x18 =>
 zb (za (zy .sub x18 (Value.int .i64 1))) fun x19 =>
 zb (za (z7a (zd v3 0) none (some x19))) fun x20 =>
 ret (.nxt [x20,(zd v3 1)])
def zmr (v2:List V):M Out :=
 zb (
 zb (
 zb (za (zfx (zd v2 0))) fun x11 =>
 zb (za (zy .sub x11 (Value.int .i64 1))) fun x12 =>
 zb (za (znu (zd v2 0) x12)) fun x13 =>
 zb (zch [(zd v2 1),x13]) fun x14 =>
 zb (za (un .not x14)) fun x15 =>
 zn x15 (
 ret (.brk 0 [(zd v2 0)])
 ) (
 ret (.nxt [(zd v2 0),(zd v2 1)])
 )
 ) fun o=>nx o zmq
 ) fun o=>ret (zz 1 o)
def zht (vs:List V):M Out :=
 zb (
 zb (za (zfx (zd vs 0))) fun x6 =>
 zb (za (zy .gtr x6 (Value.int .i64 0))) fun x7 =>
 zn x7 (
 ret (.nxt [(zd vs 0),(zd vs 1)])
 ) (
 ret (.brk 0 [(zd vs 0)])
 )
 ) fun o=>nx o zmr
def zhu (v4:List V):M Out :=
 ret (.ret [(zd v4 0)])
def zh7 (x0 x1:V):M V :=
 zb (
 zb (
 zb (
 zbg zby zht [x0,x1]
 ) fun o=>ret (zz 0 o)
 ) fun o=>nx o zhu
 ) fun o=>zbl o fun vs=>ret (zbh [(zd vs 0)])
def zw5:Hint:=(.seq [] .leaf (.seq [0] (.blk (.loop [0,1] (.seq [0,1] (.seq [] .leaf (.cond .leaf .leaf)) (.blk (.seq [0,1] (.seq [] .leaf (.cond .leaf .leaf)) .leaf))))) (.seq [] .leaf .leaf)))
def zfr:List V→M V:=ap2 zh7
def zw6:zu:=ovr [(zf0,zch)] noC
theorem zw7:zq Tryz.prog zk2 (zfr):=kn2 (σ:=zw6) (hint:=zw5) (by kernel_rfl) (zf zkn zl) fun _ _=>(by kernel_rfl)
def zne (v3:List V):M Out :=
 zb (za (z7a (zd v3 0) (some (Value.int .i64 1)) none)) fun x14 =>
 ret (.nxt [x14,(zd v3 1)])
def znf (v2:List V):M Out :=
 zb (
 zb (
 zb (za (znu (zd v2 0) (Value.int .i64 0))) fun x10 =>
 zb (zch [(zd v2 1),x10]) fun x11 =>
 zb (za (un .not x11)) fun x12 =>
 zn x12 (
 ret (.brk 0 [(zd v2 0)])
 ) (
 ret (.nxt [(zd v2 0),(zd v2 1)])
 )
 ) fun o=>nx o zne
 ) fun o=>ret (zz 1 o)
def zh8 (vs:List V):M Out :=
 zb (
 zb (za (zfx (zd vs 0))) fun x6 =>
 zb (za (zy .gtr x6 (Value.int .i64 0))) fun x7 =>
 zn x7 (
 ret (.nxt [(zd vs 0),(zd vs 1)])
 ) (
 ret (.brk 0 [(zd vs 0)])
 )
 ) fun o=>nx o znf
def zh9 (v4:List V):M Out :=
 ret (.ret [(zd v4 0)])
def ziy (x0 x1:V):M V :=
 zb (
 zb (
 zb (
 zbg zby zh8 [x0,x1]
 ) fun o=>ret (zz 0 o)
 ) fun o=>nx o zh9
 ) fun o=>zbl o fun vs=>ret (zbh [(zd vs 0)])
def zyo:Hint:=(.seq [] .leaf (.seq [0] (.blk (.loop [0,1] (.seq [0,1] (.seq [] .leaf (.cond .leaf .leaf)) (.blk (.seq [0,1] (.seq [] .leaf (.cond .leaf .leaf)) .leaf))))) (.seq [] .leaf .leaf)))
def zf6:List V→M V:=ap2 ziy
def zyp:zu:=ovr [(zf0,zch)] noC
theorem zyq:zq Tryz.prog zmp (zf6):=kn2 (σ:=zyp) (hint:=zyo) (by kernel_rfl) (zf zkn zl) fun _ _=>(by kernel_rfl)
def zw8 (x0:V):M V :=
 zb (
 zb (za (zy .and x0 (Value.int .u8 192))) fun x4 =>
 zb (za (zy .neq x4 (Value.int .u8 128))) fun x5 =>
 ret (.ret [x5])
 ) fun o=>zbl o fun vs=>ret (zbh [(zd vs 0)])
def zw9:Hint:=(.seq [] .leaf (.seq [] .leaf .leaf))
def zia:List V→M V:=ap1 zw8
theorem zxa:zq Tryz.prog zk4 (zia):=kn1 (σ:=ovr [] noC) (hint:=zw9) (by kernel_rfl) zl fun _=>(by kernel_rfl)
def zk5 (v8:List V):M Out :=
 zb (za (zy .and (zd v8 0) (Value.int .u8 7))) fun x100 =>
 zb (za (cvi .i32 x100)) fun x101 =>
 zb (za (zy .shl x101 (Value.int .u64 18))) fun x102 =>
 zb (za (zy .and (zd v8 1) (Value.int .u8 63))) fun x104 =>
 zb (za (cvi .i32 x104)) fun x105 =>
 zb (za (zy .shl x105 (Value.int .u64 12))) fun x106 =>
 zb (za (zy .or x102 x106)) fun x107 =>
 zb (za (zy .and (zd v8 2) (Value.int .u8 63))) fun x109 =>
 zb (za (cvi .i32 x109)) fun x110 =>
 zb (za (zy .shl x110 (Value.int .u64 6))) fun x111 =>
 zb (za (zy .or x107 x111)) fun x112 =>
 zb (za (zy .and (zd v8 3) (Value.int .u8 63))) fun x114 =>
 zb (za (cvi .i32 x114)) fun x115 =>
 zb (za (zy .or x112 x115)) fun x116 =>
 ret (.ret [x116,(Value.int .i64 4)])
def zk6 (v7:List V):M Out :=
 zb (za (znu (zd v7 0) (Value.int .i64 3))) fun x92 =>
 zb (
 zb (za (zy .lss x92 (Value.int .u8 128))) fun x94 =>
 zb (gd x94 false (za (some x92))) fun x96 =>
 zb (gd x94 false (za (zy .lss (Value.int .u8 191) x96))) fun x97 =>
 zb (za (zbb x94 (Value.bool true) x97)) fun x98 =>
 zn x98 (
 ret (.ret [(Value.int .i32 65533),(Value.int .i64 1)])
 ) (
 ret (.nxt [(zd v7 1),(zd v7 2),(zd v7 3),x92])
 )
 ) fun o=>nx o zk5
def zk7 (v6:List V):M Out :=
 zb (
 zb (za (zy .leq (zd v6 2) (Value.int .i64 3))) fun x77 =>
 zn x77 (
 zb (za (zy .and (zd v6 1) (Value.int .u8 15))) fun x79 =>
 zb (za (cvi .i32 x79)) fun x80 =>
 zb (za (zy .shl x80 (Value.int .u64 12))) fun x81 =>
 zb (za (zy .and (zd v6 3) (Value.int .u8 63))) fun x83 =>
 zb (za (cvi .i32 x83)) fun x84 =>
 zb (za (zy .shl x84 (Value.int .u64 6))) fun x85 =>
 zb (za (zy .or x81 x85)) fun x86 =>
 zb (za (zy .and (zd v6 4) (Value.int .u8 63))) fun x88 =>
 zb (za (cvi .i32 x88)) fun x89 =>
 zb (za (zy .or x86 x89)) fun x90 =>
 ret (.ret [x90,(Value.int .i64 3)])
 ) (
 ret (.nxt [(zd v6 0),(zd v6 1),(zd v6 3),(zd v6 4)])
 )
 ) fun o=>nx o zk6
def zk8 (v5:List V):M Out :=
 zb (za (znu (zd v5 0) (Value.int .i64 2))) fun x69 =>
 zb (
 zb (za (zy .lss x69 (Value.int .u8 128))) fun x71 =>
 zb (gd x71 false (za (some x69))) fun x73 =>
 zb (gd x71 false (za (zy .lss (Value.int .u8 191) x73))) fun x74 =>
 zb (za (zbb x71 (Value.bool true) x74)) fun x75 =>
 zn x75 (
 ret (.ret [(Value.int .i32 65533),(Value.int .i64 1)])
 ) (
 ret (.nxt [(zd v5 0),(zd v5 1),(zd v5 2),(zd v5 3),x69])
 )
 ) fun o=>nx o zk7
def zk9 (v4:List V):M Out :=
 zb (
 zb (za (zy .leq (zd v4 2) (Value.int .i64 2))) fun x59 =>
 zn x59 (
 zb (za (zy .and (zd v4 1) (Value.int .u8 31))) fun x61 =>
 zb (za (cvi .i32 x61)) fun x62 =>
 zb (za (zy .shl x62 (Value.int .u64 6))) fun x63 =>
 zb (za (zy .and (zd v4 3) (Value.int .u8 63))) fun x65 =>
 zb (za (cvi .i32 x65)) fun x66 =>
 zb (za (zy .or x63 x66)) fun x67 =>
 ret (.ret [x67,(Value.int .i64 2)])
 ) (
 ret (.nxt [(zd v4 0),(zd v4 1),(zd v4 2),(zd v4 3)])
 )
 ) fun o=>nx o zk8
def zla (v3:List V):M Out :=
 zb (za (znu (zd v3 0) (Value.int .i64 1))) fun x47 =>
 zb (
 zb (za (zg 0 (zd v3 3))) fun x49 =>
 zb (z8 x49) fun x50 =>
 zb (za (zy .lss x47 x50)) fun x51 =>
 zb (gd x51 false (za (zg 1 (zd v3 3)))) fun x53 =>
 zb (gd x51 false (z8 x53)) fun x54 =>
 zb (gd x51 false (za (some x47))) fun x55 =>
 zb (gd x51 false (za (zy .lss x54 x55))) fun x56 =>
 zb (za (zbb x51 (Value.bool true) x56)) fun x57 =>
 zn x57 (
 ret (.ret [(Value.int .i32 65533),(Value.int .i64 1)])
 ) (
 ret (.nxt [(zd v3 0),(zd v3 1),(zd v3 2),x47])
 )
 ) fun o=>nx o zk9
def zlb (v2:List V):M Out :=
 zb (za (zy .and (zd v2 3) (Value.int .u8 7))) fun x37 =>
 zb (za (cvi .i64 x37)) fun x38 =>
 zb (za (zy .shr (zd v2 3) (Value.int .u64 4))) fun x40 =>
 zb (za (zmu 16 2 (ptr zrw 0) x40)) fun x41 =>
 zb (ldn 2 x41) fun x42 =>
 zb (newc [Value.int .u8 0,Value.int .u8 0]) fun x9 =>
 zb (stn 2 x9 x42) fun _ =>
 zb (
 zb (za (zy .lss (zd v2 1) x38)) fun x45 =>
 zn x45 (
 ret (.ret [(Value.int .i32 65533),(Value.int .i64 1)])
 ) (
 ret (.nxt [(zd v2 0),(zd v2 2),x38,x9])
 )
 ) fun o=>nx o zla
def zlc (vs:List V):M Out :=
 zb (za (znu (zd vs 0) (Value.int .i64 0))) fun x18 =>
 zb (za (zmu 256 1 (ptr zzm 0) x18)) fun x20 =>
 zb (z8 x20) fun x21 =>
 zb (
 zb (za (zy .geq x21 (Value.int .u8 240))) fun x23 =>
 zn x23 (
 zb (za (cvi .i32 x21)) fun x25 =>
 zb (za (zy .shl x25 (Value.int .u64 31))) fun x26 =>
 zb (za (zy .shr x26 (Value.int .u64 31))) fun x27 =>
 zb (za (znu (zd vs 0) (Value.int .i64 0))) fun x29 =>
 zb (za (cvi .i32 x29)) fun x30 =>
 zb (za (zy .andNot x30 x27)) fun x32 =>
 zb (za (zy .and (Value.int .i32 65533) x27)) fun x34 =>
 zb (za (zy .or x32 x34)) fun x35 =>
 ret (.ret [x35,(Value.int .i64 1)])
 ) (
 ret (.nxt [(zd vs 0),(zd vs 1),x18,x21])
 )
 ) fun o=>nx o zlb
def zl8 (x0:V):M V :=
 zb (
 zb (za (zfx x0)) fun x14 =>
 zb (
 zb (za (zy .lss x14 (Value.int .i64 1))) fun x16 =>
 zn x16 (
 ret (.ret [(Value.int .i32 65533),(Value.int .i64 0)])
 ) (
 ret (.nxt [x0,x14])
 )
 ) fun o=>nx o zlc
 ) fun o=>zbl o fun vs=>ret (zbh [(zd vs 0),(zd vs 1)])
def zl9:Hint:=(.seq [] .leaf (.seq [] .leaf (.seq [0,4] (.seq [] .leaf (.cond (.seq [] .leaf .leaf) .leaf)) (.seq [] .leaf (.seq [] .leaf (.seq [0,4,5,6] (.seq [] .leaf (.cond (.seq [] .leaf (.seq [] .leaf .leaf)) .leaf)) (.seq [] .leaf (.seq [] .leaf (.seq [0,5,8,9] (.seq [] .leaf (.cond (.seq [] .leaf .leaf) .leaf)) (.seq [] .leaf (.seq [0,5,8,10] (.seq [] .leaf (.cond (.seq [] .leaf .leaf) .leaf)) (.seq [0,5,8,10] (.seq [] .leaf (.cond (.seq [] .leaf .leaf) .leaf)) (.seq [] .leaf (.seq [0,5,8,10,11] (.seq [] .leaf (.cond (.seq [] .leaf .leaf) .leaf)) (.seq [0,5,10,11] (.seq [] .leaf (.cond (.seq [] .leaf .leaf) .leaf)) (.seq [] .leaf (.seq [5,10,11,12] (.seq [] .leaf (.cond (.seq [] .leaf .leaf) .leaf)) (.seq [] .leaf .leaf))))))))))))))))))
def zdn:List V→M V:=ap1 zl8
theorem zma:zq Tryz.prog zfl (zdn):=kn1 (σ:=ovr [] noC) (hint:=zl9) (by kernel_rfl) zl fun _=>(by kernel_rfl)
def znw (vs:List V):M Out :=
 ret (.ret [(zd vs 0),(zd vs 1)])
def zoo (x0:V):M V :=
 zb (
 zb (
 zb (za (zy .neq x0 (Value.string ⟨#[]⟩))) fun x5 =>
 zb (gd x5 true (za (some x0))) fun x7 =>
 zb (gd x5 true (za (znu x7 (Value.int .i64 0)))) fun x8 =>
 zb (gd x5 true (za (zy .lss x8 (Value.int .u8 128)))) fun x9 =>
 zb (za (zbb x5 x9 (Value.bool false))) fun x10 =>
 zn x10 (
 zb (za (znu x0 (Value.int .i64 0))) fun x12 =>
 zb (za (cvi .i32 x12)) fun x13 =>
 ret (.ret [x13,(Value.int .i64 1)])
 ) (
 zb (zdn [x0]) fun x16 =>
 zb (za (ext 0 x16)) fun x17 =>
 zb (za (ext 1 x16)) fun x18 =>
 ret (.nxt [x17,x18])
 )
 ) fun o=>nx o znw
 ) fun o=>zbl o fun vs=>ret (zbh [(zd vs 0),(zd vs 1)])
def zop:Hint:=(.seq [] .leaf (.seq [2,3] (.seq [] .leaf (.cond (.seq [] .leaf .leaf) .leaf)) .leaf))
def zb5:List V→M V:=ap1 zoo
def zoq:zu:=ovr [(zfl,zdn)] noC
theorem zhr:zq Tryz.prog zdy (zb5):=kn1 (σ:=zoq) (hint:=zop) (by kernel_rfl) (zf zma zl) fun _=>(by kernel_rfl)
def zld (v5:List V):M Out :=
 zb (za (zy .sub (zd v5 2) (Value.int .i64 1))) fun x29 =>
 ret (.nxt [(zd v5 0),(zd v5 1),x29,(zd v5 3)])
def zle (v4:List V):M Out :=
 zb (
 zb (
 zb (za (znu (zd v4 0) (zd v4 2))) fun x32 =>
 zb (zia [x32]) fun x33 =>
 zn x33 (
 ret (.brk 0 [(zd v4 0),(zd v4 1),(zd v4 2)])
 ) (
 ret (.nxt [(zd v4 0),(zd v4 1),(zd v4 2),(zd v4 3)])
 )
 ) fun o=>ret (zz 1 o)
 ) fun o=>nx o zld
def zlf (v3:List V):M Out :=
 zb (
 zb (za (zy .geq (zd v3 2) (zd v3 3))) fun x27 =>
 zn x27 (
 ret (.nxt [(zd v3 0),(zd v3 1),(zd v3 2),(zd v3 3)])
 ) (
 ret (.brk 0 [(zd v3 0),(zd v3 1),(zd v3 2)])
 )
 ) fun o=>nx o zle
def zlg (v8:List V):M Out :=
 ret (.ret [(zd v8 0),(zd v8 1)])
def zlh (v7:List V):M Out :=
 zb (za (z7a (zd v7 0) (some (zd v7 2)) (some (zd v7 1)))) fun x40 =>
 zb (zb5 [x40]) fun x41 =>
 zb (za (ext 0 x41)) fun x42 =>
 zb (za (ext 1 x41)) fun x43 =>
 zb (
 zb (za (zy .add (zd v7 2) x43)) fun x46 =>
 zb (za (zy .neq x46 (zd v7 1))) fun x48 =>
 zn x48 (
 ret (.ret [(Value.int .i32 65533),(Value.int .i64 1)])
 ) (
 ret (.nxt [x42,x43])
 )
 ) fun o=>nx o zlg
def zli (v6:List V):M Out :=
 zb (
 zb (za (zy .lss (zd v6 2) (Value.int .i64 0))) fun x35 =>
 zn x35 (
 ret (.nxt [(zd v6 0),(zd v6 1),(Value.int .i64 0)])
 ) (
 ret (.nxt [(zd v6 0),(zd v6 1),(zd v6 2)])
 )
 ) fun o=>nx o zlh
def zlj (v2:List V):M Out :=
 zb (za (zy .sub (zd v2 1) (Value.int .i64 4))) fun x21 =>
 zb (za (maxV x21 (Value.int .i64 0))) fun x22 =>
 zb (
 zb (za (zy .sub (zd v2 2) (Value.int .i64 1))) fun x24 =>
 zb (
 zbg zby zlf [(zd v2 0),(zd v2 1),x24,x22]
 ) fun o=>ret (zz 0 o)
 ) fun o=>nx o zli
def zlk (vs:List V):M Out :=
 zb (za (zy .sub (zd vs 1) (Value.int .i64 1))) fun x12 =>
 zb (za (znu (zd vs 0) x12)) fun x15 =>
 zb (za (cvi .i32 x15)) fun x16 =>
 zb (
 zb (za (zy .lss x16 (Value.int .i32 128))) fun x18 =>
 zn x18 (
 ret (.ret [x16,(Value.int .i64 1)])
 ) (
 ret (.nxt [(zd vs 0),(zd vs 1),x12])
 )
 ) fun o=>nx o zlj
def zmb (x0:V):M V :=
 zb (
 zb (za (zfx x0)) fun x8 =>
 zb (
 zb (za (zy .eql x8 (Value.int .i64 0))) fun x10 =>
 zn x10 (
 ret (.ret [(Value.int .i32 65533),(Value.int .i64 0)])
 ) (
 ret (.nxt [x0,x8])
 )
 ) fun o=>nx o zlk
 ) fun o=>zbl o fun vs=>ret (zbh [(zd vs 0),(zd vs 1)])
def zmc:Hint:=(.seq [] .leaf (.seq [] .leaf (.seq [0,4] (.seq [] .leaf (.cond (.seq [] .leaf .leaf) .leaf)) (.seq [] .leaf (.seq [] .leaf (.seq [0,4,5] (.seq [] .leaf (.cond (.seq [] .leaf .leaf) .leaf)) (.seq [] .leaf (.seq [0,4,5] (.seq [] .leaf (.blk (.loop [0,4,5,6] (.seq [0,4,5,6] (.seq [] .leaf (.cond .leaf .leaf)) (.seq [0,4,5,6] (.blk (.seq [] .leaf (.cond .leaf .leaf))) .leaf))))) (.seq [0,4,5] (.seq [] .leaf (.cond .leaf .leaf)) (.seq [] .leaf (.seq [2,3] (.seq [] .leaf (.cond (.seq [] .leaf .leaf) .leaf)) (.seq [] .leaf .leaf))))))))))))
def zdo:List V→M V:=ap1 zmb
def zmd:zu:=ovr [(zk4,zia),(zdy,zb5)] noC
theorem zme:zq Tryz.prog zfm (zdo):=kn1 (σ:=zmd) (hint:=zmc) (by kernel_rfl) (zf zxa (zf zhr zl)) fun _=>(by kernel_rfl)
def zzs (G_strings_IndexRune:List V→M V) (x0 x1:V):M V :=
 zb (
 zb (G_strings_IndexRune [x0,x1]) fun x7 =>
 zb (za (zy .geq x7 (Value.int .i64 0))) fun x8 =>
 ret (.ret [x8])
 ) fun o=>zbl o fun vs=>ret (zbh [(zd vs 0)])
def zzt:Hint:=(.seq [] .leaf (.seq [] .leaf .leaf))
def zel (G_strings_IndexRune:List V→M V):List V→M V:=ap2 (zzs G_strings_IndexRune)
theorem zo8 {G_strings_IndexRune:List V→M V} (k_strings_IndexRune:zq Tryz.prog zr G_strings_IndexRune):zq Tryz.prog zh6 (zel G_strings_IndexRune):=kn2 (σ:=ovr [(zr,G_strings_IndexRune)] noC) (hint:=zzt) (by kernel_rfl) (zf k_strings_IndexRune zl) fun _ _=>(by kernel_rfl)
def ztk (G_strings_IndexRune:List V→M V) (v4:List V):M Out :=
 zb (za (zfx (zd v4 0))) fun x29 =>
 zb (za (zy .sub x29 (zd v4 2))) fun x31 =>
 zb (za (z7a (zd v4 0) none (some x31))) fun x32 =>
 ret (.nxt [x32,(zd v4 1)])
def ztl (G_strings_IndexRune:List V→M V) (v3:List V):M Out :=
 zb (
 zb ((zel G_strings_IndexRune) [(zd v3 1),(zd v3 2)]) fun x25 =>
 zb (za (un .not x25)) fun x26 =>
 zn x26 (
 ret (.brk 0 [(zd v3 0)])
 ) (
 ret (.nxt [(zd v3 0),(zd v3 1),(zd v3 3)])
 )
 ) fun o=>nx o (ztk G_strings_IndexRune)
def ztm (G_strings_IndexRune:List V→M V) (v2:List V):M Out :=
 zb (
 zb (za (zfx (zd v2 0))) fun x12 =>
 zb (za (zy .sub x12 (Value.int .i64 1))) fun x13 =>
 zb (za (znu (zd v2 0) x13)) fun x14 =>
 zb (za (cvi .i32 x14)) fun x15 =>
 zb (
 zb (za (zy .geq x15 (Value.int .i32 128))) fun x17 =>
 zn x17 (
 zb (zdo [(zd v2 0)]) fun x20 =>
 zb (za (ext 0 x20)) fun x21 =>
 zb (za (ext 1 x20)) fun x22 =>
 ret (.nxt [(zd v2 0),(zd v2 1),x21,x22])
 ) (
 ret (.nxt [(zd v2 0),(zd v2 1),x15,(Value.int .i64 1)])
 )
 ) fun o=>nx o (ztl G_strings_IndexRune)
 ) fun o=>ret (zz 1 o)
def ztn (G_strings_IndexRune:List V→M V) (vs:List V):M Out :=
 zb (
 zb (za (zfx (zd vs 0))) fun x8 =>
 zb (za (zy .gtr x8 (Value.int .i64 0))) fun x9 =>
 zn x9 (
 ret (.nxt [(zd vs 0),(zd vs 1)])
 ) (
 ret (.brk 0 [(zd vs 0)])
 )
 ) fun o=>nx o (ztm G_strings_IndexRune)
def zto (G_strings_IndexRune:List V→M V) (v5:List V):M Out :=
 ret (.ret [(zd v5 0)])
def zuv (G_strings_IndexRune:List V→M V) (x0 x1:V):M V :=
 zb (
 zb (
 zb (
 zbg zby (ztn G_strings_IndexRune) [x0,x1]
 ) fun o=>ret (zz 0 o)
 ) fun o=>nx o (zto G_strings_IndexRune)
 ) fun o=>zbl o fun vs=>ret (zbh [(zd vs 0)])
def zuw:Hint:=(.seq [] .leaf (.seq [0] (.blk (.loop [0,1] (.seq [0,1] (.seq [] .leaf (.cond .leaf .leaf)) (.blk (.seq [] .leaf (.seq [0,1,5,6] (.seq [] .leaf (.cond .leaf .leaf)) (.seq [0,1,6] (.seq [] .leaf (.cond .leaf .leaf)) .leaf))))))) (.seq [] .leaf .leaf)))
def zhe (G_strings_IndexRune:List V→M V):List V→M V:=ap2 (zuv G_strings_IndexRune)
theorem zux {G_strings_IndexRune:List V→M V} (k_strings_IndexRune:zq Tryz.prog zr G_strings_IndexRune):zq Tryz.prog zjt (zhe G_strings_IndexRune):=kn2 (σ:=ovr [(zfm,zdo),(zh6,zel G_strings_IndexRune)] noC) (hint:=zuw) (by kernel_rfl) (zf zme (zf (zo8 k_strings_IndexRune) zl)) fun _ _=>(by kernel_rfl)
def zuy (G_strings_IndexRune:List V→M V) (v3:List V):M Out :=
 zb (za (z7a (zd v3 0) (some (zd v3 2)) none)) fun x21 =>
 ret (.nxt [x21,(zd v3 1)])
def zuz (G_strings_IndexRune:List V→M V) (v2:List V):M Out :=
 zb (
 zb (zb5 [(zd v2 0)]) fun x12 =>
 zb (za (ext 0 x12)) fun x13 =>
 zb (za (ext 1 x12)) fun x14 =>
 zb (
 zb ((zel G_strings_IndexRune) [(zd v2 1),x13]) fun x17 =>
 zb (za (un .not x17)) fun x18 =>
 zn x18 (
 ret (.brk 0 [(zd v2 0)])
 ) (
 ret (.nxt [(zd v2 0),(zd v2 1),x14])
 )
 ) fun o=>nx o (zuy G_strings_IndexRune)
 ) fun o=>ret (zz 1 o)
def zu0 (G_strings_IndexRune:List V→M V) (vs:List V):M Out :=
 zb (
 zb (za (zfx (zd vs 0))) fun x8 =>
 zb (za (zy .gtr x8 (Value.int .i64 0))) fun x9 =>
 zn x9 (
 ret (.nxt [(zd vs 0),(zd vs 1)])
 ) (
 ret (.brk 0 [(zd vs 0)])
 )
 ) fun o=>nx o (zuz G_strings_IndexRune)
def zu1 (G_strings_IndexRune:List V→M V) (v4:List V):M Out :=
 ret (.ret [(zd v4 0)])
def zv3 (G_strings_IndexRune:List V→M V) (x0 x1:V):M V :=
 zb (
 zb (
 zb (
 zbg zby (zu0 G_strings_IndexRune) [x0,x1]
 ) fun o=>ret (zz 0 o)
 ) fun o=>nx o (zu1 G_strings_IndexRune)
 ) fun o=>zbl o fun vs=>ret (zbh [(zd vs 0)])
def zv4:Hint:=(.seq [] .leaf (.seq [0] (.blk (.loop [0,1] (.seq [0,1] (.seq [] .leaf (.cond .leaf .leaf)) (.blk (.seq [] .leaf (.seq [0,1,6] (.seq [] .leaf (.cond .leaf .leaf)) .leaf)))))) (.seq [] .leaf .leaf)))
def zhv (G_strings_IndexRune:List V→M V):List V→M V:=ap2 (zv3 G_strings_IndexRune)
theorem zv5 {G_strings_IndexRune:List V→M V} (k_strings_IndexRune:zq Tryz.prog zr G_strings_IndexRune):zq Tryz.prog zkm (zhv G_strings_IndexRune):=kn2 (σ:=ovr [(zdy,zb5),(zh6,zel G_strings_IndexRune)] noC) (hint:=zv4) (by kernel_rfl) (zf zhr (zf (zo8 k_strings_IndexRune) zl)) fun _ _=>(by kernel_rfl)
def zbbj (G_strings_IndexRune:List V→M V) (v3:List V):M Out :=
 zb ((zhe G_strings_IndexRune) [(zd v3 0),(zd v3 1)]) fun x40 =>
 zb ((zhv G_strings_IndexRune) [x40,(zd v3 1)]) fun x42 =>
 ret (.ret [x42])
def z0t (G_strings_IndexRune:List V→M V) (v2:List V):M Out :=
 zb (
 zb (zgo [(zd v2 1)]) fun x31 =>
 zb (za (ext 0 x31)) fun x32 =>
 zb (za (ext 1 x31)) fun x33 =>
 zb (newc (List.replicate 256 (Value.bool false))) fun x5 =>
 zb (stn 256 x5 x32) fun _ =>
 zn x33 (
 zb (zfr [(zd v2 0),x5]) fun x36 =>
 zb (zf6 [x36,x5]) fun x37 =>
 ret (.ret [x37])
 ) (
 ret (.nxt [(zd v2 0),(zd v2 1)])
 )
 ) fun o=>nx o (zbbj G_strings_IndexRune)
def z0u (G_strings_IndexRune:List V→M V) (vs:List V):M Out :=
 zb (
 zb (za (zfx (zd vs 1))) fun x15 =>
 zb (za (zy .eql x15 (Value.int .i64 1))) fun x16 =>
 zb (gd x16 true (za (some (zd vs 1)))) fun x18 =>
 zb (gd x16 true (za (znu x18 (Value.int .i64 0)))) fun x19 =>
 zb (gd x16 true (za (zy .lss x19 (Value.int .u8 128)))) fun x20 =>
 zb (za (zbb x16 x20 (Value.bool false))) fun x21 =>
 zn x21 (
 zb (za (znu (zd vs 1) (Value.int .i64 0))) fun x24 =>
 zb (za (znu (zd vs 1) (Value.int .i64 0))) fun x27 =>
 zb (ziw [(zd vs 0),x24]) fun x25 =>
 zb (zjj [x25,x27]) fun x28 =>
 ret (.ret [x28])
 ) (
 ret (.nxt [(zd vs 0),(zd vs 1)])
 )
 ) fun o=>nx o (z0t G_strings_IndexRune)
def zo9 (G_strings_IndexRune:List V→M V) (x0 x1:V):M V :=
 zb (
 zb (
 zb (za (zy .eql x0 (Value.string ⟨#[]⟩))) fun x8 =>
 zb (gd x8 false (za (some x1))) fun x10 =>
 zb (gd x8 false (za (zy .eql x10 (Value.string ⟨#[]⟩)))) fun x11 =>
 zb (za (zbb x8 (Value.bool true) x11)) fun x12 =>
 zn x12 (
 ret (.ret [x0])
 ) (
 ret (.nxt [x0,x1])
 )
 ) fun o=>nx o (z0u G_strings_IndexRune)
 ) fun o=>zbl o fun vs=>ret (zbh [(zd vs 0)])
def zbc6:Hint:=(.seq [] .leaf (.seq [0,1] (.seq [] .leaf (.cond (.seq [] .leaf .leaf) .leaf)) (.seq [0,1] (.seq [] .leaf (.cond (.seq [] (.reg [0,1,2,4,5,3,6,7] []) .leaf) .leaf)) (.seq [0,1] (.seq [] .leaf (.seq [] .leaf (.cond (.seq [] .leaf .leaf) .leaf))) (.seq [] .leaf .leaf)))))
def zf1 (G_strings_IndexRune:List V→M V):List V→M V:=ap2 (zo9 G_strings_IndexRune)
theorem zu2 {G_strings_IndexRune:List V→M V} (k_strings_IndexRune:zq Tryz.prog zr G_strings_IndexRune):zq Tryz.prog zl6 (zf1 G_strings_IndexRune):=kn2 (σ:=ovr [(zmo,ziw),(znc,zjj),(znd,zgo),(zk2,zfr),(zmp,zf6),(zjt,zhe G_strings_IndexRune),(zkm,zhv G_strings_IndexRune)] noC) (hint:=zbc6) (by kernel_rfl) (zf zyk (zf zzp (zf zzr (zf zw7 (zf zyq (zf (zux k_strings_IndexRune) (zf (zv5 k_strings_IndexRune) zl))))))) fun _ _=>(by kernel_rfl)
def zu3 (G_strings_IndexRune:List V→M V) (G_strconv_Atoi:List V→M V) (vs:List V):M Out :=
 zb (G_strconv_Atoi [(zd vs 0)]) fun x30 =>
 zb (za (ext 0 x30)) fun x31 =>
 zb (za (ext 1 x30)) fun x32 =>
 zb (za (zcz false (zd9 .i x32))) fun x35 =>
 zb (gd x35 true (za (some x31))) fun x37 =>
 zb (gd x35 true (za (zy .leq x37 (Value.int .i64 1000000000)))) fun x38 =>
 zb (za (zbb x35 x38 (Value.bool false))) fun x39 =>
 ret (.ret [x31,x39])
def zng (G_strings_IndexRune:List V→M V) (G_strconv_Atoi:List V→M V) (x0:V):M V :=
 zb (
 zb (
 zb (za (zy .eql x0 (Value.string ⟨#[]⟩))) fun x7 =>
 zb (gd x7 false (za (some x0))) fun x9 =>
 zb (gd x7 false (za (zfx x9))) fun x10 =>
 zb (gd x7 false (za (zy .gtr x10 (Value.int .i64 10)))) fun x11 =>
 zb (za (zbb x7 (Value.bool true) x11)) fun x12 =>
 zb (gd x12 false (za (some x0))) fun x14 =>
 zb (gd x12 false ((zf1 G_strings_IndexRune) [x14,(Value.string ⟨#[48,49,50,51,52,53,54,55,56,57]⟩)])) fun x15 =>
 zb (gd x12 false (za (zy .neq x15 (Value.string ⟨#[]⟩)))) fun x16 =>
 zb (za (zbb x12 (Value.bool true) x16)) fun x17 =>
 zb (gd x17 false (za (some x0))) fun x19 =>
 zb (gd x17 false (za (zfx x19))) fun x20 =>
 zb (gd x17 false (za (zy .gtr x20 (Value.int .i64 1)))) fun x21 =>
 zb (gd x17 false (za (some x21))) fun x22 =>
 zb (gd x22 true (za (some x0))) fun x23 =>
 zb (gd x22 true (za (znu x23 (Value.int .i64 0)))) fun x24 =>
 zb (gd x22 true (za (zy .eql x24 (Value.int .u8 48)))) fun x25 =>
 zb (gd x17 false (za (zbb x22 x25 (Value.bool false)))) fun x26 =>
 zb (za (zbb x17 (Value.bool true) x26)) fun x27 =>
 zn x27 (
 ret (.ret [(Value.int .i64 0),(Value.bool false)])
 ) (
 ret (.nxt [x0])
 )
 ) fun o=>nx o (zu3 G_strings_IndexRune G_strconv_Atoi)
 ) fun o=>zbl o fun vs=>ret (zbh [(zd vs 0),(zd vs 1)])
def zbe2:Hint:=(.seq [] .leaf (.seq [0] (.seq [] .leaf (.cond (.seq [] .leaf .leaf) .leaf)) (.seq [] .leaf (.seq [] .leaf .leaf))))
def zgy (G_strings_IndexRune:List V→M V) (G_strconv_Atoi:List V→M V):List V→M V:=ap1 (zng G_strings_IndexRune G_strconv_Atoi)
theorem zxb {G_strings_IndexRune:List V→M V} {G_strconv_Atoi:List V→M V} (k_strings_IndexRune:zq Tryz.prog zr G_strings_IndexRune) (k_strconv_Atoi:zq Tryz.prog zbi G_strconv_Atoi):zq Tryz.prog znr (zgy G_strings_IndexRune G_strconv_Atoi):=kn1 (σ:=ovr [(zl6,zf1 G_strings_IndexRune),(zbi,G_strconv_Atoi)] noC) (hint:=zbe2) (by kernel_rfl) (zf (zu2 k_strings_IndexRune) (zf k_strconv_Atoi zl)) fun _=>(by kernel_rfl)
def z0v (G_strings_IndexRune:List V→M V) (G_strconv_Atoi:List V→M V) (v3:List V):M Out :=
 zb (zd2 1 1 (rep 1 [Value.int .i64 0]) [(0,1,(zd v3 2))]) fun x26 =>
 zb (zgm 1 8 (zd v3 1) x26) fun x27 =>
 ret (.nxt [(zd v3 0),x27,(zd v3 3),(zd v3 4),(zd v3 5)])
def z0w (G_strings_IndexRune:List V→M V) (G_strconv_Atoi:List V→M V) (v4:List V):M Out :=
 zb (za (zy .add (zd v4 4) (Value.int .i64 1))) fun x28 =>
 ret (.nxt [(zd v4 0),(zd v4 1),(zd v4 2),(zd v4 3),x28])
def z0x (G_strings_IndexRune:List V→M V) (G_strconv_Atoi:List V→M V) (v2:List V):M Out :=
 zb (
 zb (
 zb (za (zx 1 (zd v2 2) (zd v2 4))) fun x15 =>
 zb (z8 x15) fun x16 =>
 zb ((zgy G_strings_IndexRune G_strconv_Atoi) [x16]) fun x19 =>
 zb (za (ext 0 x19)) fun x20 =>
 zb (za (ext 1 x19)) fun x21 =>
 zb (
 zb (za (un .not x21)) fun x23 =>
 zn x23 (
 ret (.ret [(Value.slice none 0 0),(Value.bool false)])
 ) (
 ret (.nxt [(zd v2 0),(zd v2 1),x20,(zd v2 2),(zd v2 3),(zd v2 4)])
 )
 ) fun o=>nx o (z0v G_strings_IndexRune G_strconv_Atoi)
 ) fun o=>ret (zz 1 o)
 ) fun o=>nx o (z0w G_strings_IndexRune G_strconv_Atoi)
def zns (G_strings_IndexRune:List V→M V) (G_strconv_Atoi:List V→M V) (vs:List V):M Out :=
 zb (za (zy .lss (zd vs 4) (zd vs 3))) fun x14 =>
 zb (
 zn x14 (
 ret (.nxt [(zd vs 0),(zd vs 1),(zd vs 2),(zd vs 3),(zd vs 4)])
 ) (
 ret (.brk 0 [(zd vs 0),(zd vs 1)])
 )
 ) fun o=>nx o (z0x G_strings_IndexRune G_strconv_Atoi)
def zsk (G_strings_IndexRune:List V→M V) (G_strconv_Atoi:List V→M V) (v5:List V):M Out :=
 zb (za (zv (zd v5 1))) fun x31 =>
 zb (za (zy .eql x31 (zd v5 0))) fun x33 =>
 ret (.ret [(zd v5 1),x33])
def zu4 (G_strings_IndexRune:List V→M V) (G_strconv_Atoi:List V→M V) (x0 x1:V):M V :=
 zb (
 zb (
 zb (za (zv x0)) fun x12 =>
 zb (
 zbg zby (zns G_strings_IndexRune G_strconv_Atoi) [x1,(Value.slice none 0 0),x0,x12,(Value.int .i64 0)]
 ) fun o=>ret (zz 0 o)
 ) fun o=>nx o (zsk G_strings_IndexRune G_strconv_Atoi)
 ) fun o=>zbl o fun vs=>ret (zbh [(zd vs 0),(zd vs 1)])
def zbc7:Hint:=(.seq [] .leaf (.seq [] .leaf (.seq [1,6] (.seq [] .leaf (.blk (.loop [1,6,11,12,13] (.seq [] .leaf (.seq [1,6,11,12,13] (.cond .leaf .leaf) (.seq [1,6,11,12,13] (.blk (.seq [] .leaf (.seq [] .leaf (.seq [1,6,9,11,12,13] (.seq [] .leaf (.cond (.seq [] .leaf .leaf) .leaf)) .leaf)))) .leaf)))))) (.seq [] .leaf .leaf))))
def zcv (G_strings_IndexRune:List V→M V) (G_strconv_Atoi:List V→M V):List V→M V:=ap2 (zu4 G_strings_IndexRune G_strconv_Atoi)
theorem zll {G_strings_IndexRune:List V→M V} {G_strconv_Atoi:List V→M V} (k_strings_IndexRune:zq Tryz.prog zr G_strings_IndexRune) (k_strconv_Atoi:zq Tryz.prog zbi G_strconv_Atoi):zq Tryz.prog zg5 (zcv G_strings_IndexRune G_strconv_Atoi):=kn2 (σ:=ovr [(znr,zgy G_strings_IndexRune G_strconv_Atoi)] noC) (hint:=zbc7) (by kernel_rfl) (zf (zxb k_strings_IndexRune k_strconv_Atoi) zl) fun _ _=>(by kernel_rfl)
def zka (G_strings_IndexRune:List V→M V) (G_strconv_Atoi:List V→M V) (v2:List V):M Out :=
 zm9 fun h0 =>
 zb (za (zci (zd v2 0))) fun x50 =>
 zb (za (zg 9 x50)) fun x51 =>
 zb (za (zx 1 (zd v2 1) (Value.int .i64 0))) fun x54 =>
 zb (z8 x51) fun x52 =>
 zb (z8 x54) fun x55 =>
 zc9 (zd2 1 1 (rep 1 [Value.string ⟨#[]⟩]) [(0,1,x55)]) fun ha x56 h1 =>
 zc9 (zgm 1 16 x52 x56) fun ha_2 x57 h2 =>
 zb (za (zci (zd v2 0))) fun x58 =>
 zb (za (zg 9 x58)) fun x59 =>
 zc9 (st1 x59 x57) fun ha_3 u h3 =>
 zjs (chk (z8 x51) h1 x52) <|
 ret (.ret [(Value.bool true)])
def zhj (G_strings_IndexRune:List V→M V) (G_strconv_Atoi:List V→M V) (vs:List V):M Out :=
 zb (
 zb (za (zx 1 (zd vs 1) (Value.int .i64 0))) fun x16 =>
 zb (z8 x16) fun x17 =>
 zb (
 zb (za (zy .eql x17 (Value.string ⟨#[109,105,108,108,105,115]⟩))) fun x19 =>
 zn x19 (
 zb (za (zx 1 (zd vs 2) (Value.int .i64 0))) fun x22 =>
 zb (z8 x22) fun x23 =>
 zb (za (zci (zd vs 0))) fun x24 =>
 zb (za (zg 0 x24)) fun x25 =>
 zb (za (zg 0 x25)) fun x26 =>
 zb (za (zg 6 x26)) fun x27 =>
 zb (st1 x27 x23) fun _ =>
 ret (.nxt [(zd vs 0),(zd vs 1)])
 ) (
 zb (za (zy .eql x17 (Value.string ⟨#[102,114,97,109,101]⟩))) fun x29 =>
 zn x29 (
 zb (za (zx 1 (zd vs 2) (Value.int .i64 0))) fun x32 =>
 zb (z8 x32) fun x33 =>
 zb (za (zci (zd vs 0))) fun x34 =>
 zb (za (zg 0 x34)) fun x35 =>
 zb (za (zg 0 x35)) fun x36 =>
 zb (za (zg 3 x36)) fun x37 =>
 zb (za (zg 0 x37)) fun x38 =>
 zb (st1 x38 x33) fun _ =>
 ret (.nxt [(zd vs 0),(zd vs 1)])
 ) (
 zb (za (zy .eql x17 (Value.string ⟨#[105,100,108,101]⟩))) fun x40 =>
 zn x40 (
 zb (za (zx 1 (zd vs 2) (Value.int .i64 0))) fun x43 =>
 zb (z8 x43) fun x44 =>
 zb (za (zci (zd vs 0))) fun x45 =>
 zb (za (zg 0 x45)) fun x46 =>
 zb (za (zg 8 x46)) fun x47 =>
 zb (st1 x47 x44) fun _ =>
 ret (.nxt [(zd vs 0),(zd vs 1)])
 ) (
 ret (.nxt [(zd vs 0),(zd vs 1)])
 )
 )
 )
 ) fun o=>ret (zz 0 o)
 ) fun o=>nx o (zka G_strings_IndexRune G_strconv_Atoi)
def zlm (G_strings_IndexRune:List V→M V) (G_strconv_Atoi:List V→M V) (x0 x1:V):M V :=
 zb (
 zb (za (zhs 1 x1 (some (Value.int .i64 1)) none)) fun x9 =>
 zb ((zcv G_strings_IndexRune G_strconv_Atoi) [x9,(Value.int .i64 1)]) fun x10 =>
 zb (za (ext 0 x10)) fun x11 =>
 zb (za (ext 1 x10)) fun x12 =>
 zb (
 zb (za (un .not x12)) fun x14 =>
 zn x14 (
 ret (.ret [(Value.bool false)])
 ) (
 ret (.nxt [x0,x1,x11])
 )
 ) fun o=>nx o (zhj G_strings_IndexRune G_strconv_Atoi)
 ) fun o=>zbl o fun vs=>ret (zbh [(zd vs 0)])
def z19:Hint:=(.seq [] .leaf (.seq [] .leaf (.seq [0,1,5] (.seq [] .leaf (.cond (.seq [] .leaf .leaf) .leaf)) (.seq [0,1] (.seq [] .leaf (.blk (.seq [] .leaf (.cond .leaf (.seq [] .leaf (.cond .leaf (.seq [] .leaf (.cond .leaf .leaf)))))))) (.seq [] (.reg [0,1,2,3,5,6,4,7,8,9,10,11,12] []) (.seq [] .leaf .leaf))))))
def zec (G_strings_IndexRune:List V→M V) (G_strconv_Atoi:List V→M V):List V→M V:=ap2 (zlm G_strings_IndexRune G_strconv_Atoi)
theorem z2a {G_strings_IndexRune:List V→M V} {G_strconv_Atoi:List V→M V} (k_strings_IndexRune:zq Tryz.prog zr G_strings_IndexRune) (k_strconv_Atoi:zq Tryz.prog zbi G_strconv_Atoi):zq Tryz.prog zbm (zec G_strings_IndexRune G_strconv_Atoi):=kn2 (σ:=ovr [(zg5,zcv G_strings_IndexRune G_strconv_Atoi)] noC) (hint:=z19) (by kernel_rfl) (zf (zll k_strings_IndexRune k_strconv_Atoi) zl) fun _ _=>(by kernel_rfl)
def zig (v3:List V):M Out :=
 zb (za (zy .add (zd v3 3) (Value.int .i64 1))) fun x18 =>
 ret (.nxt [(zd v3 0),(zd v3 1),(zd v3 2),x18])
def ze0 (v2:List V):M Out :=
 zb (
 zb (
 zb (za (zx 1 (zd v2 0) (zd v2 3))) fun x14 =>
 zb (z8 x14) fun x15 =>
 zb (za (zy .eql (zd v2 1) x15)) fun x16 =>
 zn x16 (
 ret (.ret [(zd v2 3)])
 ) (
 ret (.nxt [(zd v2 0),(zd v2 1),(zd v2 2),(zd v2 3)])
 )
 ) fun o=>ret (zz 1 o)
 ) fun o=>nx o zig
def zda (vs:List V):M Out :=
 zb (za (zy .lss (zd vs 3) (zd vs 2))) fun x9 =>
 zb (
 zn x9 (
 ret (.nxt [(zd vs 0),(zd vs 1),(zd vs 2),(zd vs 3)])
 ) (
 ret (.brk 0 [])
 )
 ) fun o=>nx o ze0
def zih (v4:List V):M Out :=
 ret (.ret [(Value.int .i64 (-1))])
def zfc (x0 x1:V):M V :=
 zb (
 zb (
 zb (za (zv x0)) fun x7 =>
 zb (
 zbg zby zda [x0,x1,x7,(Value.int .i64 0)]
 ) fun o=>ret (zz 0 o)
 ) fun o=>nx o zih
 ) fun o=>zbl o fun vs=>ret (zbh [(zd vs 0)])
def zqy:Hint:=(.seq [] .leaf (.seq [] (.seq [] .leaf (.blk (.loop [0,1,7,8] (.seq [] .leaf (.seq [0,1,7,8] (.cond .leaf .leaf) (.seq [0,1,7,8] (.blk (.seq [] .leaf (.seq [] .leaf (.cond (.seq [] .leaf .leaf) .leaf)))) .leaf)))))) (.seq [] .leaf .leaf)))
def zbd:List V→M V:=ap2 zfc
theorem zdp:zq Tryz.prog zcd (zbd):=kn2 (σ:=ovr [] noC) (hint:=zqy) (by kernel_rfl) zl fun _ _=>(by kernel_rfl)
def z2b (x0:V):M V :=
 zb (
 zb (za (subA 4 1 (ptr gid_conf_types 0) (some (Value.int .i64 1)) none)) fun x5 =>
 zb (zbd [x5,x0]) fun x7 =>
 zb (za (zy .add x7 (Value.int .i64 1))) fun x8 =>
 zb (za (zy .gtr x8 (Value.int .i64 0))) fun x11 =>
 ret (.ret [x8,x11])
 ) fun o=>zbl o fun vs=>ret (zbh [(zd vs 0),(zd vs 1)])
def zbj4:Hint:=(.seq [] .leaf (.seq [] .leaf (.seq [] .leaf .leaf)))
def zol:List V→M V:=ap1 z2b
def zbj5:zu:=ovr [(zcd,zbd)] noC
theorem zbau:zq Tryz.prog zw1 (zol):=kn1 (σ:=zbj5) (hint:=zbj4) (by kernel_rfl) (zf zdp zl) fun _=>(by kernel_rfl)
def zrz (vs:List V):M Out :=
 zb (za (zx 1 (zd vs 1) (Value.int .i64 1))) fun x12 =>
 zb (z8 x12) fun x13 =>
 zb (zol [x13]) fun x14 =>
 zb (za (ext 0 x14)) fun x15 =>
 zb (za (ext 1 x14)) fun x16 =>
 zm9 fun h0 =>
 zb (za (zci (zd vs 0))) fun x19 =>
 zb (za (zg 0 x19)) fun x20 =>
 zb (za (zg 0 x20)) fun x21 =>
 zb (za (zg 0 x21)) fun x22 =>
 zb (za (zx 1 (zd vs 1) (Value.int .i64 0))) fun x26 =>
 zb (z8 x22) fun x23 =>
 zb (z8 x26) fun x27 =>
 zb (za (zy .eql x27 (Value.string ⟨#[111,117,116]⟩))) fun x28 =>
 zb (za (build [Value.int .i64 0,Value.bool false] [(0,1,x15),(1,1,x28)])) fun x29 =>
 zc9 (zd2 2 1 (rep 1 [Value.int .i64 0,Value.bool false]) [(0,2,x29)]) fun ha x30 h1 =>
 zc9 (zgm 2 16 x23 x30) fun ha_2 x31 h2 =>
 zb (za (zci (zd vs 0))) fun x32 =>
 zb (za (zg 0 x32)) fun x33 =>
 zb (za (zg 0 x33)) fun x34 =>
 zb (za (zg 0 x34)) fun x35 =>
 zc9 (st1 x35 x31) fun ha_3 u h3 =>
 zjs (chk (z8 x22) h1 x23) <|
 ret (.ret [x16])
def zil (x0 x1:V):M V :=
 zb (
 zb (
 zb (za (zv x1)) fun x8 =>
 zb (za (zy .neq x8 (Value.int .i64 2))) fun x9 =>
 zn x9 (
 ret (.ret [(Value.bool false)])
 ) (
 ret (.nxt [x0,x1])
 )
 ) fun o=>nx o zrz
 ) fun o=>zbl o fun vs=>ret (zbh [(zd vs 0)])
def z4d:Hint:=(.seq [] .leaf (.seq [0,1] (.seq [] .leaf (.cond (.seq [] .leaf .leaf) .leaf)) (.seq [] .leaf (.seq [] (.reg [0,1,2,3,4,5,7,8,9,6,10,11,12,13,14,15,16,17,18,19] []) (.seq [] .leaf .leaf)))))
def zes:List V→M V:=ap2 zil
def z4e:zu:=ovr [(zw1,zol)] noC
theorem z4f:zq Tryz.prog zb0 (zes):=kn2 (σ:=z4e) (hint:=z4d) (by kernel_rfl) (zf zbau zl) fun _ _=>(by kernel_rfl)
def zln (G_strings_IndexRune:List V→M V) (G_strconv_Atoi:List V→M V) (vs:List V):M Out :=
 ret (.ret [(zd vs 0)])
def zmw (G_strings_IndexRune:List V→M V) (G_strconv_Atoi:List V→M V) (x0 x1:V):M V :=
 zb (
 zb (za (zhs 1 x1 (some (Value.int .i64 1)) none)) fun x9 =>
 zb ((zcv G_strings_IndexRune G_strconv_Atoi) [x9,(Value.int .i64 2)]) fun x10 =>
 zb (za (ext 0 x10)) fun x11 =>
 zb (za (ext 1 x10)) fun x12 =>
 zb (
 zn x12 (
 zm9 fun h0 =>
 zb (za (zci x0)) fun x16 =>
 zb (za (zg 0 x16)) fun x17 =>
 zb (za (zg 0 x17)) fun x18 =>
 zb (za (zg 1 x18)) fun x19 =>
 zb (za (zx 1 x11 (Value.int .i64 0))) fun x22 =>
 zb (za (zx 1 x11 (Value.int .i64 1))) fun x25 =>
 zb (za (zx 1 x1 (Value.int .i64 0))) fun x28 =>
 zb (z8 x19) fun x20 =>
 zb (z8 x22) fun x23 =>
 zb (z8 x25) fun x26 =>
 zb (z8 x28) fun x29 =>
 zb (za (zy .eql x29 (Value.string ⟨#[119,114,105,116,101]⟩))) fun x30 =>
 zb (za (build [Value.int .i64 0,Value.int .i64 0,Value.bool false] [(0,1,x23),(1,1,x26),(2,1,x30)])) fun x31 =>
 zc9 (zd2 3 1 (rep 1 [Value.int .i64 0,Value.int .i64 0,Value.bool false]) [(0,3,x31)]) fun ha x32 h1 =>
 zc9 (zgm 3 24 x20 x32) fun ha_2 x33 h2 =>
 zb (za (zci x0)) fun x34 =>
 zb (za (zg 0 x34)) fun x35 =>
 zb (za (zg 0 x35)) fun x36 =>
 zb (za (zg 1 x36)) fun x37 =>
 zc9 (st1 x37 x33) fun ha_3 u h3 =>
 zjs (chk (z8 x19) h1 x20) <|
 ret (.nxt [x12])
 ) (
 ret (.nxt [x12])
 )
 ) fun o=>nx o (zln G_strings_IndexRune G_strconv_Atoi)
 ) fun o=>zbl o fun vs=>ret (zbh [(zd vs 0)])
def z4g:Hint:=(.seq [] .leaf (.seq [] .leaf (.seq [6] (.seq [] .leaf (.cond (.reg [0,1,2,3,4,5,7,8,10,11,13,14,6,9,12,15,16,17,18,19,20,21,22,23,24] []) .leaf)) (.seq [] .leaf .leaf))))
def zet (G_strings_IndexRune:List V→M V) (G_strconv_Atoi:List V→M V):List V→M V:=ap2 (zmw G_strings_IndexRune G_strconv_Atoi)
theorem z4h {G_strings_IndexRune:List V→M V} {G_strconv_Atoi:List V→M V} (k_strings_IndexRune:zq Tryz.prog zr G_strings_IndexRune) (k_strconv_Atoi:zq Tryz.prog zbi G_strconv_Atoi):zq Tryz.prog zb1 (zet G_strings_IndexRune G_strconv_Atoi):=kn2 (σ:=ovr [(zg5,zcv G_strings_IndexRune G_strconv_Atoi)] noC) (hint:=z4g) (by kernel_rfl) (zf (zll k_strings_IndexRune k_strconv_Atoi) zl) fun _ _=>(by kernel_rfl)
def zqz (v2:List V):M Out :=
 ret (.ret [(zd v2 0)])
def zq0 (vs:List V):M Out :=
 zb (
 zb (za (capV (zd vs 0))) fun x10 =>
 zb (za (zv (zd vs 0))) fun x12 =>
 zb (za (zy .sub x10 x12)) fun x13 =>
 zb (za (zy .sub (zd vs 1) x13)) fun x14 =>
 zb (za (zy .gtr x14 (Value.int .i64 0))) fun x16 =>
 zn x16 (
 zb (za (capV (zd vs 0))) fun x19 =>
 zb (za (zhs 1 (zd vs 0) none (some x19))) fun x20 =>
 zb (appZ 1 16 [Value.string ⟨#[]⟩] x20 x14) fun x22 =>
 zb (za (zv (zd vs 0))) fun x24 =>
 zb (za (zhs 1 x22 none (some x24))) fun x25 =>
 ret (.nxt [x25])
 ) (
 ret (.nxt [(zd vs 0)])
 )
 ) fun o=>nx o zqz
def zr0 (x0 x1:V):M V :=
 zb (
 zb (
 zb (za (zy .lss x1 (Value.int .i64 0))) fun x6 =>
 zn x6 (
 zb (za (some (Value.iface zct (Value.string ⟨#[99,97,110,110,111,116,32,98,101,32,110,101,103,97,116,105,118,101]⟩)))) fun x7 =>
 zb (za ((none:Option V))) fun _ =>
 ret (.nxt [x0,x1])
 ) (
 ret (.nxt [x0,x1])
 )
 ) fun o=>nx o zq0
 ) fun o=>zbl o fun vs=>ret (zbh [(zd vs 0)])
def zr1:Hint:=(.seq [] .leaf (.seq [0,1] (.seq [] .leaf (.cond .leaf .leaf)) (.seq [0] (.seq [] .leaf (.seq [] .leaf (.cond .leaf .leaf))) (.seq [] .leaf .leaf))))
def zf2:List V→M V:=ap2 zr0
theorem zr2:zq Tryz.prog zif (zf2):=kn2 (σ:=ovr [] noC) (hint:=zr1) (by kernel_rfl) zl fun _ _=>(by kernel_rfl)
def zpa (v3:List V):M Out :=
 zb (za (zy .add (zd v3 4) (Value.int .i64 1))) fun x22 =>
 ret (.nxt [(zd v3 0),(zd v3 1),(zd v3 2),(zd v3 3),x22])
def zpb (v2:List V):M Out :=
 zb (
 zb (
 zb (za (zx 1 (zd v2 2) (zd v2 4))) fun x13 =>
 zb (z8 x13) fun x14 =>
 zb (za (zv x14)) fun x17 =>
 zb (za (zy .add (zd v2 1) x17)) fun x18 =>
 zb (za (zy .lss x18 (Value.int .i64 0))) fun x20 =>
 zn x20 (
 zb (za (some (Value.iface zct (Value.string ⟨#[108,101,110,32,111,117,116,32,111,102,32,114,97,110,103,101]⟩)))) fun x21 =>
 zb (za ((none:Option V))) fun _ =>
 ret (.nxt [(zd v2 0),x18,(zd v2 2),(zd v2 3),(zd v2 4)])
 ) (
 ret (.nxt [(zd v2 0),x18,(zd v2 2),(zd v2 3),(zd v2 4)])
 )
 ) fun o=>ret (zz 1 o)
 ) fun o=>nx o zpa
def zpc (vs:List V):M Out :=
 zb (za (zy .lss (zd vs 4) (zd vs 3))) fun x12 =>
 zb (
 zn x12 (
 ret (.nxt [(zd vs 0),(zd vs 1),(zd vs 2),(zd vs 3),(zd vs 4)])
 ) (
 ret (.brk 0 [(zd vs 0),(zd vs 1)])
 )
 ) fun o=>nx o zpb
def zpd (v7:List V):M Out :=
 zb (za (zy .add (zd v7 3) (Value.int .i64 1))) fun x34 =>
 ret (.nxt [(zd v7 0),(zd v7 1),(zd v7 2),x34])
def zpe (v6:List V):M Out :=
 zb (
 zb (
 zb (za (zx 1 (zd v6 1) (zd v6 3))) fun x29 =>
 zb (z8 x29) fun x30 =>
 zb (zgm 1 16 (zd v6 0) x30) fun x33 =>
 ret (.nxt [x33,(zd v6 1),(zd v6 2),(zd v6 3)])
 ) fun o=>ret (zz 3 o)
 ) fun o=>nx o zpd
def zpf (v5:List V):M Out :=
 zb (za (zy .lss (zd v5 3) (zd v5 2))) fun x28 =>
 zb (
 zn x28 (
 ret (.nxt [(zd v5 0),(zd v5 1),(zd v5 2),(zd v5 3)])
 ) (
 ret (.brk 2 [(zd v5 0)])
 )
 ) fun o=>nx o zpe
def zpg (v8:List V):M Out :=
 ret (.ret [(zd v8 0)])
def zph (v4:List V):M Out :=
 zb (zf2 [(Value.slice none 0 0),(zd v4 1)]) fun x24 =>
 zb (
 zb (za (zv (zd v4 0))) fun x26 =>
 zb (
 zbg zby zpf [x24,(zd v4 0),x26,(Value.int .i64 0)]
 ) fun o=>ret (zz 2 o)
 ) fun o=>nx o zpg
def zqk (x0:V):M V :=
 zb (
 zb (
 zb (za (zv x0)) fun x10 =>
 zb (
 zbg zby zpc [x0,(Value.int .i64 0),x0,x10,(Value.int .i64 0)]
 ) fun o=>ret (zz 0 o)
 ) fun o=>nx o zph
 ) fun o=>zbl o fun vs=>ret (zbh [(zd vs 0)])
def zql:Hint:=(.seq [] .leaf (.seq [] .leaf (.seq [0,3] (.seq [] .leaf (.blk (.loop [0,3,9,10,11] (.seq [] .leaf (.seq [0,3,9,10,11] (.cond .leaf .leaf) (.seq [0,3,9,10,11] (.blk (.seq [] .leaf (.seq [] .leaf (.seq [] .leaf (.cond .leaf .leaf))))) .leaf)))))) (.seq [] .leaf (.seq [6] (.seq [] .leaf (.blk (.loop [6,25,26,27] (.seq [] .leaf (.seq [6,25,26,27] (.cond .leaf .leaf) (.seq [6,25,26,27] (.blk (.seq [] .leaf .leaf)) .leaf)))))) (.seq [] .leaf .leaf))))))
def zdb:List V→M V:=ap1 zqk
def zqm:zu:=ovr [(zif,zf2)] noC
theorem zqn:zq Tryz.prog zhp (zdb):=kn1 (σ:=zqm) (hint:=zql) (by kernel_rfl) (zf zr2 zl) fun _=>(by kernel_rfl)
def zmx (G_strings_IndexRune:List V→M V) (G_strconv_Atoi:List V→M V) (v4:List V):M Out :=
 zm9 fun h0_2 =>
 zb (za (zci (zd v4 0))) fun x65 =>
 zb (za (zg 0 x65)) fun x66 =>
 zb (za (zg 0 x66)) fun x67 =>
 zb (za (zg 2 x67)) fun x68 =>
 zb (z8 x68) fun x69 =>
 zb (ldn 5 (zd v4 1)) fun x70 =>
 zc9 (zd2 5 1 (rep 1 [Value.int .i64 0,Value.int .i64 0,Value.int .i64 0,Value.int .i64 0,Value.int .i64 0]) [(0,5,x70)]) fun ha_4 x71 h1_2 =>
 zc9 (zgm 5 40 x69 x71) fun ha_5 x72 h2_2 =>
 zb (za (zci (zd v4 0))) fun x73 =>
 zb (za (zg 0 x73)) fun x74 =>
 zb (za (zg 0 x74)) fun x75 =>
 zb (za (zg 2 x75)) fun x76 =>
 zc9 (st1 x76 x72) fun ha_6 u_4 h3_2 =>
 zjs (chk (z8 x68) h1_2 x69) <|
 ret (.ret [(Value.bool true)])
def zsz (G_strings_IndexRune:List V→M V) (G_strconv_Atoi:List V→M V) (v3:List V):M Out :=
 zm9 fun h0 =>
 zb (za (zx 1 (zd v3 3) (Value.int .i64 0))) fun x47 =>
 zb (za (zx 1 (zd v3 3) (Value.int .i64 1))) fun x50 =>
 zb (z8 x47) fun x48 =>
 zb (za (zg 1 (zd v3 1))) fun x53 =>
 zb (z8 x50) fun x51 =>
 zc9 (st1 x53 x48) fun ha u h1 =>
 zb (za (zg 2 (zd v3 1))) fun x54 =>
 zc9 (st1 x54 x51) fun ha_2 u_2 h2 =>
 zb (za (zg 3 (zd v3 1))) fun x55 =>
 zc9 (st1 x55 (zd v3 2)) fun ha_3 u_3 h3 =>
 zjs (chk (z8 x50) h1 x51) <|
 zb (
 zb (za (zv (zd v3 3))) fun x57 =>
 zb (za (zy .eql x57 (Value.int .i64 3))) fun x58 =>
 zn x58 (
 zb (za (zx 1 (zd v3 3) (Value.int .i64 2))) fun x60 =>
 zb (z8 x60) fun x61 =>
 zb (za (zg 4 (zd v3 1))) fun x62 =>
 zb (st1 x62 x61) fun _ =>
 ret (.nxt [(zd v3 0),(zd v3 1)])
 ) (
 ret (.nxt [(zd v3 0),(zd v3 1)])
 )
 ) fun o=>nx o (zmx G_strings_IndexRune G_strconv_Atoi)
def zs0 (G_strings_IndexRune:List V→M V) (G_strconv_Atoi:List V→M V) (v2:List V):M Out :=
 zb (za (zx 1 (zd v2 1) (Value.int .i64 3))) fun x23 =>
 zb (z8 x23) fun x24 =>
 zb (zol [x24]) fun x25 =>
 zb (za (ext 0 x25)) fun x26 =>
 zb (za (ext 1 x25)) fun x27 =>
 zb (za (zhs 1 (zd v2 1) (some (Value.int .i64 1)) (some (Value.int .i64 3)))) fun x30 =>
 zb (za (zhs 1 (zd v2 1) (some (Value.int .i64 4)) none)) fun x32 =>
 zb (za (zy .sub (zd v2 3) (Value.int .i64 2))) fun x36 =>
 zb (zd2 1 2 (rep 2 [Value.slice none 0 0]) [(0,1,x30),(1,1,x32)]) fun x33 =>
 zb (zdb [x33]) fun x34 =>
 zb ((zcv G_strings_IndexRune G_strconv_Atoi) [x34,x36]) fun x37 =>
 zb (za (ext 0 x37)) fun x38 =>
 zb (za (ext 1 x37)) fun x39 =>
 zb (
 zb (za (un .not x39)) fun x41 =>
 zb (gd x41 false (za (some x27))) fun x43 =>
 zb (gd x41 false (za (un .not x43))) fun x44 =>
 zb (za (zbb x41 (Value.bool true) x44)) fun x45 =>
 zn x45 (
 ret (.ret [(Value.bool false)])
 ) (
 ret (.nxt [(zd v2 0),(zd v2 2),x26,x38])
 )
 ) fun o=>nx o (zsz G_strings_IndexRune G_strconv_Atoi)
def zim (G_strings_IndexRune:List V→M V) (G_strconv_Atoi:List V→M V) (vs:List V):M Out :=
 zb (
 zb (za (zv (zd vs 1))) fun x18 =>
 zb (za (zy .neq x18 (zd vs 3))) fun x20 =>
 zn x20 (
 ret (.ret [(Value.bool false)])
 ) (
 ret (.nxt [(zd vs 0),(zd vs 1),(zd vs 2),(zd vs 3)])
 )
 ) fun o=>nx o (zs0 G_strings_IndexRune G_strconv_Atoi)
def zjl (G_strings_IndexRune:List V→M V) (G_strconv_Atoi:List V→M V) (x0 x1:V):M V :=
 zb (
 zb (za (build [Value.int .i64 0,Value.int .i64 0,Value.int .i64 0,Value.int .i64 0,Value.int .i64 0] [(0,1,(Value.int .i64 1))])) fun x11 =>
 zb (newc [Value.int .i64 0,Value.int .i64 0,Value.int .i64 0,Value.int .i64 0,Value.int .i64 0]) fun x5 =>
 zb (stn 5 x5 x11) fun _ =>
 zb (
 zb (za (zx 1 x1 (Value.int .i64 0))) fun x13 =>
 zb (z8 x13) fun x14 =>
 zb (za (zy .eql x14 (Value.string ⟨#[113,117,101,117,101]⟩))) fun x15 =>
 zn x15 (
 zb (za (zg 0 x5)) fun x16 =>
 zb (st1 x16 (Value.int .i64 2)) fun _ =>
 ret (.nxt [x0,x1,x5,(Value.int .i64 5)])
 ) (
 ret (.nxt [x0,x1,x5,(Value.int .i64 4)])
 )
 ) fun o=>nx o (zim G_strings_IndexRune G_strconv_Atoi)
 ) fun o=>zbl o fun vs=>ret (zbh [(zd vs 0)])
def z6b:Hint:=(.seq [] .leaf (.seq [] .leaf (.seq [] .leaf (.seq [0,1,5,6] (.seq [] .leaf (.cond .leaf .leaf)) (.seq [0,1,5,6] (.seq [] .leaf (.cond (.seq [] .leaf .leaf) .leaf)) (.seq [] .leaf (.seq [] (.reg [0,1,2,3,6,7,4,5,8,9,10,11,12,13] []) (.seq [0,5,7,9] (.seq [] .leaf (.cond (.seq [] .leaf .leaf) .leaf)) (.seq [] (.reg [0,1,3,4,6,2,7,5,8,9,10,11,12] []) (.seq [0,5] (.seq [] .leaf (.cond .leaf .leaf)) (.seq [] (.reg [0,1,2,3,4,5,6,7,8,9,10,11,12,13,14] []) (.seq [] .leaf .leaf))))))))))))
def zfd (G_strings_IndexRune:List V→M V) (G_strconv_Atoi:List V→M V):List V→M V:=ap2 (zjl G_strings_IndexRune G_strconv_Atoi)
theorem z6c {G_strings_IndexRune:List V→M V} {G_strconv_Atoi:List V→M V} (k_strings_IndexRune:zq Tryz.prog zr G_strings_IndexRune) (k_strconv_Atoi:zq Tryz.prog zbi G_strconv_Atoi):zq Tryz.prog zcb (zfd G_strings_IndexRune G_strconv_Atoi):=kn2 (σ:=ovr [(zw1,zol),(zhp,zdb),(zg5,zcv G_strings_IndexRune G_strconv_Atoi)] noC) (hint:=z6b) (by kernel_rfl) (zf zbau (zf zqn (zf (zll k_strings_IndexRune k_strconv_Atoi) zl))) fun _ _=>(by kernel_rfl)
def zkb (G_strings_IndexRune:List V→M V) (G_strconv_Atoi:List V→M V) (vs:List V):M Out :=
 ret (.ret [(zd vs 0)])
def zlo (G_strings_IndexRune:List V→M V) (G_strconv_Atoi:List V→M V) (x0 x1:V):M V :=
 zb (
 zb (za (zhs 1 x1 (some (Value.int .i64 1)) none)) fun x9 =>
 zb ((zcv G_strings_IndexRune G_strconv_Atoi) [x9,(Value.int .i64 3)]) fun x10 =>
 zb (za (ext 0 x10)) fun x11 =>
 zb (za (ext 1 x10)) fun x12 =>
 zb (
 zn x12 (
 zm9 fun h0 =>
 zb (za (zci x0)) fun x16 =>
 zb (za (zg 0 x16)) fun x17 =>
 zb (za (zg 0 x17)) fun x18 =>
 zb (za (zg 3 x18)) fun x19 =>
 zb (za (zg 1 x19)) fun x20 =>
 zb (za (zx 1 x11 (Value.int .i64 0))) fun x23 =>
 zb (za (zx 1 x11 (Value.int .i64 1))) fun x26 =>
 zb (za (zx 1 x11 (Value.int .i64 2))) fun x29 =>
 zb (z8 x20) fun x21 =>
 zb (z8 x23) fun x24 =>
 zb (z8 x26) fun x27 =>
 zb (z8 x29) fun x30 =>
 zb (za (build [Value.int .i64 0,Value.int .i64 0,Value.int .i64 0] [(0,1,x24),(1,1,x27),(2,1,x30)])) fun x31 =>
 zc9 (zd2 3 1 (rep 1 [Value.int .i64 0,Value.int .i64 0,Value.int .i64 0]) [(0,3,x31)]) fun ha x32 h1 =>
 zc9 (zgm 3 24 x21 x32) fun ha_2 x33 h2 =>
 zb (za (zci x0)) fun x34 =>
 zb (za (zg 0 x34)) fun x35 =>
 zb (za (zg 0 x35)) fun x36 =>
 zb (za (zg 3 x36)) fun x37 =>
 zb (za (zg 1 x37)) fun x38 =>
 zc9 (st1 x38 x33) fun ha_3 u h3 =>
 zjs (chk (z8 x20) h1 x21) <|
 ret (.nxt [x12])
 ) (
 ret (.nxt [x12])
 )
 ) fun o=>nx o (zkb G_strings_IndexRune G_strconv_Atoi)
 ) fun o=>zbl o fun vs=>ret (zbh [(zd vs 0)])
def z2c:Hint:=(.seq [] .leaf (.seq [] .leaf (.seq [6] (.seq [] .leaf (.cond (.reg [0,1,2,3,4,5,6,8,9,11,12,14,15,7,10,13,16,17,18,19,20,21,22,23,24,25] []) .leaf)) (.seq [] .leaf .leaf))))
def zed (G_strings_IndexRune:List V→M V) (G_strconv_Atoi:List V→M V):List V→M V:=ap2 (zlo G_strings_IndexRune G_strconv_Atoi)
theorem z2d {G_strings_IndexRune:List V→M V} {G_strconv_Atoi:List V→M V} (k_strings_IndexRune:zq Tryz.prog zr G_strings_IndexRune) (k_strconv_Atoi:zq Tryz.prog zbi G_strconv_Atoi):zq Tryz.prog zcs (zed G_strings_IndexRune G_strconv_Atoi):=kn2 (σ:=ovr [(zg5,zcv G_strings_IndexRune G_strconv_Atoi)] noC) (hint:=z2c) (by kernel_rfl) (zf (zll k_strings_IndexRune k_strconv_Atoi) zl) fun _ _=>(by kernel_rfl)
def zib (G_strings_IndexRune:List V→M V) (G_strconv_Atoi:List V→M V) (vs:List V):M Out :=
 ret (.ret [(zd vs 0)])
def ziz (G_strings_IndexRune:List V→M V) (G_strconv_Atoi:List V→M V) (x0 x1:V):M V :=
 zb (
 zb (za (zhs 1 x1 (some (Value.int .i64 1)) none)) fun x9 =>
 zb ((zcv G_strings_IndexRune G_strconv_Atoi) [x9,(Value.int .i64 2)]) fun x10 =>
 zb (za (ext 0 x10)) fun x11 =>
 zb (za (ext 1 x10)) fun x12 =>
 zb (
 zn x12 (
 zm9 fun h0 =>
 zb (za (zci x0)) fun x16 =>
 zb (za (zg 0 x16)) fun x17 =>
 zb (za (zg 0 x17)) fun x18 =>
 zb (za (zg 3 x18)) fun x19 =>
 zb (za (zg 1 x19)) fun x20 =>
 zb (za (zx 1 x11 (Value.int .i64 0))) fun x23 =>
 zb (za (zx 1 x11 (Value.int .i64 1))) fun x26 =>
 zb (z8 x20) fun x21 =>
 zb (z8 x23) fun x24 =>
 zb (z8 x26) fun x27 =>
 zb (za (build [Value.int .i64 0,Value.int .i64 0,Value.int .i64 0] [(0,1,(Value.int .i64 (-1))),(1,1,x24),(2,1,x27)])) fun x28 =>
 zc9 (zd2 3 1 (rep 1 [Value.int .i64 0,Value.int .i64 0,Value.int .i64 0]) [(0,3,x28)]) fun ha x29 h1 =>
 zc9 (zgm 3 24 x21 x29) fun ha_2 x30 h2 =>
 zb (za (zci x0)) fun x31 =>
 zb (za (zg 0 x31)) fun x32 =>
 zb (za (zg 0 x32)) fun x33 =>
 zb (za (zg 3 x33)) fun x34 =>
 zb (za (zg 1 x34)) fun x35 =>
 zc9 (st1 x35 x30) fun ha_3 u h3 =>
 zjs (chk (z8 x20) h1 x21) <|
 ret (.nxt [x12])
 ) (
 ret (.nxt [x12])
 )
 ) fun o=>nx o (zib G_strings_IndexRune G_strconv_Atoi)
 ) fun o=>zbl o fun vs=>ret (zbh [(zd vs 0)])
def zyr:Hint:=(.seq [] .leaf (.seq [] .leaf (.seq [6] (.seq [] .leaf (.cond (.reg [0,1,2,3,4,5,6,8,9,11,12,7,10,13,14,15,16,17,18,19,20,21,22] []) .leaf)) (.seq [] .leaf .leaf))))
def zc8 (G_strings_IndexRune:List V→M V) (G_strconv_Atoi:List V→M V):List V→M V:=ap2 (ziz G_strings_IndexRune G_strconv_Atoi)
theorem zys {G_strings_IndexRune:List V→M V} {G_strconv_Atoi:List V→M V} (k_strings_IndexRune:zq Tryz.prog zr G_strings_IndexRune) (k_strconv_Atoi:zq Tryz.prog zbi G_strconv_Atoi):zq Tryz.prog zb8 (zc8 G_strings_IndexRune G_strconv_Atoi):=kn2 (σ:=ovr [(zg5,zcv G_strings_IndexRune G_strconv_Atoi)] noC) (hint:=zyr) (by kernel_rfl) (zf (zll k_strings_IndexRune k_strconv_Atoi) zl) fun _ _=>(by kernel_rfl)
def znx (x0 x1:V):M V :=
 zb (
 zb (za (zci x0)) fun x7 =>
 zb (za (zg 0 x7)) fun x8 =>
 zb (za (zg 0 x8)) fun x9 =>
 zb (za (zg 5 x9)) fun x10 =>
 zb (z8 x10) fun x11 =>
 zb (za (build [Value.slice none 0 0,Value.slice none 0 0] [])) fun x12 =>
 zb (zd2 2 1 (rep 1 [Value.slice none 0 0,Value.slice none 0 0]) [(0,2,x12)]) fun x13 =>
 zb (zgm 2 48 x11 x13) fun x14 =>
 zb (za (zci x0)) fun x15 =>
 zb (za (zg 0 x15)) fun x16 =>
 zb (za (zg 0 x16)) fun x17 =>
 zb (za (zg 5 x17)) fun x18 =>
 zb (st1 x18 x14) fun _ =>
 zb (za (zv x1)) fun x20 =>
 zb (za (zy .eql x20 (Value.int .i64 1))) fun x21 =>
 ret (.ret [x21])
 ) fun o=>zbl o fun vs=>ret (zbh [(zd vs 0)])
def z6d:Hint:=(.seq [] .leaf (.seq [] .leaf (.seq [] .leaf .leaf)))
def zfe:List V→M V:=ap2 znx
theorem z6e:zq Tryz.prog zdd (zfe):=kn2 (σ:=ovr [] noC) (hint:=z6d) (by kernel_rfl) zl fun _ _=>(by kernel_rfl)
def zgk (G_strings_IndexRune:List V→M V) (G_strconv_Atoi:List V→M V) (v2:List V):M Out :=
 zb (gd (zd v2 0) true (za (zg 0 (zd v2 1)))) fun x78 =>
 zb (gd (zd v2 0) true (z8 x78)) fun x79 =>
 zb (gd (zd v2 0) true (za (zy .gtr x79 (Value.int .i64 0)))) fun x80 =>
 zb (za (zbb (zd v2 0) x80 (Value.bool false))) fun x81 =>
 ret (.ret [x81])
def zs1 (G_strings_IndexRune:List V→M V) (G_strconv_Atoi:List V→M V) (vs:List V):M Out :=
 zb (za (zx 1 (zd vs 1) (Value.int .i64 2))) fun x24 =>
 zb (z8 x24) fun x25 =>
 zb ((zgy G_strings_IndexRune G_strconv_Atoi) [x25]) fun x26 =>
 zb (za (ext 0 x26)) fun x27 =>
 zb (za (ext 1 x26)) fun x28 =>
 zb (zd2 1 2 (rep 2 [Value.string ⟨#[]⟩]) [(0,1,(Value.string ⟨#[112,111,105,110,116]⟩)),(1,1,(Value.string ⟨#[112,111,114,116]⟩))]) fun x29 =>
 zb (za (zx 1 (zd vs 1) (Value.int .i64 1))) fun x31 =>
 zb (z8 x31) fun x32 =>
 zb (zbd [x29,x32]) fun x33 =>
 zb (za (zy .add (Value.int .i64 1) x33)) fun x34 =>
 zb (za (build [Value.int .i64 0,Value.int .i64 0] [(0,1,x34),(1,1,x27)])) fun x36 =>
 zb (newc [Value.int .i64 0,Value.int .i64 0]) fun x7 =>
 zb (stn 2 x7 x36) fun _ =>
 zb (za (zci (zd vs 0))) fun x38 =>
 zb (za (zg 0 x38)) fun x39 =>
 zb (za (zg 0 x39)) fun x40 =>
 zb (za (zg 5 x40)) fun x41 =>
 zb (za (zci (zd vs 0))) fun x44 =>
 zb (za (zg 0 x44)) fun x45 =>
 zb (za (zg 0 x45)) fun x46 =>
 zb (za (zg 5 x46)) fun x47 =>
 zb (z8 x41) fun x42 =>
 zb (z8 x47) fun x48 =>
 zb (za (zv x48)) fun x49 =>
 zb (za (zy .sub x49 (Value.int .i64 1))) fun x50 =>
 zb (za (zx 2 x42 x50)) fun x51 =>
 zb (
 zb (za (zx 1 (zd vs 1) (Value.int .i64 0))) fun x53 =>
 zb (z8 x53) fun x54 =>
 zb (za (zy .eql x54 (Value.string ⟨#[103,101,116]⟩))) fun x55 =>
 zn x55 (
 zm9 fun h0 =>
 zb (za (zci x51)) fun x58 =>
 zb (za (zg 0 x58)) fun x59 =>
 zb (z8 x59) fun x60 =>
 zb (ldn 2 x7) fun x61 =>
 zc9 (zd2 2 1 (rep 1 [Value.int .i64 0,Value.int .i64 0]) [(0,2,x61)]) fun ha x62 h1 =>
 zc9 (zgm 2 16 x60 x62) fun ha_2 x63 h2 =>
 zb (za (zci x51)) fun x64 =>
 zb (za (zg 0 x64)) fun x65 =>
 zc9 (st1 x65 x63) fun ha_3 u h3 =>
 zjs (chk (z8 x59) h1 x60) <|
 ret (.nxt [x28,x7])
 ) (
 zm9 fun h0_2 =>
 zb (za (zci x51)) fun x68 =>
 zb (za (zg 1 x68)) fun x69 =>
 zb (z8 x69) fun x70 =>
 zb (ldn 2 x7) fun x71 =>
 zc9 (zd2 2 1 (rep 1 [Value.int .i64 0,Value.int .i64 0]) [(0,2,x71)]) fun ha_4 x72 h1_2 =>
 zc9 (zgm 2 16 x70 x72) fun ha_5 x73 h2_2 =>
 zb (za (zci x51)) fun x74 =>
 zb (za (zg 1 x74)) fun x75 =>
 zc9 (st1 x75 x73) fun ha_6 u_2 h3_2 =>
 zjs (chk (z8 x69) h1_2 x70) <|
 ret (.nxt [x28,x7])
 )
 ) fun o=>nx o (zgk G_strings_IndexRune G_strconv_Atoi)
def zhf (G_strings_IndexRune:List V→M V) (G_strconv_Atoi:List V→M V) (x0 x1:V):M V :=
 zb (
 zb (
 zb (za (zv x1)) fun x10 =>
 zb (za (zy .neq x10 (Value.int .i64 3))) fun x11 =>
 zb (gd x11 false (za (some x0))) fun x13 =>
 zb (gd x11 false (za (zci x13))) fun x14 =>
 zb (gd x11 false (za (zg 0 x14))) fun x15 =>
 zb (gd x11 false (za (zg 0 x15))) fun x16 =>
 zb (gd x11 false (za (zg 5 x16))) fun x17 =>
 zb (gd x11 false (z8 x17)) fun x18 =>
 zb (gd x11 false (za (zv x18))) fun x19 =>
 zb (gd x11 false (za (zy .eql x19 (Value.int .i64 0)))) fun x20 =>
 zb (za (zbb x11 (Value.bool true) x20)) fun x21 =>
 zn x21 (
 ret (.ret [(Value.bool false)])
 ) (
 ret (.nxt [x0,x1])
 )
 ) fun o=>nx o (zs1 G_strings_IndexRune G_strconv_Atoi)
 ) fun o=>zbl o fun vs=>ret (zbh [(zd vs 0)])
def z6f:Hint:=(.seq [] .leaf (.seq [0,1] (.seq [] .leaf (.cond (.seq [] .leaf .leaf) .leaf)) (.seq [] .leaf (.seq [] .leaf (.seq [] (.reg [0,1,2,3,4,6,7,8,9,10,5,11,12,13,14,15] []) (.seq [6,7] (.seq [] .leaf (.cond (.reg [0,1,2,3,4,5,6,7,8,9,10] []) (.reg [0,1,2,3,4,5,6,7,8,9,10] []))) (.seq [] .leaf .leaf)))))))
def zff (G_strings_IndexRune:List V→M V) (G_strconv_Atoi:List V→M V):List V→M V:=ap2 (zhf G_strings_IndexRune G_strconv_Atoi)
theorem z6g {G_strings_IndexRune:List V→M V} {G_strconv_Atoi:List V→M V} (k_strings_IndexRune:zq Tryz.prog zr G_strings_IndexRune) (k_strconv_Atoi:zq Tryz.prog zbi G_strconv_Atoi):zq Tryz.prog zcc (zff G_strings_IndexRune G_strconv_Atoi):=kn2 (σ:=ovr [(znr,zgy G_strings_IndexRune G_strconv_Atoi),(zcd,zbd)] noC) (hint:=z6f) (by kernel_rfl) (zf (zxb k_strings_IndexRune k_strconv_Atoi) (zf zdp zl)) fun _ _=>(by kernel_rfl)
def z4q (G_strings_IndexRune:List V→M V) (G_strings_IndexByte:List V→M V) (v4:List V):M Out :=
 zb (za (zy .add (zd v4 2) (Value.int .i64 2))) fun x20 =>
 ret (.nxt [(zd v4 0),(zd v4 1),x20])
def z4r (G_strings_IndexRune:List V→M V) (G_strings_IndexByte:List V→M V) (v3:List V):M Out :=
 zb (
 zb (
 zb (za (znu (zd v3 0) (zd v3 2))) fun x24 =>
 zb (za (zy .add (zd v3 2) (Value.int .i64 1))) fun x29 =>
 zb (za (znu (zd v3 0) x29)) fun x30 =>
 zb (G_strings_IndexByte [(Value.string ⟨#[48,49,50,51,52,53,54,55,56,57,97,98,99,100,101,102]⟩),x24]) fun x25 =>
 zb (za (zy .shl x25 (Value.int .u64 4))) fun x26 =>
 zb (G_strings_IndexByte [(Value.string ⟨#[48,49,50,51,52,53,54,55,56,57,97,98,99,100,101,102]⟩),x30]) fun x31 =>
 zb (za (zy .or x26 x31)) fun x32 =>
 zb (za (cvi .u8 x32)) fun x33 =>
 zb (zd2 1 1 (rep 1 [Value.int .u8 0]) [(0,1,x33)]) fun x34 =>
 zb (zgm 1 1 (zd v3 1) x34) fun x35 =>
 ret (.nxt [(zd v3 0),x35,(zd v3 2)])
 ) fun o=>ret (zz 1 o)
 ) fun o=>nx o (z4q G_strings_IndexRune G_strings_IndexByte)
def zxc (G_strings_IndexRune:List V→M V) (G_strings_IndexByte:List V→M V) (v2:List V):M Out :=
 zb (
 zb (za (zfx (zd v2 0))) fun x17 =>
 zb (za (zy .lss (zd v2 2) x17)) fun x18 =>
 zn x18 (
 ret (.nxt [(zd v2 0),(zd v2 1),(zd v2 2)])
 ) (
 ret (.brk 0 [(zd v2 1)])
 )
 ) fun o=>nx o (z4r G_strings_IndexRune G_strings_IndexByte)
def z4s (G_strings_IndexRune:List V→M V) (G_strings_IndexByte:List V→M V) (v5:List V):M Out :=
 zb (b2s (zd v5 0)) fun x37 =>
 ret (.ret [x37,(Value.bool true)])
def z4t (G_strings_IndexRune:List V→M V) (G_strings_IndexByte:List V→M V) (vs:List V):M Out :=
 zb (
 zb (
 zbg zby (zxc G_strings_IndexRune G_strings_IndexByte) [(zd vs 0),(Value.slice none 0 0),(Value.int .i64 0)]
 ) fun o=>ret (zz 0 o)
 ) fun o=>nx o (z4s G_strings_IndexRune G_strings_IndexByte)
def ztp (G_strings_IndexRune:List V→M V) (G_strings_IndexByte:List V→M V) (x0:V):M V :=
 zb (
 zb (
 zb (za (zfx x0)) fun x7 =>
 zb (za (zy .rem x7 (Value.int .i64 2))) fun x8 =>
 zb (za (zy .gtr x8 (Value.int .i64 0))) fun x9 =>
 zb (gd x9 false (za (some x0))) fun x11 =>
 zb (gd x9 false ((zf1 G_strings_IndexRune) [x11,(Value.string ⟨#[48,49,50,51,52,53,54,55,56,57,97,98,99,100,101,102]⟩)])) fun x12 =>
 zb (gd x9 false (za (zy .neq x12 (Value.string ⟨#[]⟩)))) fun x13 =>
 zb (za (zbb x9 (Value.bool true) x13)) fun x14 =>
 zn x14 (
 ret (.ret [(Value.string ⟨#[]⟩),(Value.bool false)])
 ) (
 ret (.nxt [x0])
 )
 ) fun o=>nx o (z4t G_strings_IndexRune G_strings_IndexByte)
 ) fun o=>zbl o fun vs=>ret (zbh [(zd vs 0),(zd vs 1)])
def zbhi:Hint:=(.seq [] .leaf (.seq [0] (.seq [] .leaf (.cond (.seq [] .leaf .leaf) .leaf)) (.seq [] .leaf (.seq [4] (.seq [] .leaf (.blk (.loop [0,4,5] (.seq [0,4,5] (.seq [] .leaf (.cond .leaf .leaf)) (.seq [0,4,5] (.blk (.reg [0,1,2,3,6,7,8,9,4,5,10,11,12,13,14,15] [])) .leaf))))) (.seq [] .leaf .leaf)))))
def ztq (G_strings_IndexRune:List V→M V) (G_strings_IndexByte:List V→M V):List V→M V:=ap1 (ztp G_strings_IndexRune G_strings_IndexByte)
theorem zbhj {G_strings_IndexRune:List V→M V} {G_strings_IndexByte:List V→M V} (k_strings_IndexRune:zq Tryz.prog zr G_strings_IndexRune) (k_strings_IndexByte:zq Tryz.prog zbq G_strings_IndexByte):zq Tryz.prog z15 (ztq G_strings_IndexRune G_strings_IndexByte):=kn1 (σ:=ovr [(zl6,zf1 G_strings_IndexRune),(zbq,G_strings_IndexByte)] noC) (hint:=zbhi) (by kernel_rfl) (zf (zu2 k_strings_IndexRune) (zf k_strings_IndexByte zl)) fun _=>(by kernel_rfl)
def zs2 (G_strings_IndexRune:List V→M V) (G_strings_IndexByte:List V→M V) (vs:List V):M Out :=
 zb (za (zx 1 (zd vs 1) (Value.int .i64 2))) fun x12 =>
 zb (z8 x12) fun x13 =>
 zb ((ztq G_strings_IndexRune G_strings_IndexByte) [x13]) fun x14 =>
 zb (za (ext 0 x14)) fun x15 =>
 zb (za (ext 1 x14)) fun x16 =>
 zm9 fun h0 =>
 zb (za (zci (zd vs 0))) fun x19 =>
 zb (za (zg 0 x19)) fun x20 =>
 zb (za (zg 7 x20)) fun x21 =>
 zb (za (zx 1 (zd vs 1) (Value.int .i64 1))) fun x24 =>
 zb (z8 x21) fun x22 =>
 zb (z8 x24) fun x25 =>
 zb (za (build [Value.string ⟨#[]⟩,Value.string ⟨#[]⟩,Value.slice none 0 0] [(0,1,x25),(1,1,x15)])) fun x27 =>
 zc9 (zd2 3 1 (rep 1 [Value.string ⟨#[]⟩,Value.string ⟨#[]⟩,Value.slice none 0 0]) [(0,3,x27)]) fun ha x28 h1 =>
 zc9 (zgm 3 56 x22 x28) fun ha_2 x29 h2 =>
 zb (za (zci (zd vs 0))) fun x30 =>
 zb (za (zg 0 x30)) fun x31 =>
 zb (za (zg 7 x31)) fun x32 =>
 zc9 (st1 x32 x29) fun ha_3 u h3 =>
 zjs (chk (z8 x21) h1 x22) <|
 ret (.ret [x16])
def zjm (G_strings_IndexRune:List V→M V) (G_strings_IndexByte:List V→M V) (x0 x1:V):M V :=
 zb (
 zb (
 zb (za (zv x1)) fun x8 =>
 zb (za (zy .neq x8 (Value.int .i64 3))) fun x9 =>
 zn x9 (
 ret (.ret [(Value.bool false)])
 ) (
 ret (.nxt [x0,x1])
 )
 ) fun o=>nx o (zs2 G_strings_IndexRune G_strings_IndexByte)
 ) fun o=>zbl o fun vs=>ret (zbh [(zd vs 0)])
def z6h:Hint:=(.seq [] .leaf (.seq [0,1] (.seq [] .leaf (.cond (.seq [] .leaf .leaf) .leaf)) (.seq [] .leaf (.seq [] (.reg [0,1,2,3,4,6,7,9,5,8,10,11,12,13,14,15,16] []) (.seq [] .leaf .leaf)))))
def zfg (G_strings_IndexRune:List V→M V) (G_strings_IndexByte:List V→M V):List V→M V:=ap2 (zjm G_strings_IndexRune G_strings_IndexByte)
theorem z6i {G_strings_IndexRune:List V→M V} {G_strings_IndexByte:List V→M V} (k_strings_IndexRune:zq Tryz.prog zr G_strings_IndexRune) (k_strings_IndexByte:zq Tryz.prog zbq G_strings_IndexByte):zq Tryz.prog zde (zfg G_strings_IndexRune G_strings_IndexByte):=kn2 (σ:=ovr [(z15,ztq G_strings_IndexRune G_strings_IndexByte)] noC) (hint:=z6h) (by kernel_rfl) (zf (zbhj k_strings_IndexRune k_strings_IndexByte) zl) fun _ _=>(by kernel_rfl)
def zs3 (G_strings_IndexRune:List V→M V) (G_strconv_Atoi:List V→M V) (vs:List V):M Out :=
 zb (za (zx 1 (zd vs 1) (Value.int .i64 1))) fun x23 =>
 zb (z8 x23) fun x24 =>
 zb ((zgy G_strings_IndexRune G_strconv_Atoi) [x24]) fun x25 =>
 zb (za (ext 0 x25)) fun x26 =>
 zb (za (ext 1 x25)) fun x27 =>
 zb (za (subA 5 1 (ptr gid_conf_levels 0) (some (Value.int .i64 1)) none)) fun x28 =>
 zb (za (zx 1 (zd vs 1) (Value.int .i64 2))) fun x30 =>
 zb (z8 x30) fun x31 =>
 zb (zbd [x28,x31]) fun x32 =>
 zb (za (zy .add x32 (Value.int .i64 1))) fun x33 =>
 zb (za (zci (zd vs 0))) fun x35 =>
 zb (za (zg 0 x35)) fun x36 =>
 zb (za (zg 7 x36)) fun x37 =>
 zb (za (zci (zd vs 0))) fun x40 =>
 zb (za (zg 0 x40)) fun x41 =>
 zb (za (zg 7 x41)) fun x42 =>
 zb (z8 x37) fun x38 =>
 zb (z8 x42) fun x43 =>
 zb (za (zv x43)) fun x44 =>
 zb (za (zy .sub x44 (Value.int .i64 1))) fun x45 =>
 zb (za (zx 3 x38 x45)) fun x46 =>
 zb (za (zci x46)) fun x49 =>
 zb (za (zg 2 x49)) fun x50 =>
 zb (z8 x50) fun x51 =>
 zb (za (build [Value.int .i64 0,Value.int .i64 0] [(0,1,x26),(1,1,x33)])) fun x54 =>
 zb (zd2 2 1 (rep 1 [Value.int .i64 0,Value.int .i64 0]) [(0,2,x54)]) fun x55 =>
 zb (zgm 2 16 x51 x55) fun x56 =>
 zb (za (zci x46)) fun x57 =>
 zb (za (zg 2 x57)) fun x58 =>
 zb (st1 x58 x56) fun _ =>
 zb (gd x27 true (za (some x33))) fun x61 =>
 zb (gd x27 true (za (zy .gtr x61 (Value.int .i64 0)))) fun x62 =>
 zb (za (zbb x27 x62 (Value.bool false))) fun x63 =>
 ret (.ret [x63])
def zhg (G_strings_IndexRune:List V→M V) (G_strconv_Atoi:List V→M V) (x0 x1:V):M V :=
 zb (
 zb (
 zb (za (zv x1)) fun x10 =>
 zb (za (zy .neq x10 (Value.int .i64 3))) fun x11 =>
 zb (gd x11 false (za (some x0))) fun x13 =>
 zb (gd x11 false (za (zci x13))) fun x14 =>
 zb (gd x11 false (za (zg 0 x14))) fun x15 =>
 zb (gd x11 false (za (zg 7 x15))) fun x16 =>
 zb (gd x11 false (z8 x16)) fun x17 =>
 zb (gd x11 false (za (zv x17))) fun x18 =>
 zb (gd x11 false (za (zy .eql x18 (Value.int .i64 0)))) fun x19 =>
 zb (za (zbb x11 (Value.bool true) x19)) fun x20 =>
 zn x20 (
 ret (.ret [(Value.bool false)])
 ) (
 ret (.nxt [x0,x1])
 )
 ) fun o=>nx o (zs3 G_strings_IndexRune G_strconv_Atoi)
 ) fun o=>zbl o fun vs=>ret (zbh [(zd vs 0)])
def z6j:Hint:=(.seq [] .leaf (.seq [0,1] (.seq [] .leaf (.cond (.seq [] .leaf .leaf) .leaf)) (.seq [] .leaf (.seq [] (.reg [0,1,2,3,4,5,6] []) (.seq [] (.reg [0,1,2,3,5,6,7,8,4,9,10,11,12,13] []) (.seq [] .leaf (.seq [] .leaf .leaf)))))))
def zfh (G_strings_IndexRune:List V→M V) (G_strconv_Atoi:List V→M V):List V→M V:=ap2 (zhg G_strings_IndexRune G_strconv_Atoi)
theorem z6k {G_strings_IndexRune:List V→M V} {G_strconv_Atoi:List V→M V} (k_strings_IndexRune:zq Tryz.prog zr G_strings_IndexRune) (k_strconv_Atoi:zq Tryz.prog zbi G_strconv_Atoi):zq Tryz.prog zdf (zfh G_strings_IndexRune G_strconv_Atoi):=kn2 (σ:=ovr [(znr,zgy G_strings_IndexRune G_strconv_Atoi),(zcd,zbd)] noC) (hint:=z6j) (by kernel_rfl) (zf (zxb k_strings_IndexRune k_strconv_Atoi) (zf zdp zl)) fun _ _=>(by kernel_rfl)
def zu5 (G_strings_IndexRune:List V→M V) (G_strconv_Atoi:List V→M V) (G_strings_IndexByte:List V→M V):M V :=
 zb (
 zb (zub) fun x1 =>
 zb (zga (.one .s) x1 (Value.string ⟨#[109,105,108,108,105,115]⟩) (Value.func (.func zbm) #[] #[])) fun _ =>
 zb (zga (.one .s) x1 (Value.string ⟨#[102,114,97,109,101]⟩) (Value.func (.func zbm) #[] #[])) fun _ =>
 zb (zga (.one .s) x1 (Value.string ⟨#[105,100,108,101]⟩) (Value.func (.func zbm) #[] #[])) fun _ =>
 zb (zga (.one .s) x1 (Value.string ⟨#[105,110]⟩) (Value.func (.func zb0) #[] #[])) fun _ =>
 zb (zga (.one .s) x1 (Value.string ⟨#[111,117,116]⟩) (Value.func (.func zb0) #[] #[])) fun _ =>
 zb (zga (.one .s) x1 (Value.string ⟨#[114,101,97,100]⟩) (Value.func (.func zb1) #[] #[])) fun _ =>
 zb (zga (.one .s) x1 (Value.string ⟨#[119,114,105,116,101]⟩) (Value.func (.func zb1) #[] #[])) fun _ =>
 zb (zga (.one .s) x1 (Value.string ⟨#[115,97,109,112,108,101]⟩) (Value.func (.func zcb) #[] #[])) fun _ =>
 zb (zga (.one .s) x1 (Value.string ⟨#[113,117,101,117,101]⟩) (Value.func (.func zcb) #[] #[])) fun _ =>
 zb (zga (.one .s) x1 (Value.string ⟨#[119,105,110,100,111,119]⟩) (Value.func (.func zcs) #[] #[])) fun _ =>
 zb (zga (.one .s) x1 (Value.string ⟨#[101,110,103,105,110,101,101,114,115]⟩) (Value.func (.func zb8) #[] #[])) fun _ =>
 zb (zga (.one .s) x1 (Value.string ⟨#[117,110,105,116]⟩) (Value.func (.func zdd) #[] #[])) fun _ =>
 zb (zga (.one .s) x1 (Value.string ⟨#[103,101,116]⟩) (Value.func (.func zcc) #[] #[])) fun _ =>
 zb (zga (.one .s) x1 (Value.string ⟨#[112,117,116]⟩) (Value.func (.func zcc) #[] #[])) fun _ =>
 zb (zga (.one .s) x1 (Value.string ⟨#[117,115,101,114]⟩) (Value.func (.func zde) #[] #[])) fun _ =>
 zb (zga (.one .s) x1 (Value.string ⟨#[114,111,108,101]⟩) (Value.func (.func zdf) #[] #[])) fun _ =>
 ret (.ret [x1])
 ) fun o=>zbl o fun vs=>ret (zbh [(zd vs 0)])
def zbc8:Hint:=(.seq [] .leaf (.seq [] .leaf .leaf))
def zpi (G_strings_IndexRune:List V→M V) (G_strconv_Atoi:List V→M V) (G_strings_IndexByte:List V→M V):List V→M V:=ap0 (zu5 G_strings_IndexRune G_strconv_Atoi G_strings_IndexByte)
theorem zbc9 {G_strings_IndexRune:List V→M V} {G_strconv_Atoi:List V→M V} {G_strings_IndexByte:List V→M V} (k_strings_IndexRune:zq Tryz.prog zr G_strings_IndexRune) (k_strconv_Atoi:zq Tryz.prog zbi G_strconv_Atoi) (k_strings_IndexByte:zq Tryz.prog zbq G_strings_IndexByte):zq Tryz.prog zyf (zpi G_strings_IndexRune G_strconv_Atoi G_strings_IndexByte):=kn0 (σ:=ovr [] noC) (hint:=zbc8) (by kernel_rfl) zl (by kernel_rfl)
def zef (x0 x1:V):M V :=
 zb (
 zb (zbd [x0,x1]) fun x7 =>
 zb (za (zy .geq x7 (Value.int .i64 0))) fun x8 =>
 ret (.ret [x8])
 ) fun o=>zbl o fun vs=>ret (zbh [(zd vs 0)])
def zor:Hint:=(.seq [] .leaf (.seq [] .leaf .leaf))
def zbj:List V→M V:=ap2 zef
def zos:zu:=ovr [(zcd,zbd)] noC
theorem zot:zq Tryz.prog zcp (zbj):=kn2 (σ:=zos) (hint:=zor) (by kernel_rfl) (zf zdp zl) fun _ _=>(by kernel_rfl)
def zs4 (G_strings_Split:List V→M V) (G_strings_IndexRune:List V→M V) (G_strconv_Atoi:List V→M V) (G_strings_IndexByte:List V→M V) (v3:List V):M Out :=
 ret (.ret [(Value.int .i64 0)])
def zs5 (G_strings_Split:List V→M V) (G_strings_IndexRune:List V→M V) (G_strconv_Atoi:List V→M V) (G_strings_IndexByte:List V→M V) (v2:List V):M Out :=
 zb (za (zci (zd v2 0))) fun x32 =>
 zb (za (zg 9 x32)) fun x33 =>
 zb (za (zx 1 (zd v2 1) (Value.int .i64 0))) fun x36 =>
 zb (z8 x33) fun x34 =>
 zb (z8 x36) fun x37 =>
 zb (zbj [x34,x37]) fun x38 =>
 zb (
 zb (zmm (ovr [(zbm,zec G_strings_IndexRune G_strconv_Atoi),(zb0,zes),(zb1,zet G_strings_IndexRune G_strconv_Atoi),(zcb,zfd G_strings_IndexRune G_strconv_Atoi),(zcs,zed G_strings_IndexRune G_strconv_Atoi),(zb8,zc8 G_strings_IndexRune G_strconv_Atoi),(zdd,zfe),(zcc,zff G_strings_IndexRune G_strconv_Atoi),(zde,zfg G_strings_IndexRune G_strings_IndexByte),(zdf,zfh G_strings_IndexRune G_strconv_Atoi),(zco,G_strings_Split),(zcp,zbj)] noC) (zd v2 2) [(zd v2 0),(zd v2 1)]) fun x42 =>
 zb (
 zb (za (un .not x42)) fun x45 =>
 zn x45 (
 ret (.ret [(Value.int .i64 3)])
 ) (
 zn x38 (
 ret (.ret [(Value.int .i64 6)])
 ) (
 ret (.nxt [])
 )
 )
 ) fun o=>ret (zz 0 o)
 ) fun o=>nx o (zs4 G_strings_Split G_strings_IndexRune G_strconv_Atoi G_strings_IndexByte)
def zs6 (G_strings_Split:List V→M V) (G_strings_IndexRune:List V→M V) (G_strconv_Atoi:List V→M V) (G_strings_IndexByte:List V→M V) (vs:List V):M Out :=
 zb (G_strings_Split [(zd vs 1),(Value.string ⟨#[32]⟩)]) fun x19 =>
 zb (za (zx 1 x19 (Value.int .i64 0))) fun x22 =>
 zb (z8 x22) fun x23 =>
 zb (lookup (.one .s) (Value.nilFunc) false (zd vs 2) x23) fun x24 =>
 zb (
 zb (za (zcz false (zd9 .f x24))) fun x26 =>
 zb (gd x26 false (za (some x19))) fun x28 =>
 zb (gd x26 false (zbj [x28,(Value.string ⟨#[]⟩)])) fun x29 =>
 zb (za (zbb x26 (Value.bool true) x29)) fun x30 =>
 zn x30 (
 ret (.ret [(Value.int .i64 3)])
 ) (
 ret (.nxt [(zd vs 0),x19,x24])
 )
 ) fun o=>nx o (zs5 G_strings_Split G_strings_IndexRune G_strconv_Atoi G_strings_IndexByte)
def zhh (G_strings_Split:List V→M V) (G_strings_IndexRune:List V→M V) (G_strconv_Atoi:List V→M V) (G_strings_IndexByte:List V→M V) (x0 x1 x2:V):M V :=
 zb (
 zb (
 zb (za (zy .eql x1 (Value.string ⟨#[]⟩))) fun x12 =>
 zb (gd x12 false (za (some x1))) fun x14 =>
 zb (gd x12 false (za (znu x14 (Value.int .i64 0)))) fun x15 =>
 zb (gd x12 false (za (zy .eql x15 (Value.int .u8 35)))) fun x16 =>
 zb (za (zbb x12 (Value.bool true) x16)) fun x17 =>
 zn x17 (
 ret (.ret [(Value.int .i64 0)])
 ) (
 ret (.nxt [x0,x1,x2])
 )
 ) fun o=>nx o (zs6 G_strings_Split G_strings_IndexRune G_strconv_Atoi G_strings_IndexByte)
 ) fun o=>zbl o fun vs=>ret (zbh [(zd vs 0)])
def z6l:Hint:=(.seq [] .leaf (.seq [0,1,2] (.seq [] .leaf (.cond (.seq [] .leaf .leaf) .leaf)) (.seq [] .leaf (.seq [] .leaf (.seq [0,7,8] (.seq [] .leaf (.cond (.seq [] .leaf .leaf) .leaf)) (.seq [] (.reg [0,1,2,4,5,3,6,7,8] []) (.seq [] (.seq [] .leaf (.blk (.seq [] .leaf (.cond (.seq [] .leaf .leaf) (.seq [] .leaf (.cond (.seq [] .leaf .leaf) .leaf)))))) (.seq [] .leaf .leaf))))))))
def zjn (G_strings_Split:List V→M V) (G_strings_IndexRune:List V→M V) (G_strconv_Atoi:List V→M V) (G_strings_IndexByte:List V→M V):List V→M V:=ap3 (zhh G_strings_Split G_strings_IndexRune G_strconv_Atoi G_strings_IndexByte)
theorem z6m {G_strings_Split:List V→M V} {G_strings_IndexRune:List V→M V} {G_strconv_Atoi:List V→M V} {G_strings_IndexByte:List V→M V} (k_strings_Split:zq Tryz.prog zco G_strings_Split) (k_strings_IndexRune:zq Tryz.prog zr G_strings_IndexRune) (k_strconv_Atoi:zq Tryz.prog zbi G_strconv_Atoi) (k_strings_IndexByte:zq Tryz.prog zbq G_strings_IndexByte):zq Tryz.prog zry (zjn G_strings_Split G_strings_IndexRune G_strconv_Atoi G_strings_IndexByte):=kn3 (σ:=ovr [(zbm,zec G_strings_IndexRune G_strconv_Atoi),(zb0,zes),(zb1,zet G_strings_IndexRune G_strconv_Atoi),(zcb,zfd G_strings_IndexRune G_strconv_Atoi),(zcs,zed G_strings_IndexRune G_strconv_Atoi),(zb8,zc8 G_strings_IndexRune G_strconv_Atoi),(zdd,zfe),(zcc,zff G_strings_IndexRune G_strconv_Atoi),(zde,zfg G_strings_IndexRune G_strings_IndexByte),(zdf,zfh G_strings_IndexRune G_strconv_Atoi),(zco,G_strings_Split),(zcp,zbj)] noC) (hint:=z6l) (by kernel_rfl) (zf (z2a k_strings_IndexRune k_strconv_Atoi) (zf z4f (zf (z4h k_strings_IndexRune k_strconv_Atoi) (zf (z6c k_strings_IndexRune k_strconv_Atoi) (zf (z2d k_strings_IndexRune k_strconv_Atoi) (zf (zys k_strings_IndexRune k_strconv_Atoi) (zf z6e (zf (z6g k_strings_IndexRune k_strconv_Atoi) (zf (z6i k_strings_IndexRune k_strings_IndexByte) (zf (z6k k_strings_IndexRune k_strconv_Atoi) (zf k_strings_Split (zf zot zl)))))))))))) fun _ _ _=>(by kernel_rfl)
def z77 (G_strings_IndexRune:List V→M V) (G_strconv_Atoi:List V→M V) (G_strings_IndexByte:List V→M V) (G_strings_Split:List V→M V) (v3:List V):M Out :=
 zb (za (zy .add (zd v3 5) (Value.int .i64 1))) fun x30 =>
 ret (.nxt [(zd v3 0),(zd v3 1),(zd v3 2),(zd v3 3),(zd v3 4),x30])
def z78 (G_strings_IndexRune:List V→M V) (G_strconv_Atoi:List V→M V) (G_strings_IndexByte:List V→M V) (G_strings_Split:List V→M V) (v2:List V):M Out :=
 zb (
 zb (
 zb (za (zx 1 (zd v2 3) (zd v2 5))) fun x18 =>
 zb (z8 x18) fun x19 =>
 zb ((zjn G_strings_Split G_strings_IndexRune G_strconv_Atoi G_strings_IndexByte) [(zd v2 1),x19,(zd v2 2)]) fun x23 =>
 zb (za (zy .neq x23 (Value.int .i64 0))) fun x25 =>
 zn x25 (
 zb (za (build [Value.slice none 0 0,Value.slice none 0 0,Value.slice none 0 0,Value.int .i64 0,Value.slice none 0 0,Value.slice none 0 0,Value.int .i64 0,Value.slice none 0 0,Value.int .i64 0] [])) fun x26 =>
 zb (za (zy .add (zd v2 5) (Value.int .i64 1))) fun x28 =>
 zb (stn 9 (zd v2 0) x26) fun _ =>
 ret (.ret [(zd v2 0),x28,x23])
 ) (
 ret (.nxt [(zd v2 0),(zd v2 1),(zd v2 2),(zd v2 3),(zd v2 4),(zd v2 5)])
 )
 ) fun o=>ret (zz 1 o)
 ) fun o=>nx o (z77 G_strings_IndexRune G_strconv_Atoi G_strings_IndexByte G_strings_Split)
def zzu (G_strings_IndexRune:List V→M V) (G_strconv_Atoi:List V→M V) (G_strings_IndexByte:List V→M V) (G_strings_Split:List V→M V) (vs:List V):M Out :=
 zb (za (zy .lss (zd vs 5) (zd vs 4))) fun x16 =>
 zb (
 zn x16 (
 ret (.nxt [(zd vs 0),(zd vs 1),(zd vs 2),(zd vs 3),(zd vs 4),(zd vs 5)])
 ) (
 ret (.brk 0 [(zd vs 0),(zd vs 1)])
 )
 ) fun o=>nx o (z78 G_strings_IndexRune G_strconv_Atoi G_strings_IndexByte G_strings_Split)
def z79 (G_strings_IndexRune:List V→M V) (G_strconv_Atoi:List V→M V) (G_strings_IndexByte:List V→M V) (G_strings_Split:List V→M V) (v4:List V):M Out :=
 zb (za (zci (zd v4 1))) fun x32 =>
 zb (za (zg 0 x32)) fun x33 =>
 zb (ldn 9 x33) fun x34 =>
 zb (stn 9 (zd v4 0) x34) fun _ =>
 ret (.ret [(zd v4 0),(Value.int .i64 0),(Value.int .i64 0)])
def z2e (G_strings_IndexRune:List V→M V) (G_strconv_Atoi:List V→M V) (G_strings_IndexByte:List V→M V) (G_strings_Split:List V→M V) (x0:V):M V :=
 zb (
 zb (newc [Value.slice none 0 0,Value.slice none 0 0,Value.slice none 0 0,Value.int .i64 0,Value.slice none 0 0,Value.slice none 0 0,Value.int .i64 0,Value.slice none 0 0,Value.int .i64 0]) fun x2 =>
 zb (za (build [Value.slice none 0 0,Value.slice none 0 0,Value.slice none 0 0,Value.int .i64 0,Value.slice none 0 0,Value.slice none 0 0,Value.int .i64 0,Value.slice none 0 0,Value.int .i64 0,Value.slice none 0 0] [])) fun x10 =>
 zb (zeu x10) fun x11 =>
 zb ((zpi G_strings_IndexRune G_strconv_Atoi G_strings_IndexByte) []) fun x12 =>
 zb (
 zb (za (zv x0)) fun x14 =>
 zb (
 zbg zby (zzu G_strings_IndexRune G_strconv_Atoi G_strings_IndexByte G_strings_Split) [x2,x11,x12,x0,x14,(Value.int .i64 0)]
 ) fun o=>ret (zz 0 o)
 ) fun o=>nx o (z79 G_strings_IndexRune G_strconv_Atoi G_strings_IndexByte G_strings_Split)
 ) fun o=>zbl o fun vs=>zb (ldn 9 (zd vs 0)) fun r0=>ret (zbh [r0,(zd vs 1),(zd vs 2)])
def zbj6:Hint:=(.seq [] .leaf (.seq [] .leaf (.seq [2,5] (.seq [] .leaf (.blk (.loop [2,5,6,13,14,15] (.seq [] .leaf (.seq [2,5,6,13,14,15] (.cond .leaf .leaf) (.seq [2,5,6,13,14,15] (.blk (.seq [] .leaf (.seq [] .leaf (.seq [] .leaf (.cond (.seq [] .leaf .leaf) .leaf))))) .leaf)))))) (.seq [] .leaf .leaf))))
def zwo (G_strings_IndexRune:List V→M V) (G_strconv_Atoi:List V→M V) (G_strings_IndexByte:List V→M V) (G_strings_Split:List V→M V):List V→M V:=ap1 (z2e G_strings_IndexRune G_strconv_Atoi G_strings_IndexByte G_strings_Split)
theorem zbj7 {G_strings_IndexRune:List V→M V} {G_strconv_Atoi:List V→M V} {G_strings_IndexByte:List V→M V} {G_strings_Split:List V→M V} (k_strings_IndexRune:zq Tryz.prog zr G_strings_IndexRune) (k_strconv_Atoi:zq Tryz.prog zbi G_strconv_Atoi) (k_strings_IndexByte:zq Tryz.prog zbq G_strings_IndexByte) (k_strings_Split:zq Tryz.prog zco G_strings_Split):zq Tryz.prog z4m (zwo G_strings_IndexRune G_strconv_Atoi G_strings_IndexByte G_strings_Split):=kn1 (σ:=ovr [(zyf,zpi G_strings_IndexRune G_strconv_Atoi G_strings_IndexByte),(zry,zjn G_strings_Split G_strings_IndexRune G_strconv_Atoi G_strings_IndexByte)] noC) (hint:=zbj6) (by kernel_rfl) (zf (zbc9 k_strings_IndexRune k_strconv_Atoi k_strings_IndexByte) (zf (z6m k_strings_Split k_strings_IndexRune k_strconv_Atoi k_strings_IndexByte) zl)) fun _=>(by kernel_rfl)
def zew (S:zu) (v3:List V):M Out :=
 zb (za (zy .add (zd v3 3) (Value.int .i64 1))) fun x18 =>
 ret (.nxt [(zd v3 0),(zd v3 1),(zd v3 2),x18])
def zex (S:zu) (v2:List V):M Out :=
 zb (
 zb (
 zb (za (zx 2 (zd v2 0) (zd v2 3))) fun x14 =>
 zb (ldn 2 x14) fun x15 =>
 zb (zmm (ovr [] S) (zd v2 1) [x15]) fun x16 =>
 zn x16 (
 ret (.ret [(zd v2 3)])
 ) (
 ret (.nxt [(zd v2 0),(zd v2 1),(zd v2 2),(zd v2 3)])
 )
 ) fun o=>ret (zz 1 o)
 ) fun o=>nx o (zew S)
def zcw (S:zu) (vs:List V):M Out :=
 zb (za (zy .lss (zd vs 3) (zd vs 2))) fun x9 =>
 zb (
 zn x9 (
 ret (.nxt [(zd vs 0),(zd vs 1),(zd vs 2),(zd vs 3)])
 ) (
 ret (.brk 0 [])
 )
 ) fun o=>nx o (zex S)
def zey (S:zu) (v4:List V):M Out :=
 ret (.ret [(Value.int .i64 (-1))])
def zc1 (S:zu) (x0 x1:V):M V :=
 zb (
 zb (
 zb (za (zv x0)) fun x7 =>
 zb (
 zbg zby (zcw S) [x0,x1,x7,(Value.int .i64 0)]
 ) fun o=>ret (zz 0 o)
 ) fun o=>nx o (zey S)
 ) fun o=>zbl o fun vs=>ret (zbh [(zd vs 0)])
def zkc:Hint:=(.seq [] .leaf (.seq [] (.seq [] .leaf (.blk (.loop [0,1,7,8] (.seq [] .leaf (.seq [0,1,7,8] (.cond .leaf .leaf) (.seq [0,1,7,8] (.blk (.seq [] .leaf (.seq [] .leaf (.cond (.seq [] .leaf .leaf) .leaf)))) .leaf)))))) (.seq [] .leaf .leaf)))
def zc2 (S:zu):List V→M V:=ap2 (zc1 S)
theorem zkd {S:zu} (hS:zd3 Tryz.prog S):zq Tryz.prog zek (zc2 S):=kn2 (σ:=ovr [] S) (hint:=zkc) (by kernel_rfl) (zea hS) fun _ _=>(by kernel_rfl)
def zcr (S:zu) (x0 x1:V):M V :=
 zb (
 zb ((zc2 S) [x0,x1]) fun x7 =>
 zb (za (zy .geq x7 (Value.int .i64 0))) fun x8 =>
 ret (.ret [x8])
 ) fun o=>zbl o fun vs=>ret (zbh [(zd vs 0)])
def zi5:Hint:=(.seq [] .leaf (.seq [] .leaf .leaf))
def zbs (S:zu):List V→M V:=ap2 (zcr S)
theorem zi6 {S:zu} (hS:zd3 Tryz.prog S):zq Tryz.prog zd1 (zbs S):=kn2 (σ:=ovr [(zek,zc2 S)] S) (hint:=zi5) (by kernel_rfl) (zf (zkd (zea hS)) (zea hS)) fun _ _=>(by kernel_rfl)
def zq1 (x0:V):M V :=
 zb (
 zb (zeu x0) fun x1 =>
 zb (za (zg 0 x1)) fun x3 =>
 zb (z8 x3) fun x4 =>
 zb (za (zy .lss x4 (Value.int .i64 1))) fun x5 =>
 zb (gd x5 false (za (zg 0 x1))) fun x7 =>
 zb (gd x5 false (z8 x7)) fun x8 =>
 zb (gd x5 false (za (zy .gtr x8 (Value.int .i64 3)))) fun x9 =>
 zb (za (zbb x5 (Value.bool true) x9)) fun x10 =>
 ret (.ret [x10])
 ) fun o=>zbl o fun vs=>ret (zbh [(zd vs 0)])
def z9z:Hint:=(.seq [] .leaf (.seq [] .leaf .leaf))
def zg6:List V→M V:=ap1 zq1
theorem z90:zq Tryz.prog zcf (zg6):=kn1 (σ:=ovr [] noC) (hint:=z9z) (by kernel_rfl) zl fun _=>(by kernel_rfl)
def zu6 (x0:V):M V :=
 zb (
 zb (za (zy .geq x0 (Value.int .i64 0))) fun x4 =>
 zb (gd x4 true (za (some x0))) fun x6 =>
 zb (gd x4 true (za (zy .lss x6 (Value.int .i64 8)))) fun x7 =>
 zb (za (zbb x4 x7 (Value.bool false))) fun x8 =>
 ret (.ret [x8])
 ) fun o=>zbl o fun vs=>ret (zbh [(zd vs 0)])
def zbda:Hint:=(.seq [] .leaf (.seq [] .leaf .leaf))
def zpj:List V→M V:=ap1 zu6
theorem zbdb:zq Tryz.prog zyh (zpj):=kn1 (σ:=ovr [] noC) (hint:=zbda) (by kernel_rfl) zl fun _=>(by kernel_rfl)
def zju (v4:List V):M Out :=
 zb (ldn 3 (zd v4 3)) fun x73 =>
 zb (zga (.agg [.i,.i,.b]) (zd v4 1) x73 (Value.bool true)) fun _ =>
 zb (za (zg 1 (zd v4 3))) fun x75 =>
 zb (z8 x75) fun x76 =>
 zb (za (zg 1 (zd v4 3))) fun x78 =>
 zb (z8 x78) fun x79 =>
 zb (lookup (.one .i) (Value.bool false) false (zd v4 2) x79) fun x80 =>
 zb (gd x80 false (za (zg 2 (zd v4 3)))) fun x82 =>
 zb (gd x80 false (z8 x82)) fun x83 =>
 zb (za (zbb x80 (Value.bool true) x83)) fun x84 =>
 zb (zga (.one .i) (zd v4 2) x76 x84) fun _ =>
 ret (.nxt [(zd v4 0),(zd v4 1),(zd v4 2),(zd v4 4),(zd v4 5),(zd v4 6)])
def zsl (v5:List V):M Out :=
 zb (za (zy .add (zd v5 5) (Value.int .i64 1))) fun x85 =>
 ret (.nxt [(zd v5 0),(zd v5 1),(zd v5 2),(zd v5 3),(zd v5 4),x85])
def z0y (v3:List V):M Out :=
 zb (
 zb (
 zb (za (zx 3 (zd v3 3) (zd v3 5))) fun x24 =>
 zb (ldn 3 x24) fun x25 =>
 zb (newc [Value.int .i64 0,Value.int .i64 0,Value.bool false]) fun x9 =>
 zb (stn 3 x9 x25) fun _ =>
 zb (
 zb (
 zb (za (zg 0 x9)) fun x27 =>
 zb (z8 x27) fun x28 =>
 zb (zpj [x28]) fun x29 =>
 zb (za (un .not x29)) fun x30 =>
 zb (gd x30 false (za (zg 1 x9))) fun x32 =>
 zb (gd x30 false (z8 x32)) fun x33 =>
 zb (gd x30 false (za (zy .lss x33 (Value.int .i64 0)))) fun x34 =>
 zb (za (zbb x30 (Value.bool true) x34)) fun x35 =>
 zb (gd x35 false (za (zg 1 x9))) fun x37 =>
 zb (gd x35 false (z8 x37)) fun x38 =>
 zb (gd x35 false (za (some (zd v3 0)))) fun x39 =>
 zb (gd x35 false (za (zv x39))) fun x40 =>
 zb (gd x35 false (za (zy .geq x38 x40))) fun x41 =>
 zb (za (zbb x35 (Value.bool true) x41)) fun x42 =>
 zn x42 (
 ret (.ret [(zd v3 5),(Value.int .i64 1)])
 ) (
 zb (za (zg 2 x9)) fun x45 =>
 zb (z8 x45) fun x46 =>
 zb (gd x46 true (za (some (zd v3 0)))) fun x48 =>
 zb (gd x46 true (za (zg 1 x9))) fun x49 =>
 zb (gd x46 true (z8 x49)) fun x50 =>
 zb (gd x46 true (za (zx 2 x48 x50))) fun x51 =>
 zb (gd x46 true (za (zg 1 x51))) fun x52 =>
 zb (gd x46 true (z8 x52)) fun x53 =>
 zb (gd x46 true (za (un .not x53))) fun x54 =>
 zb (za (zbb x46 x54 (Value.bool false))) fun x55 =>
 zn x55 (
 ret (.ret [(zd v3 5),(Value.int .i64 91)])
 ) (
 zb (ldn 3 x9) fun x59 =>
 zb (lookup (.agg [.i,.i,.b]) (Value.bool false) false (zd v3 1) x59) fun x60 =>
 zb (gd x60 false (za (zg 2 x9))) fun x62 =>
 zb (gd x60 false (z8 x62)) fun x63 =>
 zb (gd x60 false (za (some x63))) fun x64 =>
 zb (gd x64 true (za (some (zd v3 2)))) fun x65 =>
 zb (gd x64 true (za (zg 1 x9))) fun x66 =>
 zb (gd x64 true (z8 x66)) fun x67 =>
 zb (gd x64 true (lookup (.one .i) (Value.bool false) false x65 x67)) fun x68 =>
 zb (gd x60 false (za (zbb x64 x68 (Value.bool false)))) fun x69 =>
 zb (za (zbb x60 (Value.bool true) x69)) fun x70 =>
 zn x70 (
 ret (.ret [(zd v3 5),(Value.int .i64 190)])
 ) (
 ret (.nxt [(zd v3 0),(zd v3 1),(zd v3 2),x9,(zd v3 3),(zd v3 4),(zd v3 5)])
 )
 )
 )
 ) fun o=>ret (zz 3 o)
 ) fun o=>nx o zju
 ) fun o=>ret (zz 2 o)
 ) fun o=>nx o zsl
def zsm (v2:List V):M Out :=
 zb (za (zy .lss (zd v2 5) (zd v2 4))) fun x22 =>
 zb (
 zn x22 (
 ret (.nxt [(zd v2 0),(zd v2 1),(zd v2 2),(zd v2 3),(zd v2 4),(zd v2 5)])
 ) (
 ret (.brk 1 [])
 )
 ) fun o=>nx o z0y
def z0z (v6:List V):M Out :=
 ret (.ret [(Value.int .i64 0),(Value.int .i64 0)])
def z00 (vs:List V):M Out :=
 zb (zub) fun x17 =>
 zb (zub) fun x18 =>
 zb (
 zb (za (zv (zd vs 1))) fun x20 =>
 zb (
 zbg zby zsm [(zd vs 0),x17,x18,(zd vs 1),x20,(Value.int .i64 0)]
 ) fun o=>ret (zz 1 o)
 ) fun o=>nx o z0z
def zpk (x0 x1:V):M V :=
 zb (
 zb (
 zb (
 zb (za (zv x0)) fun x12 =>
 zb (za (zy .gtr x12 (Value.int .i64 64))) fun x13 =>
 zn x13 (
 ret (.ret [(Value.int .i64 (-1)),(Value.int .i64 2)])
 ) (
 zb ((zbs (ovr [(zcf,zg6)] noC)) [x0,(Value.func (.func zcf) #[] #[])]) fun x16 =>
 zn x16 (
 ret (.ret [(Value.int .i64 (-1)),(Value.int .i64 40)])
 ) (
 ret (.nxt [x0,x1])
 )
 )
 ) fun o=>ret (zz 0 o)
 ) fun o=>nx o z00
 ) fun o=>zbl o fun vs=>ret (zbh [(zd vs 0),(zd vs 1)])
def zbdc:Hint:=(.seq [] .leaf (.seq [0,1] (.blk (.seq [] .leaf (.cond (.seq [] .leaf .leaf) (.seq [] .leaf (.cond (.seq [] .leaf .leaf) .leaf))))) (.seq [] .leaf (.seq [] .leaf (.seq [] (.seq [] .leaf (.blk (.loop [0,6,7,19,20,21] (.seq [] .leaf (.seq [0,6,7,19,20,21] (.cond .leaf .leaf) (.seq [0,6,7,19,20,21] (.blk (.seq [] .leaf (.seq [0,6,7,9,19,20,21] (.blk (.seq [] .leaf (.cond (.seq [] .leaf .leaf) (.seq [] .leaf (.cond (.seq [] .leaf .leaf) (.seq [] .leaf (.cond (.seq [] .leaf .leaf) .leaf))))))) (.seq [] .leaf .leaf)))) .leaf)))))) (.seq [] .leaf .leaf))))))
def zi0:List V→M V:=ap2 zpk
def zbdd:zu:=ovr [(zd1,zbs (ovr [(zcf,zg6)] noC)),(zyh,zpj)] noC
theorem z2f:zq Tryz.prog zqx (zi0):=kn2 (σ:=zbdd) (hint:=zbdc) (by kernel_rfl) (zf (zi6 (zf z90 zl)) (zf zbdb zl)) fun _ _=>(by kernel_rfl)
def zxd (x0:V):M V :=
 zb (
 zb (za (zy .geq x0 (Value.int .i64 0))) fun x4 =>
 zb (gd x4 true (za (some x0))) fun x6 =>
 zb (gd x4 true (za (zy .lss x6 (Value.int .i64 8)))) fun x7 =>
 zb (za (zbb x4 x7 (Value.bool false))) fun x8 =>
 ret (.ret [x8])
 ) fun o=>zbl o fun vs=>ret (zbh [(zd vs 0)])
def zbe3:Hint:=(.seq [] .leaf (.seq [] .leaf .leaf))
def znh:List V→M V:=ap1 zxd
theorem zbe4:zq Tryz.prog z0r (znh):=kn1 (σ:=ovr [] noC) (hint:=zbe3) (by kernel_rfl) zl fun _=>(by kernel_rfl)
def z2g (v2:List V):M Out :=
 ret (.ret [(Value.int .i64 0)])
def z2h (vs:List V):M Out :=
 zb (
 zb (
 zb (za (zg 0 (zd vs 0))) fun x9 =>
 zb (z8 x9) fun x10 =>
 zb (za (zy .neq x10 (Value.int .i64 1))) fun x11 =>
 zb (gd x11 true (za (zg 0 (zd vs 0)))) fun x13 =>
 zb (gd x11 true (z8 x13)) fun x14 =>
 zb (gd x11 true (za (zy .neq x14 (Value.int .i64 2)))) fun x15 =>
 zb (za (zbb x11 x15 (Value.bool false))) fun x16 =>
 zn x16 (
 ret (.ret [(Value.int .i64 91)])
 ) (
 zb (za (zg 1 (zd vs 0))) fun x18 =>
 zb (z8 x18) fun x19 =>
 zb (znh [x19]) fun x20 =>
 zb (za (un .not x20)) fun x21 =>
 zb (gd x21 false (za (zg 2 (zd vs 0)))) fun x23 =>
 zb (gd x21 false (z8 x23)) fun x24 =>
 zb (gd x21 false (znh [x24])) fun x25 =>
 zb (gd x21 false (za (un .not x25))) fun x26 =>
 zb (za (zbb x21 (Value.bool true) x26)) fun x27 =>
 zn x27 (
 ret (.ret [(Value.int .i64 1)])
 ) (
 zb (za (zg 1 (zd vs 0))) fun x29 =>
 zb (z8 x29) fun x30 =>
 zb (za (zg 2 (zd vs 0))) fun x31 =>
 zb (z8 x31) fun x32 =>
 zb (za (zy .eql x30 x32)) fun x33 =>
 zn x33 (
 ret (.ret [(Value.int .i64 4)])
 ) (
 zb (za (zg 3 (zd vs 0))) fun x35 =>
 zb (z8 x35) fun x36 =>
 zb (za (zy .lss x36 (Value.int .i64 1))) fun x37 =>
 zb (gd x37 false (za (zg 3 (zd vs 0)))) fun x39 =>
 zb (gd x37 false (z8 x39)) fun x40 =>
 zb (gd x37 false (za (zy .gtr x40 (Value.int .i64 3)))) fun x41 =>
 zb (za (zbb x37 (Value.bool true) x41)) fun x42 =>
 zn x42 (
 ret (.ret [(Value.int .i64 40)])
 ) (
 zb (za (zg 4 (zd vs 0))) fun x44 =>
 zb (z8 x44) fun x45 =>
 zb (za (zy .lss x45 (zd vs 1))) fun x47 =>
 zb (gd x47 false (za (zg 4 (zd vs 0)))) fun x49 =>
 zb (gd x47 false (z8 x49)) fun x50 =>
 zb (gd x47 false (za (some (zd vs 2)))) fun x51 =>
 zb (gd x47 false (za (zy .gtr x50 x51))) fun x52 =>
 zb (za (zbb x47 (Value.bool true) x52)) fun x53 =>
 zn x53 (
 ret (.ret [(Value.int .i64 1)])
 ) (
 ret (.nxt [])
 )
 )
 )
 )
 )
 ) fun o=>ret (zz 0 o)
 ) fun o=>nx o z2g
def zxe (x0:V):M V :=
 zb (
 zb (zeu x0) fun x1 =>
 zb (
 zb (za (zg 0 x1)) fun x5 =>
 zb (z8 x5) fun x6 =>
 zb (za (zy .eql x6 (Value.int .i64 2))) fun x7 =>
 zn x7 (
 ret (.nxt [x1,(Value.int .i64 1),(Value.int .i64 16)])
 ) (
 ret (.nxt [x1,(Value.int .i64 0),(Value.int .i64 0)])
 )
 ) fun o=>nx o z2h
 ) fun o=>zbl o fun vs=>ret (zbh [(zd vs 0)])
def zbe5:Hint:=(.seq [] .leaf (.seq [] .leaf (.seq [1,3,4] (.seq [] .leaf (.cond .leaf .leaf)) (.seq [] (.blk (.seq [] .leaf (.cond (.seq [] .leaf .leaf) (.seq [] .leaf (.cond (.seq [] .leaf .leaf) (.seq [] .leaf (.cond (.seq [] .leaf .leaf) (.seq [] .leaf (.cond (.seq [] .leaf .leaf) (.seq [] .leaf (.cond (.seq [] .leaf .leaf) .leaf))))))))))) (.seq [] .leaf .leaf)))))
def zrf:List V→M V:=ap1 zxe
def zbe6:zu:=ovr [(z0r,znh)] noC
theorem zbe7:zq Tryz.prog z0q (zrf):=kn1 (σ:=zbe6) (hint:=zbe5) (by kernel_rfl) (zf zbe4 zl) fun _=>(by kernel_rfl)
def z2i (v4:List V):M Out :=
 zb (za (zy .add (zd v4 2) (Value.int .i64 1))) fun x23 =>
 ret (.nxt [(zd v4 0),(zd v4 1),x23])
def z2j (v3:List V):M Out :=
 zb (
 zb (
 zb (za (zx 5 (zd v3 0) (zd v3 2))) fun x15 =>
 zb (ldn 5 x15) fun x16 =>
 zb (newc [Value.int .i64 0,Value.int .i64 0,Value.int .i64 0,Value.int .i64 0,Value.int .i64 0]) fun x5 =>
 zb (stn 5 x5 x16) fun _ =>
 zb (ldn 5 x5) fun x17 =>
 zb (zrf [x17]) fun x18 =>
 zb (za (zy .neq x18 (Value.int .i64 0))) fun x20 =>
 zn x20 (
 ret (.ret [(zd v3 2),x18])
 ) (
 ret (.nxt [(zd v3 0),(zd v3 1),(zd v3 2)])
 )
 ) fun o=>ret (zz 1 o)
 ) fun o=>nx o z2i
def zu7 (v2:List V):M Out :=
 zb (za (zy .lss (zd v2 2) (zd v2 1))) fun x13 =>
 zb (
 zn x13 (
 ret (.nxt [(zd v2 0),(zd v2 1),(zd v2 2)])
 ) (
 ret (.brk 0 [])
 )
 ) fun o=>nx o z2j
def z2k (v5:List V):M Out :=
 ret (.ret [(Value.int .i64 0),(Value.int .i64 0)])
def z2l (vs:List V):M Out :=
 zb (
 zb (za (zv (zd vs 0))) fun x11 =>
 zb (
 zbg zby zu7 [(zd vs 0),x11,(Value.int .i64 0)]
 ) fun o=>ret (zz 0 o)
 ) fun o=>nx o z2k
def zrg (x0:V):M V :=
 zb (
 zb (
 zb (za (zv x0)) fun x8 =>
 zb (za (zy .gtr x8 (Value.int .i64 16))) fun x9 =>
 zn x9 (
 ret (.ret [(Value.int .i64 (-1)),(Value.int .i64 2)])
 ) (
 ret (.nxt [x0])
 )
 ) fun o=>nx o z2l
 ) fun o=>zbl o fun vs=>ret (zbh [(zd vs 0),(zd vs 1)])
def zbe8:Hint:=(.seq [] .leaf (.seq [0] (.seq [] .leaf (.cond (.seq [] .leaf .leaf) .leaf)) (.seq [] (.seq [] .leaf (.blk (.loop [10,11,12] (.seq [] .leaf (.seq [10,11,12] (.cond .leaf .leaf) (.seq [10,11,12] (.blk (.seq [] .leaf (.seq [] .leaf (.seq [] .leaf (.cond (.seq [] .leaf .leaf) .leaf))))) .leaf)))))) (.seq [] .leaf .leaf))))
def zj8:List V→M V:=ap1 zrg
def zbe9:zu:=ovr [(z0q,zrf)] noC
theorem z4u:zq Tryz.prog zsj (zj8):=kn1 (σ:=zbe9) (hint:=zbe8) (by kernel_rfl) (zf zbe7 zl) fun _=>(by kernel_rfl)
def zzv (v3:List V):M Out :=
 zb (za (zy .add (zd v3 4) (Value.int .i64 1))) fun x21 =>
 ret (.nxt [(zd v3 0),(zd v3 1),(zd v3 2),(zd v3 3),x21])
def zzw (v2:List V):M Out :=
 zb (
 zb (
 zb (za (zx 3 (zd v2 2) (zd v2 4))) fun x13 =>
 zb (ldn 3 x13) fun x14 =>
 zb (newc [Value.int .i64 0,Value.int .i64 0,Value.int .i64 0]) fun x7 =>
 zb (stn 3 x7 x14) fun _ =>
 zb (za (zg 0 x7)) fun x15 =>
 zb (z8 x15) fun x16 =>
 zb (za (zy .eql x16 (zd v2 0))) fun x18 =>
 zn x18 (
 zb (za (zy .add (zd v2 1) (Value.int .i64 1))) fun x20 =>
 ret (.nxt [(zd v2 0),x20,(zd v2 2),(zd v2 3),(zd v2 4)])
 ) (
 ret (.nxt [(zd v2 0),(zd v2 1),(zd v2 2),(zd v2 3),(zd v2 4)])
 )
 ) fun o=>ret (zz 1 o)
 ) fun o=>nx o zzv
def ztr (vs:List V):M Out :=
 zb (za (zy .lss (zd vs 4) (zd vs 3))) fun x12 =>
 zb (
 zn x12 (
 ret (.nxt [(zd vs 0),(zd vs 1),(zd vs 2),(zd vs 3),(zd vs 4)])
 ) (
 ret (.brk 0 [(zd vs 1)])
 )
 ) fun o=>nx o zzw
def z8a (v4:List V):M Out :=
 ret (.ret [(zd v4 0)])
def z2m (x0 x1:V):M V :=
 zb (
 zb (zeu x0) fun x2 =>
 zb (
 zb (za (zg 1 x2)) fun x8 =>
 zb (z8 x8) fun x9 =>
 zb (za (zv x9)) fun x10 =>
 zb (
 zbg zby ztr [x1,(Value.int .i64 0),x9,x10,(Value.int .i64 0)]
 ) fun o=>ret (zz 0 o)
 ) fun o=>nx o z8a
 ) fun o=>zbl o fun vs=>ret (zbh [(zd vs 0)])
def zbj8:Hint:=(.seq [] .leaf (.seq [] .leaf (.seq [5] (.seq [] .leaf (.blk (.loop [1,5,9,10,11] (.seq [] .leaf (.seq [1,5,9,10,11] (.cond .leaf .leaf) (.seq [1,5,9,10,11] (.blk (.seq [] .leaf (.seq [] .leaf (.cond .leaf .leaf)))) .leaf)))))) (.seq [] .leaf .leaf))))
def zr3:List V→M V:=ap2 z2m
theorem zbj9:zq Tryz.prog z4p (zr3):=kn2 (σ:=ovr [] noC) (hint:=zbj8) (by kernel_rfl) zl fun _ _=>(by kernel_rfl)
def z4v (v4:List V):M Out :=
 zb (za (zg 1 (zd v4 2))) fun x84 =>
 zb (z8 x84) fun x85 =>
 zb (za (zg 2 (zd v4 2))) fun x86 =>
 zb (z8 x86) fun x87 =>
 zb (za (zy .add x85 x87)) fun x88 =>
 ret (.nxt [(zd v4 0),(zd v4 1),x88,(zd v4 3),(zd v4 4),(zd v4 5)])
def z4w (v5:List V):M Out :=
 zb (za (zy .add (zd v5 5) (Value.int .i64 1))) fun x89 =>
 ret (.nxt [(zd v5 0),(zd v5 1),(zd v5 2),(zd v5 3),(zd v5 4),x89])
def zgz (v3:List V):M Out :=
 zb (
 zb (
 zb (za (zx 3 (zd v3 3) (zd v3 5))) fun x44 =>
 zb (ldn 3 x44) fun x45 =>
 zb (newc [Value.int .i64 0,Value.int .i64 0,Value.int .i64 0]) fun x8 =>
 zb (stn 3 x8 x45) fun _ =>
 zb (
 zb (za (zg 0 x8)) fun x46 =>
 zb (z8 x46) fun x47 =>
 zb (za (zy .lss x47 (Value.int .i64 (-1)))) fun x48 =>
 zb (gd x48 false (za (zg 0 x8))) fun x50 =>
 zb (gd x48 false (z8 x50)) fun x51 =>
 zb (gd x48 false (za (some (zd v3 0)))) fun x52 =>
 zb (gd x48 false (za (zy .geq x51 x52))) fun x53 =>
 zb (za (zbb x48 (Value.bool true) x53)) fun x54 =>
 zb (gd x54 false (za (zg 2 x8))) fun x56 =>
 zb (gd x54 false (z8 x56)) fun x57 =>
 zb (gd x54 false (za (zy .lss x57 (Value.int .i64 1)))) fun x58 =>
 zb (za (zbb x54 (Value.bool true) x58)) fun x59 =>
 zb (gd x59 false (za (zg 1 x8))) fun x61 =>
 zb (gd x59 false (z8 x61)) fun x62 =>
 zb (gd x59 false (za (some (zd v3 2)))) fun x63 =>
 zb (gd x59 false (za (zy .lss x62 x63))) fun x64 =>
 zb (za (zbb x59 (Value.bool true) x64)) fun x65 =>
 zb (gd x65 false (za (zg 1 x8))) fun x67 =>
 zb (gd x65 false (z8 x67)) fun x68 =>
 zb (gd x65 false (za (zg 0 (zd v3 1)))) fun x69 =>
 zb (gd x65 false (z8 x69)) fun x70 =>
 zb (gd x65 false (za (zy .gtr x68 x70))) fun x71 =>
 zb (za (zbb x65 (Value.bool true) x71)) fun x72 =>
 zb (gd x72 false (za (zg 2 x8))) fun x74 =>
 zb (gd x72 false (z8 x74)) fun x75 =>
 zb (gd x72 false (za (zg 0 (zd v3 1)))) fun x76 =>
 zb (gd x72 false (z8 x76)) fun x77 =>
 zb (gd x72 false (za (zg 1 x8))) fun x78 =>
 zb (gd x72 false (z8 x78)) fun x79 =>
 zb (gd x72 false (za (zy .sub x77 x79))) fun x80 =>
 zb (gd x72 false (za (zy .gtr x75 x80))) fun x81 =>
 zb (za (zbb x72 (Value.bool true) x81)) fun x82 =>
 zn x82 (
 ret (.ret [(zd v3 5),(Value.int .i64 210)])
 ) (
 ret (.nxt [(zd v3 0),(zd v3 1),x8,(zd v3 3),(zd v3 4),(zd v3 5)])
 )
 ) fun o=>nx o z4v
 ) fun o=>ret (zz 2 o)
 ) fun o=>nx o z4w
def zfs (v2:List V):M Out :=
 zb (za (zy .lss (zd v2 5) (zd v2 4))) fun x42 =>
 zb (
 zn x42 (
 ret (.nxt [(zd v2 0),(zd v2 1),(zd v2 2),(zd v2 3),(zd v2 4),(zd v2 5)])
 ) (
 ret (.brk 1 [(zd v2 0),(zd v2 1)])
 )
 ) fun o=>nx o zgz
def z4x (v10:List V):M Out :=
 zb (za (zy .add (zd v10 2) (Value.int .i64 1))) fun x101 =>
 ret (.nxt [(zd v10 0),(zd v10 1),x101])
def z4y (v9:List V):M Out :=
 zb (
 zb (
 zb (ldn 2 (zd v9 0)) fun x97 =>
 zb (zr3 [x97,(zd v9 2)]) fun x99 =>
 zb (za (zy .eql x99 (Value.int .i64 0))) fun x100 =>
 zn x100 (
 ret (.ret [(Value.int .i64 (-1)),(Value.int .i64 210)])
 ) (
 ret (.nxt [(zd v9 0),(zd v9 1),(zd v9 2)])
 )
 ) fun o=>ret (zz 4 o)
 ) fun o=>nx o z4x
def zxf (v8:List V):M Out :=
 zb (za (zy .lss (zd v8 2) (zd v8 1))) fun x95 =>
 zb (
 zn x95 (
 ret (.nxt [(zd v8 0),(zd v8 1),(zd v8 2)])
 ) (
 ret (.brk 3 [])
 )
 ) fun o=>nx o z4y
def z4z (v11:List V):M Out :=
 ret (.ret [(Value.int .i64 0),(Value.int .i64 0)])
def z40 (v7:List V):M Out :=
 zb (
 zb (
 zbg zby zxf [(zd v7 1),(zd v7 0),(Value.int .i64 0)]
 ) fun o=>ret (zz 3 o)
 ) fun o=>nx o z4z
def z41 (v6:List V):M Out :=
 zb (
 zb (ldn 2 (zd v6 1)) fun x90 =>
 zb (zr3 [x90,(Value.int .i64 (-1))]) fun x91 =>
 zb (za (zy .gtr x91 (Value.int .i64 1))) fun x92 =>
 zn x92 (
 ret (.ret [(Value.int .i64 (-1)),(Value.int .i64 210)])
 ) (
 ret (.nxt [(zd v6 0),(zd v6 1)])
 )
 ) fun o=>nx o z40
def z2n (vs:List V):M Out :=
 zb (
 zb (za (zg 1 (zd vs 1))) fun x38 =>
 zb (z8 x38) fun x39 =>
 zb (za (zv x39)) fun x40 =>
 zb (
 zbg zby zfs [(zd vs 0),(zd vs 1),(Value.int .i64 0),x39,x40,(Value.int .i64 0)]
 ) fun o=>ret (zz 1 o)
 ) fun o=>nx o z41
def zgq (x0 x1:V):M V :=
 zb (
 zb (zeu x0) fun x2 =>
 zb (
 zb (
 zb (za (zy .lss x1 (Value.int .i64 1))) fun x12 =>
 zb (gd x12 false (za (some x1))) fun x14 =>
 zb (gd x12 false (za (zy .gtr x14 (Value.int .i64 8)))) fun x15 =>
 zb (za (zbb x12 (Value.bool true) x15)) fun x16 =>
 zn x16 (
 ret (.ret [(Value.int .i64 (-1)),(Value.int .i64 1)])
 ) (
 zb (za (zg 0 x2)) fun x18 =>
 zb (z8 x18) fun x19 =>
 zb (za (zy .lss x19 (Value.int .i64 1))) fun x20 =>
 zb (gd x20 false (za (zg 0 x2))) fun x22 =>
 zb (gd x20 false (z8 x22)) fun x23 =>
 zb (gd x20 false (za (zy .gtr x23 (Value.int .i64 65536)))) fun x24 =>
 zb (za (zbb x20 (Value.bool true) x24)) fun x25 =>
 zb (gd x25 false (za (zg 1 x2))) fun x27 =>
 zb (gd x25 false (z8 x27)) fun x28 =>
 zb (gd x25 false (za (zv x28))) fun x29 =>
 zb (gd x25 false (za (zy .lss x29 (Value.int .i64 1)))) fun x30 =>
 zb (za (zbb x25 (Value.bool true) x30)) fun x31 =>
 zb (gd x31 false (za (zg 1 x2))) fun x33 =>
 zb (gd x31 false (z8 x33)) fun x34 =>
 zb (gd x31 false (za (zv x34))) fun x35 =>
 zb (gd x31 false (za (zy .gtr x35 (Value.int .i64 32)))) fun x36 =>
 zb (za (zbb x31 (Value.bool true) x36)) fun x37 =>
 zn x37 (
 ret (.ret [(Value.int .i64 (-1)),(Value.int .i64 210)])
 ) (
 ret (.nxt [x1,x2])
 )
 )
 ) fun o=>ret (zz 0 o)
 ) fun o=>nx o z2n
 ) fun o=>zbl o fun vs=>ret (zbh [(zd vs 0),(zd vs 1)])
def zbhk:Hint:=(.seq [] .leaf (.seq [1,2] (.blk (.seq [] .leaf (.cond (.seq [] .leaf .leaf) (.seq [] .leaf (.cond (.seq [] .leaf .leaf) .leaf))))) (.seq [] .leaf (.seq [1,2] (.seq [] .leaf (.blk (.loop [1,2,6,39,40,41] (.seq [] .leaf (.seq [1,2,6,39,40,41] (.cond .leaf .leaf) (.seq [1,2,6,39,40,41] (.blk (.seq [] .leaf (.seq [1,2,8,39,40,41] (.seq [] .leaf (.cond (.seq [] .leaf .leaf) .leaf)) .leaf))) .leaf)))))) (.seq [1,2] (.seq [] .leaf (.cond (.seq [] .leaf .leaf) .leaf)) (.seq [] (.seq [] .leaf (.blk (.loop [2,93,94] (.seq [] .leaf (.seq [2,93,94] (.cond .leaf .leaf) (.seq [2,93,94] (.blk (.seq [] .leaf (.seq [] .leaf (.cond (.seq [] .leaf .leaf) .leaf)))) .leaf)))))) (.seq [] .leaf .leaf)))))))
def zts:List V→M V:=ap2 zgq
def zbhl:zu:=ovr [(z4p,zr3)] noC
theorem zbhm:zq Tryz.prog z16 (zts):=kn2 (σ:=zbhl) (hint:=zbhk) (by kernel_rfl) (zf zbj9 zl) fun _ _=>(by kernel_rfl)
def zu8 (x0 x1:V):M V :=
 zb (
 zb (zeu x0) fun x2 =>
 zb (za (zg 0 x2)) fun x4 =>
 zb (z8 x4) fun x5 =>
 zb (z8 x1) fun x6 =>
 zb (za (zy .geq x5 x6)) fun x7 =>
 ret (.ret [x7])
 ) fun o=>zbl o fun vs=>ret (zbh [(zd vs 0)])
def zbde:Hint:=(.seq [] .leaf (.seq [] .leaf .leaf))
def zem:List V→M V:=ap2 zu8
theorem z2o:zq Tryz.prog zdl (zem):=kn2 (σ:=ovr [] noC) (hint:=zbde) (by kernel_rfl) zl fun _ _=>(by kernel_rfl)
def zjv (S:zu) (v3:List V):M Out :=
 zb (za (zy .add (zd v3 3) (Value.int .i64 1))) fun x18 =>
 ret (.nxt [(zd v3 0),(zd v3 1),(zd v3 2),x18])
def zjw (S:zu) (v2:List V):M Out :=
 zb (
 zb (
 zb (za (zx 3 (zd v2 0) (zd v2 3))) fun x14 =>
 zb (ldn 3 x14) fun x15 =>
 zb (zmm (ovr [] S) (zd v2 1) [x15]) fun x16 =>
 zn x16 (
 ret (.ret [(zd v2 3)])
 ) (
 ret (.nxt [(zd v2 0),(zd v2 1),(zd v2 2),(zd v2 3)])
 )
 ) fun o=>ret (zz 1 o)
 ) fun o=>nx o (zjv S)
def zjx (S:zu) (vs:List V):M Out :=
 zb (za (zy .lss (zd vs 3) (zd vs 2))) fun x9 =>
 zb (
 zn x9 (
 ret (.nxt [(zd vs 0),(zd vs 1),(zd vs 2),(zd vs 3)])
 ) (
 ret (.brk 0 [])
 )
 ) fun o=>nx o (zjw S)
def zjy (S:zu) (v4:List V):M Out :=
 ret (.ret [(Value.int .i64 (-1))])
def zke (S:zu) (x0 x1:V):M V :=
 zb (
 zb (
 zb (za (zv x0)) fun x7 =>
 zb (
 zbg zby (zjx S) [x0,x1,x7,(Value.int .i64 0)]
 ) fun o=>ret (zz 0 o)
 ) fun o=>nx o (zjy S)
 ) fun o=>zbl o fun vs=>ret (zbh [(zd vs 0)])
def zkf:Hint:=(.seq [] .leaf (.seq [] (.seq [] .leaf (.blk (.loop [0,1,7,8] (.seq [] .leaf (.seq [0,1,7,8] (.cond .leaf .leaf) (.seq [0,1,7,8] (.blk (.seq [] .leaf (.seq [] .leaf (.cond (.seq [] .leaf .leaf) .leaf)))) .leaf)))))) (.seq [] .leaf .leaf)))
def zc3 (S:zu):List V→M V:=ap2 (zke S)
theorem zkg {S:zu} (hS:zd3 Tryz.prog S):zq Tryz.prog zej (zc3 S):=kn2 (σ:=ovr [] S) (hint:=zkf) (by kernel_rfl) (zea hS) fun _ _=>(by kernel_rfl)
def zi7 (S:zu) (x0 x1:V):M V :=
 zb (
 zb ((zc3 S) [x0,x1]) fun x7 =>
 zb (za (zy .geq x7 (Value.int .i64 0))) fun x8 =>
 ret (.ret [x8])
 ) fun o=>zbl o fun vs=>ret (zbh [(zd vs 0)])
def zi8:Hint:=(.seq [] .leaf (.seq [] .leaf .leaf))
def zbf (S:zu):List V→M V:=ap2 (zi7 S)
theorem zeh {S:zu} (hS:zd3 Tryz.prog S):zq Tryz.prog zcj (zbf S):=kn2 (σ:=ovr [(zej,zc3 S)] S) (hint:=zi8) (by kernel_rfl) (zf (zkg (zea hS)) (zea hS)) fun _ _=>(by kernel_rfl)
def zpl (x0 x1:V):M V :=
 zb (
 zb (zeu x0) fun x2 =>
 zb (za (zg 1 x2)) fun x4 =>
 zb (z8 x4) fun x5 =>
 zb (z8 x1) fun x6 =>
 zb (za (zy .geq x5 x6)) fun x7 =>
 zb (gd x7 false (za (zg 2 x2))) fun x9 =>
 zb (gd x7 false (z8 x9)) fun x10 =>
 zb (gd x7 false (z8 x1)) fun x11 =>
 zb (gd x7 false (za (zy .geq x10 x11))) fun x12 =>
 zb (za (zbb x7 (Value.bool true) x12)) fun x13 =>
 ret (.ret [x13])
 ) fun o=>zbl o fun vs=>ret (zbh [(zd vs 0)])
def zbdf:Hint:=(.seq [] .leaf (.seq [] .leaf .leaf))
def zen:List V→M V:=ap2 zpl
theorem z2p:zq Tryz.prog zdm (zen):=kn2 (σ:=ovr [] noC) (hint:=zbdf) (by kernel_rfl) zl fun _ _=>(by kernel_rfl)
def zku (S:zu) (v3:List V):M Out :=
 zb (za (zy .add (zd v3 3) (Value.int .i64 1))) fun x18 =>
 ret (.nxt [(zd v3 0),(zd v3 1),(zd v3 2),x18])
def zkv (S:zu) (v2:List V):M Out :=
 zb (
 zb (
 zb (za (zx 5 (zd v2 0) (zd v2 3))) fun x14 =>
 zb (ldn 5 x14) fun x15 =>
 zb (zmm (ovr [] S) (zd v2 1) [x15]) fun x16 =>
 zn x16 (
 ret (.ret [(zd v2 3)])
 ) (
 ret (.nxt [(zd v2 0),(zd v2 1),(zd v2 2),(zd v2 3)])
 )
 ) fun o=>ret (zz 1 o)
 ) fun o=>nx o (zku S)
def zkw (S:zu) (vs:List V):M Out :=
 zb (za (zy .lss (zd vs 3) (zd vs 2))) fun x9 =>
 zb (
 zn x9 (
 ret (.nxt [(zd vs 0),(zd vs 1),(zd vs 2),(zd vs 3)])
 ) (
 ret (.brk 0 [])
 )
 ) fun o=>nx o (zkv S)
def zkx (S:zu) (v4:List V):M Out :=
 ret (.ret [(Value.int .i64 (-1))])
def zlp (S:zu) (x0 x1:V):M V :=
 zb (
 zb (
 zb (za (zv x0)) fun x7 =>
 zb (
 zbg zby (zkw S) [x0,x1,x7,(Value.int .i64 0)]
 ) fun o=>ret (zz 0 o)
 ) fun o=>nx o (zkx S)
 ) fun o=>zbl o fun vs=>ret (zbh [(zd vs 0)])
def zlq:Hint:=(.seq [] .leaf (.seq [] (.seq [] .leaf (.blk (.loop [0,1,7,8] (.seq [] .leaf (.seq [0,1,7,8] (.cond .leaf .leaf) (.seq [0,1,7,8] (.blk (.seq [] .leaf (.seq [] .leaf (.cond (.seq [] .leaf .leaf) .leaf)))) .leaf)))))) (.seq [] .leaf .leaf)))
def zdg (S:zu):List V→M V:=ap2 (zlp S)
theorem zlr {S:zu} (hS:zd3 Tryz.prog S):zq Tryz.prog ze9 (zdg S):=kn2 (σ:=ovr [] S) (hint:=zlq) (by kernel_rfl) (zea hS) fun _ _=>(by kernel_rfl)
def zjz (S:zu) (x0 x1:V):M V :=
 zb (
 zb ((zdg S) [x0,x1]) fun x7 =>
 zb (za (zy .geq x7 (Value.int .i64 0))) fun x8 =>
 ret (.ret [x8])
 ) fun o=>zbl o fun vs=>ret (zbh [(zd vs 0)])
def zj0:Hint:=(.seq [] .leaf (.seq [] .leaf .leaf))
def zbx (S:zu):List V→M V:=ap2 (zjz S)
theorem zj1 {S:zu} (hS:zd3 Tryz.prog S):zq Tryz.prog zeg (zbx S):=kn2 (σ:=ovr [(ze9,zdg S)] S) (hint:=zj0) (by kernel_rfl) (zf (zlr (zea hS)) (zea hS)) fun _ _=>(by kernel_rfl)
def z42 (vs:List V):M Out :=
 zb (za (build [] [])) fun x15 =>
 zb (za (some (Value.iface zuu x15))) fun x16 =>
 ret (.ret [x16])
def zpm (x0:V):M V :=
 zb (
 zb (zeu x0) fun x1 =>
 zb (
 zb (za (zg 0 x1)) fun x3 =>
 zb (z8 x3) fun x4 =>
 zb (
 zb (za (zy .eql x4 (Value.int .i64 1))) fun x6 =>
 zn x6 (
 zb (za (zg 1 x1)) fun x7 =>
 zb (z8 x7) fun x8 =>
 zb (za (some (Value.iface zo7 x8))) fun x9 =>
 ret (.ret [x9])
 ) (
 zb (za (zy .eql x4 (Value.int .i64 2))) fun x11 =>
 zn x11 (
 zb (za (zg 1 x1)) fun x12 =>
 zb (z8 x12) fun x13 =>
 zb (za (some (Value.iface zre x13))) fun x14 =>
 ret (.ret [x14])
 ) (
 ret (.nxt [])
 )
 )
 ) fun o=>ret (zz 0 o)
 ) fun o=>nx o z42
 ) fun o=>zbl o fun vs=>ret (zbh [(zd vs 0)])
def zbhn:Hint:=(.seq [] .leaf (.seq [] (.seq [] .leaf (.blk (.seq [] .leaf (.cond (.seq [] .leaf .leaf) (.seq [] .leaf (.cond (.seq [] .leaf .leaf) .leaf)))))) (.seq [] .leaf .leaf)))
def zeo:List V→M V:=ap1 zpm
theorem z8b:zq Tryz.prog zha (zeo):=kn1 (σ:=ovr [] noC) (hint:=zbhn) (by kernel_rfl) zl fun _=>(by kernel_rfl)
def zg0 (v3:List V):M Out :=
 zb (za (zy .add (zd v3 3) (Value.int .i64 1))) fun x18 =>
 ret (.nxt [(zd v3 0),(zd v3 1),(zd v3 2),x18])
def zdz (v2:List V):M Out :=
 zb (
 zb (
 zb (za (zx 2 (zd v2 0) (zd v2 3))) fun x14 =>
 zb (ldn 2 (zd v2 1)) fun x11 =>
 zb (ldn 2 x14) fun x15 =>
 zb (za (zcz false (zho [.i,.i] x11 x15))) fun x16 =>
 zn x16 (
 ret (.ret [(zd v2 3)])
 ) (
 ret (.nxt [(zd v2 0),(zd v2 1),(zd v2 2),(zd v2 3)])
 )
 ) fun o=>ret (zz 1 o)
 ) fun o=>nx o zg0
def zcq (vs:List V):M Out :=
 zb (za (zy .lss (zd vs 3) (zd vs 2))) fun x9 =>
 zb (
 zn x9 (
 ret (.nxt [(zd vs 0),(zd vs 1),(zd vs 2),(zd vs 3)])
 ) (
 ret (.brk 0 [])
 )
 ) fun o=>nx o zdz
def zg1 (v4:List V):M Out :=
 ret (.ret [(Value.int .i64 (-1))])
def zd4 (x0 x1:V):M V :=
 zb (
 zb (zeu x1) fun x3 =>
 zb (
 zb (za (zv x0)) fun x7 =>
 zb (
 zbg zby zcq [x0,x3,x7,(Value.int .i64 0)]
 ) fun o=>ret (zz 0 o)
 ) fun o=>nx o zg1
 ) fun o=>zbl o fun vs=>ret (zbh [(zd vs 0)])
def zny:Hint:=(.seq [] .leaf (.seq [] (.seq [] .leaf (.blk (.loop [0,3,7,8] (.seq [] .leaf (.seq [0,3,7,8] (.cond .leaf .leaf) (.seq [0,3,7,8] (.blk (.seq [] .leaf (.seq [] (.reg [1,2,3,0,4,5] []) (.cond (.seq [] .leaf .leaf) .leaf)))) .leaf)))))) (.seq [] .leaf .leaf)))
def zcu:List V→M V:=ap2 zd4
theorem znz:zq Tryz.prog zgi (zcu):=kn2 (σ:=ovr [] noC) (hint:=zny) (by kernel_rfl) zl fun _ _=>(by kernel_rfl)
def zdq (x0 x1:V):M V :=
 zb (
 zb (zeu x1) fun x3 =>
 zb (ldn 2 x3) fun x6 =>
 zb (zcu [x0,x6]) fun x7 =>
 zb (za (zy .geq x7 (Value.int .i64 0))) fun x8 =>
 ret (.ret [x8])
 ) fun o=>zbl o fun vs=>ret (zbh [(zd vs 0)])
def zmf:Hint:=(.seq [] .leaf (.seq [] .leaf .leaf))
def zbk:List V→M V:=ap2 zdq
def zmg:zu:=ovr [(zgi,zcu)] noC
theorem zmh:zq Tryz.prog zb6 (zbk):=kn2 (σ:=zmg) (hint:=zmf) (by kernel_rfl) (zf znz zl) fun _ _=>(by kernel_rfl)
def zd5 (x0 x1 x2 x3:V):M V :=
 zb (
 zb (zeu x0) fun x4 =>
 zb (za (zg 0 x4)) fun x6 =>
 zb (z8 x6) fun x7 =>
 zb (z8 x1) fun x8 =>
 zb (za (zy .eql x7 x8)) fun x9 =>
 zb (gd x9 true (za (zg 1 x4))) fun x11 =>
 zb (gd x9 true (z8 x11)) fun x12 =>
 zb (gd x9 true (z8 x2)) fun x13 =>
 zb (gd x9 true (za (zy .eql x12 x13))) fun x14 =>
 zb (za (zbb x9 x14 (Value.bool false))) fun x15 =>
 zb (gd x15 true (za (zg 2 x4))) fun x17 =>
 zb (gd x15 true (z8 x17)) fun x18 =>
 zb (gd x15 true (za (some x18))) fun x19 =>
 zb (gd x19 false (z8 x3)) fun x20 =>
 zb (gd x19 false (za (un .not x20))) fun x21 =>
 zb (gd x15 true (za (zbb x19 (Value.bool true) x21))) fun x22 =>
 zb (za (zbb x15 x22 (Value.bool false))) fun x23 =>
 ret (.ret [x23])
 ) fun o=>zbl o fun vs=>ret (zbh [(zd vs 0)])
def z6n:Hint:=(.seq [] .leaf (.seq [] .leaf .leaf))
def zfi:List V→M V:=ap4 zd5
theorem z6o:zq Tryz.prog zeb (zfi):=kn4 (σ:=ovr [] noC) (hint:=z6n) (by kernel_rfl) zl fun _ _ _ _=>(by kernel_rfl)
def zq2 (x0 x1 x2 x3:V):M V :=
 zb (
 zb (zeu x0) fun x4 =>
 zb (zeu x1) fun x5 =>
 zb (zeu x2) fun x6 =>
 zb (zeu x3) fun x7 =>
 zb (za (zg 1 x5)) fun x9 =>
 zb (z8 x9) fun x10 =>
 zb (za (some (Value.func (.func zeb) #[] #[x6,x4,x7]))) fun x11 =>
 zb ((zbf (ovr [(zeb,zfi)] noC)) [x10,x11]) fun x12 =>
 ret (.ret [x12])
 ) fun o=>zbl o fun vs=>ret (zbh [(zd vs 0)])
def z91:Hint:=(.seq [] .leaf (.seq [] .leaf .leaf))
def zi1:List V→M V:=ap4 zq2
def z92:zu:=ovr [(zcj,zbf (ovr [(zeb,zfi)] noC))] noC
theorem z93:zq Tryz.prog zhb (zi1):=kn4 (σ:=z92) (hint:=z91) (by kernel_rfl) (zf (zeh (zf z6o zl)) zl) fun _ _ _ _=>(by kernel_rfl)
def zq3 (v2:List V):M Out :=
 zb (za (zg 2 (zd v2 2))) fun x27 =>
 zb (z8 x27) fun x28 =>
 zb (za (zx 5 x28 (zd v2 0))) fun x30 =>
 zb (za (zg 2 x30)) fun x31 =>
 zb (z8 x31) fun x32 =>
 zb (za (zy .eql x32 (zd v2 1))) fun x34 =>
 ret (.ret [x34])
def zq4 (vs:List V):M Out :=
 zb (
 zn (zd vs 2) (
 zb (za (zg 2 (zd vs 3))) fun x19 =>
 zb (z8 x19) fun x20 =>
 zb (za (zx 5 x20 (zd vs 0))) fun x22 =>
 zb (za (zg 1 x22)) fun x23 =>
 zb (z8 x23) fun x24 =>
 zb (za (zy .eql x24 (zd vs 1))) fun x26 =>
 ret (.ret [x26])
 ) (
 ret (.nxt [(zd vs 0),(zd vs 1),(zd vs 3)])
 )
 ) fun o=>nx o zq3
def zsn (x0 x1 x2 x3:V):M V :=
 zb (
 zb (zeu x1) fun x5 =>
 zb (
 zb (za (zy .lss x0 (Value.int .i64 0))) fun x10 =>
 zb (gd x10 false (za (some x0))) fun x12 =>
 zb (gd x10 false (za (zg 2 x5))) fun x13 =>
 zb (gd x10 false (z8 x13)) fun x14 =>
 zb (gd x10 false (za (zv x14))) fun x15 =>
 zb (gd x10 false (za (zy .geq x12 x15))) fun x16 =>
 zb (za (zbb x10 (Value.bool true) x16)) fun x17 =>
 zn x17 (
 ret (.ret [(Value.bool false)])
 ) (
 ret (.nxt [x0,x2,x3,x5])
 )
 ) fun o=>nx o zq4
 ) fun o=>zbl o fun vs=>ret (zbh [(zd vs 0)])
def zbbk:Hint:=(.seq [] .leaf (.seq [0,2,3,5] (.seq [] .leaf (.cond (.seq [] .leaf .leaf) .leaf)) (.seq [0,2,5] (.seq [] .leaf (.cond (.seq [] .leaf .leaf) .leaf)) (.seq [] .leaf .leaf))))
def zj2:List V→M V:=ap4 zsn
theorem zbbl:zq Tryz.prog zhz (zj2):=kn4 (σ:=ovr [] noC) (hint:=zbbk) (by kernel_rfl) zl fun _ _ _ _=>(by kernel_rfl)
def zq5 (x0 x1 x2 x3:V):M V :=
 zb (
 zb (zeu x0) fun x4 =>
 zb (zeu x1) fun x5 =>
 ret (.ret [(Value.bool false)])
 ) fun o=>zbl o fun vs=>ret (zbh [(zd vs 0)])
def z94:Hint:=(.seq [] .leaf (.seq [] .leaf .leaf))
def zi2:List V→M V:=ap4 zq5
theorem z95:zq Tryz.prog zhd (zi2):=kn4 (σ:=ovr [] noC) (hint:=z94) (by kernel_rfl) zl fun _ _ _ _=>(by kernel_rfl)
noncomputable def z43 (v4:List V):M Out :=
 zb (za (zy .add (zd v4 6) (Value.int .i64 1))) fun x35 =>
 ret (.nxt [(zd v4 0),(zd v4 1),(zd v4 2),(zd v4 3),(zd v4 4),(zd v4 5),x35])
noncomputable def z44 (v3:List V):M Out :=
 zb (
 zb (
 zb (za (zx 2 (zd v3 4) (zd v3 6))) fun x19 =>
 zb (ldn 2 x19) fun x20 =>
 zb (newc [Value.int .i64 0,Value.int .i64 0]) fun x10 =>
 zb (stn 2 x10 x20) fun _ =>
 zm9 fun h0 =>
 zb (ldn 2 x10) fun x21 =>
 zb (ldn 7 (zd v3 3)) fun x23 =>
 zc9 (zeo [x21]) fun ha x22 h1 =>
 zc9 (invM Tryz.prog (ovr [(zhb,zi1),(zhz,zj2),(zhd,zi2),(zha,zeo),(zb6,zbk)] noC) x22 "capstan/exec.may" [x23,(zd v3 0),(zd v3 2)]) fun ha_2 x26 h2 =>
 zb (za (un .not x26)) fun x27 =>
 zb (gd x27 false (za (some (zd v3 1)))) fun x29 =>
 zb (gd x27 false (za (some (zd v3 6)))) fun x30 =>
 zb (gd x27 false (za (zhs 2 x29 none (some x30)))) fun x31 =>
 zb (gd x27 false (ldn 2 x10)) fun x32 =>
 zc9 (gd x27 false (zbk [x31,x32])) fun ha_3 x33 h3 =>
 zb (za (zbb x27 (Value.bool true) x33)) fun x34 =>
 zjs (chk (ldn 7 (zd v3 3)) h1 x23) <|
 zn x34 (
 ret (.ret [(Value.bool false)])
 ) (
 ret (.nxt [(zd v3 0),(zd v3 1),(zd v3 2),(zd v3 3),(zd v3 4),(zd v3 5),(zd v3 6)])
 )
 ) fun o=>ret (zz 1 o)
 ) fun o=>nx o z43
noncomputable def zxg (v2:List V):M Out :=
 zb (za (zy .lss (zd v2 6) (zd v2 5))) fun x17 =>
 zb (
 zn x17 (
 ret (.nxt [(zd v2 0),(zd v2 1),(zd v2 2),(zd v2 3),(zd v2 4),(zd v2 5),(zd v2 6)])
 ) (
 ret (.brk 0 [])
 )
 ) fun o=>nx o z44
noncomputable def z45 (v5:List V):M Out :=
 ret (.ret [(Value.bool true)])
noncomputable def z47 (vs:List V):M Out :=
 zb (
 zb (za (zv (zd vs 1))) fun x15 =>
 zb (
 zbg zby zxg [(zd vs 0),(zd vs 1),(zd vs 2),(zd vs 3),(zd vs 1),x15,(Value.int .i64 0)]
 ) fun o=>ret (zz 0 o)
 ) fun o=>nx o z45
noncomputable def zzx (x0 x1 x2 x3:V):M V :=
 zb (
 zb (zeu x0) fun x4 =>
 zb (
 zb (za (zv x2)) fun x12 =>
 zb (za (zy .gtr x12 (Value.int .i64 32))) fun x13 =>
 zn x13 (
 ret (.ret [(Value.bool false)])
 ) (
 ret (.nxt [x1,x2,x3,x4])
 )
 ) fun o=>nx o z47
 ) fun o=>zbl o fun vs=>ret (zbh [(zd vs 0)])
def zbho:Hint:=(.seq [] .leaf (.seq [1,2,3,4] (.seq [] .leaf (.cond (.seq [] .leaf .leaf) .leaf)) (.seq [] (.seq [] .leaf (.blk (.loop [1,2,3,4,14,15,16] (.seq [] .leaf (.seq [1,2,3,4,14,15,16] (.cond .leaf .leaf) (.seq [1,2,3,4,14,15,16] (.blk (.seq [] .leaf (.seq [] (.reg [3,4,0,2,1,5,6,7,8,9,10,11,12,13] []) (.cond (.seq [] .leaf .leaf) .leaf)))) .leaf)))))) (.seq [] .leaf .leaf))))
noncomputable def zpn:List V→M V:=ap4 zzx
noncomputable def zbhp:zu:=ovr [(zhb,zi1),(zhz,zj2),(zhd,zi2),(zha,zeo),(zb6,zbk)] noC
theorem zbhq:zq Tryz.prog z17 (zpn):=kn4 (σ:=zbhp) (hint:=zbho) (by kernel_rfl) (zf z93 (zf zbbl (zf z95 (zf z8b (zf zmh zl))))) fun _ _ _ _=>(by kernel_rfl)
noncomputable def z48 (v7:List V):M Out :=
 zb (za (zy .add (zd v7 3) (Value.int .i64 1))) fun x89 =>
 ret (.nxt [(zd v7 0),(zd v7 1),(zd v7 2),x89])
noncomputable def z49 (v6:List V):M Out :=
 zb (
 zb (
 zb (za (zx 2 (zd v6 1) (zd v6 3))) fun x73 =>
 zb (ldn 2 x73) fun x74 =>
 zb (newc [Value.slice none 0 0,Value.slice none 0 0]) fun x11 =>
 zb (stn 2 x11 x74) fun _ =>
 zb (ldn 7 (zd v6 0)) fun x75 =>
 zb (za (zg 0 x11)) fun x77 =>
 zb (z8 x77) fun x78 =>
 zb (zpn [x75,(zd v6 3),x78,(Value.bool false)]) fun x79 =>
 zb (za (un .not x79)) fun x80 =>
 zb (gd x80 false (ldn 7 (zd v6 0))) fun x82 =>
 zb (gd x80 false (za (some (zd v6 3)))) fun x83 =>
 zb (gd x80 false (za (zg 1 x11))) fun x84 =>
 zb (gd x80 false (z8 x84)) fun x85 =>
 zb (gd x80 false (zpn [x82,x83,x85,(Value.bool true)])) fun x86 =>
 zb (gd x80 false (za (un .not x86))) fun x87 =>
 zb (za (zbb x80 (Value.bool true) x87)) fun x88 =>
 zn x88 (
 ret (.ret [(Value.int .i64 270)])
 ) (
 ret (.nxt [(zd v6 0),(zd v6 1),(zd v6 2),(zd v6 3)])
 )
 ) fun o=>ret (zz 1 o)
 ) fun o=>nx o z48
noncomputable def zxh (v5:List V):M Out :=
 zb (za (zy .lss (zd v5 3) (zd v5 2))) fun x71 =>
 zb (
 zn x71 (
 ret (.nxt [(zd v5 0),(zd v5 1),(zd v5 2),(zd v5 3)])
 ) (
 ret (.brk 0 [])
 )
 ) fun o=>nx o z49
noncomputable def z5a (v8:List V):M Out :=
 ret (.ret [(Value.int .i64 0)])
noncomputable def zrh (v4:List V):M Out :=
 zb (
 zb (za (zg 5 (zd v4 0))) fun x67 =>
 zb (z8 x67) fun x68 =>
 zb (za (zv x68)) fun x69 =>
 zb (
 zbg zby zxh [(zd v4 0),x68,x69,(Value.int .i64 0)]
 ) fun o=>ret (zz 0 o)
 ) fun o=>nx o z5a
noncomputable def z5b (v3:List V):M Out :=
 zb (za (zg 5 (zd v3 0))) fun x44 =>
 zb (z8 x44) fun x45 =>
 zb (za (zv x45)) fun x46 =>
 zb (newc [Value.int .i64 0]) fun x9 =>
 zb (st1 x9 x46) fun _ =>
 zb (
 zb (za (zg 6 (zd v3 0))) fun x47 =>
 zb (z8 x47) fun x48 =>
 zb (za (zy .lss x48 (Value.int .i64 1))) fun x49 =>
 zb (gd x49 false (za (zg 6 (zd v3 0)))) fun x51 =>
 zb (gd x49 false (z8 x51)) fun x52 =>
 zb (gd x49 false (za (zy .gtr x52 (Value.int .i64 10000)))) fun x53 =>
 zb (za (zbb x49 (Value.bool true) x53)) fun x54 =>
 zb (gd x54 false (za (zg 1 (zd v3 0)))) fun x56 =>
 zb (gd x54 false (z8 x56)) fun x57 =>
 zb (gd x54 false (za (some (Value.func (.func zdl) #[] #[x9])))) fun x58 =>
 zb (gd x54 false ((zbf (ovr [(zdl,zem),(zdm,zen)] noC)) [x57,x58])) fun x59 =>
 zb (za (zbb x54 (Value.bool true) x59)) fun x60 =>
 zb (gd x60 false (za (zg 2 (zd v3 0)))) fun x62 =>
 zb (gd x60 false (z8 x62)) fun x63 =>
 zb (gd x60 false (za (some (Value.func (.func zdm) #[] #[x9])))) fun x64 =>
 zb (gd x60 false ((zbx (ovr [(zdl,zem),(zdm,zen)] noC)) [x63,x64])) fun x65 =>
 zb (za (zbb x60 (Value.bool true) x65)) fun x66 =>
 zn x66 (
 ret (.ret [(Value.int .i64 270)])
 ) (
 ret (.nxt [(zd v3 0)])
 )
 ) fun o=>nx o zrh
noncomputable def z5c (v2:List V):M Out :=
 zb (
 zb (za (zg 3 (zd v2 0))) fun x33 =>
 zb (ldn 2 x33) fun x34 =>
 zb (za (zg 5 (zd v2 0))) fun x35 =>
 zb (z8 x35) fun x36 =>
 zb (za (zv x36)) fun x37 =>
 zb (zts [x34,x37]) fun x38 =>
 zb (za (ext 0 x38)) fun x39 =>
 zb (za (ext 1 x38)) fun x40 =>
 zb (za (zy .neq x40 (Value.int .i64 0))) fun x42 =>
 zn x42 (
 ret (.ret [x40])
 ) (
 ret (.nxt [(zd v2 0)])
 )
 ) fun o=>nx o z5b
noncomputable def z5d (vs:List V):M Out :=
 zb (
 zb (za (zg 2 (zd vs 0))) fun x24 =>
 zb (z8 x24) fun x25 =>
 zb (zj8 [x25]) fun x26 =>
 zb (za (ext 0 x26)) fun x27 =>
 zb (za (ext 1 x26)) fun x28 =>
 zb (za (zy .neq x28 (Value.int .i64 0))) fun x30 =>
 zn x30 (
 ret (.ret [x28])
 ) (
 ret (.nxt [(zd vs 0)])
 )
 ) fun o=>nx o z5c
noncomputable def zzy (x0:V):M V :=
 zb (
 zb (zeu x0) fun x1 =>
 zb (
 zb (za (zg 0 x1)) fun x13 =>
 zb (z8 x13) fun x14 =>
 zb (za (zg 1 x1)) fun x15 =>
 zb (z8 x15) fun x16 =>
 zb (zi0 [x14,x16]) fun x17 =>
 zb (za (ext 0 x17)) fun x18 =>
 zb (za (ext 1 x17)) fun x19 =>
 zb (za (zy .neq x19 (Value.int .i64 0))) fun x21 =>
 zn x21 (
 ret (.ret [x19])
 ) (
 ret (.nxt [x1])
 )
 ) fun o=>nx o z5d
 ) fun o=>zbl o fun vs=>ret (zbh [(zd vs 0)])
def zbhr:Hint:=(.seq [] .leaf (.seq [1] (.seq [] .leaf (.seq [] .leaf (.cond (.seq [] .leaf .leaf) .leaf))) (.seq [1] (.seq [] .leaf (.seq [] .leaf (.cond (.seq [] .leaf .leaf) .leaf))) (.seq [1] (.seq [] .leaf (.seq [] .leaf (.cond (.seq [] .leaf .leaf) .leaf))) (.seq [] .leaf (.seq [1] (.seq [] .leaf (.cond (.seq [] .leaf .leaf) .leaf)) (.seq [] (.seq [] .leaf (.blk (.loop [1,68,69,70] (.seq [] .leaf (.seq [1,68,69,70] (.cond .leaf .leaf) (.seq [1,68,69,70] (.blk (.seq [] .leaf (.seq [] .leaf (.cond (.seq [] .leaf .leaf) .leaf)))) .leaf)))))) (.seq [] .leaf .leaf))))))))
noncomputable def ztt:List V→M V:=ap1 zzy
noncomputable def zbhs:zu:=ovr [(zqx,zi0),(zsj,zj8),(z16,zts),(zcj,zbf (ovr [(zdl,zem),(zdm,zen)] noC)),(zeg,zbx (ovr [(zdl,zem),(zdm,zen)] noC)),(z17,zpn)] noC
theorem zbht:zq Tryz.prog z13 (ztt):=kn1 (σ:=zbhs) (hint:=zbhr) (by kernel_rfl) (zf z2f (zf z4u (zf zbhm (zf (zeh (zf z2o (zf z2p zl))) (zf (zj1 (zf z2o (zf z2p zl))) (zf zbhq zl)))))) fun _=>(by kernel_rfl)
def zky (vs:List V):M Out :=
 zb (zd2 3 0 (rep 0 [Value.int .i64 0,Value.int .i64 0,Value.int .i64 0]) []) fun x5 =>
 zb (zgm 3 24 x5 (zd vs 0)) fun x7 =>
 ret (.ret [x7])
def zls (x0:V):M V :=
 zb (
 zb (
 zb (za (zcz false (zd9 .s x0))) fun x4 =>
 zn x4 (
 ret (.ret [(Value.slice none 0 0)])
 ) (
 ret (.nxt [x0])
 )
 ) fun o=>nx o zky
 ) fun o=>zbl o fun vs=>ret (zbh [(zd vs 0)])
def zlt:Hint:=(.seq [] .leaf (.seq [0] (.seq [] .leaf (.cond (.seq [] .leaf .leaf) .leaf)) (.seq [] .leaf .leaf)))
def zdh:List V→M V:=ap1 zls
theorem zlu:zq Tryz.prog ze8 (zdh):=kn1 (σ:=ovr [] noC) (hint:=zlt) (by kernel_rfl) zl fun _=>(by kernel_rfl)
def zf7 (vs:List V):M Out :=
 zb (zd2 2 0 (rep 0 [Value.int .i64 0,Value.bool false]) []) fun x5 =>
 zb (zgm 2 16 x5 (zd vs 0)) fun x7 =>
 ret (.ret [x7])
def zck (x0:V):M V :=
 zb (
 zb (
 zb (za (zcz false (zd9 .s x0))) fun x4 =>
 zn x4 (
 ret (.ret [(Value.slice none 0 0)])
 ) (
 ret (.nxt [x0])
 )
 ) fun o=>nx o zf7
 ) fun o=>zbl o fun vs=>ret (zbh [(zd vs 0)])
def zmy:Hint:=(.seq [] .leaf (.seq [0] (.seq [] .leaf (.cond (.seq [] .leaf .leaf) .leaf)) (.seq [] .leaf .leaf)))
def zcl:List V→M V:=ap1 zck
theorem zmz:zq Tryz.prog zfz (zcl):=kn1 (σ:=ovr [] noC) (hint:=zmy) (by kernel_rfl) zl fun _=>(by kernel_rfl)
def zxi (v4:List V):M Out :=
 zb (za (zy .add (zd v4 3) (Value.int .i64 1))) fun x57 =>
 ret (.nxt [(zd v4 0),(zd v4 1),(zd v4 2),x57])
def zxj (v3:List V):M Out :=
 zb (
 zb (
 zb (za (zx 3 (zd v3 1) (zd v3 3))) fun x35 =>
 zb (ldn 3 x35) fun x36 =>
 zb (newc [Value.int .i64 0,Value.int .i64 0,Value.bool false]) fun x10 =>
 zb (stn 3 x10 x36) fun _ =>
 zb (za (zg 0 x10)) fun x37 =>
 zb (z8 x37) fun x38 =>
 zb (za (zg 1 x10)) fun x39 =>
 zb (z8 x39) fun x40 =>
 zb (za (build [Value.int .i64 0,Value.int .i64 0] [(0,1,x38),(1,1,x40)])) fun x41 =>
 zb (newc [Value.int .i64 0,Value.int .i64 0]) fun x11 =>
 zb (stn 2 x11 x41) fun _ =>
 zb (za (zci (zd v3 0))) fun x43 =>
 zb (za (zg 1 x43)) fun x44 =>
 zb (za (zci (zd v3 0))) fun x48 =>
 zb (za (zg 1 x48)) fun x49 =>
 zb (z8 x44) fun x45 =>
 zb (ldn 2 x11) fun x46 =>
 zb (z8 x49) fun x50 =>
 zb (ldn 2 x11) fun x51 =>
 zb (lookup (.agg [.i,.i]) (Value.bool false) false x50 x51) fun x52 =>
 zb (gd x52 false (za (zg 2 x10))) fun x54 =>
 zb (gd x52 false (z8 x54)) fun x55 =>
 zb (za (zbb x52 (Value.bool true) x55)) fun x56 =>
 zb (zga (.agg [.i,.i]) x45 x46 x56) fun _ =>
 ret (.nxt [(zd v3 0),(zd v3 1),(zd v3 2),(zd v3 3)])
 ) fun o=>ret (zz 1 o)
 ) fun o=>nx o zxi
def zni (v2:List V):M Out :=
 zb (za (zy .lss (zd v2 3) (zd v2 2))) fun x34 =>
 zb (
 zn x34 (
 ret (.nxt [(zd v2 0),(zd v2 1),(zd v2 2),(zd v2 3)])
 ) (
 ret (.brk 0 [(zd v2 0)])
 )
 ) fun o=>nx o zxj
def z5e (v5:List V):M Out :=
 ret (.ret [(zd v5 0),(Value.int .i64 0)])
def z5f (vs:List V):M Out :=
 zul 4 fun base h0 =>
 zb (za (zv (zd vs 0))) fun x25 =>
 zc9 (zcl [(zd vs 0)]) fun ha x22 h1 =>
 zjs (zgn ha [base + 0,base + 1,base + 2,base + 3] && zgn h1 [base + 0,base + 1,base + 2,base + 3]) <|
 zb (flt (base + 0) (zub)) fun x23 =>
 zb (flt (base + 1) (z0j 1 8 [Value.int .i64 0] x25 x25)) fun x26 =>
 zb (flt (base + 2) (zub)) fun x27 =>
 zb (flt (base + 3) (zub)) fun x28 =>
 zb (za (build [Value.slice none 0 0,Value.map none,Value.slice none 0 0,Value.map none,Value.map none] [(0,1,x22),(1,1,x23),(2,1,x26),(3,1,x27),(4,1,x28)])) fun x29 =>
 zc9 (zeu x29) fun ha_2 x30 h2 =>
 zb (
 zb (za (zv (zd vs 1))) fun x32 =>
 zb (
 zbg zby zni [x30,(zd vs 1),x32,(Value.int .i64 0)]
 ) fun o=>ret (zz 0 o)
 ) fun o=>nx o z5e
def zzz (x0 x1:V):M V :=
 zb (
 zb (
 zb (zi0 [x0,x1]) fun x15 =>
 zb (za (ext 0 x15)) fun x16 =>
 zb (za (ext 1 x15)) fun x17 =>
 zb (za (zy .neq x17 (Value.int .i64 0))) fun x19 =>
 zn x19 (
 ret (.ret [(Value.pointer none),x17])
 ) (
 ret (.nxt [x0,x1])
 )
 ) fun o=>nx o z5f
 ) fun o=>zbl o fun vs=>ret (zbh [(zd vs 0),(zd vs 1)])
def zbhu:Hint:=(.seq [] .leaf (.seq [0,1] (.seq [] .leaf (.seq [] .leaf (.cond (.seq [] .leaf .leaf) .leaf))) (.seq [] (.reg [0,3,4,1,2,5,6,7,8,9,10] [2,5,6,7]) (.seq [8] (.seq [] .leaf (.blk (.loop [8,31,32,33] (.seq [] .leaf (.seq [8,31,32,33] (.cond .leaf .leaf) (.seq [8,31,32,33] (.blk (.seq [] .leaf (.seq [] .leaf (.reg [0,1,2,5,6,7,3,4,8,9,10,11,12,13,14,15] [])))) .leaf)))))) (.seq [] .leaf .leaf)))))
def ztu:List V→M V:=ap2 zzz
def zbhv:zu:=ovr [(zqx,zi0),(zfz,zcl)] noC
theorem zbhw:zq Tryz.prog z14 (ztu):=kn2 (σ:=zbhv) (hint:=zbhu) (by kernel_rfl) (zf z2f (zf zmz zl)) fun _ _=>(by kernel_rfl)
def znj (vs:List V):M Out :=
 zb (zd2 5 0 (rep 0 [Value.int .i64 0,Value.int .i64 0,Value.int .i64 0,Value.int .i64 0,Value.int .i64 0]) []) fun x5 =>
 zb (zgm 5 40 x5 (zd vs 0)) fun x7 =>
 ret (.ret [x7])
def zn0 (x0:V):M V :=
 zb (
 zb (
 zb (za (zcz false (zd9 .s x0))) fun x4 =>
 zn x4 (
 ret (.ret [(Value.slice none 0 0)])
 ) (
 ret (.nxt [x0])
 )
 ) fun o=>nx o znj
 ) fun o=>zbl o fun vs=>ret (zbh [(zd vs 0)])
def zn1:Hint:=(.seq [] .leaf (.seq [0] (.seq [] .leaf (.cond (.seq [] .leaf .leaf) .leaf)) (.seq [] .leaf .leaf)))
def zd6:List V→M V:=ap1 zn0
theorem zn2:zq Tryz.prog zgh (zd6):=kn1 (σ:=ovr [] noC) (hint:=zn1) (by kernel_rfl) zl fun _=>(by kernel_rfl)
def z8c (vs:List V):M Out :=
 zul 1 fun base h0 =>
 zb (za (zv (zd vs 0))) fun x17 =>
 zc9 (zd6 [(zd vs 0)]) fun ha x15 h1 =>
 zjs (zgn ha [base + 0] && zgn h1 [base + 0]) <|
 zb (flt (base + 0) (z0j 4 64 [Value.slice none 0 0,Value.slice none 0 0,Value.int .i64 0,Value.int .i64 0] x17 x17)) fun x18 =>
 zb (za (build [Value.slice none 0 0,Value.slice none 0 0] [(0,1,x15),(1,1,x18)])) fun x19 =>
 zc9 (zeu x19) fun ha_2 x20 h2 =>
 ret (.ret [x20,(Value.int .i64 0)])
def z2q (x0:V):M V :=
 zb (
 zb (
 zb (zj8 [x0]) fun x8 =>
 zb (za (ext 0 x8)) fun x9 =>
 zb (za (ext 1 x8)) fun x10 =>
 zb (za (zy .neq x10 (Value.int .i64 0))) fun x12 =>
 zn x12 (
 ret (.ret [(Value.pointer none),x10])
 ) (
 ret (.nxt [x0])
 )
 ) fun o=>nx o z8c
 ) fun o=>zbl o fun vs=>ret (zbh [(zd vs 0),(zd vs 1)])
def zbka:Hint:=(.seq [] .leaf (.seq [0] (.seq [] .leaf (.seq [] .leaf (.cond (.seq [] .leaf .leaf) .leaf))) (.seq [] (.reg [0,2,3,1,4,5,6,7,8] [4]) .leaf)))
def zwp:List V→M V:=ap1 z2q
def zbkb:zu:=ovr [(zsj,zj8),(zgh,zd6)] noC
theorem zbkc:zq Tryz.prog z4n (zwp):=kn1 (σ:=zbkb) (hint:=zbka) (by kernel_rfl) (zf z4u (zf zn2 zl)) fun _=>(by kernel_rfl)
def zpo (x0 x1:V):M V :=
 zb (
 zb (zeu x1) fun x3 =>
 zb (za (zg 0 x3)) fun x5 =>
 zb (z8 x5) fun x6 =>
 zb (za (zx 2 x6 x0)) fun x8 =>
 zb (za (zg 0 x8)) fun x9 =>
 zb (z8 x9) fun x10 =>
 ret (.ret [x10])
 ) fun o=>zbl o fun vs=>ret (zbh [(zd vs 0)])
def z8d:Hint:=(.seq [] .leaf (.seq [] .leaf .leaf))
def zko:List V→M V:=ap2 zpo
theorem z8e:zq Tryz.prog zgj (zko):=kn2 (σ:=ovr [] noC) (hint:=z8d) (by kernel_rfl) zl fun _ _=>(by kernel_rfl)
def zq6 (x0 x1:V):M V :=
 zb (
 zb (zeu x1) fun x3 =>
 zb (za (zg 2 x3)) fun x5 =>
 zb (z8 x5) fun x6 =>
 zb (za (zx 5 x6 x0)) fun x8 =>
 zb (za (zg 3 x8)) fun x9 =>
 zb (z8 x9) fun x10 =>
 ret (.ret [x10])
 ) fun o=>zbl o fun vs=>ret (zbh [(zd vs 0)])
def z96:Hint:=(.seq [] .leaf (.seq [] .leaf .leaf))
def zmi:List V→M V:=ap2 zq6
theorem z97:zq Tryz.prog zhc (zmi):=kn2 (σ:=ovr [] noC) (hint:=z96) (by kernel_rfl) zl fun _ _=>(by kernel_rfl)
def z8f (x0 x1:V):M V :=
 zb (
 zb (zeu x0) fun x2 =>
 zb (zeu x1) fun x3 =>
 ret (.ret [(Value.int .i64 0)])
 ) fun o=>zbl o fun vs=>ret (zbh [(zd vs 0)])
def z8g:Hint:=(.seq [] .leaf (.seq [] .leaf .leaf))
def zkp:List V→M V:=ap2 z8f
theorem z8h:zq Tryz.prog zik (zkp):=kn2 (σ:=ovr [] noC) (hint:=z8g) (by kernel_rfl) zl fun _ _=>(by kernel_rfl)
noncomputable def z8i (v3:List V):M Out :=
 zb (za (zy .add (zd v3 5) (Value.int .i64 1))) fun x26 =>
 ret (.nxt [(zd v3 0),(zd v3 1),(zd v3 2),(zd v3 3),(zd v3 4),x26])
noncomputable def z8j (v2:List V):M Out :=
 zb (
 zb (
 zb (za (zx 2 (zd v2 3) (zd v2 5))) fun x12 =>
 zb (ldn 2 x12) fun x13 =>
 zb (newc [Value.int .i64 0,Value.int .i64 0]) fun x7 =>
 zb (stn 2 x7 x13) fun _ =>
 zb (ldn 2 x7) fun x15 =>
 zb (zeo [x15]) fun x16 =>
 zb (zd2 1 1 (rep 1 [Value.nilIface]) [(0,1,x16)]) fun x17 =>
 zb (zgm 1 16 (zd v2 1) x17) fun x18 =>
 zm9 fun h0 =>
 zb (ldn 2 x7) fun x20 =>
 zb (ldn 7 (zd v2 0)) fun x22 =>
 zc9 (zeo [x20]) fun ha x21 h1 =>
 zc9 (invM Tryz.prog (ovr [(zgj,zko),(zhc,zmi),(zik,zkp),(zha,zeo)] noC) x21 "capstan/exec.kind" [x22]) fun ha_2 x23 h2 =>
 zc9 (zd2 1 1 (rep 1 [Value.int .i64 0]) [(0,1,x23)]) fun ha_3 x24 h3 =>
 zc9 (zgm 1 8 (zd v2 2) x24) fun ha_4 x25 h4 =>
 zjs (chk (ldn 7 (zd v2 0)) h1 x22) <|
 ret (.nxt [(zd v2 0),x18,x25,(zd v2 3),(zd v2 4),(zd v2 5)])
 ) fun o=>ret (zz 1 o)
 ) fun o=>nx o z8i
noncomputable def zz0 (vs:List V):M Out :=
 zb (za (zy .lss (zd vs 5) (zd vs 4))) fun x11 =>
 zb (
 zn x11 (
 ret (.nxt [(zd vs 0),(zd vs 1),(zd vs 2),(zd vs 3),(zd vs 4),(zd vs 5)])
 ) (
 ret (.brk 0 [(zd vs 1),(zd vs 2)])
 )
 ) fun o=>nx o z8j
noncomputable def z8k (v4:List V):M Out :=
 ret (.ret [(zd v4 0),(zd v4 1)])
noncomputable def z2r (x0 x1:V):M V :=
 zb (
 zb (zeu x0) fun x2 =>
 zb (
 zb (za (zv x1)) fun x9 =>
 zb (
 zbg zby zz0 [x2,(Value.slice none 0 0),(Value.slice none 0 0),x1,x9,(Value.int .i64 0)]
 ) fun o=>ret (zz 0 o)
 ) fun o=>nx o z8k
 ) fun o=>zbl o fun vs=>ret (zbh [(zd vs 0),(zd vs 1)])
def zbkd:Hint:=(.seq [] .leaf (.seq [4,5] (.seq [] .leaf (.blk (.loop [2,4,5,8,9,10] (.seq [] .leaf (.seq [2,4,5,8,9,10] (.cond .leaf .leaf) (.seq [2,4,5,8,9,10] (.blk (.seq [] .leaf (.seq [] .leaf (.reg [0,1,3,2,4,5,6,7] [])))) .leaf)))))) (.seq [] .leaf .leaf)))
noncomputable def zr4:List V→M V:=ap2 z2r
noncomputable def zbke:zu:=ovr [(zgj,zko),(zhc,zmi),(zik,zkp),(zha,zeo)] noC
theorem zbkf:zq Tryz.prog z4o (zr4):=kn2 (σ:=zbke) (hint:=zbkd) (by kernel_rfl) (zf z8e (zf z97 (zf z8h (zf z8b zl)))) fun _ _=>(by kernel_rfl)
def zxk (v2:List V):M Out :=
 ret (.ret [(zd v2 0)])
def zxl (vs:List V):M Out :=
 zb (
 zb (za (capV (zd vs 0))) fun x10 =>
 zb (za (zv (zd vs 0))) fun x12 =>
 zb (za (zy .sub x10 x12)) fun x13 =>
 zb (za (zy .sub (zd vs 1) x13)) fun x14 =>
 zb (za (zy .gtr x14 (Value.int .i64 0))) fun x16 =>
 zn x16 (
 zb (za (capV (zd vs 0))) fun x19 =>
 zb (za (zhs 1 (zd vs 0) none (some x19))) fun x20 =>
 zb (appZ 1 8 [Value.int .i64 0] x20 x14) fun x22 =>
 zb (za (zv (zd vs 0))) fun x24 =>
 zb (za (zhs 1 x22 none (some x24))) fun x25 =>
 ret (.nxt [x25])
 ) (
 ret (.nxt [(zd vs 0)])
 )
 ) fun o=>nx o zxk
def zyt (x0 x1:V):M V :=
 zb (
 zb (
 zb (za (zy .lss x1 (Value.int .i64 0))) fun x6 =>
 zn x6 (
 zb (za (some (Value.iface zct (Value.string ⟨#[99,97,110,110,111,116,32,98,101,32,110,101,103,97,116,105,118,101]⟩)))) fun x7 =>
 zb (za ((none:Option V))) fun _ =>
 ret (.nxt [x0,x1])
 ) (
 ret (.nxt [x0,x1])
 )
 ) fun o=>nx o zxl
 ) fun o=>zbl o fun vs=>ret (zbh [(zd vs 0)])
def zyu:Hint:=(.seq [] .leaf (.seq [0,1] (.seq [] .leaf (.cond .leaf .leaf)) (.seq [0] (.seq [] .leaf (.seq [] .leaf (.cond .leaf .leaf))) (.seq [] .leaf .leaf))))
def zi3:List V→M V:=ap2 zyt
theorem zyv:zq Tryz.prog zmn (zi3):=kn2 (σ:=ovr [] noC) (hint:=zyu) (by kernel_rfl) zl fun _ _=>(by kernel_rfl)
def zu9 (v3:List V):M Out :=
 zb (za (zy .add (zd v3 4) (Value.int .i64 1))) fun x22 =>
 ret (.nxt [(zd v3 0),(zd v3 1),(zd v3 2),(zd v3 3),x22])
def zva (v2:List V):M Out :=
 zb (
 zb (
 zb (za (zx 1 (zd v2 2) (zd v2 4))) fun x13 =>
 zb (z8 x13) fun x14 =>
 zb (za (zv x14)) fun x17 =>
 zb (za (zy .add (zd v2 1) x17)) fun x18 =>
 zb (za (zy .lss x18 (Value.int .i64 0))) fun x20 =>
 zn x20 (
 zb (za (some (Value.iface zct (Value.string ⟨#[108,101,110,32,111,117,116,32,111,102,32,114,97,110,103,101]⟩)))) fun x21 =>
 zb (za ((none:Option V))) fun _ =>
 ret (.nxt [(zd v2 0),x18,(zd v2 2),(zd v2 3),(zd v2 4)])
 ) (
 ret (.nxt [(zd v2 0),x18,(zd v2 2),(zd v2 3),(zd v2 4)])
 )
 ) fun o=>ret (zz 1 o)
 ) fun o=>nx o zu9
def zvb (vs:List V):M Out :=
 zb (za (zy .lss (zd vs 4) (zd vs 3))) fun x12 =>
 zb (
 zn x12 (
 ret (.nxt [(zd vs 0),(zd vs 1),(zd vs 2),(zd vs 3),(zd vs 4)])
 ) (
 ret (.brk 0 [(zd vs 0),(zd vs 1)])
 )
 ) fun o=>nx o zva
def zvc (v7:List V):M Out :=
 zb (za (zy .add (zd v7 3) (Value.int .i64 1))) fun x34 =>
 ret (.nxt [(zd v7 0),(zd v7 1),(zd v7 2),x34])
def zvd (v6:List V):M Out :=
 zb (
 zb (
 zb (za (zx 1 (zd v6 1) (zd v6 3))) fun x29 =>
 zb (z8 x29) fun x30 =>
 zb (zgm 1 8 (zd v6 0) x30) fun x33 =>
 ret (.nxt [x33,(zd v6 1),(zd v6 2),(zd v6 3)])
 ) fun o=>ret (zz 3 o)
 ) fun o=>nx o zvc
def zve (v5:List V):M Out :=
 zb (za (zy .lss (zd v5 3) (zd v5 2))) fun x28 =>
 zb (
 zn x28 (
 ret (.nxt [(zd v5 0),(zd v5 1),(zd v5 2),(zd v5 3)])
 ) (
 ret (.brk 2 [(zd v5 0)])
 )
 ) fun o=>nx o zvd
def zvf (v8:List V):M Out :=
 ret (.ret [(zd v8 0)])
def zvg (v4:List V):M Out :=
 zb (zi3 [(Value.slice none 0 0),(zd v4 1)]) fun x24 =>
 zb (
 zb (za (zv (zd v4 0))) fun x26 =>
 zb (
 zbg zby zve [x24,(zd v4 0),x26,(Value.int .i64 0)]
 ) fun o=>ret (zz 2 o)
 ) fun o=>nx o zvf
def zv6 (x0:V):M V :=
 zb (
 zb (
 zb (za (zv x0)) fun x10 =>
 zb (
 zbg zby zvb [x0,(Value.int .i64 0),x0,x10,(Value.int .i64 0)]
 ) fun o=>ret (zz 0 o)
 ) fun o=>nx o zvg
 ) fun o=>zbl o fun vs=>ret (zbh [(zd vs 0)])
def zv7:Hint:=(.seq [] .leaf (.seq [] .leaf (.seq [0,3] (.seq [] .leaf (.blk (.loop [0,3,9,10,11] (.seq [] .leaf (.seq [0,3,9,10,11] (.cond .leaf .leaf) (.seq [0,3,9,10,11] (.blk (.seq [] .leaf (.seq [] .leaf (.seq [] .leaf (.cond .leaf .leaf))))) .leaf)))))) (.seq [] .leaf (.seq [6] (.seq [] .leaf (.blk (.loop [6,25,26,27] (.seq [] .leaf (.seq [6,25,26,27] (.cond .leaf .leaf) (.seq [6,25,26,27] (.blk (.seq [] .leaf .leaf)) .leaf)))))) (.seq [] .leaf .leaf))))))
def ze4:List V→M V:=ap1 zv6
def zv8:zu:=ovr [(zmn,zi3)] noC
theorem zv9:zq Tryz.prog zkl (ze4):=kn1 (σ:=zv8) (hint:=zv7) (by kernel_rfl) (zf zyv zl) fun _=>(by kernel_rfl)
def zjc (S:zu) (v3:List V):M Out :=
 zb (za (zy .add (zd v3 3) (Value.int .i64 1))) fun x18 =>
 ret (.nxt [(zd v3 0),(zd v3 1),(zd v3 2),x18])
def zjd (S:zu) (v2:List V):M Out :=
 zb (
 zb (
 zb (za (zx 1 (zd v2 0) (zd v2 3))) fun x14 =>
 zb (z8 x14) fun x15 =>
 zb (zmm (ovr [] S) (zd v2 1) [x15]) fun x16 =>
 zn x16 (
 ret (.ret [(zd v2 3)])
 ) (
 ret (.nxt [(zd v2 0),(zd v2 1),(zd v2 2),(zd v2 3)])
 )
 ) fun o=>ret (zz 1 o)
 ) fun o=>nx o (zjc S)
def zf3 (S:zu) (vs:List V):M Out :=
 zb (za (zy .lss (zd vs 3) (zd vs 2))) fun x9 =>
 zb (
 zn x9 (
 ret (.nxt [(zd vs 0),(zd vs 1),(zd vs 2),(zd vs 3)])
 ) (
 ret (.brk 0 [])
 )
 ) fun o=>nx o (zjd S)
def zje (S:zu) (v4:List V):M Out :=
 ret (.ret [(Value.int .i64 (-1))])
def zgb (S:zu) (x0 x1:V):M V :=
 zb (
 zb (
 zb (za (zv x0)) fun x7 =>
 zb (
 zbg zby (zf3 S) [x0,x1,x7,(Value.int .i64 0)]
 ) fun o=>ret (zz 0 o)
 ) fun o=>nx o (zje S)
 ) fun o=>zbl o fun vs=>ret (zbh [(zd vs 0)])
def zso:Hint:=(.seq [] .leaf (.seq [] (.seq [] .leaf (.blk (.loop [0,1,7,8] (.seq [] .leaf (.seq [0,1,7,8] (.cond .leaf .leaf) (.seq [0,1,7,8] (.blk (.seq [] .leaf (.seq [] .leaf (.cond (.seq [] .leaf .leaf) .leaf)))) .leaf)))))) (.seq [] .leaf .leaf)))
def zgc (S:zu):List V→M V:=ap2 (zgb S)
theorem zsp {S:zu} (hS:zd3 Tryz.prog S):zq Tryz.prog ziv (zgc S):=kn2 (σ:=ovr [] S) (hint:=zso) (by kernel_rfl) (zea hS) fun _ _=>(by kernel_rfl)
def ze1 (S:zu) (x0 x1:V):M V :=
 zb (
 zb ((zgc S) [x0,x1]) fun x7 =>
 zb (za (zy .geq x7 (Value.int .i64 0))) fun x8 =>
 ret (.ret [x8])
 ) fun o=>zbl o fun vs=>ret (zbh [(zd vs 0)])
def zqo:Hint:=(.seq [] .leaf (.seq [] .leaf .leaf))
def zdc (S:zu):List V→M V:=ap2 (ze1 S)
theorem zqp {S:zu} (hS:zd3 Tryz.prog S):zq Tryz.prog zhq (zdc S):=kn2 (σ:=ovr [(ziv,zgc S)] S) (hint:=zqo) (by kernel_rfl) (zf (zsp (zea hS)) (zea hS)) fun _ _=>(by kernel_rfl)
def zz1 (x0:V):M V :=
 zb (
 zb (za (zy .lss x0 (Value.int .i64 1))) fun x4 =>
 zb (gd x4 false (za (some x0))) fun x6 =>
 zb (gd x4 false (za (zy .gtr x6 (Value.int .i64 3)))) fun x7 =>
 zb (za (zbb x4 (Value.bool true) x7)) fun x8 =>
 ret (.ret [x8])
 ) fun o=>zbl o fun vs=>ret (zbh [(zd vs 0)])
def zbhx:Hint:=(.seq [] .leaf (.seq [] .leaf .leaf))
def ztv:List V→M V:=ap1 zz1
theorem zbhy:zq Tryz.prog zo6 (ztv):=kn1 (σ:=ovr [] noC) (hint:=zbhx) (by kernel_rfl) zl fun _=>(by kernel_rfl)
def zwa (vs:List V):M Out :=
 zb (zd2 1 0 (rep 0 [Value.int .i64 0]) []) fun x5 =>
 zb (zgm 1 8 x5 (zd vs 0)) fun x7 =>
 ret (.ret [x7])
def zxm (x0:V):M V :=
 zb (
 zb (
 zb (za (zcz false (zd9 .s x0))) fun x4 =>
 zn x4 (
 ret (.ret [(Value.slice none 0 0)])
 ) (
 ret (.nxt [x0])
 )
 ) fun o=>nx o zwa
 ) fun o=>zbl o fun vs=>ret (zbh [(zd vs 0)])
def zxn:Hint:=(.seq [] .leaf (.seq [0] (.seq [] .leaf (.cond (.seq [] .leaf .leaf) .leaf)) (.seq [] .leaf .leaf)))
def zft:List V→M V:=ap1 zxm
theorem zxo:zq Tryz.prog zk1 (zft):=kn1 (σ:=ovr [] noC) (hint:=zxn) (by kernel_rfl) zl fun _=>(by kernel_rfl)
def zbav (v2:List V):M Out :=
 zb (zft [(zd v2 0)]) fun x20 =>
 zb (zft [(zd v2 1)]) fun x22 =>
 zb (za (build [Value.slice none 0 0,Value.slice none 0 0,Value.pointer none,Value.string ⟨#[]⟩,Value.slice none 0 0,Value.slice none 0 0,Value.slice none 0 0,Value.slice none 0 0,Value.slice none 0 0,Value.slice none 0 0,Value.int .i64 0,Value.int .i64 0,Value.int .i64 0,Value.int .i64 0] [(0,1,x20),(1,1,x22)])) fun x23 =>
 zb (zeu x23) fun x24 =>
 ret (.ret [x24,(Value.int .i64 0)])
def zbaw (vs:List V):M Out :=
 zb (
 zb (zd2 1 2 (rep 2 [Value.slice none 0 0]) [(0,1,(zd vs 0)),(1,1,(zd vs 1))]) fun x16 =>
 zb (ze4 [x16]) fun x17 =>
 zb ((zdc (ovr [(zo6,ztv)] noC)) [x17,(Value.func (.func zo6) #[] #[])]) fun x18 =>
 zn x18 (
 ret (.ret [(Value.pointer none),(Value.int .i64 40)])
 ) (
 ret (.nxt [(zd vs 0),(zd vs 1)])
 )
 ) fun o=>nx o zbav
def z6p (x0 x1:V):M V :=
 zb (
 zb (
 zb (za (zv x0)) fun x7 =>
 zb (za (zy .gtr x7 (Value.int .i64 32))) fun x8 =>
 zb (gd x8 false (za (some x1))) fun x10 =>
 zb (gd x8 false (za (zv x10))) fun x11 =>
 zb (gd x8 false (za (zy .gtr x11 (Value.int .i64 32)))) fun x12 =>
 zb (za (zbb x8 (Value.bool true) x12)) fun x13 =>
 zn x13 (
 ret (.ret [(Value.pointer none),(Value.int .i64 2)])
 ) (
 ret (.nxt [x0,x1])
 )
 ) fun o=>nx o zbaw
 ) fun o=>zbl o fun vs=>ret (zbh [(zd vs 0),(zd vs 1)])
def zbmm:Hint:=(.seq [] .leaf (.seq [0,1] (.seq [] .leaf (.cond (.seq [] .leaf .leaf) .leaf)) (.seq [0,1] (.seq [] .leaf (.cond (.seq [] .leaf .leaf) .leaf)) (.seq [] .leaf .leaf))))
def zz2:List V→M V:=ap2 z6p
def zbmn:zu:=ovr [(zkl,ze4),(zhq,zdc (ovr [(zo6,ztv)] noC)),(zk1,zft)] noC
theorem zbmo:zq Tryz.prog z74 (zz2):=kn2 (σ:=zbmn) (hint:=zbmm) (by kernel_rfl) (zf zv9 (zf (zqp (zf zbhy zl)) (zf zxo zl))) fun _ _=>(by kernel_rfl)
noncomputable def zbax (v4:List V):M Out :=
 zb (za (zci (zd v4 1))) fun x79 =>
 zb (za (zg 2 x79)) fun x80 =>
 zb (z8 x80) fun x81 =>
 zb (za (build [Value.pointer none,Value.slice none 0 0,Value.slice none 0 0] [(0,1,(zd v4 4)),(1,1,(zd v4 2)),(2,1,(zd v4 3))])) fun x85 =>
 zb (zd2 3 1 (rep 1 [Value.pointer none,Value.slice none 0 0,Value.slice none 0 0]) [(0,3,x85)]) fun x86 =>
 zb (zgm 3 56 x81 x86) fun x87 =>
 zb (za (zci (zd v4 1))) fun x88 =>
 zb (za (zg 2 x88)) fun x89 =>
 zb (st1 x89 x87) fun _ =>
 ret (.nxt [(zd v4 0),(zd v4 1),(zd v4 5),(zd v4 6),(zd v4 7)])
noncomputable def zbay (v5:List V):M Out :=
 zb (za (zy .add (zd v5 4) (Value.int .i64 1))) fun x90 =>
 ret (.nxt [(zd v5 0),(zd v5 1),(zd v5 2),(zd v5 3),x90])
noncomputable def zbaz (v3:List V):M Out :=
 zb (
 zb (
 zb (za (zx 2 (zd v3 2) (zd v3 4))) fun x52 =>
 zb (ldn 2 x52) fun x53 =>
 zb (newc [Value.slice none 0 0,Value.slice none 0 0]) fun x7 =>
 zb (stn 2 x7 x53) fun _ =>
 zb (ldn 7 (zd v3 0)) fun x55 =>
 zb (za (zg 0 x7)) fun x56 =>
 zb (z8 x56) fun x57 =>
 zb (zr4 [x55,x57]) fun x58 =>
 zb (za (ext 0 x58)) fun x59 =>
 zb (za (ext 1 x58)) fun x60 =>
 zb (ldn 7 (zd v3 0)) fun x62 =>
 zb (za (zg 1 x7)) fun x63 =>
 zb (z8 x63) fun x64 =>
 zb (zr4 [x62,x64]) fun x65 =>
 zb (za (ext 0 x65)) fun x66 =>
 zb (za (ext 1 x65)) fun x67 =>
 zb (zz2 [x60,x67]) fun x71 =>
 zb (za (ext 0 x71)) fun x72 =>
 zb (za (ext 1 x71)) fun x73 =>
 zb (
 zb (za (zy .neq x73 (Value.int .i64 0))) fun x75 =>
 zn x75 (
 ret (.ret [(Value.pointer none),x73])
 ) (
 ret (.nxt [(zd v3 0),(zd v3 1),x59,x66,x72,(zd v3 2),(zd v3 3),(zd v3 4)])
 )
 ) fun o=>nx o zbax
 ) fun o=>ret (zz 1 o)
 ) fun o=>nx o zbay
noncomputable def z2s (v2:List V):M Out :=
 zb (za (zy .lss (zd v2 4) (zd v2 3))) fun x51 =>
 zb (
 zn x51 (
 ret (.nxt [(zd v2 0),(zd v2 1),(zd v2 2),(zd v2 3),(zd v2 4)])
 ) (
 ret (.brk 0 [(zd v2 1)])
 )
 ) fun o=>nx o zbaz
noncomputable def zba0 (v6:List V):M Out :=
 ret (.ret [(zd v6 0),(Value.int .i64 0)])
noncomputable def zba1 (vs:List V):M Out :=
 zm9 fun h0 =>
 zb (za (zg 3 (zd vs 0))) fun x19 =>
 zb (za (zg 1 x19)) fun x20 =>
 zb (za (zg 6 (zd vs 0))) fun x23 =>
 zb (z8 x20) fun x21 =>
 zb (z8 x23) fun x24 =>
 zc9 (zdh [x21]) fun ha x22 h1 =>
 zb (za (build [Value.pointer none,Value.pointer none,Value.slice none 0 0,Value.slice none 0 0,Value.int .i64 0,Value.int .i64 0] [(3,1,x22),(4,1,x24)])) fun x25 =>
 zc9 (zeu x25) fun ha_2 x26 h2 =>
 zjs (chk (z8 x23) h1 x24) <|
 zb (za (zg 0 (zd vs 0))) fun x29 =>
 zb (z8 x29) fun x30 =>
 zb (za (zg 1 (zd vs 0))) fun x31 =>
 zb (z8 x31) fun x32 =>
 zb (ztu [x30,x32]) fun x33 =>
 zb (za (ext 0 x33)) fun x34 =>
 zb (za (ext 1 x33)) fun x35 =>
 zb (za (zci x26)) fun x36 =>
 zb (za (zg 0 x36)) fun x37 =>
 zb (st1 x37 x34) fun _ =>
 zb (za (zg 2 (zd vs 0))) fun x40 =>
 zb (z8 x40) fun x41 =>
 zb (zwp [x41]) fun x42 =>
 zb (za (ext 0 x42)) fun x43 =>
 zb (za (ext 1 x42)) fun x44 =>
 zb (za (zci x26)) fun x45 =>
 zb (za (zg 1 x45)) fun x46 =>
 zb (st1 x46 x43) fun _ =>
 zb (
 zb (za (zg 5 (zd vs 0))) fun x47 =>
 zb (z8 x47) fun x48 =>
 zb (za (zv x48)) fun x49 =>
 zb (
 zbg zby z2s [(zd vs 0),x26,x48,x49,(Value.int .i64 0)]
 ) fun o=>ret (zz 0 o)
 ) fun o=>nx o zba0
noncomputable def z6q (x0:V):M V :=
 zb (
 zb (zeu x0) fun x1 =>
 zb (
 zb (ldn 7 x1) fun x14 =>
 zb (ztt [x14]) fun x15 =>
 zb (za (zy .neq x15 (Value.int .i64 0))) fun x17 =>
 zn x17 (
 ret (.ret [(Value.pointer none),x15])
 ) (
 ret (.nxt [x1])
 )
 ) fun o=>nx o zba1
 ) fun o=>zbl o fun vs=>ret (zbh [(zd vs 0),(zd vs 1)])
def zbmp:Hint:=(.seq [] .leaf (.seq [1] (.seq [] .leaf (.seq [] .leaf (.cond (.seq [] .leaf .leaf) .leaf))) (.seq [] (.reg [0,1,4,2,5,3,6,7,8] []) (.seq [] .leaf (.seq [] .leaf (.seq [5] (.seq [] .leaf (.blk (.loop [1,5,48,49,50] (.seq [] .leaf (.seq [1,5,48,49,50] (.cond .leaf .leaf) (.seq [1,5,48,49,50] (.blk (.seq [] .leaf (.seq [] .leaf (.seq [] .leaf (.seq [] .leaf (.seq [1,5,8,10,12,48,49,50] (.seq [] .leaf (.cond (.seq [] .leaf .leaf) .leaf)) .leaf)))))) .leaf)))))) (.seq [] .leaf .leaf)))))))
noncomputable def zz3:List V→M V:=ap1 z6q
noncomputable def zbmq:zu:=ovr [(z13,ztt),(ze8,zdh),(z14,ztu),(z4n,zwp),(z4o,zr4),(z74,zz2)] noC
theorem zbmr:zq Tryz.prog z72 (zz3):=kn1 (σ:=zbmq) (hint:=zbmp) (by kernel_rfl) (zf zbht (zf zlu (zf zbhw (zf zbkc (zf zbkf (zf zbmo zl)))))) fun _=>(by kernel_rfl)
def zvh (G_strings_IndexRune:List V→M V) (x0:V):M V :=
 zb (
 zb (zeu x0) fun x1 =>
 zb (za (zg 0 x1)) fun x3 =>
 zb (z8 x3) fun x4 =>
 zb (za (zy .neq x4 (Value.string ⟨#[]⟩))) fun x5 =>
 zb (gd x5 true (za (zg 0 x1))) fun x7 =>
 zb (gd x5 true (z8 x7)) fun x8 =>
 zb (gd x5 true (za (zfx x8))) fun x9 =>
 zb (gd x5 true (za (zy .leq x9 (Value.int .i64 24)))) fun x10 =>
 zb (za (zbb x5 x10 (Value.bool false))) fun x11 =>
 zb (gd x11 true (za (zg 0 x1))) fun x13 =>
 zb (gd x11 true (z8 x13)) fun x14 =>
 zb (gd x11 true ((zf1 G_strings_IndexRune) [x14,(Value.string ⟨#[97,98,99,100,101,102,103,104,105,106,107,108,109,110,111,112,113,114,115,116,117,118,119,120,121,122,48,49,50,51,52,53,54,55,56,57]⟩)])) fun x15 =>
 zb (gd x11 true (za (zy .eql x15 (Value.string ⟨#[]⟩)))) fun x16 =>
 zb (za (zbb x11 x16 (Value.bool false))) fun x17 =>
 zb (gd x17 true (za (zg 1 x1))) fun x19 =>
 zb (gd x17 true (z8 x19)) fun x20 =>
 zb (gd x17 true (za (zfx x20))) fun x21 =>
 zb (gd x17 true (za (zy .geq x21 (Value.int .i64 16)))) fun x22 =>
 zb (za (zbb x17 x22 (Value.bool false))) fun x23 =>
 zb (gd x23 true (za (zg 1 x1))) fun x25 =>
 zb (gd x23 true (z8 x25)) fun x26 =>
 zb (gd x23 true (za (zfx x26))) fun x27 =>
 zb (gd x23 true (za (zy .leq x27 (Value.int .i64 64)))) fun x28 =>
 zb (za (zbb x23 x28 (Value.bool false))) fun x29 =>
 ret (.ret [x29])
 ) fun o=>zbl o fun vs=>ret (zbh [(zd vs 0)])
def zbdg:Hint:=(.seq [] .leaf (.seq [] .leaf .leaf))
def zpp (G_strings_IndexRune:List V→M V):List V→M V:=ap1 (zvh G_strings_IndexRune)
theorem zbdh {G_strings_IndexRune:List V→M V} (k_strings_IndexRune:zq Tryz.prog zr G_strings_IndexRune):zq Tryz.prog zyg (zpp G_strings_IndexRune):=kn1 (σ:=ovr [(zl6,zf1 G_strings_IndexRune)] noC) (hint:=zbdg) (by kernel_rfl) (zf (zu2 k_strings_IndexRune) zl) fun _=>(by kernel_rfl)
def zvi (x0 x1:V):M V :=
 zb (
 zb (zeu x0) fun x2 =>
 zb (za (zg 0 x2)) fun x4 =>
 zb (z8 x4) fun x5 =>
 zb (z8 x1) fun x6 =>
 zb (za (zy .eql x5 x6)) fun x7 =>
 ret (.ret [x7])
 ) fun o=>zbl o fun vs=>ret (zbh [(zd vs 0)])
def zbdi:Hint:=(.seq [] .leaf (.seq [] .leaf .leaf))
def zpq:List V→M V:=ap2 zvi
theorem zbdj:zq Tryz.prog zl7 (zpq):=kn2 (σ:=ovr [] noC) (hint:=zbdi) (by kernel_rfl) zl fun _ _=>(by kernel_rfl)
def zfn (S:zu) (v3:List V):M Out :=
 zb (za (zy .add (zd v3 3) (Value.int .i64 1))) fun x18 =>
 ret (.nxt [(zd v3 0),(zd v3 1),(zd v3 2),x18])
def zfo (S:zu) (v2:List V):M Out :=
 zb (
 zb (
 zb (za (zx 3 (zd v2 0) (zd v2 3))) fun x14 =>
 zb (ldn 3 x14) fun x15 =>
 zb (zmm (ovr [] S) (zd v2 1) [x15]) fun x16 =>
 zn x16 (
 ret (.ret [(zd v2 3)])
 ) (
 ret (.nxt [(zd v2 0),(zd v2 1),(zd v2 2),(zd v2 3)])
 )
 ) fun o=>ret (zz 1 o)
 ) fun o=>nx o (zfn S)
def zc7 (S:zu) (vs:List V):M Out :=
 zb (za (zy .lss (zd vs 3) (zd vs 2))) fun x9 =>
 zb (
 zn x9 (
 ret (.nxt [(zd vs 0),(zd vs 1),(zd vs 2),(zd vs 3)])
 ) (
 ret (.brk 0 [])
 )
 ) fun o=>nx o (zfo S)
def zfp (S:zu) (v4:List V):M Out :=
 ret (.ret [(Value.int .i64 (-1))])
def zdi (S:zu) (x0 x1:V):M V :=
 zb (
 zb (
 zb (za (zv x0)) fun x7 =>
 zb (
 zbg zby (zc7 S) [x0,x1,x7,(Value.int .i64 0)]
 ) fun o=>ret (zz 0 o)
 ) fun o=>nx o (zfp S)
 ) fun o=>zbl o fun vs=>ret (zbh [(zd vs 0)])
def zlv:Hint:=(.seq [] .leaf (.seq [] (.seq [] .leaf (.blk (.loop [0,1,7,8] (.seq [] .leaf (.seq [0,1,7,8] (.cond .leaf .leaf) (.seq [0,1,7,8] (.blk (.seq [] .leaf (.seq [] .leaf (.cond (.seq [] .leaf .leaf) .leaf)))) .leaf)))))) (.seq [] .leaf .leaf)))
def zce (S:zu):List V→M V:=ap2 (zdi S)
theorem zlw {S:zu} (hS:zd3 Tryz.prog S):zq Tryz.prog zfa (zce S):=kn2 (σ:=ovr [] S) (hint:=zlv) (by kernel_rfl) (zea hS) fun _ _=>(by kernel_rfl)
def z5g (vs:List V):M Out :=
 ret (.ret [(zd vs 0),(Value.int .i64 0)])
def zz4 (x0 x1:V):M V :=
 zb (
 zb (zeu x1) fun x3 =>
 zb (za (some (Value.func (.func zl7) #[] #[x3]))) fun x8 =>
 zb ((zce (ovr [(zl7,zpq)] noC)) [x0,x8]) fun x9 =>
 zb (
 zb (za (zy .lss x9 (Value.int .i64 0))) fun x11 =>
 zn x11 (
 ret (.ret [(Value.int .i64 0),(Value.int .i64 90)])
 ) (
 ret (.nxt [x9])
 )
 ) fun o=>nx o z5g
 ) fun o=>zbl o fun vs=>ret (zbh [(zd vs 0),(zd vs 1)])
def zbhz:Hint:=(.seq [] .leaf (.seq [] .leaf (.seq [6] (.seq [] .leaf (.cond (.seq [] .leaf .leaf) .leaf)) (.seq [] .leaf .leaf))))
def ztw:List V→M V:=ap2 zz4
def zbh0:zu:=ovr [(zfa,zce (ovr [(zl7,zpq)] noC))] noC
theorem zbh1:zq Tryz.prog z18 (ztw):=kn2 (σ:=zbh0) (hint:=zbhz) (by kernel_rfl) (zf (zlw (zf zbdj zl)) zl) fun _ _=>(by kernel_rfl)
def zms (v3:List V):M Out :=
 zb (za (zy .add (zd v3 3) (Value.int .i64 1))) fun x18 =>
 ret (.nxt [(zd v3 0),(zd v3 1),(zd v3 2),x18])
def zhw (v2:List V):M Out :=
 zb (
 zb (
 zb (za (zx 1 (zd v2 0) (zd v2 3))) fun x14 =>
 zb (z8 x14) fun x15 =>
 zb (za (zy .eql (zd v2 1) x15)) fun x16 =>
 zn x16 (
 ret (.ret [(zd v2 3)])
 ) (
 ret (.nxt [(zd v2 0),(zd v2 1),(zd v2 2),(zd v2 3)])
 )
 ) fun o=>ret (zz 1 o)
 ) fun o=>nx o zms
def ze5 (vs:List V):M Out :=
 zb (za (zy .lss (zd vs 3) (zd vs 2))) fun x9 =>
 zb (
 zn x9 (
 ret (.nxt [(zd vs 0),(zd vs 1),(zd vs 2),(zd vs 3)])
 ) (
 ret (.brk 0 [])
 )
 ) fun o=>nx o zhw
def zmt (v4:List V):M Out :=
 ret (.ret [(Value.int .i64 (-1))])
def zic (x0 x1:V):M V :=
 zb (
 zb (
 zb (za (zv x0)) fun x7 =>
 zb (
 zbg zby ze5 [x0,x1,x7,(Value.int .i64 0)]
 ) fun o=>ret (zz 0 o)
 ) fun o=>nx o zmt
 ) fun o=>zbl o fun vs=>ret (zbh [(zd vs 0)])
def zxp:Hint:=(.seq [] .leaf (.seq [] (.seq [] .leaf (.blk (.loop [0,1,7,8] (.seq [] .leaf (.seq [0,1,7,8] (.cond .leaf .leaf) (.seq [0,1,7,8] (.blk (.seq [] .leaf (.seq [] .leaf (.cond (.seq [] .leaf .leaf) .leaf)))) .leaf)))))) (.seq [] .leaf .leaf)))
def zfu:List V→M V:=ap2 zic
theorem zxq:zq Tryz.prog zk3 (zfu):=kn2 (σ:=ovr [] noC) (hint:=zxp) (by kernel_rfl) zl fun _ _=>(by kernel_rfl)
def zgr (x0 x1:V):M V :=
 zb (
 zb (zfu [x0,x1]) fun x7 =>
 zb (za (zy .geq x7 (Value.int .i64 0))) fun x8 =>
 ret (.ret [x8])
 ) fun o=>zbl o fun vs=>ret (zbh [(zd vs 0)])
def ztx:Hint:=(.seq [] .leaf (.seq [] .leaf .leaf))
def zee:List V→M V:=ap2 zgr
def zty:zu:=ovr [(zk3,zfu)] noC
theorem ztz:zq Tryz.prog zjb (zee):=kn2 (σ:=zty) (hint:=ztx) (by kernel_rfl) (zf zxq zl) fun _ _=>(by kernel_rfl)
def z2t (v3:List V):M Out :=
 zb (gd (zd v3 2) false (za (some (zd v3 1)))) fun x37 =>
 zb (gd (zd v3 2) false (za (zg 0 (zd v3 3)))) fun x38 =>
 zb (gd (zd v3 2) false (z8 x38)) fun x39 =>
 zb (gd (zd v3 2) false (zee [x37,x39])) fun x40 =>
 zb (za (zbb (zd v3 2) (Value.bool true) x40)) fun x41 =>
 zb (za (zg 0 (zd v3 3))) fun x43 =>
 zb (z8 x43) fun x44 =>
 zb (zd2 1 1 (rep 1 [Value.int .i64 0]) [(0,1,x44)]) fun x45 =>
 zb (zgm 1 8 (zd v3 1) x45) fun x46 =>
 ret (.nxt [(zd v3 0),x46,x41,(zd v3 4),(zd v3 5),(zd v3 6)])
def zvj (v4:List V):M Out :=
 zb (za (zy .add (zd v4 5) (Value.int .i64 1))) fun x47 =>
 ret (.nxt [(zd v4 0),(zd v4 1),(zd v4 2),(zd v4 3),(zd v4 4),x47])
def z2u (v2:List V):M Out :=
 zb (
 zb (
 zb (za (zx 2 (zd v2 3) (zd v2 5))) fun x14 =>
 zb (ldn 2 x14) fun x15 =>
 zb (newc [Value.int .i64 0,Value.int .i64 0]) fun x8 =>
 zb (stn 2 x8 x15) fun _ =>
 zb (
 zb (za (zg 0 x8)) fun x16 =>
 zb (z8 x16) fun x17 =>
 zb (za (zy .lss x17 (Value.int .i64 0))) fun x18 =>
 zb (gd x18 false (za (zg 0 x8))) fun x20 =>
 zb (gd x18 false (z8 x20)) fun x21 =>
 zb (gd x18 false (za (some (zd v2 0)))) fun x22 =>
 zb (gd x18 false (za (zy .geq x21 x22))) fun x23 =>
 zb (za (zbb x18 (Value.bool true) x23)) fun x24 =>
 zb (gd x24 false (za (zg 1 x8))) fun x26 =>
 zb (gd x24 false (z8 x26)) fun x27 =>
 zb (gd x24 false (za (zy .lss x27 (Value.int .i64 1)))) fun x28 =>
 zb (za (zbb x24 (Value.bool true) x28)) fun x29 =>
 zb (gd x29 false (za (zg 1 x8))) fun x31 =>
 zb (gd x29 false (z8 x31)) fun x32 =>
 zb (gd x29 false (za (zy .gtr x32 (Value.int .i64 4)))) fun x33 =>
 zb (za (zbb x29 (Value.bool true) x33)) fun x34 =>
 zn x34 (
 ret (.ret [(Value.int .i64 1)])
 ) (
 ret (.nxt [(zd v2 0),(zd v2 1),(zd v2 2),x8,(zd v2 3),(zd v2 4),(zd v2 5)])
 )
 ) fun o=>nx o z2t
 ) fun o=>ret (zz 1 o)
 ) fun o=>nx o zvj
def zpr (vs:List V):M Out :=
 zb (za (zy .lss (zd vs 5) (zd vs 4))) fun x13 =>
 zb (
 zn x13 (
 ret (.nxt [(zd vs 0),(zd vs 1),(zd vs 2),(zd vs 3),(zd vs 4),(zd vs 5)])
 ) (
 ret (.brk 0 [(zd vs 2)])
 )
 ) fun o=>nx o z2u
def z2v (v6:List V):M Out :=
 ret (.ret [(Value.int .i64 0)])
def zvk (v5:List V):M Out :=
 zb (
 zn (zd v5 0) (
 ret (.ret [(Value.int .i64 240)])
 ) (
 ret (.nxt [])
 )
 ) fun o=>nx o z2v
def zxr (x0 x1:V):M V :=
 zb (
 zb (zeu x0) fun x2 =>
 zb (
 zb (za (zg 2 x2)) fun x9 =>
 zb (z8 x9) fun x10 =>
 zb (za (zv x10)) fun x11 =>
 zb (
 zbg zby zpr [x1,(Value.slice none 0 0),(Value.bool false),x10,x11,(Value.int .i64 0)]
 ) fun o=>ret (zz 0 o)
 ) fun o=>nx o zvk
 ) fun o=>zbl o fun vs=>ret (zbh [(zd vs 0)])
def zbfa:Hint:=(.seq [] .leaf (.seq [] .leaf (.seq [] .leaf (.seq [6] (.seq [] .leaf (.blk (.loop [1,5,6,10,11,12] (.seq [] .leaf (.seq [1,5,6,10,11,12] (.cond .leaf .leaf) (.seq [1,5,6,10,11,12] (.blk (.seq [] .leaf (.seq [1,5,6,8,10,11,12] (.seq [] .leaf (.cond (.seq [] .leaf .leaf) .leaf)) (.seq [] .leaf .leaf)))) .leaf)))))) (.seq [] (.seq [] .leaf (.cond (.seq [] .leaf .leaf) .leaf)) (.seq [] .leaf .leaf))))))
def zri:List V→M V:=ap2 zxr
def zbfb:zu:=ovr [(zjb,zee)] noC
theorem zbfc:zq Tryz.prog z0p (zri):=kn2 (σ:=zbfb) (hint:=zbfa) (by kernel_rfl) (zf ztz zl) fun _ _=>(by kernel_rfl)
def z2w (G_strings_IndexRune:List V→M V) (v5:List V):M Out :=
 zb (ldn 3 (zd v5 3)) fun x45 =>
 zb (zri [x45,(zd v5 1)]) fun x47 =>
 zb (za (zy .neq x47 (Value.int .i64 0))) fun x49 =>
 zn x49 (
 ret (.ret [(zd v5 2),x47])
 ) (
 ret (.nxt [(zd v5 0),(zd v5 1),(zd v5 4),(zd v5 5),(zd v5 6)])
 )
def z2x (G_strings_IndexRune:List V→M V) (v4:List V):M Out :=
 zb (
 zb (za (zhs 3 (zd v4 0) none (some (zd v4 2)))) fun x36 =>
 zb (za (zg 0 (zd v4 3))) fun x37 =>
 zb (z8 x37) fun x38 =>
 zb (ztw [x36,x38]) fun x39 =>
 zb (za (ext 0 x39)) fun x40 =>
 zb (za (ext 1 x39)) fun x41 =>
 zb (za (zy .eql x41 (Value.int .i64 0))) fun x43 =>
 zn x43 (
 ret (.ret [(zd v4 2),(Value.int .i64 6)])
 ) (
 ret (.nxt [(zd v4 0),(zd v4 1),(zd v4 2),(zd v4 3),(zd v4 4),(zd v4 5),(zd v4 6)])
 )
 ) fun o=>nx o (z2w G_strings_IndexRune)
def z2y (G_strings_IndexRune:List V→M V) (v6:List V):M Out :=
 zb (za (zy .add (zd v6 4) (Value.int .i64 1))) fun x52 =>
 ret (.nxt [(zd v6 0),(zd v6 1),(zd v6 2),(zd v6 3),x52])
def z2z (G_strings_IndexRune:List V→M V) (v3:List V):M Out :=
 zb (
 zb (
 zb (za (zx 3 (zd v3 2) (zd v3 4))) fun x27 =>
 zb (ldn 3 x27) fun x28 =>
 zb (newc [Value.string ⟨#[]⟩,Value.string ⟨#[]⟩,Value.slice none 0 0]) fun x7 =>
 zb (stn 3 x7 x28) fun _ =>
 zb (
 zb (ldn 3 x7) fun x29 =>
 zb ((zpp G_strings_IndexRune) [x29]) fun x30 =>
 zb (za (un .not x30)) fun x31 =>
 zn x31 (
 ret (.ret [(zd v3 4),(Value.int .i64 3)])
 ) (
 ret (.nxt [(zd v3 0),(zd v3 1),(zd v3 4),x7,(zd v3 2),(zd v3 3),(zd v3 4)])
 )
 ) fun o=>nx o (z2x G_strings_IndexRune)
 ) fun o=>ret (zz 2 o)
 ) fun o=>nx o (z2y G_strings_IndexRune)
def zvl (G_strings_IndexRune:List V→M V) (v2:List V):M Out :=
 zb (za (zy .lss (zd v2 4) (zd v2 3))) fun x25 =>
 zb (
 zn x25 (
 ret (.nxt [(zd v2 0),(zd v2 1),(zd v2 2),(zd v2 3),(zd v2 4)])
 ) (
 ret (.brk 1 [])
 )
 ) fun o=>nx o (z2z G_strings_IndexRune)
def z22 (G_strings_IndexRune:List V→M V) (v7:List V):M Out :=
 ret (.ret [(Value.int .i64 0),(Value.int .i64 0)])
def z23 (G_strings_IndexRune:List V→M V) (vs:List V):M Out :=
 zb (
 zb (za (zv (zd vs 0))) fun x23 =>
 zb (
 zbg zby (zvl G_strings_IndexRune) [(zd vs 0),(zd vs 1),(zd vs 0),x23,(Value.int .i64 0)]
 ) fun o=>ret (zz 1 o)
 ) fun o=>nx o (z22 G_strings_IndexRune)
def zj9 (G_strings_IndexRune:List V→M V) (x0 x1:V):M V :=
 zb (
 zb (
 zb (
 zb (za (zy .lss x1 (Value.int .i64 1))) fun x13 =>
 zb (gd x13 false (za (some x1))) fun x15 =>
 zb (gd x13 false (za (zy .gtr x15 (Value.int .i64 8)))) fun x16 =>
 zb (za (zbb x13 (Value.bool true) x16)) fun x17 =>
 zn x17 (
 ret (.ret [(Value.int .i64 (-1)),(Value.int .i64 1)])
 ) (
 zb (za (zv x0)) fun x20 =>
 zb (za (zy .gtr x20 (Value.int .i64 8))) fun x21 =>
 zn x21 (
 ret (.ret [(Value.int .i64 (-1)),(Value.int .i64 2)])
 ) (
 ret (.nxt [x0,x1])
 )
 )
 ) fun o=>ret (zz 0 o)
 ) fun o=>nx o (z23 G_strings_IndexRune)
 ) fun o=>zbl o fun vs=>ret (zbh [(zd vs 0),(zd vs 1)])
def zbfd:Hint:=(.seq [] .leaf (.seq [0,1] (.blk (.seq [] .leaf (.cond (.seq [] .leaf .leaf) (.seq [] .leaf (.cond (.seq [] .leaf .leaf) .leaf))))) (.seq [] (.seq [] .leaf (.blk (.loop [0,1,22,23,24] (.seq [] .leaf (.seq [0,1,22,23,24] (.cond .leaf .leaf) (.seq [0,1,22,23,24] (.blk (.seq [] .leaf (.seq [0,1,6,7,22,23,24] (.seq [] .leaf (.cond (.seq [] .leaf .leaf) .leaf)) (.seq [0,1,6,7,22,23,24] (.seq [] (.reg [0,1,2,3,4,5,6,7,8,9,10] []) (.seq [] .leaf (.cond (.seq [] .leaf .leaf) .leaf))) (.seq [] .leaf (.seq [] .leaf (.cond (.seq [] .leaf .leaf) .leaf))))))) .leaf)))))) (.seq [] .leaf .leaf))))
def zrj (G_strings_IndexRune:List V→M V):List V→M V:=ap2 (zj9 G_strings_IndexRune)
theorem zbfe {G_strings_IndexRune:List V→M V} (k_strings_IndexRune:zq Tryz.prog zr G_strings_IndexRune):zq Tryz.prog z0o (zrj G_strings_IndexRune):=kn2 (σ:=ovr [(zyg,zpp G_strings_IndexRune),(z18,ztw),(z0p,zri)] noC) (hint:=zbfd) (by kernel_rfl) (zf (zbdh k_strings_IndexRune) (zf zbh1 (zf zbfc zl))) fun _ _=>(by kernel_rfl)
def znk (vs:List V):M Out :=
 zb (zd2 3 0 (rep 0 [Value.string ⟨#[]⟩,Value.string ⟨#[]⟩,Value.slice none 0 0]) []) fun x5 =>
 zb (zgm 3 56 x5 (zd vs 0)) fun x7 =>
 ret (.ret [x7])
def zn3 (x0:V):M V :=
 zb (
 zb (
 zb (za (zcz false (zd9 .s x0))) fun x4 =>
 zn x4 (
 ret (.ret [(Value.slice none 0 0)])
 ) (
 ret (.nxt [x0])
 )
 ) fun o=>nx o znk
 ) fun o=>zbl o fun vs=>ret (zbh [(zd vs 0)])
def zn4:Hint:=(.seq [] .leaf (.seq [0] (.seq [] .leaf (.cond (.seq [] .leaf .leaf) .leaf)) (.seq [] .leaf .leaf)))
def zd7:List V→M V:=ap1 zn3
theorem zn5:zq Tryz.prog zgg (zd7):=kn1 (σ:=ovr [] noC) (hint:=zn4) (by kernel_rfl) zl fun _=>(by kernel_rfl)
def zba2 (G_strings_IndexRune:List V→M V) (v2:List V):M Out :=
 zb (zd7 [(zd v2 0)]) fun x26 =>
 zb (za (build [Value.slice none 0 0,Value.int .i64 0,Value.int .i64 0,Value.int .i64 0,Value.slice none 0 0,Value.slice none 0 0,Value.int .i64 0,Value.slice none 0 0,Value.slice none 0 0] [(0,1,x26),(1,1,(zd v2 1))])) fun x28 =>
 zb (zeu x28) fun x29 =>
 ret (.ret [x29,(Value.int .i64 0)])
def zwq (G_strings_IndexRune:List V→M V) (vs:List V):M Out :=
 zb (
 zb (za (zy .lss (zd vs 1) (Value.int .i64 1))) fun x20 =>
 zb (gd x20 false (za (some (zd vs 1)))) fun x22 =>
 zb (gd x20 false (za (zy .gtr x22 (Value.int .i64 100000)))) fun x23 =>
 zb (za (zbb x20 (Value.bool true) x23)) fun x24 =>
 zn x24 (
 ret (.ret [(Value.pointer none),(Value.int .i64 1)])
 ) (
 ret (.nxt [(zd vs 0),(zd vs 1)])
 )
 ) fun o=>nx o (zba2 G_strings_IndexRune)
def z6r (G_strings_IndexRune:List V→M V) (x0 x1 x2:V):M V :=
 zb (
 zb (
 zb ((zrj G_strings_IndexRune) [x0,x1]) fun x13 =>
 zb (za (ext 0 x13)) fun x14 =>
 zb (za (ext 1 x13)) fun x15 =>
 zb (za (zy .neq x15 (Value.int .i64 0))) fun x17 =>
 zn x17 (
 ret (.ret [(Value.pointer none),x15])
 ) (
 ret (.nxt [x0,x2])
 )
 ) fun o=>nx o (zwq G_strings_IndexRune)
 ) fun o=>zbl o fun vs=>ret (zbh [(zd vs 0),(zd vs 1)])
def zbms:Hint:=(.seq [] .leaf (.seq [0,2] (.seq [] .leaf (.seq [] .leaf (.cond (.seq [] .leaf .leaf) .leaf))) (.seq [0,2] (.seq [] .leaf (.cond (.seq [] .leaf .leaf) .leaf)) (.seq [] .leaf .leaf))))
def zz5 (G_strings_IndexRune:List V→M V):List V→M V:=ap3 (z6r G_strings_IndexRune)
theorem zbmt {G_strings_IndexRune:List V→M V} (k_strings_IndexRune:zq Tryz.prog zr G_strings_IndexRune):zq Tryz.prog z73 (zz5 G_strings_IndexRune):=kn3 (σ:=ovr [(z0o,zrj G_strings_IndexRune),(zgg,zd7)] noC) (hint:=zbms) (by kernel_rfl) (zf (zbfe k_strings_IndexRune) (zf zn5 zl)) fun _ _ _=>(by kernel_rfl)
def zmj (vs:List V):M Out :=
 zb (zd2 3 0 (rep 0 [Value.int .i64 0,Value.int .i64 0,Value.bool false]) []) fun x5 =>
 zb (zgm 3 24 x5 (zd vs 0)) fun x7 =>
 ret (.ret [x7])
def zm0 (x0:V):M V :=
 zb (
 zb (
 zb (za (zcz false (zd9 .s x0))) fun x4 =>
 zn x4 (
 ret (.ret [(Value.slice none 0 0)])
 ) (
 ret (.nxt [x0])
 )
 ) fun o=>nx o zmj
 ) fun o=>zbl o fun vs=>ret (zbh [(zd vs 0)])
def zm1:Hint:=(.seq [] .leaf (.seq [0] (.seq [] .leaf (.cond (.seq [] .leaf .leaf) .leaf)) (.seq [] .leaf .leaf)))
def zdu:List V→M V:=ap1 zm0
theorem zm2:zq Tryz.prog zfy (zdu):=kn1 (σ:=ovr [] noC) (hint:=zm1) (by kernel_rfl) zl fun _=>(by kernel_rfl)
def znl (vs:List V):M Out :=
 zb (zd2 2 0 (rep 0 [Value.int .i64 0,Value.int .i64 0]) []) fun x5 =>
 zb (zgm 2 16 x5 (zd vs 0)) fun x7 =>
 ret (.ret [x7])
def zn6 (x0:V):M V :=
 zb (
 zb (
 zb (za (zcz false (zd9 .s x0))) fun x4 =>
 zn x4 (
 ret (.ret [(Value.slice none 0 0)])
 ) (
 ret (.nxt [x0])
 )
 ) fun o=>nx o znl
 ) fun o=>zbl o fun vs=>ret (zbh [(zd vs 0)])
def zn7:Hint:=(.seq [] .leaf (.seq [0] (.seq [] .leaf (.cond (.seq [] .leaf .leaf) .leaf)) (.seq [] .leaf .leaf)))
def zd8:List V→M V:=ap1 zn6
theorem zn8:zq Tryz.prog zgf (zd8):=kn1 (σ:=ovr [] noC) (hint:=zn7) (by kernel_rfl) zl fun _=>(by kernel_rfl)
noncomputable def zbdk (G_strings_IndexRune:List V→M V) (v5:List V):M Out :=
 zb (za (zy .add (zd v5 4) (Value.int .i64 1))) fun x65 =>
 ret (.nxt [(zd v5 0),(zd v5 1),(zd v5 2),(zd v5 3),x65])
noncomputable def zbdl (G_strings_IndexRune:List V→M V) (v4:List V):M Out :=
 zb (
 zb (
 zb (za (zx 3 (zd v4 2) (zd v4 4))) fun x49 =>
 zb (ldn 3 x49) fun x50 =>
 zb (newc [Value.string ⟨#[]⟩,Value.string ⟨#[]⟩,Value.slice none 0 0]) fun x13 =>
 zb (stn 3 x13 x50) fun _ =>
 zb (za (zg 2 x13)) fun x51 =>
 zb (z8 x51) fun x52 =>
 zb (zd8 [x52]) fun x53 =>
 zb (za (zg 2 x13)) fun x54 =>
 zb (st1 x54 x53) fun _ =>
 zm9 fun h0 =>
 zb (za (zci (zd v4 1))) fun x57 =>
 zb (za (zg 2 x57)) fun x58 =>
 zb (z8 x58) fun x59 =>
 zb (ldn 3 x13) fun x60 =>
 zc9 (zd2 3 1 (rep 1 [Value.string ⟨#[]⟩,Value.string ⟨#[]⟩,Value.slice none 0 0]) [(0,3,x60)]) fun ha x61 h1 =>
 zc9 (zgm 3 56 x59 x61) fun ha_2 x62 h2 =>
 zb (za (zci (zd v4 1))) fun x63 =>
 zb (za (zg 2 x63)) fun x64 =>
 zc9 (st1 x64 x62) fun ha_3 u h3 =>
 zjs (chk (z8 x58) h1 x59) <|
 ret (.nxt [(zd v4 0),(zd v4 1),(zd v4 2),(zd v4 3),(zd v4 4)])
 ) fun o=>ret (zz 1 o)
 ) fun o=>nx o (zbdk G_strings_IndexRune)
noncomputable def z6s (G_strings_IndexRune:List V→M V) (v3:List V):M Out :=
 zb (za (zy .lss (zd v3 4) (zd v3 3))) fun x48 =>
 zb (
 zn x48 (
 ret (.nxt [(zd v3 0),(zd v3 1),(zd v3 2),(zd v3 3),(zd v3 4)])
 ) (
 ret (.brk 0 [(zd v3 0),(zd v3 1)])
 )
 ) fun o=>nx o (zbdl G_strings_IndexRune)
noncomputable def z6t (G_strings_IndexRune:List V→M V) (v9:List V):M Out :=
 zb (za (zy .add (zd v9 4) (Value.int .i64 1))) fun x87 =>
 ret (.nxt [(zd v9 0),(zd v9 1),(zd v9 2),(zd v9 3),x87])
noncomputable def zbdm (G_strings_IndexRune:List V→M V) (v8:List V):M Out :=
 zb (
 zb (
 zb (za (zx 2 (zd v8 2) (zd v8 4))) fun x71 =>
 zb (ldn 2 x71) fun x72 =>
 zb (newc [Value.int .i64 0,Value.bool false]) fun x15 =>
 zb (stn 2 x15 x72) fun _ =>
 zb (za (zg 1 x15)) fun x73 =>
 zb (z8 x73) fun x74 =>
 zb (za (un .not x74)) fun x75 =>
 zn x75 (
 zm9 fun h0_2 =>
 zb (za (zci (zd v8 1))) fun x78 =>
 zb (za (zg 4 x78)) fun x79 =>
 zb (za (zg 0 x15)) fun x81 =>
 zb (z8 x79) fun x80 =>
 zb (z8 x81) fun x82 =>
 zc9 (zd2 1 1 (rep 1 [Value.int .i64 0]) [(0,1,x82)]) fun ha_4 x83 h1_2 =>
 zc9 (zgm 1 8 x80 x83) fun ha_5 x84 h2_2 =>
 zb (za (zci (zd v8 1))) fun x85 =>
 zb (za (zg 4 x85)) fun x86 =>
 zc9 (st1 x86 x84) fun ha_6 u_2 h3_2 =>
 zjs (chk (z8 x79) h1_2 x80) <|
 ret (.nxt [(zd v8 0),(zd v8 1),(zd v8 2),(zd v8 3),(zd v8 4)])
 ) (
 ret (.nxt [(zd v8 0),(zd v8 1),(zd v8 2),(zd v8 3),(zd v8 4)])
 )
 ) fun o=>ret (zz 3 o)
 ) fun o=>nx o (z6t G_strings_IndexRune)
noncomputable def z6u (G_strings_IndexRune:List V→M V) (v7:List V):M Out :=
 zb (za (zy .lss (zd v7 4) (zd v7 3))) fun x70 =>
 zb (
 zn x70 (
 ret (.nxt [(zd v7 0),(zd v7 1),(zd v7 2),(zd v7 3),(zd v7 4)])
 ) (
 ret (.brk 2 [(zd v7 0),(zd v7 1)])
 )
 ) fun o=>nx o (zbdm G_strings_IndexRune)
noncomputable def z6v (G_strings_IndexRune:List V→M V) (v13:List V):M Out :=
 zb (za (zy .add (zd v13 3) (Value.int .i64 1))) fun x104 =>
 ret (.nxt [(zd v13 0),(zd v13 1),(zd v13 2),x104])
noncomputable def zbdn (G_strings_IndexRune:List V→M V) (v12:List V):M Out :=
 zb (
 zb (
 zb (za (zx 3 (zd v12 1) (zd v12 3))) fun x94 =>
 zb (ldn 3 x94) fun x95 =>
 zb (newc [Value.int .i64 0,Value.int .i64 0,Value.int .i64 0]) fun x17 =>
 zb (stn 3 x17 x95) fun _ =>
 zb (za (zg 0 x17)) fun x96 =>
 zb (z8 x96) fun x97 =>
 zb (za (zy .eql x97 (Value.int .i64 (-1)))) fun x98 =>
 zn x98 (
 zb (za (zg 2 x17)) fun x100 =>
 zb (z8 x100) fun x101 =>
 zb (za (zci (zd v12 0))) fun x102 =>
 zb (za (zg 5 x102)) fun x103 =>
 zb (st1 x103 x101) fun _ =>
 ret (.nxt [(zd v12 0),(zd v12 1),(zd v12 2),(zd v12 3)])
 ) (
 ret (.nxt [(zd v12 0),(zd v12 1),(zd v12 2),(zd v12 3)])
 )
 ) fun o=>ret (zz 5 o)
 ) fun o=>nx o (z6v G_strings_IndexRune)
noncomputable def z6w (G_strings_IndexRune:List V→M V) (v11:List V):M Out :=
 zb (za (zy .lss (zd v11 3) (zd v11 2))) fun x93 =>
 zb (
 zn x93 (
 ret (.nxt [(zd v11 0),(zd v11 1),(zd v11 2),(zd v11 3)])
 ) (
 ret (.brk 4 [(zd v11 0)])
 )
 ) fun o=>nx o (zbdn G_strings_IndexRune)
noncomputable def zbdo (G_strings_IndexRune:List V→M V) (v14:List V):M Out :=
 ret (.ret [(zd v14 0),(Value.int .i64 0)])
noncomputable def zba3 (G_strings_IndexRune:List V→M V) (v10:List V):M Out :=
 zb (
 zb (za (zg 3 (zd v10 0))) fun x88 =>
 zb (za (zg 1 x88)) fun x89 =>
 zb (z8 x89) fun x90 =>
 zb (za (zv x90)) fun x91 =>
 zb (
 zbg zby (z6w G_strings_IndexRune) [(zd v10 1),x90,x91,(Value.int .i64 0)]
 ) fun o=>ret (zz 4 o)
 ) fun o=>nx o (zbdo G_strings_IndexRune)
noncomputable def zba4 (G_strings_IndexRune:List V→M V) (v6:List V):M Out :=
 zb (
 zb (za (zg 0 (zd v6 0))) fun x66 =>
 zb (z8 x66) fun x67 =>
 zb (za (zv x67)) fun x68 =>
 zb (
 zbg zby (z6u G_strings_IndexRune) [(zd v6 0),(zd v6 1),x67,x68,(Value.int .i64 0)]
 ) fun o=>ret (zz 2 o)
 ) fun o=>nx o (zba3 G_strings_IndexRune)
noncomputable def zba5 (G_strings_IndexRune:List V→M V) (v2:List V):M Out :=
 zb (za (zg 1 (zd v2 1))) fun x40 =>
 zb (z8 x40) fun x41 =>
 zb (zdu [x41]) fun x42 =>
 zb (za (build [Value.pointer none,Value.pointer none,Value.slice none 0 0,Value.slice none 0 0,Value.slice none 0 0,Value.int .i64 0,Value.int .i64 0,Value.int .i64 0] [(0,1,(zd v2 2)),(1,1,(zd v2 3)),(3,1,x42)])) fun x43 =>
 zb (zeu x43) fun x44 =>
 zb (
 zb (za (zv (zd v2 0))) fun x46 =>
 zb (
 zbg zby (z6s G_strings_IndexRune) [(zd v2 1),x44,(zd v2 0),x46,(Value.int .i64 0)]
 ) fun o=>ret (zz 0 o)
 ) fun o=>nx o (zba4 G_strings_IndexRune)
noncomputable def zba6 (G_strings_IndexRune:List V→M V) (vs:List V):M Out :=
 zb (za (zg 5 (zd vs 2))) fun x28 =>
 zb (z8 x28) fun x29 =>
 zb (za (zv x29)) fun x30 =>
 zb ((zz5 G_strings_IndexRune) [(zd vs 0),x30,(zd vs 1)]) fun x32 =>
 zb (za (ext 0 x32)) fun x33 =>
 zb (za (ext 1 x32)) fun x34 =>
 zb (
 zb (za (zy .neq x34 (Value.int .i64 0))) fun x36 =>
 zn x36 (
 ret (.ret [(Value.pointer none),x34])
 ) (
 ret (.nxt [(zd vs 0),(zd vs 2),(zd vs 3),x33])
 )
 ) fun o=>nx o (zba5 G_strings_IndexRune)
noncomputable def z98 (G_strings_IndexRune:List V→M V) (x0 x1 x2:V):M V :=
 zb (
 zb (zeu x0) fun x3 =>
 zb (ldn 7 x3) fun x19 =>
 zb (zz3 [x19]) fun x20 =>
 zb (za (ext 0 x20)) fun x21 =>
 zb (za (ext 1 x20)) fun x22 =>
 zb (
 zb (za (zy .neq x22 (Value.int .i64 0))) fun x24 =>
 zn x24 (
 ret (.ret [(Value.pointer none),x22])
 ) (
 ret (.nxt [x1,x2,x3,x21])
 )
 ) fun o=>nx o (zba6 G_strings_IndexRune)
 ) fun o=>zbl o fun vs=>ret (zbh [(zd vs 0),(zd vs 1)])
def zbpv:Hint:=(.seq [] .leaf (.seq [] .leaf (.seq [1,2,3,8] (.seq [] .leaf (.cond (.seq [] .leaf .leaf) .leaf)) (.seq [] .leaf (.seq [1,3,8,10] (.seq [] .leaf (.cond (.seq [] .leaf .leaf) .leaf)) (.seq [] .leaf (.seq [3,11] (.seq [] .leaf (.blk (.loop [3,11,45,46,47] (.seq [] .leaf (.seq [3,11,45,46,47] (.cond .leaf .leaf) (.seq [3,11,45,46,47] (.blk (.seq [] .leaf (.seq [] .leaf (.reg [0,1,2,3,4,5,6,7,8,9,10] [])))) .leaf)))))) (.seq [3,11] (.seq [] .leaf (.blk (.loop [3,11,67,68,69] (.seq [] .leaf (.seq [3,11,67,68,69] (.cond .leaf .leaf) (.seq [3,11,67,68,69] (.blk (.seq [] .leaf (.seq [] .leaf (.cond (.reg [0,1,2,3,5,4,6,7,8,9,10,11] []) .leaf)))) .leaf)))))) (.seq [11] (.seq [] .leaf (.blk (.loop [11,90,91,92] (.seq [] .leaf (.seq [11,90,91,92] (.cond .leaf .leaf) (.seq [11,90,91,92] (.blk (.seq [] .leaf (.seq [] .leaf (.cond .leaf .leaf)))) .leaf)))))) (.seq [] .leaf .leaf))))))))))
noncomputable def zt5 (G_strings_IndexRune:List V→M V):List V→M V:=ap3 (z98 G_strings_IndexRune)
theorem zbgj {G_strings_IndexRune:List V→M V} (k_strings_IndexRune:zq Tryz.prog zr G_strings_IndexRune):zq Tryz.prog z12 (zt5 G_strings_IndexRune):=kn3 (σ:=ovr [(z72,zz3),(z73,zz5 G_strings_IndexRune),(zfy,zdu),(zgf,zd8)] noC) (hint:=zbpv) (by kernel_rfl) (zf zbmr (zf (zbmt k_strings_IndexRune) (zf zm2 (zf zn8 zl)))) fun _ _ _=>(by kernel_rfl)
end Go.AM.Cap
