import Derived.Test.YtjchglndancedaaGreatDoorFun
set_option linter.all false
/- Printed by amprint2.py: functions of YtjchglndancedaaGreatDoor on the abstract machine. -/
set_option linter.unusedVariables false
set_option maxRecDepth 100000
namespace Go.AM.Cap
open Go.AM Go.Proofs
noncomputable def zbbk (G_strings_Split:List V→M V) (G_strings_IndexRune:List V→M V) (G_strconv_Atoi:List V→M V) (G_strings_IndexByte:List V→M V) (v3:List V):M Out :=
 zb (ldn 9 (zc v3 0)) fun x55 =>
 zb (stn 9 (zc v3 0) x55) fun _ =>
 ret (.ret [(zc v3 0),(Value.int .i64 0),(Value.int .i64 0)])
noncomputable def zbbl (G_strings_Split:List V→M V) (G_strings_IndexRune:List V→M V) (G_strconv_Atoi:List V→M V) (G_strings_IndexByte:List V→M V) (v2:List V):M Out :=
 zb (
 zb (za (ze 0 (zc v2 0))) fun x42 =>
 zb (ldn 7 x42) fun x43 =>
 zb (za (ze 7 (zc v2 0))) fun x44 =>
 zb (zz x44) fun x45 =>
 zb (za (ze 8 (zc v2 0))) fun x46 =>
 zb (zz x46) fun x47 =>
 zb ((z9n G_strings_IndexRune) [x43,x45,x47]) fun x48 =>
 zb (za (ext 0 x48)) fun x49 =>
 zb (za (ext 1 x48)) fun x50 =>
 zb (za (zr .neq x50 (Value.int .i64 0))) fun x52 =>
 zn x52 (
 zb (za (build [Value.slice none 0 0,Value.slice none 0 0,Value.slice none 0 0,Value.int .i64 0,Value.slice none 0 0,Value.slice none 0 0,Value.int .i64 0,Value.slice none 0 0,Value.int .i64 0] [])) fun x53 =>
 zb (stn 9 (zc v2 0) x53) fun _ =>
 ret (.ret [(zc v2 0),(Value.int .i64 0),x50])
 ) (
 ret (.nxt [(zc v2 0)])
 )
 ) fun o=>nx o (zbbk G_strings_Split G_strings_IndexRune G_strconv_Atoi G_strings_IndexByte)
noncomputable def zbbm (G_strings_Split:List V→M V) (G_strings_IndexRune:List V→M V) (G_strconv_Atoi:List V→M V) (G_strings_IndexByte:List V→M V) (vs:List V):M Out :=
 zb (G_strings_Split [(zc vs 0),(Value.string ⟨#[10]⟩)]) fun x14 =>
 zb (za (zt x14)) fun x16 =>
 zb (za (zr .sub x16 (Value.int .i64 1))) fun x17 =>
 zb (za (zgs 1 x14 none (some x17))) fun x21 =>
 zb ((zzg G_strings_IndexRune G_strconv_Atoi G_strings_IndexByte G_strings_Split) [x21]) fun x22 =>
 zb (za (ext 0 x22)) fun x23 =>
 zb (za (ext 1 x22)) fun x24 =>
 zb (za (ext 2 x22)) fun x25 =>
 zb (stn 9 (zc vs 1) x23) fun _ =>
 zb (
 zb (
 zb (za (zr .neq x25 (Value.int .i64 0))) fun x28 =>
 zn x28 (
 zb (za (build [Value.slice none 0 0,Value.slice none 0 0,Value.slice none 0 0,Value.int .i64 0,Value.slice none 0 0,Value.slice none 0 0,Value.int .i64 0,Value.slice none 0 0,Value.int .i64 0] [])) fun x29 =>
 zb (stn 9 (zc vs 1) x29) fun _ =>
 ret (.ret [(zc vs 1),x24,x25])
 ) (
 zb (za (zq 1 x14 x17)) fun x35 =>
 zb (zz x35) fun x36 =>
 zb (za (zr .neq x36 (Value.string ⟨#[]⟩))) fun x37 =>
 zn x37 (
 zb (za (build [Value.slice none 0 0,Value.slice none 0 0,Value.slice none 0 0,Value.int .i64 0,Value.slice none 0 0,Value.slice none 0 0,Value.int .i64 0,Value.slice none 0 0,Value.int .i64 0] [])) fun x38 =>
 zb (za (zr .add x17 (Value.int .i64 1))) fun x40 =>
 zb (stn 9 (zc vs 1) x38) fun _ =>
 ret (.ret [(zc vs 1),x40,(Value.int .i64 3)])
 ) (
 ret (.nxt [(zc vs 1)])
 )
 )
 ) fun o=>ret (zw 0 o)
 ) fun o=>nx o (zbbl G_strings_Split G_strings_IndexRune G_strconv_Atoi G_strings_IndexByte)
noncomputable def z3o (G_strings_Split:List V→M V) (G_strings_IndexRune:List V→M V) (G_strconv_Atoi:List V→M V) (G_strings_IndexByte:List V→M V) (x0:V):M V :=
 zb (
 zb (newc [Value.slice none 0 0,Value.slice none 0 0,Value.slice none 0 0,Value.int .i64 0,Value.slice none 0 0,Value.slice none 0 0,Value.int .i64 0,Value.slice none 0 0,Value.int .i64 0]) fun x2 =>
 zb (
 zb (za (zc0 x0)) fun x10 =>
 zb (za (zr .gtr x10 (Value.int .i64 65536))) fun x11 =>
 zn x11 (
 zb (za (build [Value.slice none 0 0,Value.slice none 0 0,Value.slice none 0 0,Value.int .i64 0,Value.slice none 0 0,Value.slice none 0 0,Value.int .i64 0,Value.slice none 0 0,Value.int .i64 0] [])) fun x12 =>
 zb (stn 9 x2 x12) fun _ =>
 ret (.ret [x2,(Value.int .i64 0),(Value.int .i64 2)])
 ) (
 ret (.nxt [x0,x2])
 )
 ) fun o=>nx o (zbbm G_strings_Split G_strings_IndexRune G_strconv_Atoi G_strings_IndexByte)
 ) fun o=>zbg o fun vs=>zb (ldn 9 (zc vs 0)) fun r0=>ret (zbe [r0,(zc vs 1),(zc vs 2)])
def zbo3:Hint:=(.seq [] .leaf (.seq [0,2] (.seq [] .leaf (.cond (.seq [] .leaf .leaf) .leaf)) (.seq [] .leaf (.seq [] .leaf (.seq [] .leaf (.seq [2] (.blk (.seq [] .leaf (.cond (.seq [] .leaf .leaf) (.seq [] .leaf (.cond (.seq [] .leaf .leaf) .leaf))))) (.seq [2] (.seq [] .leaf (.seq [] .leaf (.cond (.seq [] .leaf .leaf) .leaf))) (.seq [] .leaf .leaf))))))))
noncomputable def zkm (G_strings_Split:List V→M V) (G_strings_IndexRune:List V→M V) (G_strconv_Atoi:List V→M V) (G_strings_IndexByte:List V→M V):List V→M V:=ap1 (z3o G_strings_Split G_strings_IndexRune G_strconv_Atoi G_strings_IndexByte)
theorem zbe3 {G_strings_Split:List V→M V} {G_strings_IndexRune:List V→M V} {G_strconv_Atoi:List V→M V} {G_strings_IndexByte:List V→M V} (k_strings_Split:zu Tryz.prog zcv G_strings_Split) (k_strings_IndexRune:zu Tryz.prog zx G_strings_IndexRune) (k_strconv_Atoi:zu Tryz.prog zbp G_strconv_Atoi) (k_strings_IndexByte:zu Tryz.prog zb5 G_strings_IndexByte):zu Tryz.prog zw5 (zkm G_strings_Split G_strings_IndexRune G_strconv_Atoi G_strings_IndexByte):=kn1 (σ:=ovr [(zcv,G_strings_Split),(zbai,zzg G_strings_IndexRune G_strconv_Atoi G_strings_IndexByte G_strings_Split),(zbhm,z9n G_strings_IndexRune)] noC) (hint:=zbo3) (by kernel_rfl) (zj k_strings_Split (zj (zbrl k_strings_IndexRune k_strconv_Atoi k_strings_IndexByte k_strings_Split) (zj (zbxc k_strings_IndexRune) zk))) fun _=>(by kernel_rfl)
def zxy (v3:List V):M Out :=
 zb (za (zr .add (zc v3 3) (Value.int .i64 1))) fun x12 =>
 ret (.nxt [(zc v3 0),(zc v3 1),(zc v3 2),x12])
def zxz (v2:List V):M Out :=
 zb (
 zb (
 zb (za (zj3 (zc v2 0) (zc v2 3))) fun x15 =>
 zb (za (zr .eql x15 (Value.int .u8 10))) fun x16 =>
 zn x16 (
 zb (za (zzx (zc v2 0) (some (zc v2 2)) (some (zc v2 3)))) fun x21 =>
 zb (zcz 1 1 (rep 1 [Value.string ⟨#[]⟩]) [(0,1,x21)]) fun x22 =>
 zb (zc4 1 16 (zc v2 1) x22) fun x23 =>
 zb (za (zr .add (zc v2 3) (Value.int .i64 1))) fun x25 =>
 ret (.nxt [(zc v2 0),x23,x25,(zc v2 3)])
 ) (
 ret (.nxt [(zc v2 0),(zc v2 1),(zc v2 2),(zc v2 3)])
 )
 ) fun o=>ret (zw 1 o)
 ) fun o=>nx o zxy
def zm0 (vs:List V):M Out :=
 zb (
 zb (za (zc0 (zc vs 0))) fun x9 =>
 zb (za (zr .lss (zc vs 3) x9)) fun x10 =>
 zn x10 (
 ret (.nxt [(zc vs 0),(zc vs 1),(zc vs 2),(zc vs 3)])
 ) (
 ret (.brk 0 [(zc vs 0),(zc vs 1),(zc vs 2)])
 )
 ) fun o=>nx o zxz
def z7a (v5:List V):M Out :=
 ret (.ret [(zc v5 0),(Value.bool true)])
def zx0 (v4:List V):M Out :=
 zb (
 zb (za (zc0 (zc v4 0))) fun x28 =>
 zb (za (zr .lss (zc v4 2) x28)) fun x29 =>
 zn x29 (
 zb (za (zzx (zc v4 0) (some (zc v4 2)) none)) fun x33 =>
 zb (zcz 1 1 (rep 1 [Value.string ⟨#[]⟩]) [(0,1,x33)]) fun x34 =>
 zb (zc4 1 16 (zc v4 1) x34) fun x35 =>
 ret (.ret [x35,(Value.bool false)])
 ) (
 ret (.nxt [(zc v4 1)])
 )
 ) fun o=>nx o z7a
def z0v (x0:V):M V :=
 zb (
 zb (
 zb (
 zbf zbs zm0 [x0,(Value.slice none 0 0),(Value.int .i64 0),(Value.int .i64 0)]
 ) fun o=>ret (zw 0 o)
 ) fun o=>nx o zx0
 ) fun o=>zbg o fun vs=>ret (zbe [(zc vs 0),(zc vs 1)])
def zbli:Hint:=(.seq [] .leaf (.seq [] .leaf (.seq [] .leaf (.seq [0,4,5] (.seq [] .leaf (.blk (.loop [0,4,5,6] (.seq [0,4,5,6] (.seq [] .leaf (.cond .leaf .leaf)) (.seq [0,4,5,6] (.blk (.seq [] .leaf (.cond (.seq [] .leaf .leaf) .leaf))) .leaf))))) (.seq [4] (.seq [] .leaf (.cond (.seq [] .leaf .leaf) .leaf)) (.seq [] .leaf .leaf))))))
def zs7:List V→M V:=ap1 z0v
theorem zblj:zu Tryz.prog z4f (zs7):=kn1 (σ:=ovr [] noC) (hint:=zbli) (by kernel_rfl) zk fun _=>(by kernel_rfl)
def zx1 (v3:List V):M Out :=
 zb (za (zzx (zc v3 0) (some (zc v3 2)) (some (zc v3 3)))) fun x30 =>
 zb (zcz 1 1 (rep 1 [Value.string ⟨#[]⟩]) [(0,1,x30)]) fun x31 =>
 zb (zc4 1 16 (zc v3 1) x31) fun x32 =>
 zb (za (zr .add (zc v3 3) (Value.int .i64 1))) fun x34 =>
 ret (.nxt [(zc v3 0),x32,x34,(zc v3 3)])
def zrb (v4:List V):M Out :=
 zb (za (zr .add (zc v4 3) (Value.int .i64 1))) fun x12 =>
 ret (.nxt [(zc v4 0),(zc v4 1),(zc v4 2),x12])
def zjx (v2:List V):M Out :=
 zb (
 zb (
 zb (za (zc0 (zc v2 0))) fun x15 =>
 zb (za (zr .eql (zc v2 3) x15)) fun x16 =>
 zb (gd x16 false (za (some (zc v2 0)))) fun x18 =>
 zb (gd x16 false (za (some (zc v2 3)))) fun x19 =>
 zb (gd x16 false (za (zj3 x18 x19))) fun x20 =>
 zb (gd x16 false (za (zr .eql x20 (Value.int .u8 32)))) fun x21 =>
 zb (za (zy x16 (Value.bool true) x21)) fun x22 =>
 zn x22 (
 zb (
 zb (za (zr .eql (zc v2 3) (zc v2 2))) fun x25 =>
 zn x25 (
 ret (.ret [(Value.slice none 0 0),(Value.bool false)])
 ) (
 ret (.nxt [(zc v2 0),(zc v2 1),(zc v2 2),(zc v2 3)])
 )
 ) fun o=>nx o zx1
 ) (
 ret (.nxt [(zc v2 0),(zc v2 1),(zc v2 2),(zc v2 3)])
 )
 ) fun o=>ret (zw 1 o)
 ) fun o=>nx o zrb
def zhx (vs:List V):M Out :=
 zb (
 zb (za (zc0 (zc vs 0))) fun x9 =>
 zb (za (zr .leq (zc vs 3) x9)) fun x10 =>
 zn x10 (
 ret (.nxt [(zc vs 0),(zc vs 1),(zc vs 2),(zc vs 3)])
 ) (
 ret (.brk 0 [(zc vs 1)])
 )
 ) fun o=>nx o zjx
def z7b (v5:List V):M Out :=
 ret (.ret [(zc v5 0),(Value.bool true)])
def z0w (x0:V):M V :=
 zb (
 zb (
 zb (
 zbf zbs zhx [x0,(Value.slice none 0 0),(Value.int .i64 0),(Value.int .i64 0)]
 ) fun o=>ret (zw 0 o)
 ) fun o=>nx o z7b
 ) fun o=>zbg o fun vs=>ret (zbe [(zc vs 0),(zc vs 1)])
def zblk:Hint:=(.seq [] .leaf (.seq [] .leaf (.seq [] .leaf (.seq [4] (.seq [] .leaf (.blk (.loop [0,4,5,6] (.seq [0,4,5,6] (.seq [] .leaf (.cond .leaf .leaf)) (.seq [0,4,5,6] (.blk (.seq [] .leaf (.cond (.seq [0,4,5,6] (.seq [] .leaf (.cond (.seq [] .leaf .leaf) .leaf)) (.seq [] .leaf .leaf)) .leaf))) .leaf))))) (.seq [] .leaf .leaf)))))
def zs8:List V→M V:=ap1 z0w
theorem zbll:zu Tryz.prog z4h (zs8):=kn1 (σ:=ovr [] noC) (hint:=zblk) (by kernel_rfl) zk fun _=>(by kernel_rfl)
def zbe4 (v4:List V):M Out :=
 zb (za (zr .mul (zc v4 1) (Value.int .i64 10))) fun x40 =>
 zb (za (zj3 (zc v4 0) (zc v4 2))) fun x43 =>
 zb (za (zr .sub x43 (Value.int .u8 48))) fun x44 =>
 zb (za (cvi .i64 x44)) fun x45 =>
 zb (za (zr .add x40 x45)) fun x46 =>
 ret (.nxt [(zc v4 0),x46,(zc v4 2)])
def zbe5 (v5:List V):M Out :=
 zb (za (zr .add (zc v5 2) (Value.int .i64 1))) fun x28 =>
 ret (.nxt [(zc v5 0),(zc v5 1),x28])
def zv3 (v3:List V):M Out :=
 zb (
 zb (
 zb (
 zb (za (zj3 (zc v3 0) (zc v3 2))) fun x31 =>
 zb (za (zr .lss x31 (Value.int .u8 48))) fun x32 =>
 zb (gd x32 false (za (some (zc v3 0)))) fun x34 =>
 zb (gd x32 false (za (some (zc v3 2)))) fun x35 =>
 zb (gd x32 false (za (zj3 x34 x35))) fun x36 =>
 zb (gd x32 false (za (zr .gtr x36 (Value.int .u8 57)))) fun x37 =>
 zb (za (zy x32 (Value.bool true) x37)) fun x38 =>
 zn x38 (
 ret (.ret [(Value.int .i64 0),(Value.bool false)])
 ) (
 ret (.nxt [(zc v3 0),(zc v3 1),(zc v3 2)])
 )
 ) fun o=>nx o zbe4
 ) fun o=>ret (zw 1 o)
 ) fun o=>nx o zbe5
def zrc (v2:List V):M Out :=
 zb (
 zb (za (zc0 (zc v2 0))) fun x25 =>
 zb (za (zr .lss (zc v2 2) x25)) fun x26 =>
 zn x26 (
 ret (.nxt [(zc v2 0),(zc v2 1),(zc v2 2)])
 ) (
 ret (.brk 0 [(zc v2 1)])
 )
 ) fun o=>nx o zv3
def zbe6 (v6:List V):M Out :=
 zb (za (zr .leq (zc v6 0) (Value.int .i64 1000000000))) fun x49 =>
 ret (.ret [(zc v6 0),x49])
def z3p (vs:List V):M Out :=
 zb (
 zb (
 zbf zbs zrc [(zc vs 0),(Value.int .i64 0),(Value.int .i64 0)]
 ) fun o=>ret (zw 0 o)
 ) fun o=>nx o zbe6
def zm1 (x0:V):M V :=
 zb (
 zb (
 zb (za (zr .eql x0 (Value.string ⟨#[]⟩))) fun x7 =>
 zb (gd x7 false (za (some x0))) fun x9 =>
 zb (gd x7 false (za (zc0 x9))) fun x10 =>
 zb (gd x7 false (za (zr .gtr x10 (Value.int .i64 10)))) fun x11 =>
 zb (za (zy x7 (Value.bool true) x11)) fun x12 =>
 zb (gd x12 false (za (some x0))) fun x14 =>
 zb (gd x12 false (za (zc0 x14))) fun x15 =>
 zb (gd x12 false (za (zr .gtr x15 (Value.int .i64 1)))) fun x16 =>
 zb (gd x12 false (za (some x16))) fun x17 =>
 zb (gd x17 true (za (some x0))) fun x18 =>
 zb (gd x17 true (za (zj3 x18 (Value.int .i64 0)))) fun x19 =>
 zb (gd x17 true (za (zr .eql x19 (Value.int .u8 48)))) fun x20 =>
 zb (gd x12 false (za (zy x17 x20 (Value.bool false)))) fun x21 =>
 zb (za (zy x12 (Value.bool true) x21)) fun x22 =>
 zn x22 (
 ret (.ret [(Value.int .i64 0),(Value.bool false)])
 ) (
 ret (.nxt [x0])
 )
 ) fun o=>nx o z3p
 ) fun o=>zbg o fun vs=>ret (zbe [(zc vs 0),(zc vs 1)])
def zbru:Hint:=(.seq [] .leaf (.seq [0] (.seq [] .leaf (.cond (.seq [] .leaf .leaf) .leaf)) (.seq [] .leaf (.seq [4] (.seq [] .leaf (.blk (.loop [0,4,5] (.seq [0,4,5] (.seq [] .leaf (.cond .leaf .leaf)) (.seq [0,4,5] (.blk (.seq [0,4,5] (.seq [] .leaf (.cond (.seq [] .leaf .leaf) .leaf)) .leaf)) .leaf))))) (.seq [] .leaf .leaf)))))
def zhh:List V→M V:=ap1 zm1
theorem zzj:zu Tryz.prog zoo (zhh):=kn1 (σ:=ovr [] noC) (hint:=zbru) (by kernel_rfl) zk fun _=>(by kernel_rfl)
def zbbn (v4:List V):M Out :=
 zb (zcz 1 1 (rep 1 [Value.int .i64 0]) [(0,1,(zc v4 3))]) fun x37 =>
 zb (zc4 1 8 (zc v4 1) x37) fun x38 =>
 ret (.nxt [(zc v4 0),x38,(zc v4 2)])
def zbbo (v5:List V):M Out :=
 zb (za (zr .add (zc v5 2) (Value.int .i64 1))) fun x24 =>
 ret (.nxt [(zc v5 0),(zc v5 1),x24])
def zbbp (v3:List V):M Out :=
 zb (
 zb (
 zb (za (zq 1 (zc v3 0) (zc v3 2))) fun x28 =>
 zb (zz x28) fun x29 =>
 zb (zhh [x29]) fun x30 =>
 zb (za (ext 0 x30)) fun x31 =>
 zb (za (ext 1 x30)) fun x32 =>
 zb (
 zb (za (un .not x32)) fun x34 =>
 zn x34 (
 ret (.ret [(Value.slice none 0 0),(Value.bool false)])
 ) (
 ret (.nxt [(zc v3 0),(zc v3 1),(zc v3 2),x31])
 )
 ) fun o=>nx o zbbn
 ) fun o=>ret (zw 1 o)
 ) fun o=>nx o zbbo
def z0x (v2:List V):M Out :=
 zb (
 zb (za (zt (zc v2 0))) fun x21 =>
 zb (za (zr .lss (zc v2 2) x21)) fun x22 =>
 zn x22 (
 ret (.nxt [(zc v2 0),(zc v2 1),(zc v2 2)])
 ) (
 ret (.brk 0 [(zc v2 1)])
 )
 ) fun o=>nx o zbbp
def zbbq (v6:List V):M Out :=
 ret (.ret [(zc v6 0),(Value.bool true)])
def zbbr (vs:List V):M Out :=
 zb (
 zb (
 zbf zbs z0x [(zc vs 0),(Value.slice none 0 0),(zc vs 1)]
 ) fun o=>ret (zw 0 o)
 ) fun o=>nx o zbbq
def zv4 (x0 x1 x2:V):M V :=
 zb (
 zb (
 zb (za (zt x0)) fun x13 =>
 zb (za (zr .add x1 x2)) fun x16 =>
 zb (za (zr .neq x13 x16)) fun x17 =>
 zn x17 (
 ret (.ret [(Value.slice none 0 0),(Value.bool false)])
 ) (
 ret (.nxt [x0,x1])
 )
 ) fun o=>nx o zbbr
 ) fun o=>zbg o fun vs=>ret (zbe [(zc vs 0),(zc vs 1)])
def zbo4:Hint:=(.seq [] .leaf (.seq [0,1] (.seq [] .leaf (.cond (.seq [] .leaf .leaf) .leaf)) (.seq [] .leaf (.seq [8] (.seq [] .leaf (.blk (.loop [0,8,9] (.seq [0,8,9] (.seq [] .leaf (.cond .leaf .leaf)) (.seq [0,8,9] (.blk (.seq [] .leaf (.seq [0,8,9,10] (.seq [] .leaf (.cond (.seq [] .leaf .leaf) .leaf)) .leaf))) .leaf))))) (.seq [] .leaf .leaf)))))
def zez:List V→M V:=ap3 zv4
def zbo5:zv:=ovr [(zoo,zhh)] noC
theorem zv5:zu Tryz.prog zl2 (zez):=kn3 (σ:=zbo5) (hint:=zbo4) (by kernel_rfl) (zj zzj zk) fun _ _ _=>(by kernel_rfl)
def z7c (v3:List V):M Out :=
 zb (za (zr .add (zc v3 2) (Value.int .i64 1))) fun x11 =>
 ret (.nxt [(zc v3 0),(zc v3 1),x11])
def zx2 (v2:List V):M Out :=
 zb (
 zb (
 zb (za (zq 1 (zc v2 0) (zc v2 2))) fun x14 =>
 zb (zz x14) fun x15 =>
 zb (za (zr .eql x15 (zc v2 1))) fun x17 =>
 zn x17 (
 ret (.ret [(zc v2 2)])
 ) (
 ret (.nxt [(zc v2 0),(zc v2 1),(zc v2 2)])
 )
 ) fun o=>ret (zw 1 o)
 ) fun o=>nx o z7c
def zrd (vs:List V):M Out :=
 zb (
 zb (za (zt (zc vs 0))) fun x8 =>
 zb (za (zr .lss (zc vs 2) x8)) fun x9 =>
 zn x9 (
 ret (.nxt [(zc vs 0),(zc vs 1),(zc vs 2)])
 ) (
 ret (.brk 0 [])
 )
 ) fun o=>nx o zx2
def z7d (v4:List V):M Out :=
 ret (.ret [(Value.int .i64 (-1))])
def z0y (x0 x1:V):M V :=
 zb (
 zb (
 zb (
 zbf zbs zrd [x0,x1,(Value.int .i64 0)]
 ) fun o=>ret (zw 0 o)
 ) fun o=>nx o z7d
 ) fun o=>zbg o fun vs=>ret (zbe [(zc vs 0)])
def zblm:Hint:=(.seq [] .leaf (.seq [] (.seq [] .leaf (.blk (.loop [0,1,5] (.seq [0,1,5] (.seq [] .leaf (.cond .leaf .leaf)) (.seq [0,1,5] (.blk (.seq [] .leaf (.cond (.seq [] .leaf .leaf) .leaf))) .leaf))))) (.seq [] .leaf .leaf)))
def zdr:List V→M V:=ap2 z0y
theorem zs9:zu Tryz.prog zkr (zdr):=kn2 (σ:=ovr [] noC) (hint:=zblm) (by kernel_rfl) zk fun _ _=>(by kernel_rfl)
def zha (v3:List V):M Out :=
 ret (.ret [(Value.int .i64 0)])
def zre (v2:List V):M Out :=
 zhc fun h0 =>
 zb (za (zbo (zc v2 0))) fun x25 =>
 zb (za (ze 9 x25)) fun x26 =>
 zb (za (zq 1 (zc v2 1) (Value.int .i64 0))) fun x29 =>
 zb (zz x26) fun x27 =>
 zb (zz x29) fun x30 =>
 zb4 (zcz 1 1 (rep 1 [Value.string ⟨#[]⟩]) [(0,1,x30)]) fun ha x31 h1 =>
 zb4 (zc4 1 16 x27 x31) fun ha_2 x32 h2 =>
 zb (za (zbo (zc v2 0))) fun x33 =>
 zb (za (ze 9 x33)) fun x34 =>
 zb4 (st1 x34 x32) fun ha_3 u h3 =>
 zfi (chk (zz x26) h1 x27) <|
 zb (
 zb (za (zq 1 (zc v2 1) (Value.int .i64 0))) fun x36 =>
 zb (zz x36) fun x37 =>
 zb (
 zb (za (zr .eql x37 (Value.string ⟨#[109,105,108,108,105,115]⟩))) fun x46 =>
 zn x46 (
 zb (za (zq 1 (zc v2 2) (Value.int .i64 0))) fun x49 =>
 zb (zz x49) fun x50 =>
 zb (za (zbo (zc v2 0))) fun x51 =>
 zb (za (ze 0 x51)) fun x52 =>
 zb (za (ze 0 x52)) fun x53 =>
 zb (za (ze 6 x53)) fun x54 =>
 zb (st1 x54 x50) fun _ =>
 ret (.nxt [])
 ) (
 zb (za (zr .eql x37 (Value.string ⟨#[102,114,97,109,101]⟩))) fun x56 =>
 zn x56 (
 zb (za (zq 1 (zc v2 2) (Value.int .i64 0))) fun x59 =>
 zb (zz x59) fun x60 =>
 zb (za (zbo (zc v2 0))) fun x61 =>
 zb (za (ze 0 x61)) fun x62 =>
 zb (za (ze 0 x62)) fun x63 =>
 zb (za (ze 3 x63)) fun x64 =>
 zb (za (ze 0 x64)) fun x65 =>
 zb (st1 x65 x60) fun _ =>
 ret (.nxt [])
 ) (
 zb (za (zq 1 (zc v2 2) (Value.int .i64 0))) fun x40 =>
 zb (zz x40) fun x41 =>
 zb (za (zbo (zc v2 0))) fun x42 =>
 zb (za (ze 0 x42)) fun x43 =>
 zb (za (ze 8 x43)) fun x44 =>
 zb (st1 x44 x41) fun _ =>
 ret (.nxt [])
 )
 )
 ) fun o=>ret (zw 0 o)
 ) fun o=>nx o zha
def zrf (vs:List V):M Out :=
 zb (
 zb (za (zbo (zc vs 0))) fun x15 =>
 zb (za (ze 9 x15)) fun x16 =>
 zb (za (zq 1 (zc vs 1) (Value.int .i64 0))) fun x19 =>
 zb (zz x16) fun x17 =>
 zb (zz x19) fun x20 =>
 zb (zdr [x17,x20]) fun x21 =>
 zb (za (zr .geq x21 (Value.int .i64 0))) fun x22 =>
 zn x22 (
 ret (.ret [(Value.int .i64 6)])
 ) (
 ret (.nxt [(zc vs 0),(zc vs 1),(zc vs 2)])
 )
 ) fun o=>nx o zre
def zlk (x0 x1:V):M V :=
 zb (
 zb (zez [x1,(Value.int .i64 1),(Value.int .i64 1)]) fun x9 =>
 zb (za (ext 0 x9)) fun x10 =>
 zb (za (ext 1 x9)) fun x11 =>
 zb (
 zb (za (un .not x11)) fun x13 =>
 zn x13 (
 ret (.ret [(Value.int .i64 3)])
 ) (
 ret (.nxt [x0,x1,x10])
 )
 ) fun o=>nx o zrf
 ) fun o=>zbg o fun vs=>ret (zbe [(zc vs 0)])
def z5f:Hint:=(.seq [] .leaf (.seq [] .leaf (.seq [0,1,5] (.seq [] .leaf (.cond (.seq [] .leaf .leaf) .leaf)) (.seq [0,1,5] (.seq [] (.reg [0,1,2,4,5,3,6,7,8] []) (.cond (.seq [] .leaf .leaf) .leaf)) (.seq [] (.reg [0,1,2,3,5,6,4,7,8,9,10,11,12] []) (.seq [] (.seq [] .leaf (.blk (.seq [] .leaf (.cond .leaf (.seq [] .leaf (.cond .leaf .leaf)))))) (.seq [] .leaf .leaf)))))))
def zh3:List V→M V:=ap2 zlk
def z5g:zv:=ovr [(zl2,zez),(zkr,zdr)] noC
theorem z5h:zu Tryz.prog zp2 (zh3):=kn2 (σ:=z5g) (hint:=z5f) (by kernel_rfl) (zj zv5 (zj zs9 zk)) fun _ _=>(by kernel_rfl)
def z0z:M V :=
 zb (
 zb (zcz 1 4 (rep 4 [Value.string ⟨#[]⟩]) [(0,1,(Value.string ⟨#[]⟩)),(1,1,(Value.string ⟨#[98,111,111,108]⟩)),(2,1,(Value.string ⟨#[105,110,116]⟩)),(3,1,(Value.string ⟨#[100,105,110,116]⟩))]) fun x1 =>
 ret (.ret [x1])
 ) fun o=>zbg o fun vs=>ret (zbe [(zc vs 0)])
def zbln:Hint:=(.seq [] .leaf (.seq [] .leaf .leaf))
def zhi:List V→M V:=ap0 z0z
theorem zbbs:zu Tryz.prog zuj (zhi):=kn0 (σ:=ovr [] noC) (hint:=zbln) (by kernel_rfl) zk (by kernel_rfl)
def zsc (vs:List V):M Out :=
 zhc fun h0_2 =>
 zb (za (zbo (zc vs 0))) fun x18 =>
 zb (za (ze 0 x18)) fun x19 =>
 zb (za (ze 0 x19)) fun x20 =>
 zb (za (ze 0 x20)) fun x21 =>
 zb (za (zq 1 (zc vs 1) (Value.int .i64 1))) fun x25 =>
 zb (za (zq 1 (zc vs 1) (Value.int .i64 0))) fun x29 =>
 zb (zz x21) fun x22 =>
 zb (zz x25) fun x26 =>
 zb (zz x29) fun x30 =>
 zb (za (zr .eql x30 (Value.string ⟨#[111,117,116]⟩))) fun x31 =>
 zb4 (zhi []) fun ha_3 x23 h1_2 =>
 zb4 (zdr [x23,x26]) fun ha_4 x27 h2_2 =>
 zb (za (build [Value.int .i64 0,Value.bool false] [(0,1,x27),(1,1,x31)])) fun x32 =>
 zb4 (zcz 2 1 (rep 1 [Value.int .i64 0,Value.bool false]) [(0,2,x32)]) fun ha_5 x33 h3 =>
 zb4 (zc4 2 16 x22 x33) fun ha_6 x34 h4 =>
 zb (za (zbo (zc vs 0))) fun x35 =>
 zb (za (ze 0 x35)) fun x36 =>
 zb (za (ze 0 x36)) fun x37 =>
 zb (za (ze 0 x37)) fun x38 =>
 zb4 (st1 x38 x34) fun ha_7 u h5 =>
 zfi (chk (zz x21) h1_2 x22) <|
 zfi (chk (zz x21) h2_2 x22) <|
 zfi (chk (zz x21) h3 x22) <|
 zfi (chk (zz x25) h1_2 x26) <|
 zfi (chk (zz x29) h1_2 x30) <|
 zfi (chk (zz x29) h2_2 x30) <|
 ret (.ret [(Value.bool true)])
def zii (x0 x1:V):M V :=
 zb (
 zb (
 zhc fun h0 =>
 zb (za (zt x1)) fun x6 =>
 zb (za (zr .neq x6 (Value.int .i64 2))) fun x7 =>
 zb (gd x7 false (za (some x1))) fun x10 =>
 zb (gd x7 false (za (zq 1 x10 (Value.int .i64 1)))) fun x11 =>
 zb (gd x7 false (zz x11)) fun x12 =>
 zb4 (gd x7 false (zhi [])) fun ha x9 h1 =>
 zb4 (gd x7 false (zdr [x9,x12])) fun ha_2 x13 h2 =>
 zb (gd x7 false (za (zr .lss x13 (Value.int .i64 1)))) fun x14 =>
 zb (za (zy x7 (Value.bool true) x14)) fun x15 =>
 zfi (chk (gd x7 false (zz x11)) h1 x12) <|
 zn x15 (
 ret (.ret [(Value.bool false)])
 ) (
 ret (.nxt [x0,x1])
 )
 ) fun o=>nx o zsc
 ) fun o=>zbg o fun vs=>ret (zbe [(zc vs 0)])
def z7e:Hint:=(.seq [] .leaf (.seq [0,1] (.seq [] (.reg [0,1,2,3,5,6,7,4,8,9,10] []) (.cond (.seq [] .leaf .leaf) .leaf)) (.seq [] (.reg [0,1,2,3,4,5,8,9,12,13,6,10,14,15,7,11,16,17,18,19,20,21,22,23] []) (.seq [] .leaf .leaf))))
def zij:List V→M V:=ap2 zii
def z7f:zv:=ovr [(zuj,zhi),(zkr,zdr)] noC
theorem z7g:zu Tryz.prog zqo (zij):=kn2 (σ:=z7f) (hint:=z7e) (by kernel_rfl) (zj zbbs (zj zs9 zk)) fun _ _=>(by kernel_rfl)
def zbbt (vs:List V):M Out :=
 ret (.ret [(Value.int .i64 3)])
def zrg (x0:V):M V :=
 zb (
 zb (
 zn x0 (
 ret (.ret [(Value.int .i64 0)])
 ) (
 ret (.nxt [])
 )
 ) fun o=>nx o zbbt
 ) fun o=>zbg o fun vs=>ret (zbe [(zc vs 0)])
def zbo6:Hint:=(.seq [] .leaf (.seq [] (.seq [] .leaf (.cond (.seq [] .leaf .leaf) .leaf)) (.seq [] .leaf .leaf)))
def ze0:List V→M V:=ap1 zrg
theorem zbo7:zu Tryz.prog z6a (ze0):=kn1 (σ:=ovr [] noC) (hint:=zbo6) (by kernel_rfl) zk fun _=>(by kernel_rfl)
def zm2 (v4:List V):M Out :=
 zhc fun h0_3 =>
 zb (za (zbo (zc v4 0))) fun x63 =>
 zb (za (ze 0 x63)) fun x64 =>
 zb (za (ze 0 x64)) fun x65 =>
 zb (za (ze 2 x65)) fun x66 =>
 zb (zz x66) fun x67 =>
 zb (ldn 5 (zc v4 1)) fun x68 =>
 zb4 (zcz 5 1 (rep 1 [Value.int .i64 0,Value.int .i64 0,Value.int .i64 0,Value.int .i64 0,Value.int .i64 0]) [(0,5,x68)]) fun ha_6 x69 h1_3 =>
 zb4 (zc4 5 40 x67 x69) fun ha_7 x70 h2_3 =>
 zb (za (zbo (zc v4 0))) fun x71 =>
 zb (za (ze 0 x71)) fun x72 =>
 zb (za (ze 0 x72)) fun x73 =>
 zb (za (ze 2 x73)) fun x74 =>
 zb4 (st1 x74 x70) fun ha_8 u_2 h3_2 =>
 zfi (chk (zz x66) h1_3 x67) <|
 ret (.ret [(zc v4 2)])
def zt2 (v3:List V):M Out :=
 zb (za (zq 1 (zc v3 3) (Value.int .i64 0))) fun x37 =>
 zb (zz x37) fun x38 =>
 zb (za (ze 1 (zc v3 2))) fun x39 =>
 zb (st1 x39 x38) fun _ =>
 zb (za (zq 1 (zc v3 3) (Value.int .i64 1))) fun x41 =>
 zb (zz x41) fun x42 =>
 zb (za (ze 2 (zc v3 2))) fun x43 =>
 zb (st1 x43 x42) fun _ =>
 zhc fun h0_2 =>
 zb (za (zq 1 (zc v3 1) (Value.int .i64 3))) fun x46 =>
 zb (zz x46) fun x47 =>
 zb4 (zhi []) fun ha_3 x44 h1_2 =>
 zb4 (zdr [x44,x47]) fun ha_4 x48 h2_2 =>
 zb (za (ze 3 (zc v3 2))) fun x49 =>
 zb4 (st1 x49 x48) fun ha_5 u h3 =>
 zfi (chk (zz x46) h1_2 x47) <|
 zb (
 zb (za (ze 0 (zc v3 2))) fun x50 =>
 zb (zz x50) fun x51 =>
 zb (za (zr .eql x51 (Value.int .i64 2))) fun x52 =>
 zn x52 (
 zb (za (zq 1 (zc v3 1) (Value.int .i64 4))) fun x55 =>
 zb (zz x55) fun x56 =>
 zb (zhh [x56]) fun x57 =>
 zb (za (ext 0 x57)) fun x58 =>
 zb (za (ext 1 x57)) fun x59 =>
 zb (za (ze 4 (zc v3 2))) fun x60 =>
 zb (st1 x60 x58) fun _ =>
 ret (.nxt [(zc v3 0),(zc v3 2),x59])
 ) (
 ret (.nxt [(zc v3 0),(zc v3 2),(zc v3 4)])
 )
 ) fun o=>nx o zm2
def zt3 (v2:List V):M Out :=
 zb (za (zgs 1 (zc v2 1) none (some (Value.int .i64 3)))) fun x22 =>
 zb (zez [x22,(Value.int .i64 1),(Value.int .i64 2)]) fun x23 =>
 zb (za (ext 0 x23)) fun x24 =>
 zb (za (ext 1 x23)) fun x25 =>
 zb (
 zhc fun h0 =>
 zb (za (un .not x25)) fun x27 =>
 zb (gd x27 false (za (some (zc v2 1)))) fun x30 =>
 zb (gd x27 false (za (zq 1 x30 (Value.int .i64 3)))) fun x31 =>
 zb (gd x27 false (zz x31)) fun x32 =>
 zb4 (gd x27 false (zhi [])) fun ha x29 h1 =>
 zb4 (gd x27 false (zdr [x29,x32])) fun ha_2 x33 h2 =>
 zb (gd x27 false (za (zr .lss x33 (Value.int .i64 1)))) fun x34 =>
 zb (za (zy x27 (Value.bool true) x34)) fun x35 =>
 zfi (chk (gd x27 false (zz x31)) h1 x32) <|
 zn x35 (
 ret (.ret [(Value.bool false)])
 ) (
 ret (.nxt [(zc v2 0),(zc v2 1),(zc v2 2),x24,x25])
 )
 ) fun o=>nx o zt2
def zik (vs:List V):M Out :=
 zb (
 zb (za (zt (zc vs 1))) fun x15 =>
 zb (za (ze 0 (zc vs 2))) fun x16 =>
 zb (zz x16) fun x17 =>
 zb (za (zr .add (Value.int .i64 3) x17)) fun x18 =>
 zb (za (zr .neq x15 x18)) fun x19 =>
 zn x19 (
 ret (.ret [(Value.bool false)])
 ) (
 ret (.nxt [(zc vs 0),(zc vs 1),(zc vs 2)])
 )
 ) fun o=>nx o zt3
def zjd (x0 x1:V):M V :=
 zb (
 zb (za (build [Value.int .i64 0,Value.int .i64 0,Value.int .i64 0,Value.int .i64 0,Value.int .i64 0] [(0,1,(Value.int .i64 1))])) fun x8 =>
 zb (newc [Value.int .i64 0,Value.int .i64 0,Value.int .i64 0,Value.int .i64 0,Value.int .i64 0]) fun x5 =>
 zb (stn 5 x5 x8) fun _ =>
 zb (
 zb (za (zq 1 x1 (Value.int .i64 0))) fun x10 =>
 zb (zz x10) fun x11 =>
 zb (za (zr .eql x11 (Value.string ⟨#[113,117,101,117,101]⟩))) fun x12 =>
 zn x12 (
 zb (za (ze 0 x5)) fun x13 =>
 zb (st1 x13 (Value.int .i64 2)) fun _ =>
 ret (.nxt [x0,x1,x5])
 ) (
 ret (.nxt [x0,x1,x5])
 )
 ) fun o=>nx o zik
 ) fun o=>zbg o fun vs=>ret (zbe [(zc vs 0)])
def z93:Hint:=(.seq [] .leaf (.seq [] .leaf (.seq [0,1,5] (.seq [] .leaf (.cond .leaf .leaf)) (.seq [0,1,5] (.seq [] .leaf (.cond (.seq [] .leaf .leaf) .leaf)) (.seq [] .leaf (.seq [0,1,5,6,7] (.seq [] (.reg [0,1,2,4,5,6,3,7,8,9] []) (.cond (.seq [] .leaf .leaf) .leaf)) (.seq [] .leaf (.seq [] .leaf (.seq [] (.reg [1,2,3,0,4,5,6] []) (.seq [0,5,7] (.seq [] .leaf (.cond .leaf .leaf)) (.seq [] (.reg [0,1,2,3,4,5,6,7,8,9,10,11,12,13,14] []) (.seq [] .leaf .leaf))))))))))))
def zje:List V→M V:=ap2 zjd
def z94:zv:=ovr [(zl2,zez),(zuj,zhi),(zkr,zdr),(zoo,zhh)] noC
theorem z95:zu Tryz.prog zr9 (zje):=kn2 (σ:=z94) (hint:=z93) (by kernel_rfl) (zj zv5 (zj zbbs (zj zs9 (zj zzj zk)))) fun _ _=>(by kernel_rfl)
def zkn (vs:List V):M Out :=
 ret (.ret [(zc vs 0)])
def zko (v3:List V):M Out :=
 ret (.ret [(zc v3 0)])
def zrh (v2:List V):M Out :=
 zb (zez [(zc v2 1),(Value.int .i64 1),(Value.int .i64 3)]) fun x48 =>
 zb (za (ext 0 x48)) fun x49 =>
 zb (za (ext 1 x48)) fun x50 =>
 zb (
 zn x50 (
 zhc fun h0_2 =>
 zb (za (zbo (zc v2 0))) fun x54 =>
 zb (za (ze 0 x54)) fun x55 =>
 zb (za (ze 0 x55)) fun x56 =>
 zb (za (ze 3 x56)) fun x57 =>
 zb (za (ze 1 x57)) fun x58 =>
 zb (za (zq 1 x49 (Value.int .i64 0))) fun x61 =>
 zb (za (zq 1 x49 (Value.int .i64 1))) fun x64 =>
 zb (za (zq 1 x49 (Value.int .i64 2))) fun x67 =>
 zb (zz x58) fun x59 =>
 zb (zz x61) fun x62 =>
 zb (zz x64) fun x65 =>
 zb (zz x67) fun x68 =>
 zb (za (build [Value.int .i64 0,Value.int .i64 0,Value.int .i64 0] [(0,1,x62),(1,1,x65),(2,1,x68)])) fun x69 =>
 zb4 (zcz 3 1 (rep 1 [Value.int .i64 0,Value.int .i64 0,Value.int .i64 0]) [(0,3,x69)]) fun ha_4 x70 h1_2 =>
 zb4 (zc4 3 24 x59 x70) fun ha_5 x71 h2_2 =>
 zb (za (zbo (zc v2 0))) fun x72 =>
 zb (za (ze 0 x72)) fun x73 =>
 zb (za (ze 0 x73)) fun x74 =>
 zb (za (ze 3 x74)) fun x75 =>
 zb (za (ze 1 x75)) fun x76 =>
 zb4 (st1 x76 x71) fun ha_6 u_2 h3_2 =>
 zfi (chk (zz x58) h1_2 x59) <|
 ret (.nxt [x50])
 ) (
 ret (.nxt [x50])
 )
 ) fun o=>nx o zko
def zfn (x0 x1:V):M V :=
 zb (
 zb (
 zb (za (zq 1 x1 (Value.int .i64 0))) fun x10 =>
 zb (zz x10) fun x11 =>
 zb (za (zr .eql x11 (Value.string ⟨#[101,110,103,105,110,101,101,114,115]⟩))) fun x12 =>
 zn x12 (
 zb (zcz 1 2 (rep 2 [Value.string ⟨#[]⟩]) [(0,1,(Value.string ⟨#[119,105,110,100,111,119]⟩)),(1,1,(Value.string ⟨#[48]⟩))]) fun x13 =>
 zb (za (zgs 1 x1 (some (Value.int .i64 1)) none)) fun x15 =>
 zb (zc4 1 16 x13 x15) fun x16 =>
 zb (zez [x16,(Value.int .i64 1),(Value.int .i64 3)]) fun x19 =>
 zb (za (ext 0 x19)) fun x20 =>
 zb (za (ext 1 x19)) fun x21 =>
 zb (
 zn x21 (
 zhc fun h0 =>
 zb (za (zbo x0)) fun x25 =>
 zb (za (ze 0 x25)) fun x26 =>
 zb (za (ze 0 x26)) fun x27 =>
 zb (za (ze 3 x27)) fun x28 =>
 zb (za (ze 1 x28)) fun x29 =>
 zb (za (zq 1 x20 (Value.int .i64 1))) fun x32 =>
 zb (za (zq 1 x20 (Value.int .i64 2))) fun x35 =>
 zb (zz x29) fun x30 =>
 zb (zz x32) fun x33 =>
 zb (zz x35) fun x36 =>
 zb (za (build [Value.int .i64 0,Value.int .i64 0,Value.int .i64 0] [(0,1,(Value.int .i64 (-1))),(1,1,x33),(2,1,x36)])) fun x37 =>
 zb4 (zcz 3 1 (rep 1 [Value.int .i64 0,Value.int .i64 0,Value.int .i64 0]) [(0,3,x37)]) fun ha x38 h1 =>
 zb4 (zc4 3 24 x30 x38) fun ha_2 x39 h2 =>
 zb (za (zbo x0)) fun x40 =>
 zb (za (ze 0 x40)) fun x41 =>
 zb (za (ze 0 x41)) fun x42 =>
 zb (za (ze 3 x42)) fun x43 =>
 zb (za (ze 1 x43)) fun x44 =>
 zb4 (st1 x44 x39) fun ha_3 u h3 =>
 zfi (chk (zz x29) h1 x30) <|
 ret (.nxt [x21])
 ) (
 ret (.nxt [x21])
 )
 ) fun o=>nx o zkn
 ) (
 ret (.nxt [x0,x1])
 )
 ) fun o=>nx o zrh
 ) fun o=>zbg o fun vs=>ret (zbe [(zc vs 0)])
def z5i:Hint:=(.seq [] .leaf (.seq [0,1] (.seq [] .leaf (.cond (.seq [] .leaf (.seq [] .leaf (.seq [6] (.seq [] .leaf (.cond (.reg [0,1,2,3,4,5,6,8,9,11,12,7,10,13,14,15,16,17,18,19,20,21,22] []) .leaf)) (.seq [] .leaf .leaf)))) .leaf)) (.seq [] .leaf (.seq [8] (.seq [] .leaf (.cond (.reg [0,1,2,3,4,5,6,8,9,11,12,14,15,7,10,13,16,17,18,19,20,21,22,23,24,25] []) .leaf)) (.seq [] .leaf .leaf)))))
def zfo:List V→M V:=ap2 zfn
def z5j:zv:=ovr [(zl2,zez)] noC
theorem z5k:zu Tryz.prog zp3 (zfo):=kn2 (σ:=z5j) (hint:=z5i) (by kernel_rfl) (zj zv5 zk) fun _ _=>(by kernel_rfl)
def zm3 (v3:List V):M Out :=
 zb (za (zbo (zc v3 0))) fun x77 =>
 zb (za (ze 0 x77)) fun x78 =>
 zb (za (ze 0 x78)) fun x79 =>
 zb (za (ze 5 x79)) fun x80 =>
 zb (zz x80) fun x81 =>
 zb (ldn 2 (zc v3 3)) fun x83 =>
 zb (za (zq 2 x81 (zc v3 1))) fun x84 =>
 zb (stn 2 x84 x83) fun _ =>
 ret (.ret [(zc v3 2)])
def zil (v2:List V):M Out :=
 zb (za (zbo (zc v2 0))) fun x52 =>
 zb (za (ze 0 x52)) fun x53 =>
 zb (za (ze 0 x53)) fun x54 =>
 zb (za (ze 5 x54)) fun x55 =>
 zb (zz x55) fun x56 =>
 zb (za (zq 2 x56 (zc v2 2))) fun x58 =>
 zb (ldn 2 x58) fun x59 =>
 zb (newc [Value.slice none 0 0,Value.slice none 0 0]) fun x9 =>
 zb (stn 2 x9 x59) fun _ =>
 zb (
 zb (za (zq 1 (zc v2 1) (Value.int .i64 0))) fun x61 =>
 zb (zz x61) fun x62 =>
 zb (za (zr .eql x62 (Value.string ⟨#[103,101,116]⟩))) fun x63 =>
 zn x63 (
 zb (za (ze 0 x9)) fun x64 =>
 zb (zz x64) fun x65 =>
 zb (ldn 2 (zc v2 4)) fun x66 =>
 zb (zcz 2 1 (rep 1 [Value.int .i64 0,Value.int .i64 0]) [(0,2,x66)]) fun x67 =>
 zb (zc4 2 16 x65 x67) fun x68 =>
 zb (za (ze 0 x9)) fun x69 =>
 zb (st1 x69 x68) fun _ =>
 ret (.nxt [(zc v2 0),(zc v2 2),(zc v2 3),x9])
 ) (
 zb (za (ze 1 x9)) fun x70 =>
 zb (zz x70) fun x71 =>
 zb (ldn 2 (zc v2 4)) fun x72 =>
 zb (zcz 2 1 (rep 1 [Value.int .i64 0,Value.int .i64 0]) [(0,2,x72)]) fun x73 =>
 zb (zc4 2 16 x71 x73) fun x74 =>
 zb (za (ze 1 x9)) fun x75 =>
 zb (st1 x75 x74) fun _ =>
 ret (.nxt [(zc v2 0),(zc v2 2),(zc v2 3),x9])
 )
 ) fun o=>nx o zm3
def zm4 (vs:List V):M Out :=
 zb (za (zq 1 (zc vs 1) (Value.int .i64 2))) fun x39 =>
 zb (zz x39) fun x40 =>
 zb (zhh [x40]) fun x41 =>
 zb (za (ext 0 x41)) fun x42 =>
 zb (za (ext 1 x41)) fun x43 =>
 zb (za (build [Value.int .i64 0,Value.int .i64 0] [(0,1,(Value.int .i64 1)),(1,1,x42)])) fun x45 =>
 zb (newc [Value.int .i64 0,Value.int .i64 0]) fun x8 =>
 zb (stn 2 x8 x45) fun _ =>
 zb (
 zb (za (zq 1 (zc vs 1) (Value.int .i64 1))) fun x47 =>
 zb (zz x47) fun x48 =>
 zb (za (zr .eql x48 (Value.string ⟨#[112,111,114,116]⟩))) fun x49 =>
 zn x49 (
 zb (za (ze 0 x8)) fun x50 =>
 zb (st1 x50 (Value.int .i64 2)) fun _ =>
 ret (.nxt [(zc vs 0),(zc vs 1),(zc vs 2),x43,x8])
 ) (
 ret (.nxt [(zc vs 0),(zc vs 1),(zc vs 2),x43,x8])
 )
 ) fun o=>nx o zil
def zd2 (x0 x1:V):M V :=
 zb (
 zb (za (zbo x0)) fun x11 =>
 zb (za (ze 0 x11)) fun x12 =>
 zb (za (ze 0 x12)) fun x13 =>
 zb (za (ze 5 x13)) fun x14 =>
 zb (zz x14) fun x15 =>
 zb (za (zt x15)) fun x16 =>
 zb (za (zr .sub x16 (Value.int .i64 1))) fun x17 =>
 zb (
 zb (za (zr .lss x17 (Value.int .i64 0))) fun x19 =>
 zb (gd x19 false (za (some x1))) fun x21 =>
 zb (gd x19 false (za (zt x21))) fun x22 =>
 zb (gd x19 false (za (zr .neq x22 (Value.int .i64 3)))) fun x23 =>
 zb (za (zy x19 (Value.bool true) x23)) fun x24 =>
 zb (gd x24 false (za (some x1))) fun x26 =>
 zb (gd x24 false (za (zq 1 x26 (Value.int .i64 1)))) fun x27 =>
 zb (gd x24 false (zz x27)) fun x28 =>
 zb (gd x24 false (za (zr .neq x28 (Value.string ⟨#[112,111,105,110,116]⟩)))) fun x29 =>
 zb (gd x24 false (za (some x29))) fun x30 =>
 zb (gd x30 true (za (some x1))) fun x31 =>
 zb (gd x30 true (za (zq 1 x31 (Value.int .i64 1)))) fun x32 =>
 zb (gd x30 true (zz x32)) fun x33 =>
 zb (gd x30 true (za (zr .neq x33 (Value.string ⟨#[112,111,114,116]⟩)))) fun x34 =>
 zb (gd x24 false (za (zy x30 x34 (Value.bool false)))) fun x35 =>
 zb (za (zy x24 (Value.bool true) x35)) fun x36 =>
 zn x36 (
 ret (.ret [(Value.bool false)])
 ) (
 ret (.nxt [x0,x1,x17])
 )
 ) fun o=>nx o zm4
 ) fun o=>zbg o fun vs=>ret (zbe [(zc vs 0)])
def z96:Hint:=(.seq [] .leaf (.seq [] .leaf (.seq [0,1,5] (.seq [] .leaf (.cond (.seq [] .leaf .leaf) .leaf)) (.seq [] .leaf (.seq [] .leaf (.seq [0,1,5,7,8] (.seq [] .leaf (.cond .leaf .leaf)) (.seq [] .leaf (.seq [0,5,7,9] (.seq [] .leaf (.cond .leaf .leaf)) (.seq [] (.reg [0,1,2,3,4,6,5,7,8,9] []) (.seq [] .leaf .leaf))))))))))
def zjf:List V→M V:=ap2 zd2
def z97:zv:=ovr [(zoo,zhh)] noC
theorem z98:zu Tryz.prog zsa (zjf):=kn2 (σ:=z97) (hint:=z96) (by kernel_rfl) (zj zzj zk) fun _ _=>(by kernel_rfl)
def zx3 (v8:List V):M Out :=
 zb (za (zr .add (zc v8 7) (Value.int .i64 1))) fun x28 =>
 ret (.nxt [(zc v8 0),(zc v8 1),(zc v8 2),(zc v8 3),(zc v8 4),(zc v8 5),(zc v8 6),x28])
def zx4 (v7:List V):M Out :=
 zb (
 zb (
 zb (za (zj3 (zc v7 1) (zc v7 7))) fun x31 =>
 zb (za (zr .add (zc v7 3) (zc v7 5))) fun x35 =>
 zb (za (zj3 (zc v7 0) x35)) fun x36 =>
 zb (za (zr .eql x31 x36)) fun x37 =>
 zn x37 (
 ret (.nxt [(zc v7 0),(zc v7 1),(zc v7 2),(zc v7 3),(zc v7 4),(zc v7 5),(zc v7 7),(zc v7 7)])
 ) (
 ret (.nxt [(zc v7 0),(zc v7 1),(zc v7 2),(zc v7 3),(zc v7 4),(zc v7 5),(zc v7 6),(zc v7 7)])
 )
 ) fun o=>ret (zw 5 o)
 ) fun o=>nx o zx3
def zm5 (v6:List V):M Out :=
 zb (
 zb (za (zr .lss (zc v6 7) (Value.int .i64 16))) fun x26 =>
 zn x26 (
 ret (.nxt [(zc v6 0),(zc v6 1),(zc v6 2),(zc v6 3),(zc v6 4),(zc v6 5),(zc v6 6),(zc v6 7)])
 ) (
 ret (.brk 4 [(zc v6 0),(zc v6 1),(zc v6 2),(zc v6 3),(zc v6 4),(zc v6 5),(zc v6 6)])
 )
 ) fun o=>nx o zx4
def zx5 (v10:List V):M Out :=
 zb (za (zr .mul (zc v10 4) (Value.int .i64 16))) fun x42 =>
 zb (za (zr .add x42 (zc v10 6))) fun x44 =>
 ret (.nxt [(zc v10 0),(zc v10 1),(zc v10 2),(zc v10 3),x44,(zc v10 5)])
def zm6 (v9:List V):M Out :=
 zb (
 zb (za (zr .lss (zc v9 6) (Value.int .i64 0))) fun x40 =>
 zn x40 (
 ret (.ret [(Value.string ⟨#[]⟩),(Value.bool false)])
 ) (
 ret (.nxt [(zc v9 0),(zc v9 1),(zc v9 2),(zc v9 3),(zc v9 4),(zc v9 5),(zc v9 6)])
 )
 ) fun o=>nx o zx5
def zx6 (v11:List V):M Out :=
 zb (za (zr .add (zc v11 5) (Value.int .i64 1))) fun x24 =>
 ret (.nxt [(zc v11 0),(zc v11 1),(zc v11 2),(zc v11 3),(zc v11 4),x24])
def zx7 (v5:List V):M Out :=
 zb (
 zb (
 zb (
 zb (
 zbf zbs zm5 [(zc v5 0),(zc v5 1),(zc v5 2),(zc v5 3),(zc v5 4),(zc v5 5),(Value.int .i64 (-1)),(Value.int .i64 0)]
 ) fun o=>ret (zw 4 o)
 ) fun o=>nx o zm6
 ) fun o=>ret (zw 3 o)
 ) fun o=>nx o zx6
def zm7 (v4:List V):M Out :=
 zb (
 zb (za (zr .lss (zc v4 5) (Value.int .i64 2))) fun x22 =>
 zn x22 (
 ret (.nxt [(zc v4 0),(zc v4 1),(zc v4 2),(zc v4 3),(zc v4 4),(zc v4 5)])
 ) (
 ret (.brk 2 [(zc v4 0),(zc v4 1),(zc v4 2),(zc v4 3),(zc v4 4)])
 )
 ) fun o=>nx o zx7
def z7h (v12:List V):M Out :=
 zb (za (cvi .u8 (zc v12 4))) fun x47 =>
 zb (zcz 1 1 (rep 1 [Value.int .u8 0]) [(0,1,x47)]) fun x48 =>
 zb (zc4 1 1 (zc v12 2) x48) fun x49 =>
 ret (.nxt [(zc v12 0),(zc v12 1),x49,(zc v12 3)])
def z7i (v13:List V):M Out :=
 zb (za (zr .add (zc v13 3) (Value.int .i64 2))) fun x20 =>
 ret (.nxt [(zc v13 0),(zc v13 1),(zc v13 2),x20])
def z40 (v3:List V):M Out :=
 zb (
 zb (
 zb (
 zb (
 zbf zbs zm7 [(zc v3 0),(zc v3 1),(zc v3 2),(zc v3 3),(Value.int .i64 0),(Value.int .i64 0)]
 ) fun o=>ret (zw 2 o)
 ) fun o=>nx o z7h
 ) fun o=>ret (zw 1 o)
 ) fun o=>nx o z7i
def zut (v2:List V):M Out :=
 zb (
 zb (za (zc0 (zc v2 0))) fun x17 =>
 zb (za (zr .lss (zc v2 3) x17)) fun x18 =>
 zn x18 (
 ret (.nxt [(zc v2 0),(zc v2 1),(zc v2 2),(zc v2 3)])
 ) (
 ret (.brk 0 [(zc v2 2)])
 )
 ) fun o=>nx o z40
def z41 (v14:List V):M Out :=
 zb (b2s (zc v14 0)) fun x51 =>
 ret (.ret [x51,(Value.bool true)])
def z42 (vs:List V):M Out :=
 zb (
 zb (
 zbf zbs zut [(zc vs 0),(zc vs 1),(Value.slice none 0 0),(Value.int .i64 0)]
 ) fun o=>ret (zw 0 o)
 ) fun o=>nx o z41
def zta (x0:V):M V :=
 zb (
 zb (
 zb (za (zc0 x0)) fun x12 =>
 zb (za (zr .rem x12 (Value.int .i64 2))) fun x13 =>
 zb (za (zr .neq x13 (Value.int .i64 0))) fun x14 =>
 zn x14 (
 ret (.ret [(Value.string ⟨#[]⟩),(Value.bool false)])
 ) (
 ret (.nxt [x0,(Value.string ⟨#[48,49,50,51,52,53,54,55,56,57,97,98,99,100,101,102]⟩)])
 )
 ) fun o=>nx o z42
 ) fun o=>zbg o fun vs=>ret (zbe [(zc vs 0),(zc vs 1)])
def zblo:Hint:=(.seq [] .leaf (.seq [] .leaf (.seq [0,4] (.seq [] .leaf (.cond (.seq [] .leaf .leaf) .leaf)) (.seq [] .leaf (.seq [5] (.seq [] .leaf (.blk (.loop [0,4,5,6] (.seq [0,4,5,6] (.seq [] .leaf (.cond .leaf .leaf)) (.seq [0,4,5,6] (.blk (.seq [] .leaf (.seq [0,4,5,6,7] (.seq [] .leaf (.blk (.loop [0,4,5,6,7,8] (.seq [0,4,5,6,7,8] (.seq [] .leaf (.cond .leaf .leaf)) (.seq [0,4,5,6,7,8] (.blk (.seq [] .leaf (.seq [0,4,5,6,7,8,9] (.seq [] .leaf (.blk (.loop [0,4,5,6,7,8,9,10] (.seq [0,4,5,6,7,8,9,10] (.seq [] .leaf (.cond .leaf .leaf)) (.seq [0,4,5,6,7,8,9,10] (.blk (.seq [] (.reg [0,1,2,3,4,5,6,7,8] []) (.cond .leaf .leaf))) .leaf))))) (.seq [0,4,5,6,7,8,9] (.seq [] .leaf (.cond (.seq [] .leaf .leaf) .leaf)) .leaf)))) .leaf))))) .leaf))) .leaf))))) (.seq [] .leaf .leaf))))))
def ztb:List V→M V:=ap1 zta
theorem zblp:zu Tryz.prog z4m (ztb):=kn1 (σ:=ovr [] noC) (hint:=zblo) (by kernel_rfl) zk fun _=>(by kernel_rfl)
def zx8:M V :=
 zb (
 zb (zcz 1 5 (rep 5 [Value.string ⟨#[]⟩]) [(0,1,(Value.string ⟨#[]⟩)),(1,1,(Value.string ⟨#[118,105,101,119]⟩)),(2,1,(Value.string ⟨#[114,117,110]⟩)),(3,1,(Value.string ⟨#[98,117,105,108,100]⟩)),(4,1,(Value.string ⟨#[102,111,114,99,101]⟩))]) fun x1 =>
 ret (.ret [x1])
 ) fun o=>zbg o fun vs=>ret (zbe [(zc vs 0)])
def zbj6:Hint:=(.seq [] .leaf (.seq [] .leaf .leaf))
def zri:List V→M V:=ap0 zx8
theorem zbj7:zu Tryz.prog z1z (zri):=kn0 (σ:=ovr [] noC) (hint:=zbj6) (by kernel_rfl) zk (by kernel_rfl)
def zt4 (v3:List V):M Out :=
 zhc fun h0_3 =>
 zb (za (zbo (zc v3 0))) fun x72 =>
 zb (za (ze 0 x72)) fun x73 =>
 zb (za (ze 7 x73)) fun x74 =>
 zb (za (zbo (zc v3 0))) fun x78 =>
 zb (za (ze 0 x78)) fun x79 =>
 zb (za (ze 7 x79)) fun x80 =>
 zb (za (build [Value.int .i64 0,Value.int .i64 0] [(0,1,(zc v3 2)),(1,1,(zc v3 3))])) fun x88 =>
 zb (zz x74) fun x75 =>
 zb (zz x80) fun x81 =>
 zb (za (zq 3 x81 (zc v3 1))) fun x83 =>
 zb (za (ze 2 x83)) fun x84 =>
 zb (zz x84) fun x85 =>
 zb4 (zcz 2 1 (rep 1 [Value.int .i64 0,Value.int .i64 0]) [(0,2,x88)]) fun ha_6 x89 h1_3 =>
 zb4 (zc4 2 16 x85 x89) fun ha_7 x90 h2_3 =>
 zb (za (zq 3 x75 (zc v3 1))) fun x91 =>
 zb (za (ze 2 x91)) fun x92 =>
 zb4 (st1 x92 x90) fun ha_8 u_2 h3_2 =>
 zfi (chk (zz x74) h1_3 x75) <|
 zfi (chk (zz x74) h2_3 x75) <|
 zfi (chk (zz x80) h1_3 x81) <|
 zfi (chk (zz x84) h1_3 x85) <|
 ret (.ret [(Value.bool true)])
def zm8 (v2:List V):M Out :=
 zb (za (zbo (zc v2 0))) fun x43 =>
 zb (za (ze 0 x43)) fun x44 =>
 zb (za (ze 7 x44)) fun x45 =>
 zb (zz x45) fun x46 =>
 zb (za (zt x46)) fun x47 =>
 zb (za (zr .sub x47 (Value.int .i64 1))) fun x48 =>
 zb (za (zq 1 (zc v2 1) (Value.int .i64 1))) fun x51 =>
 zb (zz x51) fun x52 =>
 zb (zhh [x52]) fun x53 =>
 zb (za (ext 0 x53)) fun x54 =>
 zb (za (ext 1 x53)) fun x55 =>
 zhc fun h0_2 =>
 zb (za (zq 1 (zc v2 1) (Value.int .i64 2))) fun x58 =>
 zb (zz x58) fun x59 =>
 zb4 (zri []) fun ha_4 x56 h1_2 =>
 zb4 (zdr [x56,x59]) fun ha_5 x60 h2_2 =>
 zfi (chk (zz x58) h1_2 x59) <|
 zb (
 zb (za (un .not x55)) fun x62 =>
 zb (gd x62 false (za (some x48))) fun x64 =>
 zb (gd x62 false (za (zr .lss x64 (Value.int .i64 0)))) fun x65 =>
 zb (za (zy x62 (Value.bool true) x65)) fun x66 =>
 zb (gd x66 false (za (some x60))) fun x68 =>
 zb (gd x66 false (za (zr .lss x68 (Value.int .i64 1)))) fun x69 =>
 zb (za (zy x66 (Value.bool true) x69)) fun x70 =>
 zn x70 (
 ret (.ret [(Value.bool false)])
 ) (
 ret (.nxt [(zc v2 0),x48,x54,x60])
 )
 ) fun o=>nx o zt4
def zm9 (vs:List V):M Out :=
 zb (
 zb (za (zq 1 (zc vs 1) (Value.int .i64 0))) fun x15 =>
 zb (zz x15) fun x16 =>
 zb (za (zr .eql x16 (Value.string ⟨#[117,115,101,114]⟩))) fun x17 =>
 zn x17 (
 zb (za (zq 1 (zc vs 1) (Value.int .i64 2))) fun x20 =>
 zb (zz x20) fun x21 =>
 zb (ztb [x21]) fun x22 =>
 zb (za (ext 0 x22)) fun x23 =>
 zb (za (ext 1 x22)) fun x24 =>
 zhc fun h0 =>
 zb (za (zbo (zc vs 0))) fun x27 =>
 zb (za (ze 0 x27)) fun x28 =>
 zb (za (ze 7 x28)) fun x29 =>
 zb (za (zq 1 (zc vs 1) (Value.int .i64 1))) fun x32 =>
 zb (zz x29) fun x30 =>
 zb (zz x32) fun x33 =>
 zb (za (build [Value.string ⟨#[]⟩,Value.string ⟨#[]⟩,Value.slice none 0 0] [(0,1,x33),(1,1,x23)])) fun x35 =>
 zb4 (zcz 3 1 (rep 1 [Value.string ⟨#[]⟩,Value.string ⟨#[]⟩,Value.slice none 0 0]) [(0,3,x35)]) fun ha x36 h1 =>
 zb4 (zc4 3 56 x30 x36) fun ha_2 x37 h2 =>
 zb (za (zbo (zc vs 0))) fun x38 =>
 zb (za (ze 0 x38)) fun x39 =>
 zb (za (ze 7 x39)) fun x40 =>
 zb4 (st1 x40 x37) fun ha_3 u h3 =>
 zfi (chk (zz x29) h1 x30) <|
 ret (.ret [x24])
 ) (
 ret (.nxt [(zc vs 0),(zc vs 1)])
 )
 ) fun o=>nx o zm8
def zd3 (x0 x1:V):M V :=
 zb (
 zb (
 zb (za (zt x1)) fun x12 =>
 zb (za (zr .neq x12 (Value.int .i64 3))) fun x13 =>
 zn x13 (
 ret (.ret [(Value.bool false)])
 ) (
 ret (.nxt [x0,x1])
 )
 ) fun o=>nx o zm9
 ) fun o=>zbg o fun vs=>ret (zbe [(zc vs 0)])
def z99:Hint:=(.seq [] .leaf (.seq [0,1] (.seq [] .leaf (.cond (.seq [] .leaf .leaf) .leaf)) (.seq [0,1] (.seq [] .leaf (.cond (.seq [] .leaf (.seq [] (.reg [0,1,2,3,4,6,7,9,5,8,10,11,12,13,14,15,16] []) (.seq [] .leaf .leaf))) .leaf)) (.seq [] .leaf (.seq [] .leaf (.seq [] (.reg [1,2,3,0,4,5] []) (.seq [0,7,8,10] (.seq [] .leaf (.cond (.seq [] .leaf .leaf) .leaf)) (.seq [] (.reg [0,1,2,3,5,6,7,8,9,11,15,16,17,4,10,12,13,14,18,19,20,21,22] []) (.seq [] .leaf .leaf)))))))))
def zg4:List V→M V:=ap2 zd3
def zbaa:zv:=ovr [(z4m,ztb),(zoo,zhh),(z1z,zri),(zkr,zdr)] noC
theorem zbab:zu Tryz.prog zsb (zg4):=kn2 (σ:=zbaa) (hint:=z99) (by kernel_rfl) (zj zblp (zj zzj (zj zbj7 (zj zs9 zk)))) fun _ _=>(by kernel_rfl)
def zna (v6:List V):M Out :=
 zb (ze0 [(zc v6 0)]) fun x74 =>
 ret (.ret [x74])
def zim (v10:List V):M Out :=
 zn (zc v10 2) (
 zb (zg4 [(zc v10 0),(zc v10 1)]) fun x121 =>
 zb (ze0 [x121]) fun x122 =>
 ret (.ret [x122])
 ) (
 ret (.nxt [])
 )
def zel (v9:List V):M Out :=
 zn (zc v9 3) (
 zb (zjf [(zc v9 0),(zc v9 1)]) fun x114 =>
 zb (ze0 [x114]) fun x115 =>
 ret (.ret [x115])
 ) (
 zb (
 zb (za (zr .eql (zc v9 2) (Value.string ⟨#[117,115,101,114]⟩))) fun x117 =>
 zn x117 (
 ret (.nxt [(zc v9 0),(zc v9 1),x117])
 ) (
 zb (za (zr .eql (zc v9 2) (Value.string ⟨#[114,111,108,101]⟩))) fun x118 =>
 ret (.nxt [(zc v9 0),(zc v9 1),x118])
 )
 ) fun o=>nx o zim
 )
def zb8 (v8:List V):M Out :=
 zn (zc v8 3) (
 zb (zfo [(zc v8 0),(zc v8 1)]) fun x87 =>
 zb (ze0 [x87]) fun x88 =>
 ret (.ret [x88])
 ) (
 zb (za (zr .eql (zc v8 2) (Value.string ⟨#[117,110,105,116]⟩))) fun x90 =>
 zn x90 (
 zb (za (zbo (zc v8 0))) fun x93 =>
 zb (za (ze 0 x93)) fun x94 =>
 zb (za (ze 0 x94)) fun x95 =>
 zb (za (ze 5 x95)) fun x96 =>
 zb (zz x96) fun x97 =>
 zb (za (build [Value.slice none 0 0,Value.slice none 0 0] [])) fun x98 =>
 zb (zcz 2 1 (rep 1 [Value.slice none 0 0,Value.slice none 0 0]) [(0,2,x98)]) fun x99 =>
 zb (zc4 2 48 x97 x99) fun x100 =>
 zb (za (zbo (zc v8 0))) fun x101 =>
 zb (za (ze 0 x101)) fun x102 =>
 zb (za (ze 0 x102)) fun x103 =>
 zb (za (ze 5 x103)) fun x104 =>
 zb (st1 x104 x100) fun _ =>
 zb (za (zt (zc v8 1))) fun x106 =>
 zb (za (zr .eql x106 (Value.int .i64 1))) fun x107 =>
 zb (ze0 [x107]) fun x108 =>
 ret (.ret [x108])
 ) (
 zb (
 zb (za (zr .eql (zc v8 2) (Value.string ⟨#[103,101,116]⟩))) fun x110 =>
 zn x110 (
 ret (.nxt [(zc v8 0),(zc v8 1),(zc v8 2),x110])
 ) (
 zb (za (zr .eql (zc v8 2) (Value.string ⟨#[112,117,116]⟩))) fun x111 =>
 ret (.nxt [(zc v8 0),(zc v8 1),(zc v8 2),x111])
 )
 ) fun o=>nx o zel
 )
 )
def zb2 (v7:List V):M Out :=
 zn (zc v7 3) (
 zb (zje [(zc v7 0),(zc v7 1)]) fun x80 =>
 zb (ze0 [x80]) fun x81 =>
 ret (.ret [x81])
 ) (
 zb (
 zb (za (zr .eql (zc v7 2) (Value.string ⟨#[119,105,110,100,111,119]⟩))) fun x83 =>
 zn x83 (
 ret (.nxt [(zc v7 0),(zc v7 1),(zc v7 2),x83])
 ) (
 zb (za (zr .eql (zc v7 2) (Value.string ⟨#[101,110,103,105,110,101,101,114,115]⟩))) fun x84 =>
 ret (.nxt [(zc v7 0),(zc v7 1),(zc v7 2),x84])
 )
 ) fun o=>nx o zb8
 )
def zbq (v5:List V):M Out :=
 zn (zc v5 3) (
 zb (zez [(zc v5 1),(Value.int .i64 1),(Value.int .i64 2)]) fun x45 =>
 zb (za (ext 0 x45)) fun x46 =>
 zb (za (ext 1 x45)) fun x47 =>
 zb (
 zn x47 (
 zhc fun h0 =>
 zb (za (zbo (zc v5 0))) fun x51 =>
 zb (za (ze 0 x51)) fun x52 =>
 zb (za (ze 0 x52)) fun x53 =>
 zb (za (ze 1 x53)) fun x54 =>
 zb (za (zq 1 x46 (Value.int .i64 0))) fun x57 =>
 zb (za (zq 1 x46 (Value.int .i64 1))) fun x60 =>
 zb (za (zq 1 (zc v5 1) (Value.int .i64 0))) fun x63 =>
 zb (zz x54) fun x55 =>
 zb (zz x57) fun x58 =>
 zb (zz x60) fun x61 =>
 zb (zz x63) fun x64 =>
 zb (za (zr .eql x64 (Value.string ⟨#[119,114,105,116,101]⟩))) fun x65 =>
 zb (za (build [Value.int .i64 0,Value.int .i64 0,Value.bool false] [(0,1,x58),(1,1,x61),(2,1,x65)])) fun x66 =>
 zb4 (zcz 3 1 (rep 1 [Value.int .i64 0,Value.int .i64 0,Value.bool false]) [(0,3,x66)]) fun ha x67 h1 =>
 zb4 (zc4 3 24 x55 x67) fun ha_2 x68 h2 =>
 zb (za (zbo (zc v5 0))) fun x69 =>
 zb (za (ze 0 x69)) fun x70 =>
 zb (za (ze 0 x70)) fun x71 =>
 zb (za (ze 1 x71)) fun x72 =>
 zb4 (st1 x72 x68) fun ha_3 u h3 =>
 zfi (chk (zz x54) h1 x55) <|
 ret (.nxt [x47])
 ) (
 ret (.nxt [x47])
 )
 ) fun o=>nx o zna
 ) (
 zb (
 zb (za (zr .eql (zc v5 2) (Value.string ⟨#[115,97,109,112,108,101]⟩))) fun x76 =>
 zn x76 (
 ret (.nxt [(zc v5 0),(zc v5 1),(zc v5 2),x76])
 ) (
 zb (za (zr .eql (zc v5 2) (Value.string ⟨#[113,117,101,117,101]⟩))) fun x77 =>
 ret (.nxt [(zc v5 0),(zc v5 1),(zc v5 2),x77])
 )
 ) fun o=>nx o zb2
 )
def zbk (v4:List V):M Out :=
 zn (zc v4 3) (
 zb (zij [(zc v4 0),(zc v4 1)]) fun x38 =>
 zb (ze0 [x38]) fun x39 =>
 ret (.ret [x39])
 ) (
 zb (
 zb (za (zr .eql (zc v4 2) (Value.string ⟨#[114,101,97,100]⟩))) fun x41 =>
 zn x41 (
 ret (.nxt [(zc v4 0),(zc v4 1),(zc v4 2),x41])
 ) (
 zb (za (zr .eql (zc v4 2) (Value.string ⟨#[119,114,105,116,101]⟩))) fun x42 =>
 ret (.nxt [(zc v4 0),(zc v4 1),(zc v4 2),x42])
 )
 ) fun o=>nx o zbq
 )
def zbb (v3:List V):M Out :=
 zn (zc v3 3) (
 zb (zh3 [(zc v3 0),(zc v3 1)]) fun x32 =>
 ret (.ret [x32])
 ) (
 zb (
 zb (za (zr .eql (zc v3 2) (Value.string ⟨#[105,110]⟩))) fun x34 =>
 zn x34 (
 ret (.nxt [(zc v3 0),(zc v3 1),(zc v3 2),x34])
 ) (
 zb (za (zr .eql (zc v3 2) (Value.string ⟨#[111,117,116]⟩))) fun x35 =>
 ret (.nxt [(zc v3 0),(zc v3 1),(zc v3 2),x35])
 )
 ) fun o=>nx o zbk
 )
def zt5 (v11:List V):M Out :=
 ret (.ret [(Value.int .i64 3)])
def zbc (v2:List V):M Out :=
 zb (
 zb (za (zq 1 (zc v2 1) (Value.int .i64 0))) fun x24 =>
 zb (zz x24) fun x25 =>
 zb (
 zb (
 zb (za (zr .eql x25 (Value.string ⟨#[109,105,108,108,105,115]⟩))) fun x27 =>
 zn x27 (
 ret (.nxt [(zc v2 0),(zc v2 1),x25,x27])
 ) (
 zb (za (zr .eql x25 (Value.string ⟨#[102,114,97,109,101]⟩))) fun x28 =>
 zn x28 (
 ret (.nxt [(zc v2 0),(zc v2 1),x25,x28])
 ) (
 zb (za (zr .eql x25 (Value.string ⟨#[105,100,108,101]⟩))) fun x29 =>
 ret (.nxt [(zc v2 0),(zc v2 1),x25,x29])
 )
 )
 ) fun o=>nx o zbb
 ) fun o=>ret (zw 0 o)
 ) fun o=>nx o zt5
def zsd (vs:List V):M Out :=
 zb (zs8 [(zc vs 1)]) fun x18 =>
 zb (za (ext 0 x18)) fun x19 =>
 zb (za (ext 1 x18)) fun x20 =>
 zb (
 zb (za (un .not x20)) fun x22 =>
 zn x22 (
 ret (.ret [(Value.int .i64 3)])
 ) (
 ret (.nxt [(zc vs 0),x19])
 )
 ) fun o=>nx o zbc
def zg5 (x0 x1:V):M V :=
 zb (
 zb (
 zb (za (zr .eql x1 (Value.string ⟨#[]⟩))) fun x10 =>
 zb (gd x10 false (za (some x1))) fun x12 =>
 zb (gd x10 false (za (zj3 x12 (Value.int .i64 0)))) fun x13 =>
 zb (gd x10 false (za (zr .eql x13 (Value.int .u8 35)))) fun x14 =>
 zb (za (zy x10 (Value.bool true) x14)) fun x15 =>
 zn x15 (
 ret (.ret [(Value.int .i64 0)])
 ) (
 ret (.nxt [x0,x1])
 )
 ) fun o=>nx o zsd
 ) fun o=>zbg o fun vs=>ret (zbe [(zc vs 0)])
def zbac:Hint:=(.seq [] .leaf (.seq [0,1] (.seq [] .leaf (.cond (.seq [] .leaf .leaf) .leaf)) (.seq [] .leaf (.seq [0,5] (.seq [] .leaf (.cond (.seq [] .leaf .leaf) .leaf)) (.seq [] (.seq [] .leaf (.blk (.seq [0,5,25,26] (.seq [] .leaf (.cond .leaf (.seq [] .leaf (.cond .leaf .leaf)))) (.cond (.seq [] .leaf .leaf) (.seq [0,5,25,33] (.seq [] .leaf (.cond .leaf .leaf)) (.cond (.seq [] .leaf .leaf) (.seq [0,5,25,40] (.seq [] .leaf (.cond .leaf .leaf)) (.cond (.seq [] .leaf (.seq [8] (.seq [] .leaf (.cond (.reg [0,1,2,3,4,5,7,8,10,11,13,14,6,9,12,15,16,17,18,19,20,21,22,23,24] []) .leaf)) (.seq [] .leaf .leaf))) (.seq [0,5,25,75] (.seq [] .leaf (.cond .leaf .leaf)) (.cond (.seq [] .leaf .leaf) (.seq [0,5,25,82] (.seq [] .leaf (.cond .leaf .leaf)) (.cond (.seq [] .leaf .leaf) (.seq [] .leaf (.cond (.seq [] .leaf (.seq [] .leaf .leaf)) (.seq [0,5,25,109] (.seq [] .leaf (.cond .leaf .leaf)) (.cond (.seq [] .leaf .leaf) (.seq [0,5,116] (.seq [] .leaf (.cond .leaf .leaf)) (.cond (.seq [] .leaf .leaf) .leaf)))))))))))))))))) (.seq [] .leaf .leaf))))))
def zjg:List V→M V:=ap2 zg5
def zbad:zv:=ovr [(z4h,zs8),(zp2,zh3),(zqo,zij),(z6a,ze0),(zl2,zez),(zr9,zje),(zp3,zfo),(zsa,zjf),(zsb,zg4)] noC
theorem zbae:zu Tryz.prog zr8 (zjg):=kn2 (σ:=zbad) (hint:=zbac) (by kernel_rfl) (zj zbll (zj z5h (zj z7g (zj zbo7 (zj zv5 (zj z95 (zj z5k (zj z98 (zj zbab zk))))))))) fun _ _=>(by kernel_rfl)
def zbbu (v3:List V):M Out :=
 zb (za (zr .add (zc v3 3) (Value.int .i64 1))) fun x15 =>
 ret (.nxt [(zc v3 0),(zc v3 1),(zc v3 2),x15])
def zbbv (v2:List V):M Out :=
 zb (
 zb (
 zb (za (zq 1 (zc v2 0) (zc v2 3))) fun x19 =>
 zb (zz x19) fun x20 =>
 zb (zjg [(zc v2 2),x20]) fun x21 =>
 zb (za (zr .neq x21 (Value.int .i64 0))) fun x23 =>
 zn x23 (
 zb (za (build [Value.slice none 0 0,Value.slice none 0 0,Value.slice none 0 0,Value.int .i64 0,Value.slice none 0 0,Value.slice none 0 0,Value.int .i64 0,Value.slice none 0 0,Value.int .i64 0] [])) fun x24 =>
 zb (za (zr .add (zc v2 3) (Value.int .i64 1))) fun x26 =>
 zb (stn 9 (zc v2 1) x24) fun _ =>
 ret (.ret [(zc v2 1),x26,x21])
 ) (
 ret (.nxt [(zc v2 0),(zc v2 1),(zc v2 2),(zc v2 3)])
 )
 ) fun o=>ret (zw 1 o)
 ) fun o=>nx o zbbu
def z00 (vs:List V):M Out :=
 zb (
 zb (za (zt (zc vs 0))) fun x12 =>
 zb (za (zr .lss (zc vs 3) x12)) fun x13 =>
 zn x13 (
 ret (.nxt [(zc vs 0),(zc vs 1),(zc vs 2),(zc vs 3)])
 ) (
 ret (.brk 0 [(zc vs 1),(zc vs 2)])
 )
 ) fun o=>nx o zbbv
def zbbw (v4:List V):M Out :=
 zb (za (zbo (zc v4 1))) fun x29 =>
 zb (za (ze 0 x29)) fun x30 =>
 zb (ldn 9 x30) fun x31 =>
 zb (stn 9 (zc v4 0) x31) fun _ =>
 ret (.ret [(zc v4 0),(Value.int .i64 0),(Value.int .i64 0)])
def z3q (x0:V):M V :=
 zb (
 zb (newc [Value.slice none 0 0,Value.slice none 0 0,Value.slice none 0 0,Value.int .i64 0,Value.slice none 0 0,Value.slice none 0 0,Value.int .i64 0,Value.slice none 0 0,Value.int .i64 0]) fun x2 =>
 zb (za (build [Value.slice none 0 0,Value.slice none 0 0,Value.slice none 0 0,Value.int .i64 0,Value.slice none 0 0,Value.slice none 0 0,Value.int .i64 0,Value.slice none 0 0,Value.int .i64 0,Value.slice none 0 0] [])) fun x8 =>
 zb (zdf x8) fun x9 =>
 zb (
 zb (
 zbf zbs z00 [x0,x2,x9,(Value.int .i64 0)]
 ) fun o=>ret (zw 0 o)
 ) fun o=>nx o zbbw
 ) fun o=>zbg o fun vs=>zb (ldn 9 (zc vs 0)) fun r0=>ret (zbe [r0,(zc vs 1),(zc vs 2)])
def zbo8:Hint:=(.seq [] .leaf (.seq [] .leaf (.seq [2,5] (.seq [] .leaf (.blk (.loop [0,2,5,6] (.seq [0,2,5,6] (.seq [] .leaf (.cond .leaf .leaf)) (.seq [0,2,5,6] (.blk (.seq [] .leaf (.seq [] .leaf (.cond (.seq [] .leaf .leaf) .leaf)))) .leaf))))) (.seq [] .leaf .leaf))))
def zv6:List V→M V:=ap1 z3q
def zbo9:zv:=ovr [(zr8,zjg)] noC
theorem zbpa:zu Tryz.prog z57 (zv6):=kn1 (σ:=zbo9) (hint:=zbo8) (by kernel_rfl) (zj zbae zk) fun _=>(by kernel_rfl)
def z7j (v4:List V):M Out :=
 zb (za (zr .add (zc v4 2) (Value.int .i64 1))) fun x18 =>
 ret (.nxt [(zc v4 0),(zc v4 1),x18])
def zrj (v3:List V):M Out :=
 zb (
 zb (
 zb (za (zq 2 (zc v3 0) (zc v3 2))) fun x21 =>
 zb (za (ze 0 x21)) fun x22 =>
 zb (zz x22) fun x23 =>
 zb (za (zr .lss x23 (Value.int .i64 1))) fun x24 =>
 zb (gd x24 false (za (some (zc v3 0)))) fun x26 =>
 zb (gd x24 false (za (some (zc v3 2)))) fun x27 =>
 zb (gd x24 false (za (zq 2 x26 x27))) fun x28 =>
 zb (gd x24 false (za (ze 0 x28))) fun x29 =>
 zb (gd x24 false (zz x29)) fun x30 =>
 zb (gd x24 false (za (zr .gtr x30 (Value.int .i64 3)))) fun x31 =>
 zb (za (zy x24 (Value.bool true) x31)) fun x32 =>
 zn x32 (
 ret (.ret [(Value.int .i64 (-1)),(Value.int .i64 40)])
 ) (
 ret (.nxt [(zc v3 0),(zc v3 1),(zc v3 2)])
 )
 ) fun o=>ret (zw 1 o)
 ) fun o=>nx o z7j
def znb (v2:List V):M Out :=
 zb (
 zb (za (zt (zc v2 0))) fun x15 =>
 zb (za (zr .lss (zc v2 2) x15)) fun x16 =>
 zn x16 (
 ret (.nxt [(zc v2 0),(zc v2 1),(zc v2 2)])
 ) (
 ret (.brk 0 [(zc v2 0),(zc v2 1)])
 )
 ) fun o=>nx o zrj
def zrk (v12:List V):M Out :=
 zb (za (zr .add (zc v12 4) (Value.int .i64 1))) fun x80 =>
 ret (.nxt [(zc v12 0),(zc v12 1),(zc v12 2),(zc v12 3),x80])
def zjy (v11:List V):M Out :=
 zb (
 zb (
 zb (za (zq 3 (zc v11 1) (zc v11 4))) fun x83 =>
 zb (ldn 3 x83) fun x84 =>
 zb (ldn 3 (zc v11 3)) fun x85 =>
 zb (za (zcp false (ze6 [.i,.i,.b] x84 x85))) fun x86 =>
 zb (gd x86 false (za (ze 2 (zc v11 3)))) fun x88 =>
 zb (gd x86 false (zz x88)) fun x89 =>
 zb (gd x86 false (za (some x89))) fun x90 =>
 zb (gd x90 true (za (some (zc v11 1)))) fun x91 =>
 zb (gd x90 true (za (some (zc v11 4)))) fun x92 =>
 zb (gd x90 true (za (zq 3 x91 x92))) fun x93 =>
 zb (gd x90 true (za (ze 2 x93))) fun x94 =>
 zb (gd x90 true (zz x94)) fun x95 =>
 zb (gd x86 false (za (zy x90 x95 (Value.bool false)))) fun x96 =>
 zb (gd x86 false (za (some x96))) fun x97 =>
 zb (gd x97 true (za (some (zc v11 1)))) fun x98 =>
 zb (gd x97 true (za (some (zc v11 4)))) fun x99 =>
 zb (gd x97 true (za (zq 3 x98 x99))) fun x100 =>
 zb (gd x97 true (za (ze 1 x100))) fun x101 =>
 zb (gd x97 true (za (ze 1 (zc v11 3)))) fun x103 =>
 zb (gd x97 true (zz x101)) fun x102 =>
 zb (gd x97 true (zz x103)) fun x104 =>
 zb (gd x97 true (za (zr .eql x102 x104))) fun x105 =>
 zb (gd x86 false (za (zy x97 x105 (Value.bool false)))) fun x106 =>
 zb (za (zy x86 (Value.bool true) x106)) fun x107 =>
 zn x107 (
 ret (.ret [(zc v11 2),(Value.int .i64 190)])
 ) (
 ret (.nxt [(zc v11 0),(zc v11 1),(zc v11 2),(zc v11 3),(zc v11 4)])
 )
 ) fun o=>ret (zw 5 o)
 ) fun o=>nx o zrk
def zgi (v10:List V):M Out :=
 zb (
 zb (za (zr .lss (zc v10 4) (zc v10 2))) fun x78 =>
 zn x78 (
 ret (.nxt [(zc v10 0),(zc v10 1),(zc v10 2),(zc v10 3),(zc v10 4)])
 ) (
 ret (.brk 4 [(zc v10 0),(zc v10 1),(zc v10 2)])
 )
 ) fun o=>nx o zjy
def zx9 (v9:List V):M Out :=
 zb (
 zbf zbs zgi [(zc v9 0),(zc v9 1),(zc v9 2),(zc v9 3),(Value.int .i64 0)]
 ) fun o=>ret (zw 4 o)
def z7k (v8:List V):M Out :=
 zb (
 zb (za (ze 2 (zc v8 3))) fun x64 =>
 zb (zz x64) fun x65 =>
 zb (gd x65 true (za (some (zc v8 0)))) fun x67 =>
 zb (gd x65 true (za (ze 1 (zc v8 3)))) fun x68 =>
 zb (gd x65 true (zz x68)) fun x69 =>
 zb (gd x65 true (za (zq 2 x67 x69))) fun x70 =>
 zb (gd x65 true (za (ze 1 x70))) fun x71 =>
 zb (gd x65 true (zz x71)) fun x72 =>
 zb (gd x65 true (za (un .not x72))) fun x73 =>
 zb (za (zy x65 x73 (Value.bool false))) fun x74 =>
 zn x74 (
 ret (.ret [(zc v8 2),(Value.int .i64 91)])
 ) (
 ret (.nxt [(zc v8 0),(zc v8 1),(zc v8 2),(zc v8 3)])
 )
 ) fun o=>nx o zx9
def zya (v13:List V):M Out :=
 zb (za (zr .add (zc v13 2) (Value.int .i64 1))) fun x38 =>
 ret (.nxt [(zc v13 0),(zc v13 1),x38])
def z7l (v7:List V):M Out :=
 zb (
 zb (
 zb (za (zq 3 (zc v7 1) (zc v7 2))) fun x41 =>
 zb (ldn 3 x41) fun x42 =>
 zb (newc [Value.int .i64 0,Value.int .i64 0,Value.bool false]) fun x8 =>
 zb (stn 3 x8 x42) fun _ =>
 zb (
 zb (za (ze 0 x8)) fun x43 =>
 zb (zz x43) fun x44 =>
 zb (za (zr .lss x44 (Value.int .i64 0))) fun x45 =>
 zb (gd x45 false (za (ze 0 x8))) fun x47 =>
 zb (gd x45 false (zz x47)) fun x48 =>
 zb (gd x45 false (za (zr .geq x48 (Value.int .i64 8)))) fun x49 =>
 zb (za (zy x45 (Value.bool true) x49)) fun x50 =>
 zb (gd x50 false (za (ze 1 x8))) fun x52 =>
 zb (gd x50 false (zz x52)) fun x53 =>
 zb (gd x50 false (za (zr .lss x53 (Value.int .i64 0)))) fun x54 =>
 zb (za (zy x50 (Value.bool true) x54)) fun x55 =>
 zb (gd x55 false (za (ze 1 x8))) fun x57 =>
 zb (gd x55 false (zz x57)) fun x58 =>
 zb (gd x55 false (za (some (zc v7 0)))) fun x59 =>
 zb (gd x55 false (za (zt x59))) fun x60 =>
 zb (gd x55 false (za (zr .geq x58 x60))) fun x61 =>
 zb (za (zy x55 (Value.bool true) x61)) fun x62 =>
 zn x62 (
 ret (.ret [(zc v7 2),(Value.int .i64 1)])
 ) (
 ret (.nxt [(zc v7 0),(zc v7 1),(zc v7 2),x8])
 )
 ) fun o=>nx o z7k
 ) fun o=>ret (zw 3 o)
 ) fun o=>nx o zya
def zuu (v6:List V):M Out :=
 zb (
 zb (za (zt (zc v6 1))) fun x35 =>
 zb (za (zr .lss (zc v6 2) x35)) fun x36 =>
 zn x36 (
 ret (.nxt [(zc v6 0),(zc v6 1),(zc v6 2)])
 ) (
 ret (.brk 2 [])
 )
 ) fun o=>nx o z7l
def z43 (v14:List V):M Out :=
 ret (.ret [(Value.int .i64 0),(Value.int .i64 0)])
def z44 (v5:List V):M Out :=
 zb (
 zb (
 zbf zbs zuu [(zc v5 0),(zc v5 1),(Value.int .i64 0)]
 ) fun o=>ret (zw 2 o)
 ) fun o=>nx o z43
def z45 (vs:List V):M Out :=
 zb (
 zb (
 zbf zbs znb [(zc vs 0),(zc vs 1),(Value.int .i64 0)]
 ) fun o=>ret (zw 0 o)
 ) fun o=>nx o z44
def ztc (x0 x1:V):M V :=
 zb (
 zb (
 zb (za (zt x0)) fun x11 =>
 zb (za (zr .gtr x11 (Value.int .i64 64))) fun x12 =>
 zn x12 (
 ret (.ret [(Value.int .i64 (-1)),(Value.int .i64 2)])
 ) (
 ret (.nxt [x0,x1])
 )
 ) fun o=>nx o z45
 ) fun o=>zbg o fun vs=>ret (zbe [(zc vs 0),(zc vs 1)])
def zblq:Hint:=(.seq [] .leaf (.seq [0,1] (.seq [] .leaf (.cond (.seq [] .leaf .leaf) .leaf)) (.seq [0,1] (.seq [] .leaf (.blk (.loop [0,1,6] (.seq [0,1,6] (.seq [] .leaf (.cond .leaf .leaf)) (.seq [0,1,6] (.blk (.seq [] .leaf (.cond (.seq [] .leaf .leaf) .leaf))) .leaf))))) (.seq [] (.seq [] .leaf (.blk (.loop [0,1,7] (.seq [0,1,7] (.seq [] .leaf (.cond .leaf .leaf)) (.seq [0,1,7] (.blk (.seq [] .leaf (.seq [0,1,7,8] (.seq [] .leaf (.cond (.seq [] .leaf .leaf) .leaf)) (.seq [0,1,7,8] (.seq [] .leaf (.cond (.seq [] .leaf .leaf) .leaf)) (.seq [] .leaf (.blk (.loop [0,1,7,8,9] (.seq [0,1,7,8,9] (.seq [] .leaf (.cond .leaf .leaf)) (.seq [0,1,7,8,9] (.blk (.seq [] (.reg [0,1,2,3,4,5,6,7,8,9,10,11,12,13,14,15,16,17,18,19,20,22,21,23,24,25,26] []) (.cond (.seq [] .leaf .leaf) .leaf))) .leaf))))))))) .leaf))))) (.seq [] .leaf .leaf)))))
def zk8:List V→M V:=ap2 ztc
theorem zbbx:zu Tryz.prog zul (zk8):=kn2 (σ:=ovr [] noC) (hint:=zblq) (by kernel_rfl) zk fun _ _=>(by kernel_rfl)
def z3r (x0:V):M V :=
 zb (
 zb (za (zr .geq x0 (Value.int .i64 0))) fun x4 =>
 zb (gd x4 true (za (some x0))) fun x6 =>
 zb (gd x4 true (za (zr .lss x6 (Value.int .i64 8)))) fun x7 =>
 zb (za (zy x4 x7 (Value.bool false))) fun x8 =>
 ret (.ret [x8])
 ) fun o=>zbg o fun vs=>ret (zbe [(zc vs 0)])
def zbpb:Hint:=(.seq [] .leaf (.seq [] .leaf .leaf))
def zrl:List V→M V:=ap1 z3r
theorem zbpc:zu Tryz.prog z6g (zrl):=kn1 (σ:=ovr [] noC) (hint:=zbpb) (by kernel_rfl) zk fun _=>(by kernel_rfl)
def zbe7 (vs:List V):M Out :=
 ret (.ret [(Value.int .i64 0)])
def z7m (x0:V):M V :=
 zb (
 zb (zdf x0) fun x1 =>
 zb (
 zb (
 zb (za (ze 0 x1)) fun x4 =>
 zb (zz x4) fun x5 =>
 zb (za (zr .neq x5 (Value.int .i64 1))) fun x6 =>
 zb (gd x6 true (za (ze 0 x1))) fun x8 =>
 zb (gd x6 true (zz x8)) fun x9 =>
 zb (gd x6 true (za (zr .neq x9 (Value.int .i64 2)))) fun x10 =>
 zb (za (zy x6 x10 (Value.bool false))) fun x11 =>
 zn x11 (
 ret (.ret [(Value.int .i64 91)])
 ) (
 zb (za (ze 1 x1)) fun x13 =>
 zb (zz x13) fun x14 =>
 zb (zrl [x14]) fun x15 =>
 zb (za (un .not x15)) fun x16 =>
 zb (gd x16 false (za (ze 2 x1))) fun x18 =>
 zb (gd x16 false (zz x18)) fun x19 =>
 zb (gd x16 false (zrl [x19])) fun x20 =>
 zb (gd x16 false (za (un .not x20))) fun x21 =>
 zb (za (zy x16 (Value.bool true) x21)) fun x22 =>
 zn x22 (
 ret (.ret [(Value.int .i64 1)])
 ) (
 zb (za (ze 1 x1)) fun x24 =>
 zb (zz x24) fun x25 =>
 zb (za (ze 2 x1)) fun x26 =>
 zb (zz x26) fun x27 =>
 zb (za (zr .eql x25 x27)) fun x28 =>
 zn x28 (
 ret (.ret [(Value.int .i64 4)])
 ) (
 zb (za (ze 3 x1)) fun x30 =>
 zb (zz x30) fun x31 =>
 zb (za (zr .lss x31 (Value.int .i64 1))) fun x32 =>
 zb (gd x32 false (za (ze 3 x1))) fun x34 =>
 zb (gd x32 false (zz x34)) fun x35 =>
 zb (gd x32 false (za (zr .gtr x35 (Value.int .i64 3)))) fun x36 =>
 zb (za (zy x32 (Value.bool true) x36)) fun x37 =>
 zn x37 (
 ret (.ret [(Value.int .i64 40)])
 ) (
 zb (za (ze 0 x1)) fun x39 =>
 zb (zz x39) fun x40 =>
 zb (za (zr .eql x40 (Value.int .i64 1))) fun x41 =>
 zb (gd x41 true (za (ze 4 x1))) fun x43 =>
 zb (gd x41 true (zz x43)) fun x44 =>
 zb (gd x41 true (za (zr .neq x44 (Value.int .i64 0)))) fun x45 =>
 zb (za (zy x41 x45 (Value.bool false))) fun x46 =>
 zb (gd x46 false (za (ze 0 x1))) fun x48 =>
 zb (gd x46 false (zz x48)) fun x49 =>
 zb (gd x46 false (za (zr .eql x49 (Value.int .i64 2)))) fun x50 =>
 zb (gd x46 false (za (some x50))) fun x51 =>
 zb (gd x51 true (za (ze 4 x1))) fun x52 =>
 zb (gd x51 true (zz x52)) fun x53 =>
 zb (gd x51 true (za (zr .lss x53 (Value.int .i64 1)))) fun x54 =>
 zb (gd x51 true (za (some x54))) fun x55 =>
 zb (gd x55 false (za (ze 4 x1))) fun x56 =>
 zb (gd x55 false (zz x56)) fun x57 =>
 zb (gd x55 false (za (zr .gtr x57 (Value.int .i64 16)))) fun x58 =>
 zb (gd x51 true (za (zy x55 (Value.bool true) x58))) fun x59 =>
 zb (gd x46 false (za (zy x51 x59 (Value.bool false)))) fun x60 =>
 zb (za (zy x46 (Value.bool true) x60)) fun x61 =>
 zn x61 (
 ret (.ret [(Value.int .i64 1)])
 ) (
 ret (.nxt [])
 )
 )
 )
 )
 )
 ) fun o=>ret (zw 0 o)
 ) fun o=>nx o zbe7
 ) fun o=>zbg o fun vs=>ret (zbe [(zc vs 0)])
def zbrv:Hint:=(.seq [] .leaf (.seq [] (.blk (.seq [] .leaf (.cond (.seq [] .leaf .leaf) (.seq [] .leaf (.cond (.seq [] .leaf .leaf) (.seq [] .leaf (.cond (.seq [] .leaf .leaf) (.seq [] .leaf (.cond (.seq [] .leaf .leaf) (.seq [] .leaf (.cond (.seq [] .leaf .leaf) .leaf))))))))))) (.seq [] .leaf .leaf)))
def zzk:List V→M V:=ap1 z7m
def zbrw:zv:=ovr [(z6g,zrl)] noC
theorem zbrx:zu Tryz.prog zbas (zzk):=kn1 (σ:=zbrw) (hint:=zbrv) (by kernel_rfl) (zj zbpc zk) fun _=>(by kernel_rfl)
def z7n (v4:List V):M Out :=
 zb (za (zr .add (zc v4 1) (Value.int .i64 1))) fun x14 =>
 ret (.nxt [(zc v4 0),x14])
def z7o (v3:List V):M Out :=
 zb (
 zb (
 zb (za (zq 5 (zc v3 0) (zc v3 1))) fun x17 =>
 zb (ldn 5 x17) fun x18 =>
 zb (zzk [x18]) fun x19 =>
 zb (za (zr .neq x19 (Value.int .i64 0))) fun x21 =>
 zn x21 (
 ret (.ret [(zc v3 1),x19])
 ) (
 ret (.nxt [(zc v3 0),(zc v3 1)])
 )
 ) fun o=>ret (zw 1 o)
 ) fun o=>nx o z7n
def zyb (v2:List V):M Out :=
 zb (
 zb (za (zt (zc v2 0))) fun x11 =>
 zb (za (zr .lss (zc v2 1) x11)) fun x12 =>
 zn x12 (
 ret (.nxt [(zc v2 0),(zc v2 1)])
 ) (
 ret (.brk 0 [])
 )
 ) fun o=>nx o z7o
def z7p (v5:List V):M Out :=
 ret (.ret [(Value.int .i64 0),(Value.int .i64 0)])
def z7q (vs:List V):M Out :=
 zb (
 zb (
 zbf zbs zyb [(zc vs 0),(Value.int .i64 0)]
 ) fun o=>ret (zw 0 o)
 ) fun o=>nx o z7p
def ztd (x0:V):M V :=
 zb (
 zb (
 zb (za (zt x0)) fun x7 =>
 zb (za (zr .gtr x7 (Value.int .i64 16))) fun x8 =>
 zn x8 (
 ret (.ret [(Value.int .i64 (-1)),(Value.int .i64 2)])
 ) (
 ret (.nxt [x0])
 )
 ) fun o=>nx o z7q
 ) fun o=>zbg o fun vs=>ret (zbe [(zc vs 0),(zc vs 1)])
def zblr:Hint:=(.seq [] .leaf (.seq [0] (.seq [] .leaf (.cond (.seq [] .leaf .leaf) .leaf)) (.seq [] (.seq [] .leaf (.blk (.loop [0,4] (.seq [0,4] (.seq [] .leaf (.cond .leaf .leaf)) (.seq [0,4] (.blk (.seq [] .leaf (.seq [] .leaf (.cond (.seq [] .leaf .leaf) .leaf)))) .leaf))))) (.seq [] .leaf .leaf))))
def zk9:List V→M V:=ap1 ztd
def zbls:zv:=ovr [(zbas,zzk)] noC
theorem zbby:zu Tryz.prog zum (zk9):=kn1 (σ:=zbls) (hint:=zblr) (by kernel_rfl) (zj zbrx zk) fun _=>(by kernel_rfl)
def z7r (v3:List V):M Out :=
 zb (za (zr .add (zc v3 3) (Value.int .i64 1))) fun x13 =>
 ret (.nxt [(zc v3 0),(zc v3 1),(zc v3 2),x13])
def z7s (v2:List V):M Out :=
 zb (
 zb (
 zb (za (ze 1 (zc v2 1))) fun x14 =>
 zb (zz x14) fun x15 =>
 zb (za (zq 3 x15 (zc v2 3))) fun x17 =>
 zb (za (ze 0 x17)) fun x18 =>
 zb (zz x18) fun x19 =>
 zb (za (zr .eql x19 (zc v2 0))) fun x21 =>
 zn x21 (
 zb (za (ze 1 (zc v2 1))) fun x23 =>
 zb (zz x23) fun x24 =>
 zb (za (zq 3 x24 (zc v2 3))) fun x26 =>
 zb (ldn 3 x26) fun x27 =>
 zb (zcz 3 1 (rep 1 [Value.int .i64 0,Value.int .i64 0,Value.int .i64 0]) [(0,3,x27)]) fun x28 =>
 zb (zc4 3 24 (zc v2 2) x28) fun x29 =>
 ret (.nxt [(zc v2 0),(zc v2 1),x29,(zc v2 3)])
 ) (
 ret (.nxt [(zc v2 0),(zc v2 1),(zc v2 2),(zc v2 3)])
 )
 ) fun o=>ret (zw 1 o)
 ) fun o=>nx o z7r
def zzl (vs:List V):M Out :=
 zb (
 zb (za (ze 1 (zc vs 1))) fun x8 =>
 zb (zz x8) fun x9 =>
 zb (za (zt x9)) fun x10 =>
 zb (za (zr .lss (zc vs 3) x10)) fun x11 =>
 zn x11 (
 ret (.nxt [(zc vs 0),(zc vs 1),(zc vs 2),(zc vs 3)])
 ) (
 ret (.brk 0 [(zc vs 2)])
 )
 ) fun o=>nx o z7s
def zbh0 (v4:List V):M Out :=
 ret (.ret [(zc v4 0)])
def zbde (x0 x1:V):M V :=
 zb (
 zb (zdf x0) fun x2 =>
 zb (
 zb (
 zbf zbs zzl [x1,x2,(Value.slice none 0 0),(Value.int .i64 0)]
 ) fun o=>ret (zw 0 o)
 ) fun o=>nx o zbh0
 ) fun o=>zbg o fun vs=>ret (zbe [(zc vs 0)])
def zbun:Hint:=(.seq [] .leaf (.seq [] .leaf (.seq [5] (.seq [] .leaf (.blk (.loop [1,2,5,6] (.seq [1,2,5,6] (.seq [] .leaf (.cond .leaf .leaf)) (.seq [1,2,5,6] (.blk (.seq [] .leaf (.cond .leaf .leaf))) .leaf))))) (.seq [] .leaf .leaf))))
def z3s:List V→M V:=ap2 zbde
theorem zbuo:zu Tryz.prog zbeo (z3s):=kn2 (σ:=ovr [] noC) (hint:=zbun) (by kernel_rfl) zk fun _ _=>(by kernel_rfl)
def z7t (v5:List V):M Out :=
 zb (za (ze 1 (zc v5 3))) fun x87 =>
 zb (zz x87) fun x88 =>
 zb (za (ze 2 (zc v5 3))) fun x89 =>
 zb (zz x89) fun x90 =>
 zb (za (zr .add x88 x90)) fun x91 =>
 ret (.nxt [(zc v5 0),(zc v5 1),x91,(zc v5 2)])
def z7u (v6:List V):M Out :=
 zb (za (zr .add (zc v6 3) (Value.int .i64 1))) fun x43 =>
 ret (.nxt [(zc v6 0),(zc v6 1),(zc v6 2),x43])
def zgj (v4:List V):M Out :=
 zb (
 zb (
 zb (za (ze 1 (zc v4 1))) fun x44 =>
 zb (zz x44) fun x45 =>
 zb (za (zq 3 x45 (zc v4 3))) fun x47 =>
 zb (ldn 3 x47) fun x48 =>
 zb (newc [Value.int .i64 0,Value.int .i64 0,Value.int .i64 0]) fun x8 =>
 zb (stn 3 x8 x48) fun _ =>
 zb (
 zb (za (ze 0 x8)) fun x49 =>
 zb (zz x49) fun x50 =>
 zb (za (zr .lss x50 (Value.int .i64 (-1)))) fun x51 =>
 zb (gd x51 false (za (ze 0 x8))) fun x53 =>
 zb (gd x51 false (zz x53)) fun x54 =>
 zb (gd x51 false (za (some (zc v4 0)))) fun x55 =>
 zb (gd x51 false (za (zr .geq x54 x55))) fun x56 =>
 zb (za (zy x51 (Value.bool true) x56)) fun x57 =>
 zb (gd x57 false (za (ze 2 x8))) fun x59 =>
 zb (gd x57 false (zz x59)) fun x60 =>
 zb (gd x57 false (za (zr .lss x60 (Value.int .i64 1)))) fun x61 =>
 zb (za (zy x57 (Value.bool true) x61)) fun x62 =>
 zb (gd x62 false (za (ze 1 x8))) fun x64 =>
 zb (gd x62 false (zz x64)) fun x65 =>
 zb (gd x62 false (za (some (zc v4 2)))) fun x66 =>
 zb (gd x62 false (za (zr .lss x65 x66))) fun x67 =>
 zb (za (zy x62 (Value.bool true) x67)) fun x68 =>
 zb (gd x68 false (za (ze 1 x8))) fun x70 =>
 zb (gd x68 false (zz x70)) fun x71 =>
 zb (gd x68 false (za (ze 0 (zc v4 1)))) fun x72 =>
 zb (gd x68 false (zz x72)) fun x73 =>
 zb (gd x68 false (za (zr .gtr x71 x73))) fun x74 =>
 zb (za (zy x68 (Value.bool true) x74)) fun x75 =>
 zb (gd x75 false (za (ze 2 x8))) fun x77 =>
 zb (gd x75 false (zz x77)) fun x78 =>
 zb (gd x75 false (za (ze 0 (zc v4 1)))) fun x79 =>
 zb (gd x75 false (zz x79)) fun x80 =>
 zb (gd x75 false (za (ze 1 x8))) fun x81 =>
 zb (gd x75 false (zz x81)) fun x82 =>
 zb (gd x75 false (za (zr .sub x80 x82))) fun x83 =>
 zb (gd x75 false (za (zr .gtr x78 x83))) fun x84 =>
 zb (za (zy x75 (Value.bool true) x84)) fun x85 =>
 zn x85 (
 ret (.ret [(zc v4 3),(Value.int .i64 210)])
 ) (
 ret (.nxt [(zc v4 0),(zc v4 1),(zc v4 3),x8])
 )
 ) fun o=>nx o z7t
 ) fun o=>ret (zw 1 o)
 ) fun o=>nx o z7u
def ze1 (v3:List V):M Out :=
 zb (
 zb (za (ze 1 (zc v3 1))) fun x38 =>
 zb (zz x38) fun x39 =>
 zb (za (zt x39)) fun x40 =>
 zb (za (zr .lss (zc v3 3) x40)) fun x41 =>
 zn x41 (
 ret (.nxt [(zc v3 0),(zc v3 1),(zc v3 2),(zc v3 3)])
 ) (
 ret (.brk 0 [(zc v3 0),(zc v3 1)])
 )
 ) fun o=>nx o zgj
def zyc (v10:List V):M Out :=
 zb (za (zr .add (zc v10 2) (Value.int .i64 1))) fun x96 =>
 ret (.nxt [(zc v10 0),(zc v10 1),x96])
def z7v (v9:List V):M Out :=
 zb (
 zb (
 zb (ldn 2 (zc v9 1)) fun x97 =>
 zb (z3s [x97,(zc v9 2)]) fun x99 =>
 zb (za (zt x99)) fun x100 =>
 zb (za (zr .geq (zc v9 2) (Value.int .i64 0))) fun x102 =>
 zb (gd x102 true (za (some x100))) fun x104 =>
 zb (gd x102 true (za (zr .eql x104 (Value.int .i64 0)))) fun x105 =>
 zb (za (zy x102 x105 (Value.bool false))) fun x106 =>
 zb (gd x106 false (za (some (zc v9 2)))) fun x108 =>
 zb (gd x106 false (za (zr .lss x108 (Value.int .i64 0)))) fun x109 =>
 zb (gd x106 false (za (some x109))) fun x110 =>
 zb (gd x110 true (za (some x100))) fun x111 =>
 zb (gd x110 true (za (zr .gtr x111 (Value.int .i64 1)))) fun x112 =>
 zb (gd x106 false (za (zy x110 x112 (Value.bool false)))) fun x113 =>
 zb (za (zy x106 (Value.bool true) x113)) fun x114 =>
 zn x114 (
 ret (.ret [(Value.int .i64 (-1)),(Value.int .i64 210)])
 ) (
 ret (.nxt [(zc v9 0),(zc v9 1),(zc v9 2)])
 )
 ) fun o=>ret (zw 3 o)
 ) fun o=>nx o zyc
def zyd (v8:List V):M Out :=
 zb (
 zb (za (zr .lss (zc v8 2) (zc v8 0))) fun x94 =>
 zn x94 (
 ret (.nxt [(zc v8 0),(zc v8 1),(zc v8 2)])
 ) (
 ret (.brk 2 [])
 )
 ) fun o=>nx o z7v
def z7w (v11:List V):M Out :=
 ret (.ret [(Value.int .i64 0),(Value.int .i64 0)])
def z7x (v7:List V):M Out :=
 zb (
 zb (
 zbf zbs zyd [(zc v7 0),(zc v7 1),(Value.int .i64 (-1))]
 ) fun o=>ret (zw 2 o)
 ) fun o=>nx o z7w
def z7y (v2:List V):M Out :=
 zb (
 zb (
 zbf zbs ze1 [(zc v2 0),(zc v2 1),(Value.int .i64 0),(Value.int .i64 0)]
 ) fun o=>ret (zw 0 o)
 ) fun o=>nx o z7x
def zif (vs:List V):M Out :=
 zb (
 zb (za (ze 0 (zc vs 1))) fun x17 =>
 zb (zz x17) fun x18 =>
 zb (za (zr .lss x18 (Value.int .i64 1))) fun x19 =>
 zb (gd x19 false (za (ze 0 (zc vs 1)))) fun x21 =>
 zb (gd x19 false (zz x21)) fun x22 =>
 zb (gd x19 false (za (zr .gtr x22 (Value.int .i64 65536)))) fun x23 =>
 zb (za (zy x19 (Value.bool true) x23)) fun x24 =>
 zb (gd x24 false (za (ze 1 (zc vs 1)))) fun x26 =>
 zb (gd x24 false (zz x26)) fun x27 =>
 zb (gd x24 false (za (zt x27))) fun x28 =>
 zb (gd x24 false (za (zr .lss x28 (Value.int .i64 1)))) fun x29 =>
 zb (za (zy x24 (Value.bool true) x29)) fun x30 =>
 zb (gd x30 false (za (ze 1 (zc vs 1)))) fun x32 =>
 zb (gd x30 false (zz x32)) fun x33 =>
 zb (gd x30 false (za (zt x33))) fun x34 =>
 zb (gd x30 false (za (zr .gtr x34 (Value.int .i64 32)))) fun x35 =>
 zb (za (zy x30 (Value.bool true) x35)) fun x36 =>
 zn x36 (
 ret (.ret [(Value.int .i64 (-1)),(Value.int .i64 210)])
 ) (
 ret (.nxt [(zc vs 0),(zc vs 1)])
 )
 ) fun o=>nx o z7y
def zga (x0 x1:V):M V :=
 zb (
 zb (zdf x0) fun x2 =>
 zb (
 zb (za (zr .lss x1 (Value.int .i64 1))) fun x12 =>
 zb (gd x12 false (za (some x1))) fun x14 =>
 zb (gd x12 false (za (zr .gtr x14 (Value.int .i64 8)))) fun x15 =>
 zb (za (zy x12 (Value.bool true) x15)) fun x16 =>
 zn x16 (
 ret (.ret [(Value.int .i64 (-1)),(Value.int .i64 1)])
 ) (
 ret (.nxt [x1,x2])
 )
 ) fun o=>nx o zif
 ) fun o=>zbg o fun vs=>ret (zbe [(zc vs 0),(zc vs 1)])
def zblt:Hint:=(.seq [] .leaf (.seq [1,2] (.seq [] .leaf (.cond (.seq [] .leaf .leaf) .leaf)) (.seq [1,2] (.seq [] .leaf (.cond (.seq [] .leaf .leaf) .leaf)) (.seq [] .leaf (.seq [1,2] (.seq [] .leaf (.blk (.loop [1,2,6,7] (.seq [1,2,6,7] (.seq [] .leaf (.cond .leaf .leaf)) (.seq [1,2,6,7] (.blk (.seq [] .leaf (.seq [1,2,7,8] (.seq [] .leaf (.cond (.seq [] .leaf .leaf) .leaf)) .leaf))) .leaf))))) (.seq [] (.seq [] .leaf (.blk (.loop [1,2,9] (.seq [1,2,9] (.seq [] .leaf (.cond .leaf .leaf)) (.seq [1,2,9] (.blk (.seq [] .leaf (.seq [] .leaf (.cond (.seq [] .leaf .leaf) .leaf)))) .leaf))))) (.seq [] .leaf .leaf)))))))
def zte:List V→M V:=ap2 zga
def zblu:zv:=ovr [(zbeo,z3s)] noC
theorem zblv:zu Tryz.prog z4n (zte):=kn2 (σ:=zblu) (hint:=zblt) (by kernel_rfl) (zj zbuo zk) fun _ _=>(by kernel_rfl)
def zrm (vs:List V):M Out :=
 zb (gd (zc vs 1) true (za (ze 2 (zc vs 2)))) fun x27 =>
 zb (gd (zc vs 1) true (zz x27)) fun x28 =>
 zb (gd (zc vs 1) true (za (ze 1 (zc vs 3)))) fun x29 =>
 zb (gd (zc vs 1) true (zz x29)) fun x30 =>
 zb (gd (zc vs 1) true (za (zq 5 x28 x30))) fun x31 =>
 zb (gd (zc vs 1) true (za (ze 1 x31))) fun x32 =>
 zb (gd (zc vs 1) true (zz x32)) fun x33 =>
 zb (gd (zc vs 1) true (za (some (zc vs 0)))) fun x34 =>
 zb (gd (zc vs 1) true (za (zr .eql x33 x34))) fun x35 =>
 zb (za (zy (zc vs 1) x35 (Value.bool false))) fun x36 =>
 zb (gd x36 false (za (some (zc vs 1)))) fun x38 =>
 zb (gd x36 false (za (un .not x38))) fun x39 =>
 zb (gd x36 false (za (some x39))) fun x40 =>
 zb (gd x40 true (za (ze 2 (zc vs 2)))) fun x41 =>
 zb (gd x40 true (zz x41)) fun x42 =>
 zb (gd x40 true (za (ze 1 (zc vs 3)))) fun x43 =>
 zb (gd x40 true (zz x43)) fun x44 =>
 zb (gd x40 true (za (zq 5 x42 x44))) fun x45 =>
 zb (gd x40 true (za (ze 2 x45))) fun x46 =>
 zb (gd x40 true (zz x46)) fun x47 =>
 zb (gd x40 true (za (some (zc vs 0)))) fun x48 =>
 zb (gd x40 true (za (zr .eql x47 x48))) fun x49 =>
 zb (gd x36 false (za (zy x40 x49 (Value.bool false)))) fun x50 =>
 zb (za (zy x36 (Value.bool true) x50)) fun x51 =>
 ret (.ret [x51])
def zv7 (v6:List V):M Out :=
 zb (za (zr .add (zc v6 4) (Value.int .i64 1))) fun x74 =>
 ret (.nxt [(zc v6 0),(zc v6 1),(zc v6 2),(zc v6 3),x74])
def zn1 (v5:List V):M Out :=
 zb (
 zb (
 zb (za (ze 1 (zc v5 2))) fun x75 =>
 zb (zz x75) fun x76 =>
 zb (za (zq 3 x76 (zc v5 4))) fun x78 =>
 zb (ldn 3 x78) fun x79 =>
 zb (newc [Value.int .i64 0,Value.int .i64 0,Value.bool false]) fun x10 =>
 zb (stn 3 x10 x79) fun _ =>
 zb (za (ze 0 x10)) fun x80 =>
 zb (zz x80) fun x81 =>
 zb (za (zr .eql x81 (zc v5 0))) fun x83 =>
 zb (gd x83 true (za (ze 1 x10))) fun x85 =>
 zb (gd x83 true (zz x85)) fun x86 =>
 zb (gd x83 true (za (ze 1 (zc v5 3)))) fun x87 =>
 zb (gd x83 true (zz x87)) fun x88 =>
 zb (gd x83 true (za (zr .eql x86 x88))) fun x89 =>
 zb (za (zy x83 x89 (Value.bool false))) fun x90 =>
 zb (gd x90 true (za (ze 2 x10))) fun x92 =>
 zb (gd x90 true (zz x92)) fun x93 =>
 zb (gd x90 true (za (some x93))) fun x94 =>
 zb (gd x94 false (za (some (zc v5 1)))) fun x95 =>
 zb (gd x94 false (za (un .not x95))) fun x96 =>
 zb (gd x90 true (za (zy x94 (Value.bool true) x96))) fun x97 =>
 zb (za (zy x90 x97 (Value.bool false))) fun x98 =>
 zn x98 (
 ret (.ret [(Value.bool true)])
 ) (
 ret (.nxt [(zc v5 0),(zc v5 1),(zc v5 2),(zc v5 3),(zc v5 4)])
 )
 ) fun o=>ret (zw 1 o)
 ) fun o=>nx o zv7
def zkp (v4:List V):M Out :=
 zb (
 zb (za (ze 1 (zc v4 2))) fun x69 =>
 zb (zz x69) fun x70 =>
 zb (za (zt x70)) fun x71 =>
 zb (za (zr .lss (zc v4 4) x71)) fun x72 =>
 zn x72 (
 ret (.nxt [(zc v4 0),(zc v4 1),(zc v4 2),(zc v4 3),(zc v4 4)])
 ) (
 ret (.brk 0 [])
 )
 ) fun o=>nx o zn1
def zbe8 (v7:List V):M Out :=
 ret (.ret [(Value.bool false)])
def zbe9 (v3:List V):M Out :=
 zb (
 zb (
 zbf zbs zkp [(zc v3 0),(zc v3 1),(zc v3 2),(zc v3 3),(Value.int .i64 0)]
 ) fun o=>ret (zw 0 o)
 ) fun o=>nx o zbe8
def zrn (v2:List V):M Out :=
 zb (
 zb (za (ze 0 (zc v2 3))) fun x52 =>
 zb (zz x52) fun x53 =>
 zb (za (zr .neq x53 (Value.int .i64 1))) fun x54 =>
 zb (gd x54 false (za (ze 1 (zc v2 3)))) fun x56 =>
 zb (gd x54 false (zz x56)) fun x57 =>
 zb (gd x54 false (za (zr .lss x57 (Value.int .i64 0)))) fun x58 =>
 zb (za (zy x54 (Value.bool true) x58)) fun x59 =>
 zb (gd x59 false (za (ze 1 (zc v2 3)))) fun x61 =>
 zb (gd x59 false (zz x61)) fun x62 =>
 zb (gd x59 false (za (ze 0 (zc v2 2)))) fun x63 =>
 zb (gd x59 false (zz x63)) fun x64 =>
 zb (gd x59 false (za (zt x64))) fun x65 =>
 zb (gd x59 false (za (zr .geq x62 x65))) fun x66 =>
 zb (za (zy x59 (Value.bool true) x66)) fun x67 =>
 zn x67 (
 ret (.ret [(Value.bool false)])
 ) (
 ret (.nxt [(zc v2 0),(zc v2 1),(zc v2 2),(zc v2 3)])
 )
 ) fun o=>nx o zbe9
def z7z (x0 x1 x2 x3:V):M V :=
 zb (
 zb (zdf x0) fun x4 =>
 zb (zdf x2) fun x6 =>
 zb (
 zb (za (ze 0 x6)) fun x11 =>
 zb (zz x11) fun x12 =>
 zb (za (zr .eql x12 (Value.int .i64 2))) fun x13 =>
 zn x13 (
 zb (
 zb (za (ze 1 x6)) fun x14 =>
 zb (zz x14) fun x15 =>
 zb (za (zr .lss x15 (Value.int .i64 0))) fun x16 =>
 zb (gd x16 false (za (ze 1 x6))) fun x18 =>
 zb (gd x16 false (zz x18)) fun x19 =>
 zb (gd x16 false (za (ze 2 x4))) fun x20 =>
 zb (gd x16 false (zz x20)) fun x21 =>
 zb (gd x16 false (za (zt x21))) fun x22 =>
 zb (gd x16 false (za (zr .geq x19 x22))) fun x23 =>
 zb (za (zy x16 (Value.bool true) x23)) fun x24 =>
 zn x24 (
 ret (.ret [(Value.bool false)])
 ) (
 ret (.nxt [x1,x3,x4,x6])
 )
 ) fun o=>nx o zrm
 ) (
 ret (.nxt [x1,x3,x4,x6])
 )
 ) fun o=>nx o zrn
 ) fun o=>zbg o fun vs=>ret (zbe [(zc vs 0)])
def zbry:Hint:=(.seq [] .leaf (.seq [1,3,4,6] (.seq [] .leaf (.cond (.seq [1,3,4,6] (.seq [] .leaf (.cond (.seq [] .leaf .leaf) .leaf)) (.seq [] .leaf .leaf)) .leaf)) (.seq [1,3,4,6] (.seq [] .leaf (.cond (.seq [] .leaf .leaf) .leaf)) (.seq [] (.seq [] .leaf (.blk (.loop [1,3,4,6,9] (.seq [1,3,4,6,9] (.seq [] .leaf (.cond .leaf .leaf)) (.seq [1,3,4,6,9] (.blk (.seq [] .leaf (.seq [] .leaf (.cond (.seq [] .leaf .leaf) .leaf)))) .leaf))))) (.seq [] .leaf .leaf)))))
def zzm:List V→M V:=ap4 z7z
theorem zbrz:zu Tryz.prog zbat (zzm):=kn4 (σ:=ovr [] noC) (hint:=zbry) (by kernel_rfl) zk fun _ _ _ _=>(by kernel_rfl)
def z70 (v7:List V):M Out :=
 zb (za (zr .add (zc v7 5) (Value.int .i64 1))) fun x33 =>
 ret (.nxt [(zc v7 0),(zc v7 1),(zc v7 2),(zc v7 3),(zc v7 4),x33])
def zye (v6:List V):M Out :=
 zb (
 zb (
 zb (za (zq 2 (zc v6 1) (zc v6 5))) fun x36 =>
 zb (za (zq 2 (zc v6 1) (zc v6 4))) fun x40 =>
 zb (ldn 2 x36) fun x37 =>
 zb (ldn 2 x40) fun x41 =>
 zb (za (zcp false (ze6 [.i,.i] x37 x41))) fun x42 =>
 zn x42 (
 ret (.ret [(Value.bool false)])
 ) (
 ret (.nxt [(zc v6 0),(zc v6 1),(zc v6 2),(zc v6 3),(zc v6 4),(zc v6 5)])
 )
 ) fun o=>ret (zw 3 o)
 ) fun o=>nx o z70
def znc (v5:List V):M Out :=
 zb (
 zb (za (zr .lss (zc v5 5) (zc v5 4))) fun x31 =>
 zn x31 (
 ret (.nxt [(zc v5 0),(zc v5 1),(zc v5 2),(zc v5 3),(zc v5 4),(zc v5 5)])
 ) (
 ret (.brk 2 [(zc v5 0),(zc v5 1),(zc v5 2),(zc v5 3),(zc v5 4)])
 )
 ) fun o=>nx o zye
def z71 (v4:List V):M Out :=
 zb (
 zbf zbs znc [(zc v4 0),(zc v4 1),(zc v4 2),(zc v4 3),(zc v4 4),(Value.int .i64 0)]
 ) fun o=>ret (zw 2 o)
def z72 (v8:List V):M Out :=
 zb (za (zr .add (zc v8 4) (Value.int .i64 1))) fun x19 =>
 ret (.nxt [(zc v8 0),(zc v8 1),(zc v8 2),(zc v8 3),x19])
def z73 (v3:List V):M Out :=
 zb (
 zb (
 zb (
 zb (za (zq 2 (zc v3 1) (zc v3 4))) fun x24 =>
 zb (ldn 7 (zc v3 3)) fun x20 =>
 zb (ldn 2 x24) fun x25 =>
 zb (zzm [x20,(zc v3 0),x25,(zc v3 2)]) fun x27 =>
 zb (za (un .not x27)) fun x28 =>
 zn x28 (
 ret (.ret [(Value.bool false)])
 ) (
 ret (.nxt [(zc v3 0),(zc v3 1),(zc v3 2),(zc v3 3),(zc v3 4)])
 )
 ) fun o=>nx o z71
 ) fun o=>ret (zw 1 o)
 ) fun o=>nx o z72
def zyf (v2:List V):M Out :=
 zb (
 zb (za (zt (zc v2 1))) fun x16 =>
 zb (za (zr .lss (zc v2 4) x16)) fun x17 =>
 zn x17 (
 ret (.nxt [(zc v2 0),(zc v2 1),(zc v2 2),(zc v2 3),(zc v2 4)])
 ) (
 ret (.brk 0 [])
 )
 ) fun o=>nx o z73
def z74 (v9:List V):M Out :=
 ret (.ret [(Value.bool true)])
def z77 (vs:List V):M Out :=
 zb (
 zb (
 zbf zbs zyf [(zc vs 0),(zc vs 1),(zc vs 2),(zc vs 3),(Value.int .i64 0)]
 ) fun o=>ret (zw 0 o)
 ) fun o=>nx o z74
def z01 (x0 x1 x2 x3:V):M V :=
 zb (
 zb (zdf x0) fun x4 =>
 zb (
 zb (za (zt x2)) fun x12 =>
 zb (za (zr .gtr x12 (Value.int .i64 32))) fun x13 =>
 zn x13 (
 ret (.ret [(Value.bool false)])
 ) (
 ret (.nxt [x1,x2,x3,x4])
 )
 ) fun o=>nx o z77
 ) fun o=>zbg o fun vs=>ret (zbe [(zc vs 0)])
def zblw:Hint:=(.seq [] .leaf (.seq [1,2,3,4] (.seq [] .leaf (.cond (.seq [] .leaf .leaf) .leaf)) (.seq [] (.seq [] .leaf (.blk (.loop [1,2,3,4,9] (.seq [1,2,3,4,9] (.seq [] .leaf (.cond .leaf .leaf)) (.seq [1,2,3,4,9] (.blk (.seq [1,2,3,4,9] (.seq [] (.reg [1,2,3,4,6,0,5,7,8] []) (.cond (.seq [] .leaf .leaf) .leaf)) (.seq [] .leaf (.blk (.loop [1,2,3,4,9,10] (.seq [1,2,3,4,9,10] (.seq [] .leaf (.cond .leaf .leaf)) (.seq [1,2,3,4,9,10] (.blk (.seq [] (.reg [0,1,2,4,5,6,3,7,8] []) (.cond (.seq [] .leaf .leaf) .leaf))) .leaf))))))) .leaf))))) (.seq [] .leaf .leaf))))
def zoz:List V→M V:=ap4 z01
def zblx:zv:=ovr [(zbat,zzm)] noC
theorem zbly:zu Tryz.prog z4o (zoz):=kn4 (σ:=zblx) (hint:=zblw) (by kernel_rfl) (zj zbrz zk) fun _ _ _ _=>(by kernel_rfl)
def z78 (v7:List V):M Out :=
 zb (za (zr .add (zc v7 1) (Value.int .i64 1))) fun x58 =>
 ret (.nxt [(zc v7 0),x58])
def zyg (v6:List V):M Out :=
 zb (
 zb (
 zb (za (ze 1 (zc v6 0))) fun x59 =>
 zb (za (ze 5 (zc v6 0))) fun x65 =>
 zb (zz x59) fun x60 =>
 zb (za (zq 3 x60 (zc v6 1))) fun x62 =>
 zb (za (ze 0 x62)) fun x63 =>
 zb (zz x63) fun x64 =>
 zb (zz x65) fun x66 =>
 zb (za (zt x66)) fun x67 =>
 zb (za (zr .geq x64 x67)) fun x68 =>
 zn x68 (
 ret (.ret [(Value.int .i64 270)])
 ) (
 ret (.nxt [(zc v6 0),(zc v6 1)])
 )
 ) fun o=>ret (zw 1 o)
 ) fun o=>nx o z78
def znd (v5:List V):M Out :=
 zb (
 zb (za (ze 1 (zc v5 0))) fun x53 =>
 zb (zz x53) fun x54 =>
 zb (za (zt x54)) fun x55 =>
 zb (za (zr .lss (zc v5 1) x55)) fun x56 =>
 zn x56 (
 ret (.nxt [(zc v5 0),(zc v5 1)])
 ) (
 ret (.brk 0 [(zc v5 0)])
 )
 ) fun o=>nx o zyg
def z79 (v11:List V):M Out :=
 zb (za (zr .add (zc v11 1) (Value.int .i64 1))) fun x75 =>
 ret (.nxt [(zc v11 0),x75])
def zro (v10:List V):M Out :=
 zb (
 zb (
 zb (za (ze 2 (zc v10 0))) fun x76 =>
 zb (za (ze 5 (zc v10 0))) fun x82 =>
 zb (zz x76) fun x77 =>
 zb (za (zq 5 x77 (zc v10 1))) fun x79 =>
 zb (za (ze 1 x79)) fun x80 =>
 zb (zz x80) fun x81 =>
 zb (zz x82) fun x83 =>
 zb (za (zt x83)) fun x84 =>
 zb (za (zr .geq x81 x84)) fun x85 =>
 zb (gd x85 false (za (ze 2 (zc v10 0)))) fun x87 =>
 zb (gd x85 false (za (some (zc v10 1)))) fun x89 =>
 zb (gd x85 false (za (ze 5 (zc v10 0)))) fun x93 =>
 zb (gd x85 false (zz x87)) fun x88 =>
 zb (gd x85 false (za (zq 5 x88 x89))) fun x90 =>
 zb (gd x85 false (za (ze 2 x90))) fun x91 =>
 zb (gd x85 false (zz x91)) fun x92 =>
 zb (gd x85 false (zz x93)) fun x94 =>
 zb (gd x85 false (za (zt x94))) fun x95 =>
 zb (gd x85 false (za (zr .geq x92 x95))) fun x96 =>
 zb (za (zy x85 (Value.bool true) x96)) fun x97 =>
 zn x97 (
 ret (.ret [(Value.int .i64 270)])
 ) (
 ret (.nxt [(zc v10 0),(zc v10 1)])
 )
 ) fun o=>ret (zw 3 o)
 ) fun o=>nx o z79
def zjz (v9:List V):M Out :=
 zb (
 zb (za (ze 2 (zc v9 0))) fun x70 =>
 zb (zz x70) fun x71 =>
 zb (za (zt x71)) fun x72 =>
 zb (za (zr .lss (zc v9 1) x72)) fun x73 =>
 zn x73 (
 ret (.nxt [(zc v9 0),(zc v9 1)])
 ) (
 ret (.brk 2 [(zc v9 0)])
 )
 ) fun o=>nx o zro
def z8a (v15:List V):M Out :=
 zb (za (zr .add (zc v15 1) (Value.int .i64 1))) fun x104 =>
 ret (.nxt [(zc v15 0),x104])
def z8b (v14:List V):M Out :=
 zb (
 zb (
 zb (za (ze 5 (zc v14 0))) fun x107 =>
 zb (ldn 7 (zc v14 0)) fun x105 =>
 zb (zz x107) fun x108 =>
 zb (za (zq 2 x108 (zc v14 1))) fun x110 =>
 zb (za (ze 0 x110)) fun x111 =>
 zb (zz x111) fun x112 =>
 zb (zoz [x105,(zc v14 1),x112,(Value.bool false)]) fun x113 =>
 zb (za (un .not x113)) fun x114 =>
 zb (gd x114 false (za (some (zc v14 1)))) fun x117 =>
 zb (gd x114 false (za (ze 5 (zc v14 0)))) fun x118 =>
 zb (gd x114 false (za (some (zc v14 1)))) fun x120 =>
 zb (gd x114 false (ldn 7 (zc v14 0))) fun x116 =>
 zb (gd x114 false (zz x118)) fun x119 =>
 zb (gd x114 false (za (zq 2 x119 x120))) fun x121 =>
 zb (gd x114 false (za (ze 1 x121))) fun x122 =>
 zb (gd x114 false (zz x122)) fun x123 =>
 zb (gd x114 false (zoz [x116,x117,x123,(Value.bool true)])) fun x124 =>
 zb (gd x114 false (za (un .not x124))) fun x125 =>
 zb (za (zy x114 (Value.bool true) x125)) fun x126 =>
 zn x126 (
 ret (.ret [(Value.int .i64 270)])
 ) (
 ret (.nxt [(zc v14 0),(zc v14 1)])
 )
 ) fun o=>ret (zw 5 o)
 ) fun o=>nx o z8a
def zrp (v13:List V):M Out :=
 zb (
 zb (za (ze 5 (zc v13 0))) fun x99 =>
 zb (zz x99) fun x100 =>
 zb (za (zt x100)) fun x101 =>
 zb (za (zr .lss (zc v13 1) x101)) fun x102 =>
 zn x102 (
 ret (.nxt [(zc v13 0),(zc v13 1)])
 ) (
 ret (.brk 4 [])
 )
 ) fun o=>nx o z8b
def z8c (v16:List V):M Out :=
 ret (.ret [(Value.int .i64 0)])
def z47 (v12:List V):M Out :=
 zb (
 zb (
 zbf zbs zrp [(zc v12 0),(Value.int .i64 0)]
 ) fun o=>ret (zw 4 o)
 ) fun o=>nx o z8c
def z48 (v8:List V):M Out :=
 zb (
 zb (
 zbf zbs zjz [(zc v8 0),(Value.int .i64 0)]
 ) fun o=>ret (zw 2 o)
 ) fun o=>nx o z47
def z49 (v4:List V):M Out :=
 zb (
 zb (
 zbf zbs znd [(zc v4 0),(Value.int .i64 0)]
 ) fun o=>ret (zw 0 o)
 ) fun o=>nx o z48
def zo8 (v3:List V):M Out :=
 zb (
 zb (za (ze 6 (zc v3 0))) fun x44 =>
 zb (zz x44) fun x45 =>
 zb (za (zr .lss x45 (Value.int .i64 1))) fun x46 =>
 zb (gd x46 false (za (ze 6 (zc v3 0)))) fun x48 =>
 zb (gd x46 false (zz x48)) fun x49 =>
 zb (gd x46 false (za (zr .gtr x49 (Value.int .i64 10000)))) fun x50 =>
 zb (za (zy x46 (Value.bool true) x50)) fun x51 =>
 zn x51 (
 ret (.ret [(Value.int .i64 270)])
 ) (
 ret (.nxt [(zc v3 0)])
 )
 ) fun o=>nx o z49
def z5a (v2:List V):M Out :=
 zb (
 zb (za (ze 3 (zc v2 0))) fun x33 =>
 zb (ldn 2 x33) fun x34 =>
 zb (za (ze 5 (zc v2 0))) fun x35 =>
 zb (zz x35) fun x36 =>
 zb (za (zt x36)) fun x37 =>
 zb (zte [x34,x37]) fun x38 =>
 zb (za (ext 0 x38)) fun x39 =>
 zb (za (ext 1 x38)) fun x40 =>
 zb (za (zr .neq x40 (Value.int .i64 0))) fun x42 =>
 zn x42 (
 ret (.ret [x40])
 ) (
 ret (.nxt [(zc v2 0)])
 )
 ) fun o=>nx o zo8
def z5b (vs:List V):M Out :=
 zb (
 zb (za (ze 2 (zc vs 0))) fun x24 =>
 zb (zz x24) fun x25 =>
 zb (zk9 [x25]) fun x26 =>
 zb (za (ext 0 x26)) fun x27 =>
 zb (za (ext 1 x26)) fun x28 =>
 zb (za (zr .neq x28 (Value.int .i64 0))) fun x30 =>
 zn x30 (
 ret (.ret [x28])
 ) (
 ret (.nxt [(zc vs 0)])
 )
 ) fun o=>nx o z5a
def z02 (x0:V):M V :=
 zb (
 zb (zdf x0) fun x1 =>
 zb (
 zb (za (ze 0 x1)) fun x13 =>
 zb (zz x13) fun x14 =>
 zb (za (ze 1 x1)) fun x15 =>
 zb (zz x15) fun x16 =>
 zb (zk8 [x14,x16]) fun x17 =>
 zb (za (ext 0 x17)) fun x18 =>
 zb (za (ext 1 x17)) fun x19 =>
 zb (za (zr .neq x19 (Value.int .i64 0))) fun x21 =>
 zn x21 (
 ret (.ret [x19])
 ) (
 ret (.nxt [x1])
 )
 ) fun o=>nx o z5b
 ) fun o=>zbg o fun vs=>ret (zbe [(zc vs 0)])
def zblz:Hint:=(.seq [] .leaf (.seq [1] (.seq [] .leaf (.seq [] .leaf (.cond (.seq [] .leaf .leaf) .leaf))) (.seq [1] (.seq [] .leaf (.seq [] .leaf (.cond (.seq [] .leaf .leaf) .leaf))) (.seq [1] (.seq [] .leaf (.seq [] .leaf (.cond (.seq [] .leaf .leaf) .leaf))) (.seq [1] (.seq [] .leaf (.cond (.seq [] .leaf .leaf) .leaf)) (.seq [1] (.seq [] .leaf (.blk (.loop [1,9] (.seq [1,9] (.seq [] .leaf (.cond .leaf .leaf)) (.seq [1,9] (.blk (.seq [] (.reg [0,2,6,1,3,4,5,7,8,9] []) (.cond (.seq [] .leaf .leaf) .leaf))) .leaf))))) (.seq [1] (.seq [] .leaf (.blk (.loop [1,10] (.seq [1,10] (.seq [] .leaf (.cond .leaf .leaf)) (.seq [1,10] (.blk (.seq [] (.reg [0,2,6,1,3,4,5,7,8,9,10,11,13,17,12,14,15,16,18,19,20,21] []) (.cond (.seq [] .leaf .leaf) .leaf))) .leaf))))) (.seq [] (.seq [] .leaf (.blk (.loop [1,11] (.seq [1,11] (.seq [] .leaf (.cond .leaf .leaf)) (.seq [1,11] (.blk (.seq [] (.reg [1,2,4,0,3,5,6,7,8,9,10,12,13,15,11,14,16,17,18,19,20,21] []) (.cond (.seq [] .leaf .leaf) .leaf))) .leaf))))) (.seq [] .leaf .leaf)))))))))
def ztf:List V→M V:=ap1 z02
def zbl0:zv:=ovr [(zul,zk8),(zum,zk9),(z4n,zte),(z4o,zoz)] noC
theorem zbl1:zu Tryz.prog z4i (ztf):=kn1 (σ:=zbl0) (hint:=zblz) (by kernel_rfl) (zj zbbx (zj zbby (zj zblv (zj zbly zk)))) fun _=>(by kernel_rfl)
def zbfa (vs:List V):M Out :=
 zw3 5 fun base h0 =>
 zb (za (zt (zc vs 0))) fun x24 =>
 zb (za (zt (zc vs 0))) fun x27 =>
 zb (za (zt (zc vs 0))) fun x30 =>
 zb (flt (base + 0) (zcz 2 0 (rep 0 [Value.int .i64 0,Value.bool false]) [])) fun x17 =>
 zb4 (zc4 2 16 x17 (zc vs 0)) fun ha x19 h1 =>
 zfi (zeo ha [base + 1,base + 2,base + 3,base + 4] && zeo h1 [base + 1,base + 2,base + 3,base + 4]) <|
 zb (flt (base + 1) (zcz 3 0 (rep 0 [Value.int .i64 0,Value.int .i64 0,Value.bool false]) [])) fun x20 =>
 zb4 (zc4 3 24 x20 (zc vs 1)) fun ha_2 x22 h2 =>
 zfi (zeo ha_2 [base + 2,base + 3,base + 4] && zeo h2 [base + 2,base + 3,base + 4]) <|
 zb (flt (base + 2) (zu0 1 8 [Value.int .i64 0] x24 x24)) fun x25 =>
 zb (flt (base + 3) (zu0 1 1 [Value.bool false] x27 x27)) fun x28 =>
 zb (flt (base + 4) (zu0 1 8 [Value.int .i64 0] x30 x30)) fun x31 =>
 zb (za (build [Value.slice none 0 0,Value.slice none 0 0,Value.slice none 0 0,Value.slice none 0 0,Value.slice none 0 0,Value.slice none 0 0] [(0,1,x19),(1,1,x22),(2,1,x25),(3,1,x28),(4,1,x31)])) fun x32 =>
 zb4 (zdf x32) fun ha_3 x33 h3 =>
 ret (.ret [x33,(Value.int .i64 0)])
def z8d (x0 x1:V):M V :=
 zb (
 zb (
 zb (zk8 [x0,x1]) fun x11 =>
 zb (za (ext 0 x11)) fun x12 =>
 zb (za (ext 1 x11)) fun x13 =>
 zb (za (zr .neq x13 (Value.int .i64 0))) fun x15 =>
 zn x15 (
 ret (.ret [(Value.pointer none),x13])
 ) (
 ret (.nxt [x0,x1])
 )
 ) fun o=>nx o zbfa
 ) fun o=>zbg o fun vs=>ret (zbe [(zc vs 0),(zc vs 1)])
def zbr0:Hint:=(.seq [] .leaf (.seq [0,1] (.seq [] .leaf (.seq [] .leaf (.cond (.seq [] .leaf .leaf) .leaf))) (.seq [] (.reg [1,4,6,7,9,10,12,13,0,2,3,5,8,11,14,15,16,17,18] [0,3,8,11,14]) .leaf)))
def zzn:List V→M V:=ap2 z8d
def zbr1:zv:=ovr [(zul,zk8)] noC
theorem zbr2:zu Tryz.prog zbao (zzn):=kn2 (σ:=zbr1) (hint:=zbr0) (by kernel_rfl) (zj zbbx zk) fun _ _=>(by kernel_rfl)
def zbfb (vs:List V):M Out :=
 zw3 2 fun base h0 =>
 zb (za (zt (zc vs 0))) fun x18 =>
 zb (flt (base + 0) (zcz 5 0 (rep 0 [Value.int .i64 0,Value.int .i64 0,Value.int .i64 0,Value.int .i64 0,Value.int .i64 0]) [])) fun x14 =>
 zb4 (zc4 5 40 x14 (zc vs 0)) fun ha x16 h1 =>
 zfi (zeo ha [base + 1] && zeo h1 [base + 1]) <|
 zb (flt (base + 1) (zu0 4 64 [Value.slice none 0 0,Value.slice none 0 0,Value.int .i64 0,Value.int .i64 0] x18 x18)) fun x19 =>
 zb (za (build [Value.slice none 0 0,Value.slice none 0 0] [(0,1,x16),(1,1,x19)])) fun x20 =>
 zb4 (zdf x20) fun ha_2 x21 h2 =>
 ret (.ret [x21,(Value.int .i64 0)])
def z8e (x0:V):M V :=
 zb (
 zb (
 zb (zk9 [x0]) fun x8 =>
 zb (za (ext 0 x8)) fun x9 =>
 zb (za (ext 1 x8)) fun x10 =>
 zb (za (zr .neq x10 (Value.int .i64 0))) fun x12 =>
 zn x12 (
 ret (.ret [(Value.pointer none),x10])
 ) (
 ret (.nxt [x0])
 )
 ) fun o=>nx o zbfb
 ) fun o=>zbg o fun vs=>ret (zbe [(zc vs 0),(zc vs 1)])
def zbr3:Hint:=(.seq [] .leaf (.seq [0] (.seq [] .leaf (.seq [] .leaf (.cond (.seq [] .leaf .leaf) .leaf))) (.seq [] (.reg [1,3,4,0,2,5,6,7,8,9] [0,5]) .leaf)))
def zzo:List V→M V:=ap1 z8e
def zbr4:zv:=ovr [(zum,zk9)] noC
theorem zbr5:zu Tryz.prog zbap (zzo):=kn1 (σ:=zbr4) (hint:=zbr3) (by kernel_rfl) (zj zbby zk) fun _=>(by kernel_rfl)
def zyh (v3:List V):M Out :=
 zb (za (zr .add (zc v3 3) (Value.int .i64 1))) fun x12 =>
 ret (.nxt [(zc v3 0),(zc v3 1),(zc v3 2),x12])
def zyi (v2:List V):M Out :=
 zb (
 zb (
 zb (za (zq 2 (zc v2 0) (zc v2 3))) fun x15 =>
 zb (za (ze 0 x15)) fun x16 =>
 zb (zz x16) fun x17 =>
 zb (za (zr .eql x17 (Value.int .i64 2))) fun x18 =>
 zn x18 (
 zb (za (ze 2 (zc v2 1))) fun x20 =>
 zb (za (zq 2 (zc v2 0) (zc v2 3))) fun x24 =>
 zb (za (ze 1 x24)) fun x25 =>
 zb (zz x20) fun x21 =>
 zb (zz x25) fun x26 =>
 zb (za (zq 5 x21 x26)) fun x27 =>
 zb (za (ze 3 x27)) fun x28 =>
 zb (zz x28) fun x29 =>
 zb (zcz 1 1 (rep 1 [Value.int .i64 0]) [(0,1,x29)]) fun x30 =>
 zb (zc4 1 8 (zc v2 2) x30) fun x31 =>
 ret (.nxt [(zc v2 0),(zc v2 1),x31,(zc v2 3)])
 ) (
 zb (za (ze 0 (zc v2 1))) fun x33 =>
 zb (za (zq 2 (zc v2 0) (zc v2 3))) fun x37 =>
 zb (za (ze 1 x37)) fun x38 =>
 zb (zz x33) fun x34 =>
 zb (zz x38) fun x39 =>
 zb (za (zq 2 x34 x39)) fun x40 =>
 zb (za (ze 0 x40)) fun x41 =>
 zb (zz x41) fun x42 =>
 zb (zcz 1 1 (rep 1 [Value.int .i64 0]) [(0,1,x42)]) fun x43 =>
 zb (zc4 1 8 (zc v2 2) x43) fun x44 =>
 ret (.nxt [(zc v2 0),(zc v2 1),x44,(zc v2 3)])
 )
 ) fun o=>ret (zw 1 o)
 ) fun o=>nx o zyh
def zrq (vs:List V):M Out :=
 zb (
 zb (za (zt (zc vs 0))) fun x9 =>
 zb (za (zr .lss (zc vs 3) x9)) fun x10 =>
 zn x10 (
 ret (.nxt [(zc vs 0),(zc vs 1),(zc vs 2),(zc vs 3)])
 ) (
 ret (.brk 0 [(zc vs 2)])
 )
 ) fun o=>nx o zyi
def z8f (v4:List V):M Out :=
 ret (.ret [(zc v4 0)])
def z03 (x0 x1:V):M V :=
 zb (
 zb (zdf x0) fun x2 =>
 zb (
 zb (
 zbf zbs zrq [x1,x2,(Value.slice none 0 0),(Value.int .i64 0)]
 ) fun o=>ret (zw 0 o)
 ) fun o=>nx o z8f
 ) fun o=>zbg o fun vs=>ret (zbe [(zc vs 0)])
def zbl2:Hint:=(.seq [] .leaf (.seq [] .leaf (.seq [5] (.seq [] .leaf (.blk (.loop [1,2,5,6] (.seq [1,2,5,6] (.seq [] .leaf (.cond .leaf .leaf)) (.seq [1,2,5,6] (.blk (.seq [] .leaf (.cond (.reg [0,1,3,4,5,6,2,7,8,9,10,11,12,13] []) (.reg [0,1,3,4,5,6,2,7,8,9,10,11,12,13] [])))) .leaf))))) (.seq [] .leaf .leaf))))
def zo0:List V→M V:=ap2 z03
theorem zbl3:zu Tryz.prog z4j (zo0):=kn2 (σ:=ovr [] noC) (hint:=zbl2) (by kernel_rfl) zk fun _ _=>(by kernel_rfl)
def zbfc (v4:List V):M Out :=
 zb (za (zr .add (zc v4 3) (Value.int .i64 1))) fun x26 =>
 ret (.nxt [(zc v4 0),(zc v4 1),(zc v4 2),x26])
def zbfd (v3:List V):M Out :=
 zb (
 zb (
 zb (za (zq 1 (zc v3 2) (zc v3 3))) fun x29 =>
 zb (zz x29) fun x30 =>
 zb (za (zr .lss x30 (Value.int .i64 1))) fun x31 =>
 zb (gd x31 false (za (some (zc v3 2)))) fun x33 =>
 zb (gd x31 false (za (some (zc v3 3)))) fun x34 =>
 zb (gd x31 false (za (zq 1 x33 x34))) fun x35 =>
 zb (gd x31 false (zz x35)) fun x36 =>
 zb (gd x31 false (za (zr .gtr x36 (Value.int .i64 3)))) fun x37 =>
 zb (za (zy x31 (Value.bool true) x37)) fun x38 =>
 zn x38 (
 ret (.ret [(Value.pointer none),(Value.int .i64 40)])
 ) (
 ret (.nxt [(zc v3 0),(zc v3 1),(zc v3 2),(zc v3 3)])
 )
 ) fun o=>ret (zw 1 o)
 ) fun o=>nx o zbfc
def z3t (v2:List V):M Out :=
 zb (
 zb (za (zt (zc v2 2))) fun x23 =>
 zb (za (zr .lss (zc v2 3) x23)) fun x24 =>
 zn x24 (
 ret (.nxt [(zc v2 0),(zc v2 1),(zc v2 2),(zc v2 3)])
 ) (
 ret (.brk 0 [(zc v2 0),(zc v2 1)])
 )
 ) fun o=>nx o zbfd
def zbfe (v5:List V):M Out :=
 zb (zcz 1 0 (rep 0 [Value.int .i64 0]) []) fun x39 =>
 zb (zc4 1 8 x39 (zc v5 0)) fun x41 =>
 zb (zcz 1 0 (rep 0 [Value.int .i64 0]) []) fun x42 =>
 zb (zc4 1 8 x42 (zc v5 1)) fun x44 =>
 zb (za (build [Value.slice none 0 0,Value.slice none 0 0,Value.string ⟨#[]⟩,Value.slice none 0 0,Value.slice none 0 0,Value.slice none 0 0,Value.slice none 0 0,Value.slice none 0 0,Value.slice none 0 0,Value.int .i64 0,Value.int .i64 0,Value.int .i64 0,Value.int .i64 0] [(0,1,x41),(1,1,x44)])) fun x45 =>
 zb (zdf x45) fun x46 =>
 ret (.ret [x46,(Value.int .i64 0)])
def zbff (vs:List V):M Out :=
 zb (zcz 1 0 (rep 0 [Value.int .i64 0]) []) fun x16 =>
 zb (zc4 1 8 x16 (zc vs 0)) fun x18 =>
 zb (zc4 1 8 x18 (zc vs 1)) fun x20 =>
 zb (
 zb (
 zbf zbs z3t [(zc vs 0),(zc vs 1),x20,(Value.int .i64 0)]
 ) fun o=>ret (zw 0 o)
 ) fun o=>nx o zbfe
def z8g (x0 x1:V):M V :=
 zb (
 zb (
 zb (za (zt x0)) fun x9 =>
 zb (za (zr .gtr x9 (Value.int .i64 32))) fun x10 =>
 zb (gd x10 false (za (some x1))) fun x12 =>
 zb (gd x10 false (za (zt x12))) fun x13 =>
 zb (gd x10 false (za (zr .gtr x13 (Value.int .i64 32)))) fun x14 =>
 zb (za (zy x10 (Value.bool true) x14)) fun x15 =>
 zn x15 (
 ret (.ret [(Value.pointer none),(Value.int .i64 2)])
 ) (
 ret (.nxt [x0,x1])
 )
 ) fun o=>nx o zbff
 ) fun o=>zbg o fun vs=>ret (zbe [(zc vs 0),(zc vs 1)])
def zbr6:Hint:=(.seq [] .leaf (.seq [0,1] (.seq [] .leaf (.cond (.seq [] .leaf .leaf) .leaf)) (.seq [] .leaf (.seq [0,1] (.seq [] .leaf (.blk (.loop [0,1,6,7] (.seq [0,1,6,7] (.seq [] .leaf (.cond .leaf .leaf)) (.seq [0,1,6,7] (.blk (.seq [] .leaf (.cond (.seq [] .leaf .leaf) .leaf))) .leaf))))) (.seq [] .leaf .leaf)))))
def zzp:List V→M V:=ap2 z8g
theorem zbr7:zu Tryz.prog zbaq (zzp):=kn2 (σ:=ovr [] noC) (hint:=zbr6) (by kernel_rfl) zk fun _ _=>(by kernel_rfl)
def zbfg (v4:List V):M Out :=
 zb (za (zr .add (zc v4 2) (Value.int .i64 1))) fun x43 =>
 ret (.nxt [(zc v4 0),(zc v4 1),x43])
def zbfh (v3:List V):M Out :=
 zb (
 zb (
 zhc fun h0 =>
 zb (za (ze 5 (zc v3 0))) fun x46 =>
 zb (za (ze 5 (zc v3 0))) fun x54 =>
 zb (ldn 7 (zc v3 0)) fun x45 =>
 zb (zz x46) fun x47 =>
 zb (za (zq 2 x47 (zc v3 2))) fun x49 =>
 zb (za (ze 0 x49)) fun x50 =>
 zb (zz x50) fun x51 =>
 zb (ldn 7 (zc v3 0)) fun x53 =>
 zb (zz x54) fun x55 =>
 zb (za (zq 2 x55 (zc v3 2))) fun x57 =>
 zb (za (ze 1 x57)) fun x58 =>
 zb (zz x58) fun x59 =>
 zb4 (zo0 [x45,x51]) fun ha x52 h1 =>
 zb4 (zo0 [x53,x59]) fun ha_2 x60 h2 =>
 zb4 (zzp [x52,x60]) fun ha_3 x61 h3 =>
 zb (za (ext 0 x61)) fun x62 =>
 zb (za (ext 1 x61)) fun x63 =>
 zfi (chk (ldn 7 (zc v3 0)) h1 x53) <|
 zfi (chk (zz x54) h1 x55) <|
 zfi (chk (zz x58) h1 x59) <|
 zb (za (zbo (zc v3 1))) fun x66 =>
 zb (za (ze 9 x66)) fun x67 =>
 zb (zz x67) fun x68 =>
 zb (zcz 1 1 (rep 1 [Value.pointer none]) [(0,1,x62)]) fun x70 =>
 zb (zc4 1 8 x68 x70) fun x71 =>
 zb (za (zbo (zc v3 1))) fun x72 =>
 zb (za (ze 9 x72)) fun x73 =>
 zb (st1 x73 x71) fun _ =>
 ret (.nxt [(zc v3 0),(zc v3 1),(zc v3 2)])
 ) fun o=>ret (zw 1 o)
 ) fun o=>nx o zbfg
def z3u (v2:List V):M Out :=
 zb (
 zb (za (ze 5 (zc v2 0))) fun x38 =>
 zb (zz x38) fun x39 =>
 zb (za (zt x39)) fun x40 =>
 zb (za (zr .lss (zc v2 2) x40)) fun x41 =>
 zn x41 (
 ret (.nxt [(zc v2 0),(zc v2 1),(zc v2 2)])
 ) (
 ret (.brk 0 [(zc v2 1)])
 )
 ) fun o=>nx o zbfh
def zbfi (v5:List V):M Out :=
 ret (.ret [(zc v5 0),(Value.int .i64 0)])
def zbfj (vs:List V):M Out :=
 zb (ldn 7 (zc vs 0)) fun x14 =>
 zb (za (build [Value.slice none 0 0,Value.slice none 0 0,Value.slice none 0 0,Value.int .i64 0,Value.slice none 0 0,Value.slice none 0 0,Value.int .i64 0,Value.pointer none,Value.pointer none,Value.slice none 0 0,Value.int .i64 0] [(0,7,x14)])) fun x15 =>
 zb (zdf x15) fun x16 =>
 zb (za (ze 0 (zc vs 0))) fun x19 =>
 zb (zz x19) fun x20 =>
 zb (za (ze 1 (zc vs 0))) fun x21 =>
 zb (zz x21) fun x22 =>
 zb (zzn [x20,x22]) fun x23 =>
 zb (za (ext 0 x23)) fun x24 =>
 zb (za (ext 1 x23)) fun x25 =>
 zb (za (zbo x16)) fun x26 =>
 zb (za (ze 7 x26)) fun x27 =>
 zb (st1 x27 x24) fun _ =>
 zb (za (ze 2 (zc vs 0))) fun x30 =>
 zb (zz x30) fun x31 =>
 zb (zzo [x31]) fun x32 =>
 zb (za (ext 0 x32)) fun x33 =>
 zb (za (ext 1 x32)) fun x34 =>
 zb (za (zbo x16)) fun x35 =>
 zb (za (ze 8 x35)) fun x36 =>
 zb (st1 x36 x33) fun _ =>
 zb (
 zb (
 zbf zbs z3u [(zc vs 0),x16,(Value.int .i64 0)]
 ) fun o=>ret (zw 0 o)
 ) fun o=>nx o zbfi
def z8h (x0:V):M V :=
 zb (
 zb (zdf x0) fun x1 =>
 zb (
 zb (ldn 7 x1) fun x9 =>
 zb (ztf [x9]) fun x10 =>
 zb (za (zr .neq x10 (Value.int .i64 0))) fun x12 =>
 zn x12 (
 ret (.ret [(Value.pointer none),x10])
 ) (
 ret (.nxt [x1])
 )
 ) fun o=>nx o zbfj
 ) fun o=>zbg o fun vs=>ret (zbe [(zc vs 0),(zc vs 1)])
def zbr8:Hint:=(.seq [] .leaf (.seq [1] (.seq [] .leaf (.seq [] .leaf (.cond (.seq [] .leaf .leaf) .leaf))) (.seq [] .leaf (.seq [] .leaf (.seq [] .leaf (.seq [5] (.seq [] .leaf (.blk (.loop [1,5,6] (.seq [1,5,6] (.seq [] .leaf (.cond .leaf .leaf)) (.seq [1,5,6] (.blk (.seq [] (.reg [1,3,9,11,0,2,4,5,6,8,10,12,13,14,7,15,16,17,18,19,20,21] []) .leaf)) .leaf))))) (.seq [] .leaf .leaf)))))))
def zzq:List V→M V:=ap1 z8h
def zbr9:zv:=ovr [(z4i,ztf),(zbao,zzn),(zbap,zzo),(z4j,zo0),(zbaq,zzp)] noC
theorem zbsa:zu Tryz.prog zbak (zzq):=kn1 (σ:=zbr9) (hint:=zbr8) (by kernel_rfl) (zj zbl1 (zj zbr2 (zj zbr5 (zj zbl3 (zj zbr7 zk))))) fun _=>(by kernel_rfl)
def zyj (v4:List V):M Out :=
 zb (za (zr .add (zc v4 1) (Value.int .i64 1))) fun x16 =>
 ret (.nxt [(zc v4 0),x16])
def zj0 (v3:List V):M Out :=
 zb (
 zb (
 zb (za (zj3 (zc v3 0) (zc v3 1))) fun x19 =>
 zb (za (zr .geq x19 (Value.int .u8 97))) fun x20 =>
 zb (gd x20 true (za (some (zc v3 0)))) fun x22 =>
 zb (gd x20 true (za (some (zc v3 1)))) fun x23 =>
 zb (gd x20 true (za (zj3 x22 x23))) fun x24 =>
 zb (gd x20 true (za (zr .leq x24 (Value.int .u8 122)))) fun x25 =>
 zb (za (zy x20 x25 (Value.bool false))) fun x26 =>
 zb (gd x26 false (za (some (zc v3 0)))) fun x28 =>
 zb (gd x26 false (za (some (zc v3 1)))) fun x29 =>
 zb (gd x26 false (za (zj3 x28 x29))) fun x30 =>
 zb (gd x26 false (za (zr .geq x30 (Value.int .u8 48)))) fun x31 =>
 zb (gd x26 false (za (some x31))) fun x32 =>
 zb (gd x32 true (za (some (zc v3 0)))) fun x33 =>
 zb (gd x32 true (za (some (zc v3 1)))) fun x34 =>
 zb (gd x32 true (za (zj3 x33 x34))) fun x35 =>
 zb (gd x32 true (za (zr .leq x35 (Value.int .u8 57)))) fun x36 =>
 zb (gd x26 false (za (zy x32 x36 (Value.bool false)))) fun x37 =>
 zb (za (zy x26 (Value.bool true) x37)) fun x38 =>
 zb (za (un .not x38)) fun x39 =>
 zn x39 (
 ret (.ret [(Value.bool false)])
 ) (
 ret (.nxt [(zc v3 0),(zc v3 1)])
 )
 ) fun o=>ret (zw 1 o)
 ) fun o=>nx o zyj
def zhy (v2:List V):M Out :=
 zb (
 zb (za (zc0 (zc v2 0))) fun x13 =>
 zb (za (zr .lss (zc v2 1) x13)) fun x14 =>
 zn x14 (
 ret (.nxt [(zc v2 0),(zc v2 1)])
 ) (
 ret (.brk 0 [])
 )
 ) fun o=>nx o zj0
def z8i (v5:List V):M Out :=
 ret (.ret [(Value.bool true)])
def z8j (vs:List V):M Out :=
 zb (
 zb (
 zbf zbs zhy [(zc vs 0),(Value.int .i64 0)]
 ) fun o=>ret (zw 0 o)
 ) fun o=>nx o z8i
def zo1 (x0:V):M V :=
 zb (
 zb (
 zb (za (zr .eql x0 (Value.string ⟨#[]⟩))) fun x5 =>
 zb (gd x5 false (za (some x0))) fun x7 =>
 zb (gd x5 false (za (zc0 x7))) fun x8 =>
 zb (gd x5 false (za (zr .gtr x8 (Value.int .i64 24)))) fun x9 =>
 zb (za (zy x5 (Value.bool true) x9)) fun x10 =>
 zn x10 (
 ret (.ret [(Value.bool false)])
 ) (
 ret (.nxt [x0])
 )
 ) fun o=>nx o z8j
 ) fun o=>zbg o fun vs=>ret (zbe [(zc vs 0)])
def zbl4:Hint:=(.seq [] .leaf (.seq [0] (.seq [] .leaf (.cond (.seq [] .leaf .leaf) .leaf)) (.seq [] (.seq [] .leaf (.blk (.loop [0,3] (.seq [0,3] (.seq [] .leaf (.cond .leaf .leaf)) (.seq [0,3] (.blk (.seq [] .leaf (.cond (.seq [] .leaf .leaf) .leaf))) .leaf))))) (.seq [] .leaf .leaf))))
def ztg:List V→M V:=ap1 zo1
theorem zbl5:zu Tryz.prog z4q (ztg):=kn1 (σ:=ovr [] noC) (hint:=zbl4) (by kernel_rfl) zk fun _=>(by kernel_rfl)
def zbbz (v4:List V):M Out :=
 zb (za (zr .add (zc v4 4) (Value.int .i64 1))) fun x37 =>
 ret (.nxt [(zc v4 0),(zc v4 1),(zc v4 2),(zc v4 3),x37])
def z04 (v3:List V):M Out :=
 zb (
 zb (
 zb (za (zq 3 (zc v3 0) (zc v3 4))) fun x40 =>
 zb (za (ze 0 x40)) fun x41 =>
 zb (za (ze 0 (zc v3 3))) fun x43 =>
 zb (zz x41) fun x42 =>
 zb (zz x43) fun x44 =>
 zb (za (zr .eql x42 x44)) fun x45 =>
 zn x45 (
 ret (.ret [(Value.int .i64 6)])
 ) (
 ret (.nxt [(zc v3 0),(zc v3 1),(zc v3 2),(zc v3 3),(zc v3 4)])
 )
 ) fun o=>ret (zw 1 o)
 ) fun o=>nx o zbbz
def zth (v2:List V):M Out :=
 zb (
 zb (za (zr .lss (zc v2 4) (zc v2 1))) fun x35 =>
 zn x35 (
 ret (.nxt [(zc v2 0),(zc v2 1),(zc v2 2),(zc v2 3),(zc v2 4)])
 ) (
 ret (.brk 0 [(zc v2 2),(zc v2 3)])
 )
 ) fun o=>nx o z04
def zbb0 (v8:List V):M Out :=
 zb (za (zr .add (zc v8 2) (Value.int .i64 1))) fun x52 =>
 ret (.nxt [(zc v8 0),(zc v8 1),x52])
def zla (v7:List V):M Out :=
 zb (
 zb (
 zb (za (ze 2 (zc v7 1))) fun x53 =>
 zb (zz x53) fun x54 =>
 zb (za (zq 2 x54 (zc v7 2))) fun x56 =>
 zb (ldn 2 x56) fun x57 =>
 zb (newc [Value.int .i64 0,Value.int .i64 0]) fun x10 =>
 zb (stn 2 x10 x57) fun _ =>
 zb (za (ze 0 x10)) fun x58 =>
 zb (zz x58) fun x59 =>
 zb (za (zr .lss x59 (Value.int .i64 0))) fun x60 =>
 zb (gd x60 false (za (ze 0 x10))) fun x62 =>
 zb (gd x60 false (zz x62)) fun x63 =>
 zb (gd x60 false (za (some (zc v7 0)))) fun x64 =>
 zb (gd x60 false (za (zr .geq x63 x64))) fun x65 =>
 zb (za (zy x60 (Value.bool true) x65)) fun x66 =>
 zb (gd x66 false (za (ze 1 x10))) fun x68 =>
 zb (gd x66 false (zz x68)) fun x69 =>
 zb (gd x66 false (za (zr .lss x69 (Value.int .i64 1)))) fun x70 =>
 zb (za (zy x66 (Value.bool true) x70)) fun x71 =>
 zb (gd x71 false (za (ze 1 x10))) fun x73 =>
 zb (gd x71 false (zz x73)) fun x74 =>
 zb (gd x71 false (za (zr .gtr x74 (Value.int .i64 4)))) fun x75 =>
 zb (za (zy x71 (Value.bool true) x75)) fun x76 =>
 zn x76 (
 ret (.ret [(Value.int .i64 1)])
 ) (
 ret (.nxt [(zc v7 0),(zc v7 1),(zc v7 2)])
 )
 ) fun o=>ret (zw 3 o)
 ) fun o=>nx o zbb0
def zi0 (v6:List V):M Out :=
 zb (
 zb (za (ze 2 (zc v6 1))) fun x47 =>
 zb (zz x47) fun x48 =>
 zb (za (zt x48)) fun x49 =>
 zb (za (zr .lss (zc v6 2) x49)) fun x50 =>
 zn x50 (
 ret (.nxt [(zc v6 0),(zc v6 1),(zc v6 2)])
 ) (
 ret (.brk 2 [(zc v6 1)])
 )
 ) fun o=>nx o zla
def zbb1 (v14:List V):M Out :=
 zb (za (zr .add (zc v14 2) (Value.int .i64 1))) fun x88 =>
 ret (.nxt [(zc v14 0),(zc v14 1),x88])
def z05 (v13:List V):M Out :=
 zb (
 zb (
 zb (za (ze 2 (zc v13 0))) fun x89 =>
 zb (za (ze 2 (zc v13 0))) fun x95 =>
 zb (zz x89) fun x90 =>
 zb (za (zq 2 x90 (zc v13 2))) fun x92 =>
 zb (za (ze 0 x92)) fun x93 =>
 zb (zz x93) fun x94 =>
 zb (zz x95) fun x96 =>
 zb (za (zq 2 x96 (zc v13 1))) fun x98 =>
 zb (za (ze 0 x98)) fun x99 =>
 zb (zz x99) fun x100 =>
 zb (za (zr .eql x94 x100)) fun x101 =>
 zn x101 (
 ret (.ret [(Value.int .i64 240)])
 ) (
 ret (.nxt [(zc v13 0),(zc v13 1),(zc v13 2)])
 )
 ) fun o=>ret (zw 7 o)
 ) fun o=>nx o zbb1
def zti (v12:List V):M Out :=
 zb (
 zb (za (zr .lss (zc v12 2) (zc v12 1))) fun x86 =>
 zn x86 (
 ret (.nxt [(zc v12 0),(zc v12 1),(zc v12 2)])
 ) (
 ret (.brk 6 [(zc v12 0),(zc v12 1)])
 )
 ) fun o=>nx o z05
def zbb2 (v15:List V):M Out :=
 zb (za (zr .add (zc v15 1) (Value.int .i64 1))) fun x83 =>
 ret (.nxt [(zc v15 0),x83])
def z8k (v11:List V):M Out :=
 zb (
 zb (
 zb (
 zbf zbs zti [(zc v11 0),(zc v11 1),(Value.int .i64 0)]
 ) fun o=>ret (zw 6 o)
 ) fun o=>ret (zw 5 o)
 ) fun o=>nx o zbb2
def zyk (v10:List V):M Out :=
 zb (
 zb (za (ze 2 (zc v10 0))) fun x78 =>
 zb (zz x78) fun x79 =>
 zb (za (zt x79)) fun x80 =>
 zb (za (zr .lss (zc v10 1) x80)) fun x81 =>
 zn x81 (
 ret (.nxt [(zc v10 0),(zc v10 1)])
 ) (
 ret (.brk 4 [])
 )
 ) fun o=>nx o z8k
def z8l (v16:List V):M Out :=
 ret (.ret [(Value.int .i64 0)])
def z8m (v9:List V):M Out :=
 zb (
 zb (
 zbf zbs zyk [(zc v9 0),(Value.int .i64 0)]
 ) fun o=>ret (zw 4 o)
 ) fun o=>nx o z8l
def z8n (v5:List V):M Out :=
 zb (
 zb (
 zbf zbs zi0 [(zc v5 0),(zc v5 1),(Value.int .i64 0)]
 ) fun o=>ret (zw 2 o)
 ) fun o=>nx o z8m
def z8o (vs:List V):M Out :=
 zb (
 zb (
 zbf zbs zth [(zc vs 0),(zc vs 1),(zc vs 2),(zc vs 3),(Value.int .i64 0)]
 ) fun o=>ret (zw 0 o)
 ) fun o=>nx o z8n
def z3v (x0 x1 x2:V):M V :=
 zb (
 zb (za (zq 3 x0 x1)) fun x15 =>
 zb (ldn 3 x15) fun x16 =>
 zb (newc [Value.string ⟨#[]⟩,Value.string ⟨#[]⟩,Value.slice none 0 0]) fun x7 =>
 zb (stn 3 x7 x16) fun _ =>
 zb (
 zb (za (ze 0 x7)) fun x17 =>
 zb (zz x17) fun x18 =>
 zb (ztg [x18]) fun x19 =>
 zb (za (un .not x19)) fun x20 =>
 zb (gd x20 false (za (ze 1 x7))) fun x22 =>
 zb (gd x20 false (zz x22)) fun x23 =>
 zb (gd x20 false (za (zc0 x23))) fun x24 =>
 zb (gd x20 false (za (zr .lss x24 (Value.int .i64 16)))) fun x25 =>
 zb (za (zy x20 (Value.bool true) x25)) fun x26 =>
 zb (gd x26 false (za (ze 1 x7))) fun x28 =>
 zb (gd x26 false (zz x28)) fun x29 =>
 zb (gd x26 false (za (zc0 x29))) fun x30 =>
 zb (gd x26 false (za (zr .gtr x30 (Value.int .i64 64)))) fun x31 =>
 zb (za (zy x26 (Value.bool true) x31)) fun x32 =>
 zn x32 (
 ret (.ret [(Value.int .i64 3)])
 ) (
 ret (.nxt [x0,x1,x2,x7])
 )
 ) fun o=>nx o z8o
 ) fun o=>zbg o fun vs=>ret (zbe [(zc vs 0)])
def zbpd:Hint:=(.seq [] .leaf (.seq [] .leaf (.seq [0,1,2,7] (.seq [] .leaf (.cond (.seq [] .leaf .leaf) .leaf)) (.seq [2,7] (.seq [] .leaf (.blk (.loop [0,1,2,7,8] (.seq [0,1,2,7,8] (.seq [] .leaf (.cond .leaf .leaf)) (.seq [0,1,2,7,8] (.blk (.seq [] (.reg [0,1,2,3,5,4,6,7] []) (.cond (.seq [] .leaf .leaf) .leaf))) .leaf))))) (.seq [7] (.seq [] .leaf (.blk (.loop [2,7,9] (.seq [2,7,9] (.seq [] .leaf (.cond .leaf .leaf)) (.seq [2,7,9] (.blk (.seq [] .leaf (.seq [] .leaf (.cond (.seq [] .leaf .leaf) .leaf)))) .leaf))))) (.seq [] (.seq [] .leaf (.blk (.loop [7,11] (.seq [7,11] (.seq [] .leaf (.cond .leaf .leaf)) (.seq [7,11] (.blk (.seq [] .leaf (.blk (.loop [7,11,12] (.seq [7,11,12] (.seq [] .leaf (.cond .leaf .leaf)) (.seq [7,11,12] (.blk (.seq [] (.reg [0,2,6,8,1,3,4,5,7,9,10,11,12] []) (.cond (.seq [] .leaf .leaf) .leaf))) .leaf)))))) .leaf))))) (.seq [] .leaf .leaf)))))))
def zv8:List V→M V:=ap3 z3v
def zbpe:zv:=ovr [(z4q,ztg)] noC
theorem zbpf:zu Tryz.prog z6f (zv8):=kn3 (σ:=zbpe) (hint:=zbpd) (by kernel_rfl) (zj zbl5 zk) fun _ _ _=>(by kernel_rfl)
def z8p (v5:List V):M Out :=
 zb (za (zr .add (zc v5 2) (Value.int .i64 1))) fun x22 =>
 ret (.nxt [(zc v5 0),(zc v5 1),x22])
def z8q (v4:List V):M Out :=
 zb (
 zb (
 zb (zv8 [(zc v4 0),(zc v4 2),(zc v4 1)]) fun x26 =>
 zb (za (zr .neq x26 (Value.int .i64 0))) fun x28 =>
 zn x28 (
 ret (.ret [(zc v4 2),x26])
 ) (
 ret (.nxt [(zc v4 0),(zc v4 1),(zc v4 2)])
 )
 ) fun o=>ret (zw 1 o)
 ) fun o=>nx o z8p
def zyl (v3:List V):M Out :=
 zb (
 zb (za (zt (zc v3 0))) fun x19 =>
 zb (za (zr .lss (zc v3 2) x19)) fun x20 =>
 zn x20 (
 ret (.nxt [(zc v3 0),(zc v3 1),(zc v3 2)])
 ) (
 ret (.brk 0 [])
 )
 ) fun o=>nx o z8q
def z8r (v6:List V):M Out :=
 ret (.ret [(Value.int .i64 0),(Value.int .i64 0)])
def z8s (v2:List V):M Out :=
 zb (
 zb (
 zbf zbs zyl [(zc v2 0),(zc v2 1),(Value.int .i64 0)]
 ) fun o=>ret (zw 0 o)
 ) fun o=>nx o z8r
def zym (vs:List V):M Out :=
 zb (
 zb (za (zt (zc vs 0))) fun x15 =>
 zb (za (zr .gtr x15 (Value.int .i64 8))) fun x16 =>
 zn x16 (
 ret (.ret [(Value.int .i64 (-1)),(Value.int .i64 2)])
 ) (
 ret (.nxt [(zc vs 0),(zc vs 1)])
 )
 ) fun o=>nx o z8s
def zlb (x0 x1:V):M V :=
 zb (
 zb (
 zb (za (zr .lss x1 (Value.int .i64 1))) fun x9 =>
 zb (gd x9 false (za (some x1))) fun x11 =>
 zb (gd x9 false (za (zr .gtr x11 (Value.int .i64 8)))) fun x12 =>
 zb (za (zy x9 (Value.bool true) x12)) fun x13 =>
 zn x13 (
 ret (.ret [(Value.int .i64 (-1)),(Value.int .i64 1)])
 ) (
 ret (.nxt [x0,x1])
 )
 ) fun o=>nx o zym
 ) fun o=>zbg o fun vs=>ret (zbe [(zc vs 0),(zc vs 1)])
def zbl6:Hint:=(.seq [] .leaf (.seq [0,1] (.seq [] .leaf (.cond (.seq [] .leaf .leaf) .leaf)) (.seq [0,1] (.seq [] .leaf (.cond (.seq [] .leaf .leaf) .leaf)) (.seq [] (.seq [] .leaf (.blk (.loop [0,1,6] (.seq [0,1,6] (.seq [] .leaf (.cond .leaf .leaf)) (.seq [0,1,6] (.blk (.seq [] .leaf (.seq [] .leaf (.cond (.seq [] .leaf .leaf) .leaf)))) .leaf))))) (.seq [] .leaf .leaf)))))
def ztj:List V→M V:=ap2 zlb
def zbl7:zv:=ovr [(z6f,zv8)] noC
theorem zbl8:zu Tryz.prog z4k (ztj):=kn2 (σ:=zbl7) (hint:=zbl6) (by kernel_rfl) (zj zbpf zk) fun _ _=>(by kernel_rfl)
def zbfk (v2:List V):M Out :=
 zb (za (build [Value.slice none 0 0,Value.int .i64 0,Value.int .i64 0,Value.slice none 0 0,Value.slice none 0 0,Value.int .i64 0,Value.int .i64 0] [(0,1,(zc v2 0)),(1,1,(zc v2 1))])) fun x27 =>
 zb (zdf x27) fun x28 =>
 ret (.ret [x28,(Value.int .i64 0)])
def zv9 (vs:List V):M Out :=
 zb (
 zb (za (zr .lss (zc vs 1) (Value.int .i64 1))) fun x20 =>
 zb (gd x20 false (za (some (zc vs 1)))) fun x22 =>
 zb (gd x20 false (za (zr .gtr x22 (Value.int .i64 100000)))) fun x23 =>
 zb (za (zy x20 (Value.bool true) x23)) fun x24 =>
 zn x24 (
 ret (.ret [(Value.pointer none),(Value.int .i64 1)])
 ) (
 ret (.nxt [(zc vs 0),(zc vs 1)])
 )
 ) fun o=>nx o zbfk
def z8t (x0 x1 x2:V):M V :=
 zb (
 zb (
 zb (ztj [x0,x1]) fun x13 =>
 zb (za (ext 0 x13)) fun x14 =>
 zb (za (ext 1 x13)) fun x15 =>
 zb (za (zr .neq x15 (Value.int .i64 0))) fun x17 =>
 zn x17 (
 ret (.ret [(Value.pointer none),x15])
 ) (
 ret (.nxt [x0,x2])
 )
 ) fun o=>nx o zv9
 ) fun o=>zbg o fun vs=>ret (zbe [(zc vs 0),(zc vs 1)])
def zbsb:Hint:=(.seq [] .leaf (.seq [0,2] (.seq [] .leaf (.seq [] .leaf (.cond (.seq [] .leaf .leaf) .leaf))) (.seq [0,2] (.seq [] .leaf (.cond (.seq [] .leaf .leaf) .leaf)) (.seq [] .leaf .leaf))))
def zzr:List V→M V:=ap3 z8t
def zbsc:zv:=ovr [(z4k,ztj)] noC
theorem zbsd:zu Tryz.prog zbal (zzr):=kn3 (σ:=zbsc) (hint:=zbsb) (by kernel_rfl) (zj zbl8 zk) fun _ _ _=>(by kernel_rfl)
def z3w (v5:List V):M Out :=
 zb (za (zr .add (zc v5 2) (Value.int .i64 1))) fun x44 =>
 ret (.nxt [(zc v5 0),(zc v5 1),x44])
def z3x (v4:List V):M Out :=
 zb (
 zb (
 zb (za (ze 3 (zc v4 0))) fun x45 =>
 zb (za (ze 1 x45)) fun x46 =>
 zb (zz x46) fun x47 =>
 zb (za (zq 3 x47 (zc v4 2))) fun x49 =>
 zb (za (ze 0 x49)) fun x50 =>
 zb (zz x50) fun x51 =>
 zb (za (zr .eql x51 (Value.int .i64 (-1)))) fun x52 =>
 zn x52 (
 zb (za (ze 3 (zc v4 0))) fun x54 =>
 zb (za (ze 1 x54)) fun x55 =>
 zb (zz x55) fun x56 =>
 zb (za (zq 3 x56 (zc v4 2))) fun x58 =>
 zb (za (ze 2 x58)) fun x59 =>
 zb (zz x59) fun x60 =>
 zb (za (zbo (zc v4 1))) fun x61 =>
 zb (za (ze 4 x61)) fun x62 =>
 zb (st1 x62 x60) fun _ =>
 ret (.nxt [(zc v4 0),(zc v4 1),(zc v4 2)])
 ) (
 ret (.nxt [(zc v4 0),(zc v4 1),(zc v4 2)])
 )
 ) fun o=>ret (zw 1 o)
 ) fun o=>nx o z3w
def zwa (v3:List V):M Out :=
 zb (
 zb (za (ze 3 (zc v3 0))) fun x38 =>
 zb (za (ze 1 x38)) fun x39 =>
 zb (zz x39) fun x40 =>
 zb (za (zt x40)) fun x41 =>
 zb (za (zr .lss (zc v3 2) x41)) fun x42 =>
 zn x42 (
 ret (.nxt [(zc v3 0),(zc v3 1),(zc v3 2)])
 ) (
 ret (.brk 0 [(zc v3 1)])
 )
 ) fun o=>nx o z3x
def zbfl (v6:List V):M Out :=
 ret (.ret [(zc v6 0),(Value.int .i64 0)])
def zbfm (v2:List V):M Out :=
 zb (za (build [Value.pointer none,Value.pointer none,Value.int .i64 0,Value.int .i64 0,Value.int .i64 0,Value.slice none 0 0] [(0,1,(zc v2 1)),(1,1,(zc v2 2))])) fun x35 =>
 zb (zdf x35) fun x36 =>
 zb (
 zb (
 zbf zbs zwa [(zc v2 0),x36,(Value.int .i64 0)]
 ) fun o=>ret (zw 0 o)
 ) fun o=>nx o zbfl
def zbfn (vs:List V):M Out :=
 zb (za (ze 5 (zc vs 2))) fun x23 =>
 zb (zz x23) fun x24 =>
 zb (za (zt x24)) fun x25 =>
 zb (zzr [(zc vs 0),x25,(zc vs 1)]) fun x27 =>
 zb (za (ext 0 x27)) fun x28 =>
 zb (za (ext 1 x27)) fun x29 =>
 zb (
 zb (za (zr .neq x29 (Value.int .i64 0))) fun x31 =>
 zn x31 (
 ret (.ret [(Value.pointer none),x29])
 ) (
 ret (.nxt [(zc vs 2),(zc vs 3),x28])
 )
 ) fun o=>nx o zbfm
def z8u (x0 x1 x2:V):M V :=
 zb (
 zb (zdf x0) fun x3 =>
 zb (ldn 7 x3) fun x14 =>
 zb (zzq [x14]) fun x15 =>
 zb (za (ext 0 x15)) fun x16 =>
 zb (za (ext 1 x15)) fun x17 =>
 zb (
 zb (za (zr .neq x17 (Value.int .i64 0))) fun x19 =>
 zn x19 (
 ret (.ret [(Value.pointer none),x17])
 ) (
 ret (.nxt [x1,x2,x3,x16])
 )
 ) fun o=>nx o zbfn
 ) fun o=>zbg o fun vs=>ret (zbe [(zc vs 0),(zc vs 1)])
def zbse:Hint:=(.seq [] .leaf (.seq [] .leaf (.seq [1,2,3,8] (.seq [] .leaf (.cond (.seq [] .leaf .leaf) .leaf)) (.seq [] .leaf (.seq [3,8,10] (.seq [] .leaf (.cond (.seq [] .leaf .leaf) .leaf)) (.seq [] .leaf (.seq [11] (.seq [] .leaf (.blk (.loop [3,11,12] (.seq [3,11,12] (.seq [] .leaf (.cond .leaf .leaf)) (.seq [3,11,12] (.blk (.seq [] .leaf (.cond .leaf .leaf))) .leaf))))) (.seq [] .leaf .leaf))))))))
def zzs:List V→M V:=ap3 z8u
def zbsf:zv:=ovr [(zbak,zzq),(zbal,zzr)] noC
theorem zbsg:zu Tryz.prog zbaj (zzs):=kn3 (σ:=zbsf) (hint:=zbse) (by kernel_rfl) (zj zbsa (zj zbsd zk)) fun _ _ _=>(by kernel_rfl)
def z8v (v4:List V):M Out :=
 zb (ldn 9 (zc v4 1)) fun x59 =>
 zb (stn 9 (zc v4 0) x59) fun _ =>
 ret (.ret [(zc v4 0),(Value.int .i64 0),(Value.int .i64 0)])
def z8w (v3:List V):M Out :=
 zb (
 zb (za (ze 0 (zc v3 1))) fun x46 =>
 zb (ldn 7 x46) fun x47 =>
 zb (za (ze 7 (zc v3 1))) fun x48 =>
 zb (zz x48) fun x49 =>
 zb (za (ze 8 (zc v3 1))) fun x50 =>
 zb (zz x50) fun x51 =>
 zb (zzs [x47,x49,x51]) fun x52 =>
 zb (za (ext 0 x52)) fun x53 =>
 zb (za (ext 1 x52)) fun x54 =>
 zb (za (zr .neq x54 (Value.int .i64 0))) fun x56 =>
 zn x56 (
 zb (za (build [Value.slice none 0 0,Value.slice none 0 0,Value.slice none 0 0,Value.int .i64 0,Value.slice none 0 0,Value.slice none 0 0,Value.int .i64 0,Value.slice none 0 0,Value.int .i64 0] [])) fun x57 =>
 zb (stn 9 (zc v3 0) x57) fun _ =>
 ret (.ret [(zc v3 0),(Value.int .i64 0),x54])
 ) (
 ret (.nxt [(zc v3 0),(zc v3 1)])
 )
 ) fun o=>nx o z8v
def zyn (v2:List V):M Out :=
 zb (zv6 [(zc v2 1)]) fun x36 =>
 zb (za (ext 0 x36)) fun x37 =>
 zb (za (ext 1 x36)) fun x38 =>
 zb (za (ext 2 x36)) fun x39 =>
 zb (newc [Value.slice none 0 0,Value.slice none 0 0,Value.slice none 0 0,Value.int .i64 0,Value.slice none 0 0,Value.slice none 0 0,Value.int .i64 0,Value.slice none 0 0,Value.int .i64 0]) fun x8 =>
 zb (stn 9 x8 x37) fun _ =>
 zb (
 zb (za (zr .neq x39 (Value.int .i64 0))) fun x41 =>
 zn x41 (
 zb (za (build [Value.slice none 0 0,Value.slice none 0 0,Value.slice none 0 0,Value.int .i64 0,Value.slice none 0 0,Value.slice none 0 0,Value.int .i64 0,Value.slice none 0 0,Value.int .i64 0] [])) fun x42 =>
 zb (stn 9 (zc v2 0) x42) fun _ =>
 ret (.ret [(zc v2 0),x38,x39])
 ) (
 ret (.nxt [(zc v2 0),x8])
 )
 ) fun o=>nx o z8w
def z8x (vs:List V):M Out :=
 zb (zs7 [(zc vs 0)]) fun x19 =>
 zb (za (ext 0 x19)) fun x20 =>
 zb (za (ext 1 x19)) fun x21 =>
 zb (
 zb (za (un .not x21)) fun x23 =>
 zn x23 (
 zb (zcz 1 0 (rep 0 [Value.string ⟨#[]⟩]) []) fun x24 =>
 zb (za (zt x20)) fun x27 =>
 zb (za (zr .sub x27 (Value.int .i64 1))) fun x28 =>
 zb (za (zgs 1 x20 none (some x28))) fun x29 =>
 zb (zc4 1 16 x24 x29) fun x30 =>
 zb (zcz 1 1 (rep 1 [Value.string ⟨#[]⟩]) [(0,1,(Value.string ⟨#[110,111,110,101]⟩))]) fun x32 =>
 zb (zc4 1 16 x30 x32) fun x33 =>
 ret (.nxt [(zc vs 1),x33])
 ) (
 ret (.nxt [(zc vs 1),x20])
 )
 ) fun o=>nx o zyn
def z06 (x0:V):M V :=
 zb (
 zb (newc [Value.slice none 0 0,Value.slice none 0 0,Value.slice none 0 0,Value.int .i64 0,Value.slice none 0 0,Value.slice none 0 0,Value.int .i64 0,Value.slice none 0 0,Value.int .i64 0]) fun x2 =>
 zb (
 zb (za (zc0 x0)) fun x14 =>
 zb (za (zr .gtr x14 (Value.int .i64 65536))) fun x15 =>
 zn x15 (
 zb (za (build [Value.slice none 0 0,Value.slice none 0 0,Value.slice none 0 0,Value.int .i64 0,Value.slice none 0 0,Value.slice none 0 0,Value.int .i64 0,Value.slice none 0 0,Value.int .i64 0] [])) fun x16 =>
 zb (stn 9 x2 x16) fun _ =>
 ret (.ret [x2,(Value.int .i64 0),(Value.int .i64 2)])
 ) (
 ret (.nxt [x0,x2])
 )
 ) fun o=>nx o z8x
 ) fun o=>zbg o fun vs=>zb (ldn 9 (zc vs 0)) fun r0=>ret (zbe [r0,(zc vs 1),(zc vs 2)])
def zbl9:Hint:=(.seq [] .leaf (.seq [0,2] (.seq [] .leaf (.cond (.seq [] .leaf .leaf) .leaf)) (.seq [] .leaf (.seq [] .leaf (.seq [2,5] (.seq [] .leaf (.cond (.seq [] .leaf .leaf) .leaf)) (.seq [] .leaf (.seq [2,8] (.seq [] .leaf (.cond (.seq [] .leaf .leaf) .leaf)) (.seq [2,8] (.seq [] .leaf (.seq [] .leaf (.cond (.seq [] .leaf .leaf) .leaf))) (.seq [] .leaf .leaf)))))))))
def ztk:List V→M V:=ap1 z06
def zbma:zv:=ovr [(z4f,zs7),(z57,zv6),(zbaj,zzs)] noC
theorem zbmb:zu Tryz.prog z4d (ztk):=kn1 (σ:=zbma) (hint:=zbl9) (by kernel_rfl) (zj zblj (zj zbpa (zj zbsg zk))) fun _=>(by kernel_rfl)
def zyo (v4:List V):M Out :=
 zb (za (zr .add (zc v4 2) (Value.int .i64 1))) fun x16 =>
 ret (.nxt [(zc v4 0),(zc v4 1),x16])
def zyp (v3:List V):M Out :=
 zb (
 zb (
 zb (za (zq 2 (zc v3 0) (zc v3 2))) fun x19 =>
 zb (za (zq 2 (zc v3 1) (zc v3 2))) fun x23 =>
 zb (ldn 2 x19) fun x20 =>
 zb (ldn 2 x23) fun x24 =>
 zb (za (zcp true (ze6 [.i,.i] x20 x24))) fun x25 =>
 zn x25 (
 ret (.ret [(Value.bool false)])
 ) (
 ret (.nxt [(zc v3 0),(zc v3 1),(zc v3 2)])
 )
 ) fun o=>ret (zw 1 o)
 ) fun o=>nx o zyo
def zpr (v2:List V):M Out :=
 zb (
 zb (za (zt (zc v2 0))) fun x13 =>
 zb (za (zr .lss (zc v2 2) x13)) fun x14 =>
 zn x14 (
 ret (.nxt [(zc v2 0),(zc v2 1),(zc v2 2)])
 ) (
 ret (.brk 0 [])
 )
 ) fun o=>nx o zyp
def zyq (v5:List V):M Out :=
 ret (.ret [(Value.bool true)])
def zyr (vs:List V):M Out :=
 zb (
 zb (
 zbf zbs zpr [(zc vs 0),(zc vs 1),(Value.int .i64 0)]
 ) fun o=>ret (zw 0 o)
 ) fun o=>nx o zyq
def zrr (x0 x1:V):M V :=
 zb (
 zb (
 zb (za (zt x0)) fun x7 =>
 zb (za (zt x1)) fun x9 =>
 zb (za (zr .neq x7 x9)) fun x10 =>
 zn x10 (
 ret (.ret [(Value.bool false)])
 ) (
 ret (.nxt [x0,x1])
 )
 ) fun o=>nx o zyr
 ) fun o=>zbg o fun vs=>ret (zbe [(zc vs 0)])
def zbfo:Hint:=(.seq [] .leaf (.seq [0,1] (.seq [] .leaf (.cond (.seq [] .leaf .leaf) .leaf)) (.seq [] (.seq [] .leaf (.blk (.loop [0,1,5] (.seq [0,1,5] (.seq [] .leaf (.cond .leaf .leaf)) (.seq [0,1,5] (.blk (.seq [] (.reg [0,1,2,4,5,6,3,7,8] []) (.cond (.seq [] .leaf .leaf) .leaf))) .leaf))))) (.seq [] .leaf .leaf))))
def zin:List V→M V:=ap2 zrr
theorem zbfp:zu Tryz.prog zu2 (zin):=kn2 (σ:=ovr [] noC) (hint:=zbfo) (by kernel_rfl) zk fun _ _=>(by kernel_rfl)
def zvb (v4:List V):M Out :=
 zb (za (zr .add (zc v4 2) (Value.int .i64 1))) fun x77 =>
 ret (.nxt [(zc v4 0),(zc v4 1),x77])
def zvc (v3:List V):M Out :=
 zb (
 zb (
 zb (za (ze 0 (zc v3 0))) fun x78 =>
 zb (za (ze 0 (zc v3 1))) fun x83 =>
 zb (zz x78) fun x79 =>
 zb (za (zq 2 x79 (zc v3 2))) fun x81 =>
 zb (ldn 2 x81) fun x82 =>
 zb (zz x83) fun x84 =>
 zb (za (zq 2 x84 (zc v3 2))) fun x86 =>
 zb (ldn 2 x86) fun x87 =>
 zb (za (zcp true (ze6 [.i,.b] x82 x87))) fun x88 =>
 zn x88 (
 ret (.ret [(Value.bool false)])
 ) (
 ret (.nxt [(zc v3 0),(zc v3 1),(zc v3 2)])
 )
 ) fun o=>ret (zw 1 o)
 ) fun o=>nx o zvb
def zjh (v2:List V):M Out :=
 zb (
 zb (za (ze 0 (zc v2 0))) fun x72 =>
 zb (zz x72) fun x73 =>
 zb (za (zt x73)) fun x74 =>
 zb (za (zr .lss (zc v2 2) x74)) fun x75 =>
 zn x75 (
 ret (.nxt [(zc v2 0),(zc v2 1),(zc v2 2)])
 ) (
 ret (.brk 0 [(zc v2 0),(zc v2 1)])
 )
 ) fun o=>nx o zvc
def zvd (v8:List V):M Out :=
 zb (za (zr .add (zc v8 2) (Value.int .i64 1))) fun x95 =>
 ret (.nxt [(zc v8 0),(zc v8 1),x95])
def zve (v7:List V):M Out :=
 zb (
 zb (
 zb (za (ze 1 (zc v7 0))) fun x96 =>
 zb (za (ze 1 (zc v7 1))) fun x101 =>
 zb (zz x96) fun x97 =>
 zb (za (zq 3 x97 (zc v7 2))) fun x99 =>
 zb (ldn 3 x99) fun x100 =>
 zb (zz x101) fun x102 =>
 zb (za (zq 3 x102 (zc v7 2))) fun x104 =>
 zb (ldn 3 x104) fun x105 =>
 zb (za (zcp true (ze6 [.i,.i,.b] x100 x105))) fun x106 =>
 zn x106 (
 ret (.ret [(Value.bool false)])
 ) (
 ret (.nxt [(zc v7 0),(zc v7 1),(zc v7 2)])
 )
 ) fun o=>ret (zw 3 o)
 ) fun o=>nx o zvd
def zji (v6:List V):M Out :=
 zb (
 zb (za (ze 1 (zc v6 0))) fun x90 =>
 zb (zz x90) fun x91 =>
 zb (za (zt x91)) fun x92 =>
 zb (za (zr .lss (zc v6 2) x92)) fun x93 =>
 zn x93 (
 ret (.nxt [(zc v6 0),(zc v6 1),(zc v6 2)])
 ) (
 ret (.brk 2 [(zc v6 0),(zc v6 1)])
 )
 ) fun o=>nx o zve
def zvf (v12:List V):M Out :=
 zb (za (zr .add (zc v12 2) (Value.int .i64 1))) fun x113 =>
 ret (.nxt [(zc v12 0),(zc v12 1),x113])
def zvg (v11:List V):M Out :=
 zb (
 zb (
 zb (za (ze 2 (zc v11 0))) fun x114 =>
 zb (za (ze 2 (zc v11 1))) fun x119 =>
 zb (zz x114) fun x115 =>
 zb (za (zq 5 x115 (zc v11 2))) fun x117 =>
 zb (ldn 5 x117) fun x118 =>
 zb (zz x119) fun x120 =>
 zb (za (zq 5 x120 (zc v11 2))) fun x122 =>
 zb (ldn 5 x122) fun x123 =>
 zb (za (zcp true (ze6 [.i,.i,.i,.i,.i] x118 x123))) fun x124 =>
 zn x124 (
 ret (.ret [(Value.bool false)])
 ) (
 ret (.nxt [(zc v11 0),(zc v11 1),(zc v11 2)])
 )
 ) fun o=>ret (zw 5 o)
 ) fun o=>nx o zvf
def zjj (v10:List V):M Out :=
 zb (
 zb (za (ze 2 (zc v10 0))) fun x108 =>
 zb (zz x108) fun x109 =>
 zb (za (zt x109)) fun x110 =>
 zb (za (zr .lss (zc v10 2) x110)) fun x111 =>
 zn x111 (
 ret (.nxt [(zc v10 0),(zc v10 1),(zc v10 2)])
 ) (
 ret (.brk 4 [(zc v10 0),(zc v10 1)])
 )
 ) fun o=>nx o zvg
def zvh (v16:List V):M Out :=
 zb (za (zr .add (zc v16 2) (Value.int .i64 1))) fun x132 =>
 ret (.nxt [(zc v16 0),(zc v16 1),x132])
def zt6 (v15:List V):M Out :=
 zb (
 zb (
 zb (za (ze 3 (zc v15 0))) fun x133 =>
 zb (za (ze 1 x133)) fun x134 =>
 zb (za (ze 3 (zc v15 1))) fun x139 =>
 zb (za (ze 1 x139)) fun x140 =>
 zb (zz x134) fun x135 =>
 zb (za (zq 3 x135 (zc v15 2))) fun x137 =>
 zb (ldn 3 x137) fun x138 =>
 zb (zz x140) fun x141 =>
 zb (za (zq 3 x141 (zc v15 2))) fun x143 =>
 zb (ldn 3 x143) fun x144 =>
 zb (za (zcp true (ze6 [.i,.i,.i] x138 x144))) fun x145 =>
 zn x145 (
 ret (.ret [(Value.bool false)])
 ) (
 ret (.nxt [(zc v15 0),(zc v15 1),(zc v15 2)])
 )
 ) fun o=>ret (zw 7 o)
 ) fun o=>nx o zvh
def zio (v14:List V):M Out :=
 zb (
 zb (za (ze 3 (zc v14 0))) fun x126 =>
 zb (za (ze 1 x126)) fun x127 =>
 zb (zz x127) fun x128 =>
 zb (za (zt x128)) fun x129 =>
 zb (za (zr .lss (zc v14 2) x129)) fun x130 =>
 zn x130 (
 ret (.nxt [(zc v14 0),(zc v14 1),(zc v14 2)])
 ) (
 ret (.brk 6 [(zc v14 0),(zc v14 1)])
 )
 ) fun o=>nx o zt6
def zt7 (v20:List V):M Out :=
 zb (za (zr .add (zc v20 2) (Value.int .i64 1))) fun x152 =>
 ret (.nxt [(zc v20 0),(zc v20 1),x152])
def zt8 (v19:List V):M Out :=
 zb (
 zb (
 zb (za (ze 5 (zc v19 0))) fun x153 =>
 zb (za (ze 5 (zc v19 1))) fun x159 =>
 zb (zz x153) fun x154 =>
 zb (za (zq 2 x154 (zc v19 2))) fun x156 =>
 zb (za (ze 0 x156)) fun x157 =>
 zb (zz x157) fun x158 =>
 zb (zz x159) fun x160 =>
 zb (za (zq 2 x160 (zc v19 2))) fun x162 =>
 zb (za (ze 0 x162)) fun x163 =>
 zb (zz x163) fun x164 =>
 zb (zin [x158,x164]) fun x165 =>
 zb (za (un .not x165)) fun x166 =>
 zb (gd x166 false (za (ze 5 (zc v19 0)))) fun x168 =>
 zb (gd x166 false (za (some (zc v19 2)))) fun x170 =>
 zb (gd x166 false (za (ze 5 (zc v19 1)))) fun x174 =>
 zb (gd x166 false (za (some (zc v19 2)))) fun x176 =>
 zb (gd x166 false (zz x168)) fun x169 =>
 zb (gd x166 false (za (zq 2 x169 x170))) fun x171 =>
 zb (gd x166 false (za (ze 1 x171))) fun x172 =>
 zb (gd x166 false (zz x172)) fun x173 =>
 zb (gd x166 false (zz x174)) fun x175 =>
 zb (gd x166 false (za (zq 2 x175 x176))) fun x177 =>
 zb (gd x166 false (za (ze 1 x177))) fun x178 =>
 zb (gd x166 false (zz x178)) fun x179 =>
 zb (gd x166 false (zin [x173,x179])) fun x180 =>
 zb (gd x166 false (za (un .not x180))) fun x181 =>
 zb (za (zy x166 (Value.bool true) x181)) fun x182 =>
 zn x182 (
 ret (.ret [(Value.bool false)])
 ) (
 ret (.nxt [(zc v19 0),(zc v19 1),(zc v19 2)])
 )
 ) fun o=>ret (zw 9 o)
 ) fun o=>nx o zt7
def ziq (v18:List V):M Out :=
 zb (
 zb (za (ze 5 (zc v18 0))) fun x147 =>
 zb (zz x147) fun x148 =>
 zb (za (zt x148)) fun x149 =>
 zb (za (zr .lss (zc v18 2) x149)) fun x150 =>
 zn x150 (
 ret (.nxt [(zc v18 0),(zc v18 1),(zc v18 2)])
 ) (
 ret (.brk 8 [])
 )
 ) fun o=>nx o zt8
def zt9 (v21:List V):M Out :=
 ret (.ret [(Value.bool true)])
def zua (v17:List V):M Out :=
 zb (
 zb (
 zbf zbs ziq [(zc v17 0),(zc v17 1),(Value.int .i64 0)]
 ) fun o=>ret (zw 8 o)
 ) fun o=>nx o zt9
def zub (v13:List V):M Out :=
 zb (
 zb (
 zbf zbs zio [(zc v13 0),(zc v13 1),(Value.int .i64 0)]
 ) fun o=>ret (zw 6 o)
 ) fun o=>nx o zua
def zuc (v9:List V):M Out :=
 zb (
 zb (
 zbf zbs zjj [(zc v9 0),(zc v9 1),(Value.int .i64 0)]
 ) fun o=>ret (zw 4 o)
 ) fun o=>nx o zub
def zud (v5:List V):M Out :=
 zb (
 zb (
 zbf zbs zji [(zc v5 0),(zc v5 1),(Value.int .i64 0)]
 ) fun o=>ret (zw 2 o)
 ) fun o=>nx o zuc
def zue (vs:List V):M Out :=
 zb (
 zb (
 zbf zbs zjh [(zc vs 0),(zc vs 1),(Value.int .i64 0)]
 ) fun o=>ret (zw 0 o)
 ) fun o=>nx o zud
def zps (x0 x1:V):M V :=
 zb (
 zb (zdf x0) fun x2 =>
 zb (zdf x1) fun x3 =>
 zb (
 zb (za (ze 6 x2)) fun x10 =>
 zb (zz x10) fun x11 =>
 zb (za (ze 6 x3)) fun x12 =>
 zb (zz x12) fun x13 =>
 zb (za (zr .neq x11 x13)) fun x14 =>
 zb (gd x14 false (za (ze 3 x2))) fun x16 =>
 zb (gd x14 false (za (ze 0 x16))) fun x17 =>
 zb (gd x14 false (zz x17)) fun x18 =>
 zb (gd x14 false (za (ze 3 x3))) fun x19 =>
 zb (gd x14 false (za (ze 0 x19))) fun x20 =>
 zb (gd x14 false (zz x20)) fun x21 =>
 zb (gd x14 false (za (zr .neq x18 x21))) fun x22 =>
 zb (za (zy x14 (Value.bool true) x22)) fun x23 =>
 zb (gd x23 false (za (ze 0 x2))) fun x25 =>
 zb (gd x23 false (zz x25)) fun x26 =>
 zb (gd x23 false (za (zt x26))) fun x27 =>
 zb (gd x23 false (za (ze 0 x3))) fun x28 =>
 zb (gd x23 false (zz x28)) fun x29 =>
 zb (gd x23 false (za (zt x29))) fun x30 =>
 zb (gd x23 false (za (zr .neq x27 x30))) fun x31 =>
 zb (za (zy x23 (Value.bool true) x31)) fun x32 =>
 zb (gd x32 false (za (ze 1 x2))) fun x34 =>
 zb (gd x32 false (zz x34)) fun x35 =>
 zb (gd x32 false (za (zt x35))) fun x36 =>
 zb (gd x32 false (za (ze 1 x3))) fun x37 =>
 zb (gd x32 false (zz x37)) fun x38 =>
 zb (gd x32 false (za (zt x38))) fun x39 =>
 zb (gd x32 false (za (zr .neq x36 x39))) fun x40 =>
 zb (za (zy x32 (Value.bool true) x40)) fun x41 =>
 zb (gd x41 false (za (ze 2 x2))) fun x43 =>
 zb (gd x41 false (zz x43)) fun x44 =>
 zb (gd x41 false (za (zt x44))) fun x45 =>
 zb (gd x41 false (za (ze 2 x3))) fun x46 =>
 zb (gd x41 false (zz x46)) fun x47 =>
 zb (gd x41 false (za (zt x47))) fun x48 =>
 zb (gd x41 false (za (zr .neq x45 x48))) fun x49 =>
 zb (za (zy x41 (Value.bool true) x49)) fun x50 =>
 zb (gd x50 false (za (ze 3 x2))) fun x52 =>
 zb (gd x50 false (za (ze 1 x52))) fun x53 =>
 zb (gd x50 false (zz x53)) fun x54 =>
 zb (gd x50 false (za (zt x54))) fun x55 =>
 zb (gd x50 false (za (ze 3 x3))) fun x56 =>
 zb (gd x50 false (za (ze 1 x56))) fun x57 =>
 zb (gd x50 false (zz x57)) fun x58 =>
 zb (gd x50 false (za (zt x58))) fun x59 =>
 zb (gd x50 false (za (zr .neq x55 x59))) fun x60 =>
 zb (za (zy x50 (Value.bool true) x60)) fun x61 =>
 zb (gd x61 false (za (ze 5 x2))) fun x63 =>
 zb (gd x61 false (zz x63)) fun x64 =>
 zb (gd x61 false (za (zt x64))) fun x65 =>
 zb (gd x61 false (za (ze 5 x3))) fun x66 =>
 zb (gd x61 false (zz x66)) fun x67 =>
 zb (gd x61 false (za (zt x67))) fun x68 =>
 zb (gd x61 false (za (zr .neq x65 x68))) fun x69 =>
 zb (za (zy x61 (Value.bool true) x69)) fun x70 =>
 zn x70 (
 ret (.ret [(Value.bool false)])
 ) (
 ret (.nxt [x2,x3])
 )
 ) fun o=>nx o zue
 ) fun o=>zbg o fun vs=>ret (zbe [(zc vs 0)])
def zbdf:Hint:=(.seq [] .leaf (.seq [2,3] (.seq [] .leaf (.cond (.seq [] .leaf .leaf) .leaf)) (.seq [2,3] (.seq [] .leaf (.blk (.loop [2,3,5] (.seq [2,3,5] (.seq [] .leaf (.cond .leaf .leaf)) (.seq [2,3,5] (.blk (.seq [] (.reg [0,2,5,7,1,3,4,6,8,9,10] []) (.cond (.seq [] .leaf .leaf) .leaf))) .leaf))))) (.seq [2,3] (.seq [] .leaf (.blk (.loop [2,3,6] (.seq [2,3,6] (.seq [] .leaf (.cond .leaf .leaf)) (.seq [2,3,6] (.blk (.seq [] (.reg [0,2,5,7,1,3,4,6,8,9,10] []) (.cond (.seq [] .leaf .leaf) .leaf))) .leaf))))) (.seq [2,3] (.seq [] .leaf (.blk (.loop [2,3,7] (.seq [2,3,7] (.seq [] .leaf (.cond .leaf .leaf)) (.seq [2,3,7] (.blk (.seq [] (.reg [0,2,5,7,1,3,4,6,8,9,10] []) (.cond (.seq [] .leaf .leaf) .leaf))) .leaf))))) (.seq [2,3] (.seq [] .leaf (.blk (.loop [2,3,8] (.seq [2,3,8] (.seq [] .leaf (.cond .leaf .leaf)) (.seq [2,3,8] (.blk (.seq [] (.reg [0,1,3,6,7,9,2,4,5,8,10,11,12] []) (.cond (.seq [] .leaf .leaf) .leaf))) .leaf))))) (.seq [] (.seq [] .leaf (.blk (.loop [2,3,9] (.seq [2,3,9] (.seq [] .leaf (.cond .leaf .leaf)) (.seq [2,3,9] (.blk (.seq [] (.reg [0,2,6,8,1,3,4,5,7,9,10,11,12,13,14,15,17,21,23,16,18,19,20,22,24,25,26,27,28,29] []) (.cond (.seq [] .leaf .leaf) .leaf))) .leaf))))) (.seq [] .leaf .leaf))))))))
def zkq:List V→M V:=ap2 zps
def zbdg:zv:=ovr [(zu2,zin)] noC
theorem zbdh:zu Tryz.prog ztu (zkq):=kn2 (σ:=zbdg) (hint:=zbdf) (by kernel_rfl) (zj zbfp zk) fun _ _=>(by kernel_rfl)
def zbb3 (v7:List V):M Out :=
 zb (za (zr .add (zc v7 5) (Value.int .i64 1))) fun x75 =>
 ret (.nxt [(zc v7 0),(zc v7 1),(zc v7 2),(zc v7 3),(zc v7 4),x75])
def zbb4 (v6:List V):M Out :=
 zb (
 zb (
 zb (za (ze 2 (zc v6 3))) fun x76 =>
 zb (za (ze 2 (zc v6 4))) fun x81 =>
 zb (zz x76) fun x77 =>
 zb (za (zq 2 x77 (zc v6 5))) fun x79 =>
 zb (ldn 2 x79) fun x80 =>
 zb (zz x81) fun x82 =>
 zb (za (zq 2 x82 (zc v6 5))) fun x84 =>
 zb (ldn 2 x84) fun x85 =>
 zb (za (zcp true (ze6 [.i,.i] x80 x85))) fun x86 =>
 zn x86 (
 ret (.ret [(Value.bool false)])
 ) (
 ret (.nxt [(zc v6 0),(zc v6 1),(zc v6 2),(zc v6 3),(zc v6 4),(zc v6 5)])
 )
 ) fun o=>ret (zw 3 o)
 ) fun o=>nx o zbb3
def ztl (v5:List V):M Out :=
 zb (
 zb (za (ze 2 (zc v5 3))) fun x70 =>
 zb (zz x70) fun x71 =>
 zb (za (zt x71)) fun x72 =>
 zb (za (zr .lss (zc v5 5) x72)) fun x73 =>
 zn x73 (
 ret (.nxt [(zc v5 0),(zc v5 1),(zc v5 2),(zc v5 3),(zc v5 4),(zc v5 5)])
 ) (
 ret (.brk 2 [(zc v5 0),(zc v5 1),(zc v5 2)])
 )
 ) fun o=>nx o zbb4
def zbb5 (v4:List V):M Out :=
 zb (
 zbf zbs ztl [(zc v4 0),(zc v4 1),(zc v4 2),(zc v4 3),(zc v4 4),(Value.int .i64 0)]
 ) fun o=>ret (zw 2 o)
def zbb6 (v8:List V):M Out :=
 zb (za (zr .add (zc v8 2) (Value.int .i64 1))) fun x37 =>
 ret (.nxt [(zc v8 0),(zc v8 1),x37])
def zbb7 (v3:List V):M Out :=
 zb (
 zb (
 zw3 2 fun base h0 =>
 zb (za (ze 7 (zc v3 0))) fun x38 =>
 zb (za (ze 7 (zc v3 1))) fun x43 =>
 zb (zz x38) fun x39 =>
 zb (za (zq 3 x39 (zc v3 2))) fun x41 =>
 zb (ldn 3 x41) fun x42 =>
 zb (zz x43) fun x44 =>
 zb (za (zq 3 x44 (zc v3 2))) fun x46 =>
 zb (ldn 3 x46) fun x47 =>
 zb (flt (base + 0) (newc [Value.string ⟨#[]⟩,Value.string ⟨#[]⟩,Value.slice none 0 0])) fun x6 =>
 zb (flt (base + 1) (newc [Value.string ⟨#[]⟩,Value.string ⟨#[]⟩,Value.slice none 0 0])) fun x7 =>
 zb4 (stn 3 x6 x42) fun ha u h1 =>
 zb4 (stn 3 x7 x47) fun ha_2 u_2 h2 =>
 zfi (chk (zz x43) h1 x44) <|
 zfi (chk (ldn 3 x46) h1 x47) <|
 zb (
 zb (za (ze 0 x6)) fun x48 =>
 zb (zz x48) fun x49 =>
 zb (za (ze 0 x7)) fun x50 =>
 zb (zz x50) fun x51 =>
 zb (za (zr .neq x49 x51)) fun x52 =>
 zb (gd x52 false (za (ze 1 x6))) fun x54 =>
 zb (gd x52 false (zz x54)) fun x55 =>
 zb (gd x52 false (za (ze 1 x7))) fun x56 =>
 zb (gd x52 false (zz x56)) fun x57 =>
 zb (gd x52 false (za (zr .neq x55 x57))) fun x58 =>
 zb (za (zy x52 (Value.bool true) x58)) fun x59 =>
 zb (gd x59 false (za (ze 2 x6))) fun x61 =>
 zb (gd x59 false (zz x61)) fun x62 =>
 zb (gd x59 false (za (zt x62))) fun x63 =>
 zb (gd x59 false (za (ze 2 x7))) fun x64 =>
 zb (gd x59 false (zz x64)) fun x65 =>
 zb (gd x59 false (za (zt x65))) fun x66 =>
 zb (gd x59 false (za (zr .neq x63 x66))) fun x67 =>
 zb (za (zy x59 (Value.bool true) x67)) fun x68 =>
 zn x68 (
 ret (.ret [(Value.bool false)])
 ) (
 ret (.nxt [(zc v3 0),(zc v3 1),(zc v3 2),x6,x7])
 )
 ) fun o=>nx o zbb5
 ) fun o=>ret (zw 1 o)
 ) fun o=>nx o zbb6
def z07 (v2:List V):M Out :=
 zb (
 zb (za (ze 7 (zc v2 0))) fun x32 =>
 zb (zz x32) fun x33 =>
 zb (za (zt x33)) fun x34 =>
 zb (za (zr .lss (zc v2 2) x34)) fun x35 =>
 zn x35 (
 ret (.nxt [(zc v2 0),(zc v2 1),(zc v2 2)])
 ) (
 ret (.brk 0 [])
 )
 ) fun o=>nx o zbb7
def zbb8 (v9:List V):M Out :=
 ret (.ret [(Value.bool true)])
def zbb9 (vs:List V):M Out :=
 zb (
 zb (
 zbf zbs z07 [(zc vs 0),(zc vs 1),(Value.int .i64 0)]
 ) fun o=>ret (zw 0 o)
 ) fun o=>nx o zbb8
def z3y (x0 x1:V):M V :=
 zb (
 zb (zdf x0) fun x2 =>
 zb (zdf x1) fun x3 =>
 zb (
 zb (za (ze 0 x2)) fun x9 =>
 zb (ldn 7 x9) fun x10 =>
 zb (za (ze 0 x3)) fun x11 =>
 zb (ldn 7 x11) fun x12 =>
 zb (zkq [x10,x12]) fun x13 =>
 zb (za (un .not x13)) fun x14 =>
 zb (gd x14 false (za (ze 8 x2))) fun x16 =>
 zb (gd x14 false (zz x16)) fun x17 =>
 zb (gd x14 false (za (ze 8 x3))) fun x18 =>
 zb (gd x14 false (zz x18)) fun x19 =>
 zb (gd x14 false (za (zr .neq x17 x19))) fun x20 =>
 zb (za (zy x14 (Value.bool true) x20)) fun x21 =>
 zb (gd x21 false (za (ze 7 x2))) fun x23 =>
 zb (gd x21 false (zz x23)) fun x24 =>
 zb (gd x21 false (za (zt x24))) fun x25 =>
 zb (gd x21 false (za (ze 7 x3))) fun x26 =>
 zb (gd x21 false (zz x26)) fun x27 =>
 zb (gd x21 false (za (zt x27))) fun x28 =>
 zb (gd x21 false (za (zr .neq x25 x28))) fun x29 =>
 zb (za (zy x21 (Value.bool true) x29)) fun x30 =>
 zn x30 (
 ret (.ret [(Value.bool false)])
 ) (
 ret (.nxt [x2,x3])
 )
 ) fun o=>nx o zbb9
 ) fun o=>zbg o fun vs=>ret (zbe [(zc vs 0)])
def zbpg:Hint:=(.seq [] .leaf (.seq [2,3] (.seq [] .leaf (.cond (.seq [] .leaf .leaf) .leaf)) (.seq [] (.seq [] .leaf (.blk (.loop [2,3,5] (.seq [2,3,5] (.seq [] .leaf (.cond .leaf .leaf)) (.seq [2,3,5] (.blk (.seq [] (.reg [0,2,5,7,1,3,4,6,8,9,10,11,12,13] [10,11]) (.seq [2,3,5,6,7] (.seq [] .leaf (.cond (.seq [] .leaf .leaf) .leaf)) (.seq [] .leaf (.blk (.loop [2,3,5,6,7,8] (.seq [2,3,5,6,7,8] (.seq [] .leaf (.cond .leaf .leaf)) (.seq [2,3,5,6,7,8] (.blk (.seq [] (.reg [0,2,5,7,1,3,4,6,8,9,10] []) (.cond (.seq [] .leaf .leaf) .leaf))) .leaf)))))))) .leaf))))) (.seq [] .leaf .leaf))))
def zwb:List V→M V:=ap2 z3y
def zbph:zv:=ovr [(ztu,zkq)] noC
theorem zbpi:zu Tryz.prog z56 (zwb):=kn2 (σ:=zbph) (hint:=zbpg) (by kernel_rfl) (zj zbdh zk) fun _ _=>(by kernel_rfl)
noncomputable def z08 (G_strings_Split:List V→M V) (G_strings_IndexRune:List V→M V) (G_strconv_Atoi:List V→M V) (G_strings_IndexByte:List V→M V):M V :=
 zb (
 zb ((zkm G_strings_Split G_strings_IndexRune G_strconv_Atoi G_strings_IndexByte) [(Value.string ⟨#[109,105,108,108,105,115,32,49,48,10,102,114,97,109,101,32,53,48,10,105,100,108,101,32,57,10,119,105,110,100,111,119,32,48,32,48,32,50,48,10,117,110,105,116,10]⟩)]) fun x8 =>
 zb (za (ext 0 x8)) fun x9 =>
 zb (za (ext 1 x8)) fun x10 =>
 zb (za (ext 2 x8)) fun x11 =>
 zb (newc [Value.slice none 0 0,Value.slice none 0 0,Value.slice none 0 0,Value.int .i64 0,Value.slice none 0 0,Value.slice none 0 0,Value.int .i64 0,Value.slice none 0 0,Value.int .i64 0]) fun x1 =>
 zb (stn 9 x1 x9) fun _ =>
 zb ((zkm G_strings_Split G_strings_IndexRune G_strconv_Atoi G_strings_IndexByte) [(Value.string ⟨#[109,105,108,108,105,115,32,49,48,10,109,105,108,108,105,115,32,49,48,10]⟩)]) fun x13 =>
 zb (za (ext 0 x13)) fun x14 =>
 zb (za (ext 1 x13)) fun x15 =>
 zb (za (ext 2 x13)) fun x16 =>
 zb (newc [Value.slice none 0 0,Value.slice none 0 0,Value.slice none 0 0,Value.int .i64 0,Value.slice none 0 0,Value.slice none 0 0,Value.int .i64 0,Value.slice none 0 0,Value.int .i64 0]) fun x4 =>
 zb (stn 9 x4 x14) fun _ =>
 zb (za (zr .eql x10 (Value.int .i64 0))) fun x18 =>
 zb (gd x18 true (za (some x11))) fun x20 =>
 zb (gd x18 true (za (zr .eql x20 (Value.int .i64 0)))) fun x21 =>
 zb (za (zy x18 x21 (Value.bool false))) fun x22 =>
 zb (gd x22 true (za (ze 0 x1))) fun x24 =>
 zb (gd x22 true (za (ze 6 x24))) fun x25 =>
 zb (gd x22 true (zz x25)) fun x26 =>
 zb (gd x22 true (za (zr .eql x26 (Value.int .i64 10)))) fun x27 =>
 zb (za (zy x22 x27 (Value.bool false))) fun x28 =>
 zb (gd x28 true (za (ze 0 x1))) fun x30 =>
 zb (gd x28 true (za (ze 3 x30))) fun x31 =>
 zb (gd x28 true (za (ze 0 x31))) fun x32 =>
 zb (gd x28 true (zz x32)) fun x33 =>
 zb (gd x28 true (za (zr .eql x33 (Value.int .i64 50)))) fun x34 =>
 zb (za (zy x28 x34 (Value.bool false))) fun x35 =>
 zb (gd x35 true (za (ze 8 x1))) fun x37 =>
 zb (gd x35 true (zz x37)) fun x38 =>
 zb (gd x35 true (za (zr .eql x38 (Value.int .i64 9)))) fun x39 =>
 zb (za (zy x35 x39 (Value.bool false))) fun x40 =>
 zb (gd x40 true (za (ze 0 x1))) fun x42 =>
 zb (gd x40 true (za (ze 3 x42))) fun x43 =>
 zb (gd x40 true (za (ze 1 x43))) fun x44 =>
 zb (gd x40 true (zz x44)) fun x45 =>
 zb (gd x40 true (za (zt x45))) fun x46 =>
 zb (gd x40 true (za (zr .eql x46 (Value.int .i64 1)))) fun x47 =>
 zb (za (zy x40 x47 (Value.bool false))) fun x48 =>
 zb (gd x48 true (za (ze 0 x1))) fun x50 =>
 zb (gd x48 true (za (ze 3 x50))) fun x51 =>
 zb (gd x48 true (za (ze 1 x51))) fun x52 =>
 zb (gd x48 true (zz x52)) fun x53 =>
 zb (gd x48 true (za (zq 3 x53 (Value.int .i64 0)))) fun x54 =>
 zb (gd x48 true (ldn 3 x54)) fun x55 =>
 zb (gd x48 true (za (build [Value.int .i64 0,Value.int .i64 0,Value.int .i64 0] [(2,1,(Value.int .i64 20))]))) fun x56 =>
 zb (gd x48 true (za (zcp false (ze6 [.i,.i,.i] x55 x56)))) fun x57 =>
 zb (za (zy x48 x57 (Value.bool false))) fun x58 =>
 zb (gd x58 true (za (ze 0 x1))) fun x60 =>
 zb (gd x58 true (za (ze 5 x60))) fun x61 =>
 zb (gd x58 true (zz x61)) fun x62 =>
 zb (gd x58 true (za (zt x62))) fun x63 =>
 zb (gd x58 true (za (zr .eql x63 (Value.int .i64 1)))) fun x64 =>
 zb (za (zy x58 x64 (Value.bool false))) fun x65 =>
 zb (gd x65 true (za (some x15))) fun x67 =>
 zb (gd x65 true (za (zr .eql x67 (Value.int .i64 2)))) fun x68 =>
 zb (za (zy x65 x68 (Value.bool false))) fun x69 =>
 zb (gd x69 true (za (some x16))) fun x71 =>
 zb (gd x69 true (za (zr .eql x71 (Value.int .i64 6)))) fun x72 =>
 zb (za (zy x69 x72 (Value.bool false))) fun x73 =>
 ret (.ret [x73])
 ) fun o=>zbg o fun vs=>ret (zbe [(zc vs 0)])
def zbmc:Hint:=(.seq [] .leaf (.seq [] .leaf (.seq [] .leaf (.seq [] .leaf .leaf))))
noncomputable def ztm (G_strings_Split:List V→M V) (G_strings_IndexRune:List V→M V) (G_strconv_Atoi:List V→M V) (G_strings_IndexByte:List V→M V):List V→M V:=ap0 (z08 G_strings_Split G_strings_IndexRune G_strconv_Atoi G_strings_IndexByte)
theorem zbmd {G_strings_Split:List V→M V} {G_strings_IndexRune:List V→M V} {G_strconv_Atoi:List V→M V} {G_strings_IndexByte:List V→M V} (k_strings_Split:zu Tryz.prog zcv G_strings_Split) (k_strings_IndexRune:zu Tryz.prog zx G_strings_IndexRune) (k_strconv_Atoi:zu Tryz.prog zbp G_strconv_Atoi) (k_strings_IndexByte:zu Tryz.prog zb5 G_strings_IndexByte):zu Tryz.prog z4e (ztm G_strings_Split G_strings_IndexRune G_strconv_Atoi G_strings_IndexByte):=kn0 (σ:=ovr [(zw5,zkm G_strings_Split G_strings_IndexRune G_strconv_Atoi G_strings_IndexByte)] noC) (hint:=zbmc) (by kernel_rfl) (zj (zbe3 k_strings_Split k_strings_IndexRune k_strconv_Atoi k_strings_IndexByte) zk) (by kernel_rfl)
noncomputable def zrs (G_strings_Split:List V→M V) (G_strings_IndexRune:List V→M V) (G_strconv_Atoi:List V→M V) (G_strings_IndexByte:List V→M V) (x0:V):M V :=
 zb (
 zb ((zkm G_strings_Split G_strings_IndexRune G_strconv_Atoi G_strings_IndexByte) [x0]) fun x11 =>
 zb (za (ext 0 x11)) fun x12 =>
 zb (za (ext 1 x11)) fun x13 =>
 zb (za (ext 2 x11)) fun x14 =>
 zb (newc [Value.slice none 0 0,Value.slice none 0 0,Value.slice none 0 0,Value.int .i64 0,Value.slice none 0 0,Value.slice none 0 0,Value.int .i64 0,Value.slice none 0 0,Value.int .i64 0]) fun x3 =>
 zb (stn 9 x3 x12) fun _ =>
 zb (ztk [x0]) fun x17 =>
 zb (za (ext 0 x17)) fun x18 =>
 zb (za (ext 1 x17)) fun x19 =>
 zb (za (ext 2 x17)) fun x20 =>
 zb (newc [Value.slice none 0 0,Value.slice none 0 0,Value.slice none 0 0,Value.int .i64 0,Value.slice none 0 0,Value.slice none 0 0,Value.int .i64 0,Value.slice none 0 0,Value.int .i64 0]) fun x6 =>
 zb (stn 9 x6 x18) fun _ =>
 zb (ldn 9 x3) fun x21 =>
 zb (ldn 9 x6) fun x22 =>
 zb (zwb [x21,x22]) fun x23 =>
 zb (gd x23 true (za (some x13))) fun x25 =>
 zb (gd x23 true (za (some x19))) fun x26 =>
 zb (gd x23 true (za (zr .eql x25 x26))) fun x27 =>
 zb (za (zy x23 x27 (Value.bool false))) fun x28 =>
 zb (gd x28 true (za (some x14))) fun x30 =>
 zb (gd x28 true (za (some x20))) fun x31 =>
 zb (gd x28 true (za (zr .eql x30 x31))) fun x32 =>
 zb (za (zy x28 x32 (Value.bool false))) fun x33 =>
 zb (gd x33 true ((ztm G_strings_Split G_strings_IndexRune G_strconv_Atoi G_strings_IndexByte) [])) fun x35 =>
 zb (za (zy x33 x35 (Value.bool false))) fun x36 =>
 ret (.ret [x36])
 ) fun o=>zbg o fun vs=>ret (zbe [(zc vs 0)])
def zbfq:Hint:=(.seq [] .leaf (.seq [] .leaf (.seq [] .leaf (.seq [] .leaf .leaf))))
noncomputable def zzt (G_strings_Split:List V→M V) (G_strings_IndexRune:List V→M V) (G_strconv_Atoi:List V→M V) (G_strings_IndexByte:List V→M V):List V→M V:=ap1 (zrs G_strings_Split G_strings_IndexRune G_strconv_Atoi G_strings_IndexByte)
theorem K_law27_ConfReads {G_strings_Split:List V→M V} {G_strings_IndexRune:List V→M V} {G_strconv_Atoi:List V→M V} {G_strings_IndexByte:List V→M V} (k_strings_Split:zu Tryz.prog zcv G_strings_Split) (k_strings_IndexRune:zu Tryz.prog zx G_strings_IndexRune) (k_strconv_Atoi:zu Tryz.prog zbp G_strconv_Atoi) (k_strings_IndexByte:zu Tryz.prog zb5 G_strings_IndexByte):zu Tryz.prog z9x (zzt G_strings_Split G_strings_IndexRune G_strconv_Atoi G_strings_IndexByte):=kn1 (σ:=ovr [(zw5,zkm G_strings_Split G_strings_IndexRune G_strconv_Atoi G_strings_IndexByte),(z4d,ztk),(z56,zwb),(z4e,ztm G_strings_Split G_strings_IndexRune G_strconv_Atoi G_strings_IndexByte)] noC) (hint:=zbfq) (by kernel_rfl) (zj (zbe3 k_strings_Split k_strings_IndexRune k_strconv_Atoi k_strings_IndexByte) (zj zbmb (zj zbpi (zj (zbmd k_strings_Split k_strings_IndexRune k_strconv_Atoi k_strings_IndexByte) zk)))) fun _=>(by kernel_rfl)
end Go.AM.Cap
