import Derived.Test.YtjchglndancedaaGreatDoorFun
set_option linter.all false
/- Printed by amprint2.py: functions of YtjchglndancedaaGreatDoor on the abstract machine. -/
set_option linter.unusedVariables false
set_option maxRecDepth 100000
namespace Go.AM.Cap
open Go.AM Go.Proofs
noncomputable def z9u (G_strings_Split:List V→M V) (G_strings_IndexRune:List V→M V) (G_strconv_Atoi:List V→M V) (G_strings_IndexByte:List V→M V) (v3:List V):M Out :=
 zb (ldn 9 (zd v3 0)) fun x55 =>
 zb (stn 9 (zd v3 0) x55) fun _ =>
 ret (.ret [(zd v3 0),(Value.int .i64 0),(Value.int .i64 0)])
noncomputable def z9v (G_strings_Split:List V→M V) (G_strings_IndexRune:List V→M V) (G_strconv_Atoi:List V→M V) (G_strings_IndexByte:List V→M V) (v2:List V):M Out :=
 zb (
 zb (za (zf 0 (zd v2 0))) fun x42 =>
 zb (ldn 7 x42) fun x43 =>
 zb (za (zf 7 (zd v2 0))) fun x44 =>
 zb (zz x44) fun x45 =>
 zb (za (zf 8 (zd v2 0))) fun x46 =>
 zb (zz x46) fun x47 =>
 zb ((zvs G_strings_IndexRune) [x43,x45,x47]) fun x48 =>
 zb (za (ext 0 x48)) fun x49 =>
 zb (za (ext 1 x48)) fun x50 =>
 zb (za (zu .neq x50 (Value.int .i64 0))) fun x52 =>
 zp x52 (
 zb (za (build [Value.slice none 0 0,Value.slice none 0 0,Value.slice none 0 0,Value.int .i64 0,Value.slice none 0 0,Value.slice none 0 0,Value.int .i64 0,Value.slice none 0 0,Value.int .i64 0] [])) fun x53 =>
 zb (stn 9 (zd v2 0) x53) fun _ =>
 ret (.ret [(zd v2 0),(Value.int .i64 0),x50])
 ) (
 ret (.nxt [(zd v2 0)])
 )
 ) fun o=>nx o (z9u G_strings_Split G_strings_IndexRune G_strconv_Atoi G_strings_IndexByte)
noncomputable def z9w (G_strings_Split:List V→M V) (G_strings_IndexRune:List V→M V) (G_strconv_Atoi:List V→M V) (G_strings_IndexByte:List V→M V) (vs:List V):M Out :=
 zb (G_strings_Split [(zd vs 0),(Value.string ⟨#[10]⟩)]) fun x14 =>
 zb (za (zw x14)) fun x16 =>
 zb (za (zu .sub x16 (Value.int .i64 1))) fun x17 =>
 zb (za (zh6 1 x14 none (some x17))) fun x21 =>
 zb ((zyf G_strings_IndexRune G_strconv_Atoi G_strings_IndexByte G_strings_Split) [x21]) fun x22 =>
 zb (za (ext 0 x22)) fun x23 =>
 zb (za (ext 1 x22)) fun x24 =>
 zb (za (ext 2 x22)) fun x25 =>
 zb (stn 9 (zd vs 1) x23) fun _ =>
 zb (
 zb (
 zb (za (zu .neq x25 (Value.int .i64 0))) fun x28 =>
 zp x28 (
 zb (za (build [Value.slice none 0 0,Value.slice none 0 0,Value.slice none 0 0,Value.int .i64 0,Value.slice none 0 0,Value.slice none 0 0,Value.int .i64 0,Value.slice none 0 0,Value.int .i64 0] [])) fun x29 =>
 zb (stn 9 (zd vs 1) x29) fun _ =>
 ret (.ret [(zd vs 1),x24,x25])
 ) (
 zb (za (zr 1 x14 x17)) fun x35 =>
 zb (zz x35) fun x36 =>
 zb (za (zu .neq x36 (Value.string ⟨#[]⟩))) fun x37 =>
 zp x37 (
 zb (za (build [Value.slice none 0 0,Value.slice none 0 0,Value.slice none 0 0,Value.int .i64 0,Value.slice none 0 0,Value.slice none 0 0,Value.int .i64 0,Value.slice none 0 0,Value.int .i64 0] [])) fun x38 =>
 zb (za (zu .add x17 (Value.int .i64 1))) fun x40 =>
 zb (stn 9 (zd vs 1) x38) fun _ =>
 ret (.ret [(zd vs 1),x40,(Value.int .i64 3)])
 ) (
 ret (.nxt [(zd vs 1)])
 )
 )
 ) fun o=>ret (zv 0 o)
 ) fun o=>nx o (z9v G_strings_Split G_strings_IndexRune G_strconv_Atoi G_strings_IndexByte)
noncomputable def z16 (G_strings_Split:List V→M V) (G_strings_IndexRune:List V→M V) (G_strconv_Atoi:List V→M V) (G_strings_IndexByte:List V→M V) (x0:V):M V :=
 zb (
 zb (newc [Value.slice none 0 0,Value.slice none 0 0,Value.slice none 0 0,Value.int .i64 0,Value.slice none 0 0,Value.slice none 0 0,Value.int .i64 0,Value.slice none 0 0,Value.int .i64 0]) fun x2 =>
 zb (
 zb (za (zd9 x0)) fun x10 =>
 zb (za (zu .gtr x10 (Value.int .i64 65536))) fun x11 =>
 zp x11 (
 zb (za (build [Value.slice none 0 0,Value.slice none 0 0,Value.slice none 0 0,Value.int .i64 0,Value.slice none 0 0,Value.slice none 0 0,Value.int .i64 0,Value.slice none 0 0,Value.int .i64 0] [])) fun x12 =>
 zb (stn 9 x2 x12) fun _ =>
 ret (.ret [x2,(Value.int .i64 0),(Value.int .i64 2)])
 ) (
 ret (.nxt [x0,x2])
 )
 ) fun o=>nx o (z9w G_strings_Split G_strings_IndexRune G_strconv_Atoi G_strings_IndexByte)
 ) fun o=>zbk o fun vs=>zb (ldn 9 (zd vs 0)) fun r0=>ret (zbi [r0,(zd vs 1),(zd vs 2)])
def zboe:Hint:=(.seq [] .leaf (.seq [0,2] (.seq [] .leaf (.cond (.seq [] .leaf .leaf) .leaf)) (.seq [] .leaf (.seq [] .leaf (.seq [] .leaf (.seq [2] (.blk (.seq [] .leaf (.cond (.seq [] .leaf .leaf) (.seq [] .leaf (.cond (.seq [] .leaf .leaf) .leaf))))) (.seq [2] (.seq [] .leaf (.seq [] .leaf (.cond (.seq [] .leaf .leaf) .leaf))) (.seq [] .leaf .leaf))))))))
noncomputable def zrf (G_strings_Split:List V→M V) (G_strings_IndexRune:List V→M V) (G_strconv_Atoi:List V→M V) (G_strings_IndexByte:List V→M V):List V→M V:=ap1 (z16 G_strings_Split G_strings_IndexRune G_strconv_Atoi G_strings_IndexByte)
theorem zbof {G_strings_Split:List V→M V} {G_strings_IndexRune:List V→M V} {G_strconv_Atoi:List V→M V} {G_strings_IndexByte:List V→M V} (k_strings_Split:zq Tryz.prog zcu G_strings_Split) (k_strings_IndexRune:zq Tryz.prog zy G_strings_IndexRune) (k_strconv_Atoi:zq Tryz.prog zbp G_strconv_Atoi) (k_strings_IndexByte:zq Tryz.prog zb3 G_strings_IndexByte):zq Tryz.prog z4q (zrf G_strings_Split G_strings_IndexRune G_strconv_Atoi G_strings_IndexByte):=kn1 (σ:=ovr [(zcu,G_strings_Split),(z8q,zyf G_strings_IndexRune G_strconv_Atoi G_strings_IndexByte G_strings_Split),(z4s,zvs G_strings_IndexRune)] noC) (hint:=zboe) (by kernel_rfl) (zh k_strings_Split (zh (zbqs k_strings_IndexRune k_strconv_Atoi k_strings_IndexByte k_strings_Split) (zh (zbms k_strings_IndexRune) zl))) fun _=>(by kernel_rfl)
noncomputable def zzu (G_strings_Split:List V→M V) (G_strings_IndexRune:List V→M V) (G_strconv_Atoi:List V→M V) (G_strings_IndexByte:List V→M V):M V :=
 zb (
 zb ((zrf G_strings_Split G_strings_IndexRune G_strconv_Atoi G_strings_IndexByte) [(Value.string ⟨#[109,105,108,108,105,115,32,49,48,10,102,114,97,109,101,32,53,48,10,105,100,108,101,32,57,10,119,105,110,100,111,119,32,48,32,48,32,50,48,10,117,110,105,116,10]⟩)]) fun x8 =>
 zb (za (ext 0 x8)) fun x9 =>
 zb (za (ext 1 x8)) fun x10 =>
 zb (za (ext 2 x8)) fun x11 =>
 zb (newc [Value.slice none 0 0,Value.slice none 0 0,Value.slice none 0 0,Value.int .i64 0,Value.slice none 0 0,Value.slice none 0 0,Value.int .i64 0,Value.slice none 0 0,Value.int .i64 0]) fun x1 =>
 zb (stn 9 x1 x9) fun _ =>
 zb ((zrf G_strings_Split G_strings_IndexRune G_strconv_Atoi G_strings_IndexByte) [(Value.string ⟨#[109,105,108,108,105,115,32,49,48,10,109,105,108,108,105,115,32,49,48,10]⟩)]) fun x13 =>
 zb (za (ext 0 x13)) fun x14 =>
 zb (za (ext 1 x13)) fun x15 =>
 zb (za (ext 2 x13)) fun x16 =>
 zb (newc [Value.slice none 0 0,Value.slice none 0 0,Value.slice none 0 0,Value.int .i64 0,Value.slice none 0 0,Value.slice none 0 0,Value.int .i64 0,Value.slice none 0 0,Value.int .i64 0]) fun x4 =>
 zb (stn 9 x4 x14) fun _ =>
 zb (za (zu .eql x10 (Value.int .i64 0))) fun x18 =>
 zb (gd x18 true (za (some x11))) fun x20 =>
 zb (gd x18 true (za (zu .eql x20 (Value.int .i64 0)))) fun x21 =>
 zb (za (z8 x18 x21 (Value.bool false))) fun x22 =>
 zb (gd x22 true (za (zf 0 x1))) fun x24 =>
 zb (gd x22 true (za (zf 6 x24))) fun x25 =>
 zb (gd x22 true (zz x25)) fun x26 =>
 zb (gd x22 true (za (zu .eql x26 (Value.int .i64 10)))) fun x27 =>
 zb (za (z8 x22 x27 (Value.bool false))) fun x28 =>
 zb (gd x28 true (za (zf 0 x1))) fun x30 =>
 zb (gd x28 true (za (zf 3 x30))) fun x31 =>
 zb (gd x28 true (za (zf 0 x31))) fun x32 =>
 zb (gd x28 true (zz x32)) fun x33 =>
 zb (gd x28 true (za (zu .eql x33 (Value.int .i64 50)))) fun x34 =>
 zb (za (z8 x28 x34 (Value.bool false))) fun x35 =>
 zb (gd x35 true (za (zf 8 x1))) fun x37 =>
 zb (gd x35 true (zz x37)) fun x38 =>
 zb (gd x35 true (za (zu .eql x38 (Value.int .i64 9)))) fun x39 =>
 zb (za (z8 x35 x39 (Value.bool false))) fun x40 =>
 zb (gd x40 true (za (zf 0 x1))) fun x42 =>
 zb (gd x40 true (za (zf 3 x42))) fun x43 =>
 zb (gd x40 true (za (zf 1 x43))) fun x44 =>
 zb (gd x40 true (zz x44)) fun x45 =>
 zb (gd x40 true (za (zw x45))) fun x46 =>
 zb (gd x40 true (za (zu .eql x46 (Value.int .i64 1)))) fun x47 =>
 zb (za (z8 x40 x47 (Value.bool false))) fun x48 =>
 zb (gd x48 true (za (zf 0 x1))) fun x50 =>
 zb (gd x48 true (za (zf 3 x50))) fun x51 =>
 zb (gd x48 true (za (zf 1 x51))) fun x52 =>
 zb (gd x48 true (zz x52)) fun x53 =>
 zb (gd x48 true (za (zr 3 x53 (Value.int .i64 0)))) fun x54 =>
 zb (gd x48 true (ldn 3 x54)) fun x55 =>
 zb (gd x48 true (za (build [Value.int .i64 0,Value.int .i64 0,Value.int .i64 0] [(2,1,(Value.int .i64 20))]))) fun x56 =>
 zb (gd x48 true (za (zer false (zpt [.i,.i,.i] x55 x56)))) fun x57 =>
 zb (za (z8 x48 x57 (Value.bool false))) fun x58 =>
 zb (gd x58 true (za (zf 0 x1))) fun x60 =>
 zb (gd x58 true (za (zf 5 x60))) fun x61 =>
 zb (gd x58 true (zz x61)) fun x62 =>
 zb (gd x58 true (za (zw x62))) fun x63 =>
 zb (gd x58 true (za (zu .eql x63 (Value.int .i64 1)))) fun x64 =>
 zb (za (z8 x58 x64 (Value.bool false))) fun x65 =>
 zb (gd x65 true (za (some x15))) fun x67 =>
 zb (gd x65 true (za (zu .eql x67 (Value.int .i64 2)))) fun x68 =>
 zb (za (z8 x65 x68 (Value.bool false))) fun x69 =>
 zb (gd x69 true (za (some x16))) fun x71 =>
 zb (gd x69 true (za (zu .eql x71 (Value.int .i64 6)))) fun x72 =>
 zb (za (z8 x69 x72 (Value.bool false))) fun x73 =>
 ret (.ret [x73])
 ) fun o=>zbk o fun vs=>ret (zbi [(zd vs 0)])
def zbk2:Hint:=(.seq [] .leaf (.seq [] .leaf (.seq [] .leaf (.seq [] .leaf .leaf))))
noncomputable def zoy (G_strings_Split:List V→M V) (G_strings_IndexRune:List V→M V) (G_strconv_Atoi:List V→M V) (G_strings_IndexByte:List V→M V):List V→M V:=ap0 (zzu G_strings_Split G_strings_IndexRune G_strconv_Atoi G_strings_IndexByte)
theorem zbk3 {G_strings_Split:List V→M V} {G_strings_IndexRune:List V→M V} {G_strconv_Atoi:List V→M V} {G_strings_IndexByte:List V→M V} (k_strings_Split:zq Tryz.prog zcu G_strings_Split) (k_strings_IndexRune:zq Tryz.prog zy G_strings_IndexRune) (k_strconv_Atoi:zq Tryz.prog zbp G_strconv_Atoi) (k_strings_IndexByte:zq Tryz.prog zb3 G_strings_IndexByte):zq Tryz.prog z2u (zoy G_strings_Split G_strings_IndexRune G_strconv_Atoi G_strings_IndexByte):=kn0 (σ:=ovr [(z4q,zrf G_strings_Split G_strings_IndexRune G_strconv_Atoi G_strings_IndexByte)] noC) (hint:=zbk2) (by kernel_rfl) (zh (zbof k_strings_Split k_strings_IndexRune k_strconv_Atoi k_strings_IndexByte) zl) (by kernel_rfl)
def zof (G_strings_Builder_WriteString:List V→M V) (G_strings_Builder_WriteByte:List V→M V) (G_strconv_Itoa:List V→M V) (v3:List V):M Out :=
 zb (za (zu .add (zd v3 3) (Value.int .i64 1))) fun x43 =>
 ret (.nxt [(zd v3 0),(zd v3 1),(zd v3 2),x43])
def zuw (G_strings_Builder_WriteString:List V→M V) (G_strings_Builder_WriteByte:List V→M V) (G_strconv_Itoa:List V→M V) (v2:List V):M Out :=
 zb (
 zb (
 zb (za (zr 1 (zd v2 1) (zd v2 3))) fun x19 =>
 zb (zz x19) fun x20 =>
 zb (za (zb2 (zd v2 0))) fun x22 =>
 zb (za (zf 0 x22)) fun x23 =>
 zb (G_strings_Builder_WriteByte [x23,(Value.int .u8 32)]) fun x24 =>
 zb (
 zb (za (zx5 zfe (some (Value.int .i64 0)) true x20)) fun x26 =>
 zb (za (ext 1 x26)) fun x27 =>
 zb (za (ext 0 x26)) fun x28 =>
 zp x27 (
 zb (za (zb2 (zd v2 0))) fun x30 =>
 zb (za (zf 0 x30)) fun x31 =>
 zb (G_strconv_Itoa [x28]) fun x33 =>
 zb (G_strings_Builder_WriteString [x31,x33]) fun x34 =>
 ret (.nxt [(zd v2 0),(zd v2 1),(zd v2 2),(zd v2 3)])
 ) (
 zb (za (zx5 zcz (some (Value.string ⟨#[]⟩)) true x20)) fun x35 =>
 zb (za (ext 1 x35)) fun x36 =>
 zb (za (ext 0 x35)) fun x37 =>
 zp x36 (
 zb (za (zb2 (zd v2 0))) fun x39 =>
 zb (za (zf 0 x39)) fun x40 =>
 zb (G_strings_Builder_WriteString [x40,x37]) fun x42 =>
 ret (.nxt [(zd v2 0),(zd v2 1),(zd v2 2),(zd v2 3)])
 ) (
 ret (.nxt [(zd v2 0),(zd v2 1),(zd v2 2),(zd v2 3)])
 )
 )
 ) fun o=>ret (zv 2 o)
 ) fun o=>ret (zv 1 o)
 ) fun o=>nx o (zof G_strings_Builder_WriteString G_strings_Builder_WriteByte G_strconv_Itoa)
def zog (G_strings_Builder_WriteString:List V→M V) (G_strings_Builder_WriteByte:List V→M V) (G_strconv_Itoa:List V→M V) (vs:List V):M Out :=
 zb (za (zu .lss (zd vs 3) (zd vs 2))) fun x18 =>
 zb (
 zp x18 (
 ret (.nxt [(zd vs 0),(zd vs 1),(zd vs 2),(zd vs 3)])
 ) (
 ret (.brk 0 [(zd vs 0)])
 )
 ) fun o=>nx o (zuw G_strings_Builder_WriteString G_strings_Builder_WriteByte G_strconv_Itoa)
def zux (G_strings_Builder_WriteString:List V→M V) (G_strings_Builder_WriteByte:List V→M V) (G_strconv_Itoa:List V→M V) (v4:List V):M Out :=
 zb (za (zb2 (zd v4 0))) fun x45 =>
 zb (za (zf 0 x45)) fun x46 =>
 zb (G_strings_Builder_WriteByte [x46,(Value.int .u8 10)]) fun x47 =>
 ret (.nxt [])
def zpp (G_strings_Builder_WriteString:List V→M V) (G_strings_Builder_WriteByte:List V→M V) (G_strconv_Itoa:List V→M V) (x0 x1 x2:V):M V :=
 zb (
 zb (za (zb2 x0)) fun x11 =>
 zb (za (zf 0 x11)) fun x12 =>
 zb (G_strings_Builder_WriteString [x12,x1]) fun x14 =>
 zb (
 zb (za (zw x2)) fun x16 =>
 zb (
 zba zbm (zog G_strings_Builder_WriteString G_strings_Builder_WriteByte G_strconv_Itoa) [x0,x2,x16,(Value.int .i64 0)]
 ) fun o=>ret (zv 0 o)
 ) fun o=>nx o (zux G_strings_Builder_WriteString G_strings_Builder_WriteByte G_strconv_Itoa)
 ) fun o=>zbk o fun vs=>ret (zbi [])
def zbbi:Hint:=(.seq [] .leaf (.seq [0] (.seq [] .leaf (.blk (.loop [0,15,16,17] (.seq [] .leaf (.seq [0,15,16,17] (.cond .leaf .leaf) (.seq [0,15,16,17] (.blk (.seq [] .leaf (.seq [] .leaf (.seq [] .leaf (.blk (.seq [] .leaf (.cond (.seq [] .leaf (.reg [0,1,2,3,4,5] [])) (.seq [] .leaf (.cond (.seq [] .leaf .leaf) .leaf))))))))) .leaf)))))) .leaf))
def zbe (G_strings_Builder_WriteString:List V→M V) (G_strings_Builder_WriteByte:List V→M V) (G_strconv_Itoa:List V→M V):List V→M V:=ap3 (zpp G_strings_Builder_WriteString G_strings_Builder_WriteByte G_strconv_Itoa)
theorem zw0 {G_strings_Builder_WriteString:List V→M V} {G_strings_Builder_WriteByte:List V→M V} {G_strconv_Itoa:List V→M V} (k_strings_Builder_WriteString:zq Tryz.prog zb5 G_strings_Builder_WriteString) (k_strings_Builder_WriteByte:zq Tryz.prog zcb G_strings_Builder_WriteByte) (k_strconv_Itoa:zq Tryz.prog zhc G_strconv_Itoa):zq Tryz.prog zlu (zbe G_strings_Builder_WriteString G_strings_Builder_WriteByte G_strconv_Itoa):=kn3 (σ:=ovr [(zb5,G_strings_Builder_WriteString),(zcb,G_strings_Builder_WriteByte),(zhc,G_strconv_Itoa)] noC) (hint:=zbbi) (by kernel_rfl) (zh k_strings_Builder_WriteString (zh k_strings_Builder_WriteByte (zh k_strconv_Itoa zl))) fun _ _ _=>(by kernel_rfl)
def zw1 (vs:List V):M Out :=
 ret (.ret [(zd vs 0)])
def zzv (x0 x1 x2:V):M V :=
 zb (
 zb (
 zp x0 (
 ret (.ret [x1])
 ) (
 ret (.nxt [x2])
 )
 ) fun o=>nx o zw1
 ) fun o=>zbk o fun vs=>ret (zbi [(zd vs 0)])
def zbk4:Hint:=(.seq [] .leaf (.seq [2] (.seq [] .leaf (.cond (.seq [] .leaf .leaf) .leaf)) (.seq [] .leaf .leaf)))
def ziv:List V→M V:=ap3 zzv
theorem zbk5:zq Tryz.prog z2v (ziv):=kn3 (σ:=ovr [] noC) (hint:=zbk4) (by kernel_rfl) zl fun _ _ _=>(by kernel_rfl)
def zsi (G_strings_Builder_WriteString:List V→M V) (G_strings_Builder_WriteByte:List V→M V) (G_strconv_Itoa:List V→M V) (v3:List V):M Out :=
 zb (za (zu .add (zd v3 4) (Value.int .i64 1))) fun x36 =>
 ret (.nxt [(zd v3 0),(zd v3 1),(zd v3 2),(zd v3 3),x36])
def zsj (G_strings_Builder_WriteString:List V→M V) (G_strings_Builder_WriteByte:List V→M V) (G_strconv_Itoa:List V→M V) (v2:List V):M Out :=
 zb (
 zb (
 zb (za (zr 2 (zd v2 2) (zd v2 4))) fun x23 =>
 zb (ldn 2 x23) fun x24 =>
 zb (newc [Value.int .i64 0,Value.bool false]) fun x5 =>
 zb (stn 2 x5 x24) fun _ =>
 ztu 1 fun base h0 =>
 zb (za (zf 1 x5)) fun x26 =>
 zb (za (zf 0 x5)) fun x29 =>
 zb (zz x26) fun x27 =>
 zb (zz x29) fun x30 =>
 zb (za (zn5 4 1 (ptr gid_conf_types 0) x30)) fun x31 =>
 zb (zz x31) fun x32 =>
 zb (za (some (Value.iface zcz x32))) fun x33 =>
 zbw (ziv [x27,(Value.string ⟨#[111,117,116]⟩),(Value.string ⟨#[105,110]⟩)]) fun ha x28 h1 =>
 zdj (zdq ha [base + 0] && zdq h1 [base + 0]) <|
 zb (flt (base + 0) (zcc 1 1 (rep 1 [Value.nilIface]) [(0,1,x33)])) fun x34 =>
 zbw ((zbe G_strings_Builder_WriteString G_strings_Builder_WriteByte G_strconv_Itoa) [(zd v2 0),x28,x34]) fun ha_2 x35 h2 =>
 zdj (chk (zz x29) h1 x30) <|
 zdj (chk (zz x31) h1 x32) <|
 ret (.nxt [(zd v2 0),(zd v2 1),(zd v2 2),(zd v2 3),(zd v2 4)])
 ) fun o=>ret (zv 1 o)
 ) fun o=>nx o (zsi G_strings_Builder_WriteString G_strings_Builder_WriteByte G_strconv_Itoa)
def zhv (G_strings_Builder_WriteString:List V→M V) (G_strings_Builder_WriteByte:List V→M V) (G_strconv_Itoa:List V→M V) (vs:List V):M Out :=
 zb (za (zu .lss (zd vs 4) (zd vs 3))) fun x22 =>
 zb (
 zp x22 (
 ret (.nxt [(zd vs 0),(zd vs 1),(zd vs 2),(zd vs 3),(zd vs 4)])
 ) (
 ret (.brk 0 [(zd vs 0),(zd vs 1)])
 )
 ) fun o=>nx o (zsj G_strings_Builder_WriteString G_strings_Builder_WriteByte G_strconv_Itoa)
def zsk (G_strings_Builder_WriteString:List V→M V) (G_strings_Builder_WriteByte:List V→M V) (G_strconv_Itoa:List V→M V) (v7:List V):M Out :=
 zb (za (zu .add (zd v7 4) (Value.int .i64 1))) fun x56 =>
 ret (.nxt [(zd v7 0),(zd v7 1),(zd v7 2),(zd v7 3),x56])
def zsl (G_strings_Builder_WriteString:List V→M V) (G_strings_Builder_WriteByte:List V→M V) (G_strconv_Itoa:List V→M V) (v6:List V):M Out :=
 zb (
 zb (
 zb (za (zr 3 (zd v6 2) (zd v6 4))) fun x42 =>
 zb (ldn 3 x42) fun x43 =>
 zb (newc [Value.int .i64 0,Value.int .i64 0,Value.bool false]) fun x7 =>
 zb (stn 3 x7 x43) fun _ =>
 ztu 1 fun base_2 h0_2 =>
 zb (za (zf 2 x7)) fun x45 =>
 zb (za (zf 0 x7)) fun x48 =>
 zb (za (zf 1 x7)) fun x51 =>
 zb (zz x45) fun x46 =>
 zb (zz x48) fun x49 =>
 zb (za (some (Value.iface zfe x49))) fun x50 =>
 zb (zz x51) fun x52 =>
 zb (za (some (Value.iface zfe x52))) fun x53 =>
 zbw (ziv [x46,(Value.string ⟨#[119,114,105,116,101]⟩),(Value.string ⟨#[114,101,97,100]⟩)]) fun ha_3 x47 h1_2 =>
 zdj (zdq ha_3 [base_2 + 0] && zdq h1_2 [base_2 + 0]) <|
 zb (flt (base_2 + 0) (zcc 1 2 (rep 2 [Value.nilIface]) [(0,1,x50),(1,1,x53)])) fun x54 =>
 zbw ((zbe G_strings_Builder_WriteString G_strings_Builder_WriteByte G_strconv_Itoa) [(zd v6 0),x47,x54]) fun ha_4 x55 h2_2 =>
 zdj (chk (zz x48) h1_2 x49) <|
 zdj (chk (zz x51) h1_2 x52) <|
 ret (.nxt [(zd v6 0),(zd v6 1),(zd v6 2),(zd v6 3),(zd v6 4)])
 ) fun o=>ret (zv 3 o)
 ) fun o=>nx o (zsk G_strings_Builder_WriteString G_strings_Builder_WriteByte G_strconv_Itoa)
def zhw (G_strings_Builder_WriteString:List V→M V) (G_strings_Builder_WriteByte:List V→M V) (G_strconv_Itoa:List V→M V) (v5:List V):M Out :=
 zb (za (zu .lss (zd v5 4) (zd v5 3))) fun x41 =>
 zb (
 zp x41 (
 ret (.nxt [(zd v5 0),(zd v5 1),(zd v5 2),(zd v5 3),(zd v5 4)])
 ) (
 ret (.brk 2 [(zd v5 0),(zd v5 1)])
 )
 ) fun o=>nx o (zsl G_strings_Builder_WriteString G_strings_Builder_WriteByte G_strconv_Itoa)
def zlc (G_strings_Builder_WriteString:List V→M V) (G_strings_Builder_WriteByte:List V→M V) (G_strconv_Itoa:List V→M V) (v11:List V):M Out :=
 zb (za (zu .add (zd v11 4) (Value.int .i64 1))) fun x98 =>
 ret (.nxt [(zd v11 0),(zd v11 1),(zd v11 2),(zd v11 3),x98])
def zsm (G_strings_Builder_WriteString:List V→M V) (G_strings_Builder_WriteByte:List V→M V) (G_strconv_Itoa:List V→M V) (v10:List V):M Out :=
 zb (
 zb (
 zb (za (zr 5 (zd v10 2) (zd v10 4))) fun x62 =>
 zb (ldn 5 x62) fun x63 =>
 zb (newc [Value.int .i64 0,Value.int .i64 0,Value.int .i64 0,Value.int .i64 0,Value.int .i64 0]) fun x9 =>
 zb (stn 5 x9 x63) fun _ =>
 zb (za (zf 0 x9)) fun x64 =>
 zb (zz x64) fun x65 =>
 zb (za (zu .eql x65 (Value.int .i64 1))) fun x66 =>
 zp x66 (
 zb (za (zf 1 x9)) fun x68 =>
 zb (za (zf 2 x9)) fun x71 =>
 zb (za (zf 3 x9)) fun x74 =>
 zb (zz x68) fun x69 =>
 zb (za (some (Value.iface zfe x69))) fun x70 =>
 zb (zz x71) fun x72 =>
 zb (za (some (Value.iface zfe x72))) fun x73 =>
 zb (zz x74) fun x75 =>
 zb (za (zn5 4 1 (ptr gid_conf_types 0) x75)) fun x76 =>
 zb (zz x76) fun x77 =>
 zb (za (some (Value.iface zcz x77))) fun x78 =>
 zb (zcc 1 3 (rep 3 [Value.nilIface]) [(0,1,x70),(1,1,x73),(2,1,x78)]) fun x79 =>
 zb ((zbe G_strings_Builder_WriteString G_strings_Builder_WriteByte G_strconv_Itoa) [(zd v10 0),(Value.string ⟨#[115,97,109,112,108,101]⟩),x79]) fun x80 =>
 ret (.nxt [(zd v10 0),(zd v10 1),(zd v10 2),(zd v10 3),(zd v10 4)])
 ) (
 zb (za (zf 1 x9)) fun x82 =>
 zb (za (zf 2 x9)) fun x85 =>
 zb (za (zf 3 x9)) fun x88 =>
 zb (za (zf 4 x9)) fun x93 =>
 zb (zz x82) fun x83 =>
 zb (za (some (Value.iface zfe x83))) fun x84 =>
 zb (zz x85) fun x86 =>
 zb (za (some (Value.iface zfe x86))) fun x87 =>
 zb (zz x88) fun x89 =>
 zb (za (zn5 4 1 (ptr gid_conf_types 0) x89)) fun x90 =>
 zb (zz x90) fun x91 =>
 zb (za (some (Value.iface zcz x91))) fun x92 =>
 zb (zz x93) fun x94 =>
 zb (za (some (Value.iface zfe x94))) fun x95 =>
 zb (zcc 1 4 (rep 4 [Value.nilIface]) [(0,1,x84),(1,1,x87),(2,1,x92),(3,1,x95)]) fun x96 =>
 zb ((zbe G_strings_Builder_WriteString G_strings_Builder_WriteByte G_strconv_Itoa) [(zd v10 0),(Value.string ⟨#[113,117,101,117,101]⟩),x96]) fun x97 =>
 ret (.nxt [(zd v10 0),(zd v10 1),(zd v10 2),(zd v10 3),(zd v10 4)])
 )
 ) fun o=>ret (zv 5 o)
 ) fun o=>nx o (zlc G_strings_Builder_WriteString G_strings_Builder_WriteByte G_strconv_Itoa)
def zhx (G_strings_Builder_WriteString:List V→M V) (G_strings_Builder_WriteByte:List V→M V) (G_strconv_Itoa:List V→M V) (v9:List V):M Out :=
 zb (za (zu .lss (zd v9 4) (zd v9 3))) fun x61 =>
 zb (
 zp x61 (
 ret (.nxt [(zd v9 0),(zd v9 1),(zd v9 2),(zd v9 3),(zd v9 4)])
 ) (
 ret (.brk 4 [(zd v9 0),(zd v9 1)])
 )
 ) fun o=>nx o (zsm G_strings_Builder_WriteString G_strings_Builder_WriteByte G_strconv_Itoa)
def zld (G_strings_Builder_WriteString:List V→M V) (G_strings_Builder_WriteByte:List V→M V) (G_strconv_Itoa:List V→M V) (v15:List V):M Out :=
 zb (za (zu .add (zd v15 4) (Value.int .i64 1))) fun x131 =>
 ret (.nxt [(zd v15 0),(zd v15 1),(zd v15 2),(zd v15 3),x131])
def zrg (G_strings_Builder_WriteString:List V→M V) (G_strings_Builder_WriteByte:List V→M V) (G_strconv_Itoa:List V→M V) (v14:List V):M Out :=
 zb (
 zb (
 zb (za (zr 3 (zd v14 2) (zd v14 4))) fun x105 =>
 zb (ldn 3 x105) fun x106 =>
 zb (newc [Value.int .i64 0,Value.int .i64 0,Value.int .i64 0]) fun x11 =>
 zb (stn 3 x11 x106) fun _ =>
 zb (za (zf 0 x11)) fun x107 =>
 zb (zz x107) fun x108 =>
 zb (za (zu .lss x108 (Value.int .i64 0))) fun x109 =>
 zp x109 (
 zb (za (zf 1 x11)) fun x111 =>
 zb (zz x111) fun x112 =>
 zb (za (some (Value.iface zfe x112))) fun x113 =>
 zb (za (zf 2 x11)) fun x114 =>
 zb (zz x114) fun x115 =>
 zb (za (some (Value.iface zfe x115))) fun x116 =>
 zb (zcc 1 2 (rep 2 [Value.nilIface]) [(0,1,x113),(1,1,x116)]) fun x117 =>
 zb ((zbe G_strings_Builder_WriteString G_strings_Builder_WriteByte G_strconv_Itoa) [(zd v14 0),(Value.string ⟨#[101,110,103,105,110,101,101,114,115]⟩),x117]) fun x118 =>
 ret (.nxt [(zd v14 0),(zd v14 1),(zd v14 2),(zd v14 3),(zd v14 4)])
 ) (
 zb (za (zf 0 x11)) fun x120 =>
 zb (zz x120) fun x121 =>
 zb (za (some (Value.iface zfe x121))) fun x122 =>
 zb (za (zf 1 x11)) fun x123 =>
 zb (zz x123) fun x124 =>
 zb (za (some (Value.iface zfe x124))) fun x125 =>
 zb (za (zf 2 x11)) fun x126 =>
 zb (zz x126) fun x127 =>
 zb (za (some (Value.iface zfe x127))) fun x128 =>
 zb (zcc 1 3 (rep 3 [Value.nilIface]) [(0,1,x122),(1,1,x125),(2,1,x128)]) fun x129 =>
 zb ((zbe G_strings_Builder_WriteString G_strings_Builder_WriteByte G_strconv_Itoa) [(zd v14 0),(Value.string ⟨#[119,105,110,100,111,119]⟩),x129]) fun x130 =>
 ret (.nxt [(zd v14 0),(zd v14 1),(zd v14 2),(zd v14 3),(zd v14 4)])
 )
 ) fun o=>ret (zv 7 o)
 ) fun o=>nx o (zld G_strings_Builder_WriteString G_strings_Builder_WriteByte G_strconv_Itoa)
def zg3 (G_strings_Builder_WriteString:List V→M V) (G_strings_Builder_WriteByte:List V→M V) (G_strconv_Itoa:List V→M V) (v13:List V):M Out :=
 zb (za (zu .lss (zd v13 4) (zd v13 3))) fun x104 =>
 zb (
 zp x104 (
 ret (.nxt [(zd v13 0),(zd v13 1),(zd v13 2),(zd v13 3),(zd v13 4)])
 ) (
 ret (.brk 6 [(zd v13 0),(zd v13 1)])
 )
 ) fun o=>nx o (zrg G_strings_Builder_WriteString G_strings_Builder_WriteByte G_strconv_Itoa)
def zrh (G_strings_Builder_WriteString:List V→M V) (G_strings_Builder_WriteByte:List V→M V) (G_strconv_Itoa:List V→M V) (v21:List V):M Out :=
 zb (za (zu .add (zd v21 7) (Value.int .i64 1))) fun x159 =>
 ret (.nxt [(zd v21 0),(zd v21 1),(zd v21 2),(zd v21 3),(zd v21 4),(zd v21 5),(zd v21 6),x159])
def zri (G_strings_Builder_WriteString:List V→M V) (G_strings_Builder_WriteByte:List V→M V) (G_strconv_Itoa:List V→M V) (v20:List V):M Out :=
 zb (
 zb (
 zb (za (zr 2 (zd v20 5) (zd v20 7))) fun x146 =>
 zb (ldn 2 x146) fun x147 =>
 zb (newc [Value.int .i64 0,Value.int .i64 0]) fun x15 =>
 zb (stn 2 x15 x147) fun _ =>
 zh0 fun h0_3 =>
 zb (za (zf 0 x15)) fun x149 =>
 zb (za (zf 1 x15)) fun x154 =>
 zb (zz x149) fun x150 =>
 zb (za (zu .eql x150 (Value.int .i64 1))) fun x151 =>
 zb (zz x154) fun x155 =>
 zb (za (some (Value.iface zfe x155))) fun x156 =>
 zbw (ziv [x151,(Value.string ⟨#[112,111,105,110,116]⟩),(Value.string ⟨#[112,111,114,116]⟩)]) fun ha_5 x152 h1_3 =>
 zb (za (some (Value.iface zcz x152))) fun x153 =>
 zbw (zcc 1 2 (rep 2 [Value.nilIface]) [(0,1,x153),(1,1,x156)]) fun ha_6 x157 h2_3 =>
 zbw ((zbe G_strings_Builder_WriteString G_strings_Builder_WriteByte G_strconv_Itoa) [(zd v20 0),(Value.string ⟨#[103,101,116]⟩),x157]) fun ha_7 x158 h3 =>
 zdj (chk (zz x154) h1_3 x155) <|
 ret (.nxt [(zd v20 0),(zd v20 1),(zd v20 2),(zd v20 3),(zd v20 4),(zd v20 5),(zd v20 6),(zd v20 7)])
 ) fun o=>ret (zv 11 o)
 ) fun o=>nx o (zrh G_strings_Builder_WriteString G_strings_Builder_WriteByte G_strconv_Itoa)
def zg4 (G_strings_Builder_WriteString:List V→M V) (G_strings_Builder_WriteByte:List V→M V) (G_strconv_Itoa:List V→M V) (v19:List V):M Out :=
 zb (za (zu .lss (zd v19 7) (zd v19 6))) fun x145 =>
 zb (
 zp x145 (
 ret (.nxt [(zd v19 0),(zd v19 1),(zd v19 2),(zd v19 3),(zd v19 4),(zd v19 5),(zd v19 6),(zd v19 7)])
 ) (
 ret (.brk 10 [(zd v19 0),(zd v19 1),(zd v19 2),(zd v19 3),(zd v19 4)])
 )
 ) fun o=>nx o (zri G_strings_Builder_WriteString G_strings_Builder_WriteByte G_strconv_Itoa)
def zrj (G_strings_Builder_WriteString:List V→M V) (G_strings_Builder_WriteByte:List V→M V) (G_strconv_Itoa:List V→M V) (v25:List V):M Out :=
 zb (za (zu .add (zd v25 6) (Value.int .i64 1))) fun x178 =>
 ret (.nxt [(zd v25 0),(zd v25 1),(zd v25 2),(zd v25 3),(zd v25 4),(zd v25 5),x178])
def zrk (G_strings_Builder_WriteString:List V→M V) (G_strings_Builder_WriteByte:List V→M V) (G_strconv_Itoa:List V→M V) (v24:List V):M Out :=
 zb (
 zb (
 zb (za (zr 2 (zd v24 4) (zd v24 6))) fun x165 =>
 zb (ldn 2 x165) fun x166 =>
 zb (newc [Value.int .i64 0,Value.int .i64 0]) fun x17 =>
 zb (stn 2 x17 x166) fun _ =>
 zh0 fun h0_4 =>
 zb (za (zf 0 x17)) fun x168 =>
 zb (za (zf 1 x17)) fun x173 =>
 zb (zz x168) fun x169 =>
 zb (za (zu .eql x169 (Value.int .i64 1))) fun x170 =>
 zb (zz x173) fun x174 =>
 zb (za (some (Value.iface zfe x174))) fun x175 =>
 zbw (ziv [x170,(Value.string ⟨#[112,111,105,110,116]⟩),(Value.string ⟨#[112,111,114,116]⟩)]) fun ha_8 x171 h1_4 =>
 zb (za (some (Value.iface zcz x171))) fun x172 =>
 zbw (zcc 1 2 (rep 2 [Value.nilIface]) [(0,1,x172),(1,1,x175)]) fun ha_9 x176 h2_4 =>
 zbw ((zbe G_strings_Builder_WriteString G_strings_Builder_WriteByte G_strconv_Itoa) [(zd v24 0),(Value.string ⟨#[112,117,116]⟩),x176]) fun ha_10 x177 h3_2 =>
 zdj (chk (zz x173) h1_4 x174) <|
 ret (.nxt [(zd v24 0),(zd v24 1),(zd v24 2),(zd v24 3),(zd v24 4),(zd v24 5),(zd v24 6)])
 ) fun o=>ret (zv 13 o)
 ) fun o=>nx o (zrj G_strings_Builder_WriteString G_strings_Builder_WriteByte G_strconv_Itoa)
def zg5 (G_strings_Builder_WriteString:List V→M V) (G_strings_Builder_WriteByte:List V→M V) (G_strconv_Itoa:List V→M V) (v23:List V):M Out :=
 zb (za (zu .lss (zd v23 6) (zd v23 5))) fun x164 =>
 zb (
 zp x164 (
 ret (.nxt [(zd v23 0),(zd v23 1),(zd v23 2),(zd v23 3),(zd v23 4),(zd v23 5),(zd v23 6)])
 ) (
 ret (.brk 12 [(zd v23 0),(zd v23 1),(zd v23 2),(zd v23 3)])
 )
 ) fun o=>nx o (zrk G_strings_Builder_WriteString G_strings_Builder_WriteByte G_strconv_Itoa)
def zrl (G_strings_Builder_WriteString:List V→M V) (G_strings_Builder_WriteByte:List V→M V) (G_strconv_Itoa:List V→M V) (v22:List V):M Out :=
 zb (za (zf 1 (zd v22 1))) fun x160 =>
 zb (zz x160) fun x161 =>
 zb (za (zw x161)) fun x162 =>
 zb (
 zba zbm (zg5 G_strings_Builder_WriteString G_strings_Builder_WriteByte G_strconv_Itoa) [(zd v22 0),(zd v22 2),(zd v22 3),(zd v22 4),x161,x162,(Value.int .i64 0)]
 ) fun o=>ret (zv 12 o)
def zrm (G_strings_Builder_WriteString:List V→M V) (G_strings_Builder_WriteByte:List V→M V) (G_strconv_Itoa:List V→M V) (v26:List V):M Out :=
 zb (za (zu .add (zd v26 3) (Value.int .i64 1))) fun x179 =>
 ret (.nxt [(zd v26 0),(zd v26 1),(zd v26 2),x179])
def zrn (G_strings_Builder_WriteString:List V→M V) (G_strings_Builder_WriteByte:List V→M V) (G_strconv_Itoa:List V→M V) (v18:List V):M Out :=
 zb (
 zb (
 zb (za (zr 2 (zd v18 1) (zd v18 3))) fun x137 =>
 zb (ldn 2 x137) fun x138 =>
 zb (newc [Value.slice none 0 0,Value.slice none 0 0]) fun x13 =>
 zb (stn 2 x13 x138) fun _ =>
 zb ((zbe G_strings_Builder_WriteString G_strings_Builder_WriteByte G_strconv_Itoa) [(zd v18 0),(Value.string ⟨#[117,110,105,116]⟩),(Value.slice none 0 0)]) fun x140 =>
 zb (
 zb (za (zf 0 x13)) fun x141 =>
 zb (zz x141) fun x142 =>
 zb (za (zw x142)) fun x143 =>
 zb (
 zba zbm (zg4 G_strings_Builder_WriteString G_strings_Builder_WriteByte G_strconv_Itoa) [(zd v18 0),x13,(zd v18 1),(zd v18 2),(zd v18 3),x142,x143,(Value.int .i64 0)]
 ) fun o=>ret (zv 10 o)
 ) fun o=>nx o (zrl G_strings_Builder_WriteString G_strings_Builder_WriteByte G_strconv_Itoa)
 ) fun o=>ret (zv 9 o)
 ) fun o=>nx o (zrm G_strings_Builder_WriteString G_strings_Builder_WriteByte G_strconv_Itoa)
def zg6 (G_strings_Builder_WriteString:List V→M V) (G_strings_Builder_WriteByte:List V→M V) (G_strconv_Itoa:List V→M V) (v17:List V):M Out :=
 zb (za (zu .lss (zd v17 3) (zd v17 2))) fun x136 =>
 zb (
 zp x136 (
 ret (.nxt [(zd v17 0),(zd v17 1),(zd v17 2),(zd v17 3)])
 ) (
 ret (.brk 8 [])
 )
 ) fun o=>nx o (zrn G_strings_Builder_WriteString G_strings_Builder_WriteByte G_strconv_Itoa)
def zro (G_strings_Builder_WriteString:List V→M V) (G_strings_Builder_WriteByte:List V→M V) (G_strconv_Itoa:List V→M V) (v16:List V):M Out :=
 zb (za (zf 5 (zd v16 1))) fun x132 =>
 zb (zz x132) fun x133 =>
 zb (za (zw x133)) fun x134 =>
 zb (
 zba zbm (zg6 G_strings_Builder_WriteString G_strings_Builder_WriteByte G_strconv_Itoa) [(zd v16 0),x133,x134,(Value.int .i64 0)]
 ) fun o=>ret (zv 8 o)
def zrp (G_strings_Builder_WriteString:List V→M V) (G_strings_Builder_WriteByte:List V→M V) (G_strconv_Itoa:List V→M V) (v12:List V):M Out :=
 zb (
 zb (za (zf 3 (zd v12 1))) fun x99 =>
 zb (za (zf 1 x99)) fun x100 =>
 zb (zz x100) fun x101 =>
 zb (za (zw x101)) fun x102 =>
 zb (
 zba zbm (zg3 G_strings_Builder_WriteString G_strings_Builder_WriteByte G_strconv_Itoa) [(zd v12 0),(zd v12 1),x101,x102,(Value.int .i64 0)]
 ) fun o=>ret (zv 6 o)
 ) fun o=>nx o (zro G_strings_Builder_WriteString G_strings_Builder_WriteByte G_strconv_Itoa)
def zrq (G_strings_Builder_WriteString:List V→M V) (G_strings_Builder_WriteByte:List V→M V) (G_strconv_Itoa:List V→M V) (v8:List V):M Out :=
 zb (
 zb (za (zf 2 (zd v8 1))) fun x57 =>
 zb (zz x57) fun x58 =>
 zb (za (zw x58)) fun x59 =>
 zb (
 zba zbm (zhx G_strings_Builder_WriteString G_strings_Builder_WriteByte G_strconv_Itoa) [(zd v8 0),(zd v8 1),x58,x59,(Value.int .i64 0)]
 ) fun o=>ret (zv 4 o)
 ) fun o=>nx o (zrp G_strings_Builder_WriteString G_strings_Builder_WriteByte G_strconv_Itoa)
def zrr (G_strings_Builder_WriteString:List V→M V) (G_strings_Builder_WriteByte:List V→M V) (G_strconv_Itoa:List V→M V) (v4:List V):M Out :=
 zb (
 zb (za (zf 1 (zd v4 1))) fun x37 =>
 zb (zz x37) fun x38 =>
 zb (za (zw x38)) fun x39 =>
 zb (
 zba zbm (zhw G_strings_Builder_WriteString G_strings_Builder_WriteByte G_strconv_Itoa) [(zd v4 0),(zd v4 1),x38,x39,(Value.int .i64 0)]
 ) fun o=>ret (zv 2 o)
 ) fun o=>nx o (zrq G_strings_Builder_WriteString G_strings_Builder_WriteByte G_strconv_Itoa)
def zmr (G_strings_Builder_WriteString:List V→M V) (G_strings_Builder_WriteByte:List V→M V) (G_strconv_Itoa:List V→M V) (x0 x1:V):M V :=
 zb (
 zb (zdc x1) fun x3 =>
 zb (
 zb (za (zf 0 x3)) fun x18 =>
 zb (zz x18) fun x19 =>
 zb (za (zw x19)) fun x20 =>
 zb (
 zba zbm (zhv G_strings_Builder_WriteString G_strings_Builder_WriteByte G_strconv_Itoa) [x0,x3,x19,x20,(Value.int .i64 0)]
 ) fun o=>ret (zv 0 o)
 ) fun o=>nx o (zrr G_strings_Builder_WriteString G_strings_Builder_WriteByte G_strconv_Itoa)
 ) fun o=>zbk o fun vs=>ret (zbi [])
def z5v:Hint:=(.seq [] .leaf (.seq [0,3] (.seq [] .leaf (.blk (.loop [0,3,19,20,21] (.seq [] .leaf (.seq [0,3,19,20,21] (.cond .leaf .leaf) (.seq [0,3,19,20,21] (.blk (.seq [] .leaf (.reg [0,1,4,2,5,6,7,8,3,9,10] [9]))) .leaf)))))) (.seq [0,3] (.seq [] .leaf (.blk (.loop [0,3,38,39,40] (.seq [] .leaf (.seq [0,3,38,39,40] (.cond .leaf .leaf) (.seq [0,3,38,39,40] (.blk (.seq [] .leaf (.reg [0,1,4,7,2,5,6,8,9,3,10,11] [10]))) .leaf)))))) (.seq [0,3] (.seq [] .leaf (.blk (.loop [0,3,58,59,60] (.seq [] .leaf (.seq [0,3,58,59,60] (.cond .leaf .leaf) (.seq [0,3,58,59,60] (.blk (.seq [] .leaf (.seq [] .leaf (.cond (.reg [0,1,4,7,2,3,5,6,8,9,10,11,12,13] []) (.reg [0,1,4,7,12,2,3,5,6,8,9,10,11,13,14,15,16] []))))) .leaf)))))) (.seq [0,3] (.seq [] .leaf (.blk (.loop [0,3,101,102,103] (.seq [] .leaf (.seq [0,3,101,102,103] (.cond .leaf .leaf) (.seq [0,3,101,102,103] (.blk (.seq [] .leaf (.seq [] .leaf (.cond .leaf .leaf)))) .leaf)))))) (.seq [] .leaf (.blk (.loop [0,133,134,135] (.seq [] .leaf (.seq [0,133,134,135] (.cond .leaf .leaf) (.seq [0,133,134,135] (.blk (.seq [] .leaf (.seq [] .leaf (.seq [0,13,133,134,135] (.seq [] .leaf (.blk (.loop [0,13,133,134,135,142,143,144] (.seq [] .leaf (.seq [0,13,133,134,135,142,143,144] (.cond .leaf .leaf) (.seq [0,13,133,134,135,142,143,144] (.blk (.seq [] .leaf (.reg [0,1,6,2,3,7,8,4,5,9,10] []))) .leaf)))))) (.seq [] .leaf (.blk (.loop [0,133,134,135,161,162,163] (.seq [] .leaf (.seq [0,133,134,135,161,162,163] (.cond .leaf .leaf) (.seq [0,133,134,135,161,162,163] (.blk (.seq [] .leaf (.reg [0,1,6,2,3,7,8,4,5,9,10] []))) .leaf)))))))))) .leaf)))))))))))
def zih (G_strings_Builder_WriteString:List V→M V) (G_strings_Builder_WriteByte:List V→M V) (G_strconv_Itoa:List V→M V):List V→M V:=ap2 (zmr G_strings_Builder_WriteString G_strings_Builder_WriteByte G_strconv_Itoa)
theorem z5w {G_strings_Builder_WriteString:List V→M V} {G_strings_Builder_WriteByte:List V→M V} {G_strconv_Itoa:List V→M V} (k_strings_Builder_WriteString:zq Tryz.prog zb5 G_strings_Builder_WriteString) (k_strings_Builder_WriteByte:zq Tryz.prog zcb G_strings_Builder_WriteByte) (k_strconv_Itoa:zq Tryz.prog zhc G_strconv_Itoa):zq Tryz.prog zqs (zih G_strings_Builder_WriteString G_strings_Builder_WriteByte G_strconv_Itoa):=kn2 (σ:=ovr [(z2v,ziv),(zlu,zbe G_strings_Builder_WriteString G_strings_Builder_WriteByte G_strconv_Itoa)] noC) (hint:=z5v) (by kernel_rfl) (zh zbk5 (zh (zw0 k_strings_Builder_WriteString k_strings_Builder_WriteByte k_strconv_Itoa) zl)) fun _ _=>(by kernel_rfl)
def zbjf (v3:List V):M Out :=
 zb (za (zu .add (zd v3 3) (Value.int .i64 1))) fun x23 =>
 ret (.nxt [(zd v3 0),(zd v3 1),(zd v3 2),x23])
def zbjg (v2:List V):M Out :=
 zb (
 zb (
 zb (za (zjm (zd v2 0) (zd v2 3))) fun x13 =>
 zb (za (zu .shr x13 (Value.int .u64 4))) fun x14 =>
 zb (za (zjm (Value.string ⟨#[48,49,50,51,52,53,54,55,56,57,97,98,99,100,101,102]⟩) x14)) fun x15 =>
 zb (za (zjm (zd v2 0) (zd v2 3))) fun x18 =>
 zb (za (zu .and x18 (Value.int .u8 15))) fun x19 =>
 zb (za (zjm (Value.string ⟨#[48,49,50,51,52,53,54,55,56,57,97,98,99,100,101,102]⟩) x19)) fun x20 =>
 zb (zcc 1 2 (rep 2 [Value.int .u8 0]) [(0,1,x15),(1,1,x20)]) fun x21 =>
 zb (zd0 1 1 (zd v2 1) x21) fun x22 =>
 ret (.nxt [(zd v2 0),x22,(zd v2 2),(zd v2 3)])
 ) fun o=>ret (zv 1 o)
 ) fun o=>nx o zbjf
def zbbj (vs:List V):M Out :=
 zb (za (zu .lss (zd vs 3) (zd vs 2))) fun x8 =>
 zb (
 zp x8 (
 ret (.nxt [(zd vs 0),(zd vs 1),(zd vs 2),(zd vs 3)])
 ) (
 ret (.brk 0 [(zd vs 1)])
 )
 ) fun o=>nx o zbjg
def zbjh (v4:List V):M Out :=
 zb (b2s (zd v4 0)) fun x25 =>
 ret (.ret [x25])
def zbfl (x0:V):M V :=
 zb (
 zb (
 zb (za (zd9 x0)) fun x6 =>
 zb (
 zba zbm zbbj [x0,(Value.slice none 0 0),x6,(Value.int .i64 0)]
 ) fun o=>ret (zv 0 o)
 ) fun o=>nx o zbjh
 ) fun o=>zbk o fun vs=>ret (zbi [(zd vs 0)])
def zbxh:Hint:=(.seq [] .leaf (.seq [] .leaf (.seq [3] (.seq [] .leaf (.blk (.loop [0,3,6,7] (.seq [] .leaf (.seq [0,3,6,7] (.cond .leaf .leaf) (.seq [0,3,6,7] (.blk (.seq [] .leaf (.reg [0,1,2,3,4,5,6,7,8,9,10,11,12,13] []))) .leaf)))))) (.seq [] .leaf .leaf))))
def z72:List V→M V:=ap1 zbfl
theorem zbxi:zq Tryz.prog zbf6 (z72):=kn1 (σ:=ovr [] noC) (hint:=zbxh) (by kernel_rfl) zl fun _=>(by kernel_rfl)
noncomputable def zbc7 (G_strings_IndexRune:List V→M V) (G_strings_Builder_WriteString:List V→M V) (G_strings_Builder_WriteByte:List V→M V) (G_strconv_Itoa:List V→M V) (G_strings_Builder_Len:List V→M V) (G_strings_Builder_String:List V→M V) (v6:List V):M Out :=
 zb (za (zu .add (zd v6 6) (Value.int .i64 1))) fun x86 =>
 ret (.nxt [(zd v6 0),(zd v6 1),(zd v6 2),(zd v6 3),(zd v6 4),(zd v6 5),x86])
noncomputable def zbc8 (G_strings_IndexRune:List V→M V) (G_strings_Builder_WriteString:List V→M V) (G_strings_Builder_WriteByte:List V→M V) (G_strconv_Itoa:List V→M V) (G_strings_Builder_Len:List V→M V) (G_strings_Builder_String:List V→M V) (v5:List V):M Out :=
 zb (
 zb (
 zb (za (zr 2 (zd v5 4) (zd v5 6))) fun x73 =>
 zb (ldn 2 x73) fun x74 =>
 zb (newc [Value.int .i64 0,Value.int .i64 0]) fun x10 =>
 zb (stn 2 x10 x74) fun _ =>
 zb (za (zf 0 x10)) fun x76 =>
 zb (za (zf 1 x10)) fun x79 =>
 zb (zz x76) fun x77 =>
 zb (za (some (Value.iface zfe x77))) fun x78 =>
 zb (zz x79) fun x80 =>
 zb (za (zn5 5 1 (ptr gid_conf_levels 0) x80)) fun x81 =>
 zb (zz x81) fun x82 =>
 zb (za (some (Value.iface zcz x82))) fun x83 =>
 zb (zcc 1 2 (rep 2 [Value.nilIface]) [(0,1,x78),(1,1,x83)]) fun x84 =>
 zb ((zbe G_strings_Builder_WriteString G_strings_Builder_WriteByte G_strconv_Itoa) [(zd v5 0),(Value.string ⟨#[114,111,108,101]⟩),x84]) fun x85 =>
 ret (.nxt [(zd v5 0),(zd v5 1),(zd v5 2),(zd v5 3),(zd v5 4),(zd v5 5),(zd v5 6)])
 ) fun o=>ret (zv 3 o)
 ) fun o=>nx o (zbc7 G_strings_IndexRune G_strings_Builder_WriteString G_strings_Builder_WriteByte G_strconv_Itoa G_strings_Builder_Len G_strings_Builder_String)
noncomputable def zvh (G_strings_IndexRune:List V→M V) (G_strings_Builder_WriteString:List V→M V) (G_strings_Builder_WriteByte:List V→M V) (G_strconv_Itoa:List V→M V) (G_strings_Builder_Len:List V→M V) (G_strings_Builder_String:List V→M V) (v4:List V):M Out :=
 zb (za (zu .lss (zd v4 6) (zd v4 5))) fun x72 =>
 zb (
 zp x72 (
 ret (.nxt [(zd v4 0),(zd v4 1),(zd v4 2),(zd v4 3),(zd v4 4),(zd v4 5),(zd v4 6)])
 ) (
 ret (.brk 2 [(zd v4 0),(zd v4 1),(zd v4 2),(zd v4 3)])
 )
 ) fun o=>nx o (zbc8 G_strings_IndexRune G_strings_Builder_WriteString G_strings_Builder_WriteByte G_strconv_Itoa G_strings_Builder_Len G_strings_Builder_String)
noncomputable def zbc9 (G_strings_IndexRune:List V→M V) (G_strings_Builder_WriteString:List V→M V) (G_strings_Builder_WriteByte:List V→M V) (G_strconv_Itoa:List V→M V) (G_strings_Builder_Len:List V→M V) (G_strings_Builder_String:List V→M V) (v7:List V):M Out :=
 zb (za (zu .add (zd v7 3) (Value.int .i64 1))) fun x87 =>
 ret (.nxt [(zd v7 0),(zd v7 1),(zd v7 2),x87])
noncomputable def zbda (G_strings_IndexRune:List V→M V) (G_strings_Builder_WriteString:List V→M V) (G_strings_Builder_WriteByte:List V→M V) (G_strconv_Itoa:List V→M V) (G_strings_Builder_Len:List V→M V) (G_strings_Builder_String:List V→M V) (v3:List V):M Out :=
 zb (
 zb (
 zb (za (zr 3 (zd v3 1) (zd v3 3))) fun x56 =>
 zb (ldn 3 x56) fun x57 =>
 zb (newc [Value.string ⟨#[]⟩,Value.string ⟨#[]⟩,Value.slice none 0 0]) fun x8 =>
 zb (stn 3 x8 x57) fun _ =>
 zh0 fun h0 =>
 zb (za (zf 0 x8)) fun x59 =>
 zb (za (zf 1 x8)) fun x62 =>
 zb (zz x59) fun x60 =>
 zb (za (some (Value.iface zcz x60))) fun x61 =>
 zb (zz x62) fun x63 =>
 zbw (z72 [x63]) fun ha x64 h1 =>
 zb (za (some (Value.iface zcz x64))) fun x65 =>
 zbw (zcc 1 2 (rep 2 [Value.nilIface]) [(0,1,x61),(1,1,x65)]) fun ha_2 x66 h2 =>
 zbw ((zbe G_strings_Builder_WriteString G_strings_Builder_WriteByte G_strconv_Itoa) [(zd v3 0),(Value.string ⟨#[117,115,101,114]⟩),x66]) fun ha_3 x67 h3 =>
 zdj (chk (zz x59) h1 x60) <|
 zb (za (zf 2 x8)) fun x68 =>
 zb (zz x68) fun x69 =>
 zb (za (zw x69)) fun x70 =>
 zb (
 zba zbm (zvh G_strings_IndexRune G_strings_Builder_WriteString G_strings_Builder_WriteByte G_strconv_Itoa G_strings_Builder_Len G_strings_Builder_String) [(zd v3 0),(zd v3 1),(zd v3 2),(zd v3 3),x69,x70,(Value.int .i64 0)]
 ) fun o=>ret (zv 2 o)
 ) fun o=>ret (zv 1 o)
 ) fun o=>nx o (zbc9 G_strings_IndexRune G_strings_Builder_WriteString G_strings_Builder_WriteByte G_strconv_Itoa G_strings_Builder_Len G_strings_Builder_String)
noncomputable def zvi (G_strings_IndexRune:List V→M V) (G_strings_Builder_WriteString:List V→M V) (G_strings_Builder_WriteByte:List V→M V) (G_strconv_Itoa:List V→M V) (G_strings_Builder_Len:List V→M V) (G_strings_Builder_String:List V→M V) (v2:List V):M Out :=
 zb (za (zu .lss (zd v2 3) (zd v2 2))) fun x55 =>
 zb (
 zp x55 (
 ret (.nxt [(zd v2 0),(zd v2 1),(zd v2 2),(zd v2 3)])
 ) (
 ret (.brk 0 [(zd v2 0)])
 )
 ) fun o=>nx o (zbda G_strings_IndexRune G_strings_Builder_WriteString G_strings_Builder_WriteByte G_strconv_Itoa G_strings_Builder_Len G_strings_Builder_String)
noncomputable def zbdb (G_strings_IndexRune:List V→M V) (G_strings_Builder_WriteString:List V→M V) (G_strings_Builder_WriteByte:List V→M V) (G_strconv_Itoa:List V→M V) (G_strings_Builder_Len:List V→M V) (G_strings_Builder_String:List V→M V) (v9:List V):M Out :=
 zb (za (zb2 (zd v9 0))) fun x94 =>
 zb (za (zf 0 x94)) fun x95 =>
 zb (G_strings_Builder_String [x95]) fun x96 =>
 ret (.ret [x96,(Value.int .i64 0)])
noncomputable def zbdc (G_strings_IndexRune:List V→M V) (G_strings_Builder_WriteString:List V→M V) (G_strings_Builder_WriteByte:List V→M V) (G_strconv_Itoa:List V→M V) (G_strings_Builder_Len:List V→M V) (G_strings_Builder_String:List V→M V) (v8:List V):M Out :=
 zb (
 zb (za (zb2 (zd v8 0))) fun x89 =>
 zb (za (zf 0 x89)) fun x90 =>
 zb (G_strings_Builder_Len [x90]) fun x91 =>
 zb (za (zu .gtr x91 (Value.int .i64 65536))) fun x92 =>
 zp x92 (
 ret (.ret [(Value.string ⟨#[]⟩),(Value.int .i64 2)])
 ) (
 ret (.nxt [(zd v8 0)])
 )
 ) fun o=>nx o (zbdb G_strings_IndexRune G_strings_Builder_WriteString G_strings_Builder_WriteByte G_strconv_Itoa G_strings_Builder_Len G_strings_Builder_String)
noncomputable def zbdd (G_strings_IndexRune:List V→M V) (G_strings_Builder_WriteString:List V→M V) (G_strings_Builder_WriteByte:List V→M V) (G_strconv_Itoa:List V→M V) (G_strings_Builder_Len:List V→M V) (G_strings_Builder_String:List V→M V) (vs:List V):M Out :=
 zb (za (build [Value.pointer none,Value.slice none 0 0] [])) fun x24 =>
 zb (bldM z29 x24) fun x25 =>
 zb (za (zf 0 (zd vs 0))) fun x27 =>
 zb (za (zf 6 x27)) fun x28 =>
 zb (zz x28) fun x29 =>
 zb (za (some (Value.iface zfe x29))) fun x30 =>
 zb (zcc 1 1 (rep 1 [Value.nilIface]) [(0,1,x30)]) fun x31 =>
 zb ((zbe G_strings_Builder_WriteString G_strings_Builder_WriteByte G_strconv_Itoa) [x25,(Value.string ⟨#[109,105,108,108,105,115]⟩),x31]) fun x32 =>
 zb (za (zf 0 (zd vs 0))) fun x34 =>
 zb (za (zf 3 x34)) fun x35 =>
 zb (za (zf 0 x35)) fun x36 =>
 zb (zz x36) fun x37 =>
 zb (za (some (Value.iface zfe x37))) fun x38 =>
 zb (zcc 1 1 (rep 1 [Value.nilIface]) [(0,1,x38)]) fun x39 =>
 zb ((zbe G_strings_Builder_WriteString G_strings_Builder_WriteByte G_strconv_Itoa) [x25,(Value.string ⟨#[102,114,97,109,101]⟩),x39]) fun x40 =>
 zb (za (zf 8 (zd vs 0))) fun x42 =>
 zb (zz x42) fun x43 =>
 zb (za (some (Value.iface zfe x43))) fun x44 =>
 zb (zcc 1 1 (rep 1 [Value.nilIface]) [(0,1,x44)]) fun x45 =>
 zb ((zbe G_strings_Builder_WriteString G_strings_Builder_WriteByte G_strconv_Itoa) [x25,(Value.string ⟨#[105,100,108,101]⟩),x45]) fun x46 =>
 zb (za (zf 0 (zd vs 0))) fun x48 =>
 zb (ldn 7 x48) fun x49 =>
 zb ((zih G_strings_Builder_WriteString G_strings_Builder_WriteByte G_strconv_Itoa) [x25,x49]) fun x50 =>
 zb (
 zb (za (zf 7 (zd vs 0))) fun x51 =>
 zb (zz x51) fun x52 =>
 zb (za (zw x52)) fun x53 =>
 zb (
 zba zbm (zvi G_strings_IndexRune G_strings_Builder_WriteString G_strings_Builder_WriteByte G_strconv_Itoa G_strings_Builder_Len G_strings_Builder_String) [x25,x52,x53,(Value.int .i64 0)]
 ) fun o=>ret (zv 0 o)
 ) fun o=>nx o (zbdc G_strings_IndexRune G_strings_Builder_WriteString G_strings_Builder_WriteByte G_strconv_Itoa G_strings_Builder_Len G_strings_Builder_String)
noncomputable def z5x (G_strings_IndexRune:List V→M V) (G_strings_Builder_WriteString:List V→M V) (G_strings_Builder_WriteByte:List V→M V) (G_strconv_Itoa:List V→M V) (G_strings_Builder_Len:List V→M V) (G_strings_Builder_String:List V→M V) (x0:V):M V :=
 zb (
 zb (zdc x0) fun x1 =>
 zb (
 zb (za (zf 0 x1)) fun x12 =>
 zb (ldn 7 x12) fun x13 =>
 zb (za (zf 7 x1)) fun x14 =>
 zb (zz x14) fun x15 =>
 zb (za (zf 8 x1)) fun x16 =>
 zb (zz x16) fun x17 =>
 zb ((zvs G_strings_IndexRune) [x13,x15,x17]) fun x18 =>
 zb (za (ext 0 x18)) fun x19 =>
 zb (za (ext 1 x18)) fun x20 =>
 zb (za (zu .neq x20 (Value.int .i64 0))) fun x22 =>
 zp x22 (
 ret (.ret [(Value.string ⟨#[]⟩),x20])
 ) (
 ret (.nxt [x1])
 )
 ) fun o=>nx o (zbdd G_strings_IndexRune G_strings_Builder_WriteString G_strings_Builder_WriteByte G_strconv_Itoa G_strings_Builder_Len G_strings_Builder_String)
 ) fun o=>zbk o fun vs=>ret (zbi [(zd vs 0),(zd vs 1)])
def zbq1:Hint:=(.seq [] .leaf (.seq [1] (.seq [] .leaf (.seq [] .leaf (.cond (.seq [] .leaf .leaf) .leaf))) (.seq [] .leaf (.seq [] .leaf (.seq [] .leaf (.seq [] .leaf (.seq [] .leaf (.seq [6] (.seq [] .leaf (.blk (.loop [6,52,53,54] (.seq [] .leaf (.seq [6,52,53,54] (.cond .leaf .leaf) (.seq [6,52,53,54] (.blk (.seq [] .leaf (.seq [] (.reg [0,1,4,2,3,5,6,7,8,9] []) (.seq [] .leaf (.blk (.loop [6,52,53,54,69,70,71] (.seq [] .leaf (.seq [6,52,53,54,69,70,71] (.cond .leaf .leaf) (.seq [6,52,53,54,69,70,71] (.blk (.seq [] .leaf (.reg [0,1,4,2,3,5,6,7,8,9,10] []))) .leaf))))))))) .leaf)))))) (.seq [6] (.seq [] .leaf (.cond (.seq [] .leaf .leaf) .leaf)) (.seq [] .leaf .leaf))))))))))
noncomputable def zt4 (G_strings_IndexRune:List V→M V) (G_strings_Builder_WriteString:List V→M V) (G_strings_Builder_WriteByte:List V→M V) (G_strconv_Itoa:List V→M V) (G_strings_Builder_Len:List V→M V) (G_strings_Builder_String:List V→M V):List V→M V:=ap1 (z5x G_strings_IndexRune G_strings_Builder_WriteString G_strings_Builder_WriteByte G_strconv_Itoa G_strings_Builder_Len G_strings_Builder_String)
theorem zbq2 {G_strings_IndexRune:List V→M V} {G_strings_Builder_WriteString:List V→M V} {G_strings_Builder_WriteByte:List V→M V} {G_strconv_Itoa:List V→M V} {G_strings_Builder_Len:List V→M V} {G_strings_Builder_String:List V→M V} (k_strings_IndexRune:zq Tryz.prog zy G_strings_IndexRune) (k_strings_Builder_WriteString:zq Tryz.prog zb5 G_strings_Builder_WriteString) (k_strings_Builder_WriteByte:zq Tryz.prog zcb G_strings_Builder_WriteByte) (k_strconv_Itoa:zq Tryz.prog zhc G_strconv_Itoa) (k_strings_Builder_Len:zq Tryz.prog zgf G_strings_Builder_Len) (k_strings_Builder_String:zq Tryz.prog zet G_strings_Builder_String):zq Tryz.prog z8p (zt4 G_strings_IndexRune G_strings_Builder_WriteString G_strings_Builder_WriteByte G_strconv_Itoa G_strings_Builder_Len G_strings_Builder_String):=kn1 (σ:=ovr [(z4s,zvs G_strings_IndexRune),(zlu,zbe G_strings_Builder_WriteString G_strings_Builder_WriteByte G_strconv_Itoa),(zqs,zih G_strings_Builder_WriteString G_strings_Builder_WriteByte G_strconv_Itoa),(zbf6,z72),(zgf,G_strings_Builder_Len),(zet,G_strings_Builder_String)] noC) (hint:=zbq1) (by kernel_rfl) (zh (zbms k_strings_IndexRune) (zh (zw0 k_strings_Builder_WriteString k_strings_Builder_WriteByte k_strconv_Itoa) (zh (z5w k_strings_Builder_WriteString k_strings_Builder_WriteByte k_strconv_Itoa) (zh zbxi (zh k_strings_Builder_Len (zh k_strings_Builder_String zl)))))) fun _=>(by kernel_rfl)
def z5y (v4:List V):M Out :=
 zb (za (zu .add (zd v4 2) (Value.int .i64 1))) fun x18 =>
 ret (.nxt [(zd v4 0),(zd v4 1),x18])
def zrs (v3:List V):M Out :=
 zb (
 zb (
 zb (za (zr 2 (zd v3 0) (zd v3 2))) fun x21 =>
 zb (za (zf 0 x21)) fun x22 =>
 zb (zz x22) fun x23 =>
 zb (za (zu .lss x23 (Value.int .i64 1))) fun x24 =>
 zb (gd x24 false (za (some (zd v3 0)))) fun x26 =>
 zb (gd x24 false (za (some (zd v3 2)))) fun x27 =>
 zb (gd x24 false (za (zr 2 x26 x27))) fun x28 =>
 zb (gd x24 false (za (zf 0 x28))) fun x29 =>
 zb (gd x24 false (zz x29)) fun x30 =>
 zb (gd x24 false (za (zu .gtr x30 (Value.int .i64 3)))) fun x31 =>
 zb (za (z8 x24 (Value.bool true) x31)) fun x32 =>
 zp x32 (
 ret (.ret [(Value.int .i64 (-1)),(Value.int .i64 40)])
 ) (
 ret (.nxt [(zd v3 0),(zd v3 1),(zd v3 2)])
 )
 ) fun o=>ret (zv 1 o)
 ) fun o=>nx o z5y
def zms (v2:List V):M Out :=
 zb (
 zb (za (zw (zd v2 0))) fun x15 =>
 zb (za (zu .lss (zd v2 2) x15)) fun x16 =>
 zp x16 (
 ret (.nxt [(zd v2 0),(zd v2 1),(zd v2 2)])
 ) (
 ret (.brk 0 [(zd v2 0),(zd v2 1)])
 )
 ) fun o=>nx o zrs
def zrt (v12:List V):M Out :=
 zb (za (zu .add (zd v12 4) (Value.int .i64 1))) fun x80 =>
 ret (.nxt [(zd v12 0),(zd v12 1),(zd v12 2),(zd v12 3),x80])
def zjg (v11:List V):M Out :=
 zb (
 zb (
 zb (za (zr 3 (zd v11 1) (zd v11 4))) fun x83 =>
 zb (ldn 3 x83) fun x84 =>
 zb (ldn 3 (zd v11 3)) fun x85 =>
 zb (za (zer false (zpt [.i,.i,.b] x84 x85))) fun x86 =>
 zb (gd x86 false (za (zf 2 (zd v11 3)))) fun x88 =>
 zb (gd x86 false (zz x88)) fun x89 =>
 zb (gd x86 false (za (some x89))) fun x90 =>
 zb (gd x90 true (za (some (zd v11 1)))) fun x91 =>
 zb (gd x90 true (za (some (zd v11 4)))) fun x92 =>
 zb (gd x90 true (za (zr 3 x91 x92))) fun x93 =>
 zb (gd x90 true (za (zf 2 x93))) fun x94 =>
 zb (gd x90 true (zz x94)) fun x95 =>
 zb (gd x86 false (za (z8 x90 x95 (Value.bool false)))) fun x96 =>
 zb (gd x86 false (za (some x96))) fun x97 =>
 zb (gd x97 true (za (some (zd v11 1)))) fun x98 =>
 zb (gd x97 true (za (some (zd v11 4)))) fun x99 =>
 zb (gd x97 true (za (zr 3 x98 x99))) fun x100 =>
 zb (gd x97 true (za (zf 1 x100))) fun x101 =>
 zb (gd x97 true (za (zf 1 (zd v11 3)))) fun x103 =>
 zb (gd x97 true (zz x101)) fun x102 =>
 zb (gd x97 true (zz x103)) fun x104 =>
 zb (gd x97 true (za (zu .eql x102 x104))) fun x105 =>
 zb (gd x86 false (za (z8 x97 x105 (Value.bool false)))) fun x106 =>
 zb (za (z8 x86 (Value.bool true) x106)) fun x107 =>
 zp x107 (
 ret (.ret [(zd v11 2),(Value.int .i64 190)])
 ) (
 ret (.nxt [(zd v11 0),(zd v11 1),(zd v11 2),(zd v11 3),(zd v11 4)])
 )
 ) fun o=>ret (zv 5 o)
 ) fun o=>nx o zrt
def zgc (v10:List V):M Out :=
 zb (
 zb (za (zu .lss (zd v10 4) (zd v10 2))) fun x78 =>
 zp x78 (
 ret (.nxt [(zd v10 0),(zd v10 1),(zd v10 2),(zd v10 3),(zd v10 4)])
 ) (
 ret (.brk 4 [(zd v10 0),(zd v10 1),(zd v10 2)])
 )
 ) fun o=>nx o zjg
def zw2 (v9:List V):M Out :=
 zb (
 zba zbm zgc [(zd v9 0),(zd v9 1),(zd v9 2),(zd v9 3),(Value.int .i64 0)]
 ) fun o=>ret (zv 4 o)
def z5z (v8:List V):M Out :=
 zb (
 zb (za (zf 2 (zd v8 3))) fun x64 =>
 zb (zz x64) fun x65 =>
 zb (gd x65 true (za (some (zd v8 0)))) fun x67 =>
 zb (gd x65 true (za (zf 1 (zd v8 3)))) fun x68 =>
 zb (gd x65 true (zz x68)) fun x69 =>
 zb (gd x65 true (za (zr 2 x67 x69))) fun x70 =>
 zb (gd x65 true (za (zf 1 x70))) fun x71 =>
 zb (gd x65 true (zz x71)) fun x72 =>
 zb (gd x65 true (za (un .not x72))) fun x73 =>
 zb (za (z8 x65 x73 (Value.bool false))) fun x74 =>
 zp x74 (
 ret (.ret [(zd v8 2),(Value.int .i64 91)])
 ) (
 ret (.nxt [(zd v8 0),(zd v8 1),(zd v8 2),(zd v8 3)])
 )
 ) fun o=>nx o zw2
def zw3 (v13:List V):M Out :=
 zb (za (zu .add (zd v13 2) (Value.int .i64 1))) fun x38 =>
 ret (.nxt [(zd v13 0),(zd v13 1),x38])
def z50 (v7:List V):M Out :=
 zb (
 zb (
 zb (za (zr 3 (zd v7 1) (zd v7 2))) fun x41 =>
 zb (ldn 3 x41) fun x42 =>
 zb (newc [Value.int .i64 0,Value.int .i64 0,Value.bool false]) fun x8 =>
 zb (stn 3 x8 x42) fun _ =>
 zb (
 zb (za (zf 0 x8)) fun x43 =>
 zb (zz x43) fun x44 =>
 zb (za (zu .lss x44 (Value.int .i64 0))) fun x45 =>
 zb (gd x45 false (za (zf 0 x8))) fun x47 =>
 zb (gd x45 false (zz x47)) fun x48 =>
 zb (gd x45 false (za (zu .geq x48 (Value.int .i64 8)))) fun x49 =>
 zb (za (z8 x45 (Value.bool true) x49)) fun x50 =>
 zb (gd x50 false (za (zf 1 x8))) fun x52 =>
 zb (gd x50 false (zz x52)) fun x53 =>
 zb (gd x50 false (za (zu .lss x53 (Value.int .i64 0)))) fun x54 =>
 zb (za (z8 x50 (Value.bool true) x54)) fun x55 =>
 zb (gd x55 false (za (zf 1 x8))) fun x57 =>
 zb (gd x55 false (zz x57)) fun x58 =>
 zb (gd x55 false (za (some (zd v7 0)))) fun x59 =>
 zb (gd x55 false (za (zw x59))) fun x60 =>
 zb (gd x55 false (za (zu .geq x58 x60))) fun x61 =>
 zb (za (z8 x55 (Value.bool true) x61)) fun x62 =>
 zp x62 (
 ret (.ret [(zd v7 2),(Value.int .i64 1)])
 ) (
 ret (.nxt [(zd v7 0),(zd v7 1),(zd v7 2),x8])
 )
 ) fun o=>nx o z5z
 ) fun o=>ret (zv 3 o)
 ) fun o=>nx o zw3
def zuh (v6:List V):M Out :=
 zb (
 zb (za (zw (zd v6 1))) fun x35 =>
 zb (za (zu .lss (zd v6 2) x35)) fun x36 =>
 zp x36 (
 ret (.nxt [(zd v6 0),(zd v6 1),(zd v6 2)])
 ) (
 ret (.brk 2 [])
 )
 ) fun o=>nx o z50
def z3i (v14:List V):M Out :=
 ret (.ret [(Value.int .i64 0),(Value.int .i64 0)])
def z3j (v5:List V):M Out :=
 zb (
 zb (
 zba zbm zuh [(zd v5 0),(zd v5 1),(Value.int .i64 0)]
 ) fun o=>ret (zv 2 o)
 ) fun o=>nx o z3i
def z3k (vs:List V):M Out :=
 zb (
 zb (
 zba zbm zms [(zd vs 0),(zd vs 1),(Value.int .i64 0)]
 ) fun o=>ret (zv 0 o)
 ) fun o=>nx o z3j
def zti (x0 x1:V):M V :=
 zb (
 zb (
 zb (za (zw x0)) fun x11 =>
 zb (za (zu .gtr x11 (Value.int .i64 64))) fun x12 =>
 zp x12 (
 ret (.ret [(Value.int .i64 (-1)),(Value.int .i64 2)])
 ) (
 ret (.nxt [x0,x1])
 )
 ) fun o=>nx o z3k
 ) fun o=>zbk o fun vs=>ret (zbi [(zd vs 0),(zd vs 1)])
def zbk6:Hint:=(.seq [] .leaf (.seq [0,1] (.seq [] .leaf (.cond (.seq [] .leaf .leaf) .leaf)) (.seq [0,1] (.seq [] .leaf (.blk (.loop [0,1,6] (.seq [0,1,6] (.seq [] .leaf (.cond .leaf .leaf)) (.seq [0,1,6] (.blk (.seq [] .leaf (.cond (.seq [] .leaf .leaf) .leaf))) .leaf))))) (.seq [] (.seq [] .leaf (.blk (.loop [0,1,7] (.seq [0,1,7] (.seq [] .leaf (.cond .leaf .leaf)) (.seq [0,1,7] (.blk (.seq [] .leaf (.seq [0,1,7,8] (.seq [] .leaf (.cond (.seq [] .leaf .leaf) .leaf)) (.seq [0,1,7,8] (.seq [] .leaf (.cond (.seq [] .leaf .leaf) .leaf)) (.seq [] .leaf (.blk (.loop [0,1,7,8,9] (.seq [0,1,7,8,9] (.seq [] .leaf (.cond .leaf .leaf)) (.seq [0,1,7,8,9] (.blk (.seq [] (.reg [0,1,2,3,4,5,6,7,8,9,10,11,12,13,14,15,16,17,18,19,20,22,21,23,24,25,26] []) (.cond (.seq [] .leaf .leaf) .leaf))) .leaf))))))))) .leaf))))) (.seq [] .leaf .leaf)))))
def zk0:List V→M V:=ap2 zti
theorem z9x:zq Tryz.prog zt9 (zk0):=kn2 (σ:=ovr [] noC) (hint:=zbk6) (by kernel_rfl) zl fun _ _=>(by kernel_rfl)
def z17 (x0:V):M V :=
 zb (
 zb (za (zu .geq x0 (Value.int .i64 0))) fun x4 =>
 zb (gd x4 true (za (some x0))) fun x6 =>
 zb (gd x4 true (za (zu .lss x6 (Value.int .i64 8)))) fun x7 =>
 zb (za (z8 x4 x7 (Value.bool false))) fun x8 =>
 ret (.ret [x8])
 ) fun o=>zbk o fun vs=>ret (zbi [(zd vs 0)])
def zbog:Hint:=(.seq [] .leaf (.seq [] .leaf .leaf))
def zru:List V→M V:=ap1 z17
theorem zboh:zq Tryz.prog z40 (zru):=kn1 (σ:=ovr [] noC) (hint:=zbog) (by kernel_rfl) zl fun _=>(by kernel_rfl)
def zbde (vs:List V):M Out :=
 ret (.ret [(Value.int .i64 0)])
def z52 (x0:V):M V :=
 zb (
 zb (zdc x0) fun x1 =>
 zb (
 zb (
 zb (za (zf 0 x1)) fun x4 =>
 zb (zz x4) fun x5 =>
 zb (za (zu .neq x5 (Value.int .i64 1))) fun x6 =>
 zb (gd x6 true (za (zf 0 x1))) fun x8 =>
 zb (gd x6 true (zz x8)) fun x9 =>
 zb (gd x6 true (za (zu .neq x9 (Value.int .i64 2)))) fun x10 =>
 zb (za (z8 x6 x10 (Value.bool false))) fun x11 =>
 zp x11 (
 ret (.ret [(Value.int .i64 91)])
 ) (
 zb (za (zf 1 x1)) fun x13 =>
 zb (zz x13) fun x14 =>
 zb (zru [x14]) fun x15 =>
 zb (za (un .not x15)) fun x16 =>
 zb (gd x16 false (za (zf 2 x1))) fun x18 =>
 zb (gd x16 false (zz x18)) fun x19 =>
 zb (gd x16 false (zru [x19])) fun x20 =>
 zb (gd x16 false (za (un .not x20))) fun x21 =>
 zb (za (z8 x16 (Value.bool true) x21)) fun x22 =>
 zp x22 (
 ret (.ret [(Value.int .i64 1)])
 ) (
 zb (za (zf 1 x1)) fun x24 =>
 zb (zz x24) fun x25 =>
 zb (za (zf 2 x1)) fun x26 =>
 zb (zz x26) fun x27 =>
 zb (za (zu .eql x25 x27)) fun x28 =>
 zp x28 (
 ret (.ret [(Value.int .i64 4)])
 ) (
 zb (za (zf 3 x1)) fun x30 =>
 zb (zz x30) fun x31 =>
 zb (za (zu .lss x31 (Value.int .i64 1))) fun x32 =>
 zb (gd x32 false (za (zf 3 x1))) fun x34 =>
 zb (gd x32 false (zz x34)) fun x35 =>
 zb (gd x32 false (za (zu .gtr x35 (Value.int .i64 3)))) fun x36 =>
 zb (za (z8 x32 (Value.bool true) x36)) fun x37 =>
 zp x37 (
 ret (.ret [(Value.int .i64 40)])
 ) (
 zb (za (zf 0 x1)) fun x39 =>
 zb (zz x39) fun x40 =>
 zb (za (zu .eql x40 (Value.int .i64 1))) fun x41 =>
 zb (gd x41 true (za (zf 4 x1))) fun x43 =>
 zb (gd x41 true (zz x43)) fun x44 =>
 zb (gd x41 true (za (zu .neq x44 (Value.int .i64 0)))) fun x45 =>
 zb (za (z8 x41 x45 (Value.bool false))) fun x46 =>
 zb (gd x46 false (za (zf 0 x1))) fun x48 =>
 zb (gd x46 false (zz x48)) fun x49 =>
 zb (gd x46 false (za (zu .eql x49 (Value.int .i64 2)))) fun x50 =>
 zb (gd x46 false (za (some x50))) fun x51 =>
 zb (gd x51 true (za (zf 4 x1))) fun x52 =>
 zb (gd x51 true (zz x52)) fun x53 =>
 zb (gd x51 true (za (zu .lss x53 (Value.int .i64 1)))) fun x54 =>
 zb (gd x51 true (za (some x54))) fun x55 =>
 zb (gd x55 false (za (zf 4 x1))) fun x56 =>
 zb (gd x55 false (zz x56)) fun x57 =>
 zb (gd x55 false (za (zu .gtr x57 (Value.int .i64 16)))) fun x58 =>
 zb (gd x51 true (za (z8 x55 (Value.bool true) x58))) fun x59 =>
 zb (gd x46 false (za (z8 x51 x59 (Value.bool false)))) fun x60 =>
 zb (za (z8 x46 (Value.bool true) x60)) fun x61 =>
 zp x61 (
 ret (.ret [(Value.int .i64 1)])
 ) (
 ret (.nxt [])
 )
 )
 )
 )
 )
 ) fun o=>ret (zv 0 o)
 ) fun o=>nx o zbde
 ) fun o=>zbk o fun vs=>ret (zbi [(zd vs 0)])
def zbq3:Hint:=(.seq [] .leaf (.seq [] (.blk (.seq [] .leaf (.cond (.seq [] .leaf .leaf) (.seq [] .leaf (.cond (.seq [] .leaf .leaf) (.seq [] .leaf (.cond (.seq [] .leaf .leaf) (.seq [] .leaf (.cond (.seq [] .leaf .leaf) (.seq [] .leaf (.cond (.seq [] .leaf .leaf) .leaf))))))))))) (.seq [] .leaf .leaf)))
def zyi:List V→M V:=ap1 z52
def zbq4:zx:=ovr [(z40,zru)] noC
theorem zbq5:zq Tryz.prog z81 (zyi):=kn1 (σ:=zbq4) (hint:=zbq3) (by kernel_rfl) (zh zboh zl) fun _=>(by kernel_rfl)
def z54 (v4:List V):M Out :=
 zb (za (zu .add (zd v4 1) (Value.int .i64 1))) fun x14 =>
 ret (.nxt [(zd v4 0),x14])
def z55 (v3:List V):M Out :=
 zb (
 zb (
 zb (za (zr 5 (zd v3 0) (zd v3 1))) fun x17 =>
 zb (ldn 5 x17) fun x18 =>
 zb (zyi [x18]) fun x19 =>
 zb (za (zu .neq x19 (Value.int .i64 0))) fun x21 =>
 zp x21 (
 ret (.ret [(zd v3 1),x19])
 ) (
 ret (.nxt [(zd v3 0),(zd v3 1)])
 )
 ) fun o=>ret (zv 1 o)
 ) fun o=>nx o z54
def zw4 (v2:List V):M Out :=
 zb (
 zb (za (zw (zd v2 0))) fun x11 =>
 zb (za (zu .lss (zd v2 1) x11)) fun x12 =>
 zp x12 (
 ret (.nxt [(zd v2 0),(zd v2 1)])
 ) (
 ret (.brk 0 [])
 )
 ) fun o=>nx o z55
def z56 (v5:List V):M Out :=
 ret (.ret [(Value.int .i64 0),(Value.int .i64 0)])
def z57 (vs:List V):M Out :=
 zb (
 zb (
 zba zbm zw4 [(zd vs 0),(Value.int .i64 0)]
 ) fun o=>ret (zv 0 o)
 ) fun o=>nx o z56
def ztj (x0:V):M V :=
 zb (
 zb (
 zb (za (zw x0)) fun x7 =>
 zb (za (zu .gtr x7 (Value.int .i64 16))) fun x8 =>
 zp x8 (
 ret (.ret [(Value.int .i64 (-1)),(Value.int .i64 2)])
 ) (
 ret (.nxt [x0])
 )
 ) fun o=>nx o z57
 ) fun o=>zbk o fun vs=>ret (zbi [(zd vs 0),(zd vs 1)])
def zbk7:Hint:=(.seq [] .leaf (.seq [0] (.seq [] .leaf (.cond (.seq [] .leaf .leaf) .leaf)) (.seq [] (.seq [] .leaf (.blk (.loop [0,4] (.seq [0,4] (.seq [] .leaf (.cond .leaf .leaf)) (.seq [0,4] (.blk (.seq [] .leaf (.seq [] .leaf (.cond (.seq [] .leaf .leaf) .leaf)))) .leaf))))) (.seq [] .leaf .leaf))))
def zk1:List V→M V:=ap1 ztj
def zbk8:zx:=ovr [(z81,zyi)] noC
theorem z9y:zq Tryz.prog zua (zk1):=kn1 (σ:=zbk8) (hint:=zbk7) (by kernel_rfl) (zh zbq5 zl) fun _=>(by kernel_rfl)
def z58 (v3:List V):M Out :=
 zb (za (zu .add (zd v3 3) (Value.int .i64 1))) fun x13 =>
 ret (.nxt [(zd v3 0),(zd v3 1),(zd v3 2),x13])
def z59 (v2:List V):M Out :=
 zb (
 zb (
 zb (za (zf 1 (zd v2 1))) fun x14 =>
 zb (zz x14) fun x15 =>
 zb (za (zr 3 x15 (zd v2 3))) fun x17 =>
 zb (za (zf 0 x17)) fun x18 =>
 zb (zz x18) fun x19 =>
 zb (za (zu .eql x19 (zd v2 0))) fun x21 =>
 zp x21 (
 zb (za (zf 1 (zd v2 1))) fun x23 =>
 zb (zz x23) fun x24 =>
 zb (za (zr 3 x24 (zd v2 3))) fun x26 =>
 zb (ldn 3 x26) fun x27 =>
 zb (zcc 3 1 (rep 1 [Value.int .i64 0,Value.int .i64 0,Value.int .i64 0]) [(0,3,x27)]) fun x28 =>
 zb (zd0 3 24 (zd v2 2) x28) fun x29 =>
 ret (.nxt [(zd v2 0),(zd v2 1),x29,(zd v2 3)])
 ) (
 ret (.nxt [(zd v2 0),(zd v2 1),(zd v2 2),(zd v2 3)])
 )
 ) fun o=>ret (zv 1 o)
 ) fun o=>nx o z58
def zyj (vs:List V):M Out :=
 zb (
 zb (za (zf 1 (zd vs 1))) fun x8 =>
 zb (zz x8) fun x9 =>
 zb (za (zw x9)) fun x10 =>
 zb (za (zu .lss (zd vs 3) x10)) fun x11 =>
 zp x11 (
 ret (.nxt [(zd vs 0),(zd vs 1),(zd vs 2),(zd vs 3)])
 ) (
 ret (.brk 0 [(zd vs 2)])
 )
 ) fun o=>nx o z59
def zbgk (v4:List V):M Out :=
 ret (.ret [(zd v4 0)])
def zbbk (x0 x1:V):M V :=
 zb (
 zb (zdc x0) fun x2 =>
 zb (
 zb (
 zba zbm zyj [x1,x2,(Value.slice none 0 0),(Value.int .i64 0)]
 ) fun o=>ret (zv 0 o)
 ) fun o=>nx o zbgk
 ) fun o=>zbk o fun vs=>ret (zbi [(zd vs 0)])
def zbt8:Hint:=(.seq [] .leaf (.seq [] .leaf (.seq [5] (.seq [] .leaf (.blk (.loop [1,2,5,6] (.seq [1,2,5,6] (.seq [] .leaf (.cond .leaf .leaf)) (.seq [1,2,5,6] (.blk (.seq [] .leaf (.cond .leaf .leaf))) .leaf))))) (.seq [] .leaf .leaf))))
def z18:List V→M V:=ap2 zbbk
theorem zbt9:zq Tryz.prog zbcs (z18):=kn2 (σ:=ovr [] noC) (hint:=zbt8) (by kernel_rfl) zl fun _ _=>(by kernel_rfl)
def z6a (v5:List V):M Out :=
 zb (za (zf 1 (zd v5 3))) fun x87 =>
 zb (zz x87) fun x88 =>
 zb (za (zf 2 (zd v5 3))) fun x89 =>
 zb (zz x89) fun x90 =>
 zb (za (zu .add x88 x90)) fun x91 =>
 ret (.nxt [(zd v5 0),(zd v5 1),x91,(zd v5 2)])
def z6b (v6:List V):M Out :=
 zb (za (zu .add (zd v6 3) (Value.int .i64 1))) fun x43 =>
 ret (.nxt [(zd v6 0),(zd v6 1),(zd v6 2),x43])
def zgd (v4:List V):M Out :=
 zb (
 zb (
 zb (za (zf 1 (zd v4 1))) fun x44 =>
 zb (zz x44) fun x45 =>
 zb (za (zr 3 x45 (zd v4 3))) fun x47 =>
 zb (ldn 3 x47) fun x48 =>
 zb (newc [Value.int .i64 0,Value.int .i64 0,Value.int .i64 0]) fun x8 =>
 zb (stn 3 x8 x48) fun _ =>
 zb (
 zb (za (zf 0 x8)) fun x49 =>
 zb (zz x49) fun x50 =>
 zb (za (zu .lss x50 (Value.int .i64 (-1)))) fun x51 =>
 zb (gd x51 false (za (zf 0 x8))) fun x53 =>
 zb (gd x51 false (zz x53)) fun x54 =>
 zb (gd x51 false (za (some (zd v4 0)))) fun x55 =>
 zb (gd x51 false (za (zu .geq x54 x55))) fun x56 =>
 zb (za (z8 x51 (Value.bool true) x56)) fun x57 =>
 zb (gd x57 false (za (zf 2 x8))) fun x59 =>
 zb (gd x57 false (zz x59)) fun x60 =>
 zb (gd x57 false (za (zu .lss x60 (Value.int .i64 1)))) fun x61 =>
 zb (za (z8 x57 (Value.bool true) x61)) fun x62 =>
 zb (gd x62 false (za (zf 1 x8))) fun x64 =>
 zb (gd x62 false (zz x64)) fun x65 =>
 zb (gd x62 false (za (some (zd v4 2)))) fun x66 =>
 zb (gd x62 false (za (zu .lss x65 x66))) fun x67 =>
 zb (za (z8 x62 (Value.bool true) x67)) fun x68 =>
 zb (gd x68 false (za (zf 1 x8))) fun x70 =>
 zb (gd x68 false (zz x70)) fun x71 =>
 zb (gd x68 false (za (zf 0 (zd v4 1)))) fun x72 =>
 zb (gd x68 false (zz x72)) fun x73 =>
 zb (gd x68 false (za (zu .gtr x71 x73))) fun x74 =>
 zb (za (z8 x68 (Value.bool true) x74)) fun x75 =>
 zb (gd x75 false (za (zf 2 x8))) fun x77 =>
 zb (gd x75 false (zz x77)) fun x78 =>
 zb (gd x75 false (za (zf 0 (zd v4 1)))) fun x79 =>
 zb (gd x75 false (zz x79)) fun x80 =>
 zb (gd x75 false (za (zf 1 x8))) fun x81 =>
 zb (gd x75 false (zz x81)) fun x82 =>
 zb (gd x75 false (za (zu .sub x80 x82))) fun x83 =>
 zb (gd x75 false (za (zu .gtr x78 x83))) fun x84 =>
 zb (za (z8 x75 (Value.bool true) x84)) fun x85 =>
 zp x85 (
 ret (.ret [(zd v4 3),(Value.int .i64 210)])
 ) (
 ret (.nxt [(zd v4 0),(zd v4 1),(zd v4 3),x8])
 )
 ) fun o=>nx o z6a
 ) fun o=>ret (zv 1 o)
 ) fun o=>nx o z6b
def ze0 (v3:List V):M Out :=
 zb (
 zb (za (zf 1 (zd v3 1))) fun x38 =>
 zb (zz x38) fun x39 =>
 zb (za (zw x39)) fun x40 =>
 zb (za (zu .lss (zd v3 3) x40)) fun x41 =>
 zp x41 (
 ret (.nxt [(zd v3 0),(zd v3 1),(zd v3 2),(zd v3 3)])
 ) (
 ret (.brk 0 [(zd v3 0),(zd v3 1)])
 )
 ) fun o=>nx o zgd
def zw5 (v10:List V):M Out :=
 zb (za (zu .add (zd v10 2) (Value.int .i64 1))) fun x96 =>
 ret (.nxt [(zd v10 0),(zd v10 1),x96])
def z6c (v9:List V):M Out :=
 zb (
 zb (
 zb (ldn 2 (zd v9 1)) fun x97 =>
 zb (z18 [x97,(zd v9 2)]) fun x99 =>
 zb (za (zw x99)) fun x100 =>
 zb (za (zu .geq (zd v9 2) (Value.int .i64 0))) fun x102 =>
 zb (gd x102 true (za (some x100))) fun x104 =>
 zb (gd x102 true (za (zu .eql x104 (Value.int .i64 0)))) fun x105 =>
 zb (za (z8 x102 x105 (Value.bool false))) fun x106 =>
 zb (gd x106 false (za (some (zd v9 2)))) fun x108 =>
 zb (gd x106 false (za (zu .lss x108 (Value.int .i64 0)))) fun x109 =>
 zb (gd x106 false (za (some x109))) fun x110 =>
 zb (gd x110 true (za (some x100))) fun x111 =>
 zb (gd x110 true (za (zu .gtr x111 (Value.int .i64 1)))) fun x112 =>
 zb (gd x106 false (za (z8 x110 x112 (Value.bool false)))) fun x113 =>
 zb (za (z8 x106 (Value.bool true) x113)) fun x114 =>
 zp x114 (
 ret (.ret [(Value.int .i64 (-1)),(Value.int .i64 210)])
 ) (
 ret (.nxt [(zd v9 0),(zd v9 1),(zd v9 2)])
 )
 ) fun o=>ret (zv 3 o)
 ) fun o=>nx o zw5
def zw6 (v8:List V):M Out :=
 zb (
 zb (za (zu .lss (zd v8 2) (zd v8 0))) fun x94 =>
 zp x94 (
 ret (.nxt [(zd v8 0),(zd v8 1),(zd v8 2)])
 ) (
 ret (.brk 2 [])
 )
 ) fun o=>nx o z6c
def z6d (v11:List V):M Out :=
 ret (.ret [(Value.int .i64 0),(Value.int .i64 0)])
def z6e (v7:List V):M Out :=
 zb (
 zb (
 zba zbm zw6 [(zd v7 0),(zd v7 1),(Value.int .i64 (-1))]
 ) fun o=>ret (zv 2 o)
 ) fun o=>nx o z6d
def z6f (v2:List V):M Out :=
 zb (
 zb (
 zba zbm ze0 [(zd v2 0),(zd v2 1),(Value.int .i64 0),(Value.int .i64 0)]
 ) fun o=>ret (zv 0 o)
 ) fun o=>nx o z6e
def zid (vs:List V):M Out :=
 zb (
 zb (za (zf 0 (zd vs 1))) fun x17 =>
 zb (zz x17) fun x18 =>
 zb (za (zu .lss x18 (Value.int .i64 1))) fun x19 =>
 zb (gd x19 false (za (zf 0 (zd vs 1)))) fun x21 =>
 zb (gd x19 false (zz x21)) fun x22 =>
 zb (gd x19 false (za (zu .gtr x22 (Value.int .i64 65536)))) fun x23 =>
 zb (za (z8 x19 (Value.bool true) x23)) fun x24 =>
 zb (gd x24 false (za (zf 1 (zd vs 1)))) fun x26 =>
 zb (gd x24 false (zz x26)) fun x27 =>
 zb (gd x24 false (za (zw x27))) fun x28 =>
 zb (gd x24 false (za (zu .lss x28 (Value.int .i64 1)))) fun x29 =>
 zb (za (z8 x24 (Value.bool true) x29)) fun x30 =>
 zb (gd x30 false (za (zf 1 (zd vs 1)))) fun x32 =>
 zb (gd x30 false (zz x32)) fun x33 =>
 zb (gd x30 false (za (zw x33))) fun x34 =>
 zb (gd x30 false (za (zu .gtr x34 (Value.int .i64 32)))) fun x35 =>
 zb (za (z8 x30 (Value.bool true) x35)) fun x36 =>
 zp x36 (
 ret (.ret [(Value.int .i64 (-1)),(Value.int .i64 210)])
 ) (
 ret (.nxt [(zd vs 0),(zd vs 1)])
 )
 ) fun o=>nx o z6f
def zf4 (x0 x1:V):M V :=
 zb (
 zb (zdc x0) fun x2 =>
 zb (
 zb (za (zu .lss x1 (Value.int .i64 1))) fun x12 =>
 zb (gd x12 false (za (some x1))) fun x14 =>
 zb (gd x12 false (za (zu .gtr x14 (Value.int .i64 8)))) fun x15 =>
 zb (za (z8 x12 (Value.bool true) x15)) fun x16 =>
 zp x16 (
 ret (.ret [(Value.int .i64 (-1)),(Value.int .i64 1)])
 ) (
 ret (.nxt [x1,x2])
 )
 ) fun o=>nx o zid
 ) fun o=>zbk o fun vs=>ret (zbi [(zd vs 0),(zd vs 1)])
def zbk9:Hint:=(.seq [] .leaf (.seq [1,2] (.seq [] .leaf (.cond (.seq [] .leaf .leaf) .leaf)) (.seq [1,2] (.seq [] .leaf (.cond (.seq [] .leaf .leaf) .leaf)) (.seq [] .leaf (.seq [1,2] (.seq [] .leaf (.blk (.loop [1,2,6,7] (.seq [1,2,6,7] (.seq [] .leaf (.cond .leaf .leaf)) (.seq [1,2,6,7] (.blk (.seq [] .leaf (.seq [1,2,7,8] (.seq [] .leaf (.cond (.seq [] .leaf .leaf) .leaf)) .leaf))) .leaf))))) (.seq [] (.seq [] .leaf (.blk (.loop [1,2,9] (.seq [1,2,9] (.seq [] .leaf (.cond .leaf .leaf)) (.seq [1,2,9] (.blk (.seq [] .leaf (.seq [] .leaf (.cond (.seq [] .leaf .leaf) .leaf)))) .leaf))))) (.seq [] .leaf .leaf)))))))
def ztk:List V→M V:=ap2 zf4
def zbla:zx:=ovr [(zbcs,z18)] noC
theorem zblb:zq Tryz.prog z24 (ztk):=kn2 (σ:=zbla) (hint:=zbk9) (by kernel_rfl) (zh zbt9 zl) fun _ _=>(by kernel_rfl)
def zrv (vs:List V):M Out :=
 zb (gd (zd vs 1) true (za (zf 2 (zd vs 2)))) fun x27 =>
 zb (gd (zd vs 1) true (zz x27)) fun x28 =>
 zb (gd (zd vs 1) true (za (zf 1 (zd vs 3)))) fun x29 =>
 zb (gd (zd vs 1) true (zz x29)) fun x30 =>
 zb (gd (zd vs 1) true (za (zr 5 x28 x30))) fun x31 =>
 zb (gd (zd vs 1) true (za (zf 1 x31))) fun x32 =>
 zb (gd (zd vs 1) true (zz x32)) fun x33 =>
 zb (gd (zd vs 1) true (za (some (zd vs 0)))) fun x34 =>
 zb (gd (zd vs 1) true (za (zu .eql x33 x34))) fun x35 =>
 zb (za (z8 (zd vs 1) x35 (Value.bool false))) fun x36 =>
 zb (gd x36 false (za (some (zd vs 1)))) fun x38 =>
 zb (gd x36 false (za (un .not x38))) fun x39 =>
 zb (gd x36 false (za (some x39))) fun x40 =>
 zb (gd x40 true (za (zf 2 (zd vs 2)))) fun x41 =>
 zb (gd x40 true (zz x41)) fun x42 =>
 zb (gd x40 true (za (zf 1 (zd vs 3)))) fun x43 =>
 zb (gd x40 true (zz x43)) fun x44 =>
 zb (gd x40 true (za (zr 5 x42 x44))) fun x45 =>
 zb (gd x40 true (za (zf 2 x45))) fun x46 =>
 zb (gd x40 true (zz x46)) fun x47 =>
 zb (gd x40 true (za (some (zd vs 0)))) fun x48 =>
 zb (gd x40 true (za (zu .eql x47 x48))) fun x49 =>
 zb (gd x36 false (za (z8 x40 x49 (Value.bool false)))) fun x50 =>
 zb (za (z8 x36 (Value.bool true) x50)) fun x51 =>
 ret (.ret [x51])
def zvj (v6:List V):M Out :=
 zb (za (zu .add (zd v6 4) (Value.int .i64 1))) fun x74 =>
 ret (.nxt [(zd v6 0),(zd v6 1),(zd v6 2),(zd v6 3),x74])
def znr (v5:List V):M Out :=
 zb (
 zb (
 zb (za (zf 1 (zd v5 2))) fun x75 =>
 zb (zz x75) fun x76 =>
 zb (za (zr 3 x76 (zd v5 4))) fun x78 =>
 zb (ldn 3 x78) fun x79 =>
 zb (newc [Value.int .i64 0,Value.int .i64 0,Value.bool false]) fun x10 =>
 zb (stn 3 x10 x79) fun _ =>
 zb (za (zf 0 x10)) fun x80 =>
 zb (zz x80) fun x81 =>
 zb (za (zu .eql x81 (zd v5 0))) fun x83 =>
 zb (gd x83 true (za (zf 1 x10))) fun x85 =>
 zb (gd x83 true (zz x85)) fun x86 =>
 zb (gd x83 true (za (zf 1 (zd v5 3)))) fun x87 =>
 zb (gd x83 true (zz x87)) fun x88 =>
 zb (gd x83 true (za (zu .eql x86 x88))) fun x89 =>
 zb (za (z8 x83 x89 (Value.bool false))) fun x90 =>
 zb (gd x90 true (za (zf 2 x10))) fun x92 =>
 zb (gd x90 true (zz x92)) fun x93 =>
 zb (gd x90 true (za (some x93))) fun x94 =>
 zb (gd x94 false (za (some (zd v5 1)))) fun x95 =>
 zb (gd x94 false (za (un .not x95))) fun x96 =>
 zb (gd x90 true (za (z8 x94 (Value.bool true) x96))) fun x97 =>
 zb (za (z8 x90 x97 (Value.bool false))) fun x98 =>
 zp x98 (
 ret (.ret [(Value.bool true)])
 ) (
 ret (.nxt [(zd v5 0),(zd v5 1),(zd v5 2),(zd v5 3),(zd v5 4)])
 )
 ) fun o=>ret (zv 1 o)
 ) fun o=>nx o zvj
def zj5 (v4:List V):M Out :=
 zb (
 zb (za (zf 1 (zd v4 2))) fun x69 =>
 zb (zz x69) fun x70 =>
 zb (za (zw x70)) fun x71 =>
 zb (za (zu .lss (zd v4 4) x71)) fun x72 =>
 zp x72 (
 ret (.nxt [(zd v4 0),(zd v4 1),(zd v4 2),(zd v4 3),(zd v4 4)])
 ) (
 ret (.brk 0 [])
 )
 ) fun o=>nx o znr
def zbdf (v7:List V):M Out :=
 ret (.ret [(Value.bool false)])
def zbdg (v3:List V):M Out :=
 zb (
 zb (
 zba zbm zj5 [(zd v3 0),(zd v3 1),(zd v3 2),(zd v3 3),(Value.int .i64 0)]
 ) fun o=>ret (zv 0 o)
 ) fun o=>nx o zbdf
def zrw (v2:List V):M Out :=
 zb (
 zb (za (zf 0 (zd v2 3))) fun x52 =>
 zb (zz x52) fun x53 =>
 zb (za (zu .neq x53 (Value.int .i64 1))) fun x54 =>
 zb (gd x54 false (za (zf 1 (zd v2 3)))) fun x56 =>
 zb (gd x54 false (zz x56)) fun x57 =>
 zb (gd x54 false (za (zu .lss x57 (Value.int .i64 0)))) fun x58 =>
 zb (za (z8 x54 (Value.bool true) x58)) fun x59 =>
 zb (gd x59 false (za (zf 1 (zd v2 3)))) fun x61 =>
 zb (gd x59 false (zz x61)) fun x62 =>
 zb (gd x59 false (za (zf 0 (zd v2 2)))) fun x63 =>
 zb (gd x59 false (zz x63)) fun x64 =>
 zb (gd x59 false (za (zw x64))) fun x65 =>
 zb (gd x59 false (za (zu .geq x62 x65))) fun x66 =>
 zb (za (z8 x59 (Value.bool true) x66)) fun x67 =>
 zp x67 (
 ret (.ret [(Value.bool false)])
 ) (
 ret (.nxt [(zd v2 0),(zd v2 1),(zd v2 2),(zd v2 3)])
 )
 ) fun o=>nx o zbdg
def z6g (x0 x1 x2 x3:V):M V :=
 zb (
 zb (zdc x0) fun x4 =>
 zb (zdc x2) fun x6 =>
 zb (
 zb (za (zf 0 x6)) fun x11 =>
 zb (zz x11) fun x12 =>
 zb (za (zu .eql x12 (Value.int .i64 2))) fun x13 =>
 zp x13 (
 zb (
 zb (za (zf 1 x6)) fun x14 =>
 zb (zz x14) fun x15 =>
 zb (za (zu .lss x15 (Value.int .i64 0))) fun x16 =>
 zb (gd x16 false (za (zf 1 x6))) fun x18 =>
 zb (gd x16 false (zz x18)) fun x19 =>
 zb (gd x16 false (za (zf 2 x4))) fun x20 =>
 zb (gd x16 false (zz x20)) fun x21 =>
 zb (gd x16 false (za (zw x21))) fun x22 =>
 zb (gd x16 false (za (zu .geq x19 x22))) fun x23 =>
 zb (za (z8 x16 (Value.bool true) x23)) fun x24 =>
 zp x24 (
 ret (.ret [(Value.bool false)])
 ) (
 ret (.nxt [x1,x3,x4,x6])
 )
 ) fun o=>nx o zrv
 ) (
 ret (.nxt [x1,x3,x4,x6])
 )
 ) fun o=>nx o zrw
 ) fun o=>zbk o fun vs=>ret (zbi [(zd vs 0)])
def zbq6:Hint:=(.seq [] .leaf (.seq [1,3,4,6] (.seq [] .leaf (.cond (.seq [1,3,4,6] (.seq [] .leaf (.cond (.seq [] .leaf .leaf) .leaf)) (.seq [] .leaf .leaf)) .leaf)) (.seq [1,3,4,6] (.seq [] .leaf (.cond (.seq [] .leaf .leaf) .leaf)) (.seq [] (.seq [] .leaf (.blk (.loop [1,3,4,6,9] (.seq [1,3,4,6,9] (.seq [] .leaf (.cond .leaf .leaf)) (.seq [1,3,4,6,9] (.blk (.seq [] .leaf (.seq [] .leaf (.cond (.seq [] .leaf .leaf) .leaf)))) .leaf))))) (.seq [] .leaf .leaf)))))
def zyk:List V→M V:=ap4 z6g
theorem zbq7:zq Tryz.prog z82 (zyk):=kn4 (σ:=ovr [] noC) (hint:=zbq6) (by kernel_rfl) zl fun _ _ _ _=>(by kernel_rfl)
def z6h (v7:List V):M Out :=
 zb (za (zu .add (zd v7 5) (Value.int .i64 1))) fun x33 =>
 ret (.nxt [(zd v7 0),(zd v7 1),(zd v7 2),(zd v7 3),(zd v7 4),x33])
def zw7 (v6:List V):M Out :=
 zb (
 zb (
 zb (za (zr 2 (zd v6 1) (zd v6 5))) fun x36 =>
 zb (za (zr 2 (zd v6 1) (zd v6 4))) fun x40 =>
 zb (ldn 2 x36) fun x37 =>
 zb (ldn 2 x40) fun x41 =>
 zb (za (zer false (zpt [.i,.i] x37 x41))) fun x42 =>
 zp x42 (
 ret (.ret [(Value.bool false)])
 ) (
 ret (.nxt [(zd v6 0),(zd v6 1),(zd v6 2),(zd v6 3),(zd v6 4),(zd v6 5)])
 )
 ) fun o=>ret (zv 3 o)
 ) fun o=>nx o z6h
def zmt (v5:List V):M Out :=
 zb (
 zb (za (zu .lss (zd v5 5) (zd v5 4))) fun x31 =>
 zp x31 (
 ret (.nxt [(zd v5 0),(zd v5 1),(zd v5 2),(zd v5 3),(zd v5 4),(zd v5 5)])
 ) (
 ret (.brk 2 [(zd v5 0),(zd v5 1),(zd v5 2),(zd v5 3),(zd v5 4)])
 )
 ) fun o=>nx o zw7
def z6i (v4:List V):M Out :=
 zb (
 zba zbm zmt [(zd v4 0),(zd v4 1),(zd v4 2),(zd v4 3),(zd v4 4),(Value.int .i64 0)]
 ) fun o=>ret (zv 2 o)
def z6j (v8:List V):M Out :=
 zb (za (zu .add (zd v8 4) (Value.int .i64 1))) fun x19 =>
 ret (.nxt [(zd v8 0),(zd v8 1),(zd v8 2),(zd v8 3),x19])
def z6k (v3:List V):M Out :=
 zb (
 zb (
 zb (
 zb (za (zr 2 (zd v3 1) (zd v3 4))) fun x24 =>
 zb (ldn 7 (zd v3 3)) fun x20 =>
 zb (ldn 2 x24) fun x25 =>
 zb (zyk [x20,(zd v3 0),x25,(zd v3 2)]) fun x27 =>
 zb (za (un .not x27)) fun x28 =>
 zp x28 (
 ret (.ret [(Value.bool false)])
 ) (
 ret (.nxt [(zd v3 0),(zd v3 1),(zd v3 2),(zd v3 3),(zd v3 4)])
 )
 ) fun o=>nx o z6i
 ) fun o=>ret (zv 1 o)
 ) fun o=>nx o z6j
def zw8 (v2:List V):M Out :=
 zb (
 zb (za (zw (zd v2 1))) fun x16 =>
 zb (za (zu .lss (zd v2 4) x16)) fun x17 =>
 zp x17 (
 ret (.nxt [(zd v2 0),(zd v2 1),(zd v2 2),(zd v2 3),(zd v2 4)])
 ) (
 ret (.brk 0 [])
 )
 ) fun o=>nx o z6k
def z6l (v9:List V):M Out :=
 ret (.ret [(Value.bool true)])
def z6m (vs:List V):M Out :=
 zb (
 zb (
 zba zbm zw8 [(zd vs 0),(zd vs 1),(zd vs 2),(zd vs 3),(Value.int .i64 0)]
 ) fun o=>ret (zv 0 o)
 ) fun o=>nx o z6l
def zzw (x0 x1 x2 x3:V):M V :=
 zb (
 zb (zdc x0) fun x4 =>
 zb (
 zb (za (zw x2)) fun x12 =>
 zb (za (zu .gtr x12 (Value.int .i64 32))) fun x13 =>
 zp x13 (
 ret (.ret [(Value.bool false)])
 ) (
 ret (.nxt [x1,x2,x3,x4])
 )
 ) fun o=>nx o z6m
 ) fun o=>zbk o fun vs=>ret (zbi [(zd vs 0)])
def zblc:Hint:=(.seq [] .leaf (.seq [1,2,3,4] (.seq [] .leaf (.cond (.seq [] .leaf .leaf) .leaf)) (.seq [] (.seq [] .leaf (.blk (.loop [1,2,3,4,9] (.seq [1,2,3,4,9] (.seq [] .leaf (.cond .leaf .leaf)) (.seq [1,2,3,4,9] (.blk (.seq [1,2,3,4,9] (.seq [] (.reg [1,2,3,4,6,0,5,7,8] []) (.cond (.seq [] .leaf .leaf) .leaf)) (.seq [] .leaf (.blk (.loop [1,2,3,4,9,10] (.seq [1,2,3,4,9,10] (.seq [] .leaf (.cond .leaf .leaf)) (.seq [1,2,3,4,9,10] (.blk (.seq [] (.reg [0,1,2,4,5,6,3,7,8] []) (.cond (.seq [] .leaf .leaf) .leaf))) .leaf))))))) .leaf))))) (.seq [] .leaf .leaf))))
def zoz:List V→M V:=ap4 zzw
def zbld:zx:=ovr [(z82,zyk)] noC
theorem zble:zq Tryz.prog z25 (zoz):=kn4 (σ:=zbld) (hint:=zblc) (by kernel_rfl) (zh zbq7 zl) fun _ _ _ _=>(by kernel_rfl)
def z6n (v7:List V):M Out :=
 zb (za (zu .add (zd v7 1) (Value.int .i64 1))) fun x58 =>
 ret (.nxt [(zd v7 0),x58])
def zw9 (v6:List V):M Out :=
 zb (
 zb (
 zb (za (zf 1 (zd v6 0))) fun x59 =>
 zb (za (zf 5 (zd v6 0))) fun x65 =>
 zb (zz x59) fun x60 =>
 zb (za (zr 3 x60 (zd v6 1))) fun x62 =>
 zb (za (zf 0 x62)) fun x63 =>
 zb (zz x63) fun x64 =>
 zb (zz x65) fun x66 =>
 zb (za (zw x66)) fun x67 =>
 zb (za (zu .geq x64 x67)) fun x68 =>
 zp x68 (
 ret (.ret [(Value.int .i64 270)])
 ) (
 ret (.nxt [(zd v6 0),(zd v6 1)])
 )
 ) fun o=>ret (zv 1 o)
 ) fun o=>nx o z6n
def zmu (v5:List V):M Out :=
 zb (
 zb (za (zf 1 (zd v5 0))) fun x53 =>
 zb (zz x53) fun x54 =>
 zb (za (zw x54)) fun x55 =>
 zb (za (zu .lss (zd v5 1) x55)) fun x56 =>
 zp x56 (
 ret (.nxt [(zd v5 0),(zd v5 1)])
 ) (
 ret (.brk 0 [(zd v5 0)])
 )
 ) fun o=>nx o zw9
def z6o (v11:List V):M Out :=
 zb (za (zu .add (zd v11 1) (Value.int .i64 1))) fun x75 =>
 ret (.nxt [(zd v11 0),x75])
def zrx (v10:List V):M Out :=
 zb (
 zb (
 zb (za (zf 2 (zd v10 0))) fun x76 =>
 zb (za (zf 5 (zd v10 0))) fun x82 =>
 zb (zz x76) fun x77 =>
 zb (za (zr 5 x77 (zd v10 1))) fun x79 =>
 zb (za (zf 1 x79)) fun x80 =>
 zb (zz x80) fun x81 =>
 zb (zz x82) fun x83 =>
 zb (za (zw x83)) fun x84 =>
 zb (za (zu .geq x81 x84)) fun x85 =>
 zb (gd x85 false (za (zf 2 (zd v10 0)))) fun x87 =>
 zb (gd x85 false (za (some (zd v10 1)))) fun x89 =>
 zb (gd x85 false (za (zf 5 (zd v10 0)))) fun x93 =>
 zb (gd x85 false (zz x87)) fun x88 =>
 zb (gd x85 false (za (zr 5 x88 x89))) fun x90 =>
 zb (gd x85 false (za (zf 2 x90))) fun x91 =>
 zb (gd x85 false (zz x91)) fun x92 =>
 zb (gd x85 false (zz x93)) fun x94 =>
 zb (gd x85 false (za (zw x94))) fun x95 =>
 zb (gd x85 false (za (zu .geq x92 x95))) fun x96 =>
 zb (za (z8 x85 (Value.bool true) x96)) fun x97 =>
 zp x97 (
 ret (.ret [(Value.int .i64 270)])
 ) (
 ret (.nxt [(zd v10 0),(zd v10 1)])
 )
 ) fun o=>ret (zv 3 o)
 ) fun o=>nx o z6o
def zjh (v9:List V):M Out :=
 zb (
 zb (za (zf 2 (zd v9 0))) fun x70 =>
 zb (zz x70) fun x71 =>
 zb (za (zw x71)) fun x72 =>
 zb (za (zu .lss (zd v9 1) x72)) fun x73 =>
 zp x73 (
 ret (.nxt [(zd v9 0),(zd v9 1)])
 ) (
 ret (.brk 2 [(zd v9 0)])
 )
 ) fun o=>nx o zrx
def z6p (v15:List V):M Out :=
 zb (za (zu .add (zd v15 1) (Value.int .i64 1))) fun x104 =>
 ret (.nxt [(zd v15 0),x104])
def z6q (v14:List V):M Out :=
 zb (
 zb (
 zb (za (zf 5 (zd v14 0))) fun x107 =>
 zb (ldn 7 (zd v14 0)) fun x105 =>
 zb (zz x107) fun x108 =>
 zb (za (zr 2 x108 (zd v14 1))) fun x110 =>
 zb (za (zf 0 x110)) fun x111 =>
 zb (zz x111) fun x112 =>
 zb (zoz [x105,(zd v14 1),x112,(Value.bool false)]) fun x113 =>
 zb (za (un .not x113)) fun x114 =>
 zb (gd x114 false (za (some (zd v14 1)))) fun x117 =>
 zb (gd x114 false (za (zf 5 (zd v14 0)))) fun x118 =>
 zb (gd x114 false (za (some (zd v14 1)))) fun x120 =>
 zb (gd x114 false (ldn 7 (zd v14 0))) fun x116 =>
 zb (gd x114 false (zz x118)) fun x119 =>
 zb (gd x114 false (za (zr 2 x119 x120))) fun x121 =>
 zb (gd x114 false (za (zf 1 x121))) fun x122 =>
 zb (gd x114 false (zz x122)) fun x123 =>
 zb (gd x114 false (zoz [x116,x117,x123,(Value.bool true)])) fun x124 =>
 zb (gd x114 false (za (un .not x124))) fun x125 =>
 zb (za (z8 x114 (Value.bool true) x125)) fun x126 =>
 zp x126 (
 ret (.ret [(Value.int .i64 270)])
 ) (
 ret (.nxt [(zd v14 0),(zd v14 1)])
 )
 ) fun o=>ret (zv 5 o)
 ) fun o=>nx o z6p
def zry (v13:List V):M Out :=
 zb (
 zb (za (zf 5 (zd v13 0))) fun x99 =>
 zb (zz x99) fun x100 =>
 zb (za (zw x100)) fun x101 =>
 zb (za (zu .lss (zd v13 1) x101)) fun x102 =>
 zp x102 (
 ret (.nxt [(zd v13 0),(zd v13 1)])
 ) (
 ret (.brk 4 [])
 )
 ) fun o=>nx o z6q
def z6r (v16:List V):M Out :=
 ret (.ret [(Value.int .i64 0)])
def z3l (v12:List V):M Out :=
 zb (
 zb (
 zba zbm zry [(zd v12 0),(Value.int .i64 0)]
 ) fun o=>ret (zv 4 o)
 ) fun o=>nx o z6r
def z3m (v8:List V):M Out :=
 zb (
 zb (
 zba zbm zjh [(zd v8 0),(Value.int .i64 0)]
 ) fun o=>ret (zv 2 o)
 ) fun o=>nx o z3l
def z3n (v4:List V):M Out :=
 zb (
 zb (
 zba zbm zmu [(zd v4 0),(Value.int .i64 0)]
 ) fun o=>ret (zv 0 o)
 ) fun o=>nx o z3m
def zo7 (v3:List V):M Out :=
 zb (
 zb (za (zf 6 (zd v3 0))) fun x44 =>
 zb (zz x44) fun x45 =>
 zb (za (zu .lss x45 (Value.int .i64 1))) fun x46 =>
 zb (gd x46 false (za (zf 6 (zd v3 0)))) fun x48 =>
 zb (gd x46 false (zz x48)) fun x49 =>
 zb (gd x46 false (za (zu .gtr x49 (Value.int .i64 10000)))) fun x50 =>
 zb (za (z8 x46 (Value.bool true) x50)) fun x51 =>
 zp x51 (
 ret (.ret [(Value.int .i64 270)])
 ) (
 ret (.nxt [(zd v3 0)])
 )
 ) fun o=>nx o z3n
def z3o (v2:List V):M Out :=
 zb (
 zb (za (zf 3 (zd v2 0))) fun x33 =>
 zb (ldn 2 x33) fun x34 =>
 zb (za (zf 5 (zd v2 0))) fun x35 =>
 zb (zz x35) fun x36 =>
 zb (za (zw x36)) fun x37 =>
 zb (ztk [x34,x37]) fun x38 =>
 zb (za (ext 0 x38)) fun x39 =>
 zb (za (ext 1 x38)) fun x40 =>
 zb (za (zu .neq x40 (Value.int .i64 0))) fun x42 =>
 zp x42 (
 ret (.ret [x40])
 ) (
 ret (.nxt [(zd v2 0)])
 )
 ) fun o=>nx o zo7
def z3p (vs:List V):M Out :=
 zb (
 zb (za (zf 2 (zd vs 0))) fun x24 =>
 zb (zz x24) fun x25 =>
 zb (zk1 [x25]) fun x26 =>
 zb (za (ext 0 x26)) fun x27 =>
 zb (za (ext 1 x26)) fun x28 =>
 zb (za (zu .neq x28 (Value.int .i64 0))) fun x30 =>
 zp x30 (
 ret (.ret [x28])
 ) (
 ret (.nxt [(zd vs 0)])
 )
 ) fun o=>nx o z3o
def zzx (x0:V):M V :=
 zb (
 zb (zdc x0) fun x1 =>
 zb (
 zb (za (zf 0 x1)) fun x13 =>
 zb (zz x13) fun x14 =>
 zb (za (zf 1 x1)) fun x15 =>
 zb (zz x15) fun x16 =>
 zb (zk0 [x14,x16]) fun x17 =>
 zb (za (ext 0 x17)) fun x18 =>
 zb (za (ext 1 x17)) fun x19 =>
 zb (za (zu .neq x19 (Value.int .i64 0))) fun x21 =>
 zp x21 (
 ret (.ret [x19])
 ) (
 ret (.nxt [x1])
 )
 ) fun o=>nx o z3p
 ) fun o=>zbk o fun vs=>ret (zbi [(zd vs 0)])
def zblf:Hint:=(.seq [] .leaf (.seq [1] (.seq [] .leaf (.seq [] .leaf (.cond (.seq [] .leaf .leaf) .leaf))) (.seq [1] (.seq [] .leaf (.seq [] .leaf (.cond (.seq [] .leaf .leaf) .leaf))) (.seq [1] (.seq [] .leaf (.seq [] .leaf (.cond (.seq [] .leaf .leaf) .leaf))) (.seq [1] (.seq [] .leaf (.cond (.seq [] .leaf .leaf) .leaf)) (.seq [1] (.seq [] .leaf (.blk (.loop [1,9] (.seq [1,9] (.seq [] .leaf (.cond .leaf .leaf)) (.seq [1,9] (.blk (.seq [] (.reg [0,2,6,1,3,4,5,7,8,9] []) (.cond (.seq [] .leaf .leaf) .leaf))) .leaf))))) (.seq [1] (.seq [] .leaf (.blk (.loop [1,10] (.seq [1,10] (.seq [] .leaf (.cond .leaf .leaf)) (.seq [1,10] (.blk (.seq [] (.reg [0,2,6,1,3,4,5,7,8,9,10,11,13,17,12,14,15,16,18,19,20,21] []) (.cond (.seq [] .leaf .leaf) .leaf))) .leaf))))) (.seq [] (.seq [] .leaf (.blk (.loop [1,11] (.seq [1,11] (.seq [] .leaf (.cond .leaf .leaf)) (.seq [1,11] (.blk (.seq [] (.reg [1,2,4,0,3,5,6,7,8,9,10,12,13,15,11,14,16,17,18,19,20,21] []) (.cond (.seq [] .leaf .leaf) .leaf))) .leaf))))) (.seq [] .leaf .leaf)))))))))
def ztl:List V→M V:=ap1 zzx
def zblg:zx:=ovr [(zt9,zk0),(zua,zk1),(z24,ztk),(z25,zoz)] noC
theorem zblh:zq Tryz.prog z2y (ztl):=kn1 (σ:=zblg) (hint:=zblf) (by kernel_rfl) (zh z9x (zh z9y (zh zblb (zh zble zl)))) fun _=>(by kernel_rfl)
def zbdh (vs:List V):M Out :=
 ztu 5 fun base h0 =>
 zb (za (zw (zd vs 0))) fun x24 =>
 zb (za (zw (zd vs 0))) fun x27 =>
 zb (za (zw (zd vs 0))) fun x30 =>
 zb (flt (base + 0) (zcc 2 0 (rep 0 [Value.int .i64 0,Value.bool false]) [])) fun x17 =>
 zbw (zd0 2 16 x17 (zd vs 0)) fun ha x19 h1 =>
 zdj (zdq ha [base + 1,base + 2,base + 3,base + 4] && zdq h1 [base + 1,base + 2,base + 3,base + 4]) <|
 zb (flt (base + 1) (zcc 3 0 (rep 0 [Value.int .i64 0,Value.int .i64 0,Value.bool false]) [])) fun x20 =>
 zbw (zd0 3 24 x20 (zd vs 1)) fun ha_2 x22 h2 =>
 zdj (zdq ha_2 [base + 2,base + 3,base + 4] && zdq h2 [base + 2,base + 3,base + 4]) <|
 zb (flt (base + 2) (zul 1 8 [Value.int .i64 0] x24 x24)) fun x25 =>
 zb (flt (base + 3) (zul 1 1 [Value.bool false] x27 x27)) fun x28 =>
 zb (flt (base + 4) (zul 1 8 [Value.int .i64 0] x30 x30)) fun x31 =>
 zb (za (build [Value.slice none 0 0,Value.slice none 0 0,Value.slice none 0 0,Value.slice none 0 0,Value.slice none 0 0,Value.slice none 0 0] [(0,1,x19),(1,1,x22),(2,1,x25),(3,1,x28),(4,1,x31)])) fun x32 =>
 zbw (zdc x32) fun ha_3 x33 h3 =>
 ret (.ret [x33,(Value.int .i64 0)])
def z6s (x0 x1:V):M V :=
 zb (
 zb (
 zb (zk0 [x0,x1]) fun x11 =>
 zb (za (ext 0 x11)) fun x12 =>
 zb (za (ext 1 x11)) fun x13 =>
 zb (za (zu .neq x13 (Value.int .i64 0))) fun x15 =>
 zp x15 (
 ret (.ret [(Value.pointer none),x13])
 ) (
 ret (.nxt [x0,x1])
 )
 ) fun o=>nx o zbdh
 ) fun o=>zbk o fun vs=>ret (zbi [(zd vs 0),(zd vs 1)])
def zbq8:Hint:=(.seq [] .leaf (.seq [0,1] (.seq [] .leaf (.seq [] .leaf (.cond (.seq [] .leaf .leaf) .leaf))) (.seq [] (.reg [1,4,6,7,9,10,12,13,0,2,3,5,8,11,14,15,16,17,18] [0,3,8,11,14]) .leaf)))
def zyl:List V→M V:=ap2 z6s
def zbq9:zx:=ovr [(zt9,zk0)] noC
theorem zbra:zq Tryz.prog z8x (zyl):=kn2 (σ:=zbq9) (hint:=zbq8) (by kernel_rfl) (zh z9x zl) fun _ _=>(by kernel_rfl)
def zbdi (vs:List V):M Out :=
 ztu 2 fun base h0 =>
 zb (za (zw (zd vs 0))) fun x18 =>
 zb (flt (base + 0) (zcc 5 0 (rep 0 [Value.int .i64 0,Value.int .i64 0,Value.int .i64 0,Value.int .i64 0,Value.int .i64 0]) [])) fun x14 =>
 zbw (zd0 5 40 x14 (zd vs 0)) fun ha x16 h1 =>
 zdj (zdq ha [base + 1] && zdq h1 [base + 1]) <|
 zb (flt (base + 1) (zul 4 64 [Value.slice none 0 0,Value.slice none 0 0,Value.int .i64 0,Value.int .i64 0] x18 x18)) fun x19 =>
 zb (za (build [Value.slice none 0 0,Value.slice none 0 0] [(0,1,x16),(1,1,x19)])) fun x20 =>
 zbw (zdc x20) fun ha_2 x21 h2 =>
 ret (.ret [x21,(Value.int .i64 0)])
def z6t (x0:V):M V :=
 zb (
 zb (
 zb (zk1 [x0]) fun x8 =>
 zb (za (ext 0 x8)) fun x9 =>
 zb (za (ext 1 x8)) fun x10 =>
 zb (za (zu .neq x10 (Value.int .i64 0))) fun x12 =>
 zp x12 (
 ret (.ret [(Value.pointer none),x10])
 ) (
 ret (.nxt [x0])
 )
 ) fun o=>nx o zbdi
 ) fun o=>zbk o fun vs=>ret (zbi [(zd vs 0),(zd vs 1)])
def zbrb:Hint:=(.seq [] .leaf (.seq [0] (.seq [] .leaf (.seq [] .leaf (.cond (.seq [] .leaf .leaf) .leaf))) (.seq [] (.reg [1,3,4,0,2,5,6,7,8,9] [0,5]) .leaf)))
def zym:List V→M V:=ap1 z6t
def zbrc:zx:=ovr [(zua,zk1)] noC
theorem zbrd:zq Tryz.prog z8y (zym):=kn1 (σ:=zbrc) (hint:=zbrb) (by kernel_rfl) (zh z9y zl) fun _=>(by kernel_rfl)
def zxa (v3:List V):M Out :=
 zb (za (zu .add (zd v3 3) (Value.int .i64 1))) fun x12 =>
 ret (.nxt [(zd v3 0),(zd v3 1),(zd v3 2),x12])
def zxb (v2:List V):M Out :=
 zb (
 zb (
 zb (za (zr 2 (zd v2 0) (zd v2 3))) fun x15 =>
 zb (za (zf 0 x15)) fun x16 =>
 zb (zz x16) fun x17 =>
 zb (za (zu .eql x17 (Value.int .i64 2))) fun x18 =>
 zp x18 (
 zb (za (zf 2 (zd v2 1))) fun x20 =>
 zb (za (zr 2 (zd v2 0) (zd v2 3))) fun x24 =>
 zb (za (zf 1 x24)) fun x25 =>
 zb (zz x20) fun x21 =>
 zb (zz x25) fun x26 =>
 zb (za (zr 5 x21 x26)) fun x27 =>
 zb (za (zf 3 x27)) fun x28 =>
 zb (zz x28) fun x29 =>
 zb (zcc 1 1 (rep 1 [Value.int .i64 0]) [(0,1,x29)]) fun x30 =>
 zb (zd0 1 8 (zd v2 2) x30) fun x31 =>
 ret (.nxt [(zd v2 0),(zd v2 1),x31,(zd v2 3)])
 ) (
 zb (za (zf 0 (zd v2 1))) fun x33 =>
 zb (za (zr 2 (zd v2 0) (zd v2 3))) fun x37 =>
 zb (za (zf 1 x37)) fun x38 =>
 zb (zz x33) fun x34 =>
 zb (zz x38) fun x39 =>
 zb (za (zr 2 x34 x39)) fun x40 =>
 zb (za (zf 0 x40)) fun x41 =>
 zb (zz x41) fun x42 =>
 zb (zcc 1 1 (rep 1 [Value.int .i64 0]) [(0,1,x42)]) fun x43 =>
 zb (zd0 1 8 (zd v2 2) x43) fun x44 =>
 ret (.nxt [(zd v2 0),(zd v2 1),x44,(zd v2 3)])
 )
 ) fun o=>ret (zv 1 o)
 ) fun o=>nx o zxa
def zrz (vs:List V):M Out :=
 zb (
 zb (za (zw (zd vs 0))) fun x9 =>
 zb (za (zu .lss (zd vs 3) x9)) fun x10 =>
 zp x10 (
 ret (.nxt [(zd vs 0),(zd vs 1),(zd vs 2),(zd vs 3)])
 ) (
 ret (.brk 0 [(zd vs 2)])
 )
 ) fun o=>nx o zxb
def z6u (v4:List V):M Out :=
 ret (.ret [(zd v4 0)])
def zzy (x0 x1:V):M V :=
 zb (
 zb (zdc x0) fun x2 =>
 zb (
 zb (
 zba zbm zrz [x1,x2,(Value.slice none 0 0),(Value.int .i64 0)]
 ) fun o=>ret (zv 0 o)
 ) fun o=>nx o z6u
 ) fun o=>zbk o fun vs=>ret (zbi [(zd vs 0)])
def zbli:Hint:=(.seq [] .leaf (.seq [] .leaf (.seq [5] (.seq [] .leaf (.blk (.loop [1,2,5,6] (.seq [1,2,5,6] (.seq [] .leaf (.cond .leaf .leaf)) (.seq [1,2,5,6] (.blk (.seq [] .leaf (.cond (.reg [0,1,3,4,5,6,2,7,8,9,10,11,12,13] []) (.reg [0,1,3,4,5,6,2,7,8,9,10,11,12,13] [])))) .leaf))))) (.seq [] .leaf .leaf))))
def zo0:List V→M V:=ap2 zzy
theorem zblj:zq Tryz.prog z2z (zo0):=kn2 (σ:=ovr [] noC) (hint:=zbli) (by kernel_rfl) zl fun _ _=>(by kernel_rfl)
def zbdj (v4:List V):M Out :=
 zb (za (zu .add (zd v4 3) (Value.int .i64 1))) fun x26 =>
 ret (.nxt [(zd v4 0),(zd v4 1),(zd v4 2),x26])
def zbdk (v3:List V):M Out :=
 zb (
 zb (
 zb (za (zr 1 (zd v3 2) (zd v3 3))) fun x29 =>
 zb (zz x29) fun x30 =>
 zb (za (zu .lss x30 (Value.int .i64 1))) fun x31 =>
 zb (gd x31 false (za (some (zd v3 2)))) fun x33 =>
 zb (gd x31 false (za (some (zd v3 3)))) fun x34 =>
 zb (gd x31 false (za (zr 1 x33 x34))) fun x35 =>
 zb (gd x31 false (zz x35)) fun x36 =>
 zb (gd x31 false (za (zu .gtr x36 (Value.int .i64 3)))) fun x37 =>
 zb (za (z8 x31 (Value.bool true) x37)) fun x38 =>
 zp x38 (
 ret (.ret [(Value.pointer none),(Value.int .i64 40)])
 ) (
 ret (.nxt [(zd v3 0),(zd v3 1),(zd v3 2),(zd v3 3)])
 )
 ) fun o=>ret (zv 1 o)
 ) fun o=>nx o zbdj
def z19 (v2:List V):M Out :=
 zb (
 zb (za (zw (zd v2 2))) fun x23 =>
 zb (za (zu .lss (zd v2 3) x23)) fun x24 =>
 zp x24 (
 ret (.nxt [(zd v2 0),(zd v2 1),(zd v2 2),(zd v2 3)])
 ) (
 ret (.brk 0 [(zd v2 0),(zd v2 1)])
 )
 ) fun o=>nx o zbdk
def zbdl (v5:List V):M Out :=
 zb (zcc 1 0 (rep 0 [Value.int .i64 0]) []) fun x39 =>
 zb (zd0 1 8 x39 (zd v5 0)) fun x41 =>
 zb (zcc 1 0 (rep 0 [Value.int .i64 0]) []) fun x42 =>
 zb (zd0 1 8 x42 (zd v5 1)) fun x44 =>
 zb (za (build [Value.slice none 0 0,Value.slice none 0 0,Value.string ⟨#[]⟩,Value.slice none 0 0,Value.slice none 0 0,Value.slice none 0 0,Value.slice none 0 0,Value.slice none 0 0,Value.slice none 0 0,Value.int .i64 0,Value.int .i64 0,Value.int .i64 0,Value.int .i64 0] [(0,1,x41),(1,1,x44)])) fun x45 =>
 zb (zdc x45) fun x46 =>
 ret (.ret [x46,(Value.int .i64 0)])
def zbdm (vs:List V):M Out :=
 zb (zcc 1 0 (rep 0 [Value.int .i64 0]) []) fun x16 =>
 zb (zd0 1 8 x16 (zd vs 0)) fun x18 =>
 zb (zd0 1 8 x18 (zd vs 1)) fun x20 =>
 zb (
 zb (
 zba zbm z19 [(zd vs 0),(zd vs 1),x20,(Value.int .i64 0)]
 ) fun o=>ret (zv 0 o)
 ) fun o=>nx o zbdl
def z6v (x0 x1:V):M V :=
 zb (
 zb (
 zb (za (zw x0)) fun x9 =>
 zb (za (zu .gtr x9 (Value.int .i64 32))) fun x10 =>
 zb (gd x10 false (za (some x1))) fun x12 =>
 zb (gd x10 false (za (zw x12))) fun x13 =>
 zb (gd x10 false (za (zu .gtr x13 (Value.int .i64 32)))) fun x14 =>
 zb (za (z8 x10 (Value.bool true) x14)) fun x15 =>
 zp x15 (
 ret (.ret [(Value.pointer none),(Value.int .i64 2)])
 ) (
 ret (.nxt [x0,x1])
 )
 ) fun o=>nx o zbdm
 ) fun o=>zbk o fun vs=>ret (zbi [(zd vs 0),(zd vs 1)])
def zbre:Hint:=(.seq [] .leaf (.seq [0,1] (.seq [] .leaf (.cond (.seq [] .leaf .leaf) .leaf)) (.seq [] .leaf (.seq [0,1] (.seq [] .leaf (.blk (.loop [0,1,6,7] (.seq [0,1,6,7] (.seq [] .leaf (.cond .leaf .leaf)) (.seq [0,1,6,7] (.blk (.seq [] .leaf (.cond (.seq [] .leaf .leaf) .leaf))) .leaf))))) (.seq [] .leaf .leaf)))))
def zyn:List V→M V:=ap2 z6v
theorem zbrf:zq Tryz.prog z8z (zyn):=kn2 (σ:=ovr [] noC) (hint:=zbre) (by kernel_rfl) zl fun _ _=>(by kernel_rfl)
def zbdn (v4:List V):M Out :=
 zb (za (zu .add (zd v4 2) (Value.int .i64 1))) fun x43 =>
 ret (.nxt [(zd v4 0),(zd v4 1),x43])
def zbdo (v3:List V):M Out :=
 zb (
 zb (
 zh0 fun h0 =>
 zb (za (zf 5 (zd v3 0))) fun x46 =>
 zb (za (zf 5 (zd v3 0))) fun x54 =>
 zb (ldn 7 (zd v3 0)) fun x45 =>
 zb (zz x46) fun x47 =>
 zb (za (zr 2 x47 (zd v3 2))) fun x49 =>
 zb (za (zf 0 x49)) fun x50 =>
 zb (zz x50) fun x51 =>
 zb (ldn 7 (zd v3 0)) fun x53 =>
 zb (zz x54) fun x55 =>
 zb (za (zr 2 x55 (zd v3 2))) fun x57 =>
 zb (za (zf 1 x57)) fun x58 =>
 zb (zz x58) fun x59 =>
 zbw (zo0 [x45,x51]) fun ha x52 h1 =>
 zbw (zo0 [x53,x59]) fun ha_2 x60 h2 =>
 zbw (zyn [x52,x60]) fun ha_3 x61 h3 =>
 zb (za (ext 0 x61)) fun x62 =>
 zb (za (ext 1 x61)) fun x63 =>
 zdj (chk (ldn 7 (zd v3 0)) h1 x53) <|
 zdj (chk (zz x54) h1 x55) <|
 zdj (chk (zz x58) h1 x59) <|
 zb (za (zb2 (zd v3 1))) fun x66 =>
 zb (za (zf 9 x66)) fun x67 =>
 zb (zz x67) fun x68 =>
 zb (zcc 1 1 (rep 1 [Value.pointer none]) [(0,1,x62)]) fun x70 =>
 zb (zd0 1 8 x68 x70) fun x71 =>
 zb (za (zb2 (zd v3 1))) fun x72 =>
 zb (za (zf 9 x72)) fun x73 =>
 zb (st1 x73 x71) fun _ =>
 ret (.nxt [(zd v3 0),(zd v3 1),(zd v3 2)])
 ) fun o=>ret (zv 1 o)
 ) fun o=>nx o zbdn
def z2a (v2:List V):M Out :=
 zb (
 zb (za (zf 5 (zd v2 0))) fun x38 =>
 zb (zz x38) fun x39 =>
 zb (za (zw x39)) fun x40 =>
 zb (za (zu .lss (zd v2 2) x40)) fun x41 =>
 zp x41 (
 ret (.nxt [(zd v2 0),(zd v2 1),(zd v2 2)])
 ) (
 ret (.brk 0 [(zd v2 1)])
 )
 ) fun o=>nx o zbdo
def zbdp (v5:List V):M Out :=
 ret (.ret [(zd v5 0),(Value.int .i64 0)])
def zbdq (vs:List V):M Out :=
 zb (ldn 7 (zd vs 0)) fun x14 =>
 zb (za (build [Value.slice none 0 0,Value.slice none 0 0,Value.slice none 0 0,Value.int .i64 0,Value.slice none 0 0,Value.slice none 0 0,Value.int .i64 0,Value.pointer none,Value.pointer none,Value.slice none 0 0,Value.int .i64 0] [(0,7,x14)])) fun x15 =>
 zb (zdc x15) fun x16 =>
 zb (za (zf 0 (zd vs 0))) fun x19 =>
 zb (zz x19) fun x20 =>
 zb (za (zf 1 (zd vs 0))) fun x21 =>
 zb (zz x21) fun x22 =>
 zb (zyl [x20,x22]) fun x23 =>
 zb (za (ext 0 x23)) fun x24 =>
 zb (za (ext 1 x23)) fun x25 =>
 zb (za (zb2 x16)) fun x26 =>
 zb (za (zf 7 x26)) fun x27 =>
 zb (st1 x27 x24) fun _ =>
 zb (za (zf 2 (zd vs 0))) fun x30 =>
 zb (zz x30) fun x31 =>
 zb (zym [x31]) fun x32 =>
 zb (za (ext 0 x32)) fun x33 =>
 zb (za (ext 1 x32)) fun x34 =>
 zb (za (zb2 x16)) fun x35 =>
 zb (za (zf 8 x35)) fun x36 =>
 zb (st1 x36 x33) fun _ =>
 zb (
 zb (
 zba zbm z2a [(zd vs 0),x16,(Value.int .i64 0)]
 ) fun o=>ret (zv 0 o)
 ) fun o=>nx o zbdp
def z6w (x0:V):M V :=
 zb (
 zb (zdc x0) fun x1 =>
 zb (
 zb (ldn 7 x1) fun x9 =>
 zb (ztl [x9]) fun x10 =>
 zb (za (zu .neq x10 (Value.int .i64 0))) fun x12 =>
 zp x12 (
 ret (.ret [(Value.pointer none),x10])
 ) (
 ret (.nxt [x1])
 )
 ) fun o=>nx o zbdq
 ) fun o=>zbk o fun vs=>ret (zbi [(zd vs 0),(zd vs 1)])
def zbrg:Hint:=(.seq [] .leaf (.seq [1] (.seq [] .leaf (.seq [] .leaf (.cond (.seq [] .leaf .leaf) .leaf))) (.seq [] .leaf (.seq [] .leaf (.seq [] .leaf (.seq [5] (.seq [] .leaf (.blk (.loop [1,5,6] (.seq [1,5,6] (.seq [] .leaf (.cond .leaf .leaf)) (.seq [1,5,6] (.blk (.seq [] (.reg [1,3,9,11,0,2,4,5,6,8,10,12,13,14,7,15,16,17,18,19,20,21] []) .leaf)) .leaf))))) (.seq [] .leaf .leaf)))))))
def zyo:List V→M V:=ap1 z6w
def zbrh:zx:=ovr [(z2y,ztl),(z8x,zyl),(z8y,zym),(z2z,zo0),(z8z,zyn)] noC
theorem zbri:zq Tryz.prog z8t (zyo):=kn1 (σ:=zbrh) (hint:=zbrg) (by kernel_rfl) (zh zblh (zh zbra (zh zbrd (zh zblj (zh zbrf zl))))) fun _=>(by kernel_rfl)
def zxc (v4:List V):M Out :=
 zb (za (zu .add (zd v4 1) (Value.int .i64 1))) fun x16 =>
 ret (.nxt [(zd v4 0),x16])
def zji (v3:List V):M Out :=
 zb (
 zb (
 zb (za (zjm (zd v3 0) (zd v3 1))) fun x19 =>
 zb (za (zu .geq x19 (Value.int .u8 97))) fun x20 =>
 zb (gd x20 true (za (some (zd v3 0)))) fun x22 =>
 zb (gd x20 true (za (some (zd v3 1)))) fun x23 =>
 zb (gd x20 true (za (zjm x22 x23))) fun x24 =>
 zb (gd x20 true (za (zu .leq x24 (Value.int .u8 122)))) fun x25 =>
 zb (za (z8 x20 x25 (Value.bool false))) fun x26 =>
 zb (gd x26 false (za (some (zd v3 0)))) fun x28 =>
 zb (gd x26 false (za (some (zd v3 1)))) fun x29 =>
 zb (gd x26 false (za (zjm x28 x29))) fun x30 =>
 zb (gd x26 false (za (zu .geq x30 (Value.int .u8 48)))) fun x31 =>
 zb (gd x26 false (za (some x31))) fun x32 =>
 zb (gd x32 true (za (some (zd v3 0)))) fun x33 =>
 zb (gd x32 true (za (some (zd v3 1)))) fun x34 =>
 zb (gd x32 true (za (zjm x33 x34))) fun x35 =>
 zb (gd x32 true (za (zu .leq x35 (Value.int .u8 57)))) fun x36 =>
 zb (gd x26 false (za (z8 x32 x36 (Value.bool false)))) fun x37 =>
 zb (za (z8 x26 (Value.bool true) x37)) fun x38 =>
 zb (za (un .not x38)) fun x39 =>
 zp x39 (
 ret (.ret [(Value.bool false)])
 ) (
 ret (.nxt [(zd v3 0),(zd v3 1)])
 )
 ) fun o=>ret (zv 1 o)
 ) fun o=>nx o zxc
def zhq (v2:List V):M Out :=
 zb (
 zb (za (zd9 (zd v2 0))) fun x13 =>
 zb (za (zu .lss (zd v2 1) x13)) fun x14 =>
 zp x14 (
 ret (.nxt [(zd v2 0),(zd v2 1)])
 ) (
 ret (.brk 0 [])
 )
 ) fun o=>nx o zji
def z6x (v5:List V):M Out :=
 ret (.ret [(Value.bool true)])
def z6y (vs:List V):M Out :=
 zb (
 zb (
 zba zbm zhq [(zd vs 0),(Value.int .i64 0)]
 ) fun o=>ret (zv 0 o)
 ) fun o=>nx o z6x
def zo1 (x0:V):M V :=
 zb (
 zb (
 zb (za (zu .eql x0 (Value.string ⟨#[]⟩))) fun x5 =>
 zb (gd x5 false (za (some x0))) fun x7 =>
 zb (gd x5 false (za (zd9 x7))) fun x8 =>
 zb (gd x5 false (za (zu .gtr x8 (Value.int .i64 24)))) fun x9 =>
 zb (za (z8 x5 (Value.bool true) x9)) fun x10 =>
 zp x10 (
 ret (.ret [(Value.bool false)])
 ) (
 ret (.nxt [x0])
 )
 ) fun o=>nx o z6y
 ) fun o=>zbk o fun vs=>ret (zbi [(zd vs 0)])
def zblk:Hint:=(.seq [] .leaf (.seq [0] (.seq [] .leaf (.cond (.seq [] .leaf .leaf) .leaf)) (.seq [] (.seq [] .leaf (.blk (.loop [0,3] (.seq [0,3] (.seq [] .leaf (.cond .leaf .leaf)) (.seq [0,3] (.blk (.seq [] .leaf (.cond (.seq [] .leaf .leaf) .leaf))) .leaf))))) (.seq [] .leaf .leaf))))
def ztm:List V→M V:=ap1 zo1
theorem zbll:zq Tryz.prog z27 (ztm):=kn1 (σ:=ovr [] noC) (hint:=zblk) (by kernel_rfl) zl fun _=>(by kernel_rfl)
def z9z (v4:List V):M Out :=
 zb (za (zu .add (zd v4 4) (Value.int .i64 1))) fun x37 =>
 ret (.nxt [(zd v4 0),(zd v4 1),(zd v4 2),(zd v4 3),x37])
def zzz (v3:List V):M Out :=
 zb (
 zb (
 zb (za (zr 3 (zd v3 0) (zd v3 4))) fun x40 =>
 zb (za (zf 0 x40)) fun x41 =>
 zb (za (zf 0 (zd v3 3))) fun x43 =>
 zb (zz x41) fun x42 =>
 zb (zz x43) fun x44 =>
 zb (za (zu .eql x42 x44)) fun x45 =>
 zp x45 (
 ret (.ret [(Value.int .i64 6)])
 ) (
 ret (.nxt [(zd v3 0),(zd v3 1),(zd v3 2),(zd v3 3),(zd v3 4)])
 )
 ) fun o=>ret (zv 1 o)
 ) fun o=>nx o z9z
def ztn (v2:List V):M Out :=
 zb (
 zb (za (zu .lss (zd v2 4) (zd v2 1))) fun x35 =>
 zp x35 (
 ret (.nxt [(zd v2 0),(zd v2 1),(zd v2 2),(zd v2 3),(zd v2 4)])
 ) (
 ret (.brk 0 [(zd v2 2),(zd v2 3)])
 )
 ) fun o=>nx o zzz
def z90 (v8:List V):M Out :=
 zb (za (zu .add (zd v8 2) (Value.int .i64 1))) fun x52 =>
 ret (.nxt [(zd v8 0),(zd v8 1),x52])
def zk2 (v7:List V):M Out :=
 zb (
 zb (
 zb (za (zf 2 (zd v7 1))) fun x53 =>
 zb (zz x53) fun x54 =>
 zb (za (zr 2 x54 (zd v7 2))) fun x56 =>
 zb (ldn 2 x56) fun x57 =>
 zb (newc [Value.int .i64 0,Value.int .i64 0]) fun x10 =>
 zb (stn 2 x10 x57) fun _ =>
 zb (za (zf 0 x10)) fun x58 =>
 zb (zz x58) fun x59 =>
 zb (za (zu .lss x59 (Value.int .i64 0))) fun x60 =>
 zb (gd x60 false (za (zf 0 x10))) fun x62 =>
 zb (gd x60 false (zz x62)) fun x63 =>
 zb (gd x60 false (za (some (zd v7 0)))) fun x64 =>
 zb (gd x60 false (za (zu .geq x63 x64))) fun x65 =>
 zb (za (z8 x60 (Value.bool true) x65)) fun x66 =>
 zb (gd x66 false (za (zf 1 x10))) fun x68 =>
 zb (gd x66 false (zz x68)) fun x69 =>
 zb (gd x66 false (za (zu .lss x69 (Value.int .i64 1)))) fun x70 =>
 zb (za (z8 x66 (Value.bool true) x70)) fun x71 =>
 zb (gd x71 false (za (zf 1 x10))) fun x73 =>
 zb (gd x71 false (zz x73)) fun x74 =>
 zb (gd x71 false (za (zu .gtr x74 (Value.int .i64 4)))) fun x75 =>
 zb (za (z8 x71 (Value.bool true) x75)) fun x76 =>
 zp x76 (
 ret (.ret [(Value.int .i64 1)])
 ) (
 ret (.nxt [(zd v7 0),(zd v7 1),(zd v7 2)])
 )
 ) fun o=>ret (zv 3 o)
 ) fun o=>nx o z90
def ziw (v6:List V):M Out :=
 zb (
 zb (za (zf 2 (zd v6 1))) fun x47 =>
 zb (zz x47) fun x48 =>
 zb (za (zw x48)) fun x49 =>
 zb (za (zu .lss (zd v6 2) x49)) fun x50 =>
 zp x50 (
 ret (.nxt [(zd v6 0),(zd v6 1),(zd v6 2)])
 ) (
 ret (.brk 2 [(zd v6 1)])
 )
 ) fun o=>nx o zk2
def z91 (v14:List V):M Out :=
 zb (za (zu .add (zd v14 2) (Value.int .i64 1))) fun x88 =>
 ret (.nxt [(zd v14 0),(zd v14 1),x88])
def zz0 (v13:List V):M Out :=
 zb (
 zb (
 zb (za (zf 2 (zd v13 0))) fun x89 =>
 zb (za (zf 2 (zd v13 0))) fun x95 =>
 zb (zz x89) fun x90 =>
 zb (za (zr 2 x90 (zd v13 2))) fun x92 =>
 zb (za (zf 0 x92)) fun x93 =>
 zb (zz x93) fun x94 =>
 zb (zz x95) fun x96 =>
 zb (za (zr 2 x96 (zd v13 1))) fun x98 =>
 zb (za (zf 0 x98)) fun x99 =>
 zb (zz x99) fun x100 =>
 zb (za (zu .eql x94 x100)) fun x101 =>
 zp x101 (
 ret (.ret [(Value.int .i64 240)])
 ) (
 ret (.nxt [(zd v13 0),(zd v13 1),(zd v13 2)])
 )
 ) fun o=>ret (zv 7 o)
 ) fun o=>nx o z91
def zto (v12:List V):M Out :=
 zb (
 zb (za (zu .lss (zd v12 2) (zd v12 1))) fun x86 =>
 zp x86 (
 ret (.nxt [(zd v12 0),(zd v12 1),(zd v12 2)])
 ) (
 ret (.brk 6 [(zd v12 0),(zd v12 1)])
 )
 ) fun o=>nx o zz0
def z92 (v15:List V):M Out :=
 zb (za (zu .add (zd v15 1) (Value.int .i64 1))) fun x83 =>
 ret (.nxt [(zd v15 0),x83])
def z6z (v11:List V):M Out :=
 zb (
 zb (
 zb (
 zba zbm zto [(zd v11 0),(zd v11 1),(Value.int .i64 0)]
 ) fun o=>ret (zv 6 o)
 ) fun o=>ret (zv 5 o)
 ) fun o=>nx o z92
def zxd (v10:List V):M Out :=
 zb (
 zb (za (zf 2 (zd v10 0))) fun x78 =>
 zb (zz x78) fun x79 =>
 zb (za (zw x79)) fun x80 =>
 zb (za (zu .lss (zd v10 1) x80)) fun x81 =>
 zp x81 (
 ret (.nxt [(zd v10 0),(zd v10 1)])
 ) (
 ret (.brk 4 [])
 )
 ) fun o=>nx o z6z
def z60 (v16:List V):M Out :=
 ret (.ret [(Value.int .i64 0)])
def z61 (v9:List V):M Out :=
 zb (
 zb (
 zba zbm zxd [(zd v9 0),(Value.int .i64 0)]
 ) fun o=>ret (zv 4 o)
 ) fun o=>nx o z60
def z62 (v5:List V):M Out :=
 zb (
 zb (
 zba zbm ziw [(zd v5 0),(zd v5 1),(Value.int .i64 0)]
 ) fun o=>ret (zv 2 o)
 ) fun o=>nx o z61
def z63 (vs:List V):M Out :=
 zb (
 zb (
 zba zbm ztn [(zd vs 0),(zd vs 1),(zd vs 2),(zd vs 3),(Value.int .i64 0)]
 ) fun o=>ret (zv 0 o)
 ) fun o=>nx o z62
def z2b (x0 x1 x2:V):M V :=
 zb (
 zb (za (zr 3 x0 x1)) fun x15 =>
 zb (ldn 3 x15) fun x16 =>
 zb (newc [Value.string ⟨#[]⟩,Value.string ⟨#[]⟩,Value.slice none 0 0]) fun x7 =>
 zb (stn 3 x7 x16) fun _ =>
 zb (
 zb (za (zf 0 x7)) fun x17 =>
 zb (zz x17) fun x18 =>
 zb (ztm [x18]) fun x19 =>
 zb (za (un .not x19)) fun x20 =>
 zb (gd x20 false (za (zf 1 x7))) fun x22 =>
 zb (gd x20 false (zz x22)) fun x23 =>
 zb (gd x20 false (za (zd9 x23))) fun x24 =>
 zb (gd x20 false (za (zu .lss x24 (Value.int .i64 16)))) fun x25 =>
 zb (za (z8 x20 (Value.bool true) x25)) fun x26 =>
 zb (gd x26 false (za (zf 1 x7))) fun x28 =>
 zb (gd x26 false (zz x28)) fun x29 =>
 zb (gd x26 false (za (zd9 x29))) fun x30 =>
 zb (gd x26 false (za (zu .gtr x30 (Value.int .i64 64)))) fun x31 =>
 zb (za (z8 x26 (Value.bool true) x31)) fun x32 =>
 zp x32 (
 ret (.ret [(Value.int .i64 3)])
 ) (
 ret (.nxt [x0,x1,x2,x7])
 )
 ) fun o=>nx o z63
 ) fun o=>zbk o fun vs=>ret (zbi [(zd vs 0)])
def zboi:Hint:=(.seq [] .leaf (.seq [] .leaf (.seq [0,1,2,7] (.seq [] .leaf (.cond (.seq [] .leaf .leaf) .leaf)) (.seq [2,7] (.seq [] .leaf (.blk (.loop [0,1,2,7,8] (.seq [0,1,2,7,8] (.seq [] .leaf (.cond .leaf .leaf)) (.seq [0,1,2,7,8] (.blk (.seq [] (.reg [0,1,2,3,5,4,6,7] []) (.cond (.seq [] .leaf .leaf) .leaf))) .leaf))))) (.seq [7] (.seq [] .leaf (.blk (.loop [2,7,9] (.seq [2,7,9] (.seq [] .leaf (.cond .leaf .leaf)) (.seq [2,7,9] (.blk (.seq [] .leaf (.seq [] .leaf (.cond (.seq [] .leaf .leaf) .leaf)))) .leaf))))) (.seq [] (.seq [] .leaf (.blk (.loop [7,11] (.seq [7,11] (.seq [] .leaf (.cond .leaf .leaf)) (.seq [7,11] (.blk (.seq [] .leaf (.blk (.loop [7,11,12] (.seq [7,11,12] (.seq [] .leaf (.cond .leaf .leaf)) (.seq [7,11,12] (.blk (.seq [] (.reg [0,2,6,8,1,3,4,5,7,9,10,11,12] []) (.cond (.seq [] .leaf .leaf) .leaf))) .leaf)))))) .leaf))))) (.seq [] .leaf .leaf)))))))
def zvk:List V→M V:=ap3 z2b
def zboj:zx:=ovr [(z27,ztm)] noC
theorem zbok:zq Tryz.prog z4z (zvk):=kn3 (σ:=zboj) (hint:=zboi) (by kernel_rfl) (zh zbll zl) fun _ _ _=>(by kernel_rfl)
def z64 (v5:List V):M Out :=
 zb (za (zu .add (zd v5 2) (Value.int .i64 1))) fun x22 =>
 ret (.nxt [(zd v5 0),(zd v5 1),x22])
def z65 (v4:List V):M Out :=
 zb (
 zb (
 zb (zvk [(zd v4 0),(zd v4 2),(zd v4 1)]) fun x26 =>
 zb (za (zu .neq x26 (Value.int .i64 0))) fun x28 =>
 zp x28 (
 ret (.ret [(zd v4 2),x26])
 ) (
 ret (.nxt [(zd v4 0),(zd v4 1),(zd v4 2)])
 )
 ) fun o=>ret (zv 1 o)
 ) fun o=>nx o z64
def zxe (v3:List V):M Out :=
 zb (
 zb (za (zw (zd v3 0))) fun x19 =>
 zb (za (zu .lss (zd v3 2) x19)) fun x20 =>
 zp x20 (
 ret (.nxt [(zd v3 0),(zd v3 1),(zd v3 2)])
 ) (
 ret (.brk 0 [])
 )
 ) fun o=>nx o z65
def z66 (v6:List V):M Out :=
 ret (.ret [(Value.int .i64 0),(Value.int .i64 0)])
def z67 (v2:List V):M Out :=
 zb (
 zb (
 zba zbm zxe [(zd v2 0),(zd v2 1),(Value.int .i64 0)]
 ) fun o=>ret (zv 0 o)
 ) fun o=>nx o z66
def zxf (vs:List V):M Out :=
 zb (
 zb (za (zw (zd vs 0))) fun x15 =>
 zb (za (zu .gtr x15 (Value.int .i64 8))) fun x16 =>
 zp x16 (
 ret (.ret [(Value.int .i64 (-1)),(Value.int .i64 2)])
 ) (
 ret (.nxt [(zd vs 0),(zd vs 1)])
 )
 ) fun o=>nx o z67
def zk3 (x0 x1:V):M V :=
 zb (
 zb (
 zb (za (zu .lss x1 (Value.int .i64 1))) fun x9 =>
 zb (gd x9 false (za (some x1))) fun x11 =>
 zb (gd x9 false (za (zu .gtr x11 (Value.int .i64 8)))) fun x12 =>
 zb (za (z8 x9 (Value.bool true) x12)) fun x13 =>
 zp x13 (
 ret (.ret [(Value.int .i64 (-1)),(Value.int .i64 1)])
 ) (
 ret (.nxt [x0,x1])
 )
 ) fun o=>nx o zxf
 ) fun o=>zbk o fun vs=>ret (zbi [(zd vs 0),(zd vs 1)])
def zblm:Hint:=(.seq [] .leaf (.seq [0,1] (.seq [] .leaf (.cond (.seq [] .leaf .leaf) .leaf)) (.seq [0,1] (.seq [] .leaf (.cond (.seq [] .leaf .leaf) .leaf)) (.seq [] (.seq [] .leaf (.blk (.loop [0,1,6] (.seq [0,1,6] (.seq [] .leaf (.cond .leaf .leaf)) (.seq [0,1,6] (.blk (.seq [] .leaf (.seq [] .leaf (.cond (.seq [] .leaf .leaf) .leaf)))) .leaf))))) (.seq [] .leaf .leaf)))))
def ztp:List V→M V:=ap2 zk3
def zbln:zx:=ovr [(z4z,zvk)] noC
theorem zblo:zq Tryz.prog z22 (ztp):=kn2 (σ:=zbln) (hint:=zblm) (by kernel_rfl) (zh zbok zl) fun _ _=>(by kernel_rfl)
def zbdr (v2:List V):M Out :=
 zb (za (build [Value.slice none 0 0,Value.int .i64 0,Value.int .i64 0,Value.slice none 0 0,Value.slice none 0 0,Value.int .i64 0,Value.int .i64 0] [(0,1,(zd v2 0)),(1,1,(zd v2 1))])) fun x27 =>
 zb (zdc x27) fun x28 =>
 ret (.ret [x28,(Value.int .i64 0)])
def zvl (vs:List V):M Out :=
 zb (
 zb (za (zu .lss (zd vs 1) (Value.int .i64 1))) fun x20 =>
 zb (gd x20 false (za (some (zd vs 1)))) fun x22 =>
 zb (gd x20 false (za (zu .gtr x22 (Value.int .i64 100000)))) fun x23 =>
 zb (za (z8 x20 (Value.bool true) x23)) fun x24 =>
 zp x24 (
 ret (.ret [(Value.pointer none),(Value.int .i64 1)])
 ) (
 ret (.nxt [(zd vs 0),(zd vs 1)])
 )
 ) fun o=>nx o zbdr
def z68 (x0 x1 x2:V):M V :=
 zb (
 zb (
 zb (ztp [x0,x1]) fun x13 =>
 zb (za (ext 0 x13)) fun x14 =>
 zb (za (ext 1 x13)) fun x15 =>
 zb (za (zu .neq x15 (Value.int .i64 0))) fun x17 =>
 zp x17 (
 ret (.ret [(Value.pointer none),x15])
 ) (
 ret (.nxt [x0,x2])
 )
 ) fun o=>nx o zvl
 ) fun o=>zbk o fun vs=>ret (zbi [(zd vs 0),(zd vs 1)])
def zbrj:Hint:=(.seq [] .leaf (.seq [0,2] (.seq [] .leaf (.seq [] .leaf (.cond (.seq [] .leaf .leaf) .leaf))) (.seq [0,2] (.seq [] .leaf (.cond (.seq [] .leaf .leaf) .leaf)) (.seq [] .leaf .leaf))))
def zyp:List V→M V:=ap3 z68
def zbrk:zx:=ovr [(z22,ztp)] noC
theorem zbrl:zq Tryz.prog z8u (zyp):=kn3 (σ:=zbrk) (hint:=zbrj) (by kernel_rfl) (zh zblo zl) fun _ _ _=>(by kernel_rfl)
def z2c (v5:List V):M Out :=
 zb (za (zu .add (zd v5 2) (Value.int .i64 1))) fun x44 =>
 ret (.nxt [(zd v5 0),(zd v5 1),x44])
def z2d (v4:List V):M Out :=
 zb (
 zb (
 zb (za (zf 3 (zd v4 0))) fun x45 =>
 zb (za (zf 1 x45)) fun x46 =>
 zb (zz x46) fun x47 =>
 zb (za (zr 3 x47 (zd v4 2))) fun x49 =>
 zb (za (zf 0 x49)) fun x50 =>
 zb (zz x50) fun x51 =>
 zb (za (zu .eql x51 (Value.int .i64 (-1)))) fun x52 =>
 zp x52 (
 zb (za (zf 3 (zd v4 0))) fun x54 =>
 zb (za (zf 1 x54)) fun x55 =>
 zb (zz x55) fun x56 =>
 zb (za (zr 3 x56 (zd v4 2))) fun x58 =>
 zb (za (zf 2 x58)) fun x59 =>
 zb (zz x59) fun x60 =>
 zb (za (zb2 (zd v4 1))) fun x61 =>
 zb (za (zf 4 x61)) fun x62 =>
 zb (st1 x62 x60) fun _ =>
 ret (.nxt [(zd v4 0),(zd v4 1),(zd v4 2)])
 ) (
 ret (.nxt [(zd v4 0),(zd v4 1),(zd v4 2)])
 )
 ) fun o=>ret (zv 1 o)
 ) fun o=>nx o z2c
def zvm (v3:List V):M Out :=
 zb (
 zb (za (zf 3 (zd v3 0))) fun x38 =>
 zb (za (zf 1 x38)) fun x39 =>
 zb (zz x39) fun x40 =>
 zb (za (zw x40)) fun x41 =>
 zb (za (zu .lss (zd v3 2) x41)) fun x42 =>
 zp x42 (
 ret (.nxt [(zd v3 0),(zd v3 1),(zd v3 2)])
 ) (
 ret (.brk 0 [(zd v3 1)])
 )
 ) fun o=>nx o z2d
def zbds (v6:List V):M Out :=
 ret (.ret [(zd v6 0),(Value.int .i64 0)])
def zbdt (v2:List V):M Out :=
 zb (za (build [Value.pointer none,Value.pointer none,Value.int .i64 0,Value.int .i64 0,Value.int .i64 0,Value.slice none 0 0] [(0,1,(zd v2 1)),(1,1,(zd v2 2))])) fun x35 =>
 zb (zdc x35) fun x36 =>
 zb (
 zb (
 zba zbm zvm [(zd v2 0),x36,(Value.int .i64 0)]
 ) fun o=>ret (zv 0 o)
 ) fun o=>nx o zbds
def zbdu (vs:List V):M Out :=
 zb (za (zf 5 (zd vs 2))) fun x23 =>
 zb (zz x23) fun x24 =>
 zb (za (zw x24)) fun x25 =>
 zb (zyp [(zd vs 0),x25,(zd vs 1)]) fun x27 =>
 zb (za (ext 0 x27)) fun x28 =>
 zb (za (ext 1 x27)) fun x29 =>
 zb (
 zb (za (zu .neq x29 (Value.int .i64 0))) fun x31 =>
 zp x31 (
 ret (.ret [(Value.pointer none),x29])
 ) (
 ret (.nxt [(zd vs 2),(zd vs 3),x28])
 )
 ) fun o=>nx o zbdt
def z69 (x0 x1 x2:V):M V :=
 zb (
 zb (zdc x0) fun x3 =>
 zb (ldn 7 x3) fun x14 =>
 zb (zyo [x14]) fun x15 =>
 zb (za (ext 0 x15)) fun x16 =>
 zb (za (ext 1 x15)) fun x17 =>
 zb (
 zb (za (zu .neq x17 (Value.int .i64 0))) fun x19 =>
 zp x19 (
 ret (.ret [(Value.pointer none),x17])
 ) (
 ret (.nxt [x1,x2,x3,x16])
 )
 ) fun o=>nx o zbdu
 ) fun o=>zbk o fun vs=>ret (zbi [(zd vs 0),(zd vs 1)])
def zbrm:Hint:=(.seq [] .leaf (.seq [] .leaf (.seq [1,2,3,8] (.seq [] .leaf (.cond (.seq [] .leaf .leaf) .leaf)) (.seq [] .leaf (.seq [3,8,10] (.seq [] .leaf (.cond (.seq [] .leaf .leaf) .leaf)) (.seq [] .leaf (.seq [11] (.seq [] .leaf (.blk (.loop [3,11,12] (.seq [3,11,12] (.seq [] .leaf (.cond .leaf .leaf)) (.seq [3,11,12] (.blk (.seq [] .leaf (.cond .leaf .leaf))) .leaf))))) (.seq [] .leaf .leaf))))))))
def zyq:List V→M V:=ap3 z69
def zbrn:zx:=ovr [(z8t,zyo),(z8u,zyp)] noC
theorem zbro:zq Tryz.prog z8r (zyq):=kn3 (σ:=zbrn) (hint:=zbrm) (by kernel_rfl) (zh zbri (zh zbrl zl)) fun _ _ _=>(by kernel_rfl)
def z3q (vs:List V):M Out :=
 zb (
 zb (za (zu .rem (zd vs 0) (Value.int .i64 10))) fun x5 =>
 zb (za (zu .add (Value.int .i64 48) x5)) fun x6 =>
 zb (za (cvi .u8 x6)) fun x7 =>
 zb (zcc 1 1 (rep 1 [Value.int .u8 0]) [(0,1,x7)]) fun x8 =>
 zb (b2s x8) fun x9 =>
 zb (za (zu .add x9 (zd vs 1))) fun x11 =>
 zb (za (zu .quo (zd vs 0) (Value.int .i64 10))) fun x13 =>
 zb (za (zu .eql x13 (Value.int .i64 0))) fun x15 =>
 zp x15 (
 ret (.ret [x11])
 ) (
 ret (.nxt [x13,x11])
 )
 ) fun o=>ret (zv 1 o)
def zxg (x0:V):M V :=
 zb (
 zb (
 zba zbm z3q [x0,(Value.string ⟨#[]⟩)]
 ) fun o=>ret (zv 0 o)
 ) fun o=>zbk o fun vs=>ret (zbi [(zd vs 0)])
def zbji:Hint:=(.seq [] .leaf (.seq [] .leaf (.blk (.loop [0,3] (.blk (.seq [] .leaf (.seq [] .leaf (.seq [] .leaf (.cond (.seq [] .leaf .leaf) .leaf)))))))))
def zxh:List V→M V:=ap1 zxg
theorem zbjj:zq Tryz.prog z0j (zxh):=kn1 (σ:=ovr [] noC) (hint:=zbji) (by kernel_rfl) zl fun _=>(by kernel_rfl)
def zxi (x0:V):M V :=
 zb (
 zb (zxh [x0]) fun x4 =>
 ret (.ret [x4])
 ) fun o=>zbk o fun vs=>ret (zbi [(zd vs 0)])
def zbjk:Hint:=(.seq [] .leaf (.seq [] .leaf .leaf))
def zbn:List V→M V:=ap1 zxi
def zbjl:zx:=ovr [(z0j,zxh)] noC
theorem zxj:zq Tryz.prog znc (zbn):=kn1 (σ:=zbjl) (hint:=zbjk) (by kernel_rfl) (zh zbjj zl) fun _=>(by kernel_rfl)
def zmv (v3:List V):M Out :=
 zb (za (zb2 (zd v3 0))) fun x24 =>
 zb (za (zf 0 x24)) fun x25 =>
 zb (za (zr 1 (zd v3 1) (zd v3 2))) fun x29 =>
 zb (zz x25) fun x26 =>
 zb (zz x29) fun x30 =>
 zb (appS x26 x30) fun x31 =>
 zb (za (zb2 (zd v3 0))) fun x32 =>
 zb (za (zf 0 x32)) fun x33 =>
 zb (st1 x33 x31) fun _ =>
 ret (.nxt [(zd v3 0),(zd v3 1),(zd v3 2)])
def zmw (v4:List V):M Out :=
 zb (za (zu .add (zd v4 2) (Value.int .i64 1))) fun x10 =>
 ret (.nxt [(zd v4 0),(zd v4 1),x10])
def zmx (v2:List V):M Out :=
 zb (
 zb (
 zb (
 zb (za (zu .gtr (zd v2 2) (Value.int .i64 0))) fun x12 =>
 zp x12 (
 zb (za (zb2 (zd v2 0))) fun x15 =>
 zb (za (zf 0 x15)) fun x16 =>
 zb (zz x16) fun x17 =>
 zb (zcc 1 1 (rep 1 [Value.int .u8 0]) [(0,1,(Value.int .u8 32))]) fun x18 =>
 zb (zd0 1 1 x17 x18) fun x19 =>
 zb (za (zb2 (zd v2 0))) fun x20 =>
 zb (za (zf 0 x20)) fun x21 =>
 zb (st1 x21 x19) fun _ =>
 ret (.nxt [(zd v2 0),(zd v2 1),(zd v2 2)])
 ) (
 ret (.nxt [(zd v2 0),(zd v2 1),(zd v2 2)])
 )
 ) fun o=>nx o zmv
 ) fun o=>ret (zv 1 o)
 ) fun o=>nx o zmw
def zii (vs:List V):M Out :=
 zb (
 zb (za (zw (zd vs 1))) fun x7 =>
 zb (za (zu .lss (zd vs 2) x7)) fun x8 =>
 zp x8 (
 ret (.nxt [(zd vs 0),(zd vs 1),(zd vs 2)])
 ) (
 ret (.brk 0 [(zd vs 0)])
 )
 ) fun o=>nx o zmx
def zt5 (v5:List V):M Out :=
 zb (za (zb2 (zd v5 0))) fun x36 =>
 zb (za (zf 0 x36)) fun x37 =>
 zb (zz x37) fun x38 =>
 zb (zcc 1 1 (rep 1 [Value.int .u8 0]) [(0,1,(Value.int .u8 10))]) fun x39 =>
 zb (zd0 1 1 x38 x39) fun x40 =>
 zb (za (zb2 (zd v5 0))) fun x41 =>
 zb (za (zf 0 x41)) fun x42 =>
 zb (st1 x42 x40) fun _ =>
 ret (.nxt [])
def zoh (x0 x1:V):M V :=
 zb (
 zb (
 zb (
 zba zbm zii [x0,x1,(Value.int .i64 0)]
 ) fun o=>ret (zv 0 o)
 ) fun o=>nx o zt5
 ) fun o=>zbk o fun vs=>ret (zbi [])
def z8j:Hint:=(.seq [0] (.seq [] .leaf (.blk (.loop [0,1,4] (.seq [0,1,4] (.seq [] .leaf (.cond .leaf .leaf)) (.seq [0,1,4] (.blk (.seq [0,1,4] (.seq [] .leaf (.cond .leaf .leaf)) (.reg [0,1,2,3,5,6,7,4,8,9,10,11,12] []))) .leaf))))) .leaf)
def zbc:List V→M V:=ap2 zoh
theorem zoi:zq Tryz.prog zht (zbc):=kn2 (σ:=ovr [] noC) (hint:=z8j) (by kernel_rfl) zl fun _ _=>(by kernel_rfl)
def zz1:M V :=
 zb (
 zb (zcc 1 4 (rep 4 [Value.string ⟨#[]⟩]) [(0,1,(Value.string ⟨#[]⟩)),(1,1,(Value.string ⟨#[98,111,111,108]⟩)),(2,1,(Value.string ⟨#[105,110,116]⟩)),(3,1,(Value.string ⟨#[100,105,110,116]⟩))]) fun x1 =>
 ret (.ret [x1])
 ) fun o=>zbk o fun vs=>ret (zbi [(zd vs 0)])
def zblp:Hint:=(.seq [] .leaf (.seq [] .leaf .leaf))
def zk4:List V→M V:=ap0 zz1
theorem zblq:zq Tryz.prog z2w (zk4):=kn0 (σ:=ovr [] noC) (hint:=zblp) (by kernel_rfl) zl (by kernel_rfl)
def zmy (v3:List V):M Out :=
 zb (za (zr 2 (zd v3 2) (zd v3 3))) fun x25 =>
 zb (za (zf 1 x25)) fun x26 =>
 zb (zz x26) fun x27 =>
 zb (zbn [x27]) fun x28 =>
 zb (zcc 1 3 (rep 3 [Value.string ⟨#[]⟩]) [(0,1,(zd v3 1)),(1,1,(zd v3 4)),(2,1,x28)]) fun x29 =>
 zb (zbc [(zd v3 0),x29]) fun x30 =>
 ret (.nxt [(zd v3 0),(zd v3 1),(zd v3 2),(zd v3 3)])
def zmz (v4:List V):M Out :=
 zb (za (zu .add (zd v4 3) (Value.int .i64 1))) fun x13 =>
 ret (.nxt [(zd v4 0),(zd v4 1),(zd v4 2),x13])
def zm0 (v2:List V):M Out :=
 zb (
 zb (
 zb (
 zb (za (zr 2 (zd v2 2) (zd v2 3))) fun x16 =>
 zb (za (zf 0 x16)) fun x17 =>
 zb (zz x17) fun x18 =>
 zb (za (zu .eql x18 (Value.int .i64 2))) fun x19 =>
 zp x19 (
 ret (.nxt [(zd v2 0),(zd v2 1),(zd v2 2),(zd v2 3),(Value.string ⟨#[112,111,114,116]⟩)])
 ) (
 ret (.nxt [(zd v2 0),(zd v2 1),(zd v2 2),(zd v2 3),(Value.string ⟨#[112,111,105,110,116]⟩)])
 )
 ) fun o=>nx o zmy
 ) fun o=>ret (zv 1 o)
 ) fun o=>nx o zmz
def zij (vs:List V):M Out :=
 zb (
 zb (za (zw (zd vs 2))) fun x10 =>
 zb (za (zu .lss (zd vs 3) x10)) fun x11 =>
 zp x11 (
 ret (.nxt [(zd vs 0),(zd vs 1),(zd vs 2),(zd vs 3)])
 ) (
 ret (.brk 0 [])
 )
 ) fun o=>nx o zm0
def zoj (x0 x1 x2:V):M V :=
 zb (
 zb (
 zba zbm zij [x0,x1,x2,(Value.int .i64 0)]
 ) fun o=>ret (zv 0 o)
 ) fun o=>zbk o fun vs=>ret (zbi [])
def z8k:Hint:=(.seq [] .leaf (.blk (.loop [0,1,2,6] (.seq [0,1,2,6] (.seq [] .leaf (.cond .leaf .leaf)) (.seq [0,1,2,6] (.blk (.seq [] .leaf (.seq [0,1,2,6,7] (.seq [] .leaf (.cond .leaf .leaf)) .leaf))) .leaf)))))
def zgy:List V→M V:=ap3 zoj
def z8l:zx:=ovr [(znc,zbn),(zht,zbc)] noC
theorem z8m:zq Tryz.prog zsh (zgy):=kn3 (σ:=z8l) (hint:=z8k) (by kernel_rfl) (zh zxj (zh zoi zl)) fun _ _ _=>(by kernel_rfl)
def zj6 (v3:List V):M Out :=
 zh0 fun h0 =>
 zb (za (zf 0 (zd v3 1))) fun x29 =>
 zb (zz x29) fun x30 =>
 zb (za (zr 2 x30 (zd v3 2))) fun x32 =>
 zb (za (zf 0 x32)) fun x33 =>
 zb (zz x33) fun x34 =>
 zbw (zk4 []) fun ha x28 h1 =>
 zb (za (zr 1 x28 x34)) fun x35 =>
 zb (zz x35) fun x36 =>
 zbw (zcc 1 2 (rep 2 [Value.string ⟨#[]⟩]) [(0,1,(zd v3 3)),(1,1,x36)]) fun ha_2 x37 h2 =>
 zbw (zbc [(zd v3 0),x37]) fun ha_3 x38 h3 =>
 zdj (chk (zz x29) h1 x30) <|
 zdj (chk (zz x33) h1 x34) <|
 ret (.nxt [(zd v3 0),(zd v3 1),(zd v3 2)])
def zj7 (v4:List V):M Out :=
 zb (za (zu .add (zd v4 2) (Value.int .i64 1))) fun x19 =>
 ret (.nxt [(zd v4 0),(zd v4 1),x19])
def zj8 (v2:List V):M Out :=
 zb (
 zb (
 zb (
 zb (za (zf 0 (zd v2 1))) fun x20 =>
 zb (zz x20) fun x21 =>
 zb (za (zr 2 x21 (zd v2 2))) fun x23 =>
 zb (za (zf 1 x23)) fun x24 =>
 zb (zz x24) fun x25 =>
 zp x25 (
 ret (.nxt [(zd v2 0),(zd v2 1),(zd v2 2),(Value.string ⟨#[111,117,116]⟩)])
 ) (
 ret (.nxt [(zd v2 0),(zd v2 1),(zd v2 2),(Value.string ⟨#[105,110]⟩)])
 )
 ) fun o=>nx o zj6
 ) fun o=>ret (zv 1 o)
 ) fun o=>nx o zj7
def ze1 (vs:List V):M Out :=
 zb (
 zb (za (zf 0 (zd vs 1))) fun x14 =>
 zb (zz x14) fun x15 =>
 zb (za (zw x15)) fun x16 =>
 zb (za (zu .lss (zd vs 2) x16)) fun x17 =>
 zp x17 (
 ret (.nxt [(zd vs 0),(zd vs 1),(zd vs 2)])
 ) (
 ret (.brk 0 [(zd vs 0),(zd vs 1)])
 )
 ) fun o=>nx o zj8
def zj9 (v8:List V):M Out :=
 zh0 fun h0_2 =>
 zb (za (zf 1 (zd v8 1))) fun x54 =>
 zb (za (zf 1 (zd v8 1))) fun x61 =>
 zb (zz x54) fun x55 =>
 zb (za (zr 3 x55 (zd v8 2))) fun x57 =>
 zb (za (zf 0 x57)) fun x58 =>
 zb (zz x58) fun x59 =>
 zb (zz x61) fun x62 =>
 zb (za (zr 3 x62 (zd v8 2))) fun x64 =>
 zb (za (zf 1 x64)) fun x65 =>
 zb (zz x65) fun x66 =>
 zbw (zbn [x59]) fun ha_4 x60 h1_2 =>
 zbw (zbn [x66]) fun ha_5 x67 h2_2 =>
 zbw (zcc 1 3 (rep 3 [Value.string ⟨#[]⟩]) [(0,1,(zd v8 3)),(1,1,x60),(2,1,x67)]) fun ha_6 x68 h3_2 =>
 zbw (zbc [(zd v8 0),x68]) fun ha_7 x69 h4 =>
 zdj (chk (zz x61) h1_2 x62) <|
 zdj (chk (zz x65) h1_2 x66) <|
 ret (.nxt [(zd v8 0),(zd v8 1),(zd v8 2)])
def zka (v9:List V):M Out :=
 zb (za (zu .add (zd v9 2) (Value.int .i64 1))) fun x45 =>
 ret (.nxt [(zd v9 0),(zd v9 1),x45])
def zkb (v7:List V):M Out :=
 zb (
 zb (
 zb (
 zb (za (zf 1 (zd v7 1))) fun x46 =>
 zb (zz x46) fun x47 =>
 zb (za (zr 3 x47 (zd v7 2))) fun x49 =>
 zb (za (zf 2 x49)) fun x50 =>
 zb (zz x50) fun x51 =>
 zp x51 (
 ret (.nxt [(zd v7 0),(zd v7 1),(zd v7 2),(Value.string ⟨#[119,114,105,116,101]⟩)])
 ) (
 ret (.nxt [(zd v7 0),(zd v7 1),(zd v7 2),(Value.string ⟨#[114,101,97,100]⟩)])
 )
 ) fun o=>nx o zj9
 ) fun o=>ret (zv 3 o)
 ) fun o=>nx o zka
def ze2 (v6:List V):M Out :=
 zb (
 zb (za (zf 1 (zd v6 1))) fun x40 =>
 zb (zz x40) fun x41 =>
 zb (za (zw x41)) fun x42 =>
 zb (za (zu .lss (zd v6 2) x42)) fun x43 =>
 zp x43 (
 ret (.nxt [(zd v6 0),(zd v6 1),(zd v6 2)])
 ) (
 ret (.brk 2 [(zd v6 0),(zd v6 1)])
 )
 ) fun o=>nx o zkb
def zkc (v13:List V):M Out :=
 zb (za (zu .add (zd v13 2) (Value.int .i64 1))) fun x76 =>
 ret (.nxt [(zd v13 0),(zd v13 1),x76])
def zkd (v12:List V):M Out :=
 zb (
 zb (
 zb (za (zf 2 (zd v12 1))) fun x77 =>
 zb (zz x77) fun x78 =>
 zb (za (zr 5 x78 (zd v12 2))) fun x80 =>
 zb (ldn 5 x80) fun x81 =>
 zb (newc [Value.int .i64 0,Value.int .i64 0,Value.int .i64 0,Value.int .i64 0,Value.int .i64 0]) fun x9 =>
 zb (stn 5 x9 x81) fun _ =>
 zb (za (zf 0 x9)) fun x82 =>
 zb (zz x82) fun x83 =>
 zb (za (zu .eql x83 (Value.int .i64 1))) fun x84 =>
 zp x84 (
 zh0 fun h0_3 =>
 zb (za (zf 1 x9)) fun x86 =>
 zb (za (zf 2 x9)) fun x89 =>
 zb (za (zf 3 x9)) fun x93 =>
 zb (zz x86) fun x87 =>
 zb (zz x89) fun x90 =>
 zb (zz x93) fun x94 =>
 zbw (zbn [x87]) fun ha_8 x88 h1_3 =>
 zbw (zbn [x90]) fun ha_9 x91 h2_3 =>
 zbw (zk4 []) fun ha_10 x92 h3_3 =>
 zb (za (zr 1 x92 x94)) fun x95 =>
 zb (zz x95) fun x96 =>
 zbw (zcc 1 4 (rep 4 [Value.string ⟨#[]⟩]) [(0,1,(Value.string ⟨#[115,97,109,112,108,101]⟩)),(1,1,x88),(2,1,x91),(3,1,x96)]) fun ha_11 x97 h4_2 =>
 zbw (zbc [(zd v12 0),x97]) fun ha_12 x98 h5 =>
 zdj (chk (zz x89) h1_3 x90) <|
 zdj (chk (zz x93) h1_3 x94) <|
 zdj (chk (zz x93) h2_3 x94) <|
 zdj (chk (zz x93) h3_3 x94) <|
 ret (.nxt [(zd v12 0),(zd v12 1),(zd v12 2)])
 ) (
 zh0 fun h0_4 =>
 zb (za (zf 1 x9)) fun x100 =>
 zb (za (zf 2 x9)) fun x103 =>
 zb (za (zf 3 x9)) fun x107 =>
 zb (za (zf 4 x9)) fun x111 =>
 zb (zz x100) fun x101 =>
 zb (zz x103) fun x104 =>
 zb (zz x107) fun x108 =>
 zb (zz x111) fun x112 =>
 zbw (zbn [x101]) fun ha_13 x102 h1_4 =>
 zbw (zbn [x104]) fun ha_14 x105 h2_4 =>
 zbw (zk4 []) fun ha_15 x106 h3_4 =>
 zb (za (zr 1 x106 x108)) fun x109 =>
 zb (zz x109) fun x110 =>
 zbw (zbn [x112]) fun ha_16 x113 h4_3 =>
 zbw (zcc 1 5 (rep 5 [Value.string ⟨#[]⟩]) [(0,1,(Value.string ⟨#[113,117,101,117,101]⟩)),(1,1,x102),(2,1,x105),(3,1,x110),(4,1,x113)]) fun ha_17 x114 h5_2 =>
 zbw (zbc [(zd v12 0),x114]) fun ha_18 x115 h6 =>
 zdj (chk (zz x103) h1_4 x104) <|
 zdj (chk (zz x107) h1_4 x108) <|
 zdj (chk (zz x107) h2_4 x108) <|
 zdj (chk (zz x107) h3_4 x108) <|
 zdj (chk (zz x107) h4_3 x108) <|
 zdj (chk (zz x111) h1_4 x112) <|
 zdj (chk (zz x111) h2_4 x112) <|
 zdj (chk (zz x111) h3_4 x112) <|
 zdj (chk (zz x109) h4_3 x110) <|
 ret (.nxt [(zd v12 0),(zd v12 1),(zd v12 2)])
 )
 ) fun o=>ret (zv 5 o)
 ) fun o=>nx o zkc
def zek (v11:List V):M Out :=
 zb (
 zb (za (zf 2 (zd v11 1))) fun x71 =>
 zb (zz x71) fun x72 =>
 zb (za (zw x72)) fun x73 =>
 zb (za (zu .lss (zd v11 2) x73)) fun x74 =>
 zp x74 (
 ret (.nxt [(zd v11 0),(zd v11 1),(zd v11 2)])
 ) (
 ret (.brk 4 [(zd v11 0),(zd v11 1)])
 )
 ) fun o=>nx o zkd
def zjj (v17:List V):M Out :=
 zb (za (zu .add (zd v17 2) (Value.int .i64 1))) fun x123 =>
 ret (.nxt [(zd v17 0),(zd v17 1),x123])
def zjk (v16:List V):M Out :=
 zb (
 zb (
 zb (za (zf 3 (zd v16 1))) fun x124 =>
 zb (za (zf 1 x124)) fun x125 =>
 zb (zz x125) fun x126 =>
 zb (za (zr 3 x126 (zd v16 2))) fun x128 =>
 zb (ldn 3 x128) fun x129 =>
 zb (newc [Value.int .i64 0,Value.int .i64 0,Value.int .i64 0]) fun x11 =>
 zb (stn 3 x11 x129) fun _ =>
 zb (za (zf 0 x11)) fun x130 =>
 zb (zz x130) fun x131 =>
 zb (za (zu .lss x131 (Value.int .i64 0))) fun x132 =>
 zp x132 (
 zh0 fun h0_5 =>
 zb (za (zf 1 x11)) fun x134 =>
 zb (za (zf 2 x11)) fun x137 =>
 zb (zz x134) fun x135 =>
 zb (zz x137) fun x138 =>
 zbw (zbn [x135]) fun ha_19 x136 h1_5 =>
 zbw (zbn [x138]) fun ha_20 x139 h2_5 =>
 zbw (zcc 1 3 (rep 3 [Value.string ⟨#[]⟩]) [(0,1,(Value.string ⟨#[101,110,103,105,110,101,101,114,115]⟩)),(1,1,x136),(2,1,x139)]) fun ha_21 x140 h3_5 =>
 zbw (zbc [(zd v16 0),x140]) fun ha_22 x141 h4_4 =>
 zdj (chk (zz x137) h1_5 x138) <|
 ret (.nxt [(zd v16 0),(zd v16 1),(zd v16 2)])
 ) (
 zh0 fun h0_6 =>
 zb (za (zf 0 x11)) fun x143 =>
 zb (za (zf 1 x11)) fun x146 =>
 zb (za (zf 2 x11)) fun x149 =>
 zb (zz x143) fun x144 =>
 zb (zz x146) fun x147 =>
 zb (zz x149) fun x150 =>
 zbw (zbn [x144]) fun ha_23 x145 h1_6 =>
 zbw (zbn [x147]) fun ha_24 x148 h2_6 =>
 zbw (zbn [x150]) fun ha_25 x151 h3_6 =>
 zbw (zcc 1 4 (rep 4 [Value.string ⟨#[]⟩]) [(0,1,(Value.string ⟨#[119,105,110,100,111,119]⟩)),(1,1,x145),(2,1,x148),(3,1,x151)]) fun ha_26 x152 h4_5 =>
 zbw (zbc [(zd v16 0),x152]) fun ha_27 x153 h5_3 =>
 zdj (chk (zz x146) h1_6 x147) <|
 zdj (chk (zz x149) h1_6 x150) <|
 zdj (chk (zz x149) h2_6 x150) <|
 ret (.nxt [(zd v16 0),(zd v16 1),(zd v16 2)])
 )
 ) fun o=>ret (zv 7 o)
 ) fun o=>nx o zjj
def zel (v15:List V):M Out :=
 zb (
 zb (za (zf 3 (zd v15 1))) fun x117 =>
 zb (za (zf 1 x117)) fun x118 =>
 zb (zz x118) fun x119 =>
 zb (za (zw x119)) fun x120 =>
 zb (za (zu .lss (zd v15 2) x120)) fun x121 =>
 zp x121 (
 ret (.nxt [(zd v15 0),(zd v15 1),(zd v15 2)])
 ) (
 ret (.brk 6 [(zd v15 0),(zd v15 1)])
 )
 ) fun o=>nx o zjk
def zp6 (v21:List V):M Out :=
 zb (za (zu .add (zd v21 2) (Value.int .i64 1))) fun x160 =>
 ret (.nxt [(zd v21 0),(zd v21 1),x160])
def zp7 (v20:List V):M Out :=
 zb (
 zb (
 zb (zcc 1 1 (rep 1 [Value.string ⟨#[]⟩]) [(0,1,(Value.string ⟨#[117,110,105,116]⟩))]) fun x162 =>
 zb (zbc [(zd v20 0),x162]) fun x163 =>
 zb (za (zf 5 (zd v20 1))) fun x165 =>
 zb (zz x165) fun x166 =>
 zb (za (zr 2 x166 (zd v20 2))) fun x168 =>
 zb (za (zf 0 x168)) fun x169 =>
 zb (zz x169) fun x170 =>
 zb (zgy [(zd v20 0),(Value.string ⟨#[103,101,116]⟩),x170]) fun x171 =>
 zb (za (zf 5 (zd v20 1))) fun x173 =>
 zb (zz x173) fun x174 =>
 zb (za (zr 2 x174 (zd v20 2))) fun x176 =>
 zb (za (zf 1 x176)) fun x177 =>
 zb (zz x177) fun x178 =>
 zb (zgy [(zd v20 0),(Value.string ⟨#[112,117,116]⟩),x178]) fun x179 =>
 ret (.nxt [(zd v20 0),(zd v20 1),(zd v20 2)])
 ) fun o=>ret (zv 9 o)
 ) fun o=>nx o zp6
def zgi (v19:List V):M Out :=
 zb (
 zb (za (zf 5 (zd v19 1))) fun x155 =>
 zb (zz x155) fun x156 =>
 zb (za (zw x156)) fun x157 =>
 zb (za (zu .lss (zd v19 2) x157)) fun x158 =>
 zp x158 (
 ret (.nxt [(zd v19 0),(zd v19 1),(zd v19 2)])
 ) (
 ret (.brk 8 [])
 )
 ) fun o=>nx o zp7
def zp8 (v18:List V):M Out :=
 zb (
 zba zbm zgi [(zd v18 0),(zd v18 1),(Value.int .i64 0)]
 ) fun o=>ret (zv 8 o)
def zp9 (v14:List V):M Out :=
 zb (
 zb (
 zba zbm zel [(zd v14 0),(zd v14 1),(Value.int .i64 0)]
 ) fun o=>ret (zv 6 o)
 ) fun o=>nx o zp8
def zqa (v10:List V):M Out :=
 zb (
 zb (
 zba zbm zek [(zd v10 0),(zd v10 1),(Value.int .i64 0)]
 ) fun o=>ret (zv 4 o)
 ) fun o=>nx o zp9
def zqb (v5:List V):M Out :=
 zb (
 zb (
 zba zbm ze2 [(zd v5 0),(zd v5 1),(Value.int .i64 0)]
 ) fun o=>ret (zv 2 o)
 ) fun o=>nx o zqa
def zle (x0 x1:V):M V :=
 zb (
 zb (zdc x1) fun x3 =>
 zb (
 zb (
 zba zbm ze1 [x0,x3,(Value.int .i64 0)]
 ) fun o=>ret (zv 0 o)
 ) fun o=>nx o zqb
 ) fun o=>zbk o fun vs=>ret (zbi [])
def z3z:Hint:=(.seq [] .leaf (.seq [0,3] (.seq [] .leaf (.blk (.loop [0,3,4] (.seq [0,3,4] (.seq [] .leaf (.cond .leaf .leaf)) (.seq [0,3,4] (.blk (.seq [] .leaf (.seq [0,3,4,5] (.seq [] .leaf (.cond .leaf .leaf)) (.reg [0,1,3,5,4,6,7,8,2,9,10,11,12] [])))) .leaf))))) (.seq [0,3] (.seq [] .leaf (.blk (.loop [0,3,6] (.seq [0,3,6] (.seq [] .leaf (.cond .leaf .leaf)) (.seq [0,3,6] (.blk (.seq [] .leaf (.seq [0,3,6,7] (.seq [] .leaf (.cond .leaf .leaf)) (.reg [0,1,2,4,9,11,3,5,6,7,10,12,13,14,8,15,16,17] [])))) .leaf))))) (.seq [0,3] (.seq [] .leaf (.blk (.loop [0,3,8] (.seq [0,3,8] (.seq [] .leaf (.cond .leaf .leaf)) (.seq [0,3,8] (.blk (.seq [] .leaf (.seq [] .leaf (.cond (.reg [0,1,4,8,2,5,9,3,6,7,10,11,12,13] []) (.reg [0,1,4,8,12,2,5,9,13,3,6,7,10,11,14,15,16] []))))) .leaf))))) (.seq [0,3] (.seq [] .leaf (.blk (.loop [0,3,10] (.seq [0,3,10] (.seq [] .leaf (.cond .leaf .leaf)) (.seq [0,3,10] (.blk (.seq [] .leaf (.seq [] .leaf (.cond (.reg [0,1,4,2,5,3,6,7,8] []) (.reg [0,1,4,7,2,5,8,3,6,9,10,11] []))))) .leaf))))) (.seq [] .leaf (.blk (.loop [0,3,12] (.seq [0,3,12] (.seq [] .leaf (.cond .leaf .leaf)) (.seq [0,3,12] (.blk (.seq [] .leaf (.seq [] .leaf .leaf))) .leaf))))))))))
def zhy:List V→M V:=ap2 zle
def z30:zx:=ovr [(z2w,zk4),(zht,zbc),(znc,zbn),(zsh,zgy)] noC
theorem z32:zq Tryz.prog zp0 (zhy):=kn2 (σ:=z30) (hint:=z3z) (by kernel_rfl) (zh zblq (zh zoi (zh zxj (zh z8m zl)))) fun _ _=>(by kernel_rfl)
def zbdv (v3:List V):M Out :=
 zb (za (zu .add (zd v3 3) (Value.int .i64 1))) fun x11 =>
 ret (.nxt [(zd v3 0),(zd v3 1),(zd v3 2),x11])
def zbdw (v2:List V):M Out :=
 zb (
 zb (
 zb (za (zjm (zd v2 0) (zd v2 3))) fun x16 =>
 zb (za (zu .quo x16 (Value.int .u8 16))) fun x17 =>
 zb (za (zjm (zd v2 1) x17)) fun x18 =>
 zb (za (zjm (zd v2 0) (zd v2 3))) fun x22 =>
 zb (za (zu .rem x22 (Value.int .u8 16))) fun x23 =>
 zb (za (zjm (zd v2 1) x23)) fun x24 =>
 zb (zcc 1 2 (rep 2 [Value.int .u8 0]) [(0,1,x18),(1,1,x24)]) fun x25 =>
 zb (zd0 1 1 (zd v2 2) x25) fun x26 =>
 ret (.nxt [(zd v2 0),(zd v2 1),x26,(zd v2 3)])
 ) fun o=>ret (zv 1 o)
 ) fun o=>nx o zbdv
def z2e (vs:List V):M Out :=
 zb (
 zb (za (zd9 (zd vs 0))) fun x8 =>
 zb (za (zu .lss (zd vs 3) x8)) fun x9 =>
 zp x9 (
 ret (.nxt [(zd vs 0),(zd vs 1),(zd vs 2),(zd vs 3)])
 ) (
 ret (.brk 0 [(zd vs 2)])
 )
 ) fun o=>nx o zbdw
def zbdx (v4:List V):M Out :=
 zb (b2s (zd v4 0)) fun x28 =>
 ret (.ret [x28])
def z7a (x0:V):M V :=
 zb (
 zb (
 zb (
 zba zbm z2e [x0,(Value.string ⟨#[48,49,50,51,52,53,54,55,56,57,97,98,99,100,101,102]⟩),(Value.slice none 0 0),(Value.int .i64 0)]
 ) fun o=>ret (zv 0 o)
 ) fun o=>nx o zbdx
 ) fun o=>zbk o fun vs=>ret (zbi [(zd vs 0)])
def zbrp:Hint:=(.seq [] .leaf (.seq [] .leaf (.seq [] .leaf (.seq [4] (.seq [] .leaf (.blk (.loop [0,3,4,5] (.seq [0,3,4,5] (.seq [] .leaf (.cond .leaf .leaf)) (.seq [0,3,4,5] (.blk (.reg [0,1,2,3,4,5,6,7,8,9,10,11,12,13,14,15] [])) .leaf))))) (.seq [] .leaf .leaf)))))
def zyr:List V→M V:=ap1 z7a
theorem zbrq:zq Tryz.prog z8s (zyr):=kn1 (σ:=ovr [] noC) (hint:=zbrp) (by kernel_rfl) zl fun _=>(by kernel_rfl)
def zxk:M V :=
 zb (
 zb (zcc 1 5 (rep 5 [Value.string ⟨#[]⟩]) [(0,1,(Value.string ⟨#[]⟩)),(1,1,(Value.string ⟨#[118,105,101,119]⟩)),(2,1,(Value.string ⟨#[114,117,110]⟩)),(3,1,(Value.string ⟨#[98,117,105,108,100]⟩)),(4,1,(Value.string ⟨#[102,111,114,99,101]⟩))]) fun x1 =>
 ret (.ret [x1])
 ) fun o=>zbk o fun vs=>ret (zbi [(zd vs 0)])
def zbjm:Hint:=(.seq [] .leaf (.seq [] .leaf .leaf))
def zr0:List V→M V:=ap0 zxk
theorem zbjn:zq Tryz.prog z0h (zr0):=kn0 (σ:=ovr [] noC) (hint:=zbjm) (by kernel_rfl) zl (by kernel_rfl)
def z93 (v6:List V):M Out :=
 zb (za (zu .add (zd v6 3) (Value.int .i64 1))) fun x82 =>
 ret (.nxt [(zd v6 0),(zd v6 1),(zd v6 2),x82])
def z94 (v5:List V):M Out :=
 zb (
 zb (
 zh0 fun h0_2 =>
 zb (za (zf 7 (zd v5 0))) fun x84 =>
 zb (za (zf 7 (zd v5 0))) fun x96 =>
 zb (zz x84) fun x85 =>
 zb (za (zr 3 x85 (zd v5 2))) fun x87 =>
 zb (za (zf 2 x87)) fun x88 =>
 zb (zz x88) fun x89 =>
 zb (za (zr 2 x89 (zd v5 3))) fun x91 =>
 zb (za (zf 0 x91)) fun x92 =>
 zb (zz x92) fun x93 =>
 zb (zz x96) fun x97 =>
 zb (za (zr 3 x97 (zd v5 2))) fun x99 =>
 zb (za (zf 2 x99)) fun x100 =>
 zb (zz x100) fun x101 =>
 zb (za (zr 2 x101 (zd v5 3))) fun x103 =>
 zb (za (zf 1 x103)) fun x104 =>
 zb (zz x104) fun x105 =>
 zbw (zbn [x93]) fun ha_4 x94 h1_2 =>
 zbw (zr0 []) fun ha_5 x95 h2_2 =>
 zb (za (zr 1 x95 x105)) fun x106 =>
 zb (zz x106) fun x107 =>
 zbw (zcc 1 3 (rep 3 [Value.string ⟨#[]⟩]) [(0,1,(Value.string ⟨#[114,111,108,101]⟩)),(1,1,x94),(2,1,x107)]) fun ha_6 x108 h3_2 =>
 zbw (zbc [(zd v5 1),x108]) fun ha_7 x109 h4 =>
 zdj (chk (zz x96) h1_2 x97) <|
 zdj (chk (zz x96) h2_2 x97) <|
 zdj (chk (zz x100) h1_2 x101) <|
 zdj (chk (zz x100) h2_2 x101) <|
 zdj (chk (zz x104) h1_2 x105) <|
 zdj (chk (zz x104) h2_2 x105) <|
 ret (.nxt [(zd v5 0),(zd v5 1),(zd v5 2),(zd v5 3)])
 ) fun o=>ret (zv 3 o)
 ) fun o=>nx o z93
def ztq (v4:List V):M Out :=
 zb (
 zb (za (zf 7 (zd v4 0))) fun x73 =>
 zb (zz x73) fun x74 =>
 zb (za (zr 3 x74 (zd v4 2))) fun x76 =>
 zb (za (zf 2 x76)) fun x77 =>
 zb (zz x77) fun x78 =>
 zb (za (zw x78)) fun x79 =>
 zb (za (zu .lss (zd v4 3) x79)) fun x80 =>
 zp x80 (
 ret (.nxt [(zd v4 0),(zd v4 1),(zd v4 2),(zd v4 3)])
 ) (
 ret (.brk 2 [(zd v4 0),(zd v4 1),(zd v4 2)])
 )
 ) fun o=>nx o z94
def z95 (v7:List V):M Out :=
 zb (za (zu .add (zd v7 2) (Value.int .i64 1))) fun x55 =>
 ret (.nxt [(zd v7 0),(zd v7 1),x55])
def z96 (v3:List V):M Out :=
 zb (
 zb (
 zh0 fun h0 =>
 zb (za (zf 7 (zd v3 0))) fun x57 =>
 zb (za (zf 7 (zd v3 0))) fun x63 =>
 zb (zz x57) fun x58 =>
 zb (za (zr 3 x58 (zd v3 2))) fun x60 =>
 zb (za (zf 0 x60)) fun x61 =>
 zb (zz x61) fun x62 =>
 zb (zz x63) fun x64 =>
 zb (za (zr 3 x64 (zd v3 2))) fun x66 =>
 zb (za (zf 1 x66)) fun x67 =>
 zb (zz x67) fun x68 =>
 zbw (zyr [x68]) fun ha x69 h1 =>
 zbw (zcc 1 3 (rep 3 [Value.string ⟨#[]⟩]) [(0,1,(Value.string ⟨#[117,115,101,114]⟩)),(1,1,x62),(2,1,x69)]) fun ha_2 x70 h2 =>
 zbw (zbc [(zd v3 1),x70]) fun ha_3 x71 h3 =>
 zdj (chk (zz x57) h1 x58) <|
 zdj (chk (zz x61) h1 x62) <|
 zb (
 zba zbm ztq [(zd v3 0),(zd v3 1),(zd v3 2),(Value.int .i64 0)]
 ) fun o=>ret (zv 2 o)
 ) fun o=>ret (zv 1 o)
 ) fun o=>nx o z95
def ztr (v2:List V):M Out :=
 zb (
 zb (za (zf 7 (zd v2 0))) fun x50 =>
 zb (zz x50) fun x51 =>
 zb (za (zw x51)) fun x52 =>
 zb (za (zu .lss (zd v2 2) x52)) fun x53 =>
 zp x53 (
 ret (.nxt [(zd v2 0),(zd v2 1),(zd v2 2)])
 ) (
 ret (.brk 0 [(zd v2 1)])
 )
 ) fun o=>nx o z96
def z97 (v9:List V):M Out :=
 zb (za (zb2 (zd v9 0))) fun x117 =>
 zb (za (zf 0 x117)) fun x118 =>
 zb (zz x118) fun x119 =>
 zb (b2s x119) fun x120 =>
 ret (.ret [x120,(Value.int .i64 0)])
def z98 (v8:List V):M Out :=
 zb (
 zb (za (zb2 (zd v8 0))) fun x111 =>
 zb (za (zf 0 x111)) fun x112 =>
 zb (zz x112) fun x113 =>
 zb (za (zw x113)) fun x114 =>
 zb (za (zu .gtr x114 (Value.int .i64 65536))) fun x115 =>
 zp x115 (
 ret (.ret [(Value.string ⟨#[]⟩),(Value.int .i64 2)])
 ) (
 ret (.nxt [(zd v8 0)])
 )
 ) fun o=>nx o z97
def z99 (vs:List V):M Out :=
 zb (za (build [Value.slice none 0 0] [])) fun x22 =>
 zb (zdc x22) fun x23 =>
 zb (za (zf 0 (zd vs 0))) fun x25 =>
 zb (za (zf 6 x25)) fun x26 =>
 zb (zz x26) fun x27 =>
 zb (zbn [x27]) fun x28 =>
 zb (zcc 1 2 (rep 2 [Value.string ⟨#[]⟩]) [(0,1,(Value.string ⟨#[109,105,108,108,105,115]⟩)),(1,1,x28)]) fun x29 =>
 zb (zbc [x23,x29]) fun x30 =>
 zb (za (zf 0 (zd vs 0))) fun x32 =>
 zb (za (zf 3 x32)) fun x33 =>
 zb (za (zf 0 x33)) fun x34 =>
 zb (zz x34) fun x35 =>
 zb (zbn [x35]) fun x36 =>
 zb (zcc 1 2 (rep 2 [Value.string ⟨#[]⟩]) [(0,1,(Value.string ⟨#[102,114,97,109,101]⟩)),(1,1,x36)]) fun x37 =>
 zb (zbc [x23,x37]) fun x38 =>
 zb (za (zf 8 (zd vs 0))) fun x40 =>
 zb (zz x40) fun x41 =>
 zb (zbn [x41]) fun x42 =>
 zb (zcc 1 2 (rep 2 [Value.string ⟨#[]⟩]) [(0,1,(Value.string ⟨#[105,100,108,101]⟩)),(1,1,x42)]) fun x43 =>
 zb (zbc [x23,x43]) fun x44 =>
 zb (za (zf 0 (zd vs 0))) fun x46 =>
 zb (ldn 7 x46) fun x47 =>
 zb (zhy [x23,x47]) fun x48 =>
 zb (
 zb (
 zba zbm ztr [(zd vs 0),x23,(Value.int .i64 0)]
 ) fun o=>ret (zv 0 o)
 ) fun o=>nx o z98
def z2f (x0:V):M V :=
 zb (
 zb (zdc x0) fun x1 =>
 zb (
 zb (za (zf 0 x1)) fun x10 =>
 zb (ldn 7 x10) fun x11 =>
 zb (za (zf 7 x1)) fun x12 =>
 zb (zz x12) fun x13 =>
 zb (za (zf 8 x1)) fun x14 =>
 zb (zz x14) fun x15 =>
 zb (zyq [x11,x13,x15]) fun x16 =>
 zb (za (ext 0 x16)) fun x17 =>
 zb (za (ext 1 x16)) fun x18 =>
 zb (za (zu .neq x18 (Value.int .i64 0))) fun x20 =>
 zp x20 (
 ret (.ret [(Value.string ⟨#[]⟩),x18])
 ) (
 ret (.nxt [x1])
 )
 ) fun o=>nx o z99
 ) fun o=>zbk o fun vs=>ret (zbi [(zd vs 0),(zd vs 1)])
def zbol:Hint:=(.seq [] .leaf (.seq [1] (.seq [] .leaf (.seq [] .leaf (.cond (.seq [] .leaf .leaf) .leaf))) (.seq [] .leaf (.seq [] .leaf (.seq [] .leaf (.seq [] .leaf (.seq [] .leaf (.seq [6] (.seq [] .leaf (.blk (.loop [1,6,7] (.seq [1,6,7] (.seq [] .leaf (.cond .leaf .leaf)) (.seq [1,6,7] (.blk (.seq [] (.reg [0,1,3,7,9,2,4,5,6,8,10,11,12,13,14,15] []) (.seq [] .leaf (.blk (.loop [1,6,7,8] (.seq [1,6,7,8] (.seq [] .leaf (.cond .leaf .leaf)) (.seq [1,6,7,8] (.blk (.reg [0,1,3,7,13,15,19,2,4,5,6,8,9,10,14,16,17,18,20,21,22,11,12,23,24,25,26] [])) .leaf))))))) .leaf))))) (.seq [6] (.seq [] .leaf (.cond (.seq [] .leaf .leaf) .leaf)) (.seq [] .leaf .leaf))))))))))
def zr1:List V→M V:=ap1 z2f
def zbom:zx:=ovr [(z8r,zyq),(znc,zbn),(zht,zbc),(zp0,zhy),(z8s,zyr),(z0h,zr0)] noC
theorem zbon:zq Tryz.prog z4r (zr1):=kn1 (σ:=zbom) (hint:=zbol) (by kernel_rfl) (zh zbro (zh zxj (zh zoi (zh z32 (zh zbrq (zh zbjn zl)))))) fun _=>(by kernel_rfl)
noncomputable def zxl (G_strings_Split:List V→M V) (G_strings_IndexRune:List V→M V) (G_strconv_Atoi:List V→M V) (G_strings_IndexByte:List V→M V) (G_strings_Builder_WriteString:List V→M V) (G_strings_Builder_WriteByte:List V→M V) (G_strconv_Itoa:List V→M V) (G_strings_Builder_Len:List V→M V) (G_strings_Builder_String:List V→M V) (vs:List V):M Out :=
 zb (ldn 9 (zd vs 0)) fun x14 =>
 zb ((zt4 G_strings_IndexRune G_strings_Builder_WriteString G_strings_Builder_WriteByte G_strconv_Itoa G_strings_Builder_Len G_strings_Builder_String) [x14]) fun x15 =>
 zb (za (ext 0 x15)) fun x16 =>
 zb (za (ext 1 x15)) fun x17 =>
 zb (ldn 9 (zd vs 0)) fun x19 =>
 zb (zr1 [x19]) fun x20 =>
 zb (za (ext 0 x20)) fun x21 =>
 zb (za (ext 1 x20)) fun x22 =>
 zb (za (zu .eql x16 x21)) fun x25 =>
 zb (gd x25 true (za (some x17))) fun x27 =>
 zb (gd x25 true (za (some x22))) fun x28 =>
 zb (gd x25 true (za (zu .eql x27 x28))) fun x29 =>
 zb (za (z8 x25 x29 (Value.bool false))) fun x30 =>
 zb (gd x30 true ((zoy G_strings_Split G_strings_IndexRune G_strconv_Atoi G_strings_IndexByte) [])) fun x32 =>
 zb (za (z8 x30 x32 (Value.bool false))) fun x33 =>
 ret (.ret [x33])
noncomputable def zr2 (G_strings_Split:List V→M V) (G_strings_IndexRune:List V→M V) (G_strconv_Atoi:List V→M V) (G_strings_IndexByte:List V→M V) (G_strings_Builder_WriteString:List V→M V) (G_strings_Builder_WriteByte:List V→M V) (G_strconv_Itoa:List V→M V) (G_strings_Builder_Len:List V→M V) (G_strings_Builder_String:List V→M V) (x0:V):M V :=
 zb (
 zb (zdc x0) fun x1 =>
 zb (
 zb (za (zf 0 x1)) fun x7 =>
 zb (za (zf 1 x7)) fun x8 =>
 zb (zz x8) fun x9 =>
 zb (za (zw x9)) fun x10 =>
 zb (za (zu .gtr x10 (Value.int .i64 200))) fun x11 =>
 zp x11 (
 zb ((zoy G_strings_Split G_strings_IndexRune G_strconv_Atoi G_strings_IndexByte) []) fun x12 =>
 ret (.ret [x12])
 ) (
 ret (.nxt [x1])
 )
 ) fun o=>nx o (zxl G_strings_Split G_strings_IndexRune G_strconv_Atoi G_strings_IndexByte G_strings_Builder_WriteString G_strings_Builder_WriteByte G_strconv_Itoa G_strings_Builder_Len G_strings_Builder_String)
 ) fun o=>zbk o fun vs=>ret (zbi [(zd vs 0)])
def zbdy:Hint:=(.seq [] .leaf (.seq [1] (.seq [] .leaf (.cond (.seq [] .leaf .leaf) .leaf)) (.seq [] .leaf (.seq [] .leaf (.seq [] .leaf .leaf)))))
noncomputable def zys (G_strings_Split:List V→M V) (G_strings_IndexRune:List V→M V) (G_strconv_Atoi:List V→M V) (G_strings_IndexByte:List V→M V) (G_strings_Builder_WriteString:List V→M V) (G_strings_Builder_WriteByte:List V→M V) (G_strconv_Itoa:List V→M V) (G_strings_Builder_Len:List V→M V) (G_strings_Builder_String:List V→M V):List V→M V:=ap1 (zr2 G_strings_Split G_strings_IndexRune G_strconv_Atoi G_strings_IndexByte G_strings_Builder_WriteString G_strings_Builder_WriteByte G_strconv_Itoa G_strings_Builder_Len G_strings_Builder_String)
theorem K_law27_ConfShows {G_strings_Split:List V→M V} {G_strings_IndexRune:List V→M V} {G_strconv_Atoi:List V→M V} {G_strings_IndexByte:List V→M V} {G_strings_Builder_WriteString:List V→M V} {G_strings_Builder_WriteByte:List V→M V} {G_strconv_Itoa:List V→M V} {G_strings_Builder_Len:List V→M V} {G_strings_Builder_String:List V→M V} (k_strings_Split:zq Tryz.prog zcu G_strings_Split) (k_strings_IndexRune:zq Tryz.prog zy G_strings_IndexRune) (k_strconv_Atoi:zq Tryz.prog zbp G_strconv_Atoi) (k_strings_IndexByte:zq Tryz.prog zb3 G_strings_IndexByte) (k_strings_Builder_WriteString:zq Tryz.prog zb5 G_strings_Builder_WriteString) (k_strings_Builder_WriteByte:zq Tryz.prog zcb G_strings_Builder_WriteByte) (k_strconv_Itoa:zq Tryz.prog zhc G_strconv_Itoa) (k_strings_Builder_Len:zq Tryz.prog zgf G_strings_Builder_Len) (k_strings_Builder_String:zq Tryz.prog zet G_strings_Builder_String):zq Tryz.prog z8d (zys G_strings_Split G_strings_IndexRune G_strconv_Atoi G_strings_IndexByte G_strings_Builder_WriteString G_strings_Builder_WriteByte G_strconv_Itoa G_strings_Builder_Len G_strings_Builder_String):=kn1 (σ:=ovr [(z2u,zoy G_strings_Split G_strings_IndexRune G_strconv_Atoi G_strings_IndexByte),(z8p,zt4 G_strings_IndexRune G_strings_Builder_WriteString G_strings_Builder_WriteByte G_strconv_Itoa G_strings_Builder_Len G_strings_Builder_String),(z4r,zr1)] noC) (hint:=zbdy) (by kernel_rfl) (zh (zbk3 k_strings_Split k_strings_IndexRune k_strconv_Atoi k_strings_IndexByte) (zh (zbq2 k_strings_IndexRune k_strings_Builder_WriteString k_strings_Builder_WriteByte k_strconv_Itoa k_strings_Builder_Len k_strings_Builder_String) (zh zbon zl))) fun _=>(by kernel_rfl)
end Go.AM.Cap
