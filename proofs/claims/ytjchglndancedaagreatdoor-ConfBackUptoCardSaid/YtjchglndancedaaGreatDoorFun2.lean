import Derived.Test.YtjchglndancedaaGreatDoorFun
set_option linter.all false
/- Printed by amprint2.py: functions of YtjchglndancedaaGreatDoor on the abstract machine. -/
set_option linter.unusedVariables false
set_option maxRecDepth 100000
namespace Go.AM.Cap
open Go.AM Go.Proofs
noncomputable def z5h (G_strings_Split:List V→M V) (G_strings_IndexRune:List V→M V) (G_strconv_Atoi:List V→M V) (G_strings_IndexByte:List V→M V) (v3:List V):M Out :=
 zb (ldn 9 (zd v3 0)) fun x55 =>
 zb (stn 9 (zd v3 0) x55) fun _ =>
 ret (.ret [(zd v3 0),(Value.int .i64 0),(Value.int .i64 0)])
noncomputable def z5i (G_strings_Split:List V→M V) (G_strings_IndexRune:List V→M V) (G_strconv_Atoi:List V→M V) (G_strings_IndexByte:List V→M V) (v2:List V):M Out :=
 zb (
 zb (za (zg 0 (zd v2 0))) fun x42 =>
 zb (ldn 7 x42) fun x43 =>
 zb (za (zg 7 (zd v2 0))) fun x44 =>
 zb (z8 x44) fun x45 =>
 zb (za (zg 8 (zd v2 0))) fun x46 =>
 zb (z8 x46) fun x47 =>
 zb ((zt5 G_strings_IndexRune) [x43,x45,x47]) fun x48 =>
 zb (za (ext 0 x48)) fun x49 =>
 zb (za (ext 1 x48)) fun x50 =>
 zb (za (zy .neq x50 (Value.int .i64 0))) fun x52 =>
 zn x52 (
 zb (za (build [Value.slice none 0 0,Value.slice none 0 0,Value.slice none 0 0,Value.int .i64 0,Value.slice none 0 0,Value.slice none 0 0,Value.int .i64 0,Value.slice none 0 0,Value.int .i64 0] [])) fun x53 =>
 zb (stn 9 (zd v2 0) x53) fun _ =>
 ret (.ret [(zd v2 0),(Value.int .i64 0),x50])
 ) (
 ret (.nxt [(zd v2 0)])
 )
 ) fun o=>nx o (z5h G_strings_Split G_strings_IndexRune G_strconv_Atoi G_strings_IndexByte)
noncomputable def z5j (G_strings_Split:List V→M V) (G_strings_IndexRune:List V→M V) (G_strconv_Atoi:List V→M V) (G_strings_IndexByte:List V→M V) (vs:List V):M Out :=
 zb (G_strings_Split [(zd vs 0),(Value.string ⟨#[10]⟩)]) fun x14 =>
 zb (za (zv x14)) fun x16 =>
 zb (za (zy .sub x16 (Value.int .i64 1))) fun x17 =>
 zb (za (zhs 1 x14 none (some x17))) fun x21 =>
 zb ((zwo G_strings_IndexRune G_strconv_Atoi G_strings_IndexByte G_strings_Split) [x21]) fun x22 =>
 zb (za (ext 0 x22)) fun x23 =>
 zb (za (ext 1 x22)) fun x24 =>
 zb (za (ext 2 x22)) fun x25 =>
 zb (stn 9 (zd vs 1) x23) fun _ =>
 zb (
 zb (
 zb (za (zy .neq x25 (Value.int .i64 0))) fun x28 =>
 zn x28 (
 zb (za (build [Value.slice none 0 0,Value.slice none 0 0,Value.slice none 0 0,Value.int .i64 0,Value.slice none 0 0,Value.slice none 0 0,Value.int .i64 0,Value.slice none 0 0,Value.int .i64 0] [])) fun x29 =>
 zb (stn 9 (zd vs 1) x29) fun _ =>
 ret (.ret [(zd vs 1),x24,x25])
 ) (
 zb (za (zx 1 x14 x17)) fun x35 =>
 zb (z8 x35) fun x36 =>
 zb (za (zy .neq x36 (Value.string ⟨#[]⟩))) fun x37 =>
 zn x37 (
 zb (za (build [Value.slice none 0 0,Value.slice none 0 0,Value.slice none 0 0,Value.int .i64 0,Value.slice none 0 0,Value.slice none 0 0,Value.int .i64 0,Value.slice none 0 0,Value.int .i64 0] [])) fun x38 =>
 zb (za (zy .add x17 (Value.int .i64 1))) fun x40 =>
 zb (stn 9 (zd vs 1) x38) fun _ =>
 ret (.ret [(zd vs 1),x40,(Value.int .i64 3)])
 ) (
 ret (.nxt [(zd vs 1)])
 )
 )
 ) fun o=>ret (zz 0 o)
 ) fun o=>nx o (z5i G_strings_Split G_strings_IndexRune G_strconv_Atoi G_strings_IndexByte)
noncomputable def zz6 (G_strings_Split:List V→M V) (G_strings_IndexRune:List V→M V) (G_strconv_Atoi:List V→M V) (G_strings_IndexByte:List V→M V) (x0:V):M V :=
 zb (
 zb (newc [Value.slice none 0 0,Value.slice none 0 0,Value.slice none 0 0,Value.int .i64 0,Value.slice none 0 0,Value.slice none 0 0,Value.int .i64 0,Value.slice none 0 0,Value.int .i64 0]) fun x2 =>
 zb (
 zb (za (zfx x0)) fun x10 =>
 zb (za (zy .gtr x10 (Value.int .i64 65536))) fun x11 =>
 zn x11 (
 zb (za (build [Value.slice none 0 0,Value.slice none 0 0,Value.slice none 0 0,Value.int .i64 0,Value.slice none 0 0,Value.slice none 0 0,Value.int .i64 0,Value.slice none 0 0,Value.int .i64 0] [])) fun x12 =>
 zb (stn 9 x2 x12) fun _ =>
 ret (.ret [x2,(Value.int .i64 0),(Value.int .i64 2)])
 ) (
 ret (.nxt [x0,x2])
 )
 ) fun o=>nx o (z5j G_strings_Split G_strings_IndexRune G_strconv_Atoi G_strings_IndexByte)
 ) fun o=>zbl o fun vs=>zb (ldn 9 (zd vs 0)) fun r0=>ret (zbh [r0,(zd vs 1),(zd vs 2)])
def zbh2:Hint:=(.seq [] .leaf (.seq [0,2] (.seq [] .leaf (.cond (.seq [] .leaf .leaf) .leaf)) (.seq [] .leaf (.seq [] .leaf (.seq [] .leaf (.seq [2] (.blk (.seq [] .leaf (.cond (.seq [] .leaf .leaf) (.seq [] .leaf (.cond (.seq [] .leaf .leaf) .leaf))))) (.seq [2] (.seq [] .leaf (.seq [] .leaf (.cond (.seq [] .leaf .leaf) .leaf))) (.seq [] .leaf .leaf))))))))
noncomputable def zgs (G_strings_Split:List V→M V) (G_strings_IndexRune:List V→M V) (G_strconv_Atoi:List V→M V) (G_strings_IndexByte:List V→M V):List V→M V:=ap1 (zz6 G_strings_Split G_strings_IndexRune G_strconv_Atoi G_strings_IndexByte)
theorem z8l {G_strings_Split:List V→M V} {G_strings_IndexRune:List V→M V} {G_strconv_Atoi:List V→M V} {G_strings_IndexByte:List V→M V} (k_strings_Split:zq Tryz.prog zco G_strings_Split) (k_strings_IndexRune:zq Tryz.prog zr G_strings_IndexRune) (k_strconv_Atoi:zq Tryz.prog zbi G_strconv_Atoi) (k_strings_IndexByte:zq Tryz.prog zbq G_strings_IndexByte):zq Tryz.prog zut (zgs G_strings_Split G_strings_IndexRune G_strconv_Atoi G_strings_IndexByte):=kn1 (σ:=ovr [(zco,G_strings_Split),(z4m,zwo G_strings_IndexRune G_strconv_Atoi G_strings_IndexByte G_strings_Split),(z12,zt5 G_strings_IndexRune)] noC) (hint:=zbh2) (by kernel_rfl) (zf k_strings_Split (zf (zbj7 k_strings_IndexRune k_strconv_Atoi k_strings_IndexByte k_strings_Split) (zf (zbgj k_strings_IndexRune) zl))) fun _=>(by kernel_rfl)
noncomputable def zxs (G_strings_Split:List V→M V) (G_strings_IndexRune:List V→M V) (G_strconv_Atoi:List V→M V) (G_strings_IndexByte:List V→M V):M V :=
 zb (
 zb ((zgs G_strings_Split G_strings_IndexRune G_strconv_Atoi G_strings_IndexByte) [(Value.string ⟨#[109,105,108,108,105,115,32,49,48,10,102,114,97,109,101,32,53,48,10,105,100,108,101,32,57,10,119,105,110,100,111,119,32,48,32,48,32,50,48,10,117,110,105,116,10]⟩)]) fun x8 =>
 zb (za (ext 0 x8)) fun x9 =>
 zb (za (ext 1 x8)) fun x10 =>
 zb (za (ext 2 x8)) fun x11 =>
 zb (newc [Value.slice none 0 0,Value.slice none 0 0,Value.slice none 0 0,Value.int .i64 0,Value.slice none 0 0,Value.slice none 0 0,Value.int .i64 0,Value.slice none 0 0,Value.int .i64 0]) fun x1 =>
 zb (stn 9 x1 x9) fun _ =>
 zb ((zgs G_strings_Split G_strings_IndexRune G_strconv_Atoi G_strings_IndexByte) [(Value.string ⟨#[109,105,108,108,105,115,32,49,48,10,109,105,108,108,105,115,32,49,48,10]⟩)]) fun x13 =>
 zb (za (ext 0 x13)) fun x14 =>
 zb (za (ext 1 x13)) fun x15 =>
 zb (za (ext 2 x13)) fun x16 =>
 zb (newc [Value.slice none 0 0,Value.slice none 0 0,Value.slice none 0 0,Value.int .i64 0,Value.slice none 0 0,Value.slice none 0 0,Value.int .i64 0,Value.slice none 0 0,Value.int .i64 0]) fun x4 =>
 zb (stn 9 x4 x14) fun _ =>
 zb (za (zy .eql x10 (Value.int .i64 0))) fun x18 =>
 zb (gd x18 true (za (some x11))) fun x20 =>
 zb (gd x18 true (za (zy .eql x20 (Value.int .i64 0)))) fun x21 =>
 zb (za (zbb x18 x21 (Value.bool false))) fun x22 =>
 zb (gd x22 true (za (zg 0 x1))) fun x24 =>
 zb (gd x22 true (za (zg 6 x24))) fun x25 =>
 zb (gd x22 true (z8 x25)) fun x26 =>
 zb (gd x22 true (za (zy .eql x26 (Value.int .i64 10)))) fun x27 =>
 zb (za (zbb x22 x27 (Value.bool false))) fun x28 =>
 zb (gd x28 true (za (zg 0 x1))) fun x30 =>
 zb (gd x28 true (za (zg 3 x30))) fun x31 =>
 zb (gd x28 true (za (zg 0 x31))) fun x32 =>
 zb (gd x28 true (z8 x32)) fun x33 =>
 zb (gd x28 true (za (zy .eql x33 (Value.int .i64 50)))) fun x34 =>
 zb (za (zbb x28 x34 (Value.bool false))) fun x35 =>
 zb (gd x35 true (za (zg 8 x1))) fun x37 =>
 zb (gd x35 true (z8 x37)) fun x38 =>
 zb (gd x35 true (za (zy .eql x38 (Value.int .i64 9)))) fun x39 =>
 zb (za (zbb x35 x39 (Value.bool false))) fun x40 =>
 zb (gd x40 true (za (zg 0 x1))) fun x42 =>
 zb (gd x40 true (za (zg 3 x42))) fun x43 =>
 zb (gd x40 true (za (zg 1 x43))) fun x44 =>
 zb (gd x40 true (z8 x44)) fun x45 =>
 zb (gd x40 true (za (zv x45))) fun x46 =>
 zb (gd x40 true (za (zy .eql x46 (Value.int .i64 1)))) fun x47 =>
 zb (za (zbb x40 x47 (Value.bool false))) fun x48 =>
 zb (gd x48 true (za (zg 0 x1))) fun x50 =>
 zb (gd x48 true (za (zg 3 x50))) fun x51 =>
 zb (gd x48 true (za (zg 1 x51))) fun x52 =>
 zb (gd x48 true (z8 x52)) fun x53 =>
 zb (gd x48 true (za (zx 3 x53 (Value.int .i64 0)))) fun x54 =>
 zb (gd x48 true (ldn 3 x54)) fun x55 =>
 zb (gd x48 true (za (build [Value.int .i64 0,Value.int .i64 0,Value.int .i64 0] [(2,1,(Value.int .i64 20))]))) fun x56 =>
 zb (gd x48 true (za (zcz false (zho [.i,.i,.i] x55 x56)))) fun x57 =>
 zb (za (zbb x48 x57 (Value.bool false))) fun x58 =>
 zb (gd x58 true (za (zg 0 x1))) fun x60 =>
 zb (gd x58 true (za (zg 5 x60))) fun x61 =>
 zb (gd x58 true (z8 x61)) fun x62 =>
 zb (gd x58 true (za (zv x62))) fun x63 =>
 zb (gd x58 true (za (zy .eql x63 (Value.int .i64 1)))) fun x64 =>
 zb (za (zbb x58 x64 (Value.bool false))) fun x65 =>
 zb (gd x65 true (za (some x15))) fun x67 =>
 zb (gd x65 true (za (zy .eql x67 (Value.int .i64 2)))) fun x68 =>
 zb (za (zbb x65 x68 (Value.bool false))) fun x69 =>
 zb (gd x69 true (za (some x16))) fun x71 =>
 zb (gd x69 true (za (zy .eql x71 (Value.int .i64 6)))) fun x72 =>
 zb (za (zbb x69 x72 (Value.bool false))) fun x73 =>
 ret (.ret [x73])
 ) fun o=>zbl o fun vs=>ret (zbh [(zd vs 0)])
def zbff:Hint:=(.seq [] .leaf (.seq [] .leaf (.seq [] .leaf (.seq [] .leaf .leaf))))
noncomputable def zrk (G_strings_Split:List V→M V) (G_strings_IndexRune:List V→M V) (G_strconv_Atoi:List V→M V) (G_strings_IndexByte:List V→M V):List V→M V:=ap0 (zxs G_strings_Split G_strings_IndexRune G_strconv_Atoi G_strings_IndexByte)
theorem zbfg {G_strings_Split:List V→M V} {G_strings_IndexRune:List V→M V} {G_strconv_Atoi:List V→M V} {G_strings_IndexByte:List V→M V} (k_strings_Split:zq Tryz.prog zco G_strings_Split) (k_strings_IndexRune:zq Tryz.prog zr G_strings_IndexRune) (k_strconv_Atoi:zq Tryz.prog zbi G_strconv_Atoi) (k_strings_IndexByte:zq Tryz.prog zbq G_strings_IndexByte):zq Tryz.prog z0m (zrk G_strings_Split G_strings_IndexRune G_strconv_Atoi G_strings_IndexByte):=kn0 (σ:=ovr [(zut,zgs G_strings_Split G_strings_IndexRune G_strconv_Atoi G_strings_IndexByte)] noC) (hint:=zbff) (by kernel_rfl) (zf (z8l k_strings_Split k_strings_IndexRune k_strconv_Atoi k_strings_IndexByte) zl) (by kernel_rfl)
def zm3 (G_strings_Builder_WriteString:List V→M V) (G_strings_Builder_WriteByte:List V→M V) (G_strconv_Itoa:List V→M V) (v3:List V):M Out :=
 zb (za (zy .add (zd v3 3) (Value.int .i64 1))) fun x43 =>
 ret (.nxt [(zd v3 0),(zd v3 1),(zd v3 2),x43])
def zs7 (G_strings_Builder_WriteString:List V→M V) (G_strings_Builder_WriteByte:List V→M V) (G_strconv_Itoa:List V→M V) (v2:List V):M Out :=
 zb (
 zb (
 zb (za (zx 1 (zd v2 1) (zd v2 3))) fun x19 =>
 zb (z8 x19) fun x20 =>
 zb (za (zci (zd v2 0))) fun x22 =>
 zb (za (zg 0 x22)) fun x23 =>
 zb (G_strings_Builder_WriteByte [x23,(Value.int .u8 32)]) fun x24 =>
 zb (
 zb (za (zwd ze3 (some (Value.int .i64 0)) true x20)) fun x26 =>
 zb (za (ext 1 x26)) fun x27 =>
 zb (za (ext 0 x26)) fun x28 =>
 zn x27 (
 zb (za (zci (zd v2 0))) fun x30 =>
 zb (za (zg 0 x30)) fun x31 =>
 zb (G_strconv_Itoa [x28]) fun x33 =>
 zb (G_strings_Builder_WriteString [x31,x33]) fun x34 =>
 ret (.nxt [(zd v2 0),(zd v2 1),(zd v2 2),(zd v2 3)])
 ) (
 zb (za (zwd zct (some (Value.string ⟨#[]⟩)) true x20)) fun x35 =>
 zb (za (ext 1 x35)) fun x36 =>
 zb (za (ext 0 x35)) fun x37 =>
 zn x36 (
 zb (za (zci (zd v2 0))) fun x39 =>
 zb (za (zg 0 x39)) fun x40 =>
 zb (G_strings_Builder_WriteString [x40,x37]) fun x42 =>
 ret (.nxt [(zd v2 0),(zd v2 1),(zd v2 2),(zd v2 3)])
 ) (
 ret (.nxt [(zd v2 0),(zd v2 1),(zd v2 2),(zd v2 3)])
 )
 )
 ) fun o=>ret (zz 2 o)
 ) fun o=>ret (zz 1 o)
 ) fun o=>nx o (zm3 G_strings_Builder_WriteString G_strings_Builder_WriteByte G_strconv_Itoa)
def zm4 (G_strings_Builder_WriteString:List V→M V) (G_strings_Builder_WriteByte:List V→M V) (G_strconv_Itoa:List V→M V) (vs:List V):M Out :=
 zb (za (zy .lss (zd vs 3) (zd vs 2))) fun x18 =>
 zb (
 zn x18 (
 ret (.nxt [(zd vs 0),(zd vs 1),(zd vs 2),(zd vs 3)])
 ) (
 ret (.brk 0 [(zd vs 0)])
 )
 ) fun o=>nx o (zs7 G_strings_Builder_WriteString G_strings_Builder_WriteByte G_strconv_Itoa)
def zs8 (G_strings_Builder_WriteString:List V→M V) (G_strings_Builder_WriteByte:List V→M V) (G_strconv_Itoa:List V→M V) (v4:List V):M Out :=
 zb (za (zci (zd v4 0))) fun x45 =>
 zb (za (zg 0 x45)) fun x46 =>
 zb (G_strings_Builder_WriteByte [x46,(Value.int .u8 10)]) fun x47 =>
 ret (.nxt [])
def zn9 (G_strings_Builder_WriteString:List V→M V) (G_strings_Builder_WriteByte:List V→M V) (G_strconv_Itoa:List V→M V) (x0 x1 x2:V):M V :=
 zb (
 zb (za (zci x0)) fun x11 =>
 zb (za (zg 0 x11)) fun x12 =>
 zb (G_strings_Builder_WriteString [x12,x1]) fun x14 =>
 zb (
 zb (za (zv x2)) fun x16 =>
 zb (
 zbg zby (zm4 G_strings_Builder_WriteString G_strings_Builder_WriteByte G_strconv_Itoa) [x0,x2,x16,(Value.int .i64 0)]
 ) fun o=>ret (zz 0 o)
 ) fun o=>nx o (zs8 G_strings_Builder_WriteString G_strings_Builder_WriteByte G_strconv_Itoa)
 ) fun o=>zbl o fun vs=>ret (zbh [])
def z6x:Hint:=(.seq [] .leaf (.seq [0] (.seq [] .leaf (.blk (.loop [0,15,16,17] (.seq [] .leaf (.seq [0,15,16,17] (.cond .leaf .leaf) (.seq [0,15,16,17] (.blk (.seq [] .leaf (.seq [] .leaf (.seq [] .leaf (.blk (.seq [] .leaf (.cond (.seq [] .leaf (.reg [0,1,2,3,4,5] [])) (.seq [] .leaf (.cond (.seq [] .leaf .leaf) .leaf))))))))) .leaf)))))) .leaf))
def z7 (G_strings_Builder_WriteString:List V→M V) (G_strings_Builder_WriteByte:List V→M V) (G_strconv_Itoa:List V→M V):List V→M V:=ap3 (zn9 G_strings_Builder_WriteString G_strings_Builder_WriteByte G_strconv_Itoa)
theorem zvm {G_strings_Builder_WriteString:List V→M V} {G_strings_Builder_WriteByte:List V→M V} {G_strconv_Itoa:List V→M V} (k_strings_Builder_WriteString:zq Tryz.prog zbt G_strings_Builder_WriteString) (k_strings_Builder_WriteByte:zq Tryz.prog zb3 G_strings_Builder_WriteByte) (k_strconv_Itoa:zq Tryz.prog zg4 G_strconv_Itoa):zq Tryz.prog zk0 (z7 G_strings_Builder_WriteString G_strings_Builder_WriteByte G_strconv_Itoa):=kn3 (σ:=ovr [(zbt,G_strings_Builder_WriteString),(zb3,G_strings_Builder_WriteByte),(zg4,G_strconv_Itoa)] noC) (hint:=z6x) (by kernel_rfl) (zf k_strings_Builder_WriteString (zf k_strings_Builder_WriteByte (zf k_strconv_Itoa zl))) fun _ _ _=>(by kernel_rfl)
def zvn (vs:List V):M Out :=
 ret (.ret [(zd vs 0)])
def zxt (x0 x1 x2:V):M V :=
 zb (
 zb (
 zn x0 (
 ret (.ret [x1])
 ) (
 ret (.nxt [x2])
 )
 ) fun o=>nx o zvn
 ) fun o=>zbl o fun vs=>ret (zbh [(zd vs 0)])
def zbfh:Hint:=(.seq [] .leaf (.seq [2] (.seq [] .leaf (.cond (.seq [] .leaf .leaf) .leaf)) (.seq [] .leaf .leaf)))
def zid:List V→M V:=ap3 zxt
theorem zbfi:zq Tryz.prog z0n (zid):=kn3 (σ:=ovr [] noC) (hint:=zbfh) (by kernel_rfl) zl fun _ _ _=>(by kernel_rfl)
def zqr (G_strings_Builder_WriteString:List V→M V) (G_strings_Builder_WriteByte:List V→M V) (G_strconv_Itoa:List V→M V) (v3:List V):M Out :=
 zb (za (zy .add (zd v3 4) (Value.int .i64 1))) fun x36 =>
 ret (.nxt [(zd v3 0),(zd v3 1),(zd v3 2),(zd v3 3),x36])
def zqs (G_strings_Builder_WriteString:List V→M V) (G_strings_Builder_WriteByte:List V→M V) (G_strconv_Itoa:List V→M V) (v2:List V):M Out :=
 zb (
 zb (
 zb (za (zx 2 (zd v2 2) (zd v2 4))) fun x23 =>
 zb (ldn 2 x23) fun x24 =>
 zb (newc [Value.int .i64 0,Value.bool false]) fun x5 =>
 zb (stn 2 x5 x24) fun _ =>
 zul 1 fun base h0 =>
 zb (za (zg 1 x5)) fun x26 =>
 zb (za (zg 0 x5)) fun x29 =>
 zb (z8 x26) fun x27 =>
 zb (z8 x29) fun x30 =>
 zb (za (zmu 4 1 (ptr gid_conf_types 0) x30)) fun x31 =>
 zb (z8 x31) fun x32 =>
 zb (za (some (Value.iface zct x32))) fun x33 =>
 zc9 (zid [x27,(Value.string ⟨#[111,117,116]⟩),(Value.string ⟨#[105,110]⟩)]) fun ha x28 h1 =>
 zjs (zgn ha [base + 0] && zgn h1 [base + 0]) <|
 zb (flt (base + 0) (zd2 1 1 (rep 1 [Value.nilIface]) [(0,1,x33)])) fun x34 =>
 zc9 ((z7 G_strings_Builder_WriteString G_strings_Builder_WriteByte G_strconv_Itoa) [(zd v2 0),x28,x34]) fun ha_2 x35 h2 =>
 zjs (chk (z8 x29) h1 x30) <|
 zjs (chk (z8 x31) h1 x32) <|
 ret (.nxt [(zd v2 0),(zd v2 1),(zd v2 2),(zd v2 3),(zd v2 4)])
 ) fun o=>ret (zz 1 o)
 ) fun o=>nx o (zqr G_strings_Builder_WriteString G_strings_Builder_WriteByte G_strconv_Itoa)
def zhk (G_strings_Builder_WriteString:List V→M V) (G_strings_Builder_WriteByte:List V→M V) (G_strconv_Itoa:List V→M V) (vs:List V):M Out :=
 zb (za (zy .lss (zd vs 4) (zd vs 3))) fun x22 =>
 zb (
 zn x22 (
 ret (.nxt [(zd vs 0),(zd vs 1),(zd vs 2),(zd vs 3),(zd vs 4)])
 ) (
 ret (.brk 0 [(zd vs 0),(zd vs 1)])
 )
 ) fun o=>nx o (zqs G_strings_Builder_WriteString G_strings_Builder_WriteByte G_strconv_Itoa)
def zqt (G_strings_Builder_WriteString:List V→M V) (G_strings_Builder_WriteByte:List V→M V) (G_strconv_Itoa:List V→M V) (v7:List V):M Out :=
 zb (za (zy .add (zd v7 4) (Value.int .i64 1))) fun x56 =>
 ret (.nxt [(zd v7 0),(zd v7 1),(zd v7 2),(zd v7 3),x56])
def zqu (G_strings_Builder_WriteString:List V→M V) (G_strings_Builder_WriteByte:List V→M V) (G_strconv_Itoa:List V→M V) (v6:List V):M Out :=
 zb (
 zb (
 zb (za (zx 3 (zd v6 2) (zd v6 4))) fun x42 =>
 zb (ldn 3 x42) fun x43 =>
 zb (newc [Value.int .i64 0,Value.int .i64 0,Value.bool false]) fun x7 =>
 zb (stn 3 x7 x43) fun _ =>
 zul 1 fun base_2 h0_2 =>
 zb (za (zg 2 x7)) fun x45 =>
 zb (za (zg 0 x7)) fun x48 =>
 zb (za (zg 1 x7)) fun x51 =>
 zb (z8 x45) fun x46 =>
 zb (z8 x48) fun x49 =>
 zb (za (some (Value.iface ze3 x49))) fun x50 =>
 zb (z8 x51) fun x52 =>
 zb (za (some (Value.iface ze3 x52))) fun x53 =>
 zc9 (zid [x46,(Value.string ⟨#[119,114,105,116,101]⟩),(Value.string ⟨#[114,101,97,100]⟩)]) fun ha_3 x47 h1_2 =>
 zjs (zgn ha_3 [base_2 + 0] && zgn h1_2 [base_2 + 0]) <|
 zb (flt (base_2 + 0) (zd2 1 2 (rep 2 [Value.nilIface]) [(0,1,x50),(1,1,x53)])) fun x54 =>
 zc9 ((z7 G_strings_Builder_WriteString G_strings_Builder_WriteByte G_strconv_Itoa) [(zd v6 0),x47,x54]) fun ha_4 x55 h2_2 =>
 zjs (chk (z8 x48) h1_2 x49) <|
 zjs (chk (z8 x51) h1_2 x52) <|
 ret (.nxt [(zd v6 0),(zd v6 1),(zd v6 2),(zd v6 3),(zd v6 4)])
 ) fun o=>ret (zz 3 o)
 ) fun o=>nx o (zqt G_strings_Builder_WriteString G_strings_Builder_WriteByte G_strconv_Itoa)
def zhl (G_strings_Builder_WriteString:List V→M V) (G_strings_Builder_WriteByte:List V→M V) (G_strconv_Itoa:List V→M V) (v5:List V):M Out :=
 zb (za (zy .lss (zd v5 4) (zd v5 3))) fun x41 =>
 zb (
 zn x41 (
 ret (.nxt [(zd v5 0),(zd v5 1),(zd v5 2),(zd v5 3),(zd v5 4)])
 ) (
 ret (.brk 2 [(zd v5 0),(zd v5 1)])
 )
 ) fun o=>nx o (zqu G_strings_Builder_WriteString G_strings_Builder_WriteByte G_strconv_Itoa)
def zkh (G_strings_Builder_WriteString:List V→M V) (G_strings_Builder_WriteByte:List V→M V) (G_strconv_Itoa:List V→M V) (v11:List V):M Out :=
 zb (za (zy .add (zd v11 4) (Value.int .i64 1))) fun x98 =>
 ret (.nxt [(zd v11 0),(zd v11 1),(zd v11 2),(zd v11 3),x98])
def zqv (G_strings_Builder_WriteString:List V→M V) (G_strings_Builder_WriteByte:List V→M V) (G_strconv_Itoa:List V→M V) (v10:List V):M Out :=
 zb (
 zb (
 zb (za (zx 5 (zd v10 2) (zd v10 4))) fun x62 =>
 zb (ldn 5 x62) fun x63 =>
 zb (newc [Value.int .i64 0,Value.int .i64 0,Value.int .i64 0,Value.int .i64 0,Value.int .i64 0]) fun x9 =>
 zb (stn 5 x9 x63) fun _ =>
 zb (za (zg 0 x9)) fun x64 =>
 zb (z8 x64) fun x65 =>
 zb (za (zy .eql x65 (Value.int .i64 1))) fun x66 =>
 zn x66 (
 zb (za (zg 1 x9)) fun x68 =>
 zb (za (zg 2 x9)) fun x71 =>
 zb (za (zg 3 x9)) fun x74 =>
 zb (z8 x68) fun x69 =>
 zb (za (some (Value.iface ze3 x69))) fun x70 =>
 zb (z8 x71) fun x72 =>
 zb (za (some (Value.iface ze3 x72))) fun x73 =>
 zb (z8 x74) fun x75 =>
 zb (za (zmu 4 1 (ptr gid_conf_types 0) x75)) fun x76 =>
 zb (z8 x76) fun x77 =>
 zb (za (some (Value.iface zct x77))) fun x78 =>
 zb (zd2 1 3 (rep 3 [Value.nilIface]) [(0,1,x70),(1,1,x73),(2,1,x78)]) fun x79 =>
 zb ((z7 G_strings_Builder_WriteString G_strings_Builder_WriteByte G_strconv_Itoa) [(zd v10 0),(Value.string ⟨#[115,97,109,112,108,101]⟩),x79]) fun x80 =>
 ret (.nxt [(zd v10 0),(zd v10 1),(zd v10 2),(zd v10 3),(zd v10 4)])
 ) (
 zb (za (zg 1 x9)) fun x82 =>
 zb (za (zg 2 x9)) fun x85 =>
 zb (za (zg 3 x9)) fun x88 =>
 zb (za (zg 4 x9)) fun x93 =>
 zb (z8 x82) fun x83 =>
 zb (za (some (Value.iface ze3 x83))) fun x84 =>
 zb (z8 x85) fun x86 =>
 zb (za (some (Value.iface ze3 x86))) fun x87 =>
 zb (z8 x88) fun x89 =>
 zb (za (zmu 4 1 (ptr gid_conf_types 0) x89)) fun x90 =>
 zb (z8 x90) fun x91 =>
 zb (za (some (Value.iface zct x91))) fun x92 =>
 zb (z8 x93) fun x94 =>
 zb (za (some (Value.iface ze3 x94))) fun x95 =>
 zb (zd2 1 4 (rep 4 [Value.nilIface]) [(0,1,x84),(1,1,x87),(2,1,x92),(3,1,x95)]) fun x96 =>
 zb ((z7 G_strings_Builder_WriteString G_strings_Builder_WriteByte G_strconv_Itoa) [(zd v10 0),(Value.string ⟨#[113,117,101,117,101]⟩),x96]) fun x97 =>
 ret (.nxt [(zd v10 0),(zd v10 1),(zd v10 2),(zd v10 3),(zd v10 4)])
 )
 ) fun o=>ret (zz 5 o)
 ) fun o=>nx o (zkh G_strings_Builder_WriteString G_strings_Builder_WriteByte G_strconv_Itoa)
def zhm (G_strings_Builder_WriteString:List V→M V) (G_strings_Builder_WriteByte:List V→M V) (G_strconv_Itoa:List V→M V) (v9:List V):M Out :=
 zb (za (zy .lss (zd v9 4) (zd v9 3))) fun x61 =>
 zb (
 zn x61 (
 ret (.nxt [(zd v9 0),(zd v9 1),(zd v9 2),(zd v9 3),(zd v9 4)])
 ) (
 ret (.brk 4 [(zd v9 0),(zd v9 1)])
 )
 ) fun o=>nx o (zqv G_strings_Builder_WriteString G_strings_Builder_WriteByte G_strconv_Itoa)
def zki (G_strings_Builder_WriteString:List V→M V) (G_strings_Builder_WriteByte:List V→M V) (G_strconv_Itoa:List V→M V) (v15:List V):M Out :=
 zb (za (zy .add (zd v15 4) (Value.int .i64 1))) fun x131 =>
 ret (.nxt [(zd v15 0),(zd v15 1),(zd v15 2),(zd v15 3),x131])
def zps (G_strings_Builder_WriteString:List V→M V) (G_strings_Builder_WriteByte:List V→M V) (G_strconv_Itoa:List V→M V) (v14:List V):M Out :=
 zb (
 zb (
 zb (za (zx 3 (zd v14 2) (zd v14 4))) fun x105 =>
 zb (ldn 3 x105) fun x106 =>
 zb (newc [Value.int .i64 0,Value.int .i64 0,Value.int .i64 0]) fun x11 =>
 zb (stn 3 x11 x106) fun _ =>
 zb (za (zg 0 x11)) fun x107 =>
 zb (z8 x107) fun x108 =>
 zb (za (zy .lss x108 (Value.int .i64 0))) fun x109 =>
 zn x109 (
 zb (za (zg 1 x11)) fun x111 =>
 zb (z8 x111) fun x112 =>
 zb (za (some (Value.iface ze3 x112))) fun x113 =>
 zb (za (zg 2 x11)) fun x114 =>
 zb (z8 x114) fun x115 =>
 zb (za (some (Value.iface ze3 x115))) fun x116 =>
 zb (zd2 1 2 (rep 2 [Value.nilIface]) [(0,1,x113),(1,1,x116)]) fun x117 =>
 zb ((z7 G_strings_Builder_WriteString G_strings_Builder_WriteByte G_strconv_Itoa) [(zd v14 0),(Value.string ⟨#[101,110,103,105,110,101,101,114,115]⟩),x117]) fun x118 =>
 ret (.nxt [(zd v14 0),(zd v14 1),(zd v14 2),(zd v14 3),(zd v14 4)])
 ) (
 zb (za (zg 0 x11)) fun x120 =>
 zb (z8 x120) fun x121 =>
 zb (za (some (Value.iface ze3 x121))) fun x122 =>
 zb (za (zg 1 x11)) fun x123 =>
 zb (z8 x123) fun x124 =>
 zb (za (some (Value.iface ze3 x124))) fun x125 =>
 zb (za (zg 2 x11)) fun x126 =>
 zb (z8 x126) fun x127 =>
 zb (za (some (Value.iface ze3 x127))) fun x128 =>
 zb (zd2 1 3 (rep 3 [Value.nilIface]) [(0,1,x122),(1,1,x125),(2,1,x128)]) fun x129 =>
 zb ((z7 G_strings_Builder_WriteString G_strings_Builder_WriteByte G_strconv_Itoa) [(zd v14 0),(Value.string ⟨#[119,105,110,100,111,119]⟩),x129]) fun x130 =>
 ret (.nxt [(zd v14 0),(zd v14 1),(zd v14 2),(zd v14 3),(zd v14 4)])
 )
 ) fun o=>ret (zz 7 o)
 ) fun o=>nx o (zki G_strings_Builder_WriteString G_strings_Builder_WriteByte G_strconv_Itoa)
def zgt (G_strings_Builder_WriteString:List V→M V) (G_strings_Builder_WriteByte:List V→M V) (G_strconv_Itoa:List V→M V) (v13:List V):M Out :=
 zb (za (zy .lss (zd v13 4) (zd v13 3))) fun x104 =>
 zb (
 zn x104 (
 ret (.nxt [(zd v13 0),(zd v13 1),(zd v13 2),(zd v13 3),(zd v13 4)])
 ) (
 ret (.brk 6 [(zd v13 0),(zd v13 1)])
 )
 ) fun o=>nx o (zps G_strings_Builder_WriteString G_strings_Builder_WriteByte G_strconv_Itoa)
def zpt (G_strings_Builder_WriteString:List V→M V) (G_strings_Builder_WriteByte:List V→M V) (G_strconv_Itoa:List V→M V) (v21:List V):M Out :=
 zb (za (zy .add (zd v21 7) (Value.int .i64 1))) fun x159 =>
 ret (.nxt [(zd v21 0),(zd v21 1),(zd v21 2),(zd v21 3),(zd v21 4),(zd v21 5),(zd v21 6),x159])
def zpu (G_strings_Builder_WriteString:List V→M V) (G_strings_Builder_WriteByte:List V→M V) (G_strconv_Itoa:List V→M V) (v20:List V):M Out :=
 zb (
 zb (
 zb (za (zx 2 (zd v20 5) (zd v20 7))) fun x146 =>
 zb (ldn 2 x146) fun x147 =>
 zb (newc [Value.int .i64 0,Value.int .i64 0]) fun x15 =>
 zb (stn 2 x15 x147) fun _ =>
 zm9 fun h0_3 =>
 zb (za (zg 0 x15)) fun x149 =>
 zb (za (zg 1 x15)) fun x154 =>
 zb (z8 x149) fun x150 =>
 zb (za (zy .eql x150 (Value.int .i64 1))) fun x151 =>
 zb (z8 x154) fun x155 =>
 zb (za (some (Value.iface ze3 x155))) fun x156 =>
 zc9 (zid [x151,(Value.string ⟨#[112,111,105,110,116]⟩),(Value.string ⟨#[112,111,114,116]⟩)]) fun ha_5 x152 h1_3 =>
 zb (za (some (Value.iface zct x152))) fun x153 =>
 zc9 (zd2 1 2 (rep 2 [Value.nilIface]) [(0,1,x153),(1,1,x156)]) fun ha_6 x157 h2_3 =>
 zc9 ((z7 G_strings_Builder_WriteString G_strings_Builder_WriteByte G_strconv_Itoa) [(zd v20 0),(Value.string ⟨#[103,101,116]⟩),x157]) fun ha_7 x158 h3 =>
 zjs (chk (z8 x154) h1_3 x155) <|
 ret (.nxt [(zd v20 0),(zd v20 1),(zd v20 2),(zd v20 3),(zd v20 4),(zd v20 5),(zd v20 6),(zd v20 7)])
 ) fun o=>ret (zz 11 o)
 ) fun o=>nx o (zpt G_strings_Builder_WriteString G_strings_Builder_WriteByte G_strconv_Itoa)
def zgu (G_strings_Builder_WriteString:List V→M V) (G_strings_Builder_WriteByte:List V→M V) (G_strconv_Itoa:List V→M V) (v19:List V):M Out :=
 zb (za (zy .lss (zd v19 7) (zd v19 6))) fun x145 =>
 zb (
 zn x145 (
 ret (.nxt [(zd v19 0),(zd v19 1),(zd v19 2),(zd v19 3),(zd v19 4),(zd v19 5),(zd v19 6),(zd v19 7)])
 ) (
 ret (.brk 10 [(zd v19 0),(zd v19 1),(zd v19 2),(zd v19 3),(zd v19 4)])
 )
 ) fun o=>nx o (zpu G_strings_Builder_WriteString G_strings_Builder_WriteByte G_strconv_Itoa)
def zpv (G_strings_Builder_WriteString:List V→M V) (G_strings_Builder_WriteByte:List V→M V) (G_strconv_Itoa:List V→M V) (v25:List V):M Out :=
 zb (za (zy .add (zd v25 6) (Value.int .i64 1))) fun x178 =>
 ret (.nxt [(zd v25 0),(zd v25 1),(zd v25 2),(zd v25 3),(zd v25 4),(zd v25 5),x178])
def zpw (G_strings_Builder_WriteString:List V→M V) (G_strings_Builder_WriteByte:List V→M V) (G_strconv_Itoa:List V→M V) (v24:List V):M Out :=
 zb (
 zb (
 zb (za (zx 2 (zd v24 4) (zd v24 6))) fun x165 =>
 zb (ldn 2 x165) fun x166 =>
 zb (newc [Value.int .i64 0,Value.int .i64 0]) fun x17 =>
 zb (stn 2 x17 x166) fun _ =>
 zm9 fun h0_4 =>
 zb (za (zg 0 x17)) fun x168 =>
 zb (za (zg 1 x17)) fun x173 =>
 zb (z8 x168) fun x169 =>
 zb (za (zy .eql x169 (Value.int .i64 1))) fun x170 =>
 zb (z8 x173) fun x174 =>
 zb (za (some (Value.iface ze3 x174))) fun x175 =>
 zc9 (zid [x170,(Value.string ⟨#[112,111,105,110,116]⟩),(Value.string ⟨#[112,111,114,116]⟩)]) fun ha_8 x171 h1_4 =>
 zb (za (some (Value.iface zct x171))) fun x172 =>
 zc9 (zd2 1 2 (rep 2 [Value.nilIface]) [(0,1,x172),(1,1,x175)]) fun ha_9 x176 h2_4 =>
 zc9 ((z7 G_strings_Builder_WriteString G_strings_Builder_WriteByte G_strconv_Itoa) [(zd v24 0),(Value.string ⟨#[112,117,116]⟩),x176]) fun ha_10 x177 h3_2 =>
 zjs (chk (z8 x173) h1_4 x174) <|
 ret (.nxt [(zd v24 0),(zd v24 1),(zd v24 2),(zd v24 3),(zd v24 4),(zd v24 5),(zd v24 6)])
 ) fun o=>ret (zz 13 o)
 ) fun o=>nx o (zpv G_strings_Builder_WriteString G_strings_Builder_WriteByte G_strconv_Itoa)
def zgv (G_strings_Builder_WriteString:List V→M V) (G_strings_Builder_WriteByte:List V→M V) (G_strconv_Itoa:List V→M V) (v23:List V):M Out :=
 zb (za (zy .lss (zd v23 6) (zd v23 5))) fun x164 =>
 zb (
 zn x164 (
 ret (.nxt [(zd v23 0),(zd v23 1),(zd v23 2),(zd v23 3),(zd v23 4),(zd v23 5),(zd v23 6)])
 ) (
 ret (.brk 12 [(zd v23 0),(zd v23 1),(zd v23 2),(zd v23 3)])
 )
 ) fun o=>nx o (zpw G_strings_Builder_WriteString G_strings_Builder_WriteByte G_strconv_Itoa)
def zpx (G_strings_Builder_WriteString:List V→M V) (G_strings_Builder_WriteByte:List V→M V) (G_strconv_Itoa:List V→M V) (v22:List V):M Out :=
 zb (za (zg 1 (zd v22 1))) fun x160 =>
 zb (z8 x160) fun x161 =>
 zb (za (zv x161)) fun x162 =>
 zb (
 zbg zby (zgv G_strings_Builder_WriteString G_strings_Builder_WriteByte G_strconv_Itoa) [(zd v22 0),(zd v22 2),(zd v22 3),(zd v22 4),x161,x162,(Value.int .i64 0)]
 ) fun o=>ret (zz 12 o)
def zpy (G_strings_Builder_WriteString:List V→M V) (G_strings_Builder_WriteByte:List V→M V) (G_strconv_Itoa:List V→M V) (v26:List V):M Out :=
 zb (za (zy .add (zd v26 3) (Value.int .i64 1))) fun x179 =>
 ret (.nxt [(zd v26 0),(zd v26 1),(zd v26 2),x179])
def zpz (G_strings_Builder_WriteString:List V→M V) (G_strings_Builder_WriteByte:List V→M V) (G_strconv_Itoa:List V→M V) (v18:List V):M Out :=
 zb (
 zb (
 zb (za (zx 2 (zd v18 1) (zd v18 3))) fun x137 =>
 zb (ldn 2 x137) fun x138 =>
 zb (newc [Value.slice none 0 0,Value.slice none 0 0]) fun x13 =>
 zb (stn 2 x13 x138) fun _ =>
 zb ((z7 G_strings_Builder_WriteString G_strings_Builder_WriteByte G_strconv_Itoa) [(zd v18 0),(Value.string ⟨#[117,110,105,116]⟩),(Value.slice none 0 0)]) fun x140 =>
 zb (
 zb (za (zg 0 x13)) fun x141 =>
 zb (z8 x141) fun x142 =>
 zb (za (zv x142)) fun x143 =>
 zb (
 zbg zby (zgu G_strings_Builder_WriteString G_strings_Builder_WriteByte G_strconv_Itoa) [(zd v18 0),x13,(zd v18 1),(zd v18 2),(zd v18 3),x142,x143,(Value.int .i64 0)]
 ) fun o=>ret (zz 10 o)
 ) fun o=>nx o (zpx G_strings_Builder_WriteString G_strings_Builder_WriteByte G_strconv_Itoa)
 ) fun o=>ret (zz 9 o)
 ) fun o=>nx o (zpy G_strings_Builder_WriteString G_strings_Builder_WriteByte G_strconv_Itoa)
def zgw (G_strings_Builder_WriteString:List V→M V) (G_strings_Builder_WriteByte:List V→M V) (G_strconv_Itoa:List V→M V) (v17:List V):M Out :=
 zb (za (zy .lss (zd v17 3) (zd v17 2))) fun x136 =>
 zb (
 zn x136 (
 ret (.nxt [(zd v17 0),(zd v17 1),(zd v17 2),(zd v17 3)])
 ) (
 ret (.brk 8 [])
 )
 ) fun o=>nx o (zpz G_strings_Builder_WriteString G_strings_Builder_WriteByte G_strconv_Itoa)
def zp0 (G_strings_Builder_WriteString:List V→M V) (G_strings_Builder_WriteByte:List V→M V) (G_strconv_Itoa:List V→M V) (v16:List V):M Out :=
 zb (za (zg 5 (zd v16 1))) fun x132 =>
 zb (z8 x132) fun x133 =>
 zb (za (zv x133)) fun x134 =>
 zb (
 zbg zby (zgw G_strings_Builder_WriteString G_strings_Builder_WriteByte G_strconv_Itoa) [(zd v16 0),x133,x134,(Value.int .i64 0)]
 ) fun o=>ret (zz 8 o)
def zp1 (G_strings_Builder_WriteString:List V→M V) (G_strings_Builder_WriteByte:List V→M V) (G_strconv_Itoa:List V→M V) (v12:List V):M Out :=
 zb (
 zb (za (zg 3 (zd v12 1))) fun x99 =>
 zb (za (zg 1 x99)) fun x100 =>
 zb (z8 x100) fun x101 =>
 zb (za (zv x101)) fun x102 =>
 zb (
 zbg zby (zgt G_strings_Builder_WriteString G_strings_Builder_WriteByte G_strconv_Itoa) [(zd v12 0),(zd v12 1),x101,x102,(Value.int .i64 0)]
 ) fun o=>ret (zz 6 o)
 ) fun o=>nx o (zp0 G_strings_Builder_WriteString G_strings_Builder_WriteByte G_strconv_Itoa)
def zp2 (G_strings_Builder_WriteString:List V→M V) (G_strings_Builder_WriteByte:List V→M V) (G_strconv_Itoa:List V→M V) (v8:List V):M Out :=
 zb (
 zb (za (zg 2 (zd v8 1))) fun x57 =>
 zb (z8 x57) fun x58 =>
 zb (za (zv x58)) fun x59 =>
 zb (
 zbg zby (zhm G_strings_Builder_WriteString G_strings_Builder_WriteByte G_strconv_Itoa) [(zd v8 0),(zd v8 1),x58,x59,(Value.int .i64 0)]
 ) fun o=>ret (zz 4 o)
 ) fun o=>nx o (zp1 G_strings_Builder_WriteString G_strings_Builder_WriteByte G_strconv_Itoa)
def zp3 (G_strings_Builder_WriteString:List V→M V) (G_strings_Builder_WriteByte:List V→M V) (G_strconv_Itoa:List V→M V) (v4:List V):M Out :=
 zb (
 zb (za (zg 1 (zd v4 1))) fun x37 =>
 zb (z8 x37) fun x38 =>
 zb (za (zv x38)) fun x39 =>
 zb (
 zbg zby (zhl G_strings_Builder_WriteString G_strings_Builder_WriteByte G_strconv_Itoa) [(zd v4 0),(zd v4 1),x38,x39,(Value.int .i64 0)]
 ) fun o=>ret (zz 2 o)
 ) fun o=>nx o (zp2 G_strings_Builder_WriteString G_strings_Builder_WriteByte G_strconv_Itoa)
def zlx (G_strings_Builder_WriteString:List V→M V) (G_strings_Builder_WriteByte:List V→M V) (G_strconv_Itoa:List V→M V) (x0 x1:V):M V :=
 zb (
 zb (zeu x1) fun x3 =>
 zb (
 zb (za (zg 0 x3)) fun x18 =>
 zb (z8 x18) fun x19 =>
 zb (za (zv x19)) fun x20 =>
 zb (
 zbg zby (zhk G_strings_Builder_WriteString G_strings_Builder_WriteByte G_strconv_Itoa) [x0,x3,x19,x20,(Value.int .i64 0)]
 ) fun o=>ret (zz 0 o)
 ) fun o=>nx o (zp3 G_strings_Builder_WriteString G_strings_Builder_WriteByte G_strconv_Itoa)
 ) fun o=>zbl o fun vs=>ret (zbh [])
def z24:Hint:=(.seq [] .leaf (.seq [0,3] (.seq [] .leaf (.blk (.loop [0,3,19,20,21] (.seq [] .leaf (.seq [0,3,19,20,21] (.cond .leaf .leaf) (.seq [0,3,19,20,21] (.blk (.seq [] .leaf (.reg [0,1,4,2,5,6,7,8,3,9,10] [9]))) .leaf)))))) (.seq [0,3] (.seq [] .leaf (.blk (.loop [0,3,38,39,40] (.seq [] .leaf (.seq [0,3,38,39,40] (.cond .leaf .leaf) (.seq [0,3,38,39,40] (.blk (.seq [] .leaf (.reg [0,1,4,7,2,5,6,8,9,3,10,11] [10]))) .leaf)))))) (.seq [0,3] (.seq [] .leaf (.blk (.loop [0,3,58,59,60] (.seq [] .leaf (.seq [0,3,58,59,60] (.cond .leaf .leaf) (.seq [0,3,58,59,60] (.blk (.seq [] .leaf (.seq [] .leaf (.cond (.reg [0,1,4,7,2,3,5,6,8,9,10,11,12,13] []) (.reg [0,1,4,7,12,2,3,5,6,8,9,10,11,13,14,15,16] []))))) .leaf)))))) (.seq [0,3] (.seq [] .leaf (.blk (.loop [0,3,101,102,103] (.seq [] .leaf (.seq [0,3,101,102,103] (.cond .leaf .leaf) (.seq [0,3,101,102,103] (.blk (.seq [] .leaf (.seq [] .leaf (.cond .leaf .leaf)))) .leaf)))))) (.seq [] .leaf (.blk (.loop [0,133,134,135] (.seq [] .leaf (.seq [0,133,134,135] (.cond .leaf .leaf) (.seq [0,133,134,135] (.blk (.seq [] .leaf (.seq [] .leaf (.seq [0,13,133,134,135] (.seq [] .leaf (.blk (.loop [0,13,133,134,135,142,143,144] (.seq [] .leaf (.seq [0,13,133,134,135,142,143,144] (.cond .leaf .leaf) (.seq [0,13,133,134,135,142,143,144] (.blk (.seq [] .leaf (.reg [0,1,6,2,3,7,8,4,5,9,10] []))) .leaf)))))) (.seq [] .leaf (.blk (.loop [0,133,134,135,161,162,163] (.seq [] .leaf (.seq [0,133,134,135,161,162,163] (.cond .leaf .leaf) (.seq [0,133,134,135,161,162,163] (.blk (.seq [] .leaf (.reg [0,1,6,2,3,7,8,4,5,9,10] []))) .leaf)))))))))) .leaf)))))))))))
def zh0 (G_strings_Builder_WriteString:List V→M V) (G_strings_Builder_WriteByte:List V→M V) (G_strconv_Itoa:List V→M V):List V→M V:=ap2 (zlx G_strings_Builder_WriteString G_strings_Builder_WriteByte G_strconv_Itoa)
theorem z25 {G_strings_Builder_WriteString:List V→M V} {G_strings_Builder_WriteByte:List V→M V} {G_strconv_Itoa:List V→M V} (k_strings_Builder_WriteString:zq Tryz.prog zbt G_strings_Builder_WriteString) (k_strings_Builder_WriteByte:zq Tryz.prog zb3 G_strings_Builder_WriteByte) (k_strconv_Itoa:zq Tryz.prog zg4 G_strconv_Itoa):zq Tryz.prog zo5 (zh0 G_strings_Builder_WriteString G_strings_Builder_WriteByte G_strconv_Itoa):=kn2 (σ:=ovr [(z0n,zid),(zk0,z7 G_strings_Builder_WriteString G_strings_Builder_WriteByte G_strconv_Itoa)] noC) (hint:=z24) (by kernel_rfl) (zf zbfi (zf (zvm k_strings_Builder_WriteString k_strings_Builder_WriteByte k_strconv_Itoa) zl)) fun _ _=>(by kernel_rfl)
def zbdp (v3:List V):M Out :=
 zb (za (zy .add (zd v3 3) (Value.int .i64 1))) fun x23 =>
 ret (.nxt [(zd v3 0),(zd v3 1),(zd v3 2),x23])
def zbdq (v2:List V):M Out :=
 zb (
 zb (
 zb (za (znu (zd v2 0) (zd v2 3))) fun x13 =>
 zb (za (zy .shr x13 (Value.int .u64 4))) fun x14 =>
 zb (za (znu (Value.string ⟨#[48,49,50,51,52,53,54,55,56,57,97,98,99,100,101,102]⟩) x14)) fun x15 =>
 zb (za (znu (zd v2 0) (zd v2 3))) fun x18 =>
 zb (za (zy .and x18 (Value.int .u8 15))) fun x19 =>
 zb (za (znu (Value.string ⟨#[48,49,50,51,52,53,54,55,56,57,97,98,99,100,101,102]⟩) x19)) fun x20 =>
 zb (zd2 1 2 (rep 2 [Value.int .u8 0]) [(0,1,x15),(1,1,x20)]) fun x21 =>
 zb (zgm 1 1 (zd v2 1) x21) fun x22 =>
 ret (.nxt [(zd v2 0),x22,(zd v2 2),(zd v2 3)])
 ) fun o=>ret (zz 1 o)
 ) fun o=>nx o zbdp
def z6y (vs:List V):M Out :=
 zb (za (zy .lss (zd vs 3) (zd vs 2))) fun x8 =>
 zb (
 zn x8 (
 ret (.nxt [(zd vs 0),(zd vs 1),(zd vs 2),(zd vs 3)])
 ) (
 ret (.brk 0 [(zd vs 1)])
 )
 ) fun o=>nx o zbdq
def zbdr (v4:List V):M Out :=
 zb (b2s (zd v4 0)) fun x25 =>
 ret (.ret [x25])
def z99 (x0:V):M V :=
 zb (
 zb (
 zb (za (zfx x0)) fun x6 =>
 zb (
 zbg zby z6y [x0,(Value.slice none 0 0),x6,(Value.int .i64 0)]
 ) fun o=>ret (zz 0 o)
 ) fun o=>nx o zbdr
 ) fun o=>zbl o fun vs=>ret (zbh [(zd vs 0)])
def zbpw:Hint:=(.seq [] .leaf (.seq [] .leaf (.seq [3] (.seq [] .leaf (.blk (.loop [0,3,6,7] (.seq [] .leaf (.seq [0,3,6,7] (.cond .leaf .leaf) (.seq [0,3,6,7] (.blk (.seq [] .leaf (.reg [0,1,2,3,4,5,6,7,8,9,10,11,12,13] []))) .leaf)))))) (.seq [] .leaf .leaf))))
def z34:List V→M V:=ap1 z99
theorem zbpx:zq Tryz.prog zbat (z34):=kn1 (σ:=ovr [] noC) (hint:=zbpw) (by kernel_rfl) zl fun _=>(by kernel_rfl)
noncomputable def z8m (G_strings_IndexRune:List V→M V) (G_strings_Builder_WriteString:List V→M V) (G_strings_Builder_WriteByte:List V→M V) (G_strconv_Itoa:List V→M V) (G_strings_Builder_Len:List V→M V) (G_strings_Builder_String:List V→M V) (v6:List V):M Out :=
 zb (za (zy .add (zd v6 6) (Value.int .i64 1))) fun x86 =>
 ret (.nxt [(zd v6 0),(zd v6 1),(zd v6 2),(zd v6 3),(zd v6 4),(zd v6 5),x86])
noncomputable def z8n (G_strings_IndexRune:List V→M V) (G_strings_Builder_WriteString:List V→M V) (G_strings_Builder_WriteByte:List V→M V) (G_strconv_Itoa:List V→M V) (G_strings_Builder_Len:List V→M V) (G_strings_Builder_String:List V→M V) (v5:List V):M Out :=
 zb (
 zb (
 zb (za (zx 2 (zd v5 4) (zd v5 6))) fun x73 =>
 zb (ldn 2 x73) fun x74 =>
 zb (newc [Value.int .i64 0,Value.int .i64 0]) fun x10 =>
 zb (stn 2 x10 x74) fun _ =>
 zb (za (zg 0 x10)) fun x76 =>
 zb (za (zg 1 x10)) fun x79 =>
 zb (z8 x76) fun x77 =>
 zb (za (some (Value.iface ze3 x77))) fun x78 =>
 zb (z8 x79) fun x80 =>
 zb (za (zmu 5 1 (ptr gid_conf_levels 0) x80)) fun x81 =>
 zb (z8 x81) fun x82 =>
 zb (za (some (Value.iface zct x82))) fun x83 =>
 zb (zd2 1 2 (rep 2 [Value.nilIface]) [(0,1,x78),(1,1,x83)]) fun x84 =>
 zb ((z7 G_strings_Builder_WriteString G_strings_Builder_WriteByte G_strconv_Itoa) [(zd v5 0),(Value.string ⟨#[114,111,108,101]⟩),x84]) fun x85 =>
 ret (.nxt [(zd v5 0),(zd v5 1),(zd v5 2),(zd v5 3),(zd v5 4),(zd v5 5),(zd v5 6)])
 ) fun o=>ret (zz 3 o)
 ) fun o=>nx o (z8m G_strings_IndexRune G_strings_Builder_WriteString G_strings_Builder_WriteByte G_strconv_Itoa G_strings_Builder_Len G_strings_Builder_String)
noncomputable def zt0 (G_strings_IndexRune:List V→M V) (G_strings_Builder_WriteString:List V→M V) (G_strings_Builder_WriteByte:List V→M V) (G_strconv_Itoa:List V→M V) (G_strings_Builder_Len:List V→M V) (G_strings_Builder_String:List V→M V) (v4:List V):M Out :=
 zb (za (zy .lss (zd v4 6) (zd v4 5))) fun x72 =>
 zb (
 zn x72 (
 ret (.nxt [(zd v4 0),(zd v4 1),(zd v4 2),(zd v4 3),(zd v4 4),(zd v4 5),(zd v4 6)])
 ) (
 ret (.brk 2 [(zd v4 0),(zd v4 1),(zd v4 2),(zd v4 3)])
 )
 ) fun o=>nx o (z8n G_strings_IndexRune G_strings_Builder_WriteString G_strings_Builder_WriteByte G_strconv_Itoa G_strings_Builder_Len G_strings_Builder_String)
noncomputable def z8o (G_strings_IndexRune:List V→M V) (G_strings_Builder_WriteString:List V→M V) (G_strings_Builder_WriteByte:List V→M V) (G_strconv_Itoa:List V→M V) (G_strings_Builder_Len:List V→M V) (G_strings_Builder_String:List V→M V) (v7:List V):M Out :=
 zb (za (zy .add (zd v7 3) (Value.int .i64 1))) fun x87 =>
 ret (.nxt [(zd v7 0),(zd v7 1),(zd v7 2),x87])
noncomputable def z8p (G_strings_IndexRune:List V→M V) (G_strings_Builder_WriteString:List V→M V) (G_strings_Builder_WriteByte:List V→M V) (G_strconv_Itoa:List V→M V) (G_strings_Builder_Len:List V→M V) (G_strings_Builder_String:List V→M V) (v3:List V):M Out :=
 zb (
 zb (
 zb (za (zx 3 (zd v3 1) (zd v3 3))) fun x56 =>
 zb (ldn 3 x56) fun x57 =>
 zb (newc [Value.string ⟨#[]⟩,Value.string ⟨#[]⟩,Value.slice none 0 0]) fun x8 =>
 zb (stn 3 x8 x57) fun _ =>
 zm9 fun h0 =>
 zb (za (zg 0 x8)) fun x59 =>
 zb (za (zg 1 x8)) fun x62 =>
 zb (z8 x59) fun x60 =>
 zb (za (some (Value.iface zct x60))) fun x61 =>
 zb (z8 x62) fun x63 =>
 zc9 (z34 [x63]) fun ha x64 h1 =>
 zb (za (some (Value.iface zct x64))) fun x65 =>
 zc9 (zd2 1 2 (rep 2 [Value.nilIface]) [(0,1,x61),(1,1,x65)]) fun ha_2 x66 h2 =>
 zc9 ((z7 G_strings_Builder_WriteString G_strings_Builder_WriteByte G_strconv_Itoa) [(zd v3 0),(Value.string ⟨#[117,115,101,114]⟩),x66]) fun ha_3 x67 h3 =>
 zjs (chk (z8 x59) h1 x60) <|
 zb (za (zg 2 x8)) fun x68 =>
 zb (z8 x68) fun x69 =>
 zb (za (zv x69)) fun x70 =>
 zb (
 zbg zby (zt0 G_strings_IndexRune G_strings_Builder_WriteString G_strings_Builder_WriteByte G_strconv_Itoa G_strings_Builder_Len G_strings_Builder_String) [(zd v3 0),(zd v3 1),(zd v3 2),(zd v3 3),x69,x70,(Value.int .i64 0)]
 ) fun o=>ret (zz 2 o)
 ) fun o=>ret (zz 1 o)
 ) fun o=>nx o (z8o G_strings_IndexRune G_strings_Builder_WriteString G_strings_Builder_WriteByte G_strconv_Itoa G_strings_Builder_Len G_strings_Builder_String)
noncomputable def zt1 (G_strings_IndexRune:List V→M V) (G_strings_Builder_WriteString:List V→M V) (G_strings_Builder_WriteByte:List V→M V) (G_strconv_Itoa:List V→M V) (G_strings_Builder_Len:List V→M V) (G_strings_Builder_String:List V→M V) (v2:List V):M Out :=
 zb (za (zy .lss (zd v2 3) (zd v2 2))) fun x55 =>
 zb (
 zn x55 (
 ret (.nxt [(zd v2 0),(zd v2 1),(zd v2 2),(zd v2 3)])
 ) (
 ret (.brk 0 [(zd v2 0)])
 )
 ) fun o=>nx o (z8p G_strings_IndexRune G_strings_Builder_WriteString G_strings_Builder_WriteByte G_strconv_Itoa G_strings_Builder_Len G_strings_Builder_String)
noncomputable def z8q (G_strings_IndexRune:List V→M V) (G_strings_Builder_WriteString:List V→M V) (G_strings_Builder_WriteByte:List V→M V) (G_strconv_Itoa:List V→M V) (G_strings_Builder_Len:List V→M V) (G_strings_Builder_String:List V→M V) (v9:List V):M Out :=
 zb (za (zci (zd v9 0))) fun x94 =>
 zb (za (zg 0 x94)) fun x95 =>
 zb (G_strings_Builder_String [x95]) fun x96 =>
 ret (.ret [x96,(Value.int .i64 0)])
noncomputable def z8r (G_strings_IndexRune:List V→M V) (G_strings_Builder_WriteString:List V→M V) (G_strings_Builder_WriteByte:List V→M V) (G_strconv_Itoa:List V→M V) (G_strings_Builder_Len:List V→M V) (G_strings_Builder_String:List V→M V) (v8:List V):M Out :=
 zb (
 zb (za (zci (zd v8 0))) fun x89 =>
 zb (za (zg 0 x89)) fun x90 =>
 zb (G_strings_Builder_Len [x90]) fun x91 =>
 zb (za (zy .gtr x91 (Value.int .i64 65536))) fun x92 =>
 zn x92 (
 ret (.ret [(Value.string ⟨#[]⟩),(Value.int .i64 2)])
 ) (
 ret (.nxt [(zd v8 0)])
 )
 ) fun o=>nx o (z8q G_strings_IndexRune G_strings_Builder_WriteString G_strings_Builder_WriteByte G_strconv_Itoa G_strings_Builder_Len G_strings_Builder_String)
noncomputable def z8s (G_strings_IndexRune:List V→M V) (G_strings_Builder_WriteString:List V→M V) (G_strings_Builder_WriteByte:List V→M V) (G_strconv_Itoa:List V→M V) (G_strings_Builder_Len:List V→M V) (G_strings_Builder_String:List V→M V) (vs:List V):M Out :=
 zb (za (build [Value.pointer none,Value.slice none 0 0] [])) fun x24 =>
 zb (bldM z0s x24) fun x25 =>
 zb (za (zg 0 (zd vs 0))) fun x27 =>
 zb (za (zg 6 x27)) fun x28 =>
 zb (z8 x28) fun x29 =>
 zb (za (some (Value.iface ze3 x29))) fun x30 =>
 zb (zd2 1 1 (rep 1 [Value.nilIface]) [(0,1,x30)]) fun x31 =>
 zb ((z7 G_strings_Builder_WriteString G_strings_Builder_WriteByte G_strconv_Itoa) [x25,(Value.string ⟨#[109,105,108,108,105,115]⟩),x31]) fun x32 =>
 zb (za (zg 0 (zd vs 0))) fun x34 =>
 zb (za (zg 3 x34)) fun x35 =>
 zb (za (zg 0 x35)) fun x36 =>
 zb (z8 x36) fun x37 =>
 zb (za (some (Value.iface ze3 x37))) fun x38 =>
 zb (zd2 1 1 (rep 1 [Value.nilIface]) [(0,1,x38)]) fun x39 =>
 zb ((z7 G_strings_Builder_WriteString G_strings_Builder_WriteByte G_strconv_Itoa) [x25,(Value.string ⟨#[102,114,97,109,101]⟩),x39]) fun x40 =>
 zb (za (zg 8 (zd vs 0))) fun x42 =>
 zb (z8 x42) fun x43 =>
 zb (za (some (Value.iface ze3 x43))) fun x44 =>
 zb (zd2 1 1 (rep 1 [Value.nilIface]) [(0,1,x44)]) fun x45 =>
 zb ((z7 G_strings_Builder_WriteString G_strings_Builder_WriteByte G_strconv_Itoa) [x25,(Value.string ⟨#[105,100,108,101]⟩),x45]) fun x46 =>
 zb (za (zg 0 (zd vs 0))) fun x48 =>
 zb (ldn 7 x48) fun x49 =>
 zb ((zh0 G_strings_Builder_WriteString G_strings_Builder_WriteByte G_strconv_Itoa) [x25,x49]) fun x50 =>
 zb (
 zb (za (zg 7 (zd vs 0))) fun x51 =>
 zb (z8 x51) fun x52 =>
 zb (za (zv x52)) fun x53 =>
 zb (
 zbg zby (zt1 G_strings_IndexRune G_strings_Builder_WriteString G_strings_Builder_WriteByte G_strconv_Itoa G_strings_Builder_Len G_strings_Builder_String) [x25,x52,x53,(Value.int .i64 0)]
 ) fun o=>ret (zz 0 o)
 ) fun o=>nx o (z8r G_strings_IndexRune G_strings_Builder_WriteString G_strings_Builder_WriteByte G_strconv_Itoa G_strings_Builder_Len G_strings_Builder_String)
noncomputable def z26 (G_strings_IndexRune:List V→M V) (G_strings_Builder_WriteString:List V→M V) (G_strings_Builder_WriteByte:List V→M V) (G_strconv_Itoa:List V→M V) (G_strings_Builder_Len:List V→M V) (G_strings_Builder_String:List V→M V) (x0:V):M V :=
 zb (
 zb (zeu x0) fun x1 =>
 zb (
 zb (za (zg 0 x1)) fun x12 =>
 zb (ldn 7 x12) fun x13 =>
 zb (za (zg 7 x1)) fun x14 =>
 zb (z8 x14) fun x15 =>
 zb (za (zg 8 x1)) fun x16 =>
 zb (z8 x16) fun x17 =>
 zb ((zt5 G_strings_IndexRune) [x13,x15,x17]) fun x18 =>
 zb (za (ext 0 x18)) fun x19 =>
 zb (za (ext 1 x18)) fun x20 =>
 zb (za (zy .neq x20 (Value.int .i64 0))) fun x22 =>
 zn x22 (
 ret (.ret [(Value.string ⟨#[]⟩),x20])
 ) (
 ret (.nxt [x1])
 )
 ) fun o=>nx o (z8s G_strings_IndexRune G_strings_Builder_WriteString G_strings_Builder_WriteByte G_strconv_Itoa G_strings_Builder_Len G_strings_Builder_String)
 ) fun o=>zbl o fun vs=>ret (zbh [(zd vs 0),(zd vs 1)])
def zbkg:Hint:=(.seq [] .leaf (.seq [1] (.seq [] .leaf (.seq [] .leaf (.cond (.seq [] .leaf .leaf) .leaf))) (.seq [] .leaf (.seq [] .leaf (.seq [] .leaf (.seq [] .leaf (.seq [] .leaf (.seq [6] (.seq [] .leaf (.blk (.loop [6,52,53,54] (.seq [] .leaf (.seq [6,52,53,54] (.cond .leaf .leaf) (.seq [6,52,53,54] (.blk (.seq [] .leaf (.seq [] (.reg [0,1,4,2,3,5,6,7,8,9] []) (.seq [] .leaf (.blk (.loop [6,52,53,54,69,70,71] (.seq [] .leaf (.seq [6,52,53,54,69,70,71] (.cond .leaf .leaf) (.seq [6,52,53,54,69,70,71] (.blk (.seq [] .leaf (.reg [0,1,4,2,3,5,6,7,8,9,10] []))) .leaf))))))))) .leaf)))))) (.seq [6] (.seq [] .leaf (.cond (.seq [] .leaf .leaf) .leaf)) (.seq [] .leaf .leaf))))))))))
noncomputable def zom (G_strings_IndexRune:List V→M V) (G_strings_Builder_WriteString:List V→M V) (G_strings_Builder_WriteByte:List V→M V) (G_strconv_Itoa:List V→M V) (G_strings_Builder_Len:List V→M V) (G_strings_Builder_String:List V→M V):List V→M V:=ap1 (z26 G_strings_IndexRune G_strings_Builder_WriteString G_strings_Builder_WriteByte G_strconv_Itoa G_strings_Builder_Len G_strings_Builder_String)
theorem zbkh {G_strings_IndexRune:List V→M V} {G_strings_Builder_WriteString:List V→M V} {G_strings_Builder_WriteByte:List V→M V} {G_strconv_Itoa:List V→M V} {G_strings_Builder_Len:List V→M V} {G_strings_Builder_String:List V→M V} (k_strings_IndexRune:zq Tryz.prog zr G_strings_IndexRune) (k_strings_Builder_WriteString:zq Tryz.prog zbt G_strings_Builder_WriteString) (k_strings_Builder_WriteByte:zq Tryz.prog zb3 G_strings_Builder_WriteByte) (k_strconv_Itoa:zq Tryz.prog zg4 G_strconv_Itoa) (k_strings_Builder_Len:zq Tryz.prog zf5 G_strings_Builder_Len) (k_strings_Builder_String:zq Tryz.prog zei G_strings_Builder_String):zq Tryz.prog z4l (zom G_strings_IndexRune G_strings_Builder_WriteString G_strings_Builder_WriteByte G_strconv_Itoa G_strings_Builder_Len G_strings_Builder_String):=kn1 (σ:=ovr [(z12,zt5 G_strings_IndexRune),(zk0,z7 G_strings_Builder_WriteString G_strings_Builder_WriteByte G_strconv_Itoa),(zo5,zh0 G_strings_Builder_WriteString G_strings_Builder_WriteByte G_strconv_Itoa),(zbat,z34),(zf5,G_strings_Builder_Len),(zei,G_strings_Builder_String)] noC) (hint:=zbkg) (by kernel_rfl) (zf (zbgj k_strings_IndexRune) (zf (zvm k_strings_Builder_WriteString k_strings_Builder_WriteByte k_strconv_Itoa) (zf (z25 k_strings_Builder_WriteString k_strings_Builder_WriteByte k_strconv_Itoa) (zf zbpx (zf k_strings_Builder_Len (zf k_strings_Builder_String zl)))))) fun _=>(by kernel_rfl)
def zvo (v4:List V):M Out :=
 zb (za (zy .add (zd v4 2) (Value.int .i64 1))) fun x16 =>
 ret (.nxt [(zd v4 0),(zd v4 1),x16])
def zvp (v3:List V):M Out :=
 zb (
 zb (
 zb (za (zx 2 (zd v3 0) (zd v3 2))) fun x19 =>
 zb (za (zx 2 (zd v3 1) (zd v3 2))) fun x23 =>
 zb (ldn 2 x19) fun x20 =>
 zb (ldn 2 x23) fun x24 =>
 zb (za (zcz true (zho [.i,.i] x20 x24))) fun x25 =>
 zn x25 (
 ret (.ret [(Value.bool false)])
 ) (
 ret (.nxt [(zd v3 0),(zd v3 1),(zd v3 2)])
 )
 ) fun o=>ret (zz 1 o)
 ) fun o=>nx o zvo
def zoa (v2:List V):M Out :=
 zb (
 zb (za (zv (zd v2 0))) fun x13 =>
 zb (za (zy .lss (zd v2 2) x13)) fun x14 =>
 zn x14 (
 ret (.nxt [(zd v2 0),(zd v2 1),(zd v2 2)])
 ) (
 ret (.brk 0 [])
 )
 ) fun o=>nx o zvp
def zvq (v5:List V):M Out :=
 ret (.ret [(Value.bool true)])
def zvr (vs:List V):M Out :=
 zb (
 zb (
 zbg zby zoa [(zd vs 0),(zd vs 1),(Value.int .i64 0)]
 ) fun o=>ret (zz 0 o)
 ) fun o=>nx o zvq
def zp4 (x0 x1:V):M V :=
 zb (
 zb (
 zb (za (zv x0)) fun x7 =>
 zb (za (zv x1)) fun x9 =>
 zb (za (zy .neq x7 x9)) fun x10 =>
 zn x10 (
 ret (.ret [(Value.bool false)])
 ) (
 ret (.nxt [x0,x1])
 )
 ) fun o=>nx o zvr
 ) fun o=>zbl o fun vs=>ret (zbh [(zd vs 0)])
def z8t:Hint:=(.seq [] .leaf (.seq [0,1] (.seq [] .leaf (.cond (.seq [] .leaf .leaf) .leaf)) (.seq [] (.seq [] .leaf (.blk (.loop [0,1,5] (.seq [0,1,5] (.seq [] .leaf (.cond .leaf .leaf)) (.seq [0,1,5] (.blk (.seq [] (.reg [0,1,2,4,5,6,3,7,8] []) (.cond (.seq [] .leaf .leaf) .leaf))) .leaf))))) (.seq [] .leaf .leaf))))
def zh1:List V→M V:=ap2 zp4
theorem z8u:zq Tryz.prog zsy (zh1):=kn2 (σ:=ovr [] noC) (hint:=z8t) (by kernel_rfl) zl fun _ _=>(by kernel_rfl)
def zs9 (v4:List V):M Out :=
 zb (za (zy .add (zd v4 2) (Value.int .i64 1))) fun x77 =>
 ret (.nxt [(zd v4 0),(zd v4 1),x77])
def zta (v3:List V):M Out :=
 zb (
 zb (
 zb (za (zg 0 (zd v3 0))) fun x78 =>
 zb (za (zg 0 (zd v3 1))) fun x83 =>
 zb (z8 x78) fun x79 =>
 zb (za (zx 2 x79 (zd v3 2))) fun x81 =>
 zb (ldn 2 x81) fun x82 =>
 zb (z8 x83) fun x84 =>
 zb (za (zx 2 x84 (zd v3 2))) fun x86 =>
 zb (ldn 2 x86) fun x87 =>
 zb (za (zcz true (zho [.i,.b] x82 x87))) fun x88 =>
 zn x88 (
 ret (.ret [(Value.bool false)])
 ) (
 ret (.nxt [(zd v3 0),(zd v3 1),(zd v3 2)])
 )
 ) fun o=>ret (zz 1 o)
 ) fun o=>nx o zs9
def zin (v2:List V):M Out :=
 zb (
 zb (za (zg 0 (zd v2 0))) fun x72 =>
 zb (z8 x72) fun x73 =>
 zb (za (zv x73)) fun x74 =>
 zb (za (zy .lss (zd v2 2) x74)) fun x75 =>
 zn x75 (
 ret (.nxt [(zd v2 0),(zd v2 1),(zd v2 2)])
 ) (
 ret (.brk 0 [(zd v2 0),(zd v2 1)])
 )
 ) fun o=>nx o zta
def ztb (v8:List V):M Out :=
 zb (za (zy .add (zd v8 2) (Value.int .i64 1))) fun x95 =>
 ret (.nxt [(zd v8 0),(zd v8 1),x95])
def ztc (v7:List V):M Out :=
 zb (
 zb (
 zb (za (zg 1 (zd v7 0))) fun x96 =>
 zb (za (zg 1 (zd v7 1))) fun x101 =>
 zb (z8 x96) fun x97 =>
 zb (za (zx 3 x97 (zd v7 2))) fun x99 =>
 zb (ldn 3 x99) fun x100 =>
 zb (z8 x101) fun x102 =>
 zb (za (zx 3 x102 (zd v7 2))) fun x104 =>
 zb (ldn 3 x104) fun x105 =>
 zb (za (zcz true (zho [.i,.i,.b] x100 x105))) fun x106 =>
 zn x106 (
 ret (.ret [(Value.bool false)])
 ) (
 ret (.nxt [(zd v7 0),(zd v7 1),(zd v7 2)])
 )
 ) fun o=>ret (zz 3 o)
 ) fun o=>nx o ztb
def zio (v6:List V):M Out :=
 zb (
 zb (za (zg 1 (zd v6 0))) fun x90 =>
 zb (z8 x90) fun x91 =>
 zb (za (zv x91)) fun x92 =>
 zb (za (zy .lss (zd v6 2) x92)) fun x93 =>
 zn x93 (
 ret (.nxt [(zd v6 0),(zd v6 1),(zd v6 2)])
 ) (
 ret (.brk 2 [(zd v6 0),(zd v6 1)])
 )
 ) fun o=>nx o ztc
def ztd (v12:List V):M Out :=
 zb (za (zy .add (zd v12 2) (Value.int .i64 1))) fun x113 =>
 ret (.nxt [(zd v12 0),(zd v12 1),x113])
def zte (v11:List V):M Out :=
 zb (
 zb (
 zb (za (zg 2 (zd v11 0))) fun x114 =>
 zb (za (zg 2 (zd v11 1))) fun x119 =>
 zb (z8 x114) fun x115 =>
 zb (za (zx 5 x115 (zd v11 2))) fun x117 =>
 zb (ldn 5 x117) fun x118 =>
 zb (z8 x119) fun x120 =>
 zb (za (zx 5 x120 (zd v11 2))) fun x122 =>
 zb (ldn 5 x122) fun x123 =>
 zb (za (zcz true (zho [.i,.i,.i,.i,.i] x118 x123))) fun x124 =>
 zn x124 (
 ret (.ret [(Value.bool false)])
 ) (
 ret (.nxt [(zd v11 0),(zd v11 1),(zd v11 2)])
 )
 ) fun o=>ret (zz 5 o)
 ) fun o=>nx o ztd
def ziq (v10:List V):M Out :=
 zb (
 zb (za (zg 2 (zd v10 0))) fun x108 =>
 zb (z8 x108) fun x109 =>
 zb (za (zv x109)) fun x110 =>
 zb (za (zy .lss (zd v10 2) x110)) fun x111 =>
 zn x111 (
 ret (.nxt [(zd v10 0),(zd v10 1),(zd v10 2)])
 ) (
 ret (.brk 4 [(zd v10 0),(zd v10 1)])
 )
 ) fun o=>nx o zte
def ztf (v16:List V):M Out :=
 zb (za (zy .add (zd v16 2) (Value.int .i64 1))) fun x132 =>
 ret (.nxt [(zd v16 0),(zd v16 1),x132])
def zr5 (v15:List V):M Out :=
 zb (
 zb (
 zb (za (zg 3 (zd v15 0))) fun x133 =>
 zb (za (zg 1 x133)) fun x134 =>
 zb (za (zg 3 (zd v15 1))) fun x139 =>
 zb (za (zg 1 x139)) fun x140 =>
 zb (z8 x134) fun x135 =>
 zb (za (zx 3 x135 (zd v15 2))) fun x137 =>
 zb (ldn 3 x137) fun x138 =>
 zb (z8 x140) fun x141 =>
 zb (za (zx 3 x141 (zd v15 2))) fun x143 =>
 zb (ldn 3 x143) fun x144 =>
 zb (za (zcz true (zho [.i,.i,.i] x138 x144))) fun x145 =>
 zn x145 (
 ret (.ret [(Value.bool false)])
 ) (
 ret (.nxt [(zd v15 0),(zd v15 1),(zd v15 2)])
 )
 ) fun o=>ret (zz 7 o)
 ) fun o=>nx o ztf
def zh2 (v14:List V):M Out :=
 zb (
 zb (za (zg 3 (zd v14 0))) fun x126 =>
 zb (za (zg 1 x126)) fun x127 =>
 zb (z8 x127) fun x128 =>
 zb (za (zv x128)) fun x129 =>
 zb (za (zy .lss (zd v14 2) x129)) fun x130 =>
 zn x130 (
 ret (.nxt [(zd v14 0),(zd v14 1),(zd v14 2)])
 ) (
 ret (.brk 6 [(zd v14 0),(zd v14 1)])
 )
 ) fun o=>nx o zr5
def zr6 (v20:List V):M Out :=
 zb (za (zy .add (zd v20 2) (Value.int .i64 1))) fun x152 =>
 ret (.nxt [(zd v20 0),(zd v20 1),x152])
def zr7 (v19:List V):M Out :=
 zb (
 zb (
 zb (za (zg 5 (zd v19 0))) fun x153 =>
 zb (za (zg 5 (zd v19 1))) fun x159 =>
 zb (z8 x153) fun x154 =>
 zb (za (zx 2 x154 (zd v19 2))) fun x156 =>
 zb (za (zg 0 x156)) fun x157 =>
 zb (z8 x157) fun x158 =>
 zb (z8 x159) fun x160 =>
 zb (za (zx 2 x160 (zd v19 2))) fun x162 =>
 zb (za (zg 0 x162)) fun x163 =>
 zb (z8 x163) fun x164 =>
 zb (zh1 [x158,x164]) fun x165 =>
 zb (za (un .not x165)) fun x166 =>
 zb (gd x166 false (za (zg 5 (zd v19 0)))) fun x168 =>
 zb (gd x166 false (za (some (zd v19 2)))) fun x170 =>
 zb (gd x166 false (za (zg 5 (zd v19 1)))) fun x174 =>
 zb (gd x166 false (za (some (zd v19 2)))) fun x176 =>
 zb (gd x166 false (z8 x168)) fun x169 =>
 zb (gd x166 false (za (zx 2 x169 x170))) fun x171 =>
 zb (gd x166 false (za (zg 1 x171))) fun x172 =>
 zb (gd x166 false (z8 x172)) fun x173 =>
 zb (gd x166 false (z8 x174)) fun x175 =>
 zb (gd x166 false (za (zx 2 x175 x176))) fun x177 =>
 zb (gd x166 false (za (zg 1 x177))) fun x178 =>
 zb (gd x166 false (z8 x178)) fun x179 =>
 zb (gd x166 false (zh1 [x173,x179])) fun x180 =>
 zb (gd x166 false (za (un .not x180))) fun x181 =>
 zb (za (zbb x166 (Value.bool true) x181)) fun x182 =>
 zn x182 (
 ret (.ret [(Value.bool false)])
 ) (
 ret (.nxt [(zd v19 0),(zd v19 1),(zd v19 2)])
 )
 ) fun o=>ret (zz 9 o)
 ) fun o=>nx o zr6
def zh3 (v18:List V):M Out :=
 zb (
 zb (za (zg 5 (zd v18 0))) fun x147 =>
 zb (z8 x147) fun x148 =>
 zb (za (zv x148)) fun x149 =>
 zb (za (zy .lss (zd v18 2) x149)) fun x150 =>
 zn x150 (
 ret (.nxt [(zd v18 0),(zd v18 1),(zd v18 2)])
 ) (
 ret (.brk 8 [])
 )
 ) fun o=>nx o zr7
def zr8 (v21:List V):M Out :=
 ret (.ret [(Value.bool true)])
def zr9 (v17:List V):M Out :=
 zb (
 zb (
 zbg zby zh3 [(zd v17 0),(zd v17 1),(Value.int .i64 0)]
 ) fun o=>ret (zz 8 o)
 ) fun o=>nx o zr8
def zsa (v13:List V):M Out :=
 zb (
 zb (
 zbg zby zh2 [(zd v13 0),(zd v13 1),(Value.int .i64 0)]
 ) fun o=>ret (zz 6 o)
 ) fun o=>nx o zr9
def zsb (v9:List V):M Out :=
 zb (
 zb (
 zbg zby ziq [(zd v9 0),(zd v9 1),(Value.int .i64 0)]
 ) fun o=>ret (zz 4 o)
 ) fun o=>nx o zsa
def zsc (v5:List V):M Out :=
 zb (
 zb (
 zbg zby zio [(zd v5 0),(zd v5 1),(Value.int .i64 0)]
 ) fun o=>ret (zz 2 o)
 ) fun o=>nx o zsb
def zsd (vs:List V):M Out :=
 zb (
 zb (
 zbg zby zin [(zd vs 0),(zd vs 1),(Value.int .i64 0)]
 ) fun o=>ret (zz 0 o)
 ) fun o=>nx o zsc
def zob (x0 x1:V):M V :=
 zb (
 zb (zeu x0) fun x2 =>
 zb (zeu x1) fun x3 =>
 zb (
 zb (za (zg 6 x2)) fun x10 =>
 zb (z8 x10) fun x11 =>
 zb (za (zg 6 x3)) fun x12 =>
 zb (z8 x12) fun x13 =>
 zb (za (zy .neq x11 x13)) fun x14 =>
 zb (gd x14 false (za (zg 3 x2))) fun x16 =>
 zb (gd x14 false (za (zg 0 x16))) fun x17 =>
 zb (gd x14 false (z8 x17)) fun x18 =>
 zb (gd x14 false (za (zg 3 x3))) fun x19 =>
 zb (gd x14 false (za (zg 0 x19))) fun x20 =>
 zb (gd x14 false (z8 x20)) fun x21 =>
 zb (gd x14 false (za (zy .neq x18 x21))) fun x22 =>
 zb (za (zbb x14 (Value.bool true) x22)) fun x23 =>
 zb (gd x23 false (za (zg 0 x2))) fun x25 =>
 zb (gd x23 false (z8 x25)) fun x26 =>
 zb (gd x23 false (za (zv x26))) fun x27 =>
 zb (gd x23 false (za (zg 0 x3))) fun x28 =>
 zb (gd x23 false (z8 x28)) fun x29 =>
 zb (gd x23 false (za (zv x29))) fun x30 =>
 zb (gd x23 false (za (zy .neq x27 x30))) fun x31 =>
 zb (za (zbb x23 (Value.bool true) x31)) fun x32 =>
 zb (gd x32 false (za (zg 1 x2))) fun x34 =>
 zb (gd x32 false (z8 x34)) fun x35 =>
 zb (gd x32 false (za (zv x35))) fun x36 =>
 zb (gd x32 false (za (zg 1 x3))) fun x37 =>
 zb (gd x32 false (z8 x37)) fun x38 =>
 zb (gd x32 false (za (zv x38))) fun x39 =>
 zb (gd x32 false (za (zy .neq x36 x39))) fun x40 =>
 zb (za (zbb x32 (Value.bool true) x40)) fun x41 =>
 zb (gd x41 false (za (zg 2 x2))) fun x43 =>
 zb (gd x41 false (z8 x43)) fun x44 =>
 zb (gd x41 false (za (zv x44))) fun x45 =>
 zb (gd x41 false (za (zg 2 x3))) fun x46 =>
 zb (gd x41 false (z8 x46)) fun x47 =>
 zb (gd x41 false (za (zv x47))) fun x48 =>
 zb (gd x41 false (za (zy .neq x45 x48))) fun x49 =>
 zb (za (zbb x41 (Value.bool true) x49)) fun x50 =>
 zb (gd x50 false (za (zg 3 x2))) fun x52 =>
 zb (gd x50 false (za (zg 1 x52))) fun x53 =>
 zb (gd x50 false (z8 x53)) fun x54 =>
 zb (gd x50 false (za (zv x54))) fun x55 =>
 zb (gd x50 false (za (zg 3 x3))) fun x56 =>
 zb (gd x50 false (za (zg 1 x56))) fun x57 =>
 zb (gd x50 false (z8 x57)) fun x58 =>
 zb (gd x50 false (za (zv x58))) fun x59 =>
 zb (gd x50 false (za (zy .neq x55 x59))) fun x60 =>
 zb (za (zbb x50 (Value.bool true) x60)) fun x61 =>
 zb (gd x61 false (za (zg 5 x2))) fun x63 =>
 zb (gd x61 false (z8 x63)) fun x64 =>
 zb (gd x61 false (za (zv x64))) fun x65 =>
 zb (gd x61 false (za (zg 5 x3))) fun x66 =>
 zb (gd x61 false (z8 x66)) fun x67 =>
 zb (gd x61 false (za (zv x67))) fun x68 =>
 zb (gd x61 false (za (zy .neq x65 x68))) fun x69 =>
 zb (za (zbb x61 (Value.bool true) x69)) fun x70 =>
 zn x70 (
 ret (.ret [(Value.bool false)])
 ) (
 ret (.nxt [x2,x3])
 )
 ) fun o=>nx o zsd
 ) fun o=>zbl o fun vs=>ret (zbh [(zd vs 0)])
def z6z:Hint:=(.seq [] .leaf (.seq [2,3] (.seq [] .leaf (.cond (.seq [] .leaf .leaf) .leaf)) (.seq [2,3] (.seq [] .leaf (.blk (.loop [2,3,5] (.seq [2,3,5] (.seq [] .leaf (.cond .leaf .leaf)) (.seq [2,3,5] (.blk (.seq [] (.reg [0,2,5,7,1,3,4,6,8,9,10] []) (.cond (.seq [] .leaf .leaf) .leaf))) .leaf))))) (.seq [2,3] (.seq [] .leaf (.blk (.loop [2,3,6] (.seq [2,3,6] (.seq [] .leaf (.cond .leaf .leaf)) (.seq [2,3,6] (.blk (.seq [] (.reg [0,2,5,7,1,3,4,6,8,9,10] []) (.cond (.seq [] .leaf .leaf) .leaf))) .leaf))))) (.seq [2,3] (.seq [] .leaf (.blk (.loop [2,3,7] (.seq [2,3,7] (.seq [] .leaf (.cond .leaf .leaf)) (.seq [2,3,7] (.blk (.seq [] (.reg [0,2,5,7,1,3,4,6,8,9,10] []) (.cond (.seq [] .leaf .leaf) .leaf))) .leaf))))) (.seq [2,3] (.seq [] .leaf (.blk (.loop [2,3,8] (.seq [2,3,8] (.seq [] .leaf (.cond .leaf .leaf)) (.seq [2,3,8] (.blk (.seq [] (.reg [0,1,3,6,7,9,2,4,5,8,10,11,12] []) (.cond (.seq [] .leaf .leaf) .leaf))) .leaf))))) (.seq [] (.seq [] .leaf (.blk (.loop [2,3,9] (.seq [2,3,9] (.seq [] .leaf (.cond .leaf .leaf)) (.seq [2,3,9] (.blk (.seq [] (.reg [0,2,6,8,1,3,4,5,7,9,10,11,12,13,14,15,17,21,23,16,18,19,20,22,24,25,26,27,28,29] []) (.cond (.seq [] .leaf .leaf) .leaf))) .leaf))))) (.seq [] .leaf .leaf))))))))
def zjo:List V→M V:=ap2 zob
def z60:zu:=ovr [(zsy,zh1)] noC
theorem z61:zq Tryz.prog zrx (zjo):=kn2 (σ:=z60) (hint:=z6z) (by kernel_rfl) (zf z8u zl) fun _ _=>(by kernel_rfl)
def z5k (v7:List V):M Out :=
 zb (za (zy .add (zd v7 5) (Value.int .i64 1))) fun x75 =>
 ret (.nxt [(zd v7 0),(zd v7 1),(zd v7 2),(zd v7 3),(zd v7 4),x75])
def z5l (v6:List V):M Out :=
 zb (
 zb (
 zb (za (zg 2 (zd v6 3))) fun x76 =>
 zb (za (zg 2 (zd v6 4))) fun x81 =>
 zb (z8 x76) fun x77 =>
 zb (za (zx 2 x77 (zd v6 5))) fun x79 =>
 zb (ldn 2 x79) fun x80 =>
 zb (z8 x81) fun x82 =>
 zb (za (zx 2 x82 (zd v6 5))) fun x84 =>
 zb (ldn 2 x84) fun x85 =>
 zb (za (zcz true (zho [.i,.i] x80 x85))) fun x86 =>
 zn x86 (
 ret (.ret [(Value.bool false)])
 ) (
 ret (.nxt [(zd v6 0),(zd v6 1),(zd v6 2),(zd v6 3),(zd v6 4),(zd v6 5)])
 )
 ) fun o=>ret (zz 3 o)
 ) fun o=>nx o z5k
def zrl (v5:List V):M Out :=
 zb (
 zb (za (zg 2 (zd v5 3))) fun x70 =>
 zb (z8 x70) fun x71 =>
 zb (za (zv x71)) fun x72 =>
 zb (za (zy .lss (zd v5 5) x72)) fun x73 =>
 zn x73 (
 ret (.nxt [(zd v5 0),(zd v5 1),(zd v5 2),(zd v5 3),(zd v5 4),(zd v5 5)])
 ) (
 ret (.brk 2 [(zd v5 0),(zd v5 1),(zd v5 2)])
 )
 ) fun o=>nx o z5l
def z5m (v4:List V):M Out :=
 zb (
 zbg zby zrl [(zd v4 0),(zd v4 1),(zd v4 2),(zd v4 3),(zd v4 4),(Value.int .i64 0)]
 ) fun o=>ret (zz 2 o)
def z5n (v8:List V):M Out :=
 zb (za (zy .add (zd v8 2) (Value.int .i64 1))) fun x37 =>
 ret (.nxt [(zd v8 0),(zd v8 1),x37])
def z5o (v3:List V):M Out :=
 zb (
 zb (
 zul 2 fun base h0 =>
 zb (za (zg 7 (zd v3 0))) fun x38 =>
 zb (za (zg 7 (zd v3 1))) fun x43 =>
 zb (z8 x38) fun x39 =>
 zb (za (zx 3 x39 (zd v3 2))) fun x41 =>
 zb (ldn 3 x41) fun x42 =>
 zb (z8 x43) fun x44 =>
 zb (za (zx 3 x44 (zd v3 2))) fun x46 =>
 zb (ldn 3 x46) fun x47 =>
 zb (flt (base + 0) (newc [Value.string ⟨#[]⟩,Value.string ⟨#[]⟩,Value.slice none 0 0])) fun x6 =>
 zb (flt (base + 1) (newc [Value.string ⟨#[]⟩,Value.string ⟨#[]⟩,Value.slice none 0 0])) fun x7 =>
 zc9 (stn 3 x6 x42) fun ha u h1 =>
 zc9 (stn 3 x7 x47) fun ha_2 u_2 h2 =>
 zjs (chk (z8 x43) h1 x44) <|
 zjs (chk (ldn 3 x46) h1 x47) <|
 zb (
 zb (za (zg 0 x6)) fun x48 =>
 zb (z8 x48) fun x49 =>
 zb (za (zg 0 x7)) fun x50 =>
 zb (z8 x50) fun x51 =>
 zb (za (zy .neq x49 x51)) fun x52 =>
 zb (gd x52 false (za (zg 1 x6))) fun x54 =>
 zb (gd x52 false (z8 x54)) fun x55 =>
 zb (gd x52 false (za (zg 1 x7))) fun x56 =>
 zb (gd x52 false (z8 x56)) fun x57 =>
 zb (gd x52 false (za (zy .neq x55 x57))) fun x58 =>
 zb (za (zbb x52 (Value.bool true) x58)) fun x59 =>
 zb (gd x59 false (za (zg 2 x6))) fun x61 =>
 zb (gd x59 false (z8 x61)) fun x62 =>
 zb (gd x59 false (za (zv x62))) fun x63 =>
 zb (gd x59 false (za (zg 2 x7))) fun x64 =>
 zb (gd x59 false (z8 x64)) fun x65 =>
 zb (gd x59 false (za (zv x65))) fun x66 =>
 zb (gd x59 false (za (zy .neq x63 x66))) fun x67 =>
 zb (za (zbb x59 (Value.bool true) x67)) fun x68 =>
 zn x68 (
 ret (.ret [(Value.bool false)])
 ) (
 ret (.nxt [(zd v3 0),(zd v3 1),(zd v3 2),x6,x7])
 )
 ) fun o=>nx o z5m
 ) fun o=>ret (zz 1 o)
 ) fun o=>nx o z5n
def zxu (v2:List V):M Out :=
 zb (
 zb (za (zg 7 (zd v2 0))) fun x32 =>
 zb (z8 x32) fun x33 =>
 zb (za (zv x33)) fun x34 =>
 zb (za (zy .lss (zd v2 2) x34)) fun x35 =>
 zn x35 (
 ret (.nxt [(zd v2 0),(zd v2 1),(zd v2 2)])
 ) (
 ret (.brk 0 [])
 )
 ) fun o=>nx o z5o
def z5p (v9:List V):M Out :=
 ret (.ret [(Value.bool true)])
def z5q (vs:List V):M Out :=
 zb (
 zb (
 zbg zby zxu [(zd vs 0),(zd vs 1),(Value.int .i64 0)]
 ) fun o=>ret (zz 0 o)
 ) fun o=>nx o z5p
def zz7 (x0 x1:V):M V :=
 zb (
 zb (zeu x0) fun x2 =>
 zb (zeu x1) fun x3 =>
 zb (
 zb (za (zg 0 x2)) fun x9 =>
 zb (ldn 7 x9) fun x10 =>
 zb (za (zg 0 x3)) fun x11 =>
 zb (ldn 7 x11) fun x12 =>
 zb (zjo [x10,x12]) fun x13 =>
 zb (za (un .not x13)) fun x14 =>
 zb (gd x14 false (za (zg 8 x2))) fun x16 =>
 zb (gd x14 false (z8 x16)) fun x17 =>
 zb (gd x14 false (za (zg 8 x3))) fun x18 =>
 zb (gd x14 false (z8 x18)) fun x19 =>
 zb (gd x14 false (za (zy .neq x17 x19))) fun x20 =>
 zb (za (zbb x14 (Value.bool true) x20)) fun x21 =>
 zb (gd x21 false (za (zg 7 x2))) fun x23 =>
 zb (gd x21 false (z8 x23)) fun x24 =>
 zb (gd x21 false (za (zv x24))) fun x25 =>
 zb (gd x21 false (za (zg 7 x3))) fun x26 =>
 zb (gd x21 false (z8 x26)) fun x27 =>
 zb (gd x21 false (za (zv x27))) fun x28 =>
 zb (gd x21 false (za (zy .neq x25 x28))) fun x29 =>
 zb (za (zbb x21 (Value.bool true) x29)) fun x30 =>
 zn x30 (
 ret (.ret [(Value.bool false)])
 ) (
 ret (.nxt [x2,x3])
 )
 ) fun o=>nx o z5q
 ) fun o=>zbl o fun vs=>ret (zbh [(zd vs 0)])
def zbh3:Hint:=(.seq [] .leaf (.seq [2,3] (.seq [] .leaf (.cond (.seq [] .leaf .leaf) .leaf)) (.seq [] (.seq [] .leaf (.blk (.loop [2,3,5] (.seq [2,3,5] (.seq [] .leaf (.cond .leaf .leaf)) (.seq [2,3,5] (.blk (.seq [] (.reg [0,2,5,7,1,3,4,6,8,9,10,11,12,13] [10,11]) (.seq [2,3,5,6,7] (.seq [] .leaf (.cond (.seq [] .leaf .leaf) .leaf)) (.seq [] .leaf (.blk (.loop [2,3,5,6,7,8] (.seq [2,3,5,6,7,8] (.seq [] .leaf (.cond .leaf .leaf)) (.seq [2,3,5,6,7,8] (.blk (.seq [] (.reg [0,2,5,7,1,3,4,6,8,9,10] []) (.cond (.seq [] .leaf .leaf) .leaf))) .leaf)))))))) .leaf))))) (.seq [] .leaf .leaf))))
def zp5:List V→M V:=ap2 zz7
def zbh4:zu:=ovr [(zrx,zjo)] noC
theorem zbh5:zq Tryz.prog z11 (zp5):=kn2 (σ:=zbh4) (hint:=zbh3) (by kernel_rfl) (zf z61 zl) fun _ _=>(by kernel_rfl)
noncomputable def zwr (G_strings_Split:List V→M V) (G_strings_IndexRune:List V→M V) (G_strconv_Atoi:List V→M V) (G_strings_IndexByte:List V→M V) (G_strings_Builder_WriteString:List V→M V) (G_strings_Builder_WriteByte:List V→M V) (G_strconv_Itoa:List V→M V) (G_strings_Builder_Len:List V→M V) (G_strings_Builder_String:List V→M V) (v5:List V):M Out :=
 zb ((zgs G_strings_Split G_strings_IndexRune G_strconv_Atoi G_strings_IndexByte) [(zd v5 1)]) fun x93 =>
 zb (za (ext 0 x93)) fun x94 =>
 zb (za (ext 1 x93)) fun x95 =>
 zb (za (ext 2 x93)) fun x96 =>
 zb (newc [Value.slice none 0 0,Value.slice none 0 0,Value.slice none 0 0,Value.int .i64 0,Value.slice none 0 0,Value.slice none 0 0,Value.int .i64 0,Value.slice none 0 0,Value.int .i64 0]) fun x15 =>
 zb (stn 9 x15 x94) fun _ =>
 zb (za (zy .eql (zd v5 2) (Value.int .i64 0))) fun x98 =>
 zb (gd x98 true (za (some x96))) fun x100 =>
 zb (gd x98 true (za (zy .eql x100 (Value.int .i64 0)))) fun x101 =>
 zb (za (zbb x98 x101 (Value.bool false))) fun x102 =>
 zb (gd x102 true (ldn 9 (zd v5 0))) fun x104 =>
 zb (gd x102 true (ldn 9 x15)) fun x105 =>
 zb (gd x102 true (zp5 [x104,x105])) fun x106 =>
 zb (za (zbb x102 x106 (Value.bool false))) fun x107 =>
 ret (.ret [x107])
noncomputable def zp6 (G_strings_Split:List V→M V) (G_strings_IndexRune:List V→M V) (G_strconv_Atoi:List V→M V) (G_strings_IndexByte:List V→M V) (G_strings_Builder_WriteString:List V→M V) (G_strings_Builder_WriteByte:List V→M V) (G_strconv_Itoa:List V→M V) (G_strings_Builder_Len:List V→M V) (G_strings_Builder_String:List V→M V) (v4:List V):M Out :=
 zb (ldn 9 (zd v4 0)) fun x83 =>
 zb ((zom G_strings_IndexRune G_strings_Builder_WriteString G_strings_Builder_WriteByte G_strconv_Itoa G_strings_Builder_Len G_strings_Builder_String) [x83]) fun x84 =>
 zb (za (ext 0 x84)) fun x85 =>
 zb (za (ext 1 x84)) fun x86 =>
 zb (
 zb (za (zy .eql x86 (Value.int .i64 2))) fun x88 =>
 zn x88 (
 zb (za (zy .eql x85 (Value.string ⟨#[]⟩))) fun x90 =>
 ret (.ret [x90])
 ) (
 ret (.nxt [(zd v4 0),x85,x86])
 )
 ) fun o=>nx o (zwr G_strings_Split G_strings_IndexRune G_strconv_Atoi G_strings_IndexByte G_strings_Builder_WriteString G_strings_Builder_WriteByte G_strconv_Itoa G_strings_Builder_Len G_strings_Builder_String)
noncomputable def zkq (G_strings_Split:List V→M V) (G_strings_IndexRune:List V→M V) (G_strconv_Atoi:List V→M V) (G_strings_IndexByte:List V→M V) (G_strings_Builder_WriteString:List V→M V) (G_strings_Builder_WriteByte:List V→M V) (G_strconv_Itoa:List V→M V) (G_strings_Builder_Len:List V→M V) (G_strings_Builder_String:List V→M V) (v3:List V):M Out :=
 zb ((zgs G_strings_Split G_strings_IndexRune G_strconv_Atoi G_strings_IndexByte) [(zd v3 0)]) fun x54 =>
 zb (za (ext 0 x54)) fun x55 =>
 zb (za (ext 1 x54)) fun x56 =>
 zb (za (ext 2 x54)) fun x57 =>
 zb (newc [Value.slice none 0 0,Value.slice none 0 0,Value.slice none 0 0,Value.int .i64 0,Value.slice none 0 0,Value.slice none 0 0,Value.int .i64 0,Value.slice none 0 0,Value.int .i64 0]) fun x10 =>
 zb (stn 9 x10 x55) fun _ =>
 zb (
 zb (za (zy .neq x57 (Value.int .i64 0))) fun x59 =>
 zb (gd x59 false (za (zg 0 x10))) fun x61 =>
 zb (gd x59 false (za (zg 1 x61))) fun x62 =>
 zb (gd x59 false (z8 x62)) fun x63 =>
 zb (gd x59 false (za (zv x63))) fun x64 =>
 zb (gd x59 false (za (zy .gtr x64 (Value.int .i64 200)))) fun x65 =>
 zb (za (zbb x59 (Value.bool true) x65)) fun x66 =>
 zn x66 (
 zb (za (zy .eql x57 (Value.int .i64 0))) fun x68 =>
 zb (gd x68 false (za (zg 7 x10))) fun x70 =>
 zb (gd x68 false (z8 x70)) fun x71 =>
 zb (gd x68 false (za (zv x71))) fun x72 =>
 zb (gd x68 false (za (zy .eql x72 (Value.int .i64 0)))) fun x73 =>
 zb (gd x68 false (za (some x73))) fun x74 =>
 zb (gd x74 true (za (zg 0 x10))) fun x75 =>
 zb (gd x74 true (za (zg 5 x75))) fun x76 =>
 zb (gd x74 true (z8 x76)) fun x77 =>
 zb (gd x74 true (za (zv x77))) fun x78 =>
 zb (gd x74 true (za (zy .eql x78 (Value.int .i64 0)))) fun x79 =>
 zb (gd x68 false (za (zbb x74 x79 (Value.bool false)))) fun x80 =>
 zb (za (zbb x68 (Value.bool true) x80)) fun x81 =>
 ret (.ret [x81])
 ) (
 ret (.nxt [x10])
 )
 ) fun o=>nx o (zp6 G_strings_Split G_strings_IndexRune G_strconv_Atoi G_strings_IndexByte G_strings_Builder_WriteString G_strings_Builder_WriteByte G_strconv_Itoa G_strings_Builder_Len G_strings_Builder_String)
noncomputable def zws (G_strings_Split:List V→M V) (G_strings_IndexRune:List V→M V) (G_strconv_Atoi:List V→M V) (G_strings_IndexByte:List V→M V) (G_strings_Builder_WriteString:List V→M V) (G_strings_Builder_WriteByte:List V→M V) (G_strconv_Itoa:List V→M V) (G_strings_Builder_Len:List V→M V) (G_strings_Builder_String:List V→M V) (v2:List V):M Out :=
 zb (
 zb (ldn 9 (zd v2 1)) fun x26 =>
 zb ((zom G_strings_IndexRune G_strings_Builder_WriteString G_strings_Builder_WriteByte G_strconv_Itoa G_strings_Builder_Len G_strings_Builder_String) [x26]) fun x27 =>
 zb (za (ext 0 x27)) fun x28 =>
 zb (za (ext 1 x27)) fun x29 =>
 zb (za (zy .eql x29 (Value.int .i64 0))) fun x31 =>
 zn x31 (
 zb ((zgs G_strings_Split G_strings_IndexRune G_strconv_Atoi G_strings_IndexByte) [x28]) fun x34 =>
 zb (za (ext 0 x34)) fun x35 =>
 zb (za (ext 1 x34)) fun x36 =>
 zb (za (ext 2 x34)) fun x37 =>
 zb (newc [Value.slice none 0 0,Value.slice none 0 0,Value.slice none 0 0,Value.int .i64 0,Value.slice none 0 0,Value.slice none 0 0,Value.int .i64 0,Value.slice none 0 0,Value.int .i64 0]) fun x7 =>
 zb (stn 9 x7 x35) fun _ =>
 zb (za (zy .neq x36 (Value.int .i64 0))) fun x39 =>
 zb (gd x39 false (za (some x37))) fun x41 =>
 zb (gd x39 false (za (zy .neq x41 (Value.int .i64 0)))) fun x42 =>
 zb (za (zbb x39 (Value.bool true) x42)) fun x43 =>
 zb (gd x43 false (ldn 9 (zd v2 1))) fun x45 =>
 zb (gd x43 false (ldn 9 x7)) fun x46 =>
 zb (gd x43 false (zp5 [x45,x46])) fun x47 =>
 zb (gd x43 false (za (un .not x47))) fun x48 =>
 zb (za (zbb x43 (Value.bool true) x48)) fun x49 =>
 zn x49 (
 ret (.ret [(Value.bool false)])
 ) (
 ret (.nxt [(zd v2 0)])
 )
 ) (
 zb (za (zy .neq x28 (Value.string ⟨#[]⟩))) fun x51 =>
 zn x51 (
 ret (.ret [(Value.bool false)])
 ) (
 ret (.nxt [(zd v2 0)])
 )
 )
 ) fun o=>nx o (zkq G_strings_Split G_strings_IndexRune G_strconv_Atoi G_strings_IndexByte G_strings_Builder_WriteString G_strings_Builder_WriteByte G_strconv_Itoa G_strings_Builder_Len G_strings_Builder_String)
noncomputable def zp7 (G_strings_Split:List V→M V) (G_strings_IndexRune:List V→M V) (G_strconv_Atoi:List V→M V) (G_strings_IndexByte:List V→M V) (G_strings_Builder_WriteString:List V→M V) (G_strings_Builder_WriteByte:List V→M V) (G_strconv_Itoa:List V→M V) (G_strings_Builder_Len:List V→M V) (G_strings_Builder_String:List V→M V) (vs:List V):M Out :=
 zb (
 zb (za (zg 0 (zd vs 1))) fun x20 =>
 zb (za (zg 1 x20)) fun x21 =>
 zb (z8 x21) fun x22 =>
 zb (za (zv x22)) fun x23 =>
 zb (za (zy .gtr x23 (Value.int .i64 200))) fun x24 =>
 zn x24 (
 ret (.ret [(Value.bool true)])
 ) (
 ret (.nxt [(zd vs 0),(zd vs 1)])
 )
 ) fun o=>nx o (zws G_strings_Split G_strings_IndexRune G_strconv_Atoi G_strings_IndexByte G_strings_Builder_WriteString G_strings_Builder_WriteByte G_strconv_Itoa G_strings_Builder_Len G_strings_Builder_String)
noncomputable def zq7 (G_strings_Split:List V→M V) (G_strings_IndexRune:List V→M V) (G_strconv_Atoi:List V→M V) (G_strings_IndexByte:List V→M V) (G_strings_Builder_WriteString:List V→M V) (G_strings_Builder_WriteByte:List V→M V) (G_strconv_Itoa:List V→M V) (G_strings_Builder_Len:List V→M V) (G_strings_Builder_String:List V→M V) (x0 x1:V):M V :=
 zb (
 zb (zeu x0) fun x2 =>
 zb (
 zb ((zrk G_strings_Split G_strings_IndexRune G_strconv_Atoi G_strings_IndexByte) []) fun x18 =>
 zb (za (un .not x18)) fun x19 =>
 zn x19 (
 ret (.ret [(Value.bool false)])
 ) (
 ret (.nxt [x1,x2])
 )
 ) fun o=>nx o (zp7 G_strings_Split G_strings_IndexRune G_strconv_Atoi G_strings_IndexByte G_strings_Builder_WriteString G_strings_Builder_WriteByte G_strconv_Itoa G_strings_Builder_Len G_strings_Builder_String)
 ) fun o=>zbl o fun vs=>ret (zbh [(zd vs 0)])
def zbaa:Hint:=(.seq [] .leaf (.seq [1,2] (.seq [] .leaf (.cond (.seq [] .leaf .leaf) .leaf)) (.seq [1,2] (.seq [] .leaf (.cond (.seq [] .leaf .leaf) .leaf)) (.seq [1] (.seq [] .leaf (.seq [] .leaf (.cond (.seq [] .leaf (.seq [] .leaf (.cond (.seq [] .leaf .leaf) .leaf))) (.seq [] .leaf (.cond (.seq [] .leaf .leaf) .leaf))))) (.seq [] .leaf (.seq [10] (.seq [] .leaf (.cond (.seq [] .leaf .leaf) .leaf)) (.seq [] .leaf (.seq [10,13,14] (.seq [] .leaf (.cond (.seq [] .leaf .leaf) .leaf)) (.seq [] .leaf (.seq [] .leaf .leaf))))))))))
noncomputable def zyw (G_strings_Split:List V→M V) (G_strings_IndexRune:List V→M V) (G_strconv_Atoi:List V→M V) (G_strings_IndexByte:List V→M V) (G_strings_Builder_WriteString:List V→M V) (G_strings_Builder_WriteByte:List V→M V) (G_strconv_Itoa:List V→M V) (G_strings_Builder_Len:List V→M V) (G_strings_Builder_String:List V→M V):List V→M V:=ap2 (zq7 G_strings_Split G_strings_IndexRune G_strconv_Atoi G_strings_IndexByte G_strings_Builder_WriteString G_strings_Builder_WriteByte G_strconv_Itoa G_strings_Builder_Len G_strings_Builder_String)
theorem K_law27_ConfBack {G_strings_Split:List V→M V} {G_strings_IndexRune:List V→M V} {G_strconv_Atoi:List V→M V} {G_strings_IndexByte:List V→M V} {G_strings_Builder_WriteString:List V→M V} {G_strings_Builder_WriteByte:List V→M V} {G_strconv_Itoa:List V→M V} {G_strings_Builder_Len:List V→M V} {G_strings_Builder_String:List V→M V} (k_strings_Split:zq Tryz.prog zco G_strings_Split) (k_strings_IndexRune:zq Tryz.prog zr G_strings_IndexRune) (k_strconv_Atoi:zq Tryz.prog zbi G_strconv_Atoi) (k_strings_IndexByte:zq Tryz.prog zbq G_strings_IndexByte) (k_strings_Builder_WriteString:zq Tryz.prog zbt G_strings_Builder_WriteString) (k_strings_Builder_WriteByte:zq Tryz.prog zb3 G_strings_Builder_WriteByte) (k_strconv_Itoa:zq Tryz.prog zg4 G_strconv_Itoa) (k_strings_Builder_Len:zq Tryz.prog zf5 G_strings_Builder_Len) (k_strings_Builder_String:zq Tryz.prog zei G_strings_Builder_String):zq Tryz.prog z6a (zyw G_strings_Split G_strings_IndexRune G_strconv_Atoi G_strings_IndexByte G_strings_Builder_WriteString G_strings_Builder_WriteByte G_strconv_Itoa G_strings_Builder_Len G_strings_Builder_String):=kn2 (σ:=ovr [(z0m,zrk G_strings_Split G_strings_IndexRune G_strconv_Atoi G_strings_IndexByte),(z4l,zom G_strings_IndexRune G_strings_Builder_WriteString G_strings_Builder_WriteByte G_strconv_Itoa G_strings_Builder_Len G_strings_Builder_String),(zut,zgs G_strings_Split G_strings_IndexRune G_strconv_Atoi G_strings_IndexByte),(z11,zp5)] noC) (hint:=zbaa) (by kernel_rfl) (zf (zbfg k_strings_Split k_strings_IndexRune k_strconv_Atoi k_strings_IndexByte) (zf (zbkh k_strings_IndexRune k_strings_Builder_WriteString k_strings_Builder_WriteByte k_strconv_Itoa k_strings_Builder_Len k_strings_Builder_String) (zf (z8l k_strings_Split k_strings_IndexRune k_strconv_Atoi k_strings_IndexByte) (zf zbh5 zl)))) fun _ _=>(by kernel_rfl)
end Go.AM.Cap
