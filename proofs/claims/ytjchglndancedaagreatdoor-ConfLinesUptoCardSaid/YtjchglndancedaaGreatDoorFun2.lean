import Derived.Test.YtjchglndancedaaGreatDoorFun
set_option linter.all false
/- Printed by amprint2.py: functions of YtjchglndancedaaGreatDoor on the abstract machine. -/
set_option linter.unusedVariables false
set_option maxRecDepth 100000
namespace Go.AM.Cap
open Go.AM Go.Proofs
noncomputable def z23 (G_strings_Split : List V → M V) (G_strings_IndexRune : List V → M V) (G_strconv_Atoi : List V → M V) (G_strings_IndexByte : List V → M V) (vs_3 : List V) : M Out :=
 zb (ldn 9 (zd vs_3 0)) fun x55 =>
 zb (stn 9 (zd vs_3 0) x55) fun _ =>
 ret (.ret [(zd vs_3 0), (Value.int .i64 0), (Value.int .i64 0)])
noncomputable def z24 (G_strings_Split : List V → M V) (G_strings_IndexRune : List V → M V) (G_strconv_Atoi : List V → M V) (G_strings_IndexByte : List V → M V) (vs_2 : List V) : M Out :=
 zb (
 zb (za (zh 0 (zd vs_2 0))) fun x42 =>
 zb (ldn 7 x42) fun x43 =>
 zb (za (zh 7 (zd vs_2 0))) fun x44 =>
 zb (ld1 x44) fun x45 =>
 zb (za (zh 8 (zd vs_2 0))) fun x46 =>
 zb (ld1 x46) fun x47 =>
 zb ((zsr G_strings_IndexRune) [x43, x45, x47]) fun x48 =>
 zb (za (ext 0 x48)) fun x49 =>
 zb (za (ext 1 x48)) fun x50 =>
 zb (za (zw .neq x50 (Value.int .i64 0))) fun x52 =>
 zn x52 (
 zb (za (build [Value.slice none 0 0, Value.slice none 0 0, Value.slice none 0 0, Value.int .i64 0, Value.slice none 0 0, Value.slice none 0 0, Value.int .i64 0, Value.slice none 0 0, Value.int .i64 0] [])) fun x53 =>
 zb (stn 9 (zd vs_2 0) x53) fun _ =>
 ret (.ret [(zd vs_2 0), (Value.int .i64 0), x50])
 ) (
 ret (.nxt [(zd vs_2 0)])
 )
 ) fun o => nx o (z23 G_strings_Split G_strings_IndexRune G_strconv_Atoi G_strings_IndexByte)
noncomputable def z25 (G_strings_Split : List V → M V) (G_strings_IndexRune : List V → M V) (G_strconv_Atoi : List V → M V) (G_strings_IndexByte : List V → M V) (vs : List V) : M Out :=
 zb (G_strings_Split [(zd vs 0), (Value.string ⟨#[10]⟩)]) fun x14 =>
 zb (za (zx x14)) fun x16 =>
 zb (za (zw .sub x16 (Value.int .i64 1))) fun x17 =>
 zb (za (zhk 1 x14 none (some x17))) fun x21 =>
 zb ((zuz G_strings_IndexRune G_strconv_Atoi G_strings_IndexByte G_strings_Split) [x21]) fun x22 =>
 zb (za (ext 0 x22)) fun x23 =>
 zb (za (ext 1 x22)) fun x24 =>
 zb (za (ext 2 x22)) fun x25 =>
 zb (stn 9 (zd vs 1) x23) fun _ =>
 zb (
 zb (
 zb (za (zw .neq x25 (Value.int .i64 0))) fun x28 =>
 zn x28 (
 zb (za (build [Value.slice none 0 0, Value.slice none 0 0, Value.slice none 0 0, Value.int .i64 0, Value.slice none 0 0, Value.slice none 0 0, Value.int .i64 0, Value.slice none 0 0, Value.int .i64 0] [])) fun x29 =>
 zb (stn 9 (zd vs 1) x29) fun _ =>
 ret (.ret [(zd vs 1), x24, x25])
 ) (
 zb (za (zy 1 x14 x17)) fun x35 =>
 zb (ld1 x35) fun x36 =>
 zb (za (zw .neq x36 (Value.string ⟨#[]⟩))) fun x37 =>
 zn x37 (
 zb (za (build [Value.slice none 0 0, Value.slice none 0 0, Value.slice none 0 0, Value.int .i64 0, Value.slice none 0 0, Value.slice none 0 0, Value.int .i64 0, Value.slice none 0 0, Value.int .i64 0] [])) fun x38 =>
 zb (za (zw .add x17 (Value.int .i64 1))) fun x40 =>
 zb (stn 9 (zd vs 1) x38) fun _ =>
 ret (.ret [(zd vs 1), x40, (Value.int .i64 3)])
 ) (
 ret (.nxt [(zd vs 1)])
 )
 )
 ) fun o => ret (zz 0 o)
 ) fun o => nx o (z24 G_strings_Split G_strings_IndexRune G_strconv_Atoi G_strings_IndexByte)
noncomputable def zx5 (G_strings_Split : List V → M V) (G_strings_IndexRune : List V → M V) (G_strconv_Atoi : List V → M V) (G_strings_IndexByte : List V → M V) (x0 : V) : M V :=
 zb (
 zb (newc [Value.slice none 0 0, Value.slice none 0 0, Value.slice none 0 0, Value.int .i64 0, Value.slice none 0 0, Value.slice none 0 0, Value.int .i64 0, Value.slice none 0 0, Value.int .i64 0]) fun x2 =>
 zb (
 zb (za (zet x0)) fun x10 =>
 zb (za (zw .gtr x10 (Value.int .i64 65536))) fun x11 =>
 zn x11 (
 zb (za (build [Value.slice none 0 0, Value.slice none 0 0, Value.slice none 0 0, Value.int .i64 0, Value.slice none 0 0, Value.slice none 0 0, Value.int .i64 0, Value.slice none 0 0, Value.int .i64 0] [])) fun x12 =>
 zb (stn 9 x2 x12) fun _ =>
 ret (.ret [x2, (Value.int .i64 0), (Value.int .i64 2)])
 ) (
 ret (.nxt [x0, x2])
 )
 ) fun o => nx o (z25 G_strings_Split G_strings_IndexRune G_strconv_Atoi G_strings_IndexByte)
 ) fun o => zbl o fun vs => zb (ldn 9 (zd vs 0)) fun r0 => ret (zbi [r0, (zd vs 1), (zd vs 2)])
def zbfy : Hint := (.seq [] .leaf (.seq [0, 2] (.seq [] .leaf (.cond (.seq [] .leaf .leaf) .leaf)) (.seq [] .leaf (.seq [] .leaf (.seq [] .leaf (.seq [2] (.blk (.seq [] .leaf (.cond (.seq [] .leaf .leaf) (.seq [] .leaf (.cond (.seq [] .leaf .leaf) .leaf))))) (.seq [2] (.seq [] .leaf (.seq [] .leaf (.cond (.seq [] .leaf .leaf) .leaf))) (.seq [] .leaf .leaf))))))))
noncomputable def zo2 (G_strings_Split : List V → M V) (G_strings_IndexRune : List V → M V) (G_strconv_Atoi : List V → M V) (G_strings_IndexByte : List V → M V) : List V → M V := ap1 (zx5 G_strings_Split G_strings_IndexRune G_strconv_Atoi G_strings_IndexByte)
theorem zbfz {G_strings_Split : List V → M V} {G_strings_IndexRune : List V → M V} {G_strconv_Atoi : List V → M V} {G_strings_IndexByte : List V → M V} (k_strings_Split : zq Tryz.prog zch G_strings_Split) (k_strings_IndexRune : zq Tryz.prog zr G_strings_IndexRune) (k_strconv_Atoi : zq Tryz.prog zbf G_strconv_Atoi) (k_strings_IndexByte : zq Tryz.prog zbp G_strings_IndexByte) : zq Tryz.prog zzu (zo2 G_strings_Split G_strings_IndexRune G_strconv_Atoi G_strings_IndexByte) := kn1 (σ := ovr [(zch, G_strings_Split), (z17, zuz G_strings_IndexRune G_strconv_Atoi G_strings_IndexByte G_strings_Split), (zzv, zsr G_strings_IndexRune)] noC) (hint := zbfy) (by kernel_rfl) (ze k_strings_Split (ze (zbhx k_strings_IndexRune k_strconv_Atoi k_strings_IndexByte k_strings_Split) (ze (zbei k_strings_IndexRune) zk))) fun _ => (by kernel_rfl)
noncomputable def zv1 (G_strings_Split : List V → M V) (G_strings_IndexRune : List V → M V) (G_strconv_Atoi : List V → M V) (G_strings_IndexByte : List V → M V) : M V :=
 zb (
 zb ((zo2 G_strings_Split G_strings_IndexRune G_strconv_Atoi G_strings_IndexByte) [(Value.string ⟨#[109, 105, 108, 108, 105, 115, 32, 49, 48, 10, 102, 114, 97, 109, 101, 32, 53, 48, 10, 105, 100, 108, 101, 32, 57, 10, 119, 105, 110, 100, 111, 119, 32, 48, 32, 48, 32, 50, 48, 10, 117, 110, 105, 116, 10]⟩)]) fun x8 =>
 zb (za (ext 0 x8)) fun x9 =>
 zb (za (ext 1 x8)) fun x10 =>
 zb (za (ext 2 x8)) fun x11 =>
 zb (newc [Value.slice none 0 0, Value.slice none 0 0, Value.slice none 0 0, Value.int .i64 0, Value.slice none 0 0, Value.slice none 0 0, Value.int .i64 0, Value.slice none 0 0, Value.int .i64 0]) fun x1 =>
 zb (stn 9 x1 x9) fun _ =>
 zb ((zo2 G_strings_Split G_strings_IndexRune G_strconv_Atoi G_strings_IndexByte) [(Value.string ⟨#[109, 105, 108, 108, 105, 115, 32, 49, 48, 10, 109, 105, 108, 108, 105, 115, 32, 49, 48, 10]⟩)]) fun x13 =>
 zb (za (ext 0 x13)) fun x14 =>
 zb (za (ext 1 x13)) fun x15 =>
 zb (za (ext 2 x13)) fun x16 =>
 zb (newc [Value.slice none 0 0, Value.slice none 0 0, Value.slice none 0 0, Value.int .i64 0, Value.slice none 0 0, Value.slice none 0 0, Value.int .i64 0, Value.slice none 0 0, Value.int .i64 0]) fun x4 =>
 zb (stn 9 x4 x14) fun _ =>
 zb (za (zw .eql x10 (Value.int .i64 0))) fun x18 =>
 zb (gd x18 true (za (some x11))) fun x20 =>
 zb (gd x18 true (za (zw .eql x20 (Value.int .i64 0)))) fun x21 =>
 zb (za (zbe x18 x21 (Value.bool false))) fun x22 =>
 zb (gd x22 true (za (zh 0 x1))) fun x24 =>
 zb (gd x22 true (za (zh 6 x24))) fun x25 =>
 zb (gd x22 true (ld1 x25)) fun x26 =>
 zb (gd x22 true (za (zw .eql x26 (Value.int .i64 10)))) fun x27 =>
 zb (za (zbe x22 x27 (Value.bool false))) fun x28 =>
 zb (gd x28 true (za (zh 0 x1))) fun x30 =>
 zb (gd x28 true (za (zh 3 x30))) fun x31 =>
 zb (gd x28 true (za (zh 0 x31))) fun x32 =>
 zb (gd x28 true (ld1 x32)) fun x33 =>
 zb (gd x28 true (za (zw .eql x33 (Value.int .i64 50)))) fun x34 =>
 zb (za (zbe x28 x34 (Value.bool false))) fun x35 =>
 zb (gd x35 true (za (zh 8 x1))) fun x37 =>
 zb (gd x35 true (ld1 x37)) fun x38 =>
 zb (gd x35 true (za (zw .eql x38 (Value.int .i64 9)))) fun x39 =>
 zb (za (zbe x35 x39 (Value.bool false))) fun x40 =>
 zb (gd x40 true (za (zh 0 x1))) fun x42 =>
 zb (gd x40 true (za (zh 3 x42))) fun x43 =>
 zb (gd x40 true (za (zh 1 x43))) fun x44 =>
 zb (gd x40 true (ld1 x44)) fun x45 =>
 zb (gd x40 true (za (zx x45))) fun x46 =>
 zb (gd x40 true (za (zw .eql x46 (Value.int .i64 1)))) fun x47 =>
 zb (za (zbe x40 x47 (Value.bool false))) fun x48 =>
 zb (gd x48 true (za (zh 0 x1))) fun x50 =>
 zb (gd x48 true (za (zh 3 x50))) fun x51 =>
 zb (gd x48 true (za (zh 1 x51))) fun x52 =>
 zb (gd x48 true (ld1 x52)) fun x53 =>
 zb (gd x48 true (za (zy 3 x53 (Value.int .i64 0)))) fun x54 =>
 zb (gd x48 true (ldn 3 x54)) fun x55 =>
 zb (gd x48 true (za (build [Value.int .i64 0, Value.int .i64 0, Value.int .i64 0] [(2, 1, (Value.int .i64 20))]))) fun x56 =>
 zb (gd x48 true (za (zgp false (zyi [.i, .i, .i] x55 x56)))) fun x57 =>
 zb (za (zbe x48 x57 (Value.bool false))) fun x58 =>
 zb (gd x58 true (za (zh 0 x1))) fun x60 =>
 zb (gd x58 true (za (zh 5 x60))) fun x61 =>
 zb (gd x58 true (ld1 x61)) fun x62 =>
 zb (gd x58 true (za (zx x62))) fun x63 =>
 zb (gd x58 true (za (zw .eql x63 (Value.int .i64 1)))) fun x64 =>
 zb (za (zbe x58 x64 (Value.bool false))) fun x65 =>
 zb (gd x65 true (za (some x15))) fun x67 =>
 zb (gd x65 true (za (zw .eql x67 (Value.int .i64 2)))) fun x68 =>
 zb (za (zbe x65 x68 (Value.bool false))) fun x69 =>
 zb (gd x69 true (za (some x16))) fun x71 =>
 zb (gd x69 true (za (zw .eql x71 (Value.int .i64 6)))) fun x72 =>
 zb (za (zbe x69 x72 (Value.bool false))) fun x73 =>
 ret (.ret [x73])
 ) fun o => zbl o fun vs => ret (zbi [(zd vs 0)])
def zbdi : Hint := (.seq [] .leaf (.seq [] .leaf (.seq [] .leaf (.seq [] .leaf .leaf))))
noncomputable def zqo (G_strings_Split : List V → M V) (G_strings_IndexRune : List V → M V) (G_strconv_Atoi : List V → M V) (G_strings_IndexByte : List V → M V) : List V → M V := ap0 (zv1 G_strings_Split G_strings_IndexRune G_strconv_Atoi G_strings_IndexByte)
theorem zbdj {G_strings_Split : List V → M V} {G_strings_IndexRune : List V → M V} {G_strconv_Atoi : List V → M V} {G_strings_IndexByte : List V → M V} (k_strings_Split : zq Tryz.prog zch G_strings_Split) (k_strings_IndexRune : zq Tryz.prog zr G_strings_IndexRune) (k_strconv_Atoi : zq Tryz.prog zbf G_strconv_Atoi) (k_strings_IndexByte : zq Tryz.prog zbp G_strings_IndexByte) : zq Tryz.prog zyp (zqo G_strings_Split G_strings_IndexRune G_strconv_Atoi G_strings_IndexByte) := kn0 (σ := ovr [(zzu, zo2 G_strings_Split G_strings_IndexRune G_strconv_Atoi G_strings_IndexByte)] noC) (hint := zbdi) (by kernel_rfl) (ze (zbfz k_strings_Split k_strings_IndexRune k_strconv_Atoi k_strings_IndexByte) zk) (by kernel_rfl)
def zmj (G_strings_Builder_WriteString : List V → M V) (G_strings_Builder_WriteByte : List V → M V) (G_strconv_Itoa : List V → M V) (vs_3 : List V) : M Out :=
 zb (za (zw .add (zd vs_3 3) (Value.int .i64 1))) fun x43 =>
 ret (.nxt [(zd vs_3 0), (zd vs_3 1), (zd vs_3 2), x43])
def zrt (G_strings_Builder_WriteString : List V → M V) (G_strings_Builder_WriteByte : List V → M V) (G_strconv_Itoa : List V → M V) (vs_2 : List V) : M Out :=
 zb (
 zb (
 zb (za (zy 1 (zd vs_2 1) (zd vs_2 3))) fun x19 =>
 zb (ld1 x19) fun x20 =>
 zb (za (zcc (zd vs_2 0))) fun x22 =>
 zb (za (zh 0 x22)) fun x23 =>
 zb (G_strings_Builder_WriteByte [x23, (Value.int .u8 32)]) fun x24 =>
 zb (
 zb (za (zuo zew (some (Value.int .i64 0)) true x20)) fun x26 =>
 zb (za (ext 1 x26)) fun x27 =>
 zb (za (ext 0 x26)) fun x28 =>
 zn x27 (
 zb (za (zcc (zd vs_2 0))) fun x30 =>
 zb (za (zh 0 x30)) fun x31 =>
 zb (G_strconv_Itoa [x28]) fun x33 =>
 zb (G_strings_Builder_WriteString [x31, x33]) fun x34 =>
 ret (.nxt [(zd vs_2 0), (zd vs_2 1), (zd vs_2 2), (zd vs_2 3)])
 ) (
 zb (za (zuo zcn (some (Value.string ⟨#[]⟩)) true x20)) fun x35 =>
 zb (za (ext 1 x35)) fun x36 =>
 zb (za (ext 0 x35)) fun x37 =>
 zn x36 (
 zb (za (zcc (zd vs_2 0))) fun x39 =>
 zb (za (zh 0 x39)) fun x40 =>
 zb (G_strings_Builder_WriteString [x40, x37]) fun x42 =>
 ret (.nxt [(zd vs_2 0), (zd vs_2 1), (zd vs_2 2), (zd vs_2 3)])
 ) (
 ret (.nxt [(zd vs_2 0), (zd vs_2 1), (zd vs_2 2), (zd vs_2 3)])
 )
 )
 ) fun o => ret (zz 2 o)
 ) fun o => ret (zz 1 o)
 ) fun o => nx o (zmj G_strings_Builder_WriteString G_strings_Builder_WriteByte G_strconv_Itoa)
def zmk (G_strings_Builder_WriteString : List V → M V) (G_strings_Builder_WriteByte : List V → M V) (G_strconv_Itoa : List V → M V) (vs : List V) : M Out :=
 zb (za (zw .lss (zd vs 3) (zd vs 2))) fun x18 =>
 zb (
 zn x18 (
 ret (.nxt [(zd vs 0), (zd vs 1), (zd vs 2), (zd vs 3)])
 ) (
 ret (.brk 0 [(zd vs 0)])
 )
 ) fun o => nx o (zrt G_strings_Builder_WriteString G_strings_Builder_WriteByte G_strconv_Itoa)
def zru (G_strings_Builder_WriteString : List V → M V) (G_strings_Builder_WriteByte : List V → M V) (G_strconv_Itoa : List V → M V) (vs_4 : List V) : M Out :=
 zb (za (zcc (zd vs_4 0))) fun x45 =>
 zb (za (zh 0 x45)) fun x46 =>
 zb (G_strings_Builder_WriteByte [x46, (Value.int .u8 10)]) fun x47 =>
 ret (.nxt [])
def znl (G_strings_Builder_WriteString : List V → M V) (G_strings_Builder_WriteByte : List V → M V) (G_strconv_Itoa : List V → M V) (x0 x1 x2 : V) : M V :=
 zb (
 zb (za (zcc x0)) fun x11 =>
 zb (za (zh 0 x11)) fun x12 =>
 zb (G_strings_Builder_WriteString [x12, x1]) fun x14 =>
 zb (
 zb (za (zx x2)) fun x16 =>
 zb (
 zbj zb8 (zmk G_strings_Builder_WriteString G_strings_Builder_WriteByte G_strconv_Itoa) [x0, x2, x16, (Value.int .i64 0)]
 ) fun o => ret (zz 0 o)
 ) fun o => nx o (zru G_strings_Builder_WriteString G_strings_Builder_WriteByte G_strconv_Itoa)
 ) fun o => zbl o fun vs => ret (zbi [])
def z4g : Hint := (.seq [] .leaf (.seq [0] (.seq [] .leaf (.blk (.loop [0, 15, 16, 17] (.seq [] .leaf (.seq [0, 15, 16, 17] (.cond .leaf .leaf) (.seq [0, 15, 16, 17] (.blk (.seq [] .leaf (.seq [] .leaf (.seq [] .leaf (.blk (.seq [] .leaf (.cond (.seq [] .leaf (.reg [0, 1, 2, 3, 4, 5] [])) (.seq [] .leaf (.cond (.seq [] .leaf .leaf) .leaf))))))))) .leaf)))))) .leaf))
def z6 (G_strings_Builder_WriteString : List V → M V) (G_strings_Builder_WriteByte : List V → M V) (G_strconv_Itoa : List V → M V) : List V → M V := ap3 (znl G_strings_Builder_WriteString G_strings_Builder_WriteByte G_strconv_Itoa)
theorem zty {G_strings_Builder_WriteString : List V → M V} {G_strings_Builder_WriteByte : List V → M V} {G_strconv_Itoa : List V → M V} (k_strings_Builder_WriteString : zq Tryz.prog zbr G_strings_Builder_WriteString) (k_strings_Builder_WriteByte : zq Tryz.prog zbx G_strings_Builder_WriteByte) (k_strconv_Itoa : zq Tryz.prog zgv G_strconv_Itoa) : zq Tryz.prog zkd (z6 G_strings_Builder_WriteString G_strings_Builder_WriteByte G_strconv_Itoa) := kn3 (σ := ovr [(zbr, G_strings_Builder_WriteString), (zbx, G_strings_Builder_WriteByte), (zgv, G_strconv_Itoa)] noC) (hint := z4g) (by kernel_rfl) (ze k_strings_Builder_WriteString (ze k_strings_Builder_WriteByte (ze k_strconv_Itoa zk))) fun _ _ _ => (by kernel_rfl)
def ztz (vs : List V) : M Out :=
 ret (.ret [(zd vs 0)])
def zv2 (x0 x1 x2 : V) : M V :=
 zb (
 zb (
 zn x0 (
 ret (.ret [x1])
 ) (
 ret (.nxt [x2])
 )
 ) fun o => nx o ztz
 ) fun o => zbl o fun vs => ret (zbi [(zd vs 0)])
def zbdk : Hint := (.seq [] .leaf (.seq [2] (.seq [] .leaf (.cond (.seq [] .leaf .leaf) .leaf)) (.seq [] .leaf .leaf)))
def zh1 : List V → M V := ap3 zv2
theorem zbdl : zq Tryz.prog zyq (zh1) := kn3 (σ := ovr [] noC) (hint := zbdk) (by kernel_rfl) zk fun _ _ _ => (by kernel_rfl)
def zpt (G_strings_Builder_WriteString : List V → M V) (G_strings_Builder_WriteByte : List V → M V) (G_strconv_Itoa : List V → M V) (vs_3 : List V) : M Out :=
 zb (za (zw .add (zd vs_3 4) (Value.int .i64 1))) fun x36 =>
 ret (.nxt [(zd vs_3 0), (zd vs_3 1), (zd vs_3 2), (zd vs_3 3), x36])
def zpu (G_strings_Builder_WriteString : List V → M V) (G_strings_Builder_WriteByte : List V → M V) (G_strconv_Itoa : List V → M V) (vs_2 : List V) : M Out :=
 zb (
 zb (
 zb (za (zy 2 (zd vs_2 2) (zd vs_2 4))) fun x23 =>
 zb (ldn 2 x23) fun x24 =>
 zb (newc [Value.int .i64 0, Value.bool false]) fun x5 =>
 zb (stn 2 x5 x24) fun _ =>
 zwe 1 fun base h0 =>
 zb (za (zh 1 x5)) fun x26 =>
 zb (za (zh 0 x5)) fun x29 =>
 zb (ld1 x26) fun x27 =>
 zb (ld1 x29) fun x30 =>
 zb (za (zma 4 1 (ptr gid_conf_types 0) x30)) fun x31 =>
 zb (ld1 x31) fun x32 =>
 zb (za (some (Value.iface zcn x32))) fun x33 =>
 zdg (zh1 [x27, (Value.string ⟨#[111, 117, 116]⟩), (Value.string ⟨#[105, 110]⟩)]) fun ha x28 h1 =>
 zj5 (zgg ha [base + 0] && zgg h1 [base + 0]) <|
 zb (flt (base + 0) (zdv 1 1 (rep 1 [Value.nilIface]) [(0, 1, x33)])) fun x34 =>
 zdg ((z6 G_strings_Builder_WriteString G_strings_Builder_WriteByte G_strconv_Itoa) [(zd vs_2 0), x28, x34]) fun ha_2 x35 h2 =>
 zj5 (chk (ld1 x29) h1 x30) <|
 zj5 (chk (ld1 x31) h1 x32) <|
 ret (.nxt [(zd vs_2 0), (zd vs_2 1), (zd vs_2 2), (zd vs_2 3), (zd vs_2 4)])
 ) fun o => ret (zz 1 o)
 ) fun o => nx o (zpt G_strings_Builder_WriteString G_strings_Builder_WriteByte G_strconv_Itoa)
def zhd (G_strings_Builder_WriteString : List V → M V) (G_strings_Builder_WriteByte : List V → M V) (G_strconv_Itoa : List V → M V) (vs : List V) : M Out :=
 zb (za (zw .lss (zd vs 4) (zd vs 3))) fun x22 =>
 zb (
 zn x22 (
 ret (.nxt [(zd vs 0), (zd vs 1), (zd vs 2), (zd vs 3), (zd vs 4)])
 ) (
 ret (.brk 0 [(zd vs 0), (zd vs 1)])
 )
 ) fun o => nx o (zpu G_strings_Builder_WriteString G_strings_Builder_WriteByte G_strconv_Itoa)
def zpv (G_strings_Builder_WriteString : List V → M V) (G_strings_Builder_WriteByte : List V → M V) (G_strconv_Itoa : List V → M V) (vs_7 : List V) : M Out :=
 zb (za (zw .add (zd vs_7 4) (Value.int .i64 1))) fun x56 =>
 ret (.nxt [(zd vs_7 0), (zd vs_7 1), (zd vs_7 2), (zd vs_7 3), x56])
def zpw (G_strings_Builder_WriteString : List V → M V) (G_strings_Builder_WriteByte : List V → M V) (G_strconv_Itoa : List V → M V) (vs_6 : List V) : M Out :=
 zb (
 zb (
 zb (za (zy 3 (zd vs_6 2) (zd vs_6 4))) fun x42 =>
 zb (ldn 3 x42) fun x43 =>
 zb (newc [Value.int .i64 0, Value.int .i64 0, Value.bool false]) fun x7 =>
 zb (stn 3 x7 x43) fun _ =>
 zwe 1 fun base_2 h0_2 =>
 zb (za (zh 2 x7)) fun x45 =>
 zb (za (zh 0 x7)) fun x48 =>
 zb (za (zh 1 x7)) fun x51 =>
 zb (ld1 x45) fun x46 =>
 zb (ld1 x48) fun x49 =>
 zb (za (some (Value.iface zew x49))) fun x50 =>
 zb (ld1 x51) fun x52 =>
 zb (za (some (Value.iface zew x52))) fun x53 =>
 zdg (zh1 [x46, (Value.string ⟨#[119, 114, 105, 116, 101]⟩), (Value.string ⟨#[114, 101, 97, 100]⟩)]) fun ha_3 x47 h1_2 =>
 zj5 (zgg ha_3 [base_2 + 0] && zgg h1_2 [base_2 + 0]) <|
 zb (flt (base_2 + 0) (zdv 1 2 (rep 2 [Value.nilIface]) [(0, 1, x50), (1, 1, x53)])) fun x54 =>
 zdg ((z6 G_strings_Builder_WriteString G_strings_Builder_WriteByte G_strconv_Itoa) [(zd vs_6 0), x47, x54]) fun ha_4 x55 h2_2 =>
 zj5 (chk (ld1 x48) h1_2 x49) <|
 zj5 (chk (ld1 x51) h1_2 x52) <|
 ret (.nxt [(zd vs_6 0), (zd vs_6 1), (zd vs_6 2), (zd vs_6 3), (zd vs_6 4)])
 ) fun o => ret (zz 3 o)
 ) fun o => nx o (zpv G_strings_Builder_WriteString G_strings_Builder_WriteByte G_strconv_Itoa)
def zhe (G_strings_Builder_WriteString : List V → M V) (G_strings_Builder_WriteByte : List V → M V) (G_strconv_Itoa : List V → M V) (vs_5 : List V) : M Out :=
 zb (za (zw .lss (zd vs_5 4) (zd vs_5 3))) fun x41 =>
 zb (
 zn x41 (
 ret (.nxt [(zd vs_5 0), (zd vs_5 1), (zd vs_5 2), (zd vs_5 3), (zd vs_5 4)])
 ) (
 ret (.brk 2 [(zd vs_5 0), (zd vs_5 1)])
 )
 ) fun o => nx o (zpw G_strings_Builder_WriteString G_strings_Builder_WriteByte G_strconv_Itoa)
def zjx (G_strings_Builder_WriteString : List V → M V) (G_strings_Builder_WriteByte : List V → M V) (G_strconv_Itoa : List V → M V) (vs_11 : List V) : M Out :=
 zb (za (zw .add (zd vs_11 4) (Value.int .i64 1))) fun x98 =>
 ret (.nxt [(zd vs_11 0), (zd vs_11 1), (zd vs_11 2), (zd vs_11 3), x98])
def zpx (G_strings_Builder_WriteString : List V → M V) (G_strings_Builder_WriteByte : List V → M V) (G_strconv_Itoa : List V → M V) (vs_10 : List V) : M Out :=
 zb (
 zb (
 zb (za (zy 5 (zd vs_10 2) (zd vs_10 4))) fun x62 =>
 zb (ldn 5 x62) fun x63 =>
 zb (newc [Value.int .i64 0, Value.int .i64 0, Value.int .i64 0, Value.int .i64 0, Value.int .i64 0]) fun x9 =>
 zb (stn 5 x9 x63) fun _ =>
 zb (za (zh 0 x9)) fun x64 =>
 zb (ld1 x64) fun x65 =>
 zb (za (zw .eql x65 (Value.int .i64 1))) fun x66 =>
 zn x66 (
 zb (za (zh 1 x9)) fun x68 =>
 zb (za (zh 2 x9)) fun x71 =>
 zb (za (zh 3 x9)) fun x74 =>
 zb (ld1 x68) fun x69 =>
 zb (za (some (Value.iface zew x69))) fun x70 =>
 zb (ld1 x71) fun x72 =>
 zb (za (some (Value.iface zew x72))) fun x73 =>
 zb (ld1 x74) fun x75 =>
 zb (za (zma 4 1 (ptr gid_conf_types 0) x75)) fun x76 =>
 zb (ld1 x76) fun x77 =>
 zb (za (some (Value.iface zcn x77))) fun x78 =>
 zb (zdv 1 3 (rep 3 [Value.nilIface]) [(0, 1, x70), (1, 1, x73), (2, 1, x78)]) fun x79 =>
 zb ((z6 G_strings_Builder_WriteString G_strings_Builder_WriteByte G_strconv_Itoa) [(zd vs_10 0), (Value.string ⟨#[115, 97, 109, 112, 108, 101]⟩), x79]) fun x80 =>
 ret (.nxt [(zd vs_10 0), (zd vs_10 1), (zd vs_10 2), (zd vs_10 3), (zd vs_10 4)])
 ) (
 zb (za (zh 1 x9)) fun x82 =>
 zb (za (zh 2 x9)) fun x85 =>
 zb (za (zh 3 x9)) fun x88 =>
 zb (za (zh 4 x9)) fun x93 =>
 zb (ld1 x82) fun x83 =>
 zb (za (some (Value.iface zew x83))) fun x84 =>
 zb (ld1 x85) fun x86 =>
 zb (za (some (Value.iface zew x86))) fun x87 =>
 zb (ld1 x88) fun x89 =>
 zb (za (zma 4 1 (ptr gid_conf_types 0) x89)) fun x90 =>
 zb (ld1 x90) fun x91 =>
 zb (za (some (Value.iface zcn x91))) fun x92 =>
 zb (ld1 x93) fun x94 =>
 zb (za (some (Value.iface zew x94))) fun x95 =>
 zb (zdv 1 4 (rep 4 [Value.nilIface]) [(0, 1, x84), (1, 1, x87), (2, 1, x92), (3, 1, x95)]) fun x96 =>
 zb ((z6 G_strings_Builder_WriteString G_strings_Builder_WriteByte G_strconv_Itoa) [(zd vs_10 0), (Value.string ⟨#[113, 117, 101, 117, 101]⟩), x96]) fun x97 =>
 ret (.nxt [(zd vs_10 0), (zd vs_10 1), (zd vs_10 2), (zd vs_10 3), (zd vs_10 4)])
 )
 ) fun o => ret (zz 5 o)
 ) fun o => nx o (zjx G_strings_Builder_WriteString G_strings_Builder_WriteByte G_strconv_Itoa)
def zhf (G_strings_Builder_WriteString : List V → M V) (G_strings_Builder_WriteByte : List V → M V) (G_strconv_Itoa : List V → M V) (vs_9 : List V) : M Out :=
 zb (za (zw .lss (zd vs_9 4) (zd vs_9 3))) fun x61 =>
 zb (
 zn x61 (
 ret (.nxt [(zd vs_9 0), (zd vs_9 1), (zd vs_9 2), (zd vs_9 3), (zd vs_9 4)])
 ) (
 ret (.brk 4 [(zd vs_9 0), (zd vs_9 1)])
 )
 ) fun o => nx o (zpx G_strings_Builder_WriteString G_strings_Builder_WriteByte G_strconv_Itoa)
def zjy (G_strings_Builder_WriteString : List V → M V) (G_strings_Builder_WriteByte : List V → M V) (G_strconv_Itoa : List V → M V) (vs_15 : List V) : M Out :=
 zb (za (zw .add (zd vs_15 4) (Value.int .i64 1))) fun x131 =>
 ret (.nxt [(zd vs_15 0), (zd vs_15 1), (zd vs_15 2), (zd vs_15 3), x131])
def zo3 (G_strings_Builder_WriteString : List V → M V) (G_strings_Builder_WriteByte : List V → M V) (G_strconv_Itoa : List V → M V) (vs_14 : List V) : M Out :=
 zb (
 zb (
 zb (za (zy 3 (zd vs_14 2) (zd vs_14 4))) fun x105 =>
 zb (ldn 3 x105) fun x106 =>
 zb (newc [Value.int .i64 0, Value.int .i64 0, Value.int .i64 0]) fun x11 =>
 zb (stn 3 x11 x106) fun _ =>
 zb (za (zh 0 x11)) fun x107 =>
 zb (ld1 x107) fun x108 =>
 zb (za (zw .lss x108 (Value.int .i64 0))) fun x109 =>
 zn x109 (
 zb (za (zh 1 x11)) fun x111 =>
 zb (ld1 x111) fun x112 =>
 zb (za (some (Value.iface zew x112))) fun x113 =>
 zb (za (zh 2 x11)) fun x114 =>
 zb (ld1 x114) fun x115 =>
 zb (za (some (Value.iface zew x115))) fun x116 =>
 zb (zdv 1 2 (rep 2 [Value.nilIface]) [(0, 1, x113), (1, 1, x116)]) fun x117 =>
 zb ((z6 G_strings_Builder_WriteString G_strings_Builder_WriteByte G_strconv_Itoa) [(zd vs_14 0), (Value.string ⟨#[101, 110, 103, 105, 110, 101, 101, 114, 115]⟩), x117]) fun x118 =>
 ret (.nxt [(zd vs_14 0), (zd vs_14 1), (zd vs_14 2), (zd vs_14 3), (zd vs_14 4)])
 ) (
 zb (za (zh 0 x11)) fun x120 =>
 zb (ld1 x120) fun x121 =>
 zb (za (some (Value.iface zew x121))) fun x122 =>
 zb (za (zh 1 x11)) fun x123 =>
 zb (ld1 x123) fun x124 =>
 zb (za (some (Value.iface zew x124))) fun x125 =>
 zb (za (zh 2 x11)) fun x126 =>
 zb (ld1 x126) fun x127 =>
 zb (za (some (Value.iface zew x127))) fun x128 =>
 zb (zdv 1 3 (rep 3 [Value.nilIface]) [(0, 1, x122), (1, 1, x125), (2, 1, x128)]) fun x129 =>
 zb ((z6 G_strings_Builder_WriteString G_strings_Builder_WriteByte G_strconv_Itoa) [(zd vs_14 0), (Value.string ⟨#[119, 105, 110, 100, 111, 119]⟩), x129]) fun x130 =>
 ret (.nxt [(zd vs_14 0), (zd vs_14 1), (zd vs_14 2), (zd vs_14 3), (zd vs_14 4)])
 )
 ) fun o => ret (zz 7 o)
 ) fun o => nx o (zjy G_strings_Builder_WriteString G_strings_Builder_WriteByte G_strconv_Itoa)
def zgl (G_strings_Builder_WriteString : List V → M V) (G_strings_Builder_WriteByte : List V → M V) (G_strconv_Itoa : List V → M V) (vs_13 : List V) : M Out :=
 zb (za (zw .lss (zd vs_13 4) (zd vs_13 3))) fun x104 =>
 zb (
 zn x104 (
 ret (.nxt [(zd vs_13 0), (zd vs_13 1), (zd vs_13 2), (zd vs_13 3), (zd vs_13 4)])
 ) (
 ret (.brk 6 [(zd vs_13 0), (zd vs_13 1)])
 )
 ) fun o => nx o (zo3 G_strings_Builder_WriteString G_strings_Builder_WriteByte G_strconv_Itoa)
def zo4 (G_strings_Builder_WriteString : List V → M V) (G_strings_Builder_WriteByte : List V → M V) (G_strconv_Itoa : List V → M V) (vs_21 : List V) : M Out :=
 zb (za (zw .add (zd vs_21 7) (Value.int .i64 1))) fun x159 =>
 ret (.nxt [(zd vs_21 0), (zd vs_21 1), (zd vs_21 2), (zd vs_21 3), (zd vs_21 4), (zd vs_21 5), (zd vs_21 6), x159])
def zo5 (G_strings_Builder_WriteString : List V → M V) (G_strings_Builder_WriteByte : List V → M V) (G_strconv_Itoa : List V → M V) (vs_20 : List V) : M Out :=
 zb (
 zb (
 zb (za (zy 2 (zd vs_20 5) (zd vs_20 7))) fun x146 =>
 zb (ldn 2 x146) fun x147 =>
 zb (newc [Value.int .i64 0, Value.int .i64 0]) fun x15 =>
 zb (stn 2 x15 x147) fun _ =>
 zmo fun h0_3 =>
 zb (za (zh 0 x15)) fun x149 =>
 zb (za (zh 1 x15)) fun x154 =>
 zb (ld1 x149) fun x150 =>
 zb (za (zw .eql x150 (Value.int .i64 1))) fun x151 =>
 zb (ld1 x154) fun x155 =>
 zb (za (some (Value.iface zew x155))) fun x156 =>
 zdg (zh1 [x151, (Value.string ⟨#[112, 111, 105, 110, 116]⟩), (Value.string ⟨#[112, 111, 114, 116]⟩)]) fun ha_5 x152 h1_3 =>
 zb (za (some (Value.iface zcn x152))) fun x153 =>
 zdg (zdv 1 2 (rep 2 [Value.nilIface]) [(0, 1, x153), (1, 1, x156)]) fun ha_6 x157 h2_3 =>
 zdg ((z6 G_strings_Builder_WriteString G_strings_Builder_WriteByte G_strconv_Itoa) [(zd vs_20 0), (Value.string ⟨#[103, 101, 116]⟩), x157]) fun ha_7 x158 h3 =>
 zj5 (chk (ld1 x154) h1_3 x155) <|
 ret (.nxt [(zd vs_20 0), (zd vs_20 1), (zd vs_20 2), (zd vs_20 3), (zd vs_20 4), (zd vs_20 5), (zd vs_20 6), (zd vs_20 7)])
 ) fun o => ret (zz 11 o)
 ) fun o => nx o (zo4 G_strings_Builder_WriteString G_strings_Builder_WriteByte G_strconv_Itoa)
def zgm (G_strings_Builder_WriteString : List V → M V) (G_strings_Builder_WriteByte : List V → M V) (G_strconv_Itoa : List V → M V) (vs_19 : List V) : M Out :=
 zb (za (zw .lss (zd vs_19 7) (zd vs_19 6))) fun x145 =>
 zb (
 zn x145 (
 ret (.nxt [(zd vs_19 0), (zd vs_19 1), (zd vs_19 2), (zd vs_19 3), (zd vs_19 4), (zd vs_19 5), (zd vs_19 6), (zd vs_19 7)])
 ) (
 ret (.brk 10 [(zd vs_19 0), (zd vs_19 1), (zd vs_19 2), (zd vs_19 3), (zd vs_19 4)])
 )
 ) fun o => nx o (zo5 G_strings_Builder_WriteString G_strings_Builder_WriteByte G_strconv_Itoa)
def zo6 (G_strings_Builder_WriteString : List V → M V) (G_strings_Builder_WriteByte : List V → M V) (G_strconv_Itoa : List V → M V) (vs_25 : List V) : M Out :=
 zb (za (zw .add (zd vs_25 6) (Value.int .i64 1))) fun x178 =>
 ret (.nxt [(zd vs_25 0), (zd vs_25 1), (zd vs_25 2), (zd vs_25 3), (zd vs_25 4), (zd vs_25 5), x178])
def zo7 (G_strings_Builder_WriteString : List V → M V) (G_strings_Builder_WriteByte : List V → M V) (G_strconv_Itoa : List V → M V) (vs_24 : List V) : M Out :=
 zb (
 zb (
 zb (za (zy 2 (zd vs_24 4) (zd vs_24 6))) fun x165 =>
 zb (ldn 2 x165) fun x166 =>
 zb (newc [Value.int .i64 0, Value.int .i64 0]) fun x17 =>
 zb (stn 2 x17 x166) fun _ =>
 zmo fun h0_4 =>
 zb (za (zh 0 x17)) fun x168 =>
 zb (za (zh 1 x17)) fun x173 =>
 zb (ld1 x168) fun x169 =>
 zb (za (zw .eql x169 (Value.int .i64 1))) fun x170 =>
 zb (ld1 x173) fun x174 =>
 zb (za (some (Value.iface zew x174))) fun x175 =>
 zdg (zh1 [x170, (Value.string ⟨#[112, 111, 105, 110, 116]⟩), (Value.string ⟨#[112, 111, 114, 116]⟩)]) fun ha_8 x171 h1_4 =>
 zb (za (some (Value.iface zcn x171))) fun x172 =>
 zdg (zdv 1 2 (rep 2 [Value.nilIface]) [(0, 1, x172), (1, 1, x175)]) fun ha_9 x176 h2_4 =>
 zdg ((z6 G_strings_Builder_WriteString G_strings_Builder_WriteByte G_strconv_Itoa) [(zd vs_24 0), (Value.string ⟨#[112, 117, 116]⟩), x176]) fun ha_10 x177 h3_2 =>
 zj5 (chk (ld1 x173) h1_4 x174) <|
 ret (.nxt [(zd vs_24 0), (zd vs_24 1), (zd vs_24 2), (zd vs_24 3), (zd vs_24 4), (zd vs_24 5), (zd vs_24 6)])
 ) fun o => ret (zz 13 o)
 ) fun o => nx o (zo6 G_strings_Builder_WriteString G_strings_Builder_WriteByte G_strconv_Itoa)
def zgn (G_strings_Builder_WriteString : List V → M V) (G_strings_Builder_WriteByte : List V → M V) (G_strconv_Itoa : List V → M V) (vs_23 : List V) : M Out :=
 zb (za (zw .lss (zd vs_23 6) (zd vs_23 5))) fun x164 =>
 zb (
 zn x164 (
 ret (.nxt [(zd vs_23 0), (zd vs_23 1), (zd vs_23 2), (zd vs_23 3), (zd vs_23 4), (zd vs_23 5), (zd vs_23 6)])
 ) (
 ret (.brk 12 [(zd vs_23 0), (zd vs_23 1), (zd vs_23 2), (zd vs_23 3)])
 )
 ) fun o => nx o (zo7 G_strings_Builder_WriteString G_strings_Builder_WriteByte G_strconv_Itoa)
def zo8 (G_strings_Builder_WriteString : List V → M V) (G_strings_Builder_WriteByte : List V → M V) (G_strconv_Itoa : List V → M V) (vs_22 : List V) : M Out :=
 zb (za (zh 1 (zd vs_22 1))) fun x160 =>
 zb (ld1 x160) fun x161 =>
 zb (za (zx x161)) fun x162 =>
 zb (
 zbj zb8 (zgn G_strings_Builder_WriteString G_strings_Builder_WriteByte G_strconv_Itoa) [(zd vs_22 0), (zd vs_22 2), (zd vs_22 3), (zd vs_22 4), x161, x162, (Value.int .i64 0)]
 ) fun o => ret (zz 12 o)
def zo9 (G_strings_Builder_WriteString : List V → M V) (G_strings_Builder_WriteByte : List V → M V) (G_strconv_Itoa : List V → M V) (vs_26 : List V) : M Out :=
 zb (za (zw .add (zd vs_26 3) (Value.int .i64 1))) fun x179 =>
 ret (.nxt [(zd vs_26 0), (zd vs_26 1), (zd vs_26 2), x179])
def zpa (G_strings_Builder_WriteString : List V → M V) (G_strings_Builder_WriteByte : List V → M V) (G_strconv_Itoa : List V → M V) (vs_18 : List V) : M Out :=
 zb (
 zb (
 zb (za (zy 2 (zd vs_18 1) (zd vs_18 3))) fun x137 =>
 zb (ldn 2 x137) fun x138 =>
 zb (newc [Value.slice none 0 0, Value.slice none 0 0]) fun x13 =>
 zb (stn 2 x13 x138) fun _ =>
 zb ((z6 G_strings_Builder_WriteString G_strings_Builder_WriteByte G_strconv_Itoa) [(zd vs_18 0), (Value.string ⟨#[117, 110, 105, 116]⟩), (Value.slice none 0 0)]) fun x140 =>
 zb (
 zb (za (zh 0 x13)) fun x141 =>
 zb (ld1 x141) fun x142 =>
 zb (za (zx x142)) fun x143 =>
 zb (
 zbj zb8 (zgm G_strings_Builder_WriteString G_strings_Builder_WriteByte G_strconv_Itoa) [(zd vs_18 0), x13, (zd vs_18 1), (zd vs_18 2), (zd vs_18 3), x142, x143, (Value.int .i64 0)]
 ) fun o => ret (zz 10 o)
 ) fun o => nx o (zo8 G_strings_Builder_WriteString G_strings_Builder_WriteByte G_strconv_Itoa)
 ) fun o => ret (zz 9 o)
 ) fun o => nx o (zo9 G_strings_Builder_WriteString G_strings_Builder_WriteByte G_strconv_Itoa)
def zgo (G_strings_Builder_WriteString : List V → M V) (G_strings_Builder_WriteByte : List V → M V) (G_strconv_Itoa : List V → M V) (vs_17 : List V) : M Out :=
 zb (za (zw .lss (zd vs_17 3) (zd vs_17 2))) fun x136 =>
 zb (
 zn x136 (
 ret (.nxt [(zd vs_17 0), (zd vs_17 1), (zd vs_17 2), (zd vs_17 3)])
 ) (
 ret (.brk 8 [])
 )
 ) fun o => nx o (zpa G_strings_Builder_WriteString G_strings_Builder_WriteByte G_strconv_Itoa)
def zpb (G_strings_Builder_WriteString : List V → M V) (G_strings_Builder_WriteByte : List V → M V) (G_strconv_Itoa : List V → M V) (vs_16 : List V) : M Out :=
 zb (za (zh 5 (zd vs_16 1))) fun x132 =>
 zb (ld1 x132) fun x133 =>
 zb (za (zx x133)) fun x134 =>
 zb (
 zbj zb8 (zgo G_strings_Builder_WriteString G_strings_Builder_WriteByte G_strconv_Itoa) [(zd vs_16 0), x133, x134, (Value.int .i64 0)]
 ) fun o => ret (zz 8 o)
def zpc (G_strings_Builder_WriteString : List V → M V) (G_strings_Builder_WriteByte : List V → M V) (G_strconv_Itoa : List V → M V) (vs_12 : List V) : M Out :=
 zb (
 zb (za (zh 3 (zd vs_12 1))) fun x99 =>
 zb (za (zh 1 x99)) fun x100 =>
 zb (ld1 x100) fun x101 =>
 zb (za (zx x101)) fun x102 =>
 zb (
 zbj zb8 (zgl G_strings_Builder_WriteString G_strings_Builder_WriteByte G_strconv_Itoa) [(zd vs_12 0), (zd vs_12 1), x101, x102, (Value.int .i64 0)]
 ) fun o => ret (zz 6 o)
 ) fun o => nx o (zpb G_strings_Builder_WriteString G_strings_Builder_WriteByte G_strconv_Itoa)
def zpd (G_strings_Builder_WriteString : List V → M V) (G_strings_Builder_WriteByte : List V → M V) (G_strconv_Itoa : List V → M V) (vs_8 : List V) : M Out :=
 zb (
 zb (za (zh 2 (zd vs_8 1))) fun x57 =>
 zb (ld1 x57) fun x58 =>
 zb (za (zx x58)) fun x59 =>
 zb (
 zbj zb8 (zhf G_strings_Builder_WriteString G_strings_Builder_WriteByte G_strconv_Itoa) [(zd vs_8 0), (zd vs_8 1), x58, x59, (Value.int .i64 0)]
 ) fun o => ret (zz 4 o)
 ) fun o => nx o (zpc G_strings_Builder_WriteString G_strings_Builder_WriteByte G_strconv_Itoa)
def zpe (G_strings_Builder_WriteString : List V → M V) (G_strings_Builder_WriteByte : List V → M V) (G_strconv_Itoa : List V → M V) (vs_4 : List V) : M Out :=
 zb (
 zb (za (zh 1 (zd vs_4 1))) fun x37 =>
 zb (ld1 x37) fun x38 =>
 zb (za (zx x38)) fun x39 =>
 zb (
 zbj zb8 (zhe G_strings_Builder_WriteString G_strings_Builder_WriteByte G_strconv_Itoa) [(zd vs_4 0), (zd vs_4 1), x38, x39, (Value.int .i64 0)]
 ) fun o => ret (zz 2 o)
 ) fun o => nx o (zpd G_strings_Builder_WriteString G_strings_Builder_WriteByte G_strconv_Itoa)
def zla (G_strings_Builder_WriteString : List V → M V) (G_strings_Builder_WriteByte : List V → M V) (G_strconv_Itoa : List V → M V) (x0 x1 : V) : M V :=
 zb (
 zb (zfj x1) fun x3 =>
 zb (
 zb (za (zh 0 x3)) fun x18 =>
 zb (ld1 x18) fun x19 =>
 zb (za (zx x19)) fun x20 =>
 zb (
 zbj zb8 (zhd G_strings_Builder_WriteString G_strings_Builder_WriteByte G_strconv_Itoa) [x0, x3, x19, x20, (Value.int .i64 0)]
 ) fun o => ret (zz 0 o)
 ) fun o => nx o (zpe G_strings_Builder_WriteString G_strings_Builder_WriteByte G_strconv_Itoa)
 ) fun o => zbl o fun vs => ret (zbi [])
def z0v : Hint := (.seq [] .leaf (.seq [0, 3] (.seq [] .leaf (.blk (.loop [0, 3, 19, 20, 21] (.seq [] .leaf (.seq [0, 3, 19, 20, 21] (.cond .leaf .leaf) (.seq [0, 3, 19, 20, 21] (.blk (.seq [] .leaf (.reg [0, 1, 4, 2, 5, 6, 7, 8, 3, 9, 10] [9]))) .leaf)))))) (.seq [0, 3] (.seq [] .leaf (.blk (.loop [0, 3, 38, 39, 40] (.seq [] .leaf (.seq [0, 3, 38, 39, 40] (.cond .leaf .leaf) (.seq [0, 3, 38, 39, 40] (.blk (.seq [] .leaf (.reg [0, 1, 4, 7, 2, 5, 6, 8, 9, 3, 10, 11] [10]))) .leaf)))))) (.seq [0, 3] (.seq [] .leaf (.blk (.loop [0, 3, 58, 59, 60] (.seq [] .leaf (.seq [0, 3, 58, 59, 60] (.cond .leaf .leaf) (.seq [0, 3, 58, 59, 60] (.blk (.seq [] .leaf (.seq [] .leaf (.cond (.reg [0, 1, 4, 7, 2, 3, 5, 6, 8, 9, 10, 11, 12, 13] []) (.reg [0, 1, 4, 7, 12, 2, 3, 5, 6, 8, 9, 10, 11, 13, 14, 15, 16] []))))) .leaf)))))) (.seq [0, 3] (.seq [] .leaf (.blk (.loop [0, 3, 101, 102, 103] (.seq [] .leaf (.seq [0, 3, 101, 102, 103] (.cond .leaf .leaf) (.seq [0, 3, 101, 102, 103] (.blk (.seq [] .leaf (.seq [] .leaf (.cond .leaf .leaf)))) .leaf)))))) (.seq [] .leaf (.blk (.loop [0, 133, 134, 135] (.seq [] .leaf (.seq [0, 133, 134, 135] (.cond .leaf .leaf) (.seq [0, 133, 134, 135] (.blk (.seq [] .leaf (.seq [] .leaf (.seq [0, 13, 133, 134, 135] (.seq [] .leaf (.blk (.loop [0, 13, 133, 134, 135, 142, 143, 144] (.seq [] .leaf (.seq [0, 13, 133, 134, 135, 142, 143, 144] (.cond .leaf .leaf) (.seq [0, 13, 133, 134, 135, 142, 143, 144] (.blk (.seq [] .leaf (.reg [0, 1, 6, 2, 3, 7, 8, 4, 5, 9, 10] []))) .leaf)))))) (.seq [] .leaf (.blk (.loop [0, 133, 134, 135, 161, 162, 163] (.seq [] .leaf (.seq [0, 133, 134, 135, 161, 162, 163] (.cond .leaf .leaf) (.seq [0, 133, 134, 135, 161, 162, 163] (.blk (.seq [] .leaf (.reg [0, 1, 6, 2, 3, 7, 8, 4, 5, 9, 10] []))) .leaf)))))))))) .leaf)))))))))))
def zhs (G_strings_Builder_WriteString : List V → M V) (G_strings_Builder_WriteByte : List V → M V) (G_strconv_Itoa : List V → M V) : List V → M V := ap2 (zla G_strings_Builder_WriteString G_strings_Builder_WriteByte G_strconv_Itoa)
theorem z0w {G_strings_Builder_WriteString : List V → M V} {G_strings_Builder_WriteByte : List V → M V} {G_strconv_Itoa : List V → M V} (k_strings_Builder_WriteString : zq Tryz.prog zbr G_strings_Builder_WriteString) (k_strings_Builder_WriteByte : zq Tryz.prog zbx G_strings_Builder_WriteByte) (k_strconv_Itoa : zq Tryz.prog zgv G_strconv_Itoa) : zq Tryz.prog zof (zhs G_strings_Builder_WriteString G_strings_Builder_WriteByte G_strconv_Itoa) := kn2 (σ := ovr [(zyq, zh1), (zkd, z6 G_strings_Builder_WriteString G_strings_Builder_WriteByte G_strconv_Itoa)] noC) (hint := z0v) (by kernel_rfl) (ze zbdl (ze (zty k_strings_Builder_WriteString k_strings_Builder_WriteByte k_strconv_Itoa) zk)) fun _ _ => (by kernel_rfl)
def zbbt (vs_3 : List V) : M Out :=
 zb (za (zw .add (zd vs_3 3) (Value.int .i64 1))) fun x23 =>
 ret (.nxt [(zd vs_3 0), (zd vs_3 1), (zd vs_3 2), x23])
def zbbu (vs_2 : List V) : M Out :=
 zb (
 zb (
 zb (za (zl9 (zd vs_2 0) (zd vs_2 3))) fun x13 =>
 zb (za (zw .shr x13 (Value.int .u64 4))) fun x14 =>
 zb (za (zl9 (Value.string ⟨#[48, 49, 50, 51, 52, 53, 54, 55, 56, 57, 97, 98, 99, 100, 101, 102]⟩) x14)) fun x15 =>
 zb (za (zl9 (zd vs_2 0) (zd vs_2 3))) fun x18 =>
 zb (za (zw .and x18 (Value.int .u8 15))) fun x19 =>
 zb (za (zl9 (Value.string ⟨#[48, 49, 50, 51, 52, 53, 54, 55, 56, 57, 97, 98, 99, 100, 101, 102]⟩) x19)) fun x20 =>
 zb (zdv 1 2 (rep 2 [Value.int .u8 0]) [(0, 1, x15), (1, 1, x20)]) fun x21 =>
 zb (zgf 1 1 (zd vs_2 1) x21) fun x22 =>
 ret (.nxt [(zd vs_2 0), x22, (zd vs_2 2), (zd vs_2 3)])
 ) fun o => ret (zz 1 o)
 ) fun o => nx o zbbt
def z4h (vs : List V) : M Out :=
 zb (za (zw .lss (zd vs 3) (zd vs 2))) fun x8 =>
 zb (
 zn x8 (
 ret (.nxt [(zd vs 0), (zd vs 1), (zd vs 2), (zd vs 3)])
 ) (
 ret (.brk 0 [(zd vs 1)])
 )
 ) fun o => nx o zbbu
def zbbv (vs_4 : List V) : M Out :=
 zb (b2s (zd vs_4 0)) fun x25 =>
 ret (.ret [x25])
def z70 (x0 : V) : M V :=
 zb (
 zb (
 zb (za (zet x0)) fun x6 =>
 zb (
 zbj zb8 z4h [x0, (Value.slice none 0 0), x6, (Value.int .i64 0)]
 ) fun o => ret (zz 0 o)
 ) fun o => nx o zbbv
 ) fun o => zbl o fun vs => ret (zbi [(zd vs 0)])
def zbnl : Hint := (.seq [] .leaf (.seq [] .leaf (.seq [3] (.seq [] .leaf (.blk (.loop [0, 3, 6, 7] (.seq [] .leaf (.seq [0, 3, 6, 7] (.cond .leaf .leaf) (.seq [0, 3, 6, 7] (.blk (.seq [] .leaf (.reg [0, 1, 2, 3, 4, 5, 6, 7, 8, 9, 10, 11, 12, 13] []))) .leaf)))))) (.seq [] .leaf .leaf))))
def z1q : List V → M V := ap1 z70
theorem zbnm : zq Tryz.prog z8l (z1q) := kn1 (σ := ovr [] noC) (hint := zbnl) (by kernel_rfl) zk fun _ => (by kernel_rfl)
noncomputable def z54 (G_strings_IndexRune : List V → M V) (G_strings_Builder_WriteString : List V → M V) (G_strings_Builder_WriteByte : List V → M V) (G_strconv_Itoa : List V → M V) (G_strings_Builder_Len : List V → M V) (G_strings_Builder_String : List V → M V) (vs_6 : List V) : M Out :=
 zb (za (zw .add (zd vs_6 6) (Value.int .i64 1))) fun x86 =>
 ret (.nxt [(zd vs_6 0), (zd vs_6 1), (zd vs_6 2), (zd vs_6 3), (zd vs_6 4), (zd vs_6 5), x86])
noncomputable def z55 (G_strings_IndexRune : List V → M V) (G_strings_Builder_WriteString : List V → M V) (G_strings_Builder_WriteByte : List V → M V) (G_strconv_Itoa : List V → M V) (G_strings_Builder_Len : List V → M V) (G_strings_Builder_String : List V → M V) (vs_5 : List V) : M Out :=
 zb (
 zb (
 zb (za (zy 2 (zd vs_5 4) (zd vs_5 6))) fun x73 =>
 zb (ldn 2 x73) fun x74 =>
 zb (newc [Value.int .i64 0, Value.int .i64 0]) fun x10 =>
 zb (stn 2 x10 x74) fun _ =>
 zb (za (zh 0 x10)) fun x76 =>
 zb (za (zh 1 x10)) fun x79 =>
 zb (ld1 x76) fun x77 =>
 zb (za (some (Value.iface zew x77))) fun x78 =>
 zb (ld1 x79) fun x80 =>
 zb (za (zma 5 1 (ptr gid_conf_levels 0) x80)) fun x81 =>
 zb (ld1 x81) fun x82 =>
 zb (za (some (Value.iface zcn x82))) fun x83 =>
 zb (zdv 1 2 (rep 2 [Value.nilIface]) [(0, 1, x78), (1, 1, x83)]) fun x84 =>
 zb ((z6 G_strings_Builder_WriteString G_strings_Builder_WriteByte G_strconv_Itoa) [(zd vs_5 0), (Value.string ⟨#[114, 111, 108, 101]⟩), x84]) fun x85 =>
 ret (.nxt [(zd vs_5 0), (zd vs_5 1), (zd vs_5 2), (zd vs_5 3), (zd vs_5 4), (zd vs_5 5), (zd vs_5 6)])
 ) fun o => ret (zz 3 o)
 ) fun o => nx o (z54 G_strings_IndexRune G_strings_Builder_WriteString G_strings_Builder_WriteByte G_strconv_Itoa G_strings_Builder_Len G_strings_Builder_String)
noncomputable def zsj (G_strings_IndexRune : List V → M V) (G_strings_Builder_WriteString : List V → M V) (G_strings_Builder_WriteByte : List V → M V) (G_strconv_Itoa : List V → M V) (G_strings_Builder_Len : List V → M V) (G_strings_Builder_String : List V → M V) (vs_4 : List V) : M Out :=
 zb (za (zw .lss (zd vs_4 6) (zd vs_4 5))) fun x72 =>
 zb (
 zn x72 (
 ret (.nxt [(zd vs_4 0), (zd vs_4 1), (zd vs_4 2), (zd vs_4 3), (zd vs_4 4), (zd vs_4 5), (zd vs_4 6)])
 ) (
 ret (.brk 2 [(zd vs_4 0), (zd vs_4 1), (zd vs_4 2), (zd vs_4 3)])
 )
 ) fun o => nx o (z55 G_strings_IndexRune G_strings_Builder_WriteString G_strings_Builder_WriteByte G_strconv_Itoa G_strings_Builder_Len G_strings_Builder_String)
noncomputable def z56 (G_strings_IndexRune : List V → M V) (G_strings_Builder_WriteString : List V → M V) (G_strings_Builder_WriteByte : List V → M V) (G_strconv_Itoa : List V → M V) (G_strings_Builder_Len : List V → M V) (G_strings_Builder_String : List V → M V) (vs_7 : List V) : M Out :=
 zb (za (zw .add (zd vs_7 3) (Value.int .i64 1))) fun x87 =>
 ret (.nxt [(zd vs_7 0), (zd vs_7 1), (zd vs_7 2), x87])
noncomputable def z57 (G_strings_IndexRune : List V → M V) (G_strings_Builder_WriteString : List V → M V) (G_strings_Builder_WriteByte : List V → M V) (G_strconv_Itoa : List V → M V) (G_strings_Builder_Len : List V → M V) (G_strings_Builder_String : List V → M V) (vs_3 : List V) : M Out :=
 zb (
 zb (
 zb (za (zy 3 (zd vs_3 1) (zd vs_3 3))) fun x56 =>
 zb (ldn 3 x56) fun x57 =>
 zb (newc [Value.string ⟨#[]⟩, Value.string ⟨#[]⟩, Value.slice none 0 0]) fun x8 =>
 zb (stn 3 x8 x57) fun _ =>
 zmo fun h0 =>
 zb (za (zh 0 x8)) fun x59 =>
 zb (za (zh 1 x8)) fun x62 =>
 zb (ld1 x59) fun x60 =>
 zb (za (some (Value.iface zcn x60))) fun x61 =>
 zb (ld1 x62) fun x63 =>
 zdg (z1q [x63]) fun ha x64 h1 =>
 zb (za (some (Value.iface zcn x64))) fun x65 =>
 zdg (zdv 1 2 (rep 2 [Value.nilIface]) [(0, 1, x61), (1, 1, x65)]) fun ha_2 x66 h2 =>
 zdg ((z6 G_strings_Builder_WriteString G_strings_Builder_WriteByte G_strconv_Itoa) [(zd vs_3 0), (Value.string ⟨#[117, 115, 101, 114]⟩), x66]) fun ha_3 x67 h3 =>
 zj5 (chk (ld1 x59) h1 x60) <|
 zb (za (zh 2 x8)) fun x68 =>
 zb (ld1 x68) fun x69 =>
 zb (za (zx x69)) fun x70 =>
 zb (
 zbj zb8 (zsj G_strings_IndexRune G_strings_Builder_WriteString G_strings_Builder_WriteByte G_strconv_Itoa G_strings_Builder_Len G_strings_Builder_String) [(zd vs_3 0), (zd vs_3 1), (zd vs_3 2), (zd vs_3 3), x69, x70, (Value.int .i64 0)]
 ) fun o => ret (zz 2 o)
 ) fun o => ret (zz 1 o)
 ) fun o => nx o (z56 G_strings_IndexRune G_strings_Builder_WriteString G_strings_Builder_WriteByte G_strconv_Itoa G_strings_Builder_Len G_strings_Builder_String)
noncomputable def zsk (G_strings_IndexRune : List V → M V) (G_strings_Builder_WriteString : List V → M V) (G_strings_Builder_WriteByte : List V → M V) (G_strconv_Itoa : List V → M V) (G_strings_Builder_Len : List V → M V) (G_strings_Builder_String : List V → M V) (vs_2 : List V) : M Out :=
 zb (za (zw .lss (zd vs_2 3) (zd vs_2 2))) fun x55 =>
 zb (
 zn x55 (
 ret (.nxt [(zd vs_2 0), (zd vs_2 1), (zd vs_2 2), (zd vs_2 3)])
 ) (
 ret (.brk 0 [(zd vs_2 0)])
 )
 ) fun o => nx o (z57 G_strings_IndexRune G_strings_Builder_WriteString G_strings_Builder_WriteByte G_strconv_Itoa G_strings_Builder_Len G_strings_Builder_String)
noncomputable def z58 (G_strings_IndexRune : List V → M V) (G_strings_Builder_WriteString : List V → M V) (G_strings_Builder_WriteByte : List V → M V) (G_strconv_Itoa : List V → M V) (G_strings_Builder_Len : List V → M V) (G_strings_Builder_String : List V → M V) (vs_9 : List V) : M Out :=
 zb (za (zcc (zd vs_9 0))) fun x94 =>
 zb (za (zh 0 x94)) fun x95 =>
 zb (G_strings_Builder_String [x95]) fun x96 =>
 ret (.ret [x96, (Value.int .i64 0)])
noncomputable def z59 (G_strings_IndexRune : List V → M V) (G_strings_Builder_WriteString : List V → M V) (G_strings_Builder_WriteByte : List V → M V) (G_strconv_Itoa : List V → M V) (G_strings_Builder_Len : List V → M V) (G_strings_Builder_String : List V → M V) (vs_8 : List V) : M Out :=
 zb (
 zb (za (zcc (zd vs_8 0))) fun x89 =>
 zb (za (zh 0 x89)) fun x90 =>
 zb (G_strings_Builder_Len [x90]) fun x91 =>
 zb (za (zw .gtr x91 (Value.int .i64 65536))) fun x92 =>
 zn x92 (
 ret (.ret [(Value.string ⟨#[]⟩), (Value.int .i64 2)])
 ) (
 ret (.nxt [(zd vs_8 0)])
 )
 ) fun o => nx o (z58 G_strings_IndexRune G_strings_Builder_WriteString G_strings_Builder_WriteByte G_strconv_Itoa G_strings_Builder_Len G_strings_Builder_String)
noncomputable def z6a (G_strings_IndexRune : List V → M V) (G_strings_Builder_WriteString : List V → M V) (G_strings_Builder_WriteByte : List V → M V) (G_strconv_Itoa : List V → M V) (G_strings_Builder_Len : List V → M V) (G_strings_Builder_String : List V → M V) (vs : List V) : M Out :=
 zb (za (build [Value.pointer none, Value.slice none 0 0] [])) fun x24 =>
 zb (bldM zyv x24) fun x25 =>
 zb (za (zh 0 (zd vs 0))) fun x27 =>
 zb (za (zh 6 x27)) fun x28 =>
 zb (ld1 x28) fun x29 =>
 zb (za (some (Value.iface zew x29))) fun x30 =>
 zb (zdv 1 1 (rep 1 [Value.nilIface]) [(0, 1, x30)]) fun x31 =>
 zb ((z6 G_strings_Builder_WriteString G_strings_Builder_WriteByte G_strconv_Itoa) [x25, (Value.string ⟨#[109, 105, 108, 108, 105, 115]⟩), x31]) fun x32 =>
 zb (za (zh 0 (zd vs 0))) fun x34 =>
 zb (za (zh 3 x34)) fun x35 =>
 zb (za (zh 0 x35)) fun x36 =>
 zb (ld1 x36) fun x37 =>
 zb (za (some (Value.iface zew x37))) fun x38 =>
 zb (zdv 1 1 (rep 1 [Value.nilIface]) [(0, 1, x38)]) fun x39 =>
 zb ((z6 G_strings_Builder_WriteString G_strings_Builder_WriteByte G_strconv_Itoa) [x25, (Value.string ⟨#[102, 114, 97, 109, 101]⟩), x39]) fun x40 =>
 zb (za (zh 8 (zd vs 0))) fun x42 =>
 zb (ld1 x42) fun x43 =>
 zb (za (some (Value.iface zew x43))) fun x44 =>
 zb (zdv 1 1 (rep 1 [Value.nilIface]) [(0, 1, x44)]) fun x45 =>
 zb ((z6 G_strings_Builder_WriteString G_strings_Builder_WriteByte G_strconv_Itoa) [x25, (Value.string ⟨#[105, 100, 108, 101]⟩), x45]) fun x46 =>
 zb (za (zh 0 (zd vs 0))) fun x48 =>
 zb (ldn 7 x48) fun x49 =>
 zb ((zhs G_strings_Builder_WriteString G_strings_Builder_WriteByte G_strconv_Itoa) [x25, x49]) fun x50 =>
 zb (
 zb (za (zh 7 (zd vs 0))) fun x51 =>
 zb (ld1 x51) fun x52 =>
 zb (za (zx x52)) fun x53 =>
 zb (
 zbj zb8 (zsk G_strings_IndexRune G_strings_Builder_WriteString G_strings_Builder_WriteByte G_strconv_Itoa G_strings_Builder_Len G_strings_Builder_String) [x25, x52, x53, (Value.int .i64 0)]
 ) fun o => ret (zz 0 o)
 ) fun o => nx o (z59 G_strings_IndexRune G_strings_Builder_WriteString G_strings_Builder_WriteByte G_strconv_Itoa G_strings_Builder_Len G_strings_Builder_String)
noncomputable def z0x (G_strings_IndexRune : List V → M V) (G_strings_Builder_WriteString : List V → M V) (G_strings_Builder_WriteByte : List V → M V) (G_strconv_Itoa : List V → M V) (G_strings_Builder_Len : List V → M V) (G_strings_Builder_String : List V → M V) (x0 : V) : M V :=
 zb (
 zb (zfj x0) fun x1 =>
 zb (
 zb (za (zh 0 x1)) fun x12 =>
 zb (ldn 7 x12) fun x13 =>
 zb (za (zh 7 x1)) fun x14 =>
 zb (ld1 x14) fun x15 =>
 zb (za (zh 8 x1)) fun x16 =>
 zb (ld1 x16) fun x17 =>
 zb ((zsr G_strings_IndexRune) [x13, x15, x17]) fun x18 =>
 zb (za (ext 0 x18)) fun x19 =>
 zb (za (ext 1 x18)) fun x20 =>
 zb (za (zw .neq x20 (Value.int .i64 0))) fun x22 =>
 zn x22 (
 ret (.ret [(Value.string ⟨#[]⟩), x20])
 ) (
 ret (.nxt [x1])
 )
 ) fun o => nx o (z6a G_strings_IndexRune G_strings_Builder_WriteString G_strings_Builder_WriteByte G_strconv_Itoa G_strings_Builder_Len G_strings_Builder_String)
 ) fun o => zbl o fun vs => ret (zbi [(zd vs 0), (zd vs 1)])
def zbh6 : Hint := (.seq [] .leaf (.seq [1] (.seq [] .leaf (.seq [] .leaf (.cond (.seq [] .leaf .leaf) .leaf))) (.seq [] .leaf (.seq [] .leaf (.seq [] .leaf (.seq [] .leaf (.seq [] .leaf (.seq [6] (.seq [] .leaf (.blk (.loop [6, 52, 53, 54] (.seq [] .leaf (.seq [6, 52, 53, 54] (.cond .leaf .leaf) (.seq [6, 52, 53, 54] (.blk (.seq [] .leaf (.seq [] (.reg [0, 1, 4, 2, 3, 5, 6, 7, 8, 9] []) (.seq [] .leaf (.blk (.loop [6, 52, 53, 54, 69, 70, 71] (.seq [] .leaf (.seq [6, 52, 53, 54, 69, 70, 71] (.cond .leaf .leaf) (.seq [6, 52, 53, 54, 69, 70, 71] (.blk (.seq [] .leaf (.reg [0, 1, 4, 2, 3, 5, 6, 7, 8, 9, 10] []))) .leaf))))))))) .leaf)))))) (.seq [6] (.seq [] .leaf (.cond (.seq [] .leaf .leaf) .leaf)) (.seq [] .leaf .leaf))))))))))
noncomputable def zq4 (G_strings_IndexRune : List V → M V) (G_strings_Builder_WriteString : List V → M V) (G_strings_Builder_WriteByte : List V → M V) (G_strconv_Itoa : List V → M V) (G_strings_Builder_Len : List V → M V) (G_strings_Builder_String : List V → M V) : List V → M V := ap1 (z0x G_strings_IndexRune G_strings_Builder_WriteString G_strings_Builder_WriteByte G_strconv_Itoa G_strings_Builder_Len G_strings_Builder_String)
theorem zbh7 {G_strings_IndexRune : List V → M V} {G_strings_Builder_WriteString : List V → M V} {G_strings_Builder_WriteByte : List V → M V} {G_strconv_Itoa : List V → M V} {G_strings_Builder_Len : List V → M V} {G_strings_Builder_String : List V → M V} (k_strings_IndexRune : zq Tryz.prog zr G_strings_IndexRune) (k_strings_Builder_WriteString : zq Tryz.prog zbr G_strings_Builder_WriteString) (k_strings_Builder_WriteByte : zq Tryz.prog zbx G_strings_Builder_WriteByte) (k_strconv_Itoa : zq Tryz.prog zgv G_strconv_Itoa) (k_strings_Builder_Len : zq Tryz.prog zfx G_strings_Builder_Len) (k_strings_Builder_String : zq Tryz.prog zec G_strings_Builder_String) : zq Tryz.prog z16 (zq4 G_strings_IndexRune G_strings_Builder_WriteString G_strings_Builder_WriteByte G_strconv_Itoa G_strings_Builder_Len G_strings_Builder_String) := kn1 (σ := ovr [(zzv, zsr G_strings_IndexRune), (zkd, z6 G_strings_Builder_WriteString G_strings_Builder_WriteByte G_strconv_Itoa), (zof, zhs G_strings_Builder_WriteString G_strings_Builder_WriteByte G_strconv_Itoa), (z8l, z1q), (zfx, G_strings_Builder_Len), (zec, G_strings_Builder_String)] noC) (hint := zbh6) (by kernel_rfl) (ze (zbei k_strings_IndexRune) (ze (zty k_strings_Builder_WriteString k_strings_Builder_WriteByte k_strconv_Itoa) (ze (z0w k_strings_Builder_WriteString k_strings_Builder_WriteByte k_strconv_Itoa) (ze zbnm (ze k_strings_Builder_Len (ze k_strings_Builder_String zk)))))) fun _ => (by kernel_rfl)
noncomputable def zt0 (G_strings_Split : List V → M V) (G_strings_IndexRune : List V → M V) (G_strconv_Atoi : List V → M V) (G_strings_IndexByte : List V → M V) (G_strings_Builder_WriteString : List V → M V) (G_strings_Builder_WriteByte : List V → M V) (G_strconv_Itoa : List V → M V) (G_strings_Builder_Len : List V → M V) (G_strings_Builder_String : List V → M V) (vs_6 : List V) : M Out :=
 zb (za (zw .add (zd vs_6 5) (Value.int .i64 1))) fun x72 =>
 ret (.nxt [(zd vs_6 0), (zd vs_6 1), (zd vs_6 2), (zd vs_6 3), (zd vs_6 4), x72])
noncomputable def zt1 (G_strings_Split : List V → M V) (G_strings_IndexRune : List V → M V) (G_strconv_Atoi : List V → M V) (G_strings_IndexByte : List V → M V) (G_strings_Builder_WriteString : List V → M V) (G_strings_Builder_WriteByte : List V → M V) (G_strconv_Itoa : List V → M V) (G_strings_Builder_Len : List V → M V) (G_strings_Builder_String : List V → M V) (vs_5 : List V) : M Out :=
 zb (
 zb (
 zb (za (zy 2 (zd vs_5 3) (zd vs_5 5))) fun x61 =>
 zb (ldn 2 x61) fun x62 =>
 zb (newc [Value.slice none 0 0, Value.slice none 0 0]) fun x8 =>
 zb (stn 2 x8 x62) fun _ =>
 zb (za (zh 0 x8)) fun x64 =>
 zb (ld1 x64) fun x65 =>
 zb (za (zx x65)) fun x66 =>
 zb (za (zh 1 x8)) fun x67 =>
 zb (ld1 x67) fun x68 =>
 zb (za (zx x68)) fun x69 =>
 zb (za (zw .add x66 x69)) fun x70 =>
 zb (za (zw .add (zd vs_5 2) x70)) fun x71 =>
 ret (.nxt [(zd vs_5 0), (zd vs_5 1), x71, (zd vs_5 3), (zd vs_5 4), (zd vs_5 5)])
 ) fun o => ret (zz 1 o)
 ) fun o => nx o (zt0 G_strings_Split G_strings_IndexRune G_strconv_Atoi G_strings_IndexByte G_strings_Builder_WriteString G_strings_Builder_WriteByte G_strconv_Itoa G_strings_Builder_Len G_strings_Builder_String)
noncomputable def zi5 (G_strings_Split : List V → M V) (G_strings_IndexRune : List V → M V) (G_strconv_Atoi : List V → M V) (G_strings_IndexByte : List V → M V) (G_strings_Builder_WriteString : List V → M V) (G_strings_Builder_WriteByte : List V → M V) (G_strconv_Itoa : List V → M V) (G_strings_Builder_Len : List V → M V) (G_strings_Builder_String : List V → M V) (vs_4 : List V) : M Out :=
 zb (za (zw .lss (zd vs_4 5) (zd vs_4 4))) fun x60 =>
 zb (
 zn x60 (
 ret (.nxt [(zd vs_4 0), (zd vs_4 1), (zd vs_4 2), (zd vs_4 3), (zd vs_4 4), (zd vs_4 5)])
 ) (
 ret (.brk 0 [(zd vs_4 0), (zd vs_4 1), (zd vs_4 2)])
 )
 ) fun o => nx o (zt1 G_strings_Split G_strings_IndexRune G_strconv_Atoi G_strings_IndexByte G_strings_Builder_WriteString G_strings_Builder_WriteByte G_strconv_Itoa G_strings_Builder_Len G_strings_Builder_String)
noncomputable def zt2 (G_strings_Split : List V → M V) (G_strings_IndexRune : List V → M V) (G_strconv_Atoi : List V → M V) (G_strings_IndexByte : List V → M V) (G_strings_Builder_WriteString : List V → M V) (G_strings_Builder_WriteByte : List V → M V) (G_strconv_Itoa : List V → M V) (G_strings_Builder_Len : List V → M V) (G_strings_Builder_String : List V → M V) (vs_10 : List V) : M Out :=
 zb (za (zw .add (zd vs_10 4) (Value.int .i64 1))) fun x85 =>
 ret (.nxt [(zd vs_10 0), (zd vs_10 1), (zd vs_10 2), (zd vs_10 3), x85])
noncomputable def zt3 (G_strings_Split : List V → M V) (G_strings_IndexRune : List V → M V) (G_strconv_Atoi : List V → M V) (G_strings_IndexByte : List V → M V) (G_strings_Builder_WriteString : List V → M V) (G_strings_Builder_WriteByte : List V → M V) (G_strconv_Itoa : List V → M V) (G_strings_Builder_Len : List V → M V) (G_strings_Builder_String : List V → M V) (vs_9 : List V) : M Out :=
 zb (
 zb (
 zb (za (zy 3 (zd vs_9 2) (zd vs_9 4))) fun x78 =>
 zb (ldn 3 x78) fun x79 =>
 zb (newc [Value.string ⟨#[]⟩, Value.string ⟨#[]⟩, Value.slice none 0 0]) fun x10 =>
 zb (stn 3 x10 x79) fun _ =>
 zb (za (zh 2 x10)) fun x81 =>
 zb (ld1 x81) fun x82 =>
 zb (za (zx x82)) fun x83 =>
 zb (za (zw .add (zd vs_9 1) x83)) fun x84 =>
 ret (.nxt [(zd vs_9 0), x84, (zd vs_9 2), (zd vs_9 3), (zd vs_9 4)])
 ) fun o => ret (zz 3 o)
 ) fun o => nx o (zt2 G_strings_Split G_strings_IndexRune G_strconv_Atoi G_strings_IndexByte G_strings_Builder_WriteString G_strings_Builder_WriteByte G_strconv_Itoa G_strings_Builder_Len G_strings_Builder_String)
noncomputable def zi6 (G_strings_Split : List V → M V) (G_strings_IndexRune : List V → M V) (G_strconv_Atoi : List V → M V) (G_strings_IndexByte : List V → M V) (G_strings_Builder_WriteString : List V → M V) (G_strings_Builder_WriteByte : List V → M V) (G_strconv_Itoa : List V → M V) (G_strings_Builder_Len : List V → M V) (G_strings_Builder_String : List V → M V) (vs_8 : List V) : M Out :=
 zb (za (zw .lss (zd vs_8 4) (zd vs_8 3))) fun x77 =>
 zb (
 zn x77 (
 ret (.nxt [(zd vs_8 0), (zd vs_8 1), (zd vs_8 2), (zd vs_8 3), (zd vs_8 4)])
 ) (
 ret (.brk 2 [(zd vs_8 0), (zd vs_8 1)])
 )
 ) fun o => nx o (zt3 G_strings_Split G_strings_IndexRune G_strconv_Atoi G_strings_IndexByte G_strings_Builder_WriteString G_strings_Builder_WriteByte G_strconv_Itoa G_strings_Builder_Len G_strings_Builder_String)
noncomputable def znm (G_strings_Split : List V → M V) (G_strings_IndexRune : List V → M V) (G_strconv_Atoi : List V → M V) (G_strings_IndexByte : List V → M V) (G_strings_Builder_WriteString : List V → M V) (G_strings_Builder_WriteByte : List V → M V) (G_strconv_Itoa : List V → M V) (G_strings_Builder_Len : List V → M V) (G_strings_Builder_String : List V → M V) (vs_14 : List V) : M Out :=
 zb (za (zw .add (zd vs_14 4) (Value.int .i64 1))) fun x97 =>
 ret (.nxt [(zd vs_14 0), (zd vs_14 1), (zd vs_14 2), (zd vs_14 3), x97])
noncomputable def znn (G_strings_Split : List V → M V) (G_strings_IndexRune : List V → M V) (G_strconv_Atoi : List V → M V) (G_strings_IndexByte : List V → M V) (G_strings_Builder_WriteString : List V → M V) (G_strings_Builder_WriteByte : List V → M V) (G_strconv_Itoa : List V → M V) (G_strings_Builder_Len : List V → M V) (G_strings_Builder_String : List V → M V) (vs_13 : List V) : M Out :=
 zb (
 zb (
 zb (za (zl9 (zd vs_13 0) (zd vs_13 4))) fun x93 =>
 zb (za (zw .eql x93 (Value.int .u8 10))) fun x94 =>
 zn x94 (
 zb (za (zw .add (zd vs_13 2) (Value.int .i64 1))) fun x96 =>
 ret (.nxt [(zd vs_13 0), (zd vs_13 1), x96, (zd vs_13 3), (zd vs_13 4)])
 ) (
 ret (.nxt [(zd vs_13 0), (zd vs_13 1), (zd vs_13 2), (zd vs_13 3), (zd vs_13 4)])
 )
 ) fun o => ret (zz 5 o)
 ) fun o => nx o (znm G_strings_Split G_strings_IndexRune G_strconv_Atoi G_strings_IndexByte G_strings_Builder_WriteString G_strings_Builder_WriteByte G_strconv_Itoa G_strings_Builder_Len G_strings_Builder_String)
noncomputable def zg9 (G_strings_Split : List V → M V) (G_strings_IndexRune : List V → M V) (G_strconv_Atoi : List V → M V) (G_strings_IndexByte : List V → M V) (G_strings_Builder_WriteString : List V → M V) (G_strings_Builder_WriteByte : List V → M V) (G_strconv_Itoa : List V → M V) (G_strings_Builder_Len : List V → M V) (G_strings_Builder_String : List V → M V) (vs_12 : List V) : M Out :=
 zb (za (zw .lss (zd vs_12 4) (zd vs_12 3))) fun x89 =>
 zb (
 zn x89 (
 ret (.nxt [(zd vs_12 0), (zd vs_12 1), (zd vs_12 2), (zd vs_12 3), (zd vs_12 4)])
 ) (
 ret (.brk 4 [(zd vs_12 0), (zd vs_12 1), (zd vs_12 2)])
 )
 ) fun o => nx o (znn G_strings_Split G_strings_IndexRune G_strconv_Atoi G_strings_IndexByte G_strings_Builder_WriteString G_strings_Builder_WriteByte G_strconv_Itoa G_strings_Builder_Len G_strings_Builder_String)
noncomputable def zt4 (G_strings_Split : List V → M V) (G_strings_IndexRune : List V → M V) (G_strconv_Atoi : List V → M V) (G_strings_IndexByte : List V → M V) (G_strings_Builder_WriteString : List V → M V) (G_strings_Builder_WriteByte : List V → M V) (G_strconv_Itoa : List V → M V) (G_strings_Builder_Len : List V → M V) (G_strings_Builder_String : List V → M V) (vs_15 : List V) : M Out :=
 zb (za (zw .eql (zd vs_15 2) (zd vs_15 1))) fun x100 =>
 zb (gd x100 true (za (some (zd vs_15 0)))) fun x102 =>
 zb (gd x100 true (za (some (zd vs_15 0)))) fun x103 =>
 zb (gd x100 true (za (zet x103))) fun x104 =>
 zb (gd x100 true (za (zw .sub x104 (Value.int .i64 1)))) fun x105 =>
 zb (gd x100 true (za (zl9 x102 x105))) fun x106 =>
 zb (gd x100 true (za (zw .eql x106 (Value.int .u8 10)))) fun x107 =>
 zb (za (zbe x100 x107 (Value.bool false))) fun x108 =>
 ret (.ret [x108])
noncomputable def zrv (G_strings_Split : List V → M V) (G_strings_IndexRune : List V → M V) (G_strconv_Atoi : List V → M V) (G_strings_IndexByte : List V → M V) (G_strings_Builder_WriteString : List V → M V) (G_strings_Builder_WriteByte : List V → M V) (G_strconv_Itoa : List V → M V) (G_strings_Builder_Len : List V → M V) (G_strings_Builder_String : List V → M V) (vs_11 : List V) : M Out :=
 zb (
 zb (za (zet (zd vs_11 0))) fun x87 =>
 zb (
 zbj zb8 (zg9 G_strings_Split G_strings_IndexRune G_strconv_Atoi G_strings_IndexByte G_strings_Builder_WriteString G_strings_Builder_WriteByte G_strconv_Itoa G_strings_Builder_Len G_strings_Builder_String) [(zd vs_11 0), (zd vs_11 1), (Value.int .i64 0), x87, (Value.int .i64 0)]
 ) fun o => ret (zz 4 o)
 ) fun o => nx o (zt4 G_strings_Split G_strings_IndexRune G_strconv_Atoi G_strings_IndexByte G_strings_Builder_WriteString G_strings_Builder_WriteByte G_strconv_Itoa G_strings_Builder_Len G_strings_Builder_String)
noncomputable def zrw (G_strings_Split : List V → M V) (G_strings_IndexRune : List V → M V) (G_strconv_Atoi : List V → M V) (G_strings_IndexByte : List V → M V) (G_strings_Builder_WriteString : List V → M V) (G_strings_Builder_WriteByte : List V → M V) (G_strconv_Itoa : List V → M V) (G_strings_Builder_Len : List V → M V) (G_strings_Builder_String : List V → M V) (vs_7 : List V) : M Out :=
 zb (
 zb (za (zh 7 (zd vs_7 0))) fun x73 =>
 zb (ld1 x73) fun x74 =>
 zb (za (zx x74)) fun x75 =>
 zb (
 zbj zb8 (zi6 G_strings_Split G_strings_IndexRune G_strconv_Atoi G_strings_IndexByte G_strings_Builder_WriteString G_strings_Builder_WriteByte G_strconv_Itoa G_strings_Builder_Len G_strings_Builder_String) [(zd vs_7 1), (zd vs_7 2), x74, x75, (Value.int .i64 0)]
 ) fun o => ret (zz 2 o)
 ) fun o => nx o (zrv G_strings_Split G_strings_IndexRune G_strconv_Atoi G_strings_IndexByte G_strings_Builder_WriteString G_strings_Builder_WriteByte G_strconv_Itoa G_strings_Builder_Len G_strings_Builder_String)
noncomputable def zrx (G_strings_Split : List V → M V) (G_strings_IndexRune : List V → M V) (G_strconv_Atoi : List V → M V) (G_strings_IndexByte : List V → M V) (G_strings_Builder_WriteString : List V → M V) (G_strings_Builder_WriteByte : List V → M V) (G_strconv_Itoa : List V → M V) (G_strings_Builder_Len : List V → M V) (G_strings_Builder_String : List V → M V) (vs_3 : List V) : M Out :=
 zb (za (zh 0 (zd vs_3 0))) fun x29 =>
 zb (ldn 7 x29) fun x30 =>
 zb (newc [Value.slice none 0 0, Value.slice none 0 0, Value.slice none 0 0, Value.int .i64 0, Value.slice none 0 0, Value.slice none 0 0, Value.int .i64 0]) fun x5 =>
 zb (stn 7 x5 x30) fun _ =>
 zb (za (zh 0 x5)) fun x31 =>
 zb (ld1 x31) fun x32 =>
 zb (za (zx x32)) fun x33 =>
 zb (za (zw .add (Value.int .i64 3) x33)) fun x34 =>
 zb (za (zh 1 x5)) fun x35 =>
 zb (ld1 x35) fun x36 =>
 zb (za (zx x36)) fun x37 =>
 zb (za (zw .add x34 x37)) fun x38 =>
 zb (za (zh 2 x5)) fun x39 =>
 zb (ld1 x39) fun x40 =>
 zb (za (zx x40)) fun x41 =>
 zb (za (zw .add x38 x41)) fun x42 =>
 zb (za (zh 3 x5)) fun x43 =>
 zb (za (zh 1 x43)) fun x44 =>
 zb (ld1 x44) fun x45 =>
 zb (za (zx x45)) fun x46 =>
 zb (za (zw .add x42 x46)) fun x47 =>
 zb (za (zh 5 x5)) fun x48 =>
 zb (ld1 x48) fun x49 =>
 zb (za (zx x49)) fun x50 =>
 zb (za (zw .add x47 x50)) fun x51 =>
 zb (za (zh 7 (zd vs_3 0))) fun x52 =>
 zb (ld1 x52) fun x53 =>
 zb (za (zx x53)) fun x54 =>
 zb (za (zw .add x51 x54)) fun x55 =>
 zb (
 zb (za (zh 5 x5)) fun x56 =>
 zb (ld1 x56) fun x57 =>
 zb (za (zx x57)) fun x58 =>
 zb (
 zbj zb8 (zi5 G_strings_Split G_strings_IndexRune G_strconv_Atoi G_strings_IndexByte G_strings_Builder_WriteString G_strings_Builder_WriteByte G_strconv_Itoa G_strings_Builder_Len G_strings_Builder_String) [(zd vs_3 0), (zd vs_3 1), x55, x57, x58, (Value.int .i64 0)]
 ) fun o => ret (zz 0 o)
 ) fun o => nx o (zrw G_strings_Split G_strings_IndexRune G_strconv_Atoi G_strings_IndexByte G_strings_Builder_WriteString G_strings_Builder_WriteByte G_strconv_Itoa G_strings_Builder_Len G_strings_Builder_String)
noncomputable def zry (G_strings_Split : List V → M V) (G_strings_IndexRune : List V → M V) (G_strconv_Atoi : List V → M V) (G_strings_IndexByte : List V → M V) (G_strings_Builder_WriteString : List V → M V) (G_strings_Builder_WriteByte : List V → M V) (G_strconv_Itoa : List V → M V) (G_strings_Builder_Len : List V → M V) (G_strings_Builder_String : List V → M V) (vs_2 : List V) : M Out :=
 zb (ldn 9 (zd vs_2 0)) fun x21 =>
 zb ((zq4 G_strings_IndexRune G_strings_Builder_WriteString G_strings_Builder_WriteByte G_strconv_Itoa G_strings_Builder_Len G_strings_Builder_String) [x21]) fun x22 =>
 zb (za (ext 0 x22)) fun x23 =>
 zb (za (ext 1 x22)) fun x24 =>
 zb (
 zb (za (zw .neq x24 (Value.int .i64 0))) fun x26 =>
 zn x26 (
 zb (za (zw .eql x23 (Value.string ⟨#[]⟩))) fun x28 =>
 ret (.ret [x28])
 ) (
 ret (.nxt [(zd vs_2 0), x23])
 )
 ) fun o => nx o (zrx G_strings_Split G_strings_IndexRune G_strconv_Atoi G_strings_IndexByte G_strings_Builder_WriteString G_strings_Builder_WriteByte G_strconv_Itoa G_strings_Builder_Len G_strings_Builder_String)
noncomputable def zml (G_strings_Split : List V → M V) (G_strings_IndexRune : List V → M V) (G_strconv_Atoi : List V → M V) (G_strings_IndexByte : List V → M V) (G_strings_Builder_WriteString : List V → M V) (G_strings_Builder_WriteByte : List V → M V) (G_strconv_Itoa : List V → M V) (G_strings_Builder_Len : List V → M V) (G_strings_Builder_String : List V → M V) (vs : List V) : M Out :=
 zb (
 zb (za (zh 0 (zd vs 0))) fun x15 =>
 zb (za (zh 1 x15)) fun x16 =>
 zb (ld1 x16) fun x17 =>
 zb (za (zx x17)) fun x18 =>
 zb (za (zw .gtr x18 (Value.int .i64 200))) fun x19 =>
 zn x19 (
 ret (.ret [(Value.bool true)])
 ) (
 ret (.nxt [(zd vs 0)])
 )
 ) fun o => nx o (zry G_strings_Split G_strings_IndexRune G_strconv_Atoi G_strings_IndexByte G_strings_Builder_WriteString G_strings_Builder_WriteByte G_strconv_Itoa G_strings_Builder_Len G_strings_Builder_String)
noncomputable def zpf (G_strings_Split : List V → M V) (G_strings_IndexRune : List V → M V) (G_strconv_Atoi : List V → M V) (G_strings_IndexByte : List V → M V) (G_strings_Builder_WriteString : List V → M V) (G_strings_Builder_WriteByte : List V → M V) (G_strconv_Itoa : List V → M V) (G_strings_Builder_Len : List V → M V) (G_strings_Builder_String : List V → M V) (x0 : V) : M V :=
 zb (
 zb (zfj x0) fun x1 =>
 zb (
 zb ((zqo G_strings_Split G_strings_IndexRune G_strconv_Atoi G_strings_IndexByte) []) fun x13 =>
 zb (za (un .not x13)) fun x14 =>
 zn x14 (
 ret (.ret [(Value.bool false)])
 ) (
 ret (.nxt [x1])
 )
 ) fun o => nx o (zml G_strings_Split G_strings_IndexRune G_strconv_Atoi G_strings_IndexByte G_strings_Builder_WriteString G_strings_Builder_WriteByte G_strconv_Itoa G_strings_Builder_Len G_strings_Builder_String)
 ) fun o => zbl o fun vs => ret (zbi [(zd vs 0)])
def z6b : Hint := (.seq [] .leaf (.seq [1] (.seq [] .leaf (.cond (.seq [] .leaf .leaf) .leaf)) (.seq [1] (.seq [] .leaf (.cond (.seq [] .leaf .leaf) .leaf)) (.seq [] .leaf (.seq [1, 3] (.seq [] .leaf (.cond (.seq [] .leaf .leaf) .leaf)) (.seq [] .leaf (.seq [] .leaf (.seq [1, 3, 6] (.seq [] .leaf (.blk (.loop [1, 3, 6, 57, 58, 59] (.seq [] .leaf (.seq [1, 3, 6, 57, 58, 59] (.cond .leaf .leaf) (.seq [1, 3, 6, 57, 58, 59] (.blk (.seq [] .leaf .leaf)) .leaf)))))) (.seq [3, 6] (.seq [] .leaf (.blk (.loop [3, 6, 74, 75, 76] (.seq [] .leaf (.seq [3, 6, 74, 75, 76] (.cond .leaf .leaf) (.seq [3, 6, 74, 75, 76] (.blk (.seq [] .leaf .leaf)) .leaf)))))) (.seq [] .leaf (.seq [3, 6, 11] (.seq [] .leaf (.blk (.loop [3, 6, 11, 87, 88] (.seq [] .leaf (.seq [3, 6, 11, 87, 88] (.cond .leaf .leaf) (.seq [3, 6, 11, 87, 88] (.blk (.seq [] .leaf (.seq [] .leaf (.cond .leaf .leaf)))) .leaf)))))) (.seq [] .leaf .leaf))))))))))))
noncomputable def zu2 (G_strings_Split : List V → M V) (G_strings_IndexRune : List V → M V) (G_strconv_Atoi : List V → M V) (G_strings_IndexByte : List V → M V) (G_strings_Builder_WriteString : List V → M V) (G_strings_Builder_WriteByte : List V → M V) (G_strconv_Itoa : List V → M V) (G_strings_Builder_Len : List V → M V) (G_strings_Builder_String : List V → M V) : List V → M V := ap1 (zpf G_strings_Split G_strings_IndexRune G_strconv_Atoi G_strings_IndexByte G_strings_Builder_WriteString G_strings_Builder_WriteByte G_strconv_Itoa G_strings_Builder_Len G_strings_Builder_String)
theorem K_law27_ConfLines {G_strings_Split : List V → M V} {G_strings_IndexRune : List V → M V} {G_strconv_Atoi : List V → M V} {G_strings_IndexByte : List V → M V} {G_strings_Builder_WriteString : List V → M V} {G_strings_Builder_WriteByte : List V → M V} {G_strconv_Itoa : List V → M V} {G_strings_Builder_Len : List V → M V} {G_strings_Builder_String : List V → M V} (k_strings_Split : zq Tryz.prog zch G_strings_Split) (k_strings_IndexRune : zq Tryz.prog zr G_strings_IndexRune) (k_strconv_Atoi : zq Tryz.prog zbf G_strconv_Atoi) (k_strings_IndexByte : zq Tryz.prog zbp G_strings_IndexByte) (k_strings_Builder_WriteString : zq Tryz.prog zbr G_strings_Builder_WriteString) (k_strings_Builder_WriteByte : zq Tryz.prog zbx G_strings_Builder_WriteByte) (k_strconv_Itoa : zq Tryz.prog zgv G_strconv_Itoa) (k_strings_Builder_Len : zq Tryz.prog zfx G_strings_Builder_Len) (k_strings_Builder_String : zq Tryz.prog zec G_strings_Builder_String) : zq Tryz.prog z1z (zu2 G_strings_Split G_strings_IndexRune G_strconv_Atoi G_strings_IndexByte G_strings_Builder_WriteString G_strings_Builder_WriteByte G_strconv_Itoa G_strings_Builder_Len G_strings_Builder_String) := kn1 (σ := ovr [(zyp, zqo G_strings_Split G_strings_IndexRune G_strconv_Atoi G_strings_IndexByte), (z16, zq4 G_strings_IndexRune G_strings_Builder_WriteString G_strings_Builder_WriteByte G_strconv_Itoa G_strings_Builder_Len G_strings_Builder_String)] noC) (hint := z6b) (by kernel_rfl) (ze (zbdj k_strings_Split k_strings_IndexRune k_strconv_Atoi k_strings_IndexByte) (ze (zbh7 k_strings_IndexRune k_strings_Builder_WriteString k_strings_Builder_WriteByte k_strconv_Itoa k_strings_Builder_Len k_strings_Builder_String) zk)) fun _ => (by kernel_rfl)
end Go.AM.Cap
