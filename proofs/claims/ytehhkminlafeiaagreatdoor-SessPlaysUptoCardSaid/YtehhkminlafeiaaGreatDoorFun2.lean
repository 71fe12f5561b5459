import Derived.Test.YtehhkminlafeiaaGreatDoorFun
set_option linter.all false
/- Printed by amprint2.py: functions of YtehhkminlafeiaaGreatDoor on the abstract machine. -/
set_option linter.unusedVariables false
set_option maxRecDepth 100000
namespace Go.AM.Cap
open Go.AM Go.Proofs
def zuy (G_errors_As : List V → M V) (x0 : V) : M V :=
 zb (
 zb (newc [Value.int .i64 0, Value.int .i64 0]) fun x3 =>
 zb (zrw [x0]) fun x8 =>
 zb (za (ext 0 x8)) fun x9 =>
 zb (za (ext 1 x8)) fun x10 =>
 zb ((zpb G_errors_As) [x10]) fun x13 =>
 zb (stn 2 x3 x13) fun _ =>
 ret (.ret [x9, x3])
 ) fun o => zcf o fun vs => zb (ldn 2 (zc vs 1)) fun r1 => ret (zca [(zc vs 0), r1])
def z96 : Hint := (.seq [] .leaf (.seq [] .leaf (.seq [] .leaf .leaf)))
def zm0 (G_errors_As : List V → M V) (l : List V) : M V := match l with | [x0] => zuy G_errors_As x0 | _ => fail
theorem zbk5 (G_errors_As : List V → M V) (x0 : V) : zcs Tryz.prog (ovr [(zul, zrw), (zsg, zpb G_errors_As)] noC) zqn z96 [x0] = zuy G_errors_As x0 := by kernel_rfl
theorem zbk6 {G_errors_As : List V → M V} (k_errors_As : zy Tryz.prog zhd G_errors_As) : zy Tryz.prog zqn (zm0 G_errors_As) := zh (σ := ovr [(zul, zrw), (zsg, zpb G_errors_As)] noC) (hint := z96) (by kernel_rfl) (zd zbqm (zd (zbn2 k_errors_As) ze)) fun l H r H' h => by
 unfold zm0 at h; split at h
 · rw [zbk5]; exact h
 · exact (zf h).elim
def z5o (vs_4 : List V) : M Out :=
 zb (za (zj .add (zc vs_4 3) (Value.int .i64 1))) fun x30 =>
 ret (.nxt [(zc vs_4 0), (zc vs_4 1), (zc vs_4 2), x30])
def z5p (vs_3 : List V) : M Out :=
 zb (
 zb (
 zb (za (zv 3 (zc vs_3 1) (zc vs_3 3))) fun x16 =>
 zb (ldn 3 x16) fun x17 =>
 zb (newc [Value.bool false, Value.int .i64 0, Value.string ⟨#[]⟩]) fun x7 =>
 zb (stn 3 x7 x17) fun _ =>
 zb (za (zg 0 x7)) fun x18 =>
 zb (z7 x18) fun x19 =>
 zb (gd x19 false (za (zg 1 x7))) fun x21 =>
 zb (gd x19 false (z7 x21)) fun x22 =>
 zb (gd x19 false (za (zj .lss x22 (Value.int .i64 1)))) fun x23 =>
 zb (za (zcq x19 (Value.bool true) x23)) fun x24 =>
 zb (gd x24 false (za (zg 1 x7))) fun x26 =>
 zb (gd x24 false (z7 x26)) fun x27 =>
 zb (gd x24 false (za (zj .gtr x27 (Value.int .i64 1073741824)))) fun x28 =>
 zb (za (zcq x24 (Value.bool true) x28)) fun x29 =>
 zi x29 (
 ret (.ret [(Value.int .i64 0), (Value.int .i64 0), (Value.slice none 0 0), (Value.bool false)])
 ) (
 ret (.nxt [(zc vs_3 0), (zc vs_3 1), (zc vs_3 2), (zc vs_3 3)])
 )
 ) fun o => ret (zw 1 o)
 ) fun o => nx o z5o
def zv2 (vs_2 : List V) : M Out :=
 zb (za (zj .lss (zc vs_2 3) (zc vs_2 2))) fun x15 =>
 zb (
 zi x15 (
 ret (.nxt [(zc vs_2 0), (zc vs_2 1), (zc vs_2 2), (zc vs_2 3)])
 ) (
 ret (.brk 0 [(zc vs_2 0)])
 )
 ) fun o => nx o z5p
def z5q (vs_5 : List V) : M Out :=
 zb (za (zv 3 (zc vs_5 0) (Value.int .i64 0))) fun x32 =>
 zb (za (zg 1 x32)) fun x33 =>
 zb (za (zv 3 (zc vs_5 0) (Value.int .i64 1))) fun x36 =>
 zb (za (zg 1 x36)) fun x37 =>
 zb (za (zh7 3 (zc vs_5 0) (some (Value.int .i64 2)) none)) fun x40 =>
 zb (z7 x33) fun x34 =>
 zb (z7 x37) fun x38 =>
 ret (.ret [x34, x38, x40, (Value.bool true)])
def z5r (vs : List V) : M Out :=
 zb (
 zb (za (zh7 3 (zc vs 0) none (some (Value.int .i64 2)))) fun x12 =>
 zb (za (zb9 x12)) fun x13 =>
 zb (
 zce zcc zv2 [(zc vs 0), x12, x13, (Value.int .i64 0)]
 ) fun o => ret (zw 0 o)
 ) fun o => nx o z5q
def zlc (x0 : V) : M V :=
 zb (
 zb (
 zb (za (zb9 x0)) fun x9 =>
 zb (za (zj .lss x9 (Value.int .i64 2))) fun x10 =>
 zi x10 (
 ret (.ret [(Value.int .i64 0), (Value.int .i64 0), (Value.slice none 0 0), (Value.bool false)])
 ) (
 ret (.nxt [x0])
 )
 ) fun o => nx o z5r
 ) fun o => zcf o fun vs => ret (zca [(zc vs 0), (zc vs 1), (zc vs 2), (zc vs 3)])
def z7r : Hint := (.seq [] .leaf (.seq [0] (.seq [] .leaf (.cond (.seq [] .leaf .leaf) .leaf)) (.seq [0] (.seq [] .leaf (.blk (.loop [0, 12, 13, 14] (.seq [] .leaf (.seq [0, 12, 13, 14] (.cond .leaf .leaf) (.seq [0, 12, 13, 14] (.blk (.seq [] .leaf (.seq [] .leaf (.cond (.seq [] .leaf .leaf) .leaf)))) .leaf)))))) (.seq [] (.reg [0, 1, 2, 4, 5, 6, 8, 9, 3, 10, 7, 11, 12, 13] []) .leaf))))
def zld (l : List V) : M V := match l with | [x0] => zlc x0 | _ => fail
theorem zbjg (x0 : V) : zcs Tryz.prog (ovr [] noC) zo1 z7r [x0] = zlc x0 := by kernel_rfl
theorem zbjh : zy Tryz.prog zo1 (zld) := zh (σ := ovr [] noC) (hint := z7r) (by kernel_rfl) ze fun l H r H' h => by
 unfold zld at h; split at h
 · rw [zbjg]; exact h
 · exact (zf h).elim
def zle (vs : List V) : M Out :=
 zb (za (zu (zc vs 0))) fun x15 =>
 zb (za (zg 2 x15)) fun x16 =>
 zb (z7 x16) fun x17 =>
 zb (za (zv 6 x17 (zc vs 1))) fun x19 =>
 ret (.ret [x19])
def zfg (x0 x1 : V) : M V :=
 zb (
 zb (za (zu x0)) fun x7 =>
 zb (za (zg 1 x7)) fun x8 =>
 zb (z7 x8) fun x9 =>
 zb (zc0 [x9, x1]) fun x11 =>
 zb (
 zb (za (zj .lss x11 (Value.int .i64 0))) fun x13 =>
 zi x13 (
 ret (.ret [(Value.pointer none)])
 ) (
 ret (.nxt [x0, x11])
 )
 ) fun o => nx o zle
 ) fun o => zcf o fun vs => ret (zca [(zc vs 0)])
def zlu : Hint := (.seq [] .leaf (.seq [] .leaf (.seq [0, 5] (.seq [] .leaf (.cond (.seq [] .leaf .leaf) .leaf)) (.seq [] .leaf .leaf))))
def zbr (l : List V) : M V := match l with | [x0, x1] => zfg x0 x1 | _ => fail
def zlv : zp := ovr [(ze1, zc0)] noC
theorem zvg (x0 x1 : V) : zcs Tryz.prog (zlv) zc9 zlu [x0, x1] = zfg x0 x1 := by kernel_rfl
theorem zho : zy Tryz.prog zc9 (zbr) := zh (σ := zlv) (hint := zlu) (by kernel_rfl) (zd zkg ze) fun l H r H' h => by
 unfold zbr at h; split at h
 · rw [zvg]; exact h
 · exact (zf h).elim
def zbdr (vs : List V) : M Out :=
 ret (.ret [(Value.int .i64 0)])
def z0q (x0 x1 x2 : V) : M V :=
 zb (
 zb (
 zb (zla [x0, x1]) fun x9 =>
 zb (zom [x9, x2]) fun x11 =>
 zb (za (un .not x11)) fun x12 =>
 zi x12 (
 ret (.ret [(Value.int .i64 20)])
 ) (
 ret (.nxt [])
 )
 ) fun o => nx o zbdr
 ) fun o => zcf o fun vs => ret (zca [(zc vs 0)])
def zbga : Hint := (.seq [] .leaf (.seq [] (.seq [] .leaf (.cond (.seq [] .leaf .leaf) .leaf)) (.seq [] .leaf .leaf)))
def zvh (l : List V) : M V := match l with | [x0, x1, x2] => z0q x0 x1 x2 | _ => fail
def zbgb : zp := ovr [(zrl, zla), (zuk, zom)] noC
theorem zbqn (x0 x1 x2 : V) : zcs Tryz.prog (zbgb) z1h zbga [x0, x1, x2] = z0q x0 x1 x2 := by kernel_rfl
theorem zbqo : zy Tryz.prog z1h (zvh) := zh (σ := zbgb) (hint := zbga) (by kernel_rfl) (zd z8t (zd zbf5 ze)) fun l H r H' h => by
 unfold zvh at h; split at h
 · rw [zbqn]; exact h
 · exact (zf h).elim
def zbgc (vs_2 : List V) : M Out :=
 zb (za (zp0 (zc vs_2 0) none (some (zc vs_2 1)))) fun x27 =>
 ret (.ret [x27, (Value.int .i64 0)])
def zbgd (vs : List V) : M Out :=
 zb (za (zct (zc vs 1))) fun x12 =>
 zb (za (zj .sub x12 (Value.int .i64 32))) fun x13 =>
 zb (
 zb (za (zp0 (zc vs 1) none (some x13))) fun x17 =>
 zb (za (zp0 (zc vs 1) (some x13) none)) fun x20 =>
 zb (zvh [(zc vs 0), x17, x20]) fun x21 =>
 zb (za (zj .neq x21 (Value.int .i64 0))) fun x23 =>
 zi x23 (
 ret (.ret [(Value.string ⟨#[]⟩), x21])
 ) (
 ret (.nxt [(zc vs 1), x13])
 )
 ) fun o => nx o zbgc
def zy1 (x0 x1 : V) : M V :=
 zb (
 zb (
 zb (za (zct x1)) fun x9 =>
 zb (za (zj .lss x9 (Value.int .i64 32))) fun x10 =>
 zi x10 (
 ret (.ret [(Value.string ⟨#[]⟩), (Value.int .i64 20)])
 ) (
 ret (.nxt [x0, x1])
 )
 ) fun o => nx o zbgd
 ) fun o => zcf o fun vs => ret (zca [(zc vs 0), (zc vs 1)])
def zbji : Hint := (.seq [] .leaf (.seq [0, 1] (.seq [] .leaf (.cond (.seq [] .leaf .leaf) .leaf)) (.seq [] .leaf (.seq [1, 6] (.seq [] (.reg [0, 1, 2, 3, 4, 5, 6, 7, 8] []) (.seq [] .leaf (.cond (.seq [] .leaf .leaf) .leaf))) (.seq [] .leaf .leaf)))))
def zub (l : List V) : M V := match l with | [x0, x1] => zy1 x0 x1 | _ => fail
def zbjj : zp := ovr [(z1h, zvh)] noC
theorem zbsy (x0 x1 : V) : zcs Tryz.prog (zbjj) zwq zbji [x0, x1] = zy1 x0 x1 := by kernel_rfl
theorem zbsz : zy Tryz.prog zwq (zub) := zh (σ := zbjj) (hint := zbji) (by kernel_rfl) (zd zbqo ze) fun l H r H' h => by
 unfold zub at h; split at h
 · rw [zbsy]; exact h
 · exact (zf h).elim
def zer (x0 x1 x2 : V) : M V :=
 zb (
 zb (zlw x1) fun x4 =>
 zb (z7 x2) fun x7 =>
 zb (za (zj .neq x0 x7)) fun x8 =>
 ret (.ret [x8])
 ) fun o => zcf o fun vs => ret (zca [(zc vs 0)])
def zj8 : Hint := (.seq [] .leaf (.seq [] .leaf .leaf))
def zds (l : List V) : M V := match l with | [x0, x1, x2] => zer x0 x1 x2 | _ => fail
theorem zs8 (x0 x1 x2 : V) : zcs Tryz.prog (ovr [] noC) zcl zj8 [x0, x1, x2] = zer x0 x1 x2 := by kernel_rfl
theorem zs9 : zy Tryz.prog zcl (zds) := zh (σ := ovr [] noC) (hint := zj8) (by kernel_rfl) ze fun l H r H' h => by
 unfold zds at h; split at h
 · rw [zs8]; exact h
 · exact (zf h).elim
def zgt (S : zp) (vs_3 : List V) : M Out :=
 zb (za (zj .add (zc vs_3 6) (Value.int .i64 1))) fun x42 =>
 ret (.nxt [(zc vs_3 0), (zc vs_3 1), (zc vs_3 2), (zc vs_3 3), (zc vs_3 4), (zc vs_3 5), x42])
def zkp (S : zp) (vs_2 : List V) : M Out :=
 zb (
 zb (
 zb (za (zv 6 (zc vs_2 4) (zc vs_2 6))) fun x16 =>
 zb (ldn 6 x16) fun x17 =>
 zb (newc [Value.string ⟨#[]⟩, Value.string ⟨#[]⟩, Value.slice none 0 0, Value.string ⟨#[]⟩, Value.int .i64 0, Value.int .i64 0]) fun x7 =>
 zb (stn 6 x7 x17) fun _ =>
 zb (za (zu (zc vs_2 0))) fun x20 =>
 zb (za (zg 1 x20)) fun x21 =>
 zb (z7 x21) fun x22 =>
 zb (za (zv 1 x22 (zc vs_2 6))) fun x24 =>
 zb (z7 x24) fun x25 =>
 zb (ldn 6 x7) fun x26 =>
 zb (zxn (ovr [] S) (zc vs_2 1) [x25, x26]) fun x27 =>
 zi x27 (
 zu5 2 fun base h0 =>
 zb (za (zu (zc vs_2 0))) fun x30 =>
 zb (za (zg 1 x30)) fun x31 =>
 zb (z7 x31) fun x32 =>
 zb (za (zv 1 x32 (zc vs_2 6))) fun x34 =>
 zb (z7 x34) fun x35 =>
 zb (ldn 6 x7) fun x39 =>
 zb (flt (base + 0) (zd7 1 1 (rep 1 [Value.int .i64 0]) [(0, 1, x35)])) fun x36 =>
 zfq (ze6 1 8 (zc vs_2 2) x36) fun ha x37 h1 =>
 zdc (zej ha [base + 1] && zej h1 [base + 1]) <|
 zb (flt (base + 1) (zd7 6 1 (rep 1 [Value.string ⟨#[]⟩, Value.string ⟨#[]⟩, Value.slice none 0 0, Value.string ⟨#[]⟩, Value.int .i64 0, Value.int .i64 0]) [(0, 6, x39)])) fun x40 =>
 zfq (ze6 6 88 (zc vs_2 3) x40) fun ha_2 x41 h2 =>
 zdc (chk (ldn 6 x7) h1 x39) <|
 ret (.nxt [(zc vs_2 0), (zc vs_2 1), x37, x41, (zc vs_2 4), (zc vs_2 5), (zc vs_2 6)])
 ) (
 ret (.nxt [(zc vs_2 0), (zc vs_2 1), (zc vs_2 2), (zc vs_2 3), (zc vs_2 4), (zc vs_2 5), (zc vs_2 6)])
 )
 ) fun o => ret (zw 1 o)
 ) fun o => nx o (zgt S)
def zgu (S : zp) (vs : List V) : M Out :=
 zb (za (zj .lss (zc vs 6) (zc vs 5))) fun x14 =>
 zb (
 zi x14 (
 ret (.nxt [(zc vs 0), (zc vs 1), (zc vs 2), (zc vs 3), (zc vs 4), (zc vs 5), (zc vs 6)])
 ) (
 ret (.brk 0 [(zc vs 0), (zc vs 2), (zc vs 3)])
 )
 ) fun o => nx o (zkp S)
def zkq (S : zp) (vs_4 : List V) : M Out :=
 zb (za (zu (zc vs_4 0))) fun x47 =>
 zb (za (zg 1 x47)) fun x48 =>
 zb (st1 x48 (zc vs_4 1)) fun _ =>
 zb (za (zu (zc vs_4 0))) fun x49 =>
 zb (za (zg 2 x49)) fun x50 =>
 zb (st1 x50 (zc vs_4 2)) fun _ =>
 ret (.nxt [])
def zfa (S : zp) (x0 x1 : V) : M V :=
 zb (
 zb (
 zb (za (zu x0)) fun x9 =>
 zb (za (zg 2 x9)) fun x10 =>
 zb (z7 x10) fun x11 =>
 zb (za (zb9 x11)) fun x12 =>
 zb (
 zce zcc (zgu S) [x0, x1, (Value.slice none 0 0), (Value.slice none 0 0), x11, x12, (Value.int .i64 0)]
 ) fun o => ret (zw 0 o)
 ) fun o => nx o (zkq S)
 ) fun o => zcf o fun vs => ret (zca [])
def zlf : Hint := (.seq [] .leaf (.seq [] .leaf (.seq [0, 4, 5] (.seq [] .leaf (.blk (.loop [0, 1, 4, 5, 11, 12, 13] (.seq [] .leaf (.seq [0, 1, 4, 5, 11, 12, 13] (.cond .leaf .leaf) (.seq [0, 1, 4, 5, 11, 12, 13] (.blk (.seq [] .leaf (.seq [] (.reg [0, 1, 2, 3, 5, 4, 6, 7, 8, 9] []) (.cond (.reg [0, 1, 2, 3, 5, 10, 4, 6, 7, 11, 8, 9, 12, 13, 14, 15] [8, 12]) .leaf)))) .leaf)))))) .leaf)))
def zcn (S : zp) (l : List V) : M V := match l with | [x0, x1] => zfa S x0 x1 | _ => fail
theorem zuc (S : zp) (x0 x1 : V) : zcs Tryz.prog (ovr [] S) zel zlf [x0, x1] = zfa S x0 x1 := by kernel_rfl
theorem zlg {S : zp} (hS : zlx Tryz.prog S) : zy Tryz.prog zel (zcn S) := zh (σ := ovr [] S) (hint := zlf) (by kernel_rfl) (z6l hS) fun l H r H' h => by
 unfold zcn at h; split at h
 · rw [zuc]; exact h
 · exact (zf h).elim
def zfb (x0 x1 : V) : M V :=
 zb (
 zb (zlw x1) fun x3 =>
 zb (za (some (Value.func (.func zcl) #[] #[x3]))) fun x5 =>
 zb ((zcn (ovr [(zcl, zds)] noC)) [x0, x5]) fun x6 =>
 ret (.nxt [])
 ) fun o => zcf o fun vs => ret (zca [])
def zlh : Hint := (.seq [] .leaf .leaf)
def zcb (l : List V) : M V := match l with | [x0, x1] => zfb x0 x1 | _ => fail
def zli : zp := ovr [(zel, zcn (ovr [(zcl, zds)] noC))] noC
theorem zud (x0 x1 : V) : zcs Tryz.prog (zli) zdp zlh [x0, x1] = zfb x0 x1 := by kernel_rfl
theorem zlj : zy Tryz.prog zdp (zcb) := zh (σ := zli) (hint := zlh) (by kernel_rfl) (zd (zlg (zd zs9 ze)) ze) fun l H r H' h => by
 unfold zcb at h; split at h
 · rw [zud]; exact h
 · exact (zf h).elim
def zta (G_errors_As : List V → M V) (vs_6 : List V) : M Out :=
 ret (.ret [(zc vs_6 0), (zc vs_6 1), (zc vs_6 2), (Value.int .i64 0)])
def z0r (G_errors_As : List V → M V) (vs_5 : List V) : M Out :=
 zb (za (zu (zc vs_5 3))) fun x68 =>
 zb (za (zg 4 x68)) fun x69 =>
 zb (z7 x69) fun x70 =>
 zb (za (zj .add x70 (Value.int .i64 1))) fun x71 =>
 zb (za (zu (zc vs_5 3))) fun x72 =>
 zb (za (zg 4 x72)) fun x73 =>
 zb (st1 x73 x71) fun _ =>
 zb (za (zu (zc vs_5 0))) fun x76 =>
 zb (za (zg 2 x76)) fun x77 =>
 zb (z7 x77) fun x78 =>
 zb (za (zu (zc vs_5 3))) fun x79 =>
 zb (za (zg 5 x79)) fun x80 =>
 zb (st1 x80 x78) fun _ =>
 zb (za (zu (zc vs_5 3))) fun x82 =>
 zb (za (zg 0 x82)) fun x83 =>
 zb (za (zg 0 x83)) fun x84 =>
 zb (z7 x84) fun x85 =>
 zb (
 zb (za (zu (zc vs_5 3))) fun x87 =>
 zb (za (zg 4 x87)) fun x88 =>
 zb (z7 x88) fun x89 =>
 zb (za (zj .gtr x89 (Value.int .i64 1073741824))) fun x90 =>
 zi x90 (
 zb (za (zu (zc vs_5 0))) fun x92 =>
 zb (za (zg 6 x92)) fun x93 =>
 zb (zcb [x93, (zc vs_5 1)]) fun x95 =>
 ret (.nxt [(zc vs_5 1), x85, (zc vs_5 2)])
 ) (
 ret (.nxt [(zc vs_5 1), x85, (zc vs_5 2)])
 )
 ) fun o => nx o (zta G_errors_As)
def z0s (G_errors_As : List V → M V) (vs_4 : List V) : M Out :=
 zb (
 zb (za (zu (zc vs_4 4))) fun x63 =>
 zb (za (zg 4 x63)) fun x64 =>
 zb (z7 x64) fun x65 =>
 zb (za (zj .neq (zc vs_4 2) x65)) fun x66 =>
 zi x66 (
 ret (.ret [(Value.int .i64 0), (Value.string ⟨#[]⟩), (Value.slice none 0 0), (Value.int .i64 250)])
 ) (
 ret (.nxt [(zc vs_4 0), (zc vs_4 1), (zc vs_4 3), (zc vs_4 4)])
 )
 ) fun o => nx o (z0r G_errors_As)
def z0t (G_errors_As : List V → M V) (vs_3 : List V) : M Out :=
 zb (
 zb (za (zu (zc vs_3 5))) fun x51 =>
 zb (za (zg 3 x51)) fun x52 =>
 zb (z7 x52) fun x53 =>
 zb (zub [x53, (zc vs_3 1)]) fun x55 =>
 zb (za (ext 0 x55)) fun x56 =>
 zb (za (ext 1 x55)) fun x57 =>
 zb (za (zj .neq x57 (Value.int .i64 0))) fun x59 =>
 zi x59 (
 ret (.ret [(Value.int .i64 0), (Value.string ⟨#[]⟩), (Value.slice none 0 0), x57])
 ) (
 ret (.nxt [(zc vs_3 0), (zc vs_3 2), (zc vs_3 3), (zc vs_3 4), (zc vs_3 5)])
 )
 ) fun o => nx o (z0s G_errors_As)
def z0u (G_errors_As : List V → M V) (vs_2 : List V) : M Out :=
 zb (za (zu (zc vs_2 0))) fun x43 =>
 zb (za (zg 6 x43)) fun x44 =>
 zb (zbr [x44, (zc vs_2 2)]) fun x46 =>
 zb (
 zb (za (zia false (isNil .p x46))) fun x48 =>
 zi x48 (
 ret (.ret [(Value.int .i64 0), (Value.string ⟨#[]⟩), (Value.slice none 0 0), (Value.int .i64 251)])
 ) (
 ret (.nxt [(zc vs_2 0), (zc vs_2 1), (zc vs_2 2), (zc vs_2 3), (zc vs_2 4), x46])
 )
 ) fun o => nx o (z0t G_errors_As)
def z0v (G_errors_As : List V → M V) (vs : List V) : M Out :=
 zb (za (zct (zc vs 1))) fun x22 =>
 zb (za (zj .sub x22 (Value.int .i64 32))) fun x23 =>
 zb (za (zp0 (zc vs 1) none (some x23))) fun x24 =>
 zb ((zm0 G_errors_As) [x24]) fun x25 =>
 zb (za (ext 0 x25)) fun x26 =>
 zb (za (ext 1 x25)) fun x27 =>
 zb (newc [Value.int .i64 0, Value.int .i64 0]) fun x9 =>
 zb (stn 2 x9 x27) fun _ =>
 zb (zld [x26]) fun x30 =>
 zb (za (ext 0 x30)) fun x31 =>
 zb (za (ext 1 x30)) fun x32 =>
 zb (za (ext 2 x30)) fun x33 =>
 zb (za (ext 3 x30)) fun x34 =>
 zb (
 zb (ldn 2 x9) fun x35 =>
 zb (za (build [Value.int .i64 0, Value.int .i64 0] [])) fun x36 =>
 zb (za (zia true (z82 [.i, .i] x35 x36))) fun x37 =>
 zb (gd x37 false (za (some x34))) fun x39 =>
 zb (gd x37 false (za (un .not x39))) fun x40 =>
 zb (za (zcq x37 (Value.bool true) x40)) fun x41 =>
 zi x41 (
 ret (.ret [(Value.int .i64 0), (Value.string ⟨#[]⟩), (Value.slice none 0 0), (Value.int .i64 3)])
 ) (
 ret (.nxt [(zc vs 0), (zc vs 1), x31, x32, x33])
 )
 ) fun o => nx o (z0u G_errors_As)
def zlk (G_errors_As : List V → M V) (x0 x1 : V) : M V :=
 zb (
 zb (
 zb (za (zct x1)) fun x17 =>
 zb (za (zj .lss x17 (Value.int .i64 32))) fun x18 =>
 zi x18 (
 ret (.ret [(Value.int .i64 0), (Value.string ⟨#[]⟩), (Value.slice none 0 0), (Value.int .i64 3)])
 ) (
 ret (.nxt [x0, x1])
 )
 ) fun o => nx o (z0v G_errors_As)
 ) fun o => zcf o fun vs => ret (zca [(zc vs 0), (zc vs 1), (zc vs 2), (zc vs 3)])
def z21 : Hint := (.seq [] .leaf (.seq [0, 1] (.seq [] .leaf (.cond (.seq [] .leaf .leaf) .leaf)) (.seq [] .leaf (.seq [] .leaf (.seq [0, 1, 4, 10, 11] (.seq [] .leaf (.cond (.seq [] .leaf .leaf) .leaf)) (.seq [] .leaf (.seq [0, 1, 4, 10, 11, 13] (.seq [] .leaf (.cond (.seq [] .leaf .leaf) .leaf)) (.seq [0, 4, 10, 11, 13] (.seq [] .leaf (.seq [] .leaf (.cond (.seq [] .leaf .leaf) .leaf))) (.seq [0, 4, 11, 13] (.seq [] .leaf (.cond (.seq [] .leaf .leaf) .leaf)) (.seq [] .leaf (.seq [] .leaf (.seq [] .leaf (.seq [4, 5, 11] (.seq [] .leaf (.cond .leaf .leaf)) (.seq [] .leaf .leaf))))))))))))))
def zed (G_errors_As : List V → M V) (l : List V) : M V := match l with | [x0, x1] => zlk G_errors_As x0 x1 | _ => fail
theorem zbe1 (G_errors_As : List V → M V) (x0 x1 : V) : zcs Tryz.prog (ovr [(zqn, zm0 G_errors_As), (zo1, zld), (zc9, zbr), (zwq, zub), (zdp, zcb)] noC) zg4 z21 [x0, x1] = zlk G_errors_As x0 x1 := by kernel_rfl
theorem z22 {G_errors_As : List V → M V} (k_errors_As : zy Tryz.prog zhd G_errors_As) : zy Tryz.prog zg4 (zed G_errors_As) := zh (σ := ovr [(zqn, zm0 G_errors_As), (zo1, zld), (zc9, zbr), (zwq, zub), (zdp, zcb)] noC) (hint := z21) (by kernel_rfl) (zd (zbk6 k_errors_As) (zd zbjh (zd zho (zd zbsz (zd zlj ze))))) fun l H r H' h => by
 unfold zed at h; split at h
 · rw [zbe1]; exact h
 · exact (zf h).elim
def zuz (x0 x1 : V) : M V :=
 zb (
 zb (newc [Value.int .i64 0, Value.int .i64 0]) fun x4 =>
 zb (za (build [Value.int .i64 0, Value.int .i64 0] [(0, 1, x0), (1, 1, x1)])) fun x7 =>
 zb (stn 2 x4 x7) fun _ =>
 ret (.ret [x4])
 ) fun o => zcf o fun vs => zb (ldn 2 (zc vs 0)) fun r0 => ret (zca [r0])
def z97 : Hint := (.seq [] .leaf (.seq [] .leaf .leaf))
def zhj (l : List V) : M V := match l with | [x0, x1] => zuz x0 x1 | _ => fail
theorem zbk7 (x0 x1 : V) : zcs Tryz.prog (ovr [] noC) zvt z97 [x0, x1] = zuz x0 x1 := by kernel_rfl
theorem zbk8 : zy Tryz.prog zvt (zhj) := zh (σ := ovr [] noC) (hint := z97) (by kernel_rfl) ze fun l H r H' h => by
 unfold zhj at h; split at h
 · rw [zbk7]; exact h
 · exact (zf h).elim
def z98 (vs_5 : List V) : M Out :=
 zb (za (zj .add (zc vs_5 4) (Value.int .i64 1))) fun x30 =>
 ret (.nxt [(zc vs_5 0), (zc vs_5 1), (zc vs_5 2), (zc vs_5 3), x30])
def z99 (vs_4 : List V) : M Out :=
 zb (
 zb (
 zb (za (zj .mul (zc vs_4 3) (Value.int .u64 256))) fun x32 =>
 zb (za (zj .add (zc vs_4 1) (zc vs_4 4))) fun x36 =>
 zb (za (zk1 (zc vs_4 0) x36)) fun x37 =>
 zb (za (cvi .u64 x37)) fun x38 =>
 zb (za (zj .add x32 x38)) fun x39 =>
 ret (.nxt [(zc vs_4 0), (zc vs_4 1), (zc vs_4 2), x39, (zc vs_4 4)])
 ) fun o => ret (zw 1 o)
 ) fun o => nx o z98
def z13 (vs_3 : List V) : M Out :=
 zb (
 zb (za (zj .lss (zc vs_3 4) (Value.int .i64 9))) fun x28 =>
 zi x28 (
 ret (.nxt [(zc vs_3 0), (zc vs_3 1), (zc vs_3 2), (zc vs_3 3), (zc vs_3 4)])
 ) (
 ret (.brk 0 [(zc vs_3 1), (zc vs_3 2), (zc vs_3 3)])
 )
 ) fun o => nx o z99
def zbaa (vs_6 : List V) : M Out :=
 zb (za (cvi .i64 (zc vs_6 2))) fun x41 =>
 zb (za (build [Value.bool false, Value.int .i64 0, Value.string ⟨#[]⟩] [(1, 1, x41)])) fun x42 =>
 zb (za (zj .add (zc vs_6 0) (Value.int .i64 9))) fun x44 =>
 zb (stn 3 (zc vs_6 1) x42) fun _ =>
 ret (.ret [(zc vs_6 1), x44, (Value.int .i64 0)])
def zbab (vs_2 : List V) : M Out :=
 zb (
 zb (
 zce zcc z13 [(zc vs_2 0), (zc vs_2 1), (zc vs_2 2), (Value.int .u64 0), (Value.int .i64 1)]
 ) fun o => ret (zw 0 o)
 ) fun o => nx o zbaa
def zbac (vs_10 : List V) : M Out :=
 zb (za (zj .add (zc vs_10 1) (Value.int .i64 3))) fun x78 =>
 zb (za (zj .add (zc vs_10 1) (Value.int .i64 3))) fun x80 =>
 zb (za (zj .add x80 (zc vs_10 3))) fun x82 =>
 zb (za (zp0 (zc vs_10 0) (some x78) (some x82))) fun x83 =>
 zb (za (build [Value.bool false, Value.int .i64 0, Value.string ⟨#[]⟩] [(0, 1, (Value.bool true)), (2, 1, x83)])) fun x84 =>
 zb (za (zj .add (zc vs_10 1) (Value.int .i64 3))) fun x86 =>
 zb (za (zj .add x86 (zc vs_10 3))) fun x88 =>
 zb (stn 3 (zc vs_10 2) x84) fun _ =>
 ret (.ret [(zc vs_10 2), x88, (Value.int .i64 0)])
def z14 (vs_9 : List V) : M Out :=
 zb (za (zj .add (zc vs_9 1) (Value.int .i64 1))) fun x58 =>
 zb (za (zk1 (zc vs_9 0) x58)) fun x59 =>
 zb (za (cvi .i64 x59)) fun x60 =>
 zb (za (zj .mul x60 (Value.int .i64 256))) fun x61 =>
 zb (za (zj .add (zc vs_9 1) (Value.int .i64 2))) fun x64 =>
 zb (za (zk1 (zc vs_9 0) x64)) fun x65 =>
 zb (za (cvi .i64 x65)) fun x66 =>
 zb (za (zj .add x61 x66)) fun x67 =>
 zb (
 zb (za (zct (zc vs_9 0))) fun x69 =>
 zb (za (zj .sub x69 (zc vs_9 1))) fun x71 =>
 zb (za (zj .sub x71 (Value.int .i64 3))) fun x72 =>
 zb (za (zj .lss x72 x67)) fun x74 =>
 zi x74 (
 zb (ldn 3 (zc vs_9 3)) fun x75 =>
 zb (stn 3 (zc vs_9 2) x75) fun _ =>
 ret (.ret [(zc vs_9 2), (Value.int .i64 0), (Value.int .i64 30)])
 ) (
 ret (.nxt [(zc vs_9 0), (zc vs_9 1), (zc vs_9 2), x67])
 )
 ) fun o => nx o zbac
def zu0 (vs_8 : List V) : M Out :=
 zb (
 zb (za (zct (zc vs_8 0))) fun x51 =>
 zb (za (zj .sub x51 (zc vs_8 1))) fun x53 =>
 zb (za (zj .lss x53 (Value.int .i64 3))) fun x54 =>
 zi x54 (
 zb (ldn 3 (zc vs_8 3)) fun x55 =>
 zb (stn 3 (zc vs_8 2) x55) fun _ =>
 ret (.ret [(zc vs_8 2), (Value.int .i64 0), (Value.int .i64 30)])
 ) (
 ret (.nxt [(zc vs_8 0), (zc vs_8 1), (zc vs_8 2), (zc vs_8 3)])
 )
 ) fun o => nx o z14
def zqe (vs_7 : List V) : M Out :=
 zb (
 zb (za (zk1 (zc vs_7 0) (zc vs_7 1))) fun x47 =>
 zb (za (zj .neq x47 (Value.int .u8 36))) fun x48 =>
 zi x48 (
 zb (ldn 3 (zc vs_7 3)) fun x49 =>
 zb (stn 3 (zc vs_7 2) x49) fun _ =>
 ret (.ret [(zc vs_7 2), (Value.int .i64 0), (Value.int .i64 3)])
 ) (
 ret (.nxt [(zc vs_7 0), (zc vs_7 1), (zc vs_7 2), (zc vs_7 3)])
 )
 ) fun o => nx o zu0
def zir (vs : List V) : M Out :=
 zb (
 zb (za (zk1 (zc vs 0) (zc vs 1))) fun x19 =>
 zb (za (zj .eql x19 (Value.int .u8 35))) fun x20 =>
 zi x20 (
 zb (
 zb (za (zct (zc vs 0))) fun x22 =>
 zb (za (zj .sub x22 (zc vs 1))) fun x24 =>
 zb (za (zj .lss x24 (Value.int .i64 9))) fun x25 =>
 zi x25 (
 zb (ldn 3 (zc vs 3)) fun x26 =>
 zb (stn 3 (zc vs 2) x26) fun _ =>
 ret (.ret [(zc vs 2), (Value.int .i64 0), (Value.int .i64 30)])
 ) (
 ret (.nxt [(zc vs 0), (zc vs 1), (zc vs 2)])
 )
 ) fun o => nx o zbab
 ) (
 ret (.nxt [(zc vs 0), (zc vs 1), (zc vs 2), (zc vs 3)])
 )
 ) fun o => nx o zqe
def ztb (x0 x1 : V) : M V :=
 zb (
 zb (newc [Value.bool false, Value.int .i64 0, Value.string ⟨#[]⟩]) fun x4 =>
 zb (za (build [Value.bool false, Value.int .i64 0, Value.string ⟨#[]⟩] [])) fun x11 =>
 zb (newc [Value.bool false, Value.int .i64 0, Value.string ⟨#[]⟩]) fun x7 =>
 zb (stn 3 x7 x11) fun _ =>
 zb (
 zb (za (zct x0)) fun x14 =>
 zb (za (zj .geq x1 x14)) fun x15 =>
 zi x15 (
 zb (ldn 3 x7) fun x16 =>
 zb (stn 3 x4 x16) fun _ =>
 ret (.ret [x4, (Value.int .i64 0), (Value.int .i64 30)])
 ) (
 ret (.nxt [x0, x1, x4, x7])
 )
 ) fun o => nx o zir
 ) fun o => zcf o fun vs => zb (ldn 3 (zc vs 0)) fun r0 => ret (zca [r0, (zc vs 1), (zc vs 2)])
def zbds : Hint := (.seq [] .leaf (.seq [] .leaf (.seq [0, 1, 4, 7] (.seq [] .leaf (.cond (.seq [] .leaf .leaf) .leaf)) (.seq [0, 1, 4, 7] (.seq [] .leaf (.cond (.seq [0, 1, 4] (.seq [] .leaf (.cond (.seq [] .leaf .leaf) .leaf)) (.seq [] .leaf (.seq [1, 4, 8] (.seq [] .leaf (.blk (.loop [0, 1, 4, 8, 9] (.seq [0, 1, 4, 8, 9] (.seq [] .leaf (.cond .leaf .leaf)) (.seq [0, 1, 4, 8, 9] (.blk .leaf) .leaf))))) (.seq [] .leaf .leaf)))) .leaf)) (.seq [0, 1, 4, 7] (.seq [] .leaf (.cond (.seq [] .leaf .leaf) .leaf)) (.seq [0, 1, 4, 7] (.seq [] .leaf (.cond (.seq [] .leaf .leaf) .leaf)) (.seq [] (.reg [0, 1, 2, 3, 4, 5, 6, 7, 8, 9, 10, 11, 12] []) (.seq [0, 1, 4, 10] (.seq [] .leaf (.cond (.seq [] .leaf .leaf) .leaf)) (.seq [] .leaf .leaf)))))))))
def ztc (l : List V) : M V := match l with | [x0, x1] => ztb x0 x1 | _ => fail
theorem zbn3 (x0 x1 : V) : zcs Tryz.prog (ovr [] noC) zx3 zbds [x0, x1] = ztb x0 x1 := by kernel_rfl
theorem zbn4 : zy Tryz.prog zx3 (ztc) := zh (σ := ovr [] noC) (hint := zbds) (by kernel_rfl) ze fun l H r H' h => by
 unfold ztc at h; split at h
 · rw [zbn3]; exact h
 · exact (zf h).elim
def z5s (vs_6 : List V) : M Out :=
 zb (ldn 3 (zc vs_6 5)) fun x48 =>
 zb (zd7 3 1 (rep 1 [Value.bool false, Value.int .i64 0, Value.string ⟨#[]⟩]) [(0, 3, x48)]) fun x49 =>
 zb (ze6 3 32 (zc vs_6 3) x49) fun x50 =>
 ret (.nxt [(zc vs_6 0), (zc vs_6 1), (zc vs_6 2), x50, (zc vs_6 6), (zc vs_6 4)])
def z5t (vs_7 : List V) : M Out :=
 zb (za (zj .add (zc vs_7 5) (Value.int .i64 1))) fun x34 =>
 ret (.nxt [(zc vs_7 0), (zc vs_7 1), (zc vs_7 2), (zc vs_7 3), (zc vs_7 4), x34])
def z5u (vs_5 : List V) : M Out :=
 zb (
 zb (
 zb (ztc [(zc vs_5 0), (zc vs_5 4)]) fun x38 =>
 zb (za (ext 0 x38)) fun x39 =>
 zb (za (ext 1 x38)) fun x40 =>
 zb (za (ext 2 x38)) fun x41 =>
 zb (newc [Value.bool false, Value.int .i64 0, Value.string ⟨#[]⟩]) fun x8 =>
 zb (stn 3 x8 x39) fun _ =>
 zb (
 zb (za (zj .neq x41 (Value.int .i64 0))) fun x43 =>
 zi x43 (
 zb (zhj [(zc vs_5 4), x41]) fun x46 =>
 zb (stn 2 (zc vs_5 1) x46) fun _ =>
 ret (.ret [(Value.slice none 0 0), (zc vs_5 1)])
 ) (
 ret (.nxt [(zc vs_5 0), (zc vs_5 1), (zc vs_5 2), (zc vs_5 3), (zc vs_5 5), x8, x40])
 )
 ) fun o => nx o z5s
 ) fun o => ret (zw 1 o)
 ) fun o => nx o z5t
def zqw (vs_4 : List V) : M Out :=
 zb (
 zb (za (zj .lss (zc vs_4 5) (zc vs_4 2))) fun x32 =>
 zi x32 (
 ret (.nxt [(zc vs_4 0), (zc vs_4 1), (zc vs_4 2), (zc vs_4 3), (zc vs_4 4), (zc vs_4 5)])
 ) (
 ret (.brk 0 [(zc vs_4 0), (zc vs_4 1), (zc vs_4 3), (zc vs_4 4)])
 )
 ) fun o => nx o z5u
def z5v (vs_9 : List V) : M Out :=
 zb (za (build [Value.int .i64 0, Value.int .i64 0] [])) fun x59 =>
 zb (stn 2 (zc vs_9 0) x59) fun _ =>
 ret (.ret [(zc vs_9 1), (zc vs_9 0)])
def zv3 (vs_8 : List V) : M Out :=
 zb (
 zb (za (zct (zc vs_8 0))) fun x54 =>
 zb (za (zj .lss (zc vs_8 3) x54)) fun x55 =>
 zi x55 (
 zb (zhj [(zc vs_8 3), (Value.int .i64 31)]) fun x57 =>
 zb (stn 2 (zc vs_8 1) x57) fun _ =>
 ret (.ret [(Value.slice none 0 0), (zc vs_8 1)])
 ) (
 ret (.nxt [(zc vs_8 1), (zc vs_8 2)])
 )
 ) fun o => nx o z5v
def z5w (vs_3 : List V) : M Out :=
 zb (
 zb (
 zce zcc zqw [(zc vs_3 0), (zc vs_3 1), (zc vs_3 2), (Value.slice none 0 0), (Value.int .i64 2), (Value.int .i64 0)]
 ) fun o => ret (zw 0 o)
 ) fun o => nx o zv3
def zv4 (vs_2 : List V) : M Out :=
 zb (za (zk1 (zc vs_2 0) (Value.int .i64 0))) fun x20 =>
 zb (za (cvi .i64 x20)) fun x21 =>
 zb (za (zj .mul x21 (Value.int .i64 256))) fun x22 =>
 zb (za (zk1 (zc vs_2 0) (Value.int .i64 1))) fun x24 =>
 zb (za (cvi .i64 x24)) fun x25 =>
 zb (za (zj .add x22 x25)) fun x26 =>
 zb (
 zb (za (zj .gtr x26 (Value.int .i64 1000))) fun x28 =>
 zi x28 (
 zb (zhj [(Value.int .i64 0), (Value.int .i64 2)]) fun x29 =>
 zb (stn 2 (zc vs_2 1) x29) fun _ =>
 ret (.ret [(Value.slice none 0 0), (zc vs_2 1)])
 ) (
 ret (.nxt [(zc vs_2 0), (zc vs_2 1), x26])
 )
 ) fun o => nx o z5w
def zqx (vs : List V) : M Out :=
 zb (
 zb (za (zct (zc vs 0))) fun x16 =>
 zb (za (zj .lss x16 (Value.int .i64 2))) fun x17 =>
 zi x17 (
 zb (zhj [(Value.int .i64 0), (Value.int .i64 30)]) fun x18 =>
 zb (stn 2 (zc vs 1) x18) fun _ =>
 ret (.ret [(Value.slice none 0 0), (zc vs 1)])
 ) (
 ret (.nxt [(zc vs 0), (zc vs 1)])
 )
 ) fun o => nx o zv4
def ztd (x0 : V) : M V :=
 zb (
 zb (newc [Value.int .i64 0, Value.int .i64 0]) fun x3 =>
 zb (
 zb (za (zct x0)) fun x12 =>
 zb (za (zj .gtr x12 (Value.int .i64 65536))) fun x13 =>
 zi x13 (
 zb (zhj [(Value.int .i64 0), (Value.int .i64 2)]) fun x14 =>
 zb (stn 2 x3 x14) fun _ =>
 ret (.ret [(Value.slice none 0 0), x3])
 ) (
 ret (.nxt [x0, x3])
 )
 ) fun o => nx o zqx
 ) fun o => zcf o fun vs => zb (ldn 2 (zc vs 1)) fun r1 => ret (zca [(zc vs 0), r1])
def z7s : Hint := (.seq [] .leaf (.seq [0, 3] (.seq [] .leaf (.cond (.seq [] .leaf .leaf) .leaf)) (.seq [0, 3] (.seq [] .leaf (.cond (.seq [] .leaf .leaf) .leaf)) (.seq [] (.reg [0, 1, 2, 3, 4, 5, 6, 7, 8] []) (.seq [0, 3, 4] (.seq [] .leaf (.cond (.seq [] .leaf .leaf) .leaf)) (.seq [] .leaf (.seq [] .leaf (.seq [0, 3, 5, 6] (.seq [] .leaf (.blk (.loop [0, 3, 4, 5, 6, 7] (.seq [0, 3, 4, 5, 6, 7] (.seq [] .leaf (.cond .leaf .leaf)) (.seq [0, 3, 4, 5, 6, 7] (.blk (.seq [] .leaf (.seq [0, 3, 4, 5, 7, 8, 9] (.seq [] .leaf (.cond (.seq [] .leaf .leaf) .leaf)) (.seq [] .leaf .leaf)))) .leaf))))) (.seq [3, 5] (.seq [] .leaf (.cond (.seq [] .leaf .leaf) .leaf)) (.seq [] .leaf .leaf))))))))))
def zoo (l : List V) : M V := match l with | [x0] => ztd x0 | _ => fail
def z7t : zp := ovr [(zvt, zhj), (zx3, ztc)] noC
theorem zbjk (x0 : V) : zcs Tryz.prog (z7t) zt4 z7s [x0] = ztd x0 := by kernel_rfl
theorem zbjl : zy Tryz.prog zt4 (zoo) := zh (σ := z7t) (hint := z7s) (by kernel_rfl) (zd zbk8 (zd zbn4 ze)) fun l H r H' h => by
 unfold zoo at h; split at h
 · rw [zbjk]; exact h
 · exact (zf h).elim
def z23 (vs_4 : List V) : M Out :=
 zb (za (zj .add (zc vs_4 2) (Value.int .i64 1))) fun x19 =>
 ret (.nxt [(zc vs_4 0), (zc vs_4 1), x19])
def zll (vs_3 : List V) : M Out :=
 zb (
 zb (
 zb (za (zv 3 (zc vs_3 0) (zc vs_3 2))) fun x22 =>
 zb (za (zg 0 x22)) fun x23 =>
 zb (z7 x23) fun x24 =>
 zb (gd x24 false (za (some (zc vs_3 0)))) fun x26 =>
 zb (gd x24 false (za (some (zc vs_3 2)))) fun x27 =>
 zb (gd x24 false (za (zv 3 x26 x27))) fun x28 =>
 zb (gd x24 false (za (zg 1 x28))) fun x29 =>
 zb (gd x24 false (z7 x29)) fun x30 =>
 zb (gd x24 false (za (zj .lss x30 (Value.int .i64 1)))) fun x31 =>
 zb (za (zcq x24 (Value.bool true) x31)) fun x32 =>
 zb (gd x32 false (za (some (zc vs_3 0)))) fun x34 =>
 zb (gd x32 false (za (some (zc vs_3 2)))) fun x35 =>
 zb (gd x32 false (za (zv 3 x34 x35))) fun x36 =>
 zb (gd x32 false (za (zg 1 x36))) fun x37 =>
 zb (gd x32 false (z7 x37)) fun x38 =>
 zb (gd x32 false (za (zj .gtr x38 (Value.int .i64 1073741824)))) fun x39 =>
 zb (za (zcq x32 (Value.bool true) x39)) fun x40 =>
 zi x40 (
 ret (.ret [(Value.int .i64 0), (Value.int .i64 0), (Value.bool false)])
 ) (
 ret (.nxt [(zc vs_3 0), (zc vs_3 1), (zc vs_3 2)])
 )
 ) fun o => ret (zw 1 o)
 ) fun o => nx o z23
def zix (vs_2 : List V) : M Out :=
 zb (
 zb (za (zj .add (zc vs_2 1) (Value.int .i64 2))) fun x16 =>
 zb (za (zj .lss (zc vs_2 2) x16)) fun x17 =>
 zi x17 (
 ret (.nxt [(zc vs_2 0), (zc vs_2 1), (zc vs_2 2)])
 ) (
 ret (.brk 0 [(zc vs_2 0), (zc vs_2 1)])
 )
 ) fun o => nx o zll
def z24 (vs_5 : List V) : M Out :=
 zb (za (zv 3 (zc vs_5 0) (zc vs_5 1))) fun x43 =>
 zb (za (zg 1 x43)) fun x44 =>
 zb (za (zj .add (zc vs_5 1) (Value.int .i64 1))) fun x48 =>
 zb (za (zv 3 (zc vs_5 0) x48)) fun x49 =>
 zb (za (zg 1 x49)) fun x50 =>
 zb (z7 x44) fun x45 =>
 zb (z7 x50) fun x51 =>
 ret (.ret [x45, x51, (Value.bool true)])
def z25 (vs : List V) : M Out :=
 zb (
 zb (
 zce zcc zix [(zc vs 0), (zc vs 1), (zc vs 1)]
 ) fun o => ret (zw 0 o)
 ) fun o => nx o z24
def zmq (x0 x1 : V) : M V :=
 zb (
 zb (
 zb (za (zb9 x0)) fun x9 =>
 zb (za (zj .add x1 (Value.int .i64 2))) fun x11 =>
 zb (za (zj .lss x9 x11)) fun x12 =>
 zi x12 (
 ret (.ret [(Value.int .i64 0), (Value.int .i64 0), (Value.bool false)])
 ) (
 ret (.nxt [x0, x1])
 )
 ) fun o => nx o z25
 ) fun o => zcf o fun vs => ret (zca [(zc vs 0), (zc vs 1), (zc vs 2)])
def z5x : Hint := (.seq [] .leaf (.seq [0, 1] (.seq [] .leaf (.cond (.seq [] .leaf .leaf) .leaf)) (.seq [0, 1] (.seq [] .leaf (.blk (.loop [0, 1, 7] (.seq [0, 1, 7] (.seq [] .leaf (.cond .leaf .leaf)) (.seq [0, 1, 7] (.blk (.seq [] .leaf (.cond (.seq [] .leaf .leaf) .leaf))) .leaf))))) (.seq [] (.reg [0, 1, 2, 3, 5, 6, 7, 8, 9, 4, 11, 10, 12, 13] []) .leaf))))
def zmr (l : List V) : M V := match l with | [x0, x1] => zmq x0 x1 | _ => fail
theorem zbgw (x0 x1 : V) : zcs Tryz.prog (ovr [] noC) zse z5x [x0, x1] = zmq x0 x1 := by kernel_rfl
theorem zbgx : zy Tryz.prog zse (zmr) := zh (σ := ovr [] noC) (hint := z5x) (by kernel_rfl) ze fun l H r H' h => by
 unfold zmr at h; split at h
 · rw [zbgw]; exact h
 · exact (zf h).elim
def zy2 (vs_3 : List V) : M Out :=
 zb (za (zj .add (zc vs_3 2) (Value.int .i64 1))) fun x14 =>
 ret (.nxt [(zc vs_3 0), (zc vs_3 1), x14])
def zq8 (vs_2 : List V) : M Out :=
 zb (
 zb (
 zb (za (zu (zc vs_2 0))) fun x16 =>
 zb (za (zg 4 x16)) fun x17 =>
 zb (z7 x17) fun x18 =>
 zb (za (zv 5 x18 (zc vs_2 2))) fun x20 =>
 zb (za (zg 0 x20)) fun x21 =>
 zb (z7 x21) fun x22 =>
 zb (za (zj .eql x22 (zc vs_2 1))) fun x24 =>
 zi x24 (
 ret (.ret [(zc vs_2 2)])
 ) (
 ret (.nxt [(zc vs_2 0), (zc vs_2 1), (zc vs_2 2)])
 )
 ) fun o => ret (zw 1 o)
 ) fun o => nx o zy2
def zmb (vs : List V) : M Out :=
 zb (
 zb (za (zu (zc vs 0))) fun x8 =>
 zb (za (zg 4 x8)) fun x9 =>
 zb (z7 x9) fun x10 =>
 zb (za (zb9 x10)) fun x11 =>
 zb (za (zj .lss (zc vs 2) x11)) fun x12 =>
 zi x12 (
 ret (.nxt [(zc vs 0), (zc vs 1), (zc vs 2)])
 ) (
 ret (.brk 0 [])
 )
 ) fun o => nx o zq8
def zy3 (vs_4 : List V) : M Out :=
 ret (.ret [(Value.int .i64 (-1))])
def znh (x0 x1 : V) : M V :=
 zb (
 zb (
 zb (
 zce zcc zmb [x0, x1, (Value.int .i64 0)]
 ) fun o => ret (zw 0 o)
 ) fun o => nx o zy3
 ) fun o => zcf o fun vs => ret (zca [(zc vs 0)])
def z0w : Hint := (.seq [] .leaf (.seq [] (.seq [] .leaf (.blk (.loop [0, 1, 5] (.seq [0, 1, 5] (.seq [] .leaf (.cond .leaf .leaf)) (.seq [0, 1, 5] (.blk (.seq [] .leaf (.cond (.seq [] .leaf .leaf) .leaf))) .leaf))))) (.seq [] .leaf .leaf)))
def zes (l : List V) : M V := match l with | [x0, x1] => znh x0 x1 | _ => fail
theorem zbdt (x0 x1 : V) : zcs Tryz.prog (ovr [] noC) zib z0w [x0, x1] = znh x0 x1 := by kernel_rfl
theorem zte : zy Tryz.prog zib (zes) := zh (σ := ovr [] noC) (hint := z0w) (by kernel_rfl) ze fun l H r H' h => by
 unfold zes at h; split at h
 · rw [zbdt]; exact h
 · exact (zf h).elim
def zni (x0 x1 : V) : M V :=
 zb (
 zxv fun h0 =>
 zb (za (zu x0)) fun x7 =>
 zb (za (zg 4 x7)) fun x8 =>
 zb (za (zu x0)) fun x14 =>
 zb (za (zg 4 x14)) fun x15 =>
 zb (za (zj .add x1 (Value.int .i64 1))) fun x18 =>
 zb (z7 x8) fun x9 =>
 zb (za (zh7 5 x9 none (some x1))) fun x11 =>
 zb (z7 x15) fun x16 =>
 zb (za (zh7 5 x16 (some x18) none)) fun x19 =>
 zfq (zd7 5 0 (rep 0 [Value.int .i64 0, Value.int .i64 0, Value.int .i64 0, Value.int .i64 0, Value.string ⟨#[]⟩]) []) fun ha x5 h1 =>
 zfq (ze6 5 48 x5 x11) fun ha_2 x12 h2 =>
 zfq (ze6 5 48 x12 x19) fun ha_3 x20 h3 =>
 zb (za (zu x0)) fun x21 =>
 zb (za (zg 4 x21)) fun x22 =>
 zfq (st1 x22 x20) fun ha_4 u h4 =>
 zdc (chk (z7 x8) h1 x9) <|
 zdc (chk (z7 x15) h1 x16) <|
 zdc (chk (z7 x15) h2 x16) <|
 ret (.nxt [])
 ) fun o => zcf o fun vs => ret (zca [])
def z0x : Hint := (.reg [0, 2, 3, 4, 6, 9, 10, 11, 13, 14, 5, 7, 12, 15, 1, 8, 16, 17, 18, 19] [])
def zgh (l : List V) : M V := match l with | [x0, x1] => zni x0 x1 | _ => fail
theorem zbdu (x0 x1 : V) : zcs Tryz.prog (ovr [] noC) zkw z0x [x0, x1] = zni x0 x1 := by kernel_rfl
theorem z0y : zy Tryz.prog zkw (zgh) := zh (σ := ovr [] noC) (hint := z0x) (by kernel_rfl) ze fun l H r H' h => by
 unfold zgh at h; split at h
 · rw [zbdu]; exact h
 · exact (zf h).elim
def zq9 (vs_6 : List V) : M Out :=
 zb (za (zu (zc vs_6 0))) fun x91 =>
 zb (za (zg 0 x91)) fun x92 =>
 zb (za (zg 1 (zc vs_6 3))) fun x94 =>
 zb (za (zh7 3 (zc vs_6 1) (some (Value.int .i64 2)) none)) fun x100 =>
 zb (z7 x92) fun x93 =>
 zb (z7 x94) fun x95 =>
 zb (za (zv 3 x93 x95)) fun x96 =>
 zb (za (zg 0 x96)) fun x97 =>
 zb (z7 x97) fun x98 =>
 ret (.ret [(zc vs_6 2), x98, x100, (Value.int .i64 0)])
def zy4 (vs_5 : List V) : M Out :=
 zb (za (zg 2 (zc vs_5 4))) fun x67 =>
 zb (z7 x67) fun x68 =>
 zb (za (zj .add x68 (Value.int .i64 1))) fun x69 =>
 zb (za (zg 2 (zc vs_5 4))) fun x70 =>
 zb (st1 x70 x69) fun _ =>
 zb (za (zu (zc vs_5 0))) fun x72 =>
 zb (za (zg 2 x72)) fun x73 =>
 zb (z7 x73) fun x74 =>
 zb (za (zg 3 (zc vs_5 4))) fun x75 =>
 zb (st1 x75 x74) fun _ =>
 zb (za (zu (zc vs_5 0))) fun x77 =>
 zb (za (zg 4 x77)) fun x78 =>
 zb (z7 x78) fun x79 =>
 zb (ldn 5 (zc vs_5 4)) fun x81 =>
 zb (za (zv 5 x79 (zc vs_5 3))) fun x82 =>
 zb (stn 5 x82 x81) fun _ =>
 zb (
 zb (za (zg 2 (zc vs_5 4))) fun x83 =>
 zb (z7 x83) fun x84 =>
 zb (za (zj .gtr x84 (Value.int .i64 1073741824))) fun x85 =>
 zi x85 (
 zb (zgh [(zc vs_5 0), (zc vs_5 3)]) fun x88 =>
 ret (.nxt [(zc vs_5 0), (zc vs_5 1), (zc vs_5 2), (zc vs_5 4)])
 ) (
 ret (.nxt [(zc vs_5 0), (zc vs_5 1), (zc vs_5 2), (zc vs_5 4)])
 )
 ) fun o => nx o zq9
def zy5 (vs_4 : List V) : M Out :=
 zb (
 zb (za (zg 2 (zc vs_4 5))) fun x64 =>
 zb (z7 x64) fun x65 =>
 zb (za (zj .neq (zc vs_4 3) x65)) fun x66 =>
 zi x66 (
 ret (.ret [(Value.int .i64 0), (Value.string ⟨#[]⟩), (Value.slice none 0 0), (Value.int .i64 250)])
 ) (
 ret (.nxt [(zc vs_4 0), (zc vs_4 1), (zc vs_4 2), (zc vs_4 4), (zc vs_4 5)])
 )
 ) fun o => nx o zy4
def zy6 (vs_3 : List V) : M Out :=
 zb (za (zu (zc vs_3 0))) fun x47 =>
 zb (za (zg 4 x47)) fun x48 =>
 zb (z7 x48) fun x49 =>
 zb (za (zv 5 x49 (zc vs_3 6))) fun x51 =>
 zb (ldn 5 x51) fun x52 =>
 zb (newc [Value.int .i64 0, Value.int .i64 0, Value.int .i64 0, Value.int .i64 0, Value.string ⟨#[]⟩]) fun x15 =>
 zb (stn 5 x15 x52) fun _ =>
 zb (
 zb (za (zg 4 x15)) fun x53 =>
 zb (za (zp0 (zc vs_3 1) none (some (zc vs_3 2)))) fun x57 =>
 zb (za (zp0 (zc vs_3 1) (some (zc vs_3 2)) none)) fun x61 =>
 zb (z7 x53) fun x54 =>
 zb (ziq [x54, x57]) fun x58 =>
 zb (za (zj .neq x58 x61)) fun x62 =>
 zi x62 (
 ret (.ret [(Value.int .i64 0), (Value.string ⟨#[]⟩), (Value.slice none 0 0), (Value.int .i64 20)])
 ) (
 ret (.nxt [(zc vs_3 0), (zc vs_3 3), (zc vs_3 4), (zc vs_3 5), (zc vs_3 6), x15])
 )
 ) fun o => nx o zy5
def zy7 (vs_2 : List V) : M Out :=
 zb (zes [(zc vs_2 0), (zc vs_2 4)]) fun x43 =>
 zb (
 zb (za (zj .lss x43 (Value.int .i64 0))) fun x45 =>
 zi x45 (
 ret (.ret [(Value.int .i64 0), (Value.string ⟨#[]⟩), (Value.slice none 0 0), (Value.int .i64 251)])
 ) (
 ret (.nxt [(zc vs_2 0), (zc vs_2 1), (zc vs_2 2), (zc vs_2 3), (zc vs_2 4), (zc vs_2 5), x43])
 )
 ) fun o => nx o zy6
def zy8 (vs : List V) : M Out :=
 zb (za (zp0 (zc vs 1) none (some (zc vs 2)))) fun x24 =>
 zb (zoo [x24]) fun x25 =>
 zb (za (ext 0 x25)) fun x26 =>
 zb (za (ext 1 x25)) fun x27 =>
 zb (newc [Value.int .i64 0, Value.int .i64 0]) fun x10 =>
 zb (stn 2 x10 x27) fun _ =>
 zb (zmr [x26, (Value.int .i64 0)]) fun x30 =>
 zb (za (ext 0 x30)) fun x31 =>
 zb (za (ext 1 x30)) fun x32 =>
 zb (za (ext 2 x30)) fun x33 =>
 zb (
 zb (za (zg 1 x10)) fun x34 =>
 zb (z7 x34) fun x35 =>
 zb (za (zj .neq x35 (Value.int .i64 0))) fun x36 =>
 zb (gd x36 false (za (some x33))) fun x38 =>
 zb (gd x36 false (za (un .not x38))) fun x39 =>
 zb (za (zcq x36 (Value.bool true) x39)) fun x40 =>
 zi x40 (
 ret (.ret [(Value.int .i64 0), (Value.string ⟨#[]⟩), (Value.slice none 0 0), (Value.int .i64 3)])
 ) (
 ret (.nxt [(zc vs 0), (zc vs 1), (zc vs 2), x26, x31, x32])
 )
 ) fun o => nx o zy7
def zj9 (x0 x1 : V) : M V :=
 zb (
 zb (za (zct x1)) fun x17 =>
 zb (za (zj .sub x17 (Value.int .i64 32))) fun x18 =>
 zb (
 zb (za (zj .lss x18 (Value.int .i64 0))) fun x20 =>
 zi x20 (
 ret (.ret [(Value.int .i64 0), (Value.string ⟨#[]⟩), (Value.slice none 0 0), (Value.int .i64 3)])
 ) (
 ret (.nxt [x0, x1, x18])
 )
 ) fun o => nx o zy8
 ) fun o => zcf o fun vs => ret (zca [(zc vs 0), (zc vs 1), (zc vs 2), (zc vs 3)])
def z0z : Hint := (.seq [] .leaf (.seq [] .leaf (.seq [0, 1, 8] (.seq [] .leaf (.cond (.seq [] .leaf .leaf) .leaf)) (.seq [] .leaf (.seq [] .leaf (.seq [0, 1, 8, 9, 11, 12] (.seq [] .leaf (.cond (.seq [] .leaf .leaf) .leaf)) (.seq [] .leaf (.seq [0, 1, 8, 9, 11, 12, 14] (.seq [] .leaf (.cond (.seq [] .leaf .leaf) .leaf)) (.seq [] .leaf (.seq [0, 9, 11, 12, 14, 15] (.seq [] (.reg [0, 2, 3, 4, 6, 7, 8, 1, 5, 9] []) (.cond (.seq [] .leaf .leaf) .leaf)) (.seq [0, 9, 11, 14, 15] (.seq [] .leaf (.cond (.seq [] .leaf .leaf) .leaf)) (.seq [] .leaf (.seq [] .leaf (.seq [] (.reg [0, 1, 2, 4, 3, 5, 6, 7] []) (.seq [0, 9, 11, 15] (.seq [] .leaf (.cond .leaf .leaf)) (.seq [] (.reg [0, 1, 2, 3, 5, 10, 11, 12, 4, 6, 7, 8, 9, 13, 14, 15] []) .leaf))))))))))))))))
def zh4 (l : List V) : M V := match l with | [x0, x1] => zj9 x0 x1 | _ => fail
def z00 : zp := ovr [(zt4, zoo), (zse, zmr), (zib, zes), (zp2, ziq), (zkw, zgh)] noC
theorem zbdv (x0 x1 : V) : zcs Tryz.prog (z00) zku z0z [x0, x1] = zj9 x0 x1 := by kernel_rfl
theorem zbdw : zy Tryz.prog zku (zh4) := zh (σ := z00) (hint := z0z) (by kernel_rfl) (zd zbjl (zd zbgx (zd zte (zd z7k (zd z0y ze))))) fun l H r H' h => by
 unfold zh4 at h; split at h
 · rw [zbdv]; exact h
 · exact (zf h).elim
def z01 (vs_4 : List V) : M Out :=
 zb (za (zj .add (zc vs_4 2) (Value.int .i64 1))) fun x16 =>
 ret (.nxt [(zc vs_4 0), (zc vs_4 1), x16])
def ztf (vs_3 : List V) : M Out :=
 zb (
 zb (
 zb (za (zv 3 (zc vs_3 0) (zc vs_3 2))) fun x19 =>
 zb (za (zv 3 (zc vs_3 1) (zc vs_3 2))) fun x23 =>
 zb (ldn 3 x19) fun x20 =>
 zb (ldn 3 x23) fun x24 =>
 zb (za (zia true (z82 [.b, .i, .s] x20 x24))) fun x25 =>
 zi x25 (
 ret (.ret [(Value.bool false)])
 ) (
 ret (.nxt [(zc vs_3 0), (zc vs_3 1), (zc vs_3 2)])
 )
 ) fun o => ret (zw 1 o)
 ) fun o => nx o z01
def znj (vs_2 : List V) : M Out :=
 zb (
 zb (za (zb9 (zc vs_2 0))) fun x13 =>
 zb (za (zj .lss (zc vs_2 2) x13)) fun x14 =>
 zi x14 (
 ret (.nxt [(zc vs_2 0), (zc vs_2 1), (zc vs_2 2)])
 ) (
 ret (.brk 0 [])
 )
 ) fun o => nx o ztf
def z02 (vs_5 : List V) : M Out :=
 ret (.ret [(Value.bool true)])
def z03 (vs : List V) : M Out :=
 zb (
 zb (
 zce zcc znj [(zc vs 0), (zc vs 1), (Value.int .i64 0)]
 ) fun o => ret (zw 0 o)
 ) fun o => nx o z02
def zlm (x0 x1 : V) : M V :=
 zb (
 zb (
 zb (za (zb9 x0)) fun x7 =>
 zb (za (zb9 x1)) fun x9 =>
 zb (za (zj .neq x7 x9)) fun x10 =>
 zi x10 (
 ret (.ret [(Value.bool false)])
 ) (
 ret (.nxt [x0, x1])
 )
 ) fun o => nx o z03
 ) fun o => zcf o fun vs => ret (zca [(zc vs 0)])
def z26 : Hint := (.seq [] .leaf (.seq [0, 1] (.seq [] .leaf (.cond (.seq [] .leaf .leaf) .leaf)) (.seq [] (.seq [] .leaf (.blk (.loop [0, 1, 5] (.seq [0, 1, 5] (.seq [] .leaf (.cond .leaf .leaf)) (.seq [0, 1, 5] (.blk (.seq [] (.reg [0, 1, 2, 4, 5, 6, 3, 7, 8] []) (.cond (.seq [] .leaf .leaf) .leaf))) .leaf))))) (.seq [] .leaf .leaf))))
def zfy (l : List V) : M V := match l with | [x0, x1] => zlm x0 x1 | _ => fail
theorem zbe2 (x0 x1 : V) : zcs Tryz.prog (ovr [] noC) zi5 z26 [x0, x1] = zlm x0 x1 := by kernel_rfl
theorem z27 : zy Tryz.prog zi5 (zfy) := zh (σ := ovr [] noC) (hint := z26) (by kernel_rfl) ze fun l H r H' h => by
 unfold zfy at h; split at h
 · rw [zbe2]; exact h
 · exact (zf h).elim
def zpc (x0 : V) : M V :=
 zb (
 zb (zd7 3 0 (rep 0 [Value.bool false, Value.int .i64 0, Value.string ⟨#[]⟩]) []) fun x4 =>
 zb (ze6 3 32 x4 x0) fun x6 =>
 zb (za (build [Value.bool false, Value.int .i64 0, Value.string ⟨#[]⟩] [(1, 1, (Value.int .i64 (-77)))])) fun x8 =>
 zb (zd7 3 1 (rep 1 [Value.bool false, Value.int .i64 0, Value.string ⟨#[]⟩]) [(0, 3, x8)]) fun x9 =>
 zb (ze6 3 32 x6 x9) fun x10 =>
 zb (za (zb9 x0)) fun x13 =>
 zb (za (zh7 3 x10 none (some x13))) fun x14 =>
 ret (.ret [x14])
 ) fun o => zcf o fun vs => ret (zca [(zc vs 0)])
def z28 : Hint := (.seq [] .leaf (.seq [] .leaf (.seq [] .leaf (.seq [] .leaf .leaf))))
def ziy (l : List V) : M V := match l with | [x0] => zpc x0 | _ => fail
theorem zbe3 (x0 : V) : zcs Tryz.prog (ovr [] noC) zl2 z28 [x0] = zpc x0 := by kernel_rfl
theorem zbe4 : zy Tryz.prog zl2 (ziy) := zh (σ := ovr [] noC) (hint := z28) (by kernel_rfl) ze fun l H r H' h => by
 unfold ziy at h; split at h
 · rw [zbe3]; exact h
 · exact (zf h).elim
def zjb (vs_2 : List V) : M Out :=
 ret (.ret [(zc vs_2 0)])
def zjc (vs : List V) : M Out :=
 zb (
 zb (za (capV (zc vs 0))) fun x10 =>
 zb (za (zb9 (zc vs 0))) fun x12 =>
 zb (za (zj .sub x10 x12)) fun x13 =>
 zb (za (zj .sub (zc vs 1) x13)) fun x14 =>
 zb (za (zj .gtr x14 (Value.int .i64 0))) fun x16 =>
 zi x16 (
 zb (za (capV (zc vs 0))) fun x19 =>
 zb (za (zh7 3 (zc vs 0) none (some x19))) fun x20 =>
 zb (appZ 3 32 [Value.bool false, Value.int .i64 0, Value.string ⟨#[]⟩] x20 x14) fun x22 =>
 zb (za (zb9 (zc vs 0))) fun x24 =>
 zb (za (zh7 3 x22 none (some x24))) fun x25 =>
 ret (.nxt [x25])
 ) (
 ret (.nxt [(zc vs 0)])
 )
 ) fun o => nx o zjb
def zd8 (x0 x1 : V) : M V :=
 zb (
 zb (
 zb (za (zj .lss x1 (Value.int .i64 0))) fun x6 =>
 zi x6 (
 zb (za (some (Value.iface zbiu (Value.string ⟨#[99, 97, 110, 110, 111, 116, 32, 98, 101, 32, 110, 101, 103, 97, 116, 105, 118, 101]⟩)))) fun x7 =>
 zb (za ((none : Option V))) fun _ =>
 ret (.nxt [x0, x1])
 ) (
 ret (.nxt [x0, x1])
 )
 ) fun o => nx o zjc
 ) fun o => zcf o fun vs => ret (zca [(zc vs 0)])
def zjn : Hint := (.seq [] .leaf (.seq [0, 1] (.seq [] .leaf (.cond .leaf .leaf)) (.seq [0] (.seq [] .leaf (.seq [] .leaf (.cond .leaf .leaf))) (.seq [] .leaf .leaf))))
def zdn (l : List V) : M V := match l with | [x0, x1] => zd8 x0 x1 | _ => fail
theorem zr1 (x0 x1 : V) : zcs Tryz.prog (ovr [] noC) zfn zjn [x0, x1] = zd8 x0 x1 := by kernel_rfl
theorem zr2 : zy Tryz.prog zfn (zdn) := zh (σ := ovr [] noC) (hint := zjn) (by kernel_rfl) ze fun l H r H' h => by
 unfold zdn at h; split at h
 · rw [zr1]; exact h
 · exact (zf h).elim
def zic (vs_3 : List V) : M Out :=
 zb (za (zj .add (zc vs_3 4) (Value.int .i64 1))) fun x22 =>
 ret (.nxt [(zc vs_3 0), (zc vs_3 1), (zc vs_3 2), (zc vs_3 3), x22])
def zid (vs_2 : List V) : M Out :=
 zb (
 zb (
 zb (za (zv 1 (zc vs_2 2) (zc vs_2 4))) fun x13 =>
 zb (z7 x13) fun x14 =>
 zb (za (zb9 x14)) fun x17 =>
 zb (za (zj .add (zc vs_2 1) x17)) fun x18 =>
 zb (za (zj .lss x18 (Value.int .i64 0))) fun x20 =>
 zi x20 (
 zb (za (some (Value.iface zbiu (Value.string ⟨#[108, 101, 110, 32, 111, 117, 116, 32, 111, 102, 32, 114, 97, 110, 103, 101]⟩)))) fun x21 =>
 zb (za ((none : Option V))) fun _ =>
 ret (.nxt [(zc vs_2 0), x18, (zc vs_2 2), (zc vs_2 3), (zc vs_2 4)])
 ) (
 ret (.nxt [(zc vs_2 0), x18, (zc vs_2 2), (zc vs_2 3), (zc vs_2 4)])
 )
 ) fun o => ret (zw 1 o)
 ) fun o => nx o zic
def zfd (vs : List V) : M Out :=
 zb (za (zj .lss (zc vs 4) (zc vs 3))) fun x12 =>
 zb (
 zi x12 (
 ret (.nxt [(zc vs 0), (zc vs 1), (zc vs 2), (zc vs 3), (zc vs 4)])
 ) (
 ret (.brk 0 [(zc vs 0), (zc vs 1)])
 )
 ) fun o => nx o zid
def zie (vs_7 : List V) : M Out :=
 zb (za (zj .add (zc vs_7 3) (Value.int .i64 1))) fun x34 =>
 ret (.nxt [(zc vs_7 0), (zc vs_7 1), (zc vs_7 2), x34])
def zif (vs_6 : List V) : M Out :=
 zb (
 zb (
 zb (za (zv 1 (zc vs_6 1) (zc vs_6 3))) fun x29 =>
 zb (z7 x29) fun x30 =>
 zb (ze6 3 32 (zc vs_6 0) x30) fun x33 =>
 ret (.nxt [x33, (zc vs_6 1), (zc vs_6 2), (zc vs_6 3)])
 ) fun o => ret (zw 3 o)
 ) fun o => nx o zie
def zfe (vs_5 : List V) : M Out :=
 zb (za (zj .lss (zc vs_5 3) (zc vs_5 2))) fun x28 =>
 zb (
 zi x28 (
 ret (.nxt [(zc vs_5 0), (zc vs_5 1), (zc vs_5 2), (zc vs_5 3)])
 ) (
 ret (.brk 2 [(zc vs_5 0)])
 )
 ) fun o => nx o zif
def zig (vs_8 : List V) : M Out :=
 ret (.ret [(zc vs_8 0)])
def zih (vs_4 : List V) : M Out :=
 zb (zdn [(Value.slice none 0 0), (zc vs_4 1)]) fun x24 =>
 zb (
 zb (za (zb9 (zc vs_4 0))) fun x26 =>
 zb (
 zce zcc zfe [x24, (zc vs_4 0), x26, (Value.int .i64 0)]
 ) fun o => ret (zw 2 o)
 ) fun o => nx o zig
def zdy (x0 : V) : M V :=
 zb (
 zb (
 zb (za (zb9 x0)) fun x10 =>
 zb (
 zce zcc zfd [x0, (Value.int .i64 0), x0, x10, (Value.int .i64 0)]
 ) fun o => ret (zw 0 o)
 ) fun o => nx o zih
 ) fun o => zcf o fun vs => ret (zca [(zc vs 0)])
def zis : Hint := (.seq [] .leaf (.seq [] .leaf (.seq [0, 3] (.seq [] .leaf (.blk (.loop [0, 3, 9, 10, 11] (.seq [] .leaf (.seq [0, 3, 9, 10, 11] (.cond .leaf .leaf) (.seq [0, 3, 9, 10, 11] (.blk (.seq [] .leaf (.seq [] .leaf (.seq [] .leaf (.cond .leaf .leaf))))) .leaf)))))) (.seq [] .leaf (.seq [6] (.seq [] .leaf (.blk (.loop [6, 25, 26, 27] (.seq [] .leaf (.seq [6, 25, 26, 27] (.cond .leaf .leaf) (.seq [6, 25, 26, 27] (.blk (.seq [] .leaf .leaf)) .leaf)))))) (.seq [] .leaf .leaf))))))
def zdh (l : List V) : M V := match l with | [x0] => zdy x0 | _ => fail
def zit : zp := ovr [(zfn, zdn)] noC
theorem zqf (x0 : V) : zcs Tryz.prog (zit) ze8 zis [x0] = zdy x0 := by kernel_rfl
theorem zqg : zy Tryz.prog ze8 (zdh) := zh (σ := zit) (hint := zis) (by kernel_rfl) (zd zr2 ze) fun l H r H' h => by
 unfold zdh at h; split at h
 · rw [zqf]; exact h
 · exact (zf h).elim
def z7u (vs_7 : List V) : M Out :=
 zb (za (zj .sub (zc vs_7 3) (Value.int .i64 8))) fun x32 =>
 ret (.nxt [(zc vs_7 0), (zc vs_7 1), (zc vs_7 2), x32, (zc vs_7 4), (zc vs_7 5), (zc vs_7 6)])
def z7v (vs_6 : List V) : M Out :=
 zb (
 zb (
 zb (za (zg 1 (zc vs_6 2))) fun x34 =>
 zb (z7 x34) fun x35 =>
 zb (za (cvi .u64 x35)) fun x36 =>
 zb (za (zj .shr x36 (zc vs_6 3))) fun x38 =>
 zb (za (cvi .u8 x38)) fun x39 =>
 zb (zd7 1 1 (rep 1 [Value.int .u8 0]) [(0, 1, x39)]) fun x40 =>
 zb (ze6 1 1 (zc vs_6 0) x40) fun x41 =>
 ret (.nxt [x41, (zc vs_6 1), (zc vs_6 2), (zc vs_6 3), (zc vs_6 4), (zc vs_6 5), (zc vs_6 6)])
 ) fun o => ret (zw 4 o)
 ) fun o => nx o z7u
def ztg (vs_5 : List V) : M Out :=
 zb (
 zb (za (zj .geq (zc vs_5 3) (Value.int .i64 0))) fun x30 =>
 zi x30 (
 ret (.nxt [(zc vs_5 0), (zc vs_5 1), (zc vs_5 2), (zc vs_5 3), (zc vs_5 4), (zc vs_5 5), (zc vs_5 6)])
 ) (
 ret (.brk 3 [(zc vs_5 0), (zc vs_5 1), (zc vs_5 4), (zc vs_5 5), (zc vs_5 6)])
 )
 ) fun o => nx o z7v
def zhp (vs_4 : List V) : M Out :=
 zi (zc vs_4 6) (
 ret (.ret [(Value.string ⟨#[]⟩), (Value.int .i64 4)])
 ) (
 zb (za (zb9 (zc vs_4 0))) fun x66 =>
 zb (za (zj .gtr x66 (Value.int .i64 65536))) fun x67 =>
 zi x67 (
 ret (.nxt [(zc vs_4 0), (Value.bool true), (zc vs_4 3), (zc vs_4 4), (zc vs_4 5)])
 ) (
 zb (za (zg 0 (zc vs_4 2))) fun x69 =>
 zb (z7 x69) fun x70 =>
 zi x70 (
 zxv fun h0 =>
 zb (za (zg 2 (zc vs_4 2))) fun x72 =>
 zb (za (zg 2 (zc vs_4 2))) fun x77 =>
 zb (za (zg 2 (zc vs_4 2))) fun x83 =>
 zb (z7 x72) fun x73 =>
 zb (za (zct x73)) fun x74 =>
 zb (za (zj .shr x74 (Value.int .u64 8))) fun x75 =>
 zb (za (cvi .u8 x75)) fun x76 =>
 zb (z7 x77) fun x78 =>
 zb (za (zct x78)) fun x79 =>
 zb (za (cvi .u8 x79)) fun x80 =>
 zb (z7 x83) fun x84 =>
 zfq (zd7 1 3 (rep 3 [Value.int .u8 0]) [(0, 1, (Value.int .u8 36)), (1, 1, x76), (2, 1, x80)]) fun ha x81 h1 =>
 zfq (ze6 1 1 (zc vs_4 0) x81) fun ha_2 x82 h2 =>
 zfq (appS x82 x84) fun ha_3 x85 h3 =>
 zdc (chk (z7 x83) h1 x84) <|
 zdc (chk (z7 x83) h2 x84) <|
 ret (.nxt [x85, (zc vs_4 1), (zc vs_4 3), (zc vs_4 4), (zc vs_4 5)])
 ) (
 zb (zd7 1 1 (rep 1 [Value.int .u8 0]) [(0, 1, (Value.int .u8 35))]) fun x27 =>
 zb (ze6 1 1 (zc vs_4 0) x27) fun x28 =>
 zb (
 zce zcc ztg [x28, (zc vs_4 1), (zc vs_4 2), (Value.int .i64 56), (zc vs_4 3), (zc vs_4 4), (zc vs_4 5)]
 ) fun o => ret (zw 3 o)
 )
 )
 )
def zjd (vs_8 : List V) : M Out :=
 zb (za (zj .add (zc vs_8 4) (Value.int .i64 1))) fun x86 =>
 ret (.nxt [(zc vs_8 0), (zc vs_8 1), (zc vs_8 2), (zc vs_8 3), x86])
def z7w (vs_3 : List V) : M Out :=
 zb (
 zb (
 zb (za (zv 3 (zc vs_3 2) (zc vs_3 4))) fun x24 =>
 zb (ldn 3 x24) fun x25 =>
 zb (newc [Value.bool false, Value.int .i64 0, Value.string ⟨#[]⟩]) fun x7 =>
 zb (stn 3 x7 x25) fun _ =>
 zb (
 zb (
 zb (za (zg 0 x7)) fun x43 =>
 zb (z7 x43) fun x44 =>
 zb (gd x44 true (za (zg 1 x7))) fun x46 =>
 zb (gd x44 true (z7 x46)) fun x47 =>
 zb (gd x44 true (za (zj .neq x47 (Value.int .i64 0)))) fun x48 =>
 zb (gd x44 true (za (some x48))) fun x49 =>
 zb (gd x49 false (za (zg 2 x7))) fun x50 =>
 zb (gd x49 false (z7 x50)) fun x51 =>
 zb (gd x49 false (za (zct x51))) fun x52 =>
 zb (gd x49 false (za (zj .gtr x52 (Value.int .i64 65535)))) fun x53 =>
 zb (gd x44 true (za (zcq x49 (Value.bool true) x53))) fun x54 =>
 zb (za (zcq x44 x54 (Value.bool false))) fun x55 =>
 zi x55 (
 ret (.nxt [(zc vs_3 0), (zc vs_3 1), x7, (zc vs_3 2), (zc vs_3 3), (zc vs_3 4), x55])
 ) (
 zb (za (zg 0 x7)) fun x56 =>
 zb (z7 x56) fun x57 =>
 zb (za (un .not x57)) fun x58 =>
 zb (gd x58 true (za (zg 2 x7))) fun x60 =>
 zb (gd x58 true (z7 x60)) fun x61 =>
 zb (gd x58 true (za (zj .neq x61 (Value.string ⟨#[]⟩)))) fun x62 =>
 zb (za (zcq x58 x62 (Value.bool false))) fun x63 =>
 ret (.nxt [(zc vs_3 0), (zc vs_3 1), x7, (zc vs_3 2), (zc vs_3 3), (zc vs_3 4), x63])
 )
 ) fun o => nx o zhp
 ) fun o => ret (zw 2 o)
 ) fun o => ret (zw 1 o)
 ) fun o => nx o zjd
def zy9 (vs_2 : List V) : M Out :=
 zb (za (zj .lss (zc vs_2 4) (zc vs_2 3))) fun x23 =>
 zb (
 zi x23 (
 ret (.nxt [(zc vs_2 0), (zc vs_2 1), (zc vs_2 2), (zc vs_2 3), (zc vs_2 4)])
 ) (
 ret (.brk 0 [(zc vs_2 0), (zc vs_2 1)])
 )
 ) fun o => nx o z7w
def z7x (vs_10 : List V) : M Out :=
 zb (b2s (zc vs_10 0)) fun x94 =>
 ret (.ret [x94, (Value.int .i64 0)])
def zth (vs_9 : List V) : M Out :=
 zb (
 zb (gd (zc vs_9 1) false (za (some (zc vs_9 0)))) fun x89 =>
 zb (gd (zc vs_9 1) false (za (zb9 x89))) fun x90 =>
 zb (gd (zc vs_9 1) false (za (zj .gtr x90 (Value.int .i64 65536)))) fun x91 =>
 zb (za (zcq (zc vs_9 1) (Value.bool true) x91)) fun x92 =>
 zi x92 (
 ret (.ret [(Value.string ⟨#[]⟩), (Value.int .i64 2)])
 ) (
 ret (.nxt [(zc vs_9 0)])
 )
 ) fun o => nx o z7x
def z7y (vs : List V) : M Out :=
 zb (za (zb9 (zc vs 0))) fun x13 =>
 zb (za (zj .shr x13 (Value.int .u64 8))) fun x14 =>
 zb (za (cvi .u8 x14)) fun x15 =>
 zb (za (zb9 (zc vs 0))) fun x17 =>
 zb (za (cvi .u8 x17)) fun x18 =>
 zb (zd7 1 2 (rep 2 [Value.int .u8 0]) [(0, 1, x15), (1, 1, x18)]) fun x19 =>
 zb (
 zb (za (zb9 (zc vs 0))) fun x21 =>
 zb (
 zce zcc zy9 [x19, (Value.bool false), (zc vs 0), x21, (Value.int .i64 0)]
 ) fun o => ret (zw 0 o)
 ) fun o => nx o zth
def zu1 (x0 : V) : M V :=
 zb (
 zb (
 zb (za (zb9 x0)) fun x10 =>
 zb (za (zj .gtr x10 (Value.int .i64 1000))) fun x11 =>
 zi x11 (
 ret (.ret [(Value.string ⟨#[]⟩), (Value.int .i64 2)])
 ) (
 ret (.nxt [x0])
 )
 ) fun o => nx o z7y
 ) fun o => zcf o fun vs => ret (zca [(zc vs 0), (zc vs 1)])
def zbad : Hint := (.seq [] .leaf (.seq [0] (.seq [] .leaf (.cond (.seq [] .leaf .leaf) .leaf)) (.seq [] .leaf (.seq [] .leaf (.seq [4, 5] (.seq [] .leaf (.blk (.loop [4, 5, 20, 21, 22] (.seq [] .leaf (.seq [4, 5, 20, 21, 22] (.cond .leaf .leaf) (.seq [4, 5, 20, 21, 22] (.blk (.seq [] .leaf (.blk (.seq [4, 5, 7, 20, 21, 22, 42] (.seq [] .leaf (.cond .leaf .leaf)) (.cond (.seq [] .leaf .leaf) (.seq [] .leaf (.cond .leaf (.seq [] .leaf (.cond (.reg [0, 1, 6, 12, 2, 3, 4, 5, 7, 8, 9, 13, 10, 11, 14, 15] []) (.seq [] .leaf (.seq [] .leaf (.blk (.loop [4, 5, 7, 8, 20, 21, 22] (.seq [4, 5, 7, 8, 20, 21, 22] (.seq [] .leaf (.cond .leaf .leaf)) (.seq [4, 5, 7, 8, 20, 21, 22] (.blk .leaf) .leaf))))))))))))))) .leaf)))))) (.seq [4] (.seq [] .leaf (.cond (.seq [] .leaf .leaf) .leaf)) (.seq [] .leaf .leaf)))))))
def zqh (l : List V) : M V := match l with | [x0] => zu1 x0 | _ => fail
theorem zbk9 (x0 : V) : zcs Tryz.prog (ovr [] noC) zvs zbad [x0] = zu1 x0 := by kernel_rfl
theorem zbla : zy Tryz.prog zvs (zqh) := zh (σ := ovr [] noC) (hint := zbad) (by kernel_rfl) ze fun l H r H' h => by
 unfold zqh at h; split at h
 · rw [zbk9]; exact h
 · exact (zf h).elim
def z4o (x0 x1 : V) : M V :=
 zb (
 zb (zla [x0, x1]) fun x8 =>
 zb (za (zj .add x1 x8)) fun x9 =>
 ret (.ret [x9])
 ) fun o => zcf o fun vs => ret (zca [(zc vs 0)])
def zbjm : Hint := (.seq [] .leaf (.seq [] .leaf .leaf))
def zza (l : List V) : M V := match l with | [x0, x1] => z4o x0 x1 | _ => fail
def zbjn : zp := ovr [(zrl, zla)] noC
theorem zbs0 (x0 x1 : V) : zcs Tryz.prog (zbjn) z37 zbjm [x0, x1] = z4o x0 x1 := by kernel_rfl
theorem zbs1 : zy Tryz.prog z37 (zza) := zh (σ := zbjn) (hint := zbjm) (by kernel_rfl) (zd z8t ze) fun l H r H' h => by
 unfold zza at h; split at h
 · rw [zbs0]; exact h
 · exact (zf h).elim
def z7z (vs : List V) : M Out :=
 zb (zza [(zc vs 0), (zc vs 1)]) fun x32 =>
 ret (.ret [x32, (Value.int .i64 0)])
def zu2 (x0 x1 x2 x3 x4 : V) : M V :=
 zb (
 zb (za (build [Value.bool false, Value.int .i64 0, Value.string ⟨#[]⟩] [(1, 1, x2)])) fun x17 =>
 zb (za (build [Value.bool false, Value.int .i64 0, Value.string ⟨#[]⟩] [(1, 1, x3)])) fun x19 =>
 zb (zd7 3 2 (rep 2 [Value.bool false, Value.int .i64 0, Value.string ⟨#[]⟩]) [(0, 3, x17), (3, 3, x19)]) fun x20 =>
 zb (zd7 1 3 (rep 3 [Value.slice none 0 0]) [(0, 1, x1), (1, 1, x20), (2, 1, x4)]) fun x22 =>
 zb (zdh [x22]) fun x23 =>
 zb (zqh [x23]) fun x24 =>
 zb (za (ext 0 x24)) fun x25 =>
 zb (za (ext 1 x24)) fun x26 =>
 zb (
 zb (za (zj .neq x26 (Value.int .i64 0))) fun x28 =>
 zi x28 (
 ret (.ret [(Value.string ⟨#[]⟩), x26])
 ) (
 ret (.nxt [x0, x25])
 )
 ) fun o => nx o z7z
 ) fun o => zcf o fun vs => ret (zca [(zc vs 0), (zc vs 1)])
def zbae : Hint := (.seq [] .leaf (.seq [] .leaf (.seq [0, 12] (.seq [] .leaf (.cond (.seq [] .leaf .leaf) .leaf)) (.seq [] .leaf .leaf))))
def zkl (l : List V) : M V := match l with | [x0, x1, x2, x3, x4] => zu2 x0 x1 x2 x3 x4 | _ => fail
def zbaf : zp := ovr [(ze8, zdh), (zvs, zqh), (z37, zza)] noC
theorem zblb (x0 x1 x2 x3 x4 : V) : zcs Tryz.prog (zbaf) zqm zbae [x0, x1, x2, x3, x4] = zu2 x0 x1 x2 x3 x4 := by kernel_rfl
theorem zbag : zy Tryz.prog zqm (zkl) := zh (σ := zbaf) (hint := zbae) (by kernel_rfl) (zd zqg (zd zbla (zd zbs1 ze))) fun l H r H' h => by
 unfold zkl at h; split at h
 · rw [zblb]; exact h
 · exact (zf h).elim
def zzb (vs : List V) : M Out :=
 zb (za (zu (zc vs 3))) fun x27 =>
 zb (za (zg 3 x27)) fun x28 =>
 zb (z7 x28) fun x29 =>
 zb (za (build [Value.bool false, Value.int .i64 0, Value.string ⟨#[]⟩] [(0, 1, (Value.bool true)), (2, 1, (Value.string ⟨#[114, 101, 112, 108, 121]⟩))])) fun x30 =>
 zb (zd7 3 1 (rep 1 [Value.bool false, Value.int .i64 0, Value.string ⟨#[]⟩]) [(0, 3, x30)]) fun x31 =>
 zb (zkl [x29, x31, (zc vs 0), (zc vs 1), (zc vs 2)]) fun x35 =>
 zb (za (ext 0 x35)) fun x36 =>
 zb (za (ext 1 x35)) fun x37 =>
 ret (.ret [x36, x37])
def znk (x0 x1 x2 x3 : V) : M V :=
 zb (
 zb (za (zu x0)) fun x12 =>
 zb (za (zg 6 x12)) fun x13 =>
 zb (zbr [x13, x1]) fun x15 =>
 zb (
 zb (
 zb (za (zia false (isNil .p x15))) fun x18 =>
 zi x18 (
 ret (.ret [(Value.string ⟨#[]⟩), (Value.int .i64 251)])
 ) (
 zb (za (zj .lss x2 (Value.int .i64 1))) fun x21 =>
 zb (gd x21 false (za (some x2))) fun x23 =>
 zb (gd x21 false (za (zj .gtr x23 (Value.int .i64 1073741824)))) fun x24 =>
 zb (za (zcq x21 (Value.bool true) x24)) fun x25 =>
 zi x25 (
 ret (.ret [(Value.string ⟨#[]⟩), (Value.int .i64 1)])
 ) (
 ret (.nxt [x1, x2, x3, x15])
 )
 )
 ) fun o => ret (zw 0 o)
 ) fun o => nx o zzb
 ) fun o => zcf o fun vs => ret (zca [(zc vs 0), (zc vs 1)])
def z04 : Hint := (.seq [] .leaf (.seq [] .leaf (.seq [1, 2, 3, 10] (.blk (.seq [] .leaf (.cond (.seq [] .leaf .leaf) (.seq [] .leaf (.cond (.seq [] .leaf .leaf) .leaf))))) (.seq [] .leaf .leaf))))
def zh5 (l : List V) : M V := match l with | [x0, x1, x2, x3] => znk x0 x1 x2 x3 | _ => fail
def z05 : zp := ovr [(zc9, zbr), (zqm, zkl)] noC
theorem zbdx (x0 x1 x2 x3 : V) : zcs Tryz.prog (z05) zkt z04 [x0, x1, x2, x3] = znk x0 x1 x2 x3 := by kernel_rfl
theorem zbdy : zy Tryz.prog zkt (zh5) := zh (σ := z05) (hint := z04) (by kernel_rfl) (zd zho (zd zbag ze)) fun l H r H' h => by
 unfold zh5 at h; split at h
 · rw [zbdx]; exact h
 · exact (zf h).elim
def zti (x0 x1 x2 x3 : V) : M V :=
 zb (
 zb (za (build [Value.bool false, Value.int .i64 0, Value.string ⟨#[]⟩] [(0, 1, (Value.bool true)), (2, 1, (Value.string ⟨#[114, 101, 112, 108, 121]⟩))])) fun x11 =>
 zb (zd7 3 1 (rep 1 [Value.bool false, Value.int .i64 0, Value.string ⟨#[]⟩]) [(0, 3, x11)]) fun x12 =>
 zb (zl7 [x0, x12, x1, x2, x3]) fun x16 =>
 zb (za (ext 0 x16)) fun x17 =>
 zb (za (ext 1 x16)) fun x18 =>
 ret (.ret [x17, x18])
 ) fun o => zcf o fun vs => ret (zca [(zc vs 0), (zc vs 1)])
def z70 : Hint := (.seq [] .leaf (.seq [] .leaf .leaf))
def zop (l : List V) : M V := match l with | [x0, x1, x2, x3] => zti x0 x1 x2 x3 | _ => fail
def z71 : zp := ovr [(zsd, zl7)] noC
theorem zbjo (x0 x1 x2 x3 : V) : zcs Tryz.prog (z71) zt8 z70 [x0, x1, x2, x3] = zti x0 x1 x2 x3 := by kernel_rfl
theorem zbjp : zy Tryz.prog zt8 (zop) := zh (σ := z71) (hint := z70) (by kernel_rfl) (zd zbc6 ze) fun l H r H' h => by
 unfold zop at h; split at h
 · rw [zbjo]; exact h
 · exact (zf h).elim
def zwf (vs_2 : List V) : M Out :=
 zb (za (zu (zc vs_2 0))) fun x23 =>
 zb (za (zg 4 x23)) fun x24 =>
 zb (z7 x24) fun x25 =>
 zb (za (zv 5 x25 (zc vs_2 4))) fun x27 =>
 zb (za (zg 4 x27)) fun x28 =>
 zb (z7 x28) fun x29 =>
 zb (zop [x29, (zc vs_2 1), (zc vs_2 2), (zc vs_2 3)]) fun x33 =>
 zb (za (ext 0 x33)) fun x34 =>
 zb (za (ext 1 x33)) fun x35 =>
 ret (.ret [x34, x35])
def zky (vs : List V) : M Out :=
 zb (
 zb (za (zj .lss (zc vs 2) (Value.int .i64 1))) fun x17 =>
 zb (gd x17 false (za (some (zc vs 2)))) fun x19 =>
 zb (gd x17 false (za (zj .gtr x19 (Value.int .i64 1073741824)))) fun x20 =>
 zb (za (zcq x17 (Value.bool true) x20)) fun x21 =>
 zi x21 (
 ret (.ret [(Value.string ⟨#[]⟩), (Value.int .i64 1)])
 ) (
 ret (.nxt [(zc vs 0), (zc vs 1), (zc vs 2), (zc vs 3), (zc vs 4)])
 )
 ) fun o => nx o zwf
def zmc (x0 x1 x2 x3 : V) : M V :=
 zb (
 zb (zes [x0, x1]) fun x13 =>
 zb (
 zb (za (zj .lss x13 (Value.int .i64 0))) fun x15 =>
 zi x15 (
 ret (.ret [(Value.string ⟨#[]⟩), (Value.int .i64 251)])
 ) (
 ret (.nxt [x0, x1, x2, x3, x13])
 )
 ) fun o => nx o zky
 ) fun o => zcf o fun vs => ret (zca [(zc vs 0), (zc vs 1)])
def zzc : Hint := (.seq [] .leaf (.seq [] .leaf (.seq [0, 1, 2, 3, 10] (.seq [] .leaf (.cond (.seq [] .leaf .leaf) .leaf)) (.seq [0, 1, 2, 3, 10] (.seq [] .leaf (.cond (.seq [] .leaf .leaf) .leaf)) (.seq [] .leaf .leaf)))))
def zg7 (l : List V) : M V := match l with | [x0, x1, x2, x3] => zmc x0 x1 x2 x3 | _ => fail
def zzd : zp := ovr [(zib, zes), (zt8, zop)] noC
theorem zba7 (x0 x1 x2 x3 : V) : zcs Tryz.prog (zzd) zjx zzc [x0, x1, x2, x3] = zmc x0 x1 x2 x3 := by kernel_rfl
theorem zba8 : zy Tryz.prog zjx (zg7) := zh (σ := zzd) (hint := zzc) (by kernel_rfl) (zd zte (zd zbjp ze)) fun l H r H' h => by
 unfold zg7 at h; split at h
 · rw [zba7]; exact h
 · exact (zf h).elim
def zpd (x0 x1 : V) : M V :=
 zb (
 zb (zfy [x0, x1]) fun x7 =>
 zb (gd x7 true (za (some x0))) fun x9 =>
 zb (gd x7 true (za (some x1))) fun x10 =>
 zb (gd x7 true (za (zb9 x10))) fun x11 =>
 zb (gd x7 true (za (zj .add x11 (Value.int .i64 1)))) fun x12 =>
 zb (gd x7 true (za (zh7 3 x9 none (some x12)))) fun x13 =>
 zb (gd x7 true (za (some x1))) fun x14 =>
 zb (gd x7 true (za (zb9 x14))) fun x15 =>
 zb (gd x7 true (za (zv 3 x13 x15))) fun x16 =>
 zb (gd x7 true (za (zg 1 x16))) fun x17 =>
 zb (gd x7 true (z7 x17)) fun x18 =>
 zb (gd x7 true (za (zj .eql x18 (Value.int .i64 (-77))))) fun x19 =>
 zb (za (zcq x7 x19 (Value.bool false))) fun x20 =>
 ret (.ret [x20])
 ) fun o => zcf o fun vs => ret (zca [(zc vs 0)])
def z29 : Hint := (.seq [] .leaf (.seq [] .leaf .leaf))
def ziz (l : List V) : M V := match l with | [x0, x1] => zpd x0 x1 | _ => fail
def z3a : zp := ovr [(zi5, zfy)] noC
theorem zbe5 (x0 x1 : V) : zcs Tryz.prog (z3a) zl3 z29 [x0, x1] = zpd x0 x1 := by kernel_rfl
theorem zbe6 : zy Tryz.prog zl3 (ziz) := zh (σ := z3a) (hint := z29) (by kernel_rfl) (zd z27 ze) fun l H r H' h => by
 unfold ziz at h; split at h
 · rw [zbe5]; exact h
 · exact (zf h).elim
def zwg (vs : List V) : M Out :=
 zb (za (zu (zc vs 0))) fun x12 =>
 zb (za (zg 6 x12)) fun x13 =>
 zb (zcb [x13, (zc vs 1)]) fun x15 =>
 ret (.ret [(Value.int .i64 0)])
def zmd (x0 x1 : V) : M V :=
 zb (
 zb (
 zb (za (zu x0)) fun x6 =>
 zb (za (zg 6 x6)) fun x7 =>
 zb (zbr [x7, x1]) fun x9 =>
 zb (za (zia false (isNil .p x9))) fun x10 =>
 zi x10 (
 ret (.ret [(Value.int .i64 251)])
 ) (
 ret (.nxt [x0, x1])
 )
 ) fun o => nx o zwg
 ) fun o => zcf o fun vs => ret (zca [(zc vs 0)])
def zze : Hint := (.seq [] .leaf (.seq [0, 1] (.seq [] .leaf (.cond (.seq [] .leaf .leaf) .leaf)) (.seq [] .leaf (.seq [] .leaf .leaf))))
def zg8 (l : List V) : M V := match l with | [x0, x1] => zmd x0 x1 | _ => fail
def zzf : zp := ovr [(zc9, zbr), (zdp, zcb)] noC
theorem zba9 (x0 x1 : V) : zcs Tryz.prog (zzf) zju zze [x0, x1] = zmd x0 x1 := by kernel_rfl
theorem zbba : zy Tryz.prog zju (zg8) := zh (σ := zzf) (hint := zze) (by kernel_rfl) (zd zho (zd zlj ze)) fun l H r H' h => by
 unfold zg8 at h; split at h
 · rw [zba9]; exact h
 · exact (zf h).elim
def zvi (vs : List V) : M Out :=
 zb (zgh [(zc vs 0), (zc vs 1)]) fun x13 =>
 ret (.ret [(Value.int .i64 0)])
def zkz (x0 x1 : V) : M V :=
 zb (
 zb (zes [x0, x1]) fun x8 =>
 zb (
 zb (za (zj .lss x8 (Value.int .i64 0))) fun x10 =>
 zi x10 (
 ret (.ret [(Value.int .i64 251)])
 ) (
 ret (.nxt [x0, x8])
 )
 ) fun o => nx o zvi
 ) fun o => zcf o fun vs => ret (zca [(zc vs 0)])
def zwh : Hint := (.seq [] .leaf (.seq [] .leaf (.seq [0, 5] (.seq [] .leaf (.cond (.seq [] .leaf .leaf) .leaf)) (.seq [] .leaf (.seq [] .leaf .leaf)))))
def zgo (l : List V) : M V := match l with | [x0, x1] => zkz x0 x1 | _ => fail
def zwi : zp := ovr [(zib, zes), (zkw, zgh)] noC
theorem z8z (x0 x1 : V) : zcs Tryz.prog (zwi) zjf zwh [x0, x1] = zkz x0 x1 := by kernel_rfl
theorem z80 : zy Tryz.prog zjf (zgo) := zh (σ := zwi) (hint := zwh) (by kernel_rfl) (zd zte (zd z0y ze)) fun l H r H' h => by
 unfold zgo at h; split at h
 · rw [z8z]; exact h
 · exact (zf h).elim
def zme (x0 x1 x2 : V) : M V :=
 zb (
 zb (zlw x1) fun x4 =>
 zb (za (zg 4 x4)) fun x10 =>
 zb (z7 x2) fun x6 =>
 zb (za (zu x6)) fun x7 =>
 zb (za (zg 2 x7)) fun x8 =>
 zb (z7 x8) fun x9 =>
 zb (z7 x10) fun x11 =>
 zb (za (zj .sub x9 x11)) fun x12 =>
 zb (za (zj .lss x12 (Value.int .i64 10))) fun x13 =>
 ret (.ret [x13])
 ) fun o => zcf o fun vs => ret (zca [(zc vs 0)])
def zzg : Hint := (.seq [] .leaf (.seq [] (.reg [4, 0, 1, 2, 3, 5, 6, 7, 8] []) .leaf))
def ze3 (l : List V) : M V := match l with | [x0, x1, x2] => zme x0 x1 x2 | _ => fail
theorem zbbb (x0 x1 x2 : V) : zcs Tryz.prog (ovr [] noC) zde zzg [x0, x1, x2] = zme x0 x1 x2 := by kernel_rfl
theorem zzh : zy Tryz.prog zde (ze3) := zh (σ := ovr [] noC) (hint := zzg) (by kernel_rfl) ze fun l H r H' h => by
 unfold ze3 at h; split at h
 · rw [zbbb]; exact h
 · exact (zf h).elim
def zmf (x0 x1 x2 : V) : M V :=
 zb (
 zb (zlw x1) fun x4 =>
 zb (za (zg 5 x4)) fun x10 =>
 zb (z7 x2) fun x6 =>
 zb (za (zu x6)) fun x7 =>
 zb (za (zg 2 x7)) fun x8 =>
 zb (z7 x8) fun x9 =>
 zb (z7 x10) fun x11 =>
 zb (za (zj .sub x9 x11)) fun x12 =>
 zb (z7 x2) fun x13 =>
 zb (za (zu x13)) fun x14 =>
 zb (za (zg 1 x14)) fun x15 =>
 zb (z7 x15) fun x16 =>
 zb (za (zj .lss x12 x16)) fun x17 =>
 ret (.ret [x17])
 ) fun o => zcf o fun vs => ret (zca [(zc vs 0)])
def zzi : Hint := (.seq [] .leaf (.seq [] (.reg [4, 0, 1, 2, 3, 5, 6, 7, 8, 9, 10, 11, 12] []) .leaf))
def ze4 (l : List V) : M V := match l with | [x0, x1, x2] => zmf x0 x1 x2 | _ => fail
theorem zbbc (x0 x1 x2 : V) : zcs Tryz.prog (ovr [] noC) zdf zzi [x0, x1, x2] = zmf x0 x1 x2 := by kernel_rfl
theorem zzj : zy Tryz.prog zdf (ze4) := zh (σ := ovr [] noC) (hint := zzi) (by kernel_rfl) ze fun l H r H' h => by
 unfold ze4 at h; split at h
 · rw [zbbc]; exact h
 · exact (zf h).elim
def zpe (x0 : V) : M V :=
 zb (
 zb (zlw x0) fun x1 =>
 zb (z7 x1) fun x2 =>
 zb (za (zu x2)) fun x3 =>
 zb (za (zg 2 x3)) fun x4 =>
 zb (z7 x4) fun x5 =>
 zb (za (zj .add x5 (Value.int .i64 1))) fun x6 =>
 zb (za (zu x2)) fun x7 =>
 zb (za (zg 2 x7)) fun x8 =>
 zb (st1 x8 x6) fun _ =>
 zb (z7 x1) fun x9 =>
 zb (za (zu x9)) fun x10 =>
 zb (za (zg 3 x10)) fun x11 =>
 zb (za (some (Value.func (.func zde) #[] #[x1]))) fun x12 =>
 zb ((zci (ovr [(zde, ze3), (zdf, ze4)] noC)) [x11, x12]) fun x13 =>
 zb (z7 x1) fun x14 =>
 zb (za (zu x14)) fun x15 =>
 zb (za (zg 6 x15)) fun x16 =>
 zb (za (some (Value.func (.func zdf) #[] #[x1]))) fun x17 =>
 zb ((zcn (ovr [(zde, ze3), (zdf, ze4)] noC)) [x16, x17]) fun x18 =>
 ret (.nxt [])
 ) fun o => zcf o fun vs => ret (zca [])
def z3b : Hint := (.seq [] .leaf (.seq [] .leaf (.seq [] .leaf .leaf)))
def zi0 (l : List V) : M V := match l with | [x0] => zpe x0 | _ => fail
def z3c : zp := ovr [(zd2, zci (ovr [(zde, ze3), (zdf, ze4)] noC)), (zel, zcn (ovr [(zde, ze3), (zdf, ze4)] noC))] noC
theorem zbe7 (x0 : V) : zcs Tryz.prog (z3c) zl1 z3b [x0] = zpe x0 := by kernel_rfl
theorem zbe8 : zy Tryz.prog zl1 (zi0) := zh (σ := z3c) (hint := z3b) (by kernel_rfl) (zd (zj3 (zd zzh (zd zzj ze))) (zd (zlg (zd zzh (zd zzj ze))) ze)) fun l H r H' h => by
 unfold zi0 at h; split at h
 · rw [zbe7]; exact h
 · exact (zf h).elim
def zra (vs_3 : List V) : M Out :=
 zb (za (zj .add (zc vs_3 2) (Value.int .i64 1))) fun x21 =>
 ret (.nxt [(zc vs_3 0), (zc vs_3 1), x21])
def zrb (vs_2 : List V) : M Out :=
 zb (
 zb (
 zb (za (zu (zc vs_2 0))) fun x23 =>
 zb (za (zg 2 x23)) fun x24 =>
 zb (za (zu (zc vs_2 0))) fun x27 =>
 zb (za (zg 3 x27)) fun x28 =>
 zb (z7 x24) fun x25 =>
 zb (z7 x28) fun x29 =>
 zb (za (zv 4 x29 (zc vs_2 2))) fun x31 =>
 zb (za (zg 2 x31)) fun x32 =>
 zb (z7 x32) fun x33 =>
 zb (za (zj .sub x25 x33)) fun x34 =>
 zb (za (zj .lss x34 (Value.int .i64 10))) fun x35 =>
 zi x35 (
 zb (za (zu (zc vs_2 0))) fun x38 =>
 zb (za (zg 3 x38)) fun x39 =>
 zb (z7 x39) fun x40 =>
 zb (za (zv 4 x40 (zc vs_2 2))) fun x42 =>
 zb (ldn 4 x42) fun x43 =>
 zb (zd7 4 1 (rep 1 [Value.int .i64 0, Value.int .i64 0, Value.int .i64 0, Value.string ⟨#[]⟩]) [(0, 4, x43)]) fun x44 =>
 zb (ze6 4 40 (zc vs_2 1) x44) fun x45 =>
 ret (.nxt [(zc vs_2 0), x45, (zc vs_2 2)])
 ) (
 ret (.nxt [(zc vs_2 0), (zc vs_2 1), (zc vs_2 2)])
 )
 ) fun o => ret (zw 1 o)
 ) fun o => nx o zra
def zmg (vs : List V) : M Out :=
 zb (
 zb (za (zu (zc vs 0))) fun x15 =>
 zb (za (zg 3 x15)) fun x16 =>
 zb (z7 x16) fun x17 =>
 zb (za (zb9 x17)) fun x18 =>
 zb (za (zj .lss (zc vs 2) x18)) fun x19 =>
 zi x19 (
 ret (.nxt [(zc vs 0), (zc vs 1), (zc vs 2)])
 ) (
 ret (.brk 0 [(zc vs 0), (zc vs 1)])
 )
 ) fun o => nx o zrb
def zrc (vs_7 : List V) : M Out :=
 zb (za (zj .add (zc vs_7 2) (Value.int .i64 1))) fun x58 =>
 ret (.nxt [(zc vs_7 0), (zc vs_7 1), x58])
def zrd (vs_6 : List V) : M Out :=
 zb (
 zb (
 zb (za (zu (zc vs_6 0))) fun x60 =>
 zb (za (zg 2 x60)) fun x61 =>
 zb (za (zu (zc vs_6 0))) fun x64 =>
 zb (za (zg 4 x64)) fun x65 =>
 zb (za (zu (zc vs_6 0))) fun x73 =>
 zb (za (zg 1 x73)) fun x74 =>
 zb (z7 x61) fun x62 =>
 zb (z7 x65) fun x66 =>
 zb (za (zv 5 x66 (zc vs_6 2))) fun x68 =>
 zb (za (zg 3 x68)) fun x69 =>
 zb (z7 x69) fun x70 =>
 zb (za (zj .sub x62 x70)) fun x71 =>
 zb (z7 x74) fun x75 =>
 zb (za (zj .lss x71 x75)) fun x76 =>
 zi x76 (
 zb (za (zu (zc vs_6 0))) fun x79 =>
 zb (za (zg 4 x79)) fun x80 =>
 zb (z7 x80) fun x81 =>
 zb (za (zv 5 x81 (zc vs_6 2))) fun x83 =>
 zb (ldn 5 x83) fun x84 =>
 zb (zd7 5 1 (rep 1 [Value.int .i64 0, Value.int .i64 0, Value.int .i64 0, Value.int .i64 0, Value.string ⟨#[]⟩]) [(0, 5, x84)]) fun x85 =>
 zb (ze6 5 48 (zc vs_6 1) x85) fun x86 =>
 ret (.nxt [(zc vs_6 0), x86, (zc vs_6 2)])
 ) (
 ret (.nxt [(zc vs_6 0), (zc vs_6 1), (zc vs_6 2)])
 )
 ) fun o => ret (zw 3 o)
 ) fun o => nx o zrc
def zmh (vs_5 : List V) : M Out :=
 zb (
 zb (za (zu (zc vs_5 0))) fun x52 =>
 zb (za (zg 4 x52)) fun x53 =>
 zb (z7 x53) fun x54 =>
 zb (za (zb9 x54)) fun x55 =>
 zb (za (zj .lss (zc vs_5 2) x55)) fun x56 =>
 zi x56 (
 ret (.nxt [(zc vs_5 0), (zc vs_5 1), (zc vs_5 2)])
 ) (
 ret (.brk 2 [(zc vs_5 0), (zc vs_5 1)])
 )
 ) fun o => nx o zrd
def zzk (vs_8 : List V) : M Out :=
 zb (za (zu (zc vs_8 0))) fun x89 =>
 zb (za (zg 4 x89)) fun x90 =>
 zb (st1 x90 (zc vs_8 1)) fun _ =>
 ret (.nxt [])
def zzl (vs_4 : List V) : M Out :=
 zb (za (zu (zc vs_4 0))) fun x48 =>
 zb (za (zg 3 x48)) fun x49 =>
 zb (st1 x49 (zc vs_4 1)) fun _ =>
 zb (
 zb (
 zce zcc zmh [(zc vs_4 0), (Value.slice none 0 0), (Value.int .i64 0)]
 ) fun o => ret (zw 2 o)
 ) fun o => nx o zzk
def znl (x0 : V) : M V :=
 zb (
 zb (za (zu x0)) fun x7 =>
 zb (za (zg 2 x7)) fun x8 =>
 zb (z7 x8) fun x9 =>
 zb (za (zj .add x9 (Value.int .i64 1))) fun x10 =>
 zb (za (zu x0)) fun x11 =>
 zb (za (zg 2 x11)) fun x12 =>
 zb (st1 x12 x10) fun _ =>
 zb (
 zb (
 zce zcc zmg [x0, (Value.slice none 0 0), (Value.int .i64 0)]
 ) fun o => ret (zw 0 o)
 ) fun o => nx o zzl
 ) fun o => zcf o fun vs => ret (zca [])
def z06 : Hint := (.seq [] .leaf (.seq [] .leaf (.seq [0, 2] (.seq [] .leaf (.blk (.loop [0, 2, 3] (.seq [0, 2, 3] (.seq [] .leaf (.cond .leaf .leaf)) (.seq [0, 2, 3] (.blk (.seq [] (.reg [0, 1, 2, 4, 5, 6, 8, 3, 7, 9, 10, 11, 12, 13] []) (.cond .leaf .leaf))) .leaf))))) (.seq [] .leaf (.seq [] .leaf (.seq [0, 4] (.seq [] .leaf (.blk (.loop [0, 4, 5] (.seq [0, 4, 5] (.seq [] .leaf (.cond .leaf .leaf)) (.seq [0, 4, 5] (.blk (.seq [] (.reg [0, 1, 2, 4, 5, 6, 8, 13, 14, 15, 3, 7, 9, 10, 11, 12, 16, 17] []) (.cond .leaf .leaf))) .leaf))))) .leaf))))))
def zh6 (l : List V) : M V := match l with | [x0] => znl x0 | _ => fail
theorem zbdz (x0 : V) : zcs Tryz.prog (ovr [] noC) zkv z06 [x0] = znl x0 := by kernel_rfl
theorem zbd0 : zy Tryz.prog zkv (zh6) := zh (σ := ovr [] noC) (hint := z06) (by kernel_rfl) ze fun l H r H' h => by
 unfold zh6 at h; split at h
 · rw [zbdz]; exact h
 · exact (zf h).elim
def zbah (G_errors_As : List V → M V) (vs : List V) : M Out :=
 zb (zi0 [(zc vs 0)]) fun x181 =>
 zb (zh6 [(zc vs 1)]) fun x183 =>
 ret (.ret [(Value.bool true)])
def zxe (G_errors_As : List V → M V) (x0 x1 x2 : V) : M V :=
 zb (
 zb (zlw x2) fun x5 =>
 zb (
 zb (za (zg 0 x5)) fun x30 =>
 zb (z7 x30) fun x31 =>
 zb (zio [x31, (Value.int .i64 6)]) fun x32 =>
 zb (
 zb (za (zj .eql x32 (Value.int .i64 0))) fun x34 =>
 zi x34 (
 zb (za (zg 3 x5)) fun x37 =>
 zb (z7 x37) fun x38 =>
 zb (za (zg 4 x5)) fun x39 =>
 zb (z7 x39) fun x40 =>
 zb (zen [x0, x38, x40]) fun x41 =>
 zb (za (ext 0 x41)) fun x42 =>
 zb (za (ext 1 x41)) fun x43 =>
 zb (za (zg 3 x5)) fun x46 =>
 zb (z7 x46) fun x47 =>
 zb (za (zg 4 x5)) fun x48 =>
 zb (z7 x48) fun x49 =>
 zb (zg5 [x1, x47, x49]) fun x50 =>
 zb (za (ext 0 x50)) fun x51 =>
 zb (za (ext 1 x50)) fun x52 =>
 zb (za (zj .eql x42 x51)) fun x55 =>
 zb (gd x55 true (za (some x43))) fun x57 =>
 zb (gd x55 true (za (some x52))) fun x58 =>
 zb (gd x55 true (za (zj .eql x57 x58))) fun x59 =>
 zb (za (zcq x55 x59 (Value.bool false))) fun x60 =>
 ret (.ret [x60])
 ) (
 zb (za (zj .eql x32 (Value.int .i64 1))) fun x62 =>
 zi x62 (
 zb (ldn 7 x5) fun x64 =>
 zb (zl8 [x1, x64]) fun x65 =>
 zb (za (zg 2 x5)) fun x68 =>
 zb (z7 x68) fun x69 =>
 zb (zeq [x0, x69, x65]) fun x71 =>
 zb (za (ext 0 x71)) fun x72 =>
 zb (za (ext 1 x71)) fun x73 =>
 zb (za (zg 2 x5)) fun x76 =>
 zb (z7 x76) fun x77 =>
 zb (zg6 [x1, x77, x65]) fun x79 =>
 zb (za (ext 0 x79)) fun x80 =>
 zb (za (ext 1 x79)) fun x81 =>
 zb (za (zj .eql x72 x80)) fun x84 =>
 zb (gd x84 true (za (some x73))) fun x86 =>
 zb (gd x84 true (za (some x81))) fun x87 =>
 zb (gd x84 true (za (zj .eql x86 x87))) fun x88 =>
 zb (za (zcq x84 x88 (Value.bool false))) fun x89 =>
 ret (.ret [x89])
 ) (
 zb (za (zj .eql x32 (Value.int .i64 2))) fun x91 =>
 zi x91 (
 zb (ldn 7 x5) fun x93 =>
 zb (zl8 [x1, x93]) fun x94 =>
 zb ((zed G_errors_As) [x0, x94]) fun x98 =>
 zb (za (ext 0 x98)) fun x99 =>
 zb (za (ext 1 x98)) fun x100 =>
 zb (za (ext 2 x98)) fun x101 =>
 zb (za (ext 3 x98)) fun x102 =>
 zb (zh4 [x1, x94]) fun x106 =>
 zb (za (ext 0 x106)) fun x107 =>
 zb (za (ext 1 x106)) fun x108 =>
 zb (za (ext 2 x106)) fun x109 =>
 zb (za (ext 3 x106)) fun x110 =>
 zb (za (zj .eql x99 x107)) fun x113 =>
 zb (gd x113 true (za (some x100))) fun x115 =>
 zb (gd x113 true (za (some x108))) fun x116 =>
 zb (gd x113 true (za (zj .eql x115 x116))) fun x117 =>
 zb (za (zcq x113 x117 (Value.bool false))) fun x118 =>
 zb (gd x118 true (za (some x101))) fun x120 =>
 zb (gd x118 true (za (some x109))) fun x121 =>
 zb (gd x118 true (zfy [x120, x121])) fun x122 =>
 zb (za (zcq x118 x122 (Value.bool false))) fun x123 =>
 zb (gd x123 true (za (some x102))) fun x125 =>
 zb (gd x123 true (za (some x110))) fun x126 =>
 zb (gd x123 true (za (zj .eql x125 x126))) fun x127 =>
 zb (za (zcq x123 x127 (Value.bool false))) fun x128 =>
 ret (.ret [x128])
 ) (
 zb (za (zj .eql x32 (Value.int .i64 3))) fun x130 =>
 zi x130 (
 zb (za (zg 6 x5)) fun x131 =>
 zb (z7 x131) fun x132 =>
 zb (ziy [x132]) fun x133 =>
 zb (za (zg 2 x5)) fun x136 =>
 zb (z7 x136) fun x137 =>
 zb (za (zg 1 x5)) fun x138 =>
 zb (z7 x138) fun x139 =>
 zb (zh5 [x0, x137, x139, x133]) fun x141 =>
 zb (za (ext 0 x141)) fun x142 =>
 zb (za (ext 1 x141)) fun x143 =>
 zb (za (zg 2 x5)) fun x146 =>
 zb (z7 x146) fun x147 =>
 zb (za (zg 1 x5)) fun x148 =>
 zb (z7 x148) fun x149 =>
 zb (za (zg 6 x5)) fun x150 =>
 zb (z7 x150) fun x151 =>
 zb (zg7 [x1, x147, x149, x151]) fun x152 =>
 zb (za (ext 0 x152)) fun x153 =>
 zb (za (ext 1 x152)) fun x154 =>
 zb (za (zj .eql x142 x153)) fun x157 =>
 zb (gd x157 true (za (some x143))) fun x159 =>
 zb (gd x157 true (za (some x154))) fun x160 =>
 zb (gd x157 true (za (zj .eql x159 x160))) fun x161 =>
 zb (za (zcq x157 x161 (Value.bool false))) fun x162 =>
 zb (gd x162 true (za (some x133))) fun x164 =>
 zb (gd x162 true (za (zg 6 x5))) fun x165 =>
 zb (gd x162 true (z7 x165)) fun x166 =>
 zb (gd x162 true (ziz [x164, x166])) fun x167 =>
 zb (za (zcq x162 x167 (Value.bool false))) fun x168 =>
 ret (.ret [x168])
 ) (
 zb (za (zj .eql x32 (Value.int .i64 4))) fun x170 =>
 zi x170 (
 zxv fun h0 =>
 zb (za (zg 2 x5)) fun x172 =>
 zb (za (zg 2 x5)) fun x176 =>
 zb (z7 x172) fun x173 =>
 zb (z7 x176) fun x177 =>
 zfq (zg8 [x0, x173]) fun ha x174 h1 =>
 zfq (zgo [x1, x177]) fun ha_2 x178 h2 =>
 zb (za (zj .eql x174 x178)) fun x179 =>
 zdc (chk (z7 x176) h1 x177) <|
 ret (.ret [x179])
 ) (
 ret (.nxt [x0, x1])
 )
 )
 )
 )
 )
 ) fun o => ret (zw 0 o)
 ) fun o => nx o (zbah G_errors_As)
 ) fun o => zcf o fun vs => ret (zca [(zc vs 0)])
def zbd1 : Hint := (.seq [] .leaf (.seq [0, 1] (.seq [] .leaf (.blk (.seq [] .leaf (.cond (.seq [] .leaf (.seq [] .leaf (.seq [] .leaf .leaf))) (.seq [] .leaf (.cond (.seq [] .leaf (.seq [] .leaf (.seq [] .leaf (.seq [] .leaf .leaf)))) (.seq [] .leaf (.cond (.seq [] .leaf (.seq [] .leaf (.seq [] .leaf (.seq [] .leaf .leaf)))) (.seq [] .leaf (.cond (.seq [] .leaf (.seq [] .leaf (.seq [] .leaf (.seq [] .leaf .leaf)))) (.seq [] .leaf (.cond (.seq [] (.reg [0, 1, 4, 5, 2, 6, 3, 7, 8, 9] []) .leaf) .leaf)))))))))))) (.seq [] .leaf (.seq [] .leaf (.seq [] .leaf .leaf)))))
def zpf (G_errors_As : List V → M V) (l : List V) : M V := match l with | [x0, x1, x2] => zxe G_errors_As x0 x1 x2 | _ => fail
theorem zbn5 (G_errors_As : List V → M V) (x0 x1 x2 : V) : zcs Tryz.prog (ovr [(zmn, zio), (zgm, zen), (zjv, zg5), (zsf, zl8), (zgn, zeq), (zjw, zg6), (zg4, zed G_errors_As), (zku, zh4), (zi5, zfy), (zl2, ziy), (zkt, zh5), (zjx, zg7), (zl3, ziz), (zju, zg8), (zjf, zgo), (zl1, zi0), (zkv, zh6)] noC) zsc zbd1 [x0, x1, x2] = zxe G_errors_As x0 x1 x2 := by kernel_rfl
theorem zbn6 {G_errors_As : List V → M V} (k_errors_As : zy Tryz.prog zhd G_errors_As) : zy Tryz.prog zsc (zpf G_errors_As) := zh (σ := ovr [(zmn, zio), (zgm, zen), (zjv, zg5), (zsf, zl8), (zgn, zeq), (zjw, zg6), (zg4, zed G_errors_As), (zku, zh4), (zi5, zfy), (zl2, ziy), (zkt, zh5), (zjx, zg7), (zl3, ziz), (zju, zg8), (zjf, zgo), (zl1, zi0), (zkv, zh6)] noC) (hint := zbd1) (by kernel_rfl) (zd z9g (zd z0c (zd zba3 (zd zbnx (zd z0o (zd zba6 (zd (z22 k_errors_As) (zd zbdw (zd z27 (zd zbe4 (zd zbdy (zd zba8 (zd zbe6 (zd zbba (zd z80 (zd zbe8 (zd zbd0 ze))))))))))))))))) fun l H r H' h => by
 unfold zpf at h; split at h
 · rw [zbn5]; exact h
 · exact (zf h).elim
def zpq (vs : List V) : M Out :=
 zb (zd7 1 0 (rep 0 [Value.int .i64 0]) []) fun x5 =>
 zb (ze6 1 8 x5 (zc vs 0)) fun x7 =>
 ret (.ret [x7])
def zfo (x0 : V) : M V :=
 zb (
 zb (
 zb (za (zia false (isNil .s x0))) fun x4 =>
 zi x4 (
 ret (.ret [(Value.slice none 0 0)])
 ) (
 ret (.nxt [x0])
 )
 ) fun o => nx o zpq
 ) fun o => zcf o fun vs => ret (zca [(zc vs 0)])
def zqi : Hint := (.seq [] .leaf (.seq [0] (.seq [] .leaf (.cond (.seq [] .leaf .leaf) .leaf)) (.seq [] .leaf .leaf)))
def zfp (l : List V) : M V := match l with | [x0] => zfo x0 | _ => fail
theorem z15 (x0 : V) : zcs Tryz.prog (ovr [] noC) zi6 zqi [x0] = zfo x0 := by kernel_rfl
theorem z16 : zy Tryz.prog zi6 (zfp) := zh (σ := ovr [] noC) (hint := zqi) (by kernel_rfl) ze fun l H r H' h => by
 unfold zfp at h; split at h
 · rw [z15]; exact h
 · exact (zf h).elim
def zka (x0 : V) : M V :=
 zb (
 zb (za (zu x0)) fun x4 =>
 zb (za (zg 6 x4)) fun x5 =>
 zb (za (zg 1 x5)) fun x6 =>
 zb (z7 x6) fun x7 =>
 zb (zfp [x7]) fun x8 =>
 ret (.ret [x8])
 ) fun o => zcf o fun vs => ret (zca [(zc vs 0)])
def zvj : Hint := (.seq [] .leaf (.seq [] .leaf .leaf))
def zfz (l : List V) : M V := match l with | [x0] => zka x0 | _ => fail
def zvk : zp := ovr [(zi6, zfp)] noC
theorem z72 (x0 : V) : zcs Tryz.prog (zvk) zij zvj [x0] = zka x0 := by kernel_rfl
theorem z73 : zy Tryz.prog zij (zfz) := zh (σ := zvk) (hint := zvj) (by kernel_rfl) (zd z16 ze) fun l H r H' h => by
 unfold zfz at h; split at h
 · rw [z72]; exact h
 · exact (zf h).elim
def ztj (vs_3 : List V) : M Out :=
 zb (za (zj .add (zc vs_3 2) (Value.int .i64 1))) fun x13 =>
 ret (.nxt [(zc vs_3 0), (zc vs_3 1), x13])
def ztk (vs_2 : List V) : M Out :=
 zb (
 zb (
 zb (za (zu (zc vs_2 0))) fun x16 =>
 zb (za (zg 4 x16)) fun x17 =>
 zb (z7 x17) fun x18 =>
 zb (za (zv 5 x18 (zc vs_2 2))) fun x20 =>
 zb (za (zg 0 x20)) fun x21 =>
 zb (z7 x21) fun x22 =>
 zb (zd7 1 1 (rep 1 [Value.int .i64 0]) [(0, 1, x22)]) fun x23 =>
 zb (ze6 1 8 (zc vs_2 1) x23) fun x24 =>
 ret (.nxt [(zc vs_2 0), x24, (zc vs_2 2)])
 ) fun o => ret (zw 1 o)
 ) fun o => nx o ztj
def zmi (vs : List V) : M Out :=
 zb (
 zb (za (zu (zc vs 0))) fun x7 =>
 zb (za (zg 4 x7)) fun x8 =>
 zb (z7 x8) fun x9 =>
 zb (za (zb9 x9)) fun x10 =>
 zb (za (zj .lss (zc vs 2) x10)) fun x11 =>
 zi x11 (
 ret (.nxt [(zc vs 0), (zc vs 1), (zc vs 2)])
 ) (
 ret (.brk 0 [(zc vs 1)])
 )
 ) fun o => nx o ztk
def ztl (vs_4 : List V) : M Out :=
 ret (.ret [(zc vs_4 0)])
def zjg (x0 : V) : M V :=
 zb (
 zb (
 zb (
 zce zcc zmi [x0, (Value.slice none 0 0), (Value.int .i64 0)]
 ) fun o => ret (zw 0 o)
 ) fun o => nx o ztl
 ) fun o => zcf o fun vs => ret (zca [(zc vs 0)])
def zt2 : Hint := (.seq [] .leaf (.seq [] .leaf (.seq [3] (.seq [] .leaf (.blk (.loop [0, 3, 4] (.seq [0, 3, 4] (.seq [] .leaf (.cond .leaf .leaf)) (.seq [0, 3, 4] (.blk .leaf) .leaf))))) (.seq [] .leaf .leaf))))
def zfl (l : List V) : M V := match l with | [x0] => zjg x0 | _ => fail
theorem z51 (x0 : V) : zcs Tryz.prog (ovr [] noC) zhx zt2 [x0] = zjg x0 := by kernel_rfl
theorem z52 : zy Tryz.prog zhx (zfl) := zh (σ := ovr [] noC) (hint := zt2) (by kernel_rfl) ze fun l H r H' h => by
 unfold zfl at h; split at h
 · rw [z51]; exact h
 · exact (zf h).elim
def z3d (vs_4 : List V) : M Out :=
 zb (za (zj .add (zc vs_4 2) (Value.int .i64 1))) fun x16 =>
 ret (.nxt [(zc vs_4 0), (zc vs_4 1), x16])
def zue (vs_3 : List V) : M Out :=
 zb (
 zb (
 zb (za (zv 1 (zc vs_3 0) (zc vs_3 2))) fun x19 =>
 zb (za (zv 1 (zc vs_3 1) (zc vs_3 2))) fun x23 =>
 zb (z7 x19) fun x20 =>
 zb (z7 x23) fun x24 =>
 zb (za (zj .neq x20 x24)) fun x25 =>
 zi x25 (
 ret (.ret [(Value.bool false)])
 ) (
 ret (.nxt [(zc vs_3 0), (zc vs_3 1), (zc vs_3 2)])
 )
 ) fun o => ret (zw 1 o)
 ) fun o => nx o z3d
def zpg (vs_2 : List V) : M Out :=
 zb (
 zb (za (zb9 (zc vs_2 0))) fun x13 =>
 zb (za (zj .lss (zc vs_2 2) x13)) fun x14 =>
 zi x14 (
 ret (.nxt [(zc vs_2 0), (zc vs_2 1), (zc vs_2 2)])
 ) (
 ret (.brk 0 [])
 )
 ) fun o => nx o zue
def z3e (vs_5 : List V) : M Out :=
 ret (.ret [(Value.bool true)])
def z3f (vs : List V) : M Out :=
 zb (
 zb (
 zce zcc zpg [(zc vs 0), (zc vs 1), (Value.int .i64 0)]
 ) fun o => ret (zw 0 o)
 ) fun o => nx o z3e
def zms (x0 x1 : V) : M V :=
 zb (
 zb (
 zb (za (zb9 x0)) fun x7 =>
 zb (za (zb9 x1)) fun x9 =>
 zb (za (zj .neq x7 x9)) fun x10 =>
 zi x10 (
 ret (.ret [(Value.bool false)])
 ) (
 ret (.nxt [x0, x1])
 )
 ) fun o => nx o z3f
 ) fun o => zcf o fun vs => ret (zca [(zc vs 0)])
def z5y : Hint := (.seq [] .leaf (.seq [0, 1] (.seq [] .leaf (.cond (.seq [] .leaf .leaf) .leaf)) (.seq [] (.seq [] .leaf (.blk (.loop [0, 1, 5] (.seq [0, 1, 5] (.seq [] .leaf (.cond .leaf .leaf)) (.seq [0, 1, 5] (.blk (.seq [] (.reg [0, 1, 2, 4, 5, 6, 3, 7, 8] []) (.cond (.seq [] .leaf .leaf) .leaf))) .leaf))))) (.seq [] .leaf .leaf))))
def zjs (l : List V) : M V := match l with | [x0, x1] => zms x0 x1 | _ => fail
theorem zbgy (x0 x1 : V) : zcs Tryz.prog (ovr [] noC) zm4 z5y [x0, x1] = zms x0 x1 := by kernel_rfl
theorem zbgz : zy Tryz.prog zm4 (zjs) := zh (σ := ovr [] noC) (hint := z5y) (by kernel_rfl) ze fun l H r H' h => by
 unfold zjs at h; split at h
 · rw [zbgy]; exact h
 · exact (zf h).elim
def zbai (G_strings_IndexRune : List V → M V) (vs : List V) : M Out :=
 zb (zen [(zc vs 0), (Value.string ⟨#[97, 110, 110]⟩), (Value.string ⟨#[115, 105, 120, 116, 101, 101, 110, 32, 98, 121, 116, 101, 115, 32, 33, 33]⟩)]) fun x28 =>
 zb (za (ext 0 x28)) fun x29 =>
 zb (za (ext 1 x28)) fun x30 =>
 zb (zj7 [(Value.string ⟨#[48, 49, 50, 51, 52, 53, 54, 55, 56, 57, 97, 98, 99, 100, 101, 102]⟩), (Value.string ⟨#[115, 105, 120, 116, 101, 101, 110, 32, 98, 121, 116, 101, 115, 32, 33, 33]⟩), x29]) fun x33 =>
 zb (za (ext 0 x33)) fun x34 =>
 zb (za (ext 1 x33)) fun x35 =>
 zb (zeq [(zc vs 0), x29, x34]) fun x40 =>
 zb (za (ext 0 x40)) fun x41 =>
 zb (za (ext 1 x40)) fun x42 =>
 zb (za (zj .eql x29 (Value.int .i64 1))) fun x46 =>
 zb (gd x46 true (za (some x30))) fun x48 =>
 zb (gd x46 true (za (zj .eql x48 (Value.int .i64 0)))) fun x49 =>
 zb (za (zcq x46 x49 (Value.bool false))) fun x50 =>
 zb (gd x50 true (za (some x41))) fun x52 =>
 zb (gd x50 true (za (zj .eql x52 (Value.int .i64 1)))) fun x53 =>
 zb (za (zcq x50 x53 (Value.bool false))) fun x54 =>
 zb (gd x54 true (za (some x42))) fun x56 =>
 zb (gd x54 true (za (zj .eql x56 (Value.int .i64 0)))) fun x57 =>
 zb (za (zcq x54 x57 (Value.bool false))) fun x58 =>
 ret (.ret [(zc vs 0), x35, x58])
def zxf (G_strings_IndexRune : List V → M V) (x0 : V) : M V :=
 zb (
 zb (za (build [Value.string ⟨#[]⟩, Value.string ⟨#[]⟩, Value.slice none 0 0] [(0, 1, (Value.string ⟨#[97, 110, 110]⟩)), (1, 1, (Value.string ⟨#[48, 49, 50, 51, 52, 53, 54, 55, 56, 57, 97, 98, 99, 100, 101, 102]⟩))])) fun x13 =>
 zb (za (build [Value.string ⟨#[]⟩, Value.string ⟨#[]⟩, Value.slice none 0 0] [(0, 1, (Value.string ⟨#[98, 111, 98]⟩)), (1, 1, (Value.string ⟨#[48, 49, 50, 51, 52, 53, 54, 55, 56, 57, 97, 98, 99, 100, 101, 102, 48, 49, 50, 51, 52, 53, 54, 55, 56, 57, 97, 98, 99, 100, 101, 102]⟩))])) fun x14 =>
 zb (zd7 3 2 (rep 2 [Value.string ⟨#[]⟩, Value.string ⟨#[]⟩, Value.slice none 0 0]) [(0, 3, x13), (3, 3, x14)]) fun x15 =>
 zb ((zl5 G_strings_IndexRune) [x15, (Value.int .i64 1), x0]) fun x17 =>
 zb (za (ext 0 x17)) fun x18 =>
 zb (za (ext 1 x17)) fun x19 =>
 zb (
 zb (za (zia false (isNil .p x18))) fun x21 =>
 zb (gd x21 false (za (some x19))) fun x23 =>
 zb (gd x21 false (za (zj .neq x23 (Value.int .i64 0)))) fun x24 =>
 zb (za (zcq x21 (Value.bool true) x24)) fun x25 =>
 zi x25 (
 ret (.ret [(Value.pointer none), (Value.string ⟨#[]⟩), (Value.bool false)])
 ) (
 ret (.nxt [x18])
 )
 ) fun o => nx o (zbai G_strings_IndexRune)
 ) fun o => zcf o fun vs => ret (zca [(zc vs 0), (zc vs 1), (zc vs 2)])
def zbd2 : Hint := (.seq [] .leaf (.seq [] .leaf (.seq [5] (.seq [] .leaf (.cond (.seq [] .leaf .leaf) .leaf)) (.seq [] .leaf (.seq [] .leaf (.seq [] .leaf (.seq [] .leaf .leaf)))))))
def zph (G_strings_IndexRune : List V → M V) (l : List V) : M V := match l with | [x0] => zxf G_strings_IndexRune x0 | _ => fail
theorem zbn7 (G_strings_IndexRune : List V → M V) (x0 : V) : zcs Tryz.prog (ovr [(zo0, zl5 G_strings_IndexRune), (zgm, zen), (znq, zj7), (zgn, zeq)] noC) zsa zbd2 [x0] = zxf G_strings_IndexRune x0 := by kernel_rfl
theorem zbn8 {G_strings_IndexRune : List V → M V} (k_strings_IndexRune : zy Tryz.prog zcp G_strings_IndexRune) : zy Tryz.prog zsa (zph G_strings_IndexRune) := zh (σ := ovr [(zo0, zl5 G_strings_IndexRune), (zgm, zen), (znq, zj7), (zgn, zeq)] noC) (hint := zbd2) (by kernel_rfl) (zd (zbi2 k_strings_IndexRune) (zd z0c (zd zbdf (zd z0o ze)))) fun l H r H' h => by
 unfold zph at h; split at h
 · rw [zbn7]; exact h
 · exact (zf h).elim
def ztm (x0 x1 x2 x3 : V) : M V :=
 zb (
 zb (zkl [x0, (Value.slice none 0 0), x1, x2, x3]) fun x14 =>
 zb (za (ext 0 x14)) fun x15 =>
 zb (za (ext 1 x14)) fun x16 =>
 ret (.ret [x15, x16])
 ) fun o => zcf o fun vs => ret (zca [(zc vs 0), (zc vs 1)])
def z74 : Hint := (.seq [] .leaf (.seq [] .leaf .leaf))
def zln (l : List V) : M V := match l with | [x0, x1, x2, x3] => ztm x0 x1 x2 x3 | _ => fail
def z75 : zp := ovr [(zqm, zkl)] noC
theorem zbjq (x0 x1 x2 x3 : V) : zcs Tryz.prog (z75) zoz z74 [x0, x1, x2, x3] = ztm x0 x1 x2 x3 := by kernel_rfl
theorem zbjr : zy Tryz.prog zoz (zln) := zh (σ := z75) (hint := z74) (by kernel_rfl) (zd zbag ze) fun l H r H' h => by
 unfold zln at h; split at h
 · rw [zbjq]; exact h
 · exact (zf h).elim
def z76 (G_strings_IndexRune : List V → M V) (G_errors_As : List V → M V) (vs : List V) : M Out :=
 zb (za (build [Value.bool false, Value.int .i64 0, Value.string ⟨#[]⟩] [(1, 1, (Value.int .i64 7))])) fun x23 =>
 zb (zd7 3 1 (rep 1 [Value.bool false, Value.int .i64 0, Value.string ⟨#[]⟩]) [(0, 3, x23)]) fun x24 =>
 zb (zln [(zc vs 1), (Value.int .i64 1), (Value.int .i64 1), x24]) fun x25 =>
 zb (za (ext 0 x25)) fun x26 =>
 zb (za (ext 1 x25)) fun x27 =>
 zb ((zed G_errors_As) [(zc vs 0), x26]) fun x31 =>
 zb (za (ext 0 x31)) fun x32 =>
 zb (za (ext 1 x31)) fun x33 =>
 zb (za (ext 2 x31)) fun x34 =>
 zb (za (ext 3 x31)) fun x35 =>
 zb ((zed G_errors_As) [(zc vs 0), x26]) fun x39 =>
 zb (za (ext 0 x39)) fun x40 =>
 zb (za (ext 1 x39)) fun x41 =>
 zb (za (ext 2 x39)) fun x42 =>
 zb (za (ext 3 x39)) fun x43 =>
 zb (za (zj .eql x27 (Value.int .i64 0))) fun x45 =>
 zb (gd x45 true (za (some x32))) fun x47 =>
 zb (gd x45 true (za (zj .eql x47 (Value.int .i64 1)))) fun x48 =>
 zb (za (zcq x45 x48 (Value.bool false))) fun x49 =>
 zb (gd x49 true (za (some x33))) fun x51 =>
 zb (gd x49 true (za (zj .eql x51 (Value.string ⟨#[97, 110, 110]⟩)))) fun x52 =>
 zb (za (zcq x49 x52 (Value.bool false))) fun x53 =>
 zb (gd x53 true (za (some x34))) fun x55 =>
 zb (gd x53 true (za (zb9 x55))) fun x56 =>
 zb (gd x53 true (za (zj .eql x56 (Value.int .i64 1)))) fun x57 =>
 zb (za (zcq x53 x57 (Value.bool false))) fun x58 =>
 zb (gd x58 true (za (some x34))) fun x60 =>
 zb (gd x58 true (za (zv 3 x60 (Value.int .i64 0)))) fun x61 =>
 zb (gd x58 true (za (zg 1 x61))) fun x62 =>
 zb (gd x58 true (z7 x62)) fun x63 =>
 zb (gd x58 true (za (zj .eql x63 (Value.int .i64 7)))) fun x64 =>
 zb (za (zcq x58 x64 (Value.bool false))) fun x65 =>
 zb (gd x65 true (za (some x35))) fun x67 =>
 zb (gd x65 true (za (zj .eql x67 (Value.int .i64 0)))) fun x68 =>
 zb (za (zcq x65 x68 (Value.bool false))) fun x69 =>
 zb (gd x69 true (za (some x43))) fun x71 =>
 zb (gd x69 true (za (zj .eql x71 (Value.int .i64 250)))) fun x72 =>
 zb (za (zcq x69 x72 (Value.bool false))) fun x73 =>
 ret (.ret [x73])
def zu3 (G_strings_IndexRune : List V → M V) (G_errors_As : List V → M V) : M V :=
 zb (
 zb ((zph G_strings_IndexRune) [(Value.int .i64 5)]) fun x15 =>
 zb (za (ext 0 x15)) fun x16 =>
 zb (za (ext 1 x15)) fun x17 =>
 zb (za (ext 2 x15)) fun x18 =>
 zb (
 zb (za (un .not x18)) fun x20 =>
 zi x20 (
 ret (.ret [(Value.bool false)])
 ) (
 ret (.nxt [x16, x17])
 )
 ) fun o => nx o (z76 G_strings_IndexRune G_errors_As)
 ) fun o => zcf o fun vs => ret (zca [(zc vs 0)])
def zbaj : Hint := (.seq [] .leaf (.seq [] .leaf (.seq [1, 2] (.seq [] .leaf (.cond (.seq [] .leaf .leaf) .leaf)) (.seq [] .leaf (.seq [] .leaf (.seq [] .leaf (.seq [] .leaf .leaf)))))))
def zm1 (G_strings_IndexRune : List V → M V) (G_errors_As : List V → M V) (l : List V) : M V := match l with | [] => zu3 G_strings_IndexRune G_errors_As  | _ => fail
theorem zblc (G_strings_IndexRune : List V → M V) (G_errors_As : List V → M V) : zcs Tryz.prog (ovr [(zsa, zph G_strings_IndexRune), (zoz, zln), (zg4, zed G_errors_As)] noC) zqk zbaj [] = zu3 G_strings_IndexRune G_errors_As  := by kernel_rfl
theorem zbld {G_strings_IndexRune : List V → M V} {G_errors_As : List V → M V} (k_strings_IndexRune : zy Tryz.prog zcp G_strings_IndexRune) (k_errors_As : zy Tryz.prog zhd G_errors_As) : zy Tryz.prog zqk (zm1 G_strings_IndexRune G_errors_As) := zh (σ := ovr [(zsa, zph G_strings_IndexRune), (zoz, zln), (zg4, zed G_errors_As)] noC) (hint := zbaj) (by kernel_rfl) (zd (zbn8 k_strings_IndexRune) (zd zbjr (zd (z22 k_errors_As) ze))) fun l H r H' h => by
 unfold zm1 at h; split at h
 · rw [zblc]; exact h
 · exact (zf h).elim
def zzm (G_strings_IndexRune : List V → M V) (G_errors_As : List V → M V) (vs_3 : List V) : M Out :=
 zb (za (zj .add (zc vs_3 3) (Value.int .i64 1))) fun x19 =>
 ret (.nxt [(zc vs_3 0), (zc vs_3 1), (zc vs_3 2), x19])
def zre (G_strings_IndexRune : List V → M V) (G_errors_As : List V → M V) (vs_2 : List V) : M Out :=
 zb (
 zb (
 zxv fun h0 =>
 zb (za (zg 0 (zc vs_2 1))) fun x21 =>
 zb (za (zg 0 (zc vs_2 1))) fun x27 =>
 zb (za (zg 0 (zc vs_2 1))) fun x34 =>
 zb (z7 x21) fun x22 =>
 zb (za (zv 3 x22 (zc vs_2 3))) fun x24 =>
 zb (za (zg 0 x24)) fun x25 =>
 zb (z7 x25) fun x26 =>
 zb (z7 x27) fun x28 =>
 zb (za (zv 3 x28 (zc vs_2 3))) fun x30 =>
 zb (za (zg 1 x30)) fun x31 =>
 zb (z7 x31) fun x32 =>
 zb (z7 x34) fun x35 =>
 zb (za (zv 3 x35 (zc vs_2 3))) fun x37 =>
 zb (za (zg 2 x37)) fun x38 =>
 zb (z7 x38) fun x39 =>
 zfq (zd7 2 0 (rep 0 [Value.int .i64 0, Value.int .i64 0]) []) fun ha x33 h1 =>
 zfq (ze6 2 16 x33 x39) fun ha_2 x40 h2 =>
 zb (za (build [Value.string ⟨#[]⟩, Value.string ⟨#[]⟩, Value.slice none 0 0] [(0, 1, x26), (1, 1, x32), (2, 1, x40)])) fun x41 =>
 zfq (zd7 3 1 (rep 1 [Value.string ⟨#[]⟩, Value.string ⟨#[]⟩, Value.slice none 0 0]) [(0, 3, x41)]) fun ha_3 x42 h3 =>
 zfq (ze6 3 56 (zc vs_2 2) x42) fun ha_4 x43 h4 =>
 zdc (chk (z7 x21) h1 x22) <|
 zdc (chk (z7 x21) h2 x22) <|
 zdc (chk (z7 x25) h1 x26) <|
 zdc (chk (z7 x25) h2 x26) <|
 zdc (chk (z7 x27) h1 x28) <|
 zdc (chk (z7 x27) h2 x28) <|
 zdc (chk (z7 x31) h1 x32) <|
 zdc (chk (z7 x31) h2 x32) <|
 zdc (chk (z7 x34) h1 x35) <|
 zdc (chk (z7 x38) h1 x39) <|
 ret (.nxt [(zc vs_2 0), (zc vs_2 1), x43, (zc vs_2 3)])
 ) fun o => ret (zw 1 o)
 ) fun o => nx o (zzm G_strings_IndexRune G_errors_As)
def zrf (G_strings_IndexRune : List V → M V) (G_errors_As : List V → M V) (vs : List V) : M Out :=
 zb (
 zb (za (zg 0 (zc vs 1))) fun x14 =>
 zb (z7 x14) fun x15 =>
 zb (za (zb9 x15)) fun x16 =>
 zb (za (zj .lss (zc vs 3) x16)) fun x17 =>
 zi x17 (
 ret (.nxt [(zc vs 0), (zc vs 1), (zc vs 2), (zc vs 3)])
 ) (
 ret (.brk 0 [(zc vs 0), (zc vs 1), (zc vs 2)])
 )
 ) fun o => nx o (zre G_strings_IndexRune G_errors_As)
def zzn (G_strings_IndexRune : List V → M V) (G_errors_As : List V → M V) (vs_7 : List V) : M Out :=
 zb (za (zj .add (zc vs_7 6) (Value.int .i64 1))) fun x68 =>
 ret (.nxt [(zc vs_7 0), (zc vs_7 1), (zc vs_7 2), (zc vs_7 3), (zc vs_7 4), (zc vs_7 5), x68])
def zzo (G_strings_IndexRune : List V → M V) (G_errors_As : List V → M V) (vs_6 : List V) : M Out :=
 zb (
 zb (
 zb (za (build [Value.string ⟨#[]⟩, Value.string ⟨#[]⟩, Value.slice none 0 0] [(0, 1, (Value.string ⟨#[115, 112, 111, 105, 108, 116]⟩))])) fun x71 =>
 zb (za (zv 3 (zc vs_6 1) (zc vs_6 6))) fun x72 =>
 zb (stn 3 x72 x71) fun _ =>
 ret (.nxt [(zc vs_6 0), (zc vs_6 1), (zc vs_6 2), (zc vs_6 3), (zc vs_6 4), (zc vs_6 5), (zc vs_6 6)])
 ) fun o => ret (zw 3 o)
 ) fun o => nx o (zzn G_strings_IndexRune G_errors_As)
def zmj (G_strings_IndexRune : List V → M V) (G_errors_As : List V → M V) (vs_5 : List V) : M Out :=
 zb (
 zb (za (zb9 (zc vs_5 1))) fun x65 =>
 zb (za (zj .lss (zc vs_5 6) x65)) fun x66 =>
 zi x66 (
 ret (.nxt [(zc vs_5 0), (zc vs_5 1), (zc vs_5 2), (zc vs_5 3), (zc vs_5 4), (zc vs_5 5), (zc vs_5 6)])
 ) (
 ret (.brk 2 [(zc vs_5 0), (zc vs_5 2), (zc vs_5 3), (zc vs_5 4), (zc vs_5 5)])
 )
 ) fun o => nx o (zzo G_strings_IndexRune G_errors_As)
def zzp (G_strings_IndexRune : List V → M V) (G_errors_As : List V → M V) (vs_12 : List V) : M Out :=
 zb (za (zj .add (zc vs_12 3) (Value.int .i64 1))) fun x98 =>
 ret (.nxt [(zc vs_12 0), (zc vs_12 1), (zc vs_12 2), x98])
def zzq (G_strings_IndexRune : List V → M V) (G_errors_As : List V → M V) (vs_11 : List V) : M Out :=
 zb (
 zb (
 zb (za (zv 7 (zc vs_11 0) (zc vs_11 3))) fun x103 =>
 zb (ldn 7 x103) fun x104 =>
 zb ((zpf G_errors_As) [(zc vs_11 1), (zc vs_11 2), x104]) fun x105 =>
 zb (za (un .not x105)) fun x106 =>
 zb (gd x106 false (za (some (zc vs_11 1)))) fun x108 =>
 zb (gd x106 false (zfz [x108])) fun x109 =>
 zb (gd x106 false (za (some (zc vs_11 2)))) fun x110 =>
 zb (gd x106 false (zfl [x110])) fun x111 =>
 zb (gd x106 false (zjs [x109, x111])) fun x112 =>
 zb (gd x106 false (za (un .not x112))) fun x113 =>
 zb (za (zcq x106 (Value.bool true) x113)) fun x114 =>
 zi x114 (
 ret (.ret [(Value.bool false)])
 ) (
 ret (.nxt [(zc vs_11 0), (zc vs_11 1), (zc vs_11 2), (zc vs_11 3)])
 )
 ) fun o => ret (zw 5 o)
 ) fun o => nx o (zzp G_strings_IndexRune G_errors_As)
def zje (G_strings_IndexRune : List V → M V) (G_errors_As : List V → M V) (vs_10 : List V) : M Out :=
 zb (
 zb (za (zia true (isNil .p (zc vs_10 2)))) fun x86 =>
 zb (gd x86 true (za (some (zc vs_10 3)))) fun x88 =>
 zb (gd x86 true (za (some (zc vs_10 0)))) fun x89 =>
 zb (gd x86 true (za (zb9 x89))) fun x90 =>
 zb (gd x86 true (za (zj .lss x88 x90))) fun x91 =>
 zb (za (zcq x86 x91 (Value.bool false))) fun x92 =>
 zb (gd x92 true (za (some (zc vs_10 3)))) fun x94 =>
 zb (gd x92 true (za (zj .lss x94 (Value.int .i64 80)))) fun x95 =>
 zb (za (zcq x92 x95 (Value.bool false))) fun x96 =>
 zi x96 (
 ret (.nxt [(zc vs_10 0), (zc vs_10 1), (zc vs_10 2), (zc vs_10 3)])
 ) (
 ret (.brk 4 [])
 )
 ) fun o => nx o (zzq G_strings_IndexRune G_errors_As)
def zmk (G_strings_IndexRune : List V → M V) (G_errors_As : List V → M V) (vs_13 : List V) : M Out :=
 zb ((zm1 G_strings_IndexRune G_errors_As) []) fun x115 =>
 ret (.ret [x115])
def zk0 (G_strings_IndexRune : List V → M V) (G_errors_As : List V → M V) (vs_9 : List V) : M Out :=
 zb (
 zb (
 zce zcc (zje G_strings_IndexRune G_errors_As) [(zc vs_9 0), (zc vs_9 1), (zc vs_9 2), (Value.int .i64 0)]
 ) fun o => ret (zw 4 o)
 ) fun o => nx o (zmk G_strings_IndexRune G_errors_As)
def zpw (G_strings_IndexRune : List V → M V) (G_errors_As : List V → M V) (vs_8 : List V) : M Out :=
 zb (
 zb (gd (Value.bool false) false (za (some (zc vs_8 2)))) fun x74 =>
 zb (gd (Value.bool false) false (za (some (zc vs_8 4)))) fun x75 =>
 zb (gd (Value.bool false) false (za (zj .neq x74 x75))) fun x76 =>
 zb (za (zcq (Value.bool false) (Value.bool true) x76)) fun x77 =>
 zb (gd x77 false (za (some (zc vs_8 1)))) fun x79 =>
 zb (gd x77 false (za (zia false (isNil .p x79)))) fun x80 =>
 zb (gd x77 false (za (some (zc vs_8 3)))) fun x81 =>
 zb (gd x77 false (za (zia false (isNil .p x81)))) fun x82 =>
 zb (gd x77 false (za (zia true (eqK .b x80 x82)))) fun x83 =>
 zb (za (zcq x77 (Value.bool true) x83)) fun x84 =>
 zi x84 (
 ret (.ret [(Value.bool false)])
 ) (
 ret (.nxt [(zc vs_8 0), (zc vs_8 1), (zc vs_8 3)])
 )
 ) fun o => nx o (zk0 G_strings_IndexRune G_errors_As)
def zwj (G_strings_IndexRune : List V → M V) (G_errors_As : List V → M V) (vs_4 : List V) : M Out :=
 zb (za (zg 1 (zc vs_4 1))) fun x46 =>
 zb (z7 x46) fun x47 =>
 zb (za (zg 2 (zc vs_4 1))) fun x48 =>
 zb (z7 x48) fun x49 =>
 zb ((zl5 G_strings_IndexRune) [(zc vs_4 2), x47, x49]) fun x50 =>
 zb (za (ext 0 x50)) fun x51 =>
 zb (za (ext 1 x50)) fun x52 =>
 zb (za (zg 0 (zc vs_4 1))) fun x54 =>
 zb (z7 x54) fun x55 =>
 zb (za (zg 1 (zc vs_4 1))) fun x56 =>
 zb (z7 x56) fun x57 =>
 zb (za (zg 2 (zc vs_4 1))) fun x58 =>
 zb (z7 x58) fun x59 =>
 zb (zru [x55, x57, x59]) fun x60 =>
 zb (za (ext 0 x60)) fun x61 =>
 zb (za (ext 1 x60)) fun x62 =>
 zb (
 zb (
 zce zcc (zmj G_strings_IndexRune G_errors_As) [(zc vs_4 0), (zc vs_4 2), x51, x52, x61, x62, (Value.int .i64 0)]
 ) fun o => ret (zw 2 o)
 ) fun o => nx o (zpw G_strings_IndexRune G_errors_As)
def znm (G_strings_IndexRune : List V → M V) (G_errors_As : List V → M V) (x0 x1 : V) : M V :=
 zb (
 zb (zlw x0) fun x2 =>
 zb (
 zb (
 zce zcc (zrf G_strings_IndexRune G_errors_As) [x1, x2, (Value.slice none 0 0), (Value.int .i64 0)]
 ) fun o => ret (zw 0 o)
 ) fun o => nx o (zwj G_strings_IndexRune G_errors_As)
 ) fun o => zcf o fun vs => ret (zca [(zc vs 0)])
def z07 : Hint := (.seq [] .leaf (.seq [] .leaf (.seq [1, 2, 5] (.seq [] .leaf (.blk (.loop [1, 2, 5, 6] (.seq [1, 2, 5, 6] (.seq [] .leaf (.cond .leaf .leaf)) (.seq [1, 2, 5, 6] (.blk (.reg [0, 1, 3, 7, 9, 14, 16, 2, 4, 5, 6, 8, 10, 11, 12, 15, 17, 18, 19, 13, 20, 21, 22, 23, 24] [])) .leaf))))) (.seq [] .leaf (.seq [] .leaf (.seq [1, 7, 8, 9, 10] (.seq [] .leaf (.blk (.loop [1, 5, 7, 8, 9, 10, 11] (.seq [1, 5, 7, 8, 9, 10, 11] (.seq [] .leaf (.cond .leaf .leaf)) (.seq [1, 5, 7, 8, 9, 10, 11] (.blk .leaf) .leaf))))) (.seq [1, 7, 9] (.seq [] .leaf (.cond (.seq [] .leaf .leaf) .leaf)) (.seq [] (.seq [] .leaf (.blk (.loop [1, 7, 9, 12] (.seq [1, 7, 9, 12] (.seq [] .leaf (.cond .leaf .leaf)) (.seq [1, 7, 9, 12] (.blk (.seq [] .leaf (.cond (.seq [] .leaf .leaf) .leaf))) .leaf))))) (.seq [] .leaf .leaf)))))))))
def ztn (G_strings_IndexRune : List V → M V) (G_errors_As : List V → M V) (l : List V) : M V := match l with | [x0, x1] => znm G_strings_IndexRune G_errors_As x0 x1 | _ => fail
theorem zbd3 (G_strings_IndexRune : List V → M V) (G_errors_As : List V → M V) (x0 x1 : V) : zcs Tryz.prog (ovr [(zo0, zl5 G_strings_IndexRune), (zuj, zru), (zsc, zpf G_errors_As), (zij, zfz), (zhx, zfl), (zm4, zjs), (zqk, zm1 G_strings_IndexRune G_errors_As)] noC) zv8 z07 [x0, x1] = znm G_strings_IndexRune G_errors_As x0 x1 := by kernel_rfl
theorem K_law25_SessPlays {G_strings_IndexRune : List V → M V} {G_errors_As : List V → M V} (k_strings_IndexRune : zy Tryz.prog zcp G_strings_IndexRune) (k_errors_As : zy Tryz.prog zhd G_errors_As) : zy Tryz.prog zv8 (ztn G_strings_IndexRune G_errors_As) := zh (σ := ovr [(zo0, zl5 G_strings_IndexRune), (zuj, zru), (zsc, zpf G_errors_As), (zij, zfz), (zhx, zfl), (zm4, zjs), (zqk, zm1 G_strings_IndexRune G_errors_As)] noC) (hint := z07) (by kernel_rfl) (zd (zbi2 k_strings_IndexRune) (zd zbp9 (zd (zbn6 k_errors_As) (zd z73 (zd z52 (zd zbgz (zd (zbld k_strings_IndexRune k_errors_As) ze))))))) fun l H r H' h => by
 unfold ztn at h; split at h
 · rw [zbd3]; exact h
 · exact (zf h).elim
end Go.AM.Cap
