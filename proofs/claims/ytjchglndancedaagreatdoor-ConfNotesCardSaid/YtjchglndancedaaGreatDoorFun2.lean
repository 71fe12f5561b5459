import Derived.Test.YtjchglndancedaaGreatDoorFun
set_option linter.all false
/- Printed by amprint2.py: functions of YtjchglndancedaaGreatDoor on the abstract machine. -/
set_option linter.unusedVariables false
set_option maxRecDepth 100000
namespace Go.AM.Cap
open Go.AM Go.Proofs
def zho (S : zbz) (vs_3 : List V) : M Out :=
 zb (za (bin .add (zc vs_3 3) (Value.int .i64 1))) fun x18 =>
 ret (.nxt [(zc vs_3 0), (zc vs_3 1), (zc vs_3 2), x18])
def zhp (S : zbz) (vs_2 : List V) : M Out :=
 zb (
 zb (
 zb (za (zb5 3 (zc vs_2 0) (zc vs_2 3))) fun x14 =>
 zb (ldn 3 x14) fun x15 =>
 zb (zod (ovr [] S) (zc vs_2 1) [x15]) fun x16 =>
 zbv x16 (
 ret (.ret [(zc vs_2 3)])
 ) (
 ret (.nxt [(zc vs_2 0), (zc vs_2 1), (zc vs_2 2), (zc vs_2 3)])
 )
 ) fun o => ret (zb9 1 o)
 ) fun o => nx o (zho S)
def ze9 (S : zbz) (vs : List V) : M Out :=
 zb (za (bin .lss (zc vs 3) (zc vs 2))) fun x9 =>
 zb (
 zbv x9 (
 ret (.nxt [(zc vs 0), (zc vs 1), (zc vs 2), (zc vs 3)])
 ) (
 ret (.brk 0 [])
 )
 ) fun o => nx o (zhp S)
def zhq (S : zbz) (vs_4 : List V) : M Out :=
 ret (.ret [(Value.int .i64 (-1))])
def zd6 (S : zbz) (x0 x1 : V) : M V :=
 zb (
 zb (
 zb (za (zb4 x0)) fun x7 =>
 zb (
 zc7 zem (ze9 S) [x0, x1, x7, (Value.int .i64 0)]
 ) fun o => ret (zb9 0 o)
 ) fun o => nx o (zhq S)
 ) fun o => zcp o fun vs => ret (zcm [(zc vs 0)])
def zh7 : Hint := (.seq [] .leaf (.seq [] (.seq [] .leaf (.blk (.loop [0, 1, 7, 8] (.seq [] .leaf (.seq [0, 1, 7, 8] (.cond .leaf .leaf) (.seq [0, 1, 7, 8] (.blk (.seq [] .leaf (.seq [] .leaf (.cond (.seq [] .leaf .leaf) .leaf)))) .leaf)))))) (.seq [] .leaf .leaf)))
def zc4 (S : zbz) (l : List V) : M V := match l with | [x0, x1] => zd6 S x0 x1 | _ => fail
theorem znm (S : zbz) (x0 x1 : V) : zde Tryz.prog (ovr [] S) ze4 zh7 [x0, x1] = zd6 S x0 x1 := by kernel_rfl
theorem znn {S : zbz} (hS : zhz Tryz.prog S) : zb3 Tryz.prog ze4 (zc4 S) := zbw (σ := ovr [] S) (hint := zh7) (by kernel_rfl) (zgc hS) fun l H r H' h => by
 unfold zc4 at h; split at h
 · rw [znm]; exact h
 · exact (zo h).elim
def z4c (vs : List V) : M Out :=
 ret (.ret [(zc vs 0), (Value.int .i64 0)])
def zuq (x0 x1 : V) : M V :=
 zb (
 zb (zha x1) fun x3 =>
 zb (za (some (Value.func (.func zkz) #[] #[x3]))) fun x8 =>
 zb ((zc4 (ovr [(zkz, znl)] noC)) [x0, x8]) fun x9 =>
 zb (
 zb (za (bin .lss x9 (Value.int .i64 0))) fun x11 =>
 zbv x11 (
 ret (.ret [(Value.int .i64 0), (Value.int .i64 90)])
 ) (
 ret (.nxt [x9])
 )
 ) fun o => nx o z4c
 ) fun o => zcp o fun vs => ret (zcm [(zc vs 0), (zc vs 1)])
def z7m : Hint := (.seq [] .leaf (.seq [] .leaf (.seq [6] (.seq [] .leaf (.cond (.seq [] .leaf .leaf) .leaf)) (.seq [] .leaf .leaf))))
def zn9 (l : List V) : M V := match l with | [x0, x1] => zuq x0 x1 | _ => fail
def z7n : zbz := ovr [(ze4, zc4 (ovr [(zkz, znl)] noC))] noC
theorem zbgi (x0 x1 : V) : zde Tryz.prog (z7n) zq2 z7m [x0, x1] = zuq x0 x1 := by kernel_rfl
theorem zbgj : zb3 Tryz.prog zq2 (zn9) := zbw (σ := z7n) (hint := z7m) (by kernel_rfl) (zn (znn (zn zbcn z8)) z8) fun l H r H' h => by
 unfold zn9 at h; split at h
 · rw [zbgi]; exact h
 · exact (zo h).elim
def zol (vs_3 : List V) : M Out :=
 zb (za (bin .add (zc vs_3 3) (Value.int .i64 1))) fun x18 =>
 ret (.nxt [(zc vs_3 0), (zc vs_3 1), (zc vs_3 2), x18])
def zj1 (vs_2 : List V) : M Out :=
 zb (
 zb (
 zb (za (zb5 1 (zc vs_2 0) (zc vs_2 3))) fun x14 =>
 zb (ld1 x14) fun x15 =>
 zb (za (bin .eql (zc vs_2 1) x15)) fun x16 =>
 zbv x16 (
 ret (.ret [(zc vs_2 3)])
 ) (
 ret (.nxt [(zc vs_2 0), (zc vs_2 1), (zc vs_2 2), (zc vs_2 3)])
 )
 ) fun o => ret (zb9 1 o)
 ) fun o => nx o zol
def zg5 (vs : List V) : M Out :=
 zb (za (bin .lss (zc vs 3) (zc vs 2))) fun x9 =>
 zb (
 zbv x9 (
 ret (.nxt [(zc vs 0), (zc vs 1), (zc vs 2), (zc vs 3)])
 ) (
 ret (.brk 0 [])
 )
 ) fun o => nx o zj1
def zom (vs_4 : List V) : M Out :=
 ret (.ret [(Value.int .i64 (-1))])
def zhy (x0 x1 : V) : M V :=
 zb (
 zb (
 zb (za (zb4 x0)) fun x7 =>
 zb (
 zc7 zem zg5 [x0, x1, x7, (Value.int .i64 0)]
 ) fun o => ret (zb9 0 o)
 ) fun o => nx o zom
 ) fun o => zcp o fun vs => ret (zcm [(zc vs 0)])
def zpc : Hint := (.seq [] .leaf (.seq [] (.seq [] .leaf (.blk (.loop [0, 1, 7, 8] (.seq [] .leaf (.seq [0, 1, 7, 8] (.cond .leaf .leaf) (.seq [0, 1, 7, 8] (.blk (.seq [] .leaf (.seq [] .leaf (.cond (.seq [] .leaf .leaf) .leaf)))) .leaf)))))) (.seq [] .leaf .leaf)))
def zf5 (l : List V) : M V := match l with | [x0, x1] => zhy x0 x1 | _ => fail
theorem zyc (x0 x1 : V) : zde Tryz.prog (ovr [] noC) zi9 zpc [x0, x1] = zhy x0 x1 := by kernel_rfl
theorem zyd : zb3 Tryz.prog zi9 (zf5) := zbw (σ := ovr [] noC) (hint := zpc) (by kernel_rfl) z8 fun l H r H' h => by
 unfold zf5 at h; split at h
 · rw [zyc]; exact h
 · exact (zo h).elim
def zgh (x0 x1 : V) : M V :=
 zb (
 zb (zf5 [x0, x1]) fun x7 =>
 zb (za (bin .geq x7 (Value.int .i64 0))) fun x8 =>
 ret (.ret [x8])
 ) fun o => zcp o fun vs => ret (zcm [(zc vs 0)])
def zme : Hint := (.seq [] .leaf (.seq [] .leaf .leaf))
def ze5 (l : List V) : M V := match l with | [x0, x1] => zgh x0 x1 | _ => fail
def zmf : zbz := ovr [(zi9, zf5)] noC
theorem zur (x0 x1 : V) : zde Tryz.prog (zmf) zh1 zme [x0, x1] = zgh x0 x1 := by kernel_rfl
theorem zus : zb3 Tryz.prog zh1 (ze5) := zbw (σ := zmf) (hint := zme) (by kernel_rfl) (zn zyd z8) fun l H r H' h => by
 unfold ze5 at h; split at h
 · rw [zur]; exact h
 · exact (zo h).elim
def z17 (vs_3 : List V) : M Out :=
 zb (gd (zc vs_3 2) false (za (some (zc vs_3 1)))) fun x37 =>
 zb (gd (zc vs_3 2) false (za (z6 0 (zc vs_3 3)))) fun x38 =>
 zb (gd (zc vs_3 2) false (ld1 x38)) fun x39 =>
 zb (gd (zc vs_3 2) false (ze5 [x37, x39])) fun x40 =>
 zb (za (zcd (zc vs_3 2) (Value.bool true) x40)) fun x41 =>
 zb (za (z6 0 (zc vs_3 3))) fun x43 =>
 zb (ld1 x43) fun x44 =>
 zb (zjx 1 1 (rep 1 [Value.int .i64 0]) [(0, 1, x44)]) fun x45 =>
 zb (zj3 1 8 (zc vs_3 1) x45) fun x46 =>
 ret (.nxt [(zc vs_3 0), x46, x41, (zc vs_3 4), (zc vs_3 5), (zc vs_3 6)])
def zv9 (vs_4 : List V) : M Out :=
 zb (za (bin .add (zc vs_4 5) (Value.int .i64 1))) fun x47 =>
 ret (.nxt [(zc vs_4 0), (zc vs_4 1), (zc vs_4 2), (zc vs_4 3), (zc vs_4 4), x47])
def z18 (vs_2 : List V) : M Out :=
 zb (
 zb (
 zb (za (zb5 2 (zc vs_2 3) (zc vs_2 5))) fun x14 =>
 zb (ldn 2 x14) fun x15 =>
 zb (newc [Value.int .i64 0, Value.int .i64 0]) fun x8 =>
 zb (stn 2 x8 x15) fun _ =>
 zb (
 zb (za (z6 0 x8)) fun x16 =>
 zb (ld1 x16) fun x17 =>
 zb (za (bin .lss x17 (Value.int .i64 0))) fun x18 =>
 zb (gd x18 false (za (z6 0 x8))) fun x20 =>
 zb (gd x18 false (ld1 x20)) fun x21 =>
 zb (gd x18 false (za (some (zc vs_2 0)))) fun x22 =>
 zb (gd x18 false (za (bin .geq x21 x22))) fun x23 =>
 zb (za (zcd x18 (Value.bool true) x23)) fun x24 =>
 zb (gd x24 false (za (z6 1 x8))) fun x26 =>
 zb (gd x24 false (ld1 x26)) fun x27 =>
 zb (gd x24 false (za (bin .lss x27 (Value.int .i64 1)))) fun x28 =>
 zb (za (zcd x24 (Value.bool true) x28)) fun x29 =>
 zb (gd x29 false (za (z6 1 x8))) fun x31 =>
 zb (gd x29 false (ld1 x31)) fun x32 =>
 zb (gd x29 false (za (bin .gtr x32 (Value.int .i64 4)))) fun x33 =>
 zb (za (zcd x29 (Value.bool true) x33)) fun x34 =>
 zbv x34 (
 ret (.ret [(Value.int .i64 1)])
 ) (
 ret (.nxt [(zc vs_2 0), (zc vs_2 1), (zc vs_2 2), x8, (zc vs_2 3), (zc vs_2 4), (zc vs_2 5)])
 )
 ) fun o => nx o z17
 ) fun o => ret (zb9 1 o)
 ) fun o => nx o zv9
def zrt (vs : List V) : M Out :=
 zb (za (bin .lss (zc vs 5) (zc vs 4))) fun x13 =>
 zb (
 zbv x13 (
 ret (.nxt [(zc vs 0), (zc vs 1), (zc vs 2), (zc vs 3), (zc vs 4), (zc vs 5)])
 ) (
 ret (.brk 0 [(zc vs 2)])
 )
 ) fun o => nx o z18
def z19 (vs_6 : List V) : M Out :=
 ret (.ret [(Value.int .i64 0)])
def zwa (vs_5 : List V) : M Out :=
 zb (
 zbv (zc vs_5 0) (
 ret (.ret [(Value.int .i64 240)])
 ) (
 ret (.nxt [])
 )
 ) fun o => nx o z19
def zss (x0 x1 : V) : M V :=
 zb (
 zb (zha x0) fun x2 =>
 zb (
 zb (za (z6 2 x2)) fun x9 =>
 zb (ld1 x9) fun x10 =>
 zb (za (zb4 x10)) fun x11 =>
 zb (
 zc7 zem zrt [x1, (Value.slice none 0 0), (Value.bool false), x10, x11, (Value.int .i64 0)]
 ) fun o => ret (zb9 0 o)
 ) fun o => nx o zwa
 ) fun o => zcp o fun vs => ret (zcm [(zc vs 0)])
def z4d : Hint := (.seq [] .leaf (.seq [] .leaf (.seq [] .leaf (.seq [6] (.seq [] .leaf (.blk (.loop [1, 5, 6, 10, 11, 12] (.seq [] .leaf (.seq [1, 5, 6, 10, 11, 12] (.cond .leaf .leaf) (.seq [1, 5, 6, 10, 11, 12] (.blk (.seq [] .leaf (.seq [1, 5, 6, 8, 10, 11, 12] (.seq [] .leaf (.cond (.seq [] .leaf .leaf) .leaf)) (.seq [] .leaf .leaf)))) .leaf)))))) (.seq [] (.seq [] .leaf (.cond (.seq [] .leaf .leaf) .leaf)) (.seq [] .leaf .leaf))))))
def zl2 (l : List V) : M V := match l with | [x0, x1] => zss x0 x1 | _ => fail
def z4e : zbz := ovr [(zh1, ze5)] noC
theorem zbdy (x0 x1 : V) : zde Tryz.prog (z4e) zpm z4d [x0, x1] = zss x0 x1 := by kernel_rfl
theorem zbdz : zb3 Tryz.prog zpm (zl2) := zbw (σ := z4e) (hint := z4d) (by kernel_rfl) (zn zus z8) fun l H r H' h => by
 unfold zl2 at h; split at h
 · rw [zbdy]; exact h
 · exact (zo h).elim
def z2a (G_strings_IndexRune : List V → M V) (vs_5 : List V) : M Out :=
 zb (ldn 3 (zc vs_5 3)) fun x45 =>
 zb (zl2 [x45, (zc vs_5 1)]) fun x47 =>
 zb (za (bin .neq x47 (Value.int .i64 0))) fun x49 =>
 zbv x49 (
 ret (.ret [(zc vs_5 2), x47])
 ) (
 ret (.nxt [(zc vs_5 0), (zc vs_5 1), (zc vs_5 4), (zc vs_5 5), (zc vs_5 6)])
 )
def z2b (G_strings_IndexRune : List V → M V) (vs_4 : List V) : M Out :=
 zb (
 zb (za (zjw 3 (zc vs_4 0) none (some (zc vs_4 2)))) fun x36 =>
 zb (za (z6 0 (zc vs_4 3))) fun x37 =>
 zb (ld1 x37) fun x38 =>
 zb (zn9 [x36, x38]) fun x39 =>
 zb (za (ext 0 x39)) fun x40 =>
 zb (za (ext 1 x39)) fun x41 =>
 zb (za (bin .eql x41 (Value.int .i64 0))) fun x43 =>
 zbv x43 (
 ret (.ret [(zc vs_4 2), (Value.int .i64 6)])
 ) (
 ret (.nxt [(zc vs_4 0), (zc vs_4 1), (zc vs_4 2), (zc vs_4 3), (zc vs_4 4), (zc vs_4 5), (zc vs_4 6)])
 )
 ) fun o => nx o (z2a G_strings_IndexRune)
def z2c (G_strings_IndexRune : List V → M V) (vs_6 : List V) : M Out :=
 zb (za (bin .add (zc vs_6 4) (Value.int .i64 1))) fun x52 =>
 ret (.nxt [(zc vs_6 0), (zc vs_6 1), (zc vs_6 2), (zc vs_6 3), x52])
def z2d (G_strings_IndexRune : List V → M V) (vs_3 : List V) : M Out :=
 zb (
 zb (
 zb (za (zb5 3 (zc vs_3 2) (zc vs_3 4))) fun x27 =>
 zb (ldn 3 x27) fun x28 =>
 zb (newc [Value.string ⟨#[]⟩, Value.string ⟨#[]⟩, Value.slice none 0 0]) fun x7 =>
 zb (stn 3 x7 x28) fun _ =>
 zb (
 zb (ldn 3 x7) fun x29 =>
 zb ((zk4 G_strings_IndexRune) [x29]) fun x30 =>
 zb (za (un .not x30)) fun x31 =>
 zbv x31 (
 ret (.ret [(zc vs_3 4), (Value.int .i64 3)])
 ) (
 ret (.nxt [(zc vs_3 0), (zc vs_3 1), (zc vs_3 4), x7, (zc vs_3 2), (zc vs_3 3), (zc vs_3 4)])
 )
 ) fun o => nx o (z2b G_strings_IndexRune)
 ) fun o => ret (zb9 2 o)
 ) fun o => nx o (z2c G_strings_IndexRune)
def zwb (G_strings_IndexRune : List V → M V) (vs_2 : List V) : M Out :=
 zb (za (bin .lss (zc vs_2 4) (zc vs_2 3))) fun x25 =>
 zb (
 zbv x25 (
 ret (.nxt [(zc vs_2 0), (zc vs_2 1), (zc vs_2 2), (zc vs_2 3), (zc vs_2 4)])
 ) (
 ret (.brk 1 [])
 )
 ) fun o => nx o (z2d G_strings_IndexRune)
def z2e (G_strings_IndexRune : List V → M V) (vs_7 : List V) : M Out :=
 ret (.ret [(Value.int .i64 0), (Value.int .i64 0)])
def z2f (G_strings_IndexRune : List V → M V) (vs : List V) : M Out :=
 zb (
 zb (za (zb4 (zc vs 0))) fun x23 =>
 zb (
 zc7 zem (zwb G_strings_IndexRune) [(zc vs 0), (zc vs 1), (zc vs 0), x23, (Value.int .i64 0)]
 ) fun o => ret (zb9 1 o)
 ) fun o => nx o (z2e G_strings_IndexRune)
def zkh (G_strings_IndexRune : List V → M V) (x0 x1 : V) : M V :=
 zb (
 zb (
 zb (
 zb (za (bin .lss x1 (Value.int .i64 1))) fun x13 =>
 zb (gd x13 false (za (some x1))) fun x15 =>
 zb (gd x13 false (za (bin .gtr x15 (Value.int .i64 8)))) fun x16 =>
 zb (za (zcd x13 (Value.bool true) x16)) fun x17 =>
 zbv x17 (
 ret (.ret [(Value.int .i64 (-1)), (Value.int .i64 1)])
 ) (
 zb (za (zb4 x0)) fun x20 =>
 zb (za (bin .gtr x20 (Value.int .i64 8))) fun x21 =>
 zbv x21 (
 ret (.ret [(Value.int .i64 (-1)), (Value.int .i64 2)])
 ) (
 ret (.nxt [x0, x1])
 )
 )
 ) fun o => ret (zb9 0 o)
 ) fun o => nx o (z2f G_strings_IndexRune)
 ) fun o => zcp o fun vs => ret (zcm [(zc vs 0), (zc vs 1)])
def z4f : Hint := (.seq [] .leaf (.seq [0, 1] (.blk (.seq [] .leaf (.cond (.seq [] .leaf .leaf) (.seq [] .leaf (.cond (.seq [] .leaf .leaf) .leaf))))) (.seq [] (.seq [] .leaf (.blk (.loop [0, 1, 22, 23, 24] (.seq [] .leaf (.seq [0, 1, 22, 23, 24] (.cond .leaf .leaf) (.seq [0, 1, 22, 23, 24] (.blk (.seq [] .leaf (.seq [0, 1, 6, 7, 22, 23, 24] (.seq [] .leaf (.cond (.seq [] .leaf .leaf) .leaf)) (.seq [0, 1, 6, 7, 22, 23, 24] (.seq [] (.reg [0, 1, 2, 3, 4, 5, 6, 7, 8, 9, 10] []) (.seq [] .leaf (.cond (.seq [] .leaf .leaf) .leaf))) (.seq [] .leaf (.seq [] .leaf (.cond (.seq [] .leaf .leaf) .leaf))))))) .leaf)))))) (.seq [] .leaf .leaf))))
def zl3 (G_strings_IndexRune : List V → M V) (l : List V) : M V := match l with | [x0, x1] => zkh G_strings_IndexRune x0 x1 | _ => fail
theorem zbd0 (G_strings_IndexRune : List V → M V) (x0 x1 : V) : zde Tryz.prog (ovr [(znv, zk4 G_strings_IndexRune), (zq2, zn9), (zpm, zl2)] noC) zpk z4f [x0, x1] = zkh G_strings_IndexRune x0 x1 := by kernel_rfl
theorem zbd1 {G_strings_IndexRune : List V → M V} (k_strings_IndexRune : zb3 Tryz.prog zb1 G_strings_IndexRune) : zb3 Tryz.prog zpk (zl3 G_strings_IndexRune) := zbw (σ := ovr [(znv, zk4 G_strings_IndexRune), (zq2, zn9), (zpm, zl2)] noC) (hint := z4f) (by kernel_rfl) (zn (zbcl k_strings_IndexRune) (zn zbgj (zn zbdz z8))) fun l H r H' h => by
 unfold zl3 at h; split at h
 · rw [zbd0]; exact h
 · exact (zo h).elim
def zpd (vs : List V) : M Out :=
 zb (zjx 3 0 (rep 0 [Value.string ⟨#[]⟩, Value.string ⟨#[]⟩, Value.slice none 0 0]) []) fun x5 =>
 zb (zj3 3 56 x5 (zc vs 0)) fun x7 =>
 ret (.ret [x7])
def zjh (x0 : V) : M V :=
 zb (
 zb (
 zb (za (zey false (zgb .s x0))) fun x4 =>
 zbv x4 (
 ret (.ret [(Value.slice none 0 0)])
 ) (
 ret (.nxt [x0])
 )
 ) fun o => nx o zpd
 ) fun o => zcp o fun vs => ret (zcm [(zc vs 0)])
def zji : Hint := (.seq [] .leaf (.seq [0] (.seq [] .leaf (.cond (.seq [] .leaf .leaf) .leaf)) (.seq [] .leaf .leaf)))
def zdp (l : List V) : M V := match l with | [x0] => zjh x0 | _ => fail
theorem zpw (x0 : V) : zde Tryz.prog (ovr [] noC) zed zji [x0] = zjh x0 := by kernel_rfl
theorem zpx : zb3 Tryz.prog zed (zdp) := zbw (σ := ovr [] noC) (hint := zji) (by kernel_rfl) z8 fun l H r H' h => by
 unfold zdp at h; split at h
 · rw [zpw]; exact h
 · exact (zo h).elim
def zbad (G_strings_IndexRune : List V → M V) (vs_2 : List V) : M Out :=
 zb (zdp [(zc vs_2 0)]) fun x26 =>
 zb (za (build [Value.slice none 0 0, Value.int .i64 0, Value.int .i64 0, Value.int .i64 0, Value.slice none 0 0, Value.slice none 0 0, Value.int .i64 0, Value.slice none 0 0, Value.slice none 0 0] [(0, 1, x26), (1, 1, (zc vs_2 1))])) fun x28 =>
 zb (zha x28) fun x29 =>
 ret (.ret [x29, (Value.int .i64 0)])
def zxd (G_strings_IndexRune : List V → M V) (vs : List V) : M Out :=
 zb (
 zb (za (bin .lss (zc vs 1) (Value.int .i64 1))) fun x20 =>
 zb (gd x20 false (za (some (zc vs 1)))) fun x22 =>
 zb (gd x20 false (za (bin .gtr x22 (Value.int .i64 100000)))) fun x23 =>
 zb (za (zcd x20 (Value.bool true) x23)) fun x24 =>
 zbv x24 (
 ret (.ret [(Value.pointer none), (Value.int .i64 1)])
 ) (
 ret (.nxt [(zc vs 0), (zc vs 1)])
 )
 ) fun o => nx o (zbad G_strings_IndexRune)
def zz7 (G_strings_IndexRune : List V → M V) (x0 x1 x2 : V) : M V :=
 zb (
 zb (
 zb ((zl3 G_strings_IndexRune) [x0, x1]) fun x13 =>
 zb (za (ext 0 x13)) fun x14 =>
 zb (za (ext 1 x13)) fun x15 =>
 zb (za (bin .neq x15 (Value.int .i64 0))) fun x17 =>
 zbv x17 (
 ret (.ret [(Value.pointer none), x15])
 ) (
 ret (.nxt [x0, x2])
 )
 ) fun o => nx o (zxd G_strings_IndexRune)
 ) fun o => zcp o fun vs => ret (zcm [(zc vs 0), (zc vs 1)])
def zbco : Hint := (.seq [] .leaf (.seq [0, 2] (.seq [] .leaf (.seq [] .leaf (.cond (.seq [] .leaf .leaf) .leaf))) (.seq [0, 2] (.seq [] .leaf (.cond (.seq [] .leaf .leaf) .leaf)) (.seq [] .leaf .leaf))))
def zsf (G_strings_IndexRune : List V → M V) (l : List V) : M V := match l with | [x0, x1, x2] => zz7 G_strings_IndexRune x0 x1 x2 | _ => fail
theorem zbks (G_strings_IndexRune : List V → M V) (x0 x1 x2 : V) : zde Tryz.prog (ovr [(zpk, zl3 G_strings_IndexRune), (zed, zdp)] noC) zue zbco [x0, x1, x2] = zz7 G_strings_IndexRune x0 x1 x2 := by kernel_rfl
theorem zbkt {G_strings_IndexRune : List V → M V} (k_strings_IndexRune : zb3 Tryz.prog zb1 G_strings_IndexRune) : zb3 Tryz.prog zue (zsf G_strings_IndexRune) := zbw (σ := ovr [(zpk, zl3 G_strings_IndexRune), (zed, zdp)] noC) (hint := zbco) (by kernel_rfl) (zn (zbd1 k_strings_IndexRune) (zn zpx z8)) fun l H r H' h => by
 unfold zsf at h; split at h
 · rw [zbks]; exact h
 · exact (zo h).elim
def zoa (vs : List V) : M Out :=
 zb (zjx 3 0 (rep 0 [Value.int .i64 0, Value.int .i64 0, Value.bool false]) []) fun x5 =>
 zb (zj3 3 24 x5 (zc vs 0)) fun x7 =>
 ret (.ret [x7])
def ziv (x0 : V) : M V :=
 zb (
 zb (
 zb (za (zey false (zgb .s x0))) fun x4 =>
 zbv x4 (
 ret (.ret [(Value.slice none 0 0)])
 ) (
 ret (.nxt [x0])
 )
 ) fun o => nx o zoa
 ) fun o => zcp o fun vs => ret (zcm [(zc vs 0)])
def ziw : Hint := (.seq [] .leaf (.seq [0] (.seq [] .leaf (.cond (.seq [] .leaf .leaf) .leaf)) (.seq [] .leaf .leaf)))
def zdc (l : List V) : M V := match l with | [x0] => ziv x0 | _ => fail
theorem zos (x0 : V) : zde Tryz.prog (ovr [] noC) zd0 ziw [x0] = ziv x0 := by kernel_rfl
theorem zot : zb3 Tryz.prog zd0 (zdc) := zbw (σ := ovr [] noC) (hint := ziw) (by kernel_rfl) z8 fun l H r H' h => by
 unfold zdc at h; split at h
 · rw [zos]; exact h
 · exact (zo h).elim
def zpe (vs : List V) : M Out :=
 zb (zjx 2 0 (rep 0 [Value.int .i64 0, Value.int .i64 0]) []) fun x5 =>
 zb (zj3 2 16 x5 (zc vs 0)) fun x7 =>
 ret (.ret [x7])
def zjj (x0 : V) : M V :=
 zb (
 zb (
 zb (za (zey false (zgb .s x0))) fun x4 =>
 zbv x4 (
 ret (.ret [(Value.slice none 0 0)])
 ) (
 ret (.nxt [x0])
 )
 ) fun o => nx o zpe
 ) fun o => zcp o fun vs => ret (zcm [(zc vs 0)])
def zjk : Hint := (.seq [] .leaf (.seq [0] (.seq [] .leaf (.cond (.seq [] .leaf .leaf) .leaf)) (.seq [] .leaf .leaf)))
def zdq (l : List V) : M V := match l with | [x0] => zjj x0 | _ => fail
theorem zpy (x0 : V) : zde Tryz.prog (ovr [] noC) zec zjk [x0] = zjj x0 := by kernel_rfl
theorem zpz : zb3 Tryz.prog zec (zdq) := zbw (σ := ovr [] noC) (hint := zjk) (by kernel_rfl) z8 fun l H r H' h => by
 unfold zdq at h; split at h
 · rw [zpy]; exact h
 · exact (zo h).elim
noncomputable def zbcp (G_strings_IndexRune : List V → M V) (vs_5 : List V) : M Out :=
 zb (za (bin .add (zc vs_5 4) (Value.int .i64 1))) fun x65 =>
 ret (.nxt [(zc vs_5 0), (zc vs_5 1), (zc vs_5 2), (zc vs_5 3), x65])
noncomputable def zbcq (G_strings_IndexRune : List V → M V) (vs_4 : List V) : M Out :=
 zb (
 zb (
 zb (za (zb5 3 (zc vs_4 2) (zc vs_4 4))) fun x49 =>
 zb (ldn 3 x49) fun x50 =>
 zb (newc [Value.string ⟨#[]⟩, Value.string ⟨#[]⟩, Value.slice none 0 0]) fun x13 =>
 zb (stn 3 x13 x50) fun _ =>
 zb (za (z6 2 x13)) fun x51 =>
 zb (ld1 x51) fun x52 =>
 zb (zdq [x52]) fun x53 =>
 zb (za (z6 2 x13)) fun x54 =>
 zb (st1 x54 x53) fun _ =>
 zr6 fun h0 =>
 zb (za (zez (zc vs_4 1))) fun x57 =>
 zb (za (z6 2 x57)) fun x58 =>
 zb (ld1 x58) fun x59 =>
 zb (ldn 3 x13) fun x60 =>
 zgn (zjx 3 1 (rep 1 [Value.string ⟨#[]⟩, Value.string ⟨#[]⟩, Value.slice none 0 0]) [(0, 3, x60)]) fun ha x61 h1 =>
 zgn (zj3 3 56 x59 x61) fun ha_2 x62 h2 =>
 zb (za (zez (zc vs_4 1))) fun x63 =>
 zb (za (z6 2 x63)) fun x64 =>
 zgn (st1 x64 x62) fun ha_3 u h3 =>
 zqr (chk (ld1 x58) h1 x59) <|
 ret (.nxt [(zc vs_4 0), (zc vs_4 1), (zc vs_4 2), (zc vs_4 3), (zc vs_4 4)])
 ) fun o => ret (zb9 1 o)
 ) fun o => nx o (zbcp G_strings_IndexRune)
noncomputable def z5n (G_strings_IndexRune : List V → M V) (vs_3 : List V) : M Out :=
 zb (za (bin .lss (zc vs_3 4) (zc vs_3 3))) fun x48 =>
 zb (
 zbv x48 (
 ret (.nxt [(zc vs_3 0), (zc vs_3 1), (zc vs_3 2), (zc vs_3 3), (zc vs_3 4)])
 ) (
 ret (.brk 0 [(zc vs_3 0), (zc vs_3 1)])
 )
 ) fun o => nx o (zbcq G_strings_IndexRune)
noncomputable def z5o (G_strings_IndexRune : List V → M V) (vs_9 : List V) : M Out :=
 zb (za (bin .add (zc vs_9 4) (Value.int .i64 1))) fun x87 =>
 ret (.nxt [(zc vs_9 0), (zc vs_9 1), (zc vs_9 2), (zc vs_9 3), x87])
noncomputable def zbcr (G_strings_IndexRune : List V → M V) (vs_8 : List V) : M Out :=
 zb (
 zb (
 zb (za (zb5 2 (zc vs_8 2) (zc vs_8 4))) fun x71 =>
 zb (ldn 2 x71) fun x72 =>
 zb (newc [Value.int .i64 0, Value.bool false]) fun x15 =>
 zb (stn 2 x15 x72) fun _ =>
 zb (za (z6 1 x15)) fun x73 =>
 zb (ld1 x73) fun x74 =>
 zb (za (un .not x74)) fun x75 =>
 zbv x75 (
 zr6 fun h0_2 =>
 zb (za (zez (zc vs_8 1))) fun x78 =>
 zb (za (z6 4 x78)) fun x79 =>
 zb (za (z6 0 x15)) fun x81 =>
 zb (ld1 x79) fun x80 =>
 zb (ld1 x81) fun x82 =>
 zgn (zjx 1 1 (rep 1 [Value.int .i64 0]) [(0, 1, x82)]) fun ha_4 x83 h1_2 =>
 zgn (zj3 1 8 x80 x83) fun ha_5 x84 h2_2 =>
 zb (za (zez (zc vs_8 1))) fun x85 =>
 zb (za (z6 4 x85)) fun x86 =>
 zgn (st1 x86 x84) fun ha_6 u_2 h3_2 =>
 zqr (chk (ld1 x79) h1_2 x80) <|
 ret (.nxt [(zc vs_8 0), (zc vs_8 1), (zc vs_8 2), (zc vs_8 3), (zc vs_8 4)])
 ) (
 ret (.nxt [(zc vs_8 0), (zc vs_8 1), (zc vs_8 2), (zc vs_8 3), (zc vs_8 4)])
 )
 ) fun o => ret (zb9 3 o)
 ) fun o => nx o (z5o G_strings_IndexRune)
noncomputable def z5p (G_strings_IndexRune : List V → M V) (vs_7 : List V) : M Out :=
 zb (za (bin .lss (zc vs_7 4) (zc vs_7 3))) fun x70 =>
 zb (
 zbv x70 (
 ret (.nxt [(zc vs_7 0), (zc vs_7 1), (zc vs_7 2), (zc vs_7 3), (zc vs_7 4)])
 ) (
 ret (.brk 2 [(zc vs_7 0), (zc vs_7 1)])
 )
 ) fun o => nx o (zbcr G_strings_IndexRune)
noncomputable def z5q (G_strings_IndexRune : List V → M V) (vs_13 : List V) : M Out :=
 zb (za (bin .add (zc vs_13 3) (Value.int .i64 1))) fun x104 =>
 ret (.nxt [(zc vs_13 0), (zc vs_13 1), (zc vs_13 2), x104])
noncomputable def zbcs (G_strings_IndexRune : List V → M V) (vs_12 : List V) : M Out :=
 zb (
 zb (
 zb (za (zb5 3 (zc vs_12 1) (zc vs_12 3))) fun x94 =>
 zb (ldn 3 x94) fun x95 =>
 zb (newc [Value.int .i64 0, Value.int .i64 0, Value.int .i64 0]) fun x17 =>
 zb (stn 3 x17 x95) fun _ =>
 zb (za (z6 0 x17)) fun x96 =>
 zb (ld1 x96) fun x97 =>
 zb (za (bin .eql x97 (Value.int .i64 (-1)))) fun x98 =>
 zbv x98 (
 zb (za (z6 2 x17)) fun x100 =>
 zb (ld1 x100) fun x101 =>
 zb (za (zez (zc vs_12 0))) fun x102 =>
 zb (za (z6 5 x102)) fun x103 =>
 zb (st1 x103 x101) fun _ =>
 ret (.nxt [(zc vs_12 0), (zc vs_12 1), (zc vs_12 2), (zc vs_12 3)])
 ) (
 ret (.nxt [(zc vs_12 0), (zc vs_12 1), (zc vs_12 2), (zc vs_12 3)])
 )
 ) fun o => ret (zb9 5 o)
 ) fun o => nx o (z5q G_strings_IndexRune)
noncomputable def z5r (G_strings_IndexRune : List V → M V) (vs_11 : List V) : M Out :=
 zb (za (bin .lss (zc vs_11 3) (zc vs_11 2))) fun x93 =>
 zb (
 zbv x93 (
 ret (.nxt [(zc vs_11 0), (zc vs_11 1), (zc vs_11 2), (zc vs_11 3)])
 ) (
 ret (.brk 4 [(zc vs_11 0)])
 )
 ) fun o => nx o (zbcs G_strings_IndexRune)
noncomputable def zbct (G_strings_IndexRune : List V → M V) (vs_14 : List V) : M Out :=
 ret (.ret [(zc vs_14 0), (Value.int .i64 0)])
noncomputable def zbae (G_strings_IndexRune : List V → M V) (vs_10 : List V) : M Out :=
 zb (
 zb (za (z6 3 (zc vs_10 0))) fun x88 =>
 zb (za (z6 1 x88)) fun x89 =>
 zb (ld1 x89) fun x90 =>
 zb (za (zb4 x90)) fun x91 =>
 zb (
 zc7 zem (z5r G_strings_IndexRune) [(zc vs_10 1), x90, x91, (Value.int .i64 0)]
 ) fun o => ret (zb9 4 o)
 ) fun o => nx o (zbct G_strings_IndexRune)
noncomputable def zbaf (G_strings_IndexRune : List V → M V) (vs_6 : List V) : M Out :=
 zb (
 zb (za (z6 0 (zc vs_6 0))) fun x66 =>
 zb (ld1 x66) fun x67 =>
 zb (za (zb4 x67)) fun x68 =>
 zb (
 zc7 zem (z5p G_strings_IndexRune) [(zc vs_6 0), (zc vs_6 1), x67, x68, (Value.int .i64 0)]
 ) fun o => ret (zb9 2 o)
 ) fun o => nx o (zbae G_strings_IndexRune)
noncomputable def zbag (G_strings_IndexRune : List V → M V) (vs_2 : List V) : M Out :=
 zb (za (z6 1 (zc vs_2 1))) fun x40 =>
 zb (ld1 x40) fun x41 =>
 zb (zdc [x41]) fun x42 =>
 zb (za (build [Value.pointer none, Value.pointer none, Value.slice none 0 0, Value.slice none 0 0, Value.slice none 0 0, Value.int .i64 0, Value.int .i64 0, Value.int .i64 0] [(0, 1, (zc vs_2 2)), (1, 1, (zc vs_2 3)), (3, 1, x42)])) fun x43 =>
 zb (zha x43) fun x44 =>
 zb (
 zb (za (zb4 (zc vs_2 0))) fun x46 =>
 zb (
 zc7 zem (z5n G_strings_IndexRune) [(zc vs_2 1), x44, (zc vs_2 0), x46, (Value.int .i64 0)]
 ) fun o => ret (zb9 0 o)
 ) fun o => nx o (zbaf G_strings_IndexRune)
noncomputable def zbah (G_strings_IndexRune : List V → M V) (vs : List V) : M Out :=
 zb (za (z6 5 (zc vs 2))) fun x28 =>
 zb (ld1 x28) fun x29 =>
 zb (za (zb4 x29)) fun x30 =>
 zb ((zsf G_strings_IndexRune) [(zc vs 0), x30, (zc vs 1)]) fun x32 =>
 zb (za (ext 0 x32)) fun x33 =>
 zb (za (ext 1 x32)) fun x34 =>
 zb (
 zb (za (bin .neq x34 (Value.int .i64 0))) fun x36 =>
 zbv x36 (
 ret (.ret [(Value.pointer none), x34])
 ) (
 ret (.nxt [(zc vs 0), (zc vs 2), (zc vs 3), x33])
 )
 ) fun o => nx o (zbag G_strings_IndexRune)
noncomputable def z24 (G_strings_IndexRune : List V → M V) (x0 x1 x2 : V) : M V :=
 zb (
 zb (zha x0) fun x3 =>
 zb (ldn 7 x3) fun x19 =>
 zb (zse [x19]) fun x20 =>
 zb (za (ext 0 x20)) fun x21 =>
 zb (za (ext 1 x20)) fun x22 =>
 zb (
 zb (za (bin .neq x22 (Value.int .i64 0))) fun x24 =>
 zbv x24 (
 ret (.ret [(Value.pointer none), x22])
 ) (
 ret (.nxt [x1, x2, x3, x21])
 )
 ) fun o => nx o (zbah G_strings_IndexRune)
 ) fun o => zcp o fun vs => ret (zcm [(zc vs 0), (zc vs 1)])
def zbe6 : Hint := (.seq [] .leaf (.seq [] .leaf (.seq [1, 2, 3, 8] (.seq [] .leaf (.cond (.seq [] .leaf .leaf) .leaf)) (.seq [] .leaf (.seq [1, 3, 8, 10] (.seq [] .leaf (.cond (.seq [] .leaf .leaf) .leaf)) (.seq [] .leaf (.seq [3, 11] (.seq [] .leaf (.blk (.loop [3, 11, 45, 46, 47] (.seq [] .leaf (.seq [3, 11, 45, 46, 47] (.cond .leaf .leaf) (.seq [3, 11, 45, 46, 47] (.blk (.seq [] .leaf (.seq [] .leaf (.reg [0, 1, 2, 3, 4, 5, 6, 7, 8, 9, 10] [])))) .leaf)))))) (.seq [3, 11] (.seq [] .leaf (.blk (.loop [3, 11, 67, 68, 69] (.seq [] .leaf (.seq [3, 11, 67, 68, 69] (.cond .leaf .leaf) (.seq [3, 11, 67, 68, 69] (.blk (.seq [] .leaf (.seq [] .leaf (.cond (.reg [0, 1, 2, 3, 5, 4, 6, 7, 8, 9, 10, 11] []) .leaf)))) .leaf)))))) (.seq [11] (.seq [] .leaf (.blk (.loop [11, 90, 91, 92] (.seq [] .leaf (.seq [11, 90, 91, 92] (.cond .leaf .leaf) (.seq [11, 90, 91, 92] (.blk (.seq [] .leaf (.seq [] .leaf (.cond .leaf .leaf)))) .leaf)))))) (.seq [] .leaf .leaf))))))))))
noncomputable def zu0 (G_strings_IndexRune : List V → M V) (l : List V) : M V := match l with | [x0, x1, x2] => z24 G_strings_IndexRune x0 x1 x2 | _ => fail
theorem zbnq (G_strings_IndexRune : List V → M V) (x0 x1 x2 : V) : zde Tryz.prog (ovr [(zud, zse), (zue, zsf G_strings_IndexRune), (zd0, zdc), (zec, zdq)] noC) zw4 zbe6 [x0, x1, x2] = z24 G_strings_IndexRune x0 x1 x2 := by kernel_rfl
theorem zbnr {G_strings_IndexRune : List V → M V} (k_strings_IndexRune : zb3 Tryz.prog zb1 G_strings_IndexRune) : zb3 Tryz.prog zw4 (zu0 G_strings_IndexRune) := zbw (σ := ovr [(zud, zse), (zue, zsf G_strings_IndexRune), (zd0, zdc), (zec, zdq)] noC) (hint := zbe6) (by kernel_rfl) (zn zbkr (zn (zbkt k_strings_IndexRune) (zn zot (zn zpz z8)))) fun l H r H' h => by
 unfold zu0 at h; split at h
 · rw [zbnq]; exact h
 · exact (zo h).elim
noncomputable def z4g (G_strings_Split : List V → M V) (G_strings_IndexRune : List V → M V) (G_strconv_Atoi : List V → M V) (G_strings_IndexByte : List V → M V) (vs_3 : List V) : M Out :=
 zb (ldn 9 (zc vs_3 0)) fun x55 =>
 zb (stn 9 (zc vs_3 0) x55) fun _ =>
 ret (.ret [(zc vs_3 0), (Value.int .i64 0), (Value.int .i64 0)])
noncomputable def z4h (G_strings_Split : List V → M V) (G_strings_IndexRune : List V → M V) (G_strconv_Atoi : List V → M V) (G_strings_IndexByte : List V → M V) (vs_2 : List V) : M Out :=
 zb (
 zb (za (z6 0 (zc vs_2 0))) fun x42 =>
 zb (ldn 7 x42) fun x43 =>
 zb (za (z6 7 (zc vs_2 0))) fun x44 =>
 zb (ld1 x44) fun x45 =>
 zb (za (z6 8 (zc vs_2 0))) fun x46 =>
 zb (ld1 x46) fun x47 =>
 zb ((zu0 G_strings_IndexRune) [x43, x45, x47]) fun x48 =>
 zb (za (ext 0 x48)) fun x49 =>
 zb (za (ext 1 x48)) fun x50 =>
 zb (za (bin .neq x50 (Value.int .i64 0))) fun x52 =>
 zbv x52 (
 zb (za (build [Value.slice none 0 0, Value.slice none 0 0, Value.slice none 0 0, Value.int .i64 0, Value.slice none 0 0, Value.slice none 0 0, Value.int .i64 0, Value.slice none 0 0, Value.int .i64 0] [])) fun x53 =>
 zb (stn 9 (zc vs_2 0) x53) fun _ =>
 ret (.ret [(zc vs_2 0), (Value.int .i64 0), x50])
 ) (
 ret (.nxt [(zc vs_2 0)])
 )
 ) fun o => nx o (z4g G_strings_Split G_strings_IndexRune G_strconv_Atoi G_strings_IndexByte)
noncomputable def z4i (G_strings_Split : List V → M V) (G_strings_IndexRune : List V → M V) (G_strconv_Atoi : List V → M V) (G_strings_IndexByte : List V → M V) (vs : List V) : M Out :=
 zb (G_strings_Split [(zc vs 0), (Value.string ⟨#[10]⟩)]) fun x14 =>
 zb (za (zb4 x14)) fun x16 =>
 zb (za (bin .sub x16 (Value.int .i64 1))) fun x17 =>
 zb (za (zjw 1 x14 none (some x17))) fun x21 =>
 zb ((zqi G_strings_IndexRune G_strconv_Atoi G_strings_IndexByte G_strings_Split) [x21]) fun x22 =>
 zb (za (ext 0 x22)) fun x23 =>
 zb (za (ext 1 x22)) fun x24 =>
 zb (za (ext 2 x22)) fun x25 =>
 zb (stn 9 (zc vs 1) x23) fun _ =>
 zb (
 zb (
 zb (za (bin .neq x25 (Value.int .i64 0))) fun x28 =>
 zbv x28 (
 zb (za (build [Value.slice none 0 0, Value.slice none 0 0, Value.slice none 0 0, Value.int .i64 0, Value.slice none 0 0, Value.slice none 0 0, Value.int .i64 0, Value.slice none 0 0, Value.int .i64 0] [])) fun x29 =>
 zb (stn 9 (zc vs 1) x29) fun _ =>
 ret (.ret [(zc vs 1), x24, x25])
 ) (
 zb (za (zb5 1 x14 x17)) fun x35 =>
 zb (ld1 x35) fun x36 =>
 zb (za (bin .neq x36 (Value.string ⟨#[]⟩))) fun x37 =>
 zbv x37 (
 zb (za (build [Value.slice none 0 0, Value.slice none 0 0, Value.slice none 0 0, Value.int .i64 0, Value.slice none 0 0, Value.slice none 0 0, Value.int .i64 0, Value.slice none 0 0, Value.int .i64 0] [])) fun x38 =>
 zb (za (bin .add x17 (Value.int .i64 1))) fun x40 =>
 zb (stn 9 (zc vs 1) x38) fun _ =>
 ret (.ret [(zc vs 1), x40, (Value.int .i64 3)])
 ) (
 ret (.nxt [(zc vs 1)])
 )
 )
 ) fun o => ret (zb9 0 o)
 ) fun o => nx o (z4h G_strings_Split G_strings_IndexRune G_strconv_Atoi G_strings_IndexByte)
noncomputable def zut (G_strings_Split : List V → M V) (G_strings_IndexRune : List V → M V) (G_strconv_Atoi : List V → M V) (G_strings_IndexByte : List V → M V) (x0 : V) : M V :=
 zb (
 zb (newc [Value.slice none 0 0, Value.slice none 0 0, Value.slice none 0 0, Value.int .i64 0, Value.slice none 0 0, Value.slice none 0 0, Value.int .i64 0, Value.slice none 0 0, Value.int .i64 0]) fun x2 =>
 zb (
 zb (za (zhc x0)) fun x10 =>
 zb (za (bin .gtr x10 (Value.int .i64 65536))) fun x11 =>
 zbv x11 (
 zb (za (build [Value.slice none 0 0, Value.slice none 0 0, Value.slice none 0 0, Value.int .i64 0, Value.slice none 0 0, Value.slice none 0 0, Value.int .i64 0, Value.slice none 0 0, Value.int .i64 0] [])) fun x12 =>
 zb (stn 9 x2 x12) fun _ =>
 ret (.ret [x2, (Value.int .i64 0), (Value.int .i64 2)])
 ) (
 ret (.nxt [x0, x2])
 )
 ) fun o => nx o (z4i G_strings_Split G_strings_IndexRune G_strconv_Atoi G_strings_IndexByte)
 ) fun o => zcp o fun vs => zb (ldn 9 (zc vs 0)) fun r0 => ret (zcm [r0, (zc vs 1), (zc vs 2)])
def z7o : Hint := (.seq [] .leaf (.seq [0, 2] (.seq [] .leaf (.cond (.seq [] .leaf .leaf) .leaf)) (.seq [] .leaf (.seq [] .leaf (.seq [] .leaf (.seq [2] (.blk (.seq [] .leaf (.cond (.seq [] .leaf .leaf) (.seq [] .leaf (.cond (.seq [] .leaf .leaf) .leaf))))) (.seq [2] (.seq [] .leaf (.seq [] .leaf (.cond (.seq [] .leaf .leaf) .leaf))) (.seq [] .leaf .leaf))))))))
noncomputable def zgq (G_strings_Split : List V → M V) (G_strings_IndexRune : List V → M V) (G_strconv_Atoi : List V → M V) (G_strings_IndexByte : List V → M V) (l : List V) : M V := match l with | [x0] => zut G_strings_Split G_strings_IndexRune G_strconv_Atoi G_strings_IndexByte x0 | _ => fail
theorem zbgk (G_strings_Split : List V → M V) (G_strings_IndexRune : List V → M V) (G_strconv_Atoi : List V → M V) (G_strings_IndexByte : List V → M V) (x0 : V) : zde Tryz.prog (ovr [(zdk, G_strings_Split), (zsn, zqi G_strings_IndexRune G_strconv_Atoi G_strings_IndexByte G_strings_Split), (zw4, zu0 G_strings_IndexRune)] noC) zky z7o [x0] = zut G_strings_Split G_strings_IndexRune G_strconv_Atoi G_strings_IndexByte x0 := by kernel_rfl
theorem z7p {G_strings_Split : List V → M V} {G_strings_IndexRune : List V → M V} {G_strconv_Atoi : List V → M V} {G_strings_IndexByte : List V → M V} (k_strings_Split : zb3 Tryz.prog zdk G_strings_Split) (k_strings_IndexRune : zb3 Tryz.prog zb1 G_strings_IndexRune) (k_strconv_Atoi : zb3 Tryz.prog zcj G_strconv_Atoi) (k_strings_IndexByte : zb3 Tryz.prog zcu G_strings_IndexByte) : zb3 Tryz.prog zky (zgq G_strings_Split G_strings_IndexRune G_strconv_Atoi G_strings_IndexByte) := zbw (σ := ovr [(zdk, G_strings_Split), (zsn, zqi G_strings_IndexRune G_strconv_Atoi G_strings_IndexByte G_strings_Split), (zw4, zu0 G_strings_IndexRune)] noC) (hint := z7o) (by kernel_rfl) (zn k_strings_Split (zn (zbit k_strings_IndexRune k_strconv_Atoi k_strings_IndexByte k_strings_Split) (zn (zbnr k_strings_IndexRune) z8))) fun l H r H' h => by
 unfold zgq at h; split at h
 · rw [zbgk]; exact h
 · exact (zo h).elim
noncomputable def zst (G_strings_Split : List V → M V) (G_strings_IndexRune : List V → M V) (G_strconv_Atoi : List V → M V) (G_strings_IndexByte : List V → M V) : M V :=
 zb (
 zb ((zgq G_strings_Split G_strings_IndexRune G_strconv_Atoi G_strings_IndexByte) [(Value.string ⟨#[109, 105, 108, 108, 105, 115, 32, 49, 48, 10, 102, 114, 97, 109, 101, 32, 53, 48, 10, 105, 100, 108, 101, 32, 57, 10, 119, 105, 110, 100, 111, 119, 32, 48, 32, 48, 32, 50, 48, 10, 117, 110, 105, 116, 10]⟩)]) fun x8 =>
 zb (za (ext 0 x8)) fun x9 =>
 zb (za (ext 1 x8)) fun x10 =>
 zb (za (ext 2 x8)) fun x11 =>
 zb (newc [Value.slice none 0 0, Value.slice none 0 0, Value.slice none 0 0, Value.int .i64 0, Value.slice none 0 0, Value.slice none 0 0, Value.int .i64 0, Value.slice none 0 0, Value.int .i64 0]) fun x1 =>
 zb (stn 9 x1 x9) fun _ =>
 zb ((zgq G_strings_Split G_strings_IndexRune G_strconv_Atoi G_strings_IndexByte) [(Value.string ⟨#[109, 105, 108, 108, 105, 115, 32, 49, 48, 10, 109, 105, 108, 108, 105, 115, 32, 49, 48, 10]⟩)]) fun x13 =>
 zb (za (ext 0 x13)) fun x14 =>
 zb (za (ext 1 x13)) fun x15 =>
 zb (za (ext 2 x13)) fun x16 =>
 zb (newc [Value.slice none 0 0, Value.slice none 0 0, Value.slice none 0 0, Value.int .i64 0, Value.slice none 0 0, Value.slice none 0 0, Value.int .i64 0, Value.slice none 0 0, Value.int .i64 0]) fun x4 =>
 zb (stn 9 x4 x14) fun _ =>
 zb (za (bin .eql x10 (Value.int .i64 0))) fun x18 =>
 zb (gd x18 true (za (some x11))) fun x20 =>
 zb (gd x18 true (za (bin .eql x20 (Value.int .i64 0)))) fun x21 =>
 zb (za (zcd x18 x21 (Value.bool false))) fun x22 =>
 zb (gd x22 true (za (z6 0 x1))) fun x24 =>
 zb (gd x22 true (za (z6 6 x24))) fun x25 =>
 zb (gd x22 true (ld1 x25)) fun x26 =>
 zb (gd x22 true (za (bin .eql x26 (Value.int .i64 10)))) fun x27 =>
 zb (za (zcd x22 x27 (Value.bool false))) fun x28 =>
 zb (gd x28 true (za (z6 0 x1))) fun x30 =>
 zb (gd x28 true (za (z6 3 x30))) fun x31 =>
 zb (gd x28 true (za (z6 0 x31))) fun x32 =>
 zb (gd x28 true (ld1 x32)) fun x33 =>
 zb (gd x28 true (za (bin .eql x33 (Value.int .i64 50)))) fun x34 =>
 zb (za (zcd x28 x34 (Value.bool false))) fun x35 =>
 zb (gd x35 true (za (z6 8 x1))) fun x37 =>
 zb (gd x35 true (ld1 x37)) fun x38 =>
 zb (gd x35 true (za (bin .eql x38 (Value.int .i64 9)))) fun x39 =>
 zb (za (zcd x35 x39 (Value.bool false))) fun x40 =>
 zb (gd x40 true (za (z6 0 x1))) fun x42 =>
 zb (gd x40 true (za (z6 3 x42))) fun x43 =>
 zb (gd x40 true (za (z6 1 x43))) fun x44 =>
 zb (gd x40 true (ld1 x44)) fun x45 =>
 zb (gd x40 true (za (zb4 x45))) fun x46 =>
 zb (gd x40 true (za (bin .eql x46 (Value.int .i64 1)))) fun x47 =>
 zb (za (zcd x40 x47 (Value.bool false))) fun x48 =>
 zb (gd x48 true (za (z6 0 x1))) fun x50 =>
 zb (gd x48 true (za (z6 3 x50))) fun x51 =>
 zb (gd x48 true (za (z6 1 x51))) fun x52 =>
 zb (gd x48 true (ld1 x52)) fun x53 =>
 zb (gd x48 true (za (zb5 3 x53 (Value.int .i64 0)))) fun x54 =>
 zb (gd x48 true (ldn 3 x54)) fun x55 =>
 zb (gd x48 true (za (build [Value.int .i64 0, Value.int .i64 0, Value.int .i64 0] [(2, 1, (Value.int .i64 20))]))) fun x56 =>
 zb (gd x48 true (za (zey false (zjp [.i, .i, .i] x55 x56)))) fun x57 =>
 zb (za (zcd x48 x57 (Value.bool false))) fun x58 =>
 zb (gd x58 true (za (z6 0 x1))) fun x60 =>
 zb (gd x58 true (za (z6 5 x60))) fun x61 =>
 zb (gd x58 true (ld1 x61)) fun x62 =>
 zb (gd x58 true (za (zb4 x62))) fun x63 =>
 zb (gd x58 true (za (bin .eql x63 (Value.int .i64 1)))) fun x64 =>
 zb (za (zcd x58 x64 (Value.bool false))) fun x65 =>
 zb (gd x65 true (za (some x15))) fun x67 =>
 zb (gd x65 true (za (bin .eql x67 (Value.int .i64 2)))) fun x68 =>
 zb (za (zcd x65 x68 (Value.bool false))) fun x69 =>
 zb (gd x69 true (za (some x16))) fun x71 =>
 zb (gd x69 true (za (bin .eql x71 (Value.int .i64 6)))) fun x72 =>
 zb (za (zcd x69 x72 (Value.bool false))) fun x73 =>
 ret (.ret [x73])
 ) fun o => zcp o fun vs => ret (zcm [(zc vs 0)])
def z4j : Hint := (.seq [] .leaf (.seq [] .leaf (.seq [] .leaf (.seq [] .leaf .leaf))))
noncomputable def zl4 (G_strings_Split : List V → M V) (G_strings_IndexRune : List V → M V) (G_strconv_Atoi : List V → M V) (G_strings_IndexByte : List V → M V) (l : List V) : M V := match l with | [] => zst G_strings_Split G_strings_IndexRune G_strconv_Atoi G_strings_IndexByte  | _ => fail
theorem zbd2 (G_strings_Split : List V → M V) (G_strings_IndexRune : List V → M V) (G_strconv_Atoi : List V → M V) (G_strings_IndexByte : List V → M V) : zde Tryz.prog (ovr [(zky, zgq G_strings_Split G_strings_IndexRune G_strconv_Atoi G_strings_IndexByte)] noC) zpj z4j [] = zst G_strings_Split G_strings_IndexRune G_strconv_Atoi G_strings_IndexByte  := by kernel_rfl
theorem zbd3 {G_strings_Split : List V → M V} {G_strings_IndexRune : List V → M V} {G_strconv_Atoi : List V → M V} {G_strings_IndexByte : List V → M V} (k_strings_Split : zb3 Tryz.prog zdk G_strings_Split) (k_strings_IndexRune : zb3 Tryz.prog zb1 G_strings_IndexRune) (k_strconv_Atoi : zb3 Tryz.prog zcj G_strconv_Atoi) (k_strings_IndexByte : zb3 Tryz.prog zcu G_strings_IndexByte) : zb3 Tryz.prog zpj (zl4 G_strings_Split G_strings_IndexRune G_strconv_Atoi G_strings_IndexByte) := zbw (σ := ovr [(zky, zgq G_strings_Split G_strings_IndexRune G_strconv_Atoi G_strings_IndexByte)] noC) (hint := z4j) (by kernel_rfl) (zn (z7p k_strings_Split k_strings_IndexRune k_strconv_Atoi k_strings_IndexByte) z8) fun l H r H' h => by
 unfold zl4 at h; split at h
 · rw [zbd2]; exact h
 · exact (zo h).elim
def zwc (vs_4 : List V) : M Out :=
 zb (za (bin .add (zc vs_4 2) (Value.int .i64 1))) fun x16 =>
 ret (.nxt [(zc vs_4 0), (zc vs_4 1), x16])
def zwd (vs_3 : List V) : M Out :=
 zb (
 zb (
 zb (za (zb5 2 (zc vs_3 0) (zc vs_3 2))) fun x19 =>
 zb (za (zb5 2 (zc vs_3 1) (zc vs_3 2))) fun x23 =>
 zb (ldn 2 x19) fun x20 =>
 zb (ldn 2 x23) fun x24 =>
 zb (za (zey true (zjp [.i, .i] x20 x24))) fun x25 =>
 zbv x25 (
 ret (.ret [(Value.bool false)])
 ) (
 ret (.nxt [(zc vs_3 0), (zc vs_3 1), (zc vs_3 2)])
 )
 ) fun o => ret (zb9 1 o)
 ) fun o => nx o zwc
def zp0 (vs_2 : List V) : M Out :=
 zb (
 zb (za (zb4 (zc vs_2 0))) fun x13 =>
 zb (za (bin .lss (zc vs_2 2) x13)) fun x14 =>
 zbv x14 (
 ret (.nxt [(zc vs_2 0), (zc vs_2 1), (zc vs_2 2)])
 ) (
 ret (.brk 0 [])
 )
 ) fun o => nx o zwd
def zwe (vs_5 : List V) : M Out :=
 ret (.ret [(Value.bool true)])
def zwf (vs : List V) : M Out :=
 zb (
 zb (
 zc7 zem zp0 [(zc vs 0), (zc vs 1), (Value.int .i64 0)]
 ) fun o => ret (zb9 0 o)
 ) fun o => nx o zwe
def zmg (x0 x1 : V) : M V :=
 zb (
 zb (
 zb (za (zb4 x0)) fun x7 =>
 zb (za (zb4 x1)) fun x9 =>
 zb (za (bin .neq x7 x9)) fun x10 =>
 zbv x10 (
 ret (.ret [(Value.bool false)])
 ) (
 ret (.nxt [x0, x1])
 )
 ) fun o => nx o zwf
 ) fun o => zcp o fun vs => ret (zcm [(zc vs 0)])
def zxe : Hint := (.seq [] .leaf (.seq [0, 1] (.seq [] .leaf (.cond (.seq [] .leaf .leaf) .leaf)) (.seq [] (.seq [] .leaf (.blk (.loop [0, 1, 5] (.seq [0, 1, 5] (.seq [] .leaf (.cond .leaf .leaf)) (.seq [0, 1, 5] (.blk (.seq [] (.reg [0, 1, 2, 4, 5, 6, 3, 7, 8] []) (.cond (.seq [] .leaf .leaf) .leaf))) .leaf))))) (.seq [] .leaf .leaf))))
def zil (l : List V) : M V := match l with | [x0, x1] => zmg x0 x1 | _ => fail
theorem z7q (x0 x1 : V) : zde Tryz.prog (ovr [] noC) zoo zxe [x0, x1] = zmg x0 x1 := by kernel_rfl
theorem z7r : zb3 Tryz.prog zoo (zil) := zbw (σ := ovr [] noC) (hint := zxe) (by kernel_rfl) z8 fun l H r H' h => by
 unfold zil at h; split at h
 · rw [z7q]; exact h
 · exact (zo h).elim
def zt0 (vs_4 : List V) : M Out :=
 zb (za (bin .add (zc vs_4 2) (Value.int .i64 1))) fun x77 =>
 ret (.nxt [(zc vs_4 0), (zc vs_4 1), x77])
def zt1 (vs_3 : List V) : M Out :=
 zb (
 zb (
 zb (za (z6 0 (zc vs_3 0))) fun x78 =>
 zb (za (z6 0 (zc vs_3 1))) fun x83 =>
 zb (ld1 x78) fun x79 =>
 zb (za (zb5 2 x79 (zc vs_3 2))) fun x81 =>
 zb (ldn 2 x81) fun x82 =>
 zb (ld1 x83) fun x84 =>
 zb (za (zb5 2 x84 (zc vs_3 2))) fun x86 =>
 zb (ldn 2 x86) fun x87 =>
 zb (za (zey true (zjp [.i, .b] x82 x87))) fun x88 =>
 zbv x88 (
 ret (.ret [(Value.bool false)])
 ) (
 ret (.nxt [(zc vs_3 0), (zc vs_3 1), (zc vs_3 2)])
 )
 ) fun o => ret (zb9 1 o)
 ) fun o => nx o zt0
def zkq (vs_2 : List V) : M Out :=
 zb (
 zb (za (z6 0 (zc vs_2 0))) fun x72 =>
 zb (ld1 x72) fun x73 =>
 zb (za (zb4 x73)) fun x74 =>
 zb (za (bin .lss (zc vs_2 2) x74)) fun x75 =>
 zbv x75 (
 ret (.nxt [(zc vs_2 0), (zc vs_2 1), (zc vs_2 2)])
 ) (
 ret (.brk 0 [(zc vs_2 0), (zc vs_2 1)])
 )
 ) fun o => nx o zt1
def zt2 (vs_8 : List V) : M Out :=
 zb (za (bin .add (zc vs_8 2) (Value.int .i64 1))) fun x95 =>
 ret (.nxt [(zc vs_8 0), (zc vs_8 1), x95])
def zt3 (vs_7 : List V) : M Out :=
 zb (
 zb (
 zb (za (z6 1 (zc vs_7 0))) fun x96 =>
 zb (za (z6 1 (zc vs_7 1))) fun x101 =>
 zb (ld1 x96) fun x97 =>
 zb (za (zb5 3 x97 (zc vs_7 2))) fun x99 =>
 zb (ldn 3 x99) fun x100 =>
 zb (ld1 x101) fun x102 =>
 zb (za (zb5 3 x102 (zc vs_7 2))) fun x104 =>
 zb (ldn 3 x104) fun x105 =>
 zb (za (zey true (zjp [.i, .i, .b] x100 x105))) fun x106 =>
 zbv x106 (
 ret (.ret [(Value.bool false)])
 ) (
 ret (.nxt [(zc vs_7 0), (zc vs_7 1), (zc vs_7 2)])
 )
 ) fun o => ret (zb9 3 o)
 ) fun o => nx o zt2
def zkr (vs_6 : List V) : M Out :=
 zb (
 zb (za (z6 1 (zc vs_6 0))) fun x90 =>
 zb (ld1 x90) fun x91 =>
 zb (za (zb4 x91)) fun x92 =>
 zb (za (bin .lss (zc vs_6 2) x92)) fun x93 =>
 zbv x93 (
 ret (.nxt [(zc vs_6 0), (zc vs_6 1), (zc vs_6 2)])
 ) (
 ret (.brk 2 [(zc vs_6 0), (zc vs_6 1)])
 )
 ) fun o => nx o zt3
def zt4 (vs_12 : List V) : M Out :=
 zb (za (bin .add (zc vs_12 2) (Value.int .i64 1))) fun x113 =>
 ret (.nxt [(zc vs_12 0), (zc vs_12 1), x113])
def zt5 (vs_11 : List V) : M Out :=
 zb (
 zb (
 zb (za (z6 2 (zc vs_11 0))) fun x114 =>
 zb (za (z6 2 (zc vs_11 1))) fun x119 =>
 zb (ld1 x114) fun x115 =>
 zb (za (zb5 5 x115 (zc vs_11 2))) fun x117 =>
 zb (ldn 5 x117) fun x118 =>
 zb (ld1 x119) fun x120 =>
 zb (za (zb5 5 x120 (zc vs_11 2))) fun x122 =>
 zb (ldn 5 x122) fun x123 =>
 zb (za (zey true (zjp [.i, .i, .i, .i, .i] x118 x123))) fun x124 =>
 zbv x124 (
 ret (.ret [(Value.bool false)])
 ) (
 ret (.nxt [(zc vs_11 0), (zc vs_11 1), (zc vs_11 2)])
 )
 ) fun o => ret (zb9 5 o)
 ) fun o => nx o zt4
def zks (vs_10 : List V) : M Out :=
 zb (
 zb (za (z6 2 (zc vs_10 0))) fun x108 =>
 zb (ld1 x108) fun x109 =>
 zb (za (zb4 x109)) fun x110 =>
 zb (za (bin .lss (zc vs_10 2) x110)) fun x111 =>
 zbv x111 (
 ret (.nxt [(zc vs_10 0), (zc vs_10 1), (zc vs_10 2)])
 ) (
 ret (.brk 4 [(zc vs_10 0), (zc vs_10 1)])
 )
 ) fun o => nx o zt5
def zt6 (vs_16 : List V) : M Out :=
 zb (za (bin .add (zc vs_16 2) (Value.int .i64 1))) fun x132 =>
 ret (.nxt [(zc vs_16 0), (zc vs_16 1), x132])
def zs5 (vs_15 : List V) : M Out :=
 zb (
 zb (
 zb (za (z6 3 (zc vs_15 0))) fun x133 =>
 zb (za (z6 1 x133)) fun x134 =>
 zb (za (z6 3 (zc vs_15 1))) fun x139 =>
 zb (za (z6 1 x139)) fun x140 =>
 zb (ld1 x134) fun x135 =>
 zb (za (zb5 3 x135 (zc vs_15 2))) fun x137 =>
 zb (ldn 3 x137) fun x138 =>
 zb (ld1 x140) fun x141 =>
 zb (za (zb5 3 x141 (zc vs_15 2))) fun x143 =>
 zb (ldn 3 x143) fun x144 =>
 zb (za (zey true (zjp [.i, .i, .i] x138 x144))) fun x145 =>
 zbv x145 (
 ret (.ret [(Value.bool false)])
 ) (
 ret (.nxt [(zc vs_15 0), (zc vs_15 1), (zc vs_15 2)])
 )
 ) fun o => ret (zb9 7 o)
 ) fun o => nx o zt6
def zj9 (vs_14 : List V) : M Out :=
 zb (
 zb (za (z6 3 (zc vs_14 0))) fun x126 =>
 zb (za (z6 1 x126)) fun x127 =>
 zb (ld1 x127) fun x128 =>
 zb (za (zb4 x128)) fun x129 =>
 zb (za (bin .lss (zc vs_14 2) x129)) fun x130 =>
 zbv x130 (
 ret (.nxt [(zc vs_14 0), (zc vs_14 1), (zc vs_14 2)])
 ) (
 ret (.brk 6 [(zc vs_14 0), (zc vs_14 1)])
 )
 ) fun o => nx o zs5
def zs6 (vs_20 : List V) : M Out :=
 zb (za (bin .add (zc vs_20 2) (Value.int .i64 1))) fun x152 =>
 ret (.nxt [(zc vs_20 0), (zc vs_20 1), x152])
def zs7 (vs_19 : List V) : M Out :=
 zb (
 zb (
 zb (za (z6 5 (zc vs_19 0))) fun x153 =>
 zb (za (z6 5 (zc vs_19 1))) fun x159 =>
 zb (ld1 x153) fun x154 =>
 zb (za (zb5 2 x154 (zc vs_19 2))) fun x156 =>
 zb (za (z6 0 x156)) fun x157 =>
 zb (ld1 x157) fun x158 =>
 zb (ld1 x159) fun x160 =>
 zb (za (zb5 2 x160 (zc vs_19 2))) fun x162 =>
 zb (za (z6 0 x162)) fun x163 =>
 zb (ld1 x163) fun x164 =>
 zb (zil [x158, x164]) fun x165 =>
 zb (za (un .not x165)) fun x166 =>
 zb (gd x166 false (za (z6 5 (zc vs_19 0)))) fun x168 =>
 zb (gd x166 false (za (some (zc vs_19 2)))) fun x170 =>
 zb (gd x166 false (za (z6 5 (zc vs_19 1)))) fun x174 =>
 zb (gd x166 false (za (some (zc vs_19 2)))) fun x176 =>
 zb (gd x166 false (ld1 x168)) fun x169 =>
 zb (gd x166 false (za (zb5 2 x169 x170))) fun x171 =>
 zb (gd x166 false (za (z6 1 x171))) fun x172 =>
 zb (gd x166 false (ld1 x172)) fun x173 =>
 zb (gd x166 false (ld1 x174)) fun x175 =>
 zb (gd x166 false (za (zb5 2 x175 x176))) fun x177 =>
 zb (gd x166 false (za (z6 1 x177))) fun x178 =>
 zb (gd x166 false (ld1 x178)) fun x179 =>
 zb (gd x166 false (zil [x173, x179])) fun x180 =>
 zb (gd x166 false (za (un .not x180))) fun x181 =>
 zb (za (zcd x166 (Value.bool true) x181)) fun x182 =>
 zbv x182 (
 ret (.ret [(Value.bool false)])
 ) (
 ret (.nxt [(zc vs_19 0), (zc vs_19 1), (zc vs_19 2)])
 )
 ) fun o => ret (zb9 9 o)
 ) fun o => nx o zs6
def zka (vs_18 : List V) : M Out :=
 zb (
 zb (za (z6 5 (zc vs_18 0))) fun x147 =>
 zb (ld1 x147) fun x148 =>
 zb (za (zb4 x148)) fun x149 =>
 zb (za (bin .lss (zc vs_18 2) x149)) fun x150 =>
 zbv x150 (
 ret (.nxt [(zc vs_18 0), (zc vs_18 1), (zc vs_18 2)])
 ) (
 ret (.brk 8 [])
 )
 ) fun o => nx o zs7
def zs8 (vs_21 : List V) : M Out :=
 ret (.ret [(Value.bool true)])
def zs9 (vs_17 : List V) : M Out :=
 zb (
 zb (
 zc7 zem zka [(zc vs_17 0), (zc vs_17 1), (Value.int .i64 0)]
 ) fun o => ret (zb9 8 o)
 ) fun o => nx o zs8
def zta (vs_13 : List V) : M Out :=
 zb (
 zb (
 zc7 zem zj9 [(zc vs_13 0), (zc vs_13 1), (Value.int .i64 0)]
 ) fun o => ret (zb9 6 o)
 ) fun o => nx o zs9
def ztb (vs_9 : List V) : M Out :=
 zb (
 zb (
 zc7 zem zks [(zc vs_9 0), (zc vs_9 1), (Value.int .i64 0)]
 ) fun o => ret (zb9 4 o)
 ) fun o => nx o zta
def ztc (vs_5 : List V) : M Out :=
 zb (
 zb (
 zc7 zem zkr [(zc vs_5 0), (zc vs_5 1), (Value.int .i64 0)]
 ) fun o => ret (zb9 2 o)
 ) fun o => nx o ztb
def ztd (vs : List V) : M Out :=
 zb (
 zb (
 zc7 zem zkq [(zc vs 0), (zc vs 1), (Value.int .i64 0)]
 ) fun o => ret (zb9 0 o)
 ) fun o => nx o ztc
def zln (x0 x1 : V) : M V :=
 zb (
 zb (zha x0) fun x2 =>
 zb (zha x1) fun x3 =>
 zb (
 zb (za (z6 6 x2)) fun x10 =>
 zb (ld1 x10) fun x11 =>
 zb (za (z6 6 x3)) fun x12 =>
 zb (ld1 x12) fun x13 =>
 zb (za (bin .neq x11 x13)) fun x14 =>
 zb (gd x14 false (za (z6 3 x2))) fun x16 =>
 zb (gd x14 false (za (z6 0 x16))) fun x17 =>
 zb (gd x14 false (ld1 x17)) fun x18 =>
 zb (gd x14 false (za (z6 3 x3))) fun x19 =>
 zb (gd x14 false (za (z6 0 x19))) fun x20 =>
 zb (gd x14 false (ld1 x20)) fun x21 =>
 zb (gd x14 false (za (bin .neq x18 x21))) fun x22 =>
 zb (za (zcd x14 (Value.bool true) x22)) fun x23 =>
 zb (gd x23 false (za (z6 0 x2))) fun x25 =>
 zb (gd x23 false (ld1 x25)) fun x26 =>
 zb (gd x23 false (za (zb4 x26))) fun x27 =>
 zb (gd x23 false (za (z6 0 x3))) fun x28 =>
 zb (gd x23 false (ld1 x28)) fun x29 =>
 zb (gd x23 false (za (zb4 x29))) fun x30 =>
 zb (gd x23 false (za (bin .neq x27 x30))) fun x31 =>
 zb (za (zcd x23 (Value.bool true) x31)) fun x32 =>
 zb (gd x32 false (za (z6 1 x2))) fun x34 =>
 zb (gd x32 false (ld1 x34)) fun x35 =>
 zb (gd x32 false (za (zb4 x35))) fun x36 =>
 zb (gd x32 false (za (z6 1 x3))) fun x37 =>
 zb (gd x32 false (ld1 x37)) fun x38 =>
 zb (gd x32 false (za (zb4 x38))) fun x39 =>
 zb (gd x32 false (za (bin .neq x36 x39))) fun x40 =>
 zb (za (zcd x32 (Value.bool true) x40)) fun x41 =>
 zb (gd x41 false (za (z6 2 x2))) fun x43 =>
 zb (gd x41 false (ld1 x43)) fun x44 =>
 zb (gd x41 false (za (zb4 x44))) fun x45 =>
 zb (gd x41 false (za (z6 2 x3))) fun x46 =>
 zb (gd x41 false (ld1 x46)) fun x47 =>
 zb (gd x41 false (za (zb4 x47))) fun x48 =>
 zb (gd x41 false (za (bin .neq x45 x48))) fun x49 =>
 zb (za (zcd x41 (Value.bool true) x49)) fun x50 =>
 zb (gd x50 false (za (z6 3 x2))) fun x52 =>
 zb (gd x50 false (za (z6 1 x52))) fun x53 =>
 zb (gd x50 false (ld1 x53)) fun x54 =>
 zb (gd x50 false (za (zb4 x54))) fun x55 =>
 zb (gd x50 false (za (z6 3 x3))) fun x56 =>
 zb (gd x50 false (za (z6 1 x56))) fun x57 =>
 zb (gd x50 false (ld1 x57)) fun x58 =>
 zb (gd x50 false (za (zb4 x58))) fun x59 =>
 zb (gd x50 false (za (bin .neq x55 x59))) fun x60 =>
 zb (za (zcd x50 (Value.bool true) x60)) fun x61 =>
 zb (gd x61 false (za (z6 5 x2))) fun x63 =>
 zb (gd x61 false (ld1 x63)) fun x64 =>
 zb (gd x61 false (za (zb4 x64))) fun x65 =>
 zb (gd x61 false (za (z6 5 x3))) fun x66 =>
 zb (gd x61 false (ld1 x66)) fun x67 =>
 zb (gd x61 false (za (zb4 x67))) fun x68 =>
 zb (gd x61 false (za (bin .neq x65 x68))) fun x69 =>
 zb (za (zcd x61 (Value.bool true) x69)) fun x70 =>
 zbv x70 (
 ret (.ret [(Value.bool false)])
 ) (
 ret (.nxt [x2, x3])
 )
 ) fun o => nx o ztd
 ) fun o => zcp o fun vs => ret (zcm [(zc vs 0)])
def zwg : Hint := (.seq [] .leaf (.seq [2, 3] (.seq [] .leaf (.cond (.seq [] .leaf .leaf) .leaf)) (.seq [2, 3] (.seq [] .leaf (.blk (.loop [2, 3, 5] (.seq [2, 3, 5] (.seq [] .leaf (.cond .leaf .leaf)) (.seq [2, 3, 5] (.blk (.seq [] (.reg [0, 2, 5, 7, 1, 3, 4, 6, 8, 9, 10] []) (.cond (.seq [] .leaf .leaf) .leaf))) .leaf))))) (.seq [2, 3] (.seq [] .leaf (.blk (.loop [2, 3, 6] (.seq [2, 3, 6] (.seq [] .leaf (.cond .leaf .leaf)) (.seq [2, 3, 6] (.blk (.seq [] (.reg [0, 2, 5, 7, 1, 3, 4, 6, 8, 9, 10] []) (.cond (.seq [] .leaf .leaf) .leaf))) .leaf))))) (.seq [2, 3] (.seq [] .leaf (.blk (.loop [2, 3, 7] (.seq [2, 3, 7] (.seq [] .leaf (.cond .leaf .leaf)) (.seq [2, 3, 7] (.blk (.seq [] (.reg [0, 2, 5, 7, 1, 3, 4, 6, 8, 9, 10] []) (.cond (.seq [] .leaf .leaf) .leaf))) .leaf))))) (.seq [2, 3] (.seq [] .leaf (.blk (.loop [2, 3, 8] (.seq [2, 3, 8] (.seq [] .leaf (.cond .leaf .leaf)) (.seq [2, 3, 8] (.blk (.seq [] (.reg [0, 1, 3, 6, 7, 9, 2, 4, 5, 8, 10, 11, 12] []) (.cond (.seq [] .leaf .leaf) .leaf))) .leaf))))) (.seq [] (.seq [] .leaf (.blk (.loop [2, 3, 9] (.seq [2, 3, 9] (.seq [] .leaf (.cond .leaf .leaf)) (.seq [2, 3, 9] (.blk (.seq [] (.reg [0, 2, 6, 8, 1, 3, 4, 5, 7, 9, 10, 11, 12, 13, 14, 15, 17, 21, 23, 16, 18, 19, 20, 22, 24, 25, 26, 27, 28, 29] []) (.cond (.seq [] .leaf .leaf) .leaf))) .leaf))))) (.seq [] .leaf .leaf))))))))
def zjl (l : List V) : M V := match l with | [x0, x1] => zln x0 x1 | _ => fail
def zwh : zbz := ovr [(zoo, zil)] noC
theorem z5s (x0 x1 : V) : zde Tryz.prog (zwh) zmq zwg [x0, x1] = zln x0 x1 := by kernel_rfl
theorem z5t : zb3 Tryz.prog zmq (zjl) := zbw (σ := zwh) (hint := zwg) (by kernel_rfl) (zn z7r z8) fun l H r H' h => by
 unfold zjl at h; split at h
 · rw [z5s]; exact h
 · exact (zo h).elim
def z4k (vs_7 : List V) : M Out :=
 zb (za (bin .add (zc vs_7 5) (Value.int .i64 1))) fun x75 =>
 ret (.nxt [(zc vs_7 0), (zc vs_7 1), (zc vs_7 2), (zc vs_7 3), (zc vs_7 4), x75])
def z4l (vs_6 : List V) : M Out :=
 zb (
 zb (
 zb (za (z6 2 (zc vs_6 3))) fun x76 =>
 zb (za (z6 2 (zc vs_6 4))) fun x81 =>
 zb (ld1 x76) fun x77 =>
 zb (za (zb5 2 x77 (zc vs_6 5))) fun x79 =>
 zb (ldn 2 x79) fun x80 =>
 zb (ld1 x81) fun x82 =>
 zb (za (zb5 2 x82 (zc vs_6 5))) fun x84 =>
 zb (ldn 2 x84) fun x85 =>
 zb (za (zey true (zjp [.i, .i] x80 x85))) fun x86 =>
 zbv x86 (
 ret (.ret [(Value.bool false)])
 ) (
 ret (.nxt [(zc vs_6 0), (zc vs_6 1), (zc vs_6 2), (zc vs_6 3), (zc vs_6 4), (zc vs_6 5)])
 )
 ) fun o => ret (zb9 3 o)
 ) fun o => nx o z4k
def zsu (vs_5 : List V) : M Out :=
 zb (
 zb (za (z6 2 (zc vs_5 3))) fun x70 =>
 zb (ld1 x70) fun x71 =>
 zb (za (zb4 x71)) fun x72 =>
 zb (za (bin .lss (zc vs_5 5) x72)) fun x73 =>
 zbv x73 (
 ret (.nxt [(zc vs_5 0), (zc vs_5 1), (zc vs_5 2), (zc vs_5 3), (zc vs_5 4), (zc vs_5 5)])
 ) (
 ret (.brk 2 [(zc vs_5 0), (zc vs_5 1), (zc vs_5 2)])
 )
 ) fun o => nx o z4l
def z4m (vs_4 : List V) : M Out :=
 zb (
 zc7 zem zsu [(zc vs_4 0), (zc vs_4 1), (zc vs_4 2), (zc vs_4 3), (zc vs_4 4), (Value.int .i64 0)]
 ) fun o => ret (zb9 2 o)
def z4n (vs_8 : List V) : M Out :=
 zb (za (bin .add (zc vs_8 2) (Value.int .i64 1))) fun x37 =>
 ret (.nxt [(zc vs_8 0), (zc vs_8 1), x37])
def z4o (vs_3 : List V) : M Out :=
 zb (
 zb (
 z1b 2 fun base h0 =>
 zb (za (z6 7 (zc vs_3 0))) fun x38 =>
 zb (za (z6 7 (zc vs_3 1))) fun x43 =>
 zb (ld1 x38) fun x39 =>
 zb (za (zb5 3 x39 (zc vs_3 2))) fun x41 =>
 zb (ldn 3 x41) fun x42 =>
 zb (ld1 x43) fun x44 =>
 zb (za (zb5 3 x44 (zc vs_3 2))) fun x46 =>
 zb (ldn 3 x46) fun x47 =>
 zb (flt (base + 0) (newc [Value.string ⟨#[]⟩, Value.string ⟨#[]⟩, Value.slice none 0 0])) fun x6 =>
 zb (flt (base + 1) (newc [Value.string ⟨#[]⟩, Value.string ⟨#[]⟩, Value.slice none 0 0])) fun x7 =>
 zgn (stn 3 x6 x42) fun ha u h1 =>
 zgn (stn 3 x7 x47) fun ha_2 u_2 h2 =>
 zqr (chk (ld1 x43) h1 x44) <|
 zqr (chk (ldn 3 x46) h1 x47) <|
 zb (
 zb (za (z6 0 x6)) fun x48 =>
 zb (ld1 x48) fun x49 =>
 zb (za (z6 0 x7)) fun x50 =>
 zb (ld1 x50) fun x51 =>
 zb (za (bin .neq x49 x51)) fun x52 =>
 zb (gd x52 false (za (z6 1 x6))) fun x54 =>
 zb (gd x52 false (ld1 x54)) fun x55 =>
 zb (gd x52 false (za (z6 1 x7))) fun x56 =>
 zb (gd x52 false (ld1 x56)) fun x57 =>
 zb (gd x52 false (za (bin .neq x55 x57))) fun x58 =>
 zb (za (zcd x52 (Value.bool true) x58)) fun x59 =>
 zb (gd x59 false (za (z6 2 x6))) fun x61 =>
 zb (gd x59 false (ld1 x61)) fun x62 =>
 zb (gd x59 false (za (zb4 x62))) fun x63 =>
 zb (gd x59 false (za (z6 2 x7))) fun x64 =>
 zb (gd x59 false (ld1 x64)) fun x65 =>
 zb (gd x59 false (za (zb4 x65))) fun x66 =>
 zb (gd x59 false (za (bin .neq x63 x66))) fun x67 =>
 zb (za (zcd x59 (Value.bool true) x67)) fun x68 =>
 zbv x68 (
 ret (.ret [(Value.bool false)])
 ) (
 ret (.nxt [(zc vs_3 0), (zc vs_3 1), (zc vs_3 2), x6, x7])
 )
 ) fun o => nx o z4m
 ) fun o => ret (zb9 1 o)
 ) fun o => nx o z4n
def zye (vs_2 : List V) : M Out :=
 zb (
 zb (za (z6 7 (zc vs_2 0))) fun x32 =>
 zb (ld1 x32) fun x33 =>
 zb (za (zb4 x33)) fun x34 =>
 zb (za (bin .lss (zc vs_2 2) x34)) fun x35 =>
 zbv x35 (
 ret (.nxt [(zc vs_2 0), (zc vs_2 1), (zc vs_2 2)])
 ) (
 ret (.brk 0 [])
 )
 ) fun o => nx o z4o
def z4p (vs_9 : List V) : M Out :=
 ret (.ret [(Value.bool true)])
def z4q (vs : List V) : M Out :=
 zb (
 zb (
 zc7 zem zye [(zc vs 0), (zc vs 1), (Value.int .i64 0)]
 ) fun o => ret (zb9 0 o)
 ) fun o => nx o z4p
def zuu (x0 x1 : V) : M V :=
 zb (
 zb (zha x0) fun x2 =>
 zb (zha x1) fun x3 =>
 zb (
 zb (za (z6 0 x2)) fun x9 =>
 zb (ldn 7 x9) fun x10 =>
 zb (za (z6 0 x3)) fun x11 =>
 zb (ldn 7 x11) fun x12 =>
 zb (zjl [x10, x12]) fun x13 =>
 zb (za (un .not x13)) fun x14 =>
 zb (gd x14 false (za (z6 8 x2))) fun x16 =>
 zb (gd x14 false (ld1 x16)) fun x17 =>
 zb (gd x14 false (za (z6 8 x3))) fun x18 =>
 zb (gd x14 false (ld1 x18)) fun x19 =>
 zb (gd x14 false (za (bin .neq x17 x19))) fun x20 =>
 zb (za (zcd x14 (Value.bool true) x20)) fun x21 =>
 zb (gd x21 false (za (z6 7 x2))) fun x23 =>
 zb (gd x21 false (ld1 x23)) fun x24 =>
 zb (gd x21 false (za (zb4 x24))) fun x25 =>
 zb (gd x21 false (za (z6 7 x3))) fun x26 =>
 zb (gd x21 false (ld1 x26)) fun x27 =>
 zb (gd x21 false (za (zb4 x27))) fun x28 =>
 zb (gd x21 false (za (bin .neq x25 x28))) fun x29 =>
 zb (za (zcd x21 (Value.bool true) x29)) fun x30 =>
 zbv x30 (
 ret (.ret [(Value.bool false)])
 ) (
 ret (.nxt [x2, x3])
 )
 ) fun o => nx o z4q
 ) fun o => zcp o fun vs => ret (zcm [(zc vs 0)])
def z7s : Hint := (.seq [] .leaf (.seq [2, 3] (.seq [] .leaf (.cond (.seq [] .leaf .leaf) .leaf)) (.seq [] (.seq [] .leaf (.blk (.loop [2, 3, 5] (.seq [2, 3, 5] (.seq [] .leaf (.cond .leaf .leaf)) (.seq [2, 3, 5] (.blk (.seq [] (.reg [0, 2, 5, 7, 1, 3, 4, 6, 8, 9, 10, 11, 12, 13] [10, 11]) (.seq [2, 3, 5, 6, 7] (.seq [] .leaf (.cond (.seq [] .leaf .leaf) .leaf)) (.seq [] .leaf (.blk (.loop [2, 3, 5, 6, 7, 8] (.seq [2, 3, 5, 6, 7, 8] (.seq [] .leaf (.cond .leaf .leaf)) (.seq [2, 3, 5, 6, 7, 8] (.blk (.seq [] (.reg [0, 2, 5, 7, 1, 3, 4, 6, 8, 9, 10] []) (.cond (.seq [] .leaf .leaf) .leaf))) .leaf)))))))) .leaf))))) (.seq [] .leaf .leaf))))
def zob (l : List V) : M V := match l with | [x0, x1] => zuu x0 x1 | _ => fail
def z7t : zbz := ovr [(zmq, zjl)] noC
theorem zbgl (x0 x1 : V) : zde Tryz.prog (z7t) zq0 z7s [x0, x1] = zuu x0 x1 := by kernel_rfl
theorem zbgm : zb3 Tryz.prog zq0 (zob) := zbw (σ := z7t) (hint := z7s) (by kernel_rfl) (zn z5t z8) fun l H r H' h => by
 unfold zob at h; split at h
 · rw [zbgl]; exact h
 · exact (zo h).elim
noncomputable def zwi (G_strings_Split : List V → M V) (G_strings_IndexRune : List V → M V) (G_strconv_Atoi : List V → M V) (G_strings_IndexByte : List V → M V) (vs_8 : List V) : M Out :=
 zb (za (bin .add (zc vs_8 10) (Value.int .i64 1))) fun x49 =>
 ret (.nxt [(zc vs_8 0), (zc vs_8 1), (zc vs_8 2), (zc vs_8 3), (zc vs_8 4), (zc vs_8 5), (zc vs_8 6), (zc vs_8 7), (zc vs_8 8), (zc vs_8 9), x49])
noncomputable def zp1 (G_strings_Split : List V → M V) (G_strings_IndexRune : List V → M V) (G_strconv_Atoi : List V → M V) (G_strings_IndexByte : List V → M V) (vs_7 : List V) : M Out :=
 zb (
 zb (
 zb (za (zr7 (zc vs_7 5) (zc vs_7 10))) fun x47 =>
 zb (za (bin .eql x47 (Value.int .u8 10))) fun x48 =>
 zbv x48 (
 ret (.ret [(Value.bool true)])
 ) (
 ret (.nxt [(zc vs_7 0), (zc vs_7 1), (zc vs_7 2), (zc vs_7 3), (zc vs_7 4), (zc vs_7 5), (zc vs_7 6), (zc vs_7 7), (zc vs_7 8), (zc vs_7 9), (zc vs_7 10)])
 )
 ) fun o => ret (zb9 3 o)
 ) fun o => nx o (zwi G_strings_Split G_strings_IndexRune G_strconv_Atoi G_strings_IndexByte)
noncomputable def zjm (G_strings_Split : List V → M V) (G_strings_IndexRune : List V → M V) (G_strconv_Atoi : List V → M V) (G_strings_IndexByte : List V → M V) (vs_6 : List V) : M Out :=
 zb (za (bin .lss (zc vs_6 10) (zc vs_6 9))) fun x43 =>
 zb (
 zbv x43 (
 ret (.nxt [(zc vs_6 0), (zc vs_6 1), (zc vs_6 2), (zc vs_6 3), (zc vs_6 4), (zc vs_6 5), (zc vs_6 6), (zc vs_6 7), (zc vs_6 8), (zc vs_6 9), (zc vs_6 10)])
 ) (
 ret (.brk 2 [(zc vs_6 0), (zc vs_6 1), (zc vs_6 2), (zc vs_6 3), (zc vs_6 4), (zc vs_6 5), (zc vs_6 6), (zc vs_6 7), (zc vs_6 8)])
 )
 ) fun o => nx o (zp1 G_strings_Split G_strings_IndexRune G_strconv_Atoi G_strings_IndexByte)
noncomputable def zp2 (G_strings_Split : List V → M V) (G_strings_IndexRune : List V → M V) (G_strconv_Atoi : List V → M V) (G_strings_IndexByte : List V → M V) (vs_10 : List V) : M Out :=
 zb (za (bin .add (zc vs_10 4) (Value.string ⟨#[10]⟩))) fun x57 =>
 zb (za (bin .add (zc vs_10 1) x57)) fun x58 =>
 zb (za (bin .add (zc vs_10 4) (Value.string ⟨#[10]⟩))) fun x61 =>
 zb (za (bin .add (zc vs_10 2) x61)) fun x62 =>
 ret (.nxt [(zc vs_10 0), x58, x62, (zc vs_10 3), (zc vs_10 5), (zc vs_10 6), (zc vs_10 7)])
noncomputable def zp3 (G_strings_Split : List V → M V) (G_strings_IndexRune : List V → M V) (G_strconv_Atoi : List V → M V) (G_strings_IndexByte : List V → M V) (vs_9 : List V) : M Out :=
 zb (
 zb (za (bin .eql (zc vs_9 4) (zc vs_9 3))) fun x52 =>
 zbv x52 (
 zb (za (bin .add (zc vs_9 2) (Value.string ⟨#[10, 35, 32, 97, 32, 110, 111, 116, 101, 32, 32, 111, 102, 32, 97, 110, 121, 32, 119, 111, 114, 100, 115, 10]⟩))) fun x54 =>
 ret (.nxt [(zc vs_9 0), (zc vs_9 1), x54, (zc vs_9 3), (zc vs_9 5), (zc vs_9 6), (zc vs_9 7), (zc vs_9 8)])
 ) (
 ret (.nxt [(zc vs_9 0), (zc vs_9 1), (zc vs_9 2), (zc vs_9 3), (zc vs_9 5), (zc vs_9 6), (zc vs_9 7), (zc vs_9 8)])
 )
 ) fun o => nx o (zp2 G_strings_Split G_strings_IndexRune G_strconv_Atoi G_strings_IndexByte)
noncomputable def zwj (G_strings_Split : List V → M V) (G_strings_IndexRune : List V → M V) (G_strconv_Atoi : List V → M V) (G_strings_IndexByte : List V → M V) (vs_5 : List V) : M Out :=
 zb (
 zb (za (zhc (zc vs_5 5))) fun x41 =>
 zb (
 zc7 zem (zjm G_strings_Split G_strings_IndexRune G_strconv_Atoi G_strings_IndexByte) [(zc vs_5 0), (zc vs_5 1), (zc vs_5 2), (zc vs_5 3), (zc vs_5 4), (zc vs_5 5), (zc vs_5 6), (zc vs_5 7), (zc vs_5 8), x41, (Value.int .i64 0)]
 ) fun o => ret (zb9 2 o)
 ) fun o => nx o (zp3 G_strings_Split G_strings_IndexRune G_strconv_Atoi G_strings_IndexByte)
noncomputable def zp4 (G_strings_Split : List V → M V) (G_strings_IndexRune : List V → M V) (G_strconv_Atoi : List V → M V) (G_strings_IndexByte : List V → M V) (vs_11 : List V) : M Out :=
 zb (za (bin .add (zc vs_11 6) (Value.int .i64 1))) fun x63 =>
 ret (.nxt [(zc vs_11 0), (zc vs_11 1), (zc vs_11 2), (zc vs_11 3), (zc vs_11 4), (zc vs_11 5), x63])
noncomputable def zp5 (G_strings_Split : List V → M V) (G_strings_IndexRune : List V → M V) (G_strconv_Atoi : List V → M V) (G_strings_IndexByte : List V → M V) (vs_4 : List V) : M Out :=
 zb (
 zb (
 zb (za (zb5 1 (zc vs_4 4) (zc vs_4 6))) fun x35 =>
 zb (ld1 x35) fun x36 =>
 zb (
 zb (za (zhc x36)) fun x38 =>
 zb (za (bin .gtr x38 (Value.int .i64 200))) fun x39 =>
 zbv x39 (
 ret (.ret [(Value.bool true)])
 ) (
 ret (.nxt [(zc vs_4 0), (zc vs_4 1), (zc vs_4 2), (zc vs_4 3), (zc vs_4 6), x36, (zc vs_4 4), (zc vs_4 5), (zc vs_4 6)])
 )
 ) fun o => nx o (zwj G_strings_Split G_strings_IndexRune G_strconv_Atoi G_strings_IndexByte)
 ) fun o => ret (zb9 1 o)
 ) fun o => nx o (zp4 G_strings_Split G_strings_IndexRune G_strconv_Atoi G_strings_IndexByte)
noncomputable def zlo (G_strings_Split : List V → M V) (G_strings_IndexRune : List V → M V) (G_strconv_Atoi : List V → M V) (G_strings_IndexByte : List V → M V) (vs_3 : List V) : M Out :=
 zb (za (bin .lss (zc vs_3 6) (zc vs_3 5))) fun x33 =>
 zb (
 zbv x33 (
 ret (.nxt [(zc vs_3 0), (zc vs_3 1), (zc vs_3 2), (zc vs_3 3), (zc vs_3 4), (zc vs_3 5), (zc vs_3 6)])
 ) (
 ret (.brk 0 [(zc vs_3 0), (zc vs_3 1), (zc vs_3 2), (zc vs_3 3)])
 )
 ) fun o => nx o (zp5 G_strings_Split G_strings_IndexRune G_strconv_Atoi G_strings_IndexByte)
noncomputable def zlp (G_strings_Split : List V → M V) (G_strings_IndexRune : List V → M V) (G_strconv_Atoi : List V → M V) (G_strings_IndexByte : List V → M V) (vs_13 : List V) : M Out :=
 zb (za (bin .eql (zc vs_13 2) (zc vs_13 5))) fun x89 =>
 zb (gd x89 true (za (some (zc vs_13 1)))) fun x91 =>
 zb (gd x89 true (za (some (zc vs_13 4)))) fun x92 =>
 zb (gd x89 true (za (bin .eql x91 x92))) fun x93 =>
 zb (za (zcd x89 x93 (Value.bool false))) fun x94 =>
 zb (gd x94 true (ldn 9 (zc vs_13 0))) fun x96 =>
 zb (gd x94 true (ldn 9 (zc vs_13 3))) fun x97 =>
 zb (gd x94 true (zob [x96, x97])) fun x98 =>
 zb (za (zcd x94 x98 (Value.bool false))) fun x99 =>
 ret (.ret [x99])
noncomputable def zt7 (G_strings_Split : List V → M V) (G_strings_IndexRune : List V → M V) (G_strconv_Atoi : List V → M V) (G_strings_IndexByte : List V → M V) (vs_12 : List V) : M Out :=
 zb ((zgq G_strings_Split G_strings_IndexRune G_strconv_Atoi G_strings_IndexByte) [(zc vs_12 1)]) fun x66 =>
 zb (za (ext 0 x66)) fun x67 =>
 zb (za (ext 1 x66)) fun x68 =>
 zb (za (ext 2 x66)) fun x69 =>
 zb (newc [Value.slice none 0 0, Value.slice none 0 0, Value.slice none 0 0, Value.int .i64 0, Value.slice none 0 0, Value.slice none 0 0, Value.int .i64 0, Value.slice none 0 0, Value.int .i64 0]) fun x11 =>
 zb (stn 9 x11 x67) fun _ =>
 zb ((zgq G_strings_Split G_strings_IndexRune G_strconv_Atoi G_strings_IndexByte) [(zc vs_12 2)]) fun x72 =>
 zb (za (ext 0 x72)) fun x73 =>
 zb (za (ext 1 x72)) fun x74 =>
 zb (za (ext 2 x72)) fun x75 =>
 zb (newc [Value.slice none 0 0, Value.slice none 0 0, Value.slice none 0 0, Value.int .i64 0, Value.slice none 0 0, Value.slice none 0 0, Value.int .i64 0, Value.slice none 0 0, Value.int .i64 0]) fun x14 =>
 zb (stn 9 x14 x73) fun _ =>
 zb (
 zb (za (bin .gtr x68 (zc vs_12 3))) fun x78 =>
 zb (gd x78 true (za (some (zc vs_12 3)))) fun x80 =>
 zb (gd x78 true (za (some (zc vs_12 0)))) fun x81 =>
 zb (gd x78 true (za (zb4 x81))) fun x82 =>
 zb (gd x78 true (za (bin .lss x80 x82))) fun x83 =>
 zb (za (zcd x78 x83 (Value.bool false))) fun x84 =>
 zbv x84 (
 zb (za (bin .add x68 (Value.int .i64 2))) fun x86 =>
 ret (.nxt [x11, x86, x69, x14, x74, x75])
 ) (
 ret (.nxt [x11, x68, x69, x14, x74, x75])
 )
 ) fun o => nx o (zlp G_strings_Split G_strings_IndexRune G_strconv_Atoi G_strings_IndexByte)
noncomputable def zt8 (G_strings_Split : List V → M V) (G_strings_IndexRune : List V → M V) (G_strconv_Atoi : List V → M V) (G_strings_IndexByte : List V → M V) (vs_2 : List V) : M Out :=
 zb (za (cvi .u64 (zc vs_2 1))) fun x23 =>
 zb (za (zb4 (zc vs_2 0))) fun x25 =>
 zb (za (bin .add x25 (Value.int .i64 1))) fun x26 =>
 zb (za (cvi .u64 x26)) fun x27 =>
 zb (za (bin .rem x23 x27)) fun x28 =>
 zb (za (cvi .i64 x28)) fun x29 =>
 zb (
 zb (za (zb4 (zc vs_2 0))) fun x31 =>
 zb (
 zc7 zem (zlo G_strings_Split G_strings_IndexRune G_strconv_Atoi G_strings_IndexByte) [(zc vs_2 0), (zc vs_2 2), (zc vs_2 3), x29, (zc vs_2 0), x31, (Value.int .i64 0)]
 ) fun o => ret (zb9 0 o)
 ) fun o => nx o (zt7 G_strings_Split G_strings_IndexRune G_strconv_Atoi G_strings_IndexByte)
noncomputable def zou (G_strings_Split : List V → M V) (G_strings_IndexRune : List V → M V) (G_strconv_Atoi : List V → M V) (G_strings_IndexByte : List V → M V) (vs : List V) : M Out :=
 zb (
 zb (za (zb4 (zc vs 0))) fun x20 =>
 zb (za (bin .gtr x20 (Value.int .i64 100))) fun x21 =>
 zbv x21 (
 ret (.ret [(Value.bool true)])
 ) (
 ret (.nxt [(zc vs 0), (zc vs 1), (Value.string ⟨#[]⟩), (Value.string ⟨#[]⟩)])
 )
 ) fun o => nx o (zt8 G_strings_Split G_strings_IndexRune G_strconv_Atoi G_strings_IndexByte)
noncomputable def zmh (G_strings_Split : List V → M V) (G_strings_IndexRune : List V → M V) (G_strconv_Atoi : List V → M V) (G_strings_IndexByte : List V → M V) (x0 x1 : V) : M V :=
 zb (
 zb (
 zb ((zl4 G_strings_Split G_strings_IndexRune G_strconv_Atoi G_strings_IndexByte) []) fun x17 =>
 zb (za (un .not x17)) fun x18 =>
 zbv x18 (
 ret (.ret [(Value.bool false)])
 ) (
 ret (.nxt [x0, x1])
 )
 ) fun o => nx o (zou G_strings_Split G_strings_IndexRune G_strconv_Atoi G_strings_IndexByte)
 ) fun o => zcp o fun vs => ret (zcm [(zc vs 0)])
def zxf : Hint := (.seq [] .leaf (.seq [0, 1] (.seq [] .leaf (.cond (.seq [] .leaf .leaf) .leaf)) (.seq [] .leaf (.seq [0, 1, 5, 6] (.seq [] .leaf (.cond (.seq [] .leaf .leaf) .leaf)) (.seq [] .leaf (.seq [0, 5, 6, 7] (.seq [] .leaf (.blk (.loop [0, 5, 6, 7, 30, 31, 32] (.seq [] .leaf (.seq [0, 5, 6, 7, 30, 31, 32] (.cond .leaf .leaf) (.seq [0, 5, 6, 7, 30, 31, 32] (.blk (.seq [] .leaf (.seq [0, 5, 6, 7, 8, 9, 30, 31, 32] (.seq [] .leaf (.cond (.seq [] .leaf .leaf) .leaf)) (.seq [0, 5, 6, 7, 8, 9, 30, 31, 32] (.seq [] .leaf (.blk (.loop [0, 5, 6, 7, 8, 9, 30, 31, 32, 41, 42] (.seq [] .leaf (.seq [0, 5, 6, 7, 8, 9, 30, 31, 32, 41, 42] (.cond .leaf .leaf) (.seq [0, 5, 6, 7, 8, 9, 30, 31, 32, 41, 42] (.blk (.seq [] .leaf (.seq [] .leaf (.cond (.seq [] .leaf .leaf) .leaf)))) .leaf)))))) (.seq [0, 5, 6, 7, 9, 30, 31, 32] (.seq [] .leaf (.cond .leaf .leaf)) (.seq [] .leaf .leaf)))))) .leaf)))))) (.seq [] .leaf (.seq [] .leaf (.seq [11, 12, 13, 14, 15, 16] (.seq [] .leaf (.cond .leaf .leaf)) (.seq [] .leaf .leaf))))))))))
noncomputable def zru (G_strings_Split : List V → M V) (G_strings_IndexRune : List V → M V) (G_strconv_Atoi : List V → M V) (G_strings_IndexByte : List V → M V) (l : List V) : M V := match l with | [x0, x1] => zmh G_strings_Split G_strings_IndexRune G_strconv_Atoi G_strings_IndexByte x0 x1 | _ => fail
theorem z7u (G_strings_Split : List V → M V) (G_strings_IndexRune : List V → M V) (G_strconv_Atoi : List V → M V) (G_strings_IndexByte : List V → M V) (x0 x1 : V) : zde Tryz.prog (ovr [(zpj, zl4 G_strings_Split G_strings_IndexRune G_strconv_Atoi G_strings_IndexByte), (zky, zgq G_strings_Split G_strings_IndexRune G_strconv_Atoi G_strings_IndexByte), (zq0, zob)] noC) zto zxf [x0, x1] = zmh G_strings_Split G_strings_IndexRune G_strconv_Atoi G_strings_IndexByte x0 x1 := by kernel_rfl
theorem K_law27_ConfNotes {G_strings_Split : List V → M V} {G_strings_IndexRune : List V → M V} {G_strconv_Atoi : List V → M V} {G_strings_IndexByte : List V → M V} (k_strings_Split : zb3 Tryz.prog zdk G_strings_Split) (k_strings_IndexRune : zb3 Tryz.prog zb1 G_strings_IndexRune) (k_strconv_Atoi : zb3 Tryz.prog zcj G_strconv_Atoi) (k_strings_IndexByte : zb3 Tryz.prog zcu G_strings_IndexByte) : zb3 Tryz.prog zto (zru G_strings_Split G_strings_IndexRune G_strconv_Atoi G_strings_IndexByte) := zbw (σ := ovr [(zpj, zl4 G_strings_Split G_strings_IndexRune G_strconv_Atoi G_strings_IndexByte), (zky, zgq G_strings_Split G_strings_IndexRune G_strconv_Atoi G_strings_IndexByte), (zq0, zob)] noC) (hint := zxf) (by kernel_rfl) (zn (zbd3 k_strings_Split k_strings_IndexRune k_strconv_Atoi k_strings_IndexByte) (zn (z7p k_strings_Split k_strings_IndexRune k_strconv_Atoi k_strings_IndexByte) (zn zbgm z8))) fun l H r H' h => by
 unfold zru at h; split at h
 · rw [z7u]; exact h
 · exact (zo h).elim
end Go.AM.Cap
