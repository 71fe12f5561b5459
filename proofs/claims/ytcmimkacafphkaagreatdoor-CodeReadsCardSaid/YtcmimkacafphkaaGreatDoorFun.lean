import Derived.Test.YtcmimkacafphkaaGreatDoorAmHeap
import Derived.Test.YtcmimkacafphkaaGreatDoorProg
set_option linter.all false
/- Printed by amprint2.py: functions of YtcmimkacafphkaaGreatDoor on the abstract machine. -/
set_option linter.unusedVariables false
set_option maxRecDepth 100000
namespace Go.AM.Cap
open Go.AM Go.Proofs
def gid_code_opNames : Nat := 0
def zym : Nat := 6
def zr3 : Nat := 7
def zsu : Nat := 7
def zrc : Nat := 9
def zn1 : Nat := 11
def zi6 : Nat := 12
def zsf : Nat := 14
def zn2 : Nat := 15
def zjx : Nat := 18
def zn3 : Nat := 19
def zmh : Nat := 20
def zhs : Nat := 21
def zht : Nat := 22
def zev : Nat := 23
def zpd : Nat := 25
def zpe : Nat := 26
def zch : Nat := 27
def zhu : Nat := 28
def zyn : Nat := 29
def zui : Nat := 30
def zsg : Nat := 31
def zpf : Nat := 32
def zwd : Nat := 33
def zik : Nat := 34
def zhg : Nat := 35
def zn4 : Nat := 36
def zpg : Nat := 39
def zph : Nat := 40
def zn5 : Nat := 41
def zfc : Nat := 42
def zgv : Nat := 43
def zil : Nat := 44
def zkx : Nat := 45
def zqz : Nat := 46
def zkr : Nat := 47
def zim : Nat := 48
def zks : Nat := 49
def zsh : Nat := 50
def zfg : Nat := 57
def zrd : Nat := 58
def zgl : Nat := 59
def zcl : Nat := 60
def zla : Nat := 61
def zdf : Nat := 62
def zfk : Nat := 63
def zgg : Nat := 64
def zdg : Nat := 65
def zdh : Nat := 66
def zdy : Nat := 67
def z0q : Nat := 68
def zdz : Nat := 69
def z0r : Nat := 70
def zd0 : Nat := 71
def zsi : Nat := 72
def zd1 : Nat := 73
def zq0 : Nat := 74
def zb8 : Nat := 75
def zdo : Nat := 76
def zd2 : Nat := 77
def zoe : Nat := 78
def zuj : Nat := 79
def zlb : Nat := 80
def zuk : Nat := 81
def zul : Nat := 82
def zwe : Nat := 83
def zsj : Nat := 84
def zre : Nat := 88
def zpi : Nat := 89
def zsk : Nat := 90
def zum : Nat := 91
def zif : Nat := 99
def zrf : Nat := 100
def zbd : Nat := 101
def zni : Nat := 102
def zin : Nat := 103
def zem : Nat := 104
def ztb : Nat := 105
def zyo : Nat := 106
def zwf : Nat := 107
def zq1 : Nat := 108
def ztc : Nat := 110
def zky : Nat := 111
def zwg : Nat := 112
def ziv : Nat := 113
def zmi : Nat := 121
def zmj : Nat := 123
def zi7 : Nat := 124
def zgm : Nat := 131
def zf8 : Nat := 132
def zgn : Nat := 133
def zf9 : Nat := 134
def zfm : Nat := 135
def zfh : Nat := 136
def zey : Nat := 137
def zfn : Nat := 139
def zfo : Nat := 140
def zfp : Nat := 141
def zfq : Nat := 142
def zfr : Nat := 143
def zfs : Nat := 144
def zft : Nat := 145
def zfu : Nat := 146
def zfv : Nat := 147
def zio : Nat := 148
def zez : Nat := 149
def ze0 : Nat := 150
def ze1 : Nat := 151
def ze2 : Nat := 152
def ze3 : Nat := 153
def ze4 : Nat := 154
def ze5 : Nat := 155
def zet : Nat := 159
def zcj : Nat := 160
def zd3 : Nat := 161
def zc3 : Nat := 162
def zea : Nat := 167
def zy : Nat := 168
def zh1 : Nat := 169
def zbcr : Nat := 9
def zbav : Nat := 147
def zkz : Nat := 149
def zyp (x0 x1 : V) : M V :=
 zb (
 zb (za (build [Value.int .i64 0, Value.int .i64 0] [(0, 1, x0), (1, 1, x1)])) fun x7 =>
 zb (za (build [Value.int .i64 0, Value.int .i64 0] [(0, 2, x7)])) fun x8 =>
 zb (za (some (Value.iface zbav x8))) fun x9 =>
 ret (.ret [x9])
 ) fun o => zbn o fun vs => ret (zbe [(zc vs 0)])
def zbcs : Hint := (.seq [] .leaf (.seq [] .leaf .leaf))
def zg7 (l : List V) : M V := match l with | [x0, x1] => zyp x0 x1 | _ => fail
theorem zbm5 (x0 x1 : V) : zbr Tryz.prog (ovr [] noC) ztc zbcs [x0, x1] = zyp x0 x1 := by kernel_rfl
theorem zbct : zk Tryz.prog ztc (zg7) := zh (σ := ovr [] noC) (hint := zbcs) (by kernel_rfl) zf fun l H r H' h => by
 unfold zg7 at h; split at h
 · rw [zbm5]; exact h
 · exact (ze h).elim
def zw9 (vs_3 : List V) : M Out :=
 zb (za (zj .add (zc vs_3 3) (Value.int .i64 1))) fun x16 =>
 ret (.nxt [(zc vs_3 0), (zc vs_3 1), (zc vs_3 2), x16])
def zxa (vs_2 : List V) : M Out :=
 zb (
 zb (
 zb (za (zj .shl (zc vs_2 1) (Value.int .u64 8))) fun x10 =>
 zb (za (zh9 (zc vs_2 0) (zc vs_2 3))) fun x13 =>
 zb (za (cvi .u64 x13)) fun x14 =>
 zb (za (zj .or x10 x14)) fun x15 =>
 ret (.nxt [(zc vs_2 0), x15, (zc vs_2 2), (zc vs_2 3)])
 ) fun o => ret (zp 1 o)
 ) fun o => nx o zw9
def zq2 (vs : List V) : M Out :=
 zb (za (zj .lss (zc vs 3) (zc vs 2))) fun x7 =>
 zb (
 zi x7 (
 ret (.nxt [(zc vs 0), (zc vs 1), (zc vs 2), (zc vs 3)])
 ) (
 ret (.brk 0 [(zc vs 1)])
 )
 ) fun o => nx o zxa
def zxb (vs_4 : List V) : M Out :=
 ret (.ret [(zc vs_4 0)])
def zn6 (x0 : V) : M V :=
 zb (
 zb (
 zb (za (zde x0)) fun x5 =>
 zb (
 zcg zcb zq2 [x0, (Value.int .u64 0), x5, (Value.int .i64 0)]
 ) fun o => ret (zp 0 o)
 ) fun o => nx o zxb
 ) fun o => zbn o fun vs => ret (zbe [(zc vs 0)])
def zzf : Hint := (.seq [] .leaf (.seq [2] (.seq [] .leaf (.blk (.loop [0, 2, 5, 6] (.seq [] .leaf (.seq [0, 2, 5, 6] (.cond .leaf .leaf) (.seq [0, 2, 5, 6] (.blk (.seq [] .leaf .leaf)) .leaf)))))) (.seq [] .leaf .leaf)))
def ze6 (l : List V) : M V := match l with | [x0] => zn6 x0 | _ => fail
theorem zbaw (x0 : V) : zbr Tryz.prog (ovr [] noC) zky zzf [x0] = zn6 x0 := by kernel_rfl
theorem zzg : zk Tryz.prog zky (ze6) := zh (σ := ovr [] noC) (hint := zzf) (by kernel_rfl) zf fun l H r H' h => by
 unfold ze6 at h; split at h
 · rw [zbaw]; exact h
 · exact (ze h).elim
def zyq (vs : List V) : M Out :=
 zvo fun h0_3 =>
 zb (ldn 3 (zc vs 1)) fun x73 =>
 zhr (zg7 [(zc vs 0), (Value.int .i64 30)]) fun ha_5 x75 h1_3 =>
 zhr (stn 3 (zc vs 1) x73) fun ha_6 u_3 h2_3 =>
 zmd (chk (ldn 3 (zc vs 1)) h1_3 x73) <|
 ret (.ret [(zc vs 1), (Value.int .i64 0), x75])
def zvq (x0 x1 : V) : M V :=
 zb (
 zb (newc [Value.bool false, Value.int .i64 0, Value.string ⟨#[]⟩]) fun x4 =>
 zb (za (zo6 x0 (some x1) none)) fun x11 =>
 zb (
 zb (
 zb (za (zj .eql x11 (Value.string ⟨#[]⟩))) fun x14 =>
 zi x14 (
 zvo fun h0 =>
 zb (ldn 3 x4) fun x15 =>
 zhr (zg7 [x1, (Value.int .i64 30)]) fun ha x17 h1 =>
 zhr (stn 3 x4 x15) fun ha_2 u h2 =>
 zmd (chk (ldn 3 x4) h1 x15) <|
 ret (.ret [x4, (Value.int .i64 0), x17])
 ) (
 zb (za (zh9 x11 (Value.int .i64 0))) fun x20 =>
 zb (za (zj .eql x20 (Value.int .u8 35))) fun x21 =>
 zb (gd x21 true (za (some x11))) fun x23 =>
 zb (gd x21 true (za (zde x23))) fun x24 =>
 zb (gd x21 true (za (zj .geq x24 (Value.int .i64 9)))) fun x25 =>
 zb (za (zm x21 x25 (Value.bool false))) fun x26 =>
 zi x26 (
 zb (za (zo6 x11 (some (Value.int .i64 1)) (some (Value.int .i64 9)))) fun x28 =>
 zb (ze6 [x28]) fun x29 =>
 zb (za (cvi .i64 x29)) fun x30 =>
 zb (za (build [Value.bool false, Value.int .i64 0, Value.string ⟨#[]⟩] [(1, 1, x30)])) fun x31 =>
 zb (za (zj .add x1 (Value.int .i64 9))) fun x33 =>
 zb (stn 3 x4 x31) fun _ =>
 ret (.ret [x4, x33, Value.nilIface])
 ) (
 zb (za (zh9 x11 (Value.int .i64 0))) fun x36 =>
 zb (za (zj .eql x36 (Value.int .u8 36))) fun x37 =>
 zb (gd x37 true (za (some x11))) fun x39 =>
 zb (gd x37 true (za (zde x39))) fun x40 =>
 zb (gd x37 true (za (zj .geq x40 (Value.int .i64 3)))) fun x41 =>
 zb (za (zm x37 x41 (Value.bool false))) fun x42 =>
 zi x42 (
 zb (za (zo6 x11 (some (Value.int .i64 1)) (some (Value.int .i64 3)))) fun x44 =>
 zb (ze6 [x44]) fun x45 =>
 zb (za (cvi .i64 x45)) fun x46 =>
 zb (za (zde x11)) fun x48 =>
 zb (za (zj .add (Value.int .i64 3) x46)) fun x50 =>
 zb (za (zj .geq x48 x50)) fun x51 =>
 zi x51 (
 zb (za (zj .add (Value.int .i64 3) x46)) fun x54 =>
 zb (za (zo6 x11 (some (Value.int .i64 3)) (some x54))) fun x55 =>
 zb (za (build [Value.bool false, Value.int .i64 0, Value.string ⟨#[]⟩] [(0, 1, (Value.bool true)), (2, 1, x55)])) fun x56 =>
 zb (za (zj .add x1 (Value.int .i64 3))) fun x58 =>
 zb (za (zj .add x58 x46)) fun x60 =>
 zb (stn 3 x4 x56) fun _ =>
 ret (.ret [x4, x60, Value.nilIface])
 ) (
 ret (.nxt [x1, x4])
 )
 ) (
 zb (za (zh9 x11 (Value.int .i64 0))) fun x63 =>
 zb (za (zj .neq x63 (Value.int .u8 35))) fun x64 =>
 zb (gd x64 true (za (some x11))) fun x66 =>
 zb (gd x64 true (za (zh9 x66 (Value.int .i64 0)))) fun x67 =>
 zb (gd x64 true (za (zj .neq x67 (Value.int .u8 36)))) fun x68 =>
 zb (za (zm x64 x68 (Value.bool false))) fun x69 =>
 zi x69 (
 zvo fun h0_2 =>
 zb (ldn 3 x4) fun x70 =>
 zhr (zg7 [x1, (Value.int .i64 3)]) fun ha_3 x72 h1_2 =>
 zhr (stn 3 x4 x70) fun ha_4 u_2 h2_2 =>
 zmd (chk (ldn 3 x4) h1_2 x70) <|
 ret (.ret [x4, (Value.int .i64 0), x72])
 ) (
 ret (.nxt [x1, x4])
 )
 )
 )
 )
 ) fun o => ret (zp 0 o)
 ) fun o => nx o zyq
 ) fun o => zbn o fun vs => zb (ldn 3 (zc vs 0)) fun r0 => ret (zbe [r0, (zc vs 1), (zc vs 2)])
def z95 : Hint := (.seq [] .leaf (.seq [] .leaf (.seq [1, 4] (.blk (.seq [] .leaf (.cond (.seq [] (.reg [1, 0, 2, 3, 4, 5] []) .leaf) (.seq [] .leaf (.cond (.seq [] .leaf .leaf) (.seq [] .leaf (.cond (.seq [] .leaf (.seq [] .leaf (.cond (.seq [] .leaf .leaf) .leaf))) (.seq [] .leaf (.cond (.seq [] (.reg [1, 0, 2, 3, 4, 5] []) .leaf) .leaf))))))))) (.seq [] (.reg [1, 0, 2, 3, 4, 5] []) .leaf))))
def zr4 (l : List V) : M V := match l with | [x0, x1] => zvq x0 x1 | _ => fail
def z96 : zl := ovr [(ztc, zg7), (zky, ze6)] noC
theorem zbkv (x0 x1 : V) : zbr Tryz.prog (z96) zwg z95 [x0, x1] = zvq x0 x1 := by kernel_rfl
theorem zbkw : zk Tryz.prog zwg (zr4) := zh (σ := z96) (hint := z95) (by kernel_rfl) (zd zbct (zd zzg zf)) fun l H r H' h => by
 unfold zr4 at h; split at h
 · rw [zbkv]; exact h
 · exact (ze h).elim
def z6p (vs_4 : List V) : M Out :=
 zb (ldn 3 (zc vs_4 2)) fun x40 =>
 zb (zfb 3 1 (rep 1 [Value.bool false, Value.int .i64 0, Value.string ⟨#[]⟩]) [(0, 3, x40)]) fun x41 =>
 zb (zk7 3 32 (zc vs_4 1) x41) fun x42 =>
 ret (.nxt [(zc vs_4 0), x42, (zc vs_4 3), (zc vs_4 4), (zc vs_4 5)])
def z6q (vs_5 : List V) : M Out :=
 zb (za (zj .add (zc vs_5 4) (Value.int .u64 1))) fun x44 =>
 ret (.nxt [(zc vs_5 0), (zc vs_5 1), (zc vs_5 2), (zc vs_5 3), x44])
def z6r (vs_3 : List V) : M Out :=
 zb (
 zb (
 zb (zr4 [(zc vs_3 0), (zc vs_3 2)]) fun x32 =>
 zb (za (ext 0 x32)) fun x33 =>
 zb (za (ext 1 x32)) fun x34 =>
 zb (za (ext 2 x32)) fun x35 =>
 zb (newc [Value.bool false, Value.int .i64 0, Value.string ⟨#[]⟩]) fun x5 =>
 zb (stn 3 x5 x33) fun _ =>
 zb (
 zb (za (zhx true (isNil .i x35))) fun x37 =>
 zi x37 (
 ret (.ret [(Value.slice none 0 0), x35])
 ) (
 ret (.nxt [(zc vs_3 0), (zc vs_3 1), x5, x34, (zc vs_3 3), (zc vs_3 4)])
 )
 ) fun o => nx o z6p
 ) fun o => ret (zp 2 o)
 ) fun o => nx o z6q
def ztd (vs_2 : List V) : M Out :=
 zb (za (zj .lss (zc vs_2 4) (zc vs_2 3))) fun x28 =>
 zb (
 zi x28 (
 ret (.nxt [(zc vs_2 0), (zc vs_2 1), (zc vs_2 2), (zc vs_2 3), (zc vs_2 4)])
 ) (
 ret (.brk 1 [(zc vs_2 0), (zc vs_2 1), (zc vs_2 2)])
 )
 ) fun o => nx o z6r
def z6s (vs_7 : List V) : M Out :=
 ret (.ret [(zc vs_7 0), Value.nilIface])
def zyr (vs_6 : List V) : M Out :=
 zb (
 zb (za (zde (zc vs_6 0))) fun x47 =>
 zb (za (zj .lss (zc vs_6 2) x47)) fun x48 =>
 zi x48 (
 zb (zg7 [(zc vs_6 2), (Value.int .i64 31)]) fun x50 =>
 ret (.ret [(Value.slice none 0 0), x50])
 ) (
 ret (.nxt [(zc vs_6 1)])
 )
 ) fun o => nx o z6s
def z6t (vs : List V) : M Out :=
 zb (
 zb (za (zo6 (zc vs 0) none (some (Value.int .i64 2)))) fun x25 =>
 zb (ze6 [x25]) fun x26 =>
 zb (
 zcg zcb ztd [(zc vs 0), (zc vs 1), (Value.int .i64 2), x26, (Value.int .u64 0)]
 ) fun o => ret (zp 1 o)
 ) fun o => nx o zyr
def zlc (x0 : V) : M V :=
 zb (
 zb (
 zb (
 zb (za (zde x0)) fun x10 =>
 zb (za (zj .gtr x10 (Value.int .i64 65536))) fun x11 =>
 zi x11 (
 zb (zg7 [(Value.int .i64 0), (Value.int .i64 2)]) fun x12 =>
 ret (.ret [(Value.slice none 0 0), x12])
 ) (
 zb (za (zde x0)) fun x15 =>
 zb (za (zj .lss x15 (Value.int .i64 2))) fun x16 =>
 zi x16 (
 zb (zg7 [(Value.int .i64 0), (Value.int .i64 30)]) fun x17 =>
 ret (.ret [(Value.slice none 0 0), x17])
 ) (
 zb (za (zo6 x0 none (some (Value.int .i64 2)))) fun x20 =>
 zb (ze6 [x20]) fun x21 =>
 zb (za (zj .gtr x21 (Value.int .u64 1000))) fun x22 =>
 zi x22 (
 zb (zg7 [(Value.int .i64 0), (Value.int .i64 2)]) fun x23 =>
 ret (.ret [(Value.slice none 0 0), x23])
 ) (
 ret (.nxt [x0, (Value.slice none 0 0)])
 )
 )
 )
 ) fun o => ret (zp 0 o)
 ) fun o => nx o z6t
 ) fun o => zbn o fun vs => ret (zbe [(zc vs 0), (zc vs 1)])
def z97 : Hint := (.seq [] .leaf (.seq [0, 2] (.blk (.seq [] .leaf (.cond (.seq [] .leaf .leaf) (.seq [] .leaf (.cond (.seq [] .leaf .leaf) (.seq [] .leaf (.cond (.seq [] .leaf .leaf) .leaf))))))) (.seq [] .leaf (.seq [0, 2, 4] (.seq [] .leaf (.blk (.loop [0, 2, 4, 26, 27] (.seq [] .leaf (.seq [0, 2, 4, 26, 27] (.cond .leaf .leaf) (.seq [0, 2, 4, 26, 27] (.blk (.seq [] .leaf (.seq [0, 2, 5, 6, 26, 27] (.seq [] .leaf (.cond (.seq [] .leaf .leaf) .leaf)) .leaf))) .leaf)))))) (.seq [2] (.seq [] .leaf (.cond (.seq [] .leaf .leaf) .leaf)) (.seq [] .leaf .leaf))))))
def zom (l : List V) : M V := match l with | [x0] => zlc x0 | _ => fail
def z98 : zl := ovr [(ztc, zg7), (zky, ze6), (zwg, zr4)] noC
theorem zbkx (x0 : V) : zbr Tryz.prog (z98) zre z97 [x0] = zlc x0 := by kernel_rfl
theorem zbky : zk Tryz.prog zre (zom) := zh (σ := z98) (hint := z97) (by kernel_rfl) (zd zbct (zd zzg (zd zbkw zf))) fun l H r H' h => by
 unfold zom at h; split at h
 · rw [zbkx]; exact h
 · exact (ze h).elim
def z3m (G_errors_As : List V → M V) (vs : List V) : M Out :=
 zb (za (build [Value.int .i64 0, Value.int .i64 0] [])) fun x9 =>
 zb (stn 2 (zc vs 0) x9) fun _ =>
 ret (.ret [(zc vs 0)])
def zte (G_errors_As : List V → M V) (x0 : V) : M V :=
 zb (
 zb (newc [Value.int .i64 0, Value.int .i64 0]) fun x2 =>
 zb (newc [Value.int .i64 0, Value.int .i64 0]) fun x3 =>
 zb (
 zb (za (some (Value.iface zkz x3))) fun x5 =>
 zb (G_errors_As [x0, x5]) fun x6 =>
 zi x6 (
 zb (za (zg 0 x3)) fun x7 =>
 zb (ldn 2 x7) fun x8 =>
 zb (stn 2 x2 x8) fun _ =>
 ret (.ret [x2])
 ) (
 ret (.nxt [x2])
 )
 ) fun o => nx o (z3m G_errors_As)
 ) fun o => zbn o fun vs => zb (ldn 2 (zc vs 0)) fun r0 => ret (zbe [r0])
def z6u : Hint := (.seq [] .leaf (.seq [] .leaf (.seq [2] (.seq [] .leaf (.cond (.seq [] .leaf .leaf) .leaf)) (.seq [] .leaf .leaf))))
def zmk (G_errors_As : List V → M V) (l : List V) : M V := match l with | [x0] => zte G_errors_As x0 | _ => fail
theorem zbh5 (G_errors_As : List V → M V) (x0 : V) : zbr Tryz.prog (ovr [(ziv, G_errors_As)] noC) zpi z6u [x0] = zte G_errors_As x0 := by kernel_rfl
theorem zbh6 {G_errors_As : List V → M V} (k_errors_As : zk Tryz.prog ziv G_errors_As) : zk Tryz.prog zpi (zmk G_errors_As) := zh (σ := ovr [(ziv, G_errors_As)] noC) (hint := z6u) (by kernel_rfl) (zd k_errors_As zf) fun l H r H' h => by
 unfold zmk at h; split at h
 · rw [zbh5]; exact h
 · exact (ze h).elim
def zrg (G_errors_As : List V → M V) (x0 : V) : M V :=
 zb (
 zb (newc [Value.int .i64 0, Value.int .i64 0]) fun x3 =>
 zb (zom [x0]) fun x8 =>
 zb (za (ext 0 x8)) fun x9 =>
 zb (za (ext 1 x8)) fun x10 =>
 zb ((zmk G_errors_As) [x10]) fun x13 =>
 zb (stn 2 x3 x13) fun _ =>
 ret (.ret [x9, x3])
 ) fun o => zbn o fun vs => zb (ldn 2 (zc vs 1)) fun r1 => ret (zbe [(zc vs 0), r1])
def z3n : Hint := (.seq [] .leaf (.seq [] .leaf (.seq [] .leaf .leaf)))
def zke (G_errors_As : List V → M V) (l : List V) : M V := match l with | [x0] => zrg G_errors_As x0 | _ => fail
theorem zbev (G_errors_As : List V → M V) (x0 : V) : zbr Tryz.prog (ovr [(zre, zom), (zpi, zmk G_errors_As)] noC) zn5 z3n [x0] = zrg G_errors_As x0 := by kernel_rfl
theorem zbew {G_errors_As : List V → M V} (k_errors_As : zk Tryz.prog ziv G_errors_As) : zk Tryz.prog zn5 (zke G_errors_As) := zh (σ := ovr [(zre, zom), (zpi, zmk G_errors_As)] noC) (hint := z3n) (by kernel_rfl) (zd zbky (zd (zbh6 k_errors_As) zf)) fun l H r H' h => by
 unfold zke at h; split at h
 · rw [zbev]; exact h
 · exact (ze h).elim
def zsv (vs : List V) : M Out :=
 zb (za (zeb (zc vs 0))) fun x31 =>
 zb (za (zg 0 x31)) fun x32 =>
 zb (z8 x32) fun x33 =>
 zb (za (zbo 3 x33 (Value.int .i64 0))) fun x34 =>
 zb (ldn 3 x34) fun x35 =>
 zb (newc [Value.bool false, Value.int .i64 0, Value.string ⟨#[]⟩]) fun x5 =>
 zb (stn 3 x5 x35) fun _ =>
 zb (za (zeb (zc vs 0))) fun x38 =>
 zb (za (zg 0 x38)) fun x39 =>
 zb (z8 x39) fun x40 =>
 zb (za (zt8 3 x40 (some (Value.int .i64 1)) none)) fun x41 =>
 zb (za (zeb (zc vs 0))) fun x42 =>
 zb (za (zg 0 x42)) fun x43 =>
 zb (st1 x43 x41) fun _ =>
 zb (ldn 3 x5) fun x44 =>
 zb (stn 3 (zc vs 1) x44) fun _ =>
 ret (.ret [(zc vs 1)])
def zjy (x0 x1 : V) : M V :=
 zb (
 zb (newc [Value.bool false, Value.int .i64 0, Value.string ⟨#[]⟩]) fun x4 =>
 zb (
 zb (za (zeb x0)) fun x7 =>
 zb (za (zg 0 x7)) fun x8 =>
 zb (z8 x8) fun x9 =>
 zb (za (zo x9)) fun x10 =>
 zb (za (zj .eql x10 (Value.int .i64 0))) fun x11 =>
 zb (gd x11 false (za (some x0))) fun x13 =>
 zb (gd x11 false (za (zeb x13))) fun x14 =>
 zb (gd x11 false (za (zg 0 x14))) fun x15 =>
 zb (gd x11 false (z8 x15)) fun x16 =>
 zb (gd x11 false (za (zbo 3 x16 (Value.int .i64 0)))) fun x17 =>
 zb (gd x11 false (za (zg 0 x17))) fun x18 =>
 zb (gd x11 false (z8 x18)) fun x19 =>
 zb (gd x11 false (za (some x1))) fun x20 =>
 zb (gd x11 false (za (zhx true (eqK .b x19 x20)))) fun x21 =>
 zb (za (zm x11 (Value.bool true) x21)) fun x22 =>
 zi x22 (
 zb (za (zeb x0)) fun x25 =>
 zb (za (zg 1 x25)) fun x26 =>
 zb (st1 x26 (Value.bool true)) fun _ =>
 zb (za (zeb x0)) fun x27 =>
 zb (za (zg 0 x27)) fun x28 =>
 zb (st1 x28 (Value.slice none 0 0)) fun _ =>
 zb (za (build [Value.bool false, Value.int .i64 0, Value.string ⟨#[]⟩] [])) fun x29 =>
 zb (stn 3 x4 x29) fun _ =>
 ret (.ret [x4])
 ) (
 ret (.nxt [x0, x4])
 )
 ) fun o => nx o zsv
 ) fun o => zbn o fun vs => zb (ldn 3 (zc vs 0)) fun r0 => ret (zbe [r0])
def zun : Hint := (.seq [] .leaf (.seq [0, 4] (.seq [] .leaf (.cond (.seq [] .leaf (.seq [] .leaf .leaf)) .leaf)) (.seq [] .leaf (.seq [] .leaf (.seq [] .leaf .leaf)))))
def zbv (l : List V) : M V := match l with | [x0, x1] => zjy x0 x1 | _ => fail
theorem z5j (x0 x1 : V) : zbr Tryz.prog (ovr [] noC) zfc zun [x0, x1] = zjy x0 x1 := by kernel_rfl
theorem zof : zk Tryz.prog zfc (zbv) := zh (σ := ovr [] noC) (hint := zun) (by kernel_rfl) zf fun l H r H' h => by
 unfold zbv at h; split at h
 · rw [z5j]; exact h
 · exact (ze h).elim
def zsw (vs : List V) : M Out :=
 ret (.ret [(zc vs 0)])
def zjz (x0 : V) : M V :=
 zb (
 zb (zbv [x0, (Value.bool false)]) fun x5 =>
 zb (za (fld1 1 x5)) fun x6 =>
 zb (
 zb (za (zj .lss x6 (Value.int .i64 0))) fun x8 =>
 zb (gd x8 false (za (some x6))) fun x10 =>
 zb (gd x8 false (za (zj .gtr x10 (Value.int .i64 1024)))) fun x11 =>
 zb (za (zm x8 (Value.bool true) x11)) fun x12 =>
 zi x12 (
 zb (za (zeb x0)) fun x15 =>
 zb (za (zg 1 x15)) fun x16 =>
 zb (st1 x16 (Value.bool true)) fun _ =>
 zb (za (zeb x0)) fun x17 =>
 zb (za (zg 0 x17)) fun x18 =>
 zb (st1 x18 (Value.slice none 0 0)) fun _ =>
 ret (.ret [(Value.int .i64 0)])
 ) (
 ret (.nxt [x6])
 )
 ) fun o => nx o zsw
 ) fun o => zbn o fun vs => ret (zbe [(zc vs 0)])
def zuo : Hint := (.seq [] .leaf (.seq [] .leaf (.seq [3] (.seq [] .leaf (.cond (.seq [] .leaf (.seq [] .leaf .leaf)) .leaf)) (.seq [] .leaf .leaf))))
def zeh (l : List V) : M V := match l with | [x0] => zjz x0 | _ => fail
def zup : zl := ovr [(zfc, zbv)] noC
theorem z5k (x0 : V) : zbr Tryz.prog (zup) zgv zuo [x0] = zjz x0 := by kernel_rfl
theorem zuq : zk Tryz.prog zgv (zeh) := zh (σ := zup) (hint := zuo) (by kernel_rfl) (zd zof zf) fun l H r H' h => by
 unfold zeh at h; split at h
 · rw [z5k]; exact h
 · exact (ze h).elim
def zsx (vs_3 : List V) : M Out :=
 zb (za (zj .add (zc vs_3 3) (Value.int .i64 1))) fun x14 =>
 ret (.nxt [(zc vs_3 0), (zc vs_3 1), (zc vs_3 2), x14])
def zsy (vs_2 : List V) : M Out :=
 zb (
 zb (
 zb (zbv [(zc vs_2 0), (Value.bool false)]) fun x10 =>
 zb (za (fld1 1 x10)) fun x11 =>
 zb (zfb 1 1 (rep 1 [Value.int .i64 0]) [(0, 1, x11)]) fun x12 =>
 zb (zk7 1 8 (zc vs_2 1) x12) fun x13 =>
 ret (.nxt [(zc vs_2 0), x13, (zc vs_2 2), (zc vs_2 3)])
 ) fun o => ret (zp 1 o)
 ) fun o => nx o zsx
def znf (vs : List V) : M Out :=
 zb (za (zj .lss (zc vs 3) (zc vs 2))) fun x7 =>
 zb (
 zi x7 (
 ret (.nxt [(zc vs 0), (zc vs 1), (zc vs 2), (zc vs 3)])
 ) (
 ret (.brk 0 [(zc vs 1)])
 )
 ) fun o => nx o zsy
def zsz (vs_4 : List V) : M Out :=
 ret (.ret [(zc vs_4 0)])
def zj0 (x0 : V) : M V :=
 zb (
 zb (
 zb (zeh [x0]) fun x5 =>
 zb (
 zcg zcb znf [x0, (Value.slice none 0 0), x5, (Value.int .i64 0)]
 ) fun o => ret (zp 0 o)
 ) fun o => nx o zsz
 ) fun o => zbn o fun vs => ret (zbe [(zc vs 0)])
def zur : Hint := (.seq [] .leaf (.seq [] .leaf (.seq [3] (.seq [] .leaf (.blk (.loop [0, 3, 5, 6] (.seq [] .leaf (.seq [0, 3, 5, 6] (.cond .leaf .leaf) (.seq [0, 3, 5, 6] (.blk .leaf) .leaf)))))) (.seq [] .leaf .leaf))))
def ze9 (l : List V) : M V := match l with | [x0] => zj0 x0 | _ => fail
def zus : zl := ovr [(zgv, zeh), (zfc, zbv)] noC
theorem z5l (x0 : V) : zbr Tryz.prog (zus) zil zur [x0] = zj0 x0 := by kernel_rfl
theorem z5m : zk Tryz.prog zil (ze9) := zh (σ := zus) (hint := zur) (by kernel_rfl) (zd zuq (zd zof zf)) fun l H r H' h => by
 unfold ze9 at h; split at h
 · rw [z5l]; exact h
 · exact (ze h).elim
def zxc (vs_3 : List V) : M Out :=
 zb (za (zj .add (zc vs_3 3) (Value.int .i64 1))) fun x16 =>
 ret (.nxt [(zc vs_3 0), (zc vs_3 1), (zc vs_3 2), x16])
def zxd (vs_2 : List V) : M Out :=
 zb (
 zb (
 zb (za (zj .shl (zc vs_2 1) (Value.int .u64 8))) fun x10 =>
 zb (za (zh9 (zc vs_2 0) (zc vs_2 3))) fun x13 =>
 zb (za (cvi .i64 x13)) fun x14 =>
 zb (za (zj .or x10 x14)) fun x15 =>
 ret (.nxt [(zc vs_2 0), x15, (zc vs_2 2), (zc vs_2 3)])
 ) fun o => ret (zp 1 o)
 ) fun o => nx o zxc
def zq3 (vs : List V) : M Out :=
 zb (za (zj .lss (zc vs 3) (zc vs 2))) fun x7 =>
 zb (
 zi x7 (
 ret (.nxt [(zc vs 0), (zc vs 1), (zc vs 2), (zc vs 3)])
 ) (
 ret (.brk 0 [(zc vs 1)])
 )
 ) fun o => nx o zxd
def zxe (vs_4 : List V) : M Out :=
 ret (.ret [(zc vs_4 0)])
def zn7 (x0 : V) : M V :=
 zb (
 zb (
 zb (za (zde x0)) fun x5 =>
 zb (
 zcg zcb zq3 [x0, (Value.int .i64 0), x5, (Value.int .i64 0)]
 ) fun o => ret (zp 0 o)
 ) fun o => nx o zxe
 ) fun o => zbn o fun vs => ret (zbe [(zc vs 0)])
def zzh : Hint := (.seq [] .leaf (.seq [2] (.seq [] .leaf (.blk (.loop [0, 2, 5, 6] (.seq [] .leaf (.seq [0, 2, 5, 6] (.cond .leaf .leaf) (.seq [0, 2, 5, 6] (.blk (.seq [] .leaf .leaf)) .leaf)))))) (.seq [] .leaf .leaf)))
def zf0 (l : List V) : M V := match l with | [x0] => zn7 x0 | _ => fail
theorem zbax (x0 : V) : zbr Tryz.prog (ovr [] noC) zkx zzh [x0] = zn7 x0 := by kernel_rfl
theorem zbay : zk Tryz.prog zkx (zf0) := zh (σ := ovr [] noC) (hint := zzh) (by kernel_rfl) zf fun l H r H' h => by
 unfold zf0 at h; split at h
 · rw [zbax]; exact h
 · exact (ze h).elim
def ziw (vs_2 : List V) : M Out :=
 ret (.ret [(zc vs_2 0)])
def zix (vs : List V) : M Out :=
 zb (
 zb (za (capV (zc vs 0))) fun x10 =>
 zb (za (zo (zc vs 0))) fun x12 =>
 zb (za (zj .sub x10 x12)) fun x13 =>
 zb (za (zj .sub (zc vs 1) x13)) fun x14 =>
 zb (za (zj .gtr x14 (Value.int .i64 0))) fun x16 =>
 zi x16 (
 zb (za (capV (zc vs 0))) fun x19 =>
 zb (za (zt8 1 (zc vs 0) none (some x19))) fun x20 =>
 zb (appZ 1 8 [Value.int .i64 0] x20 x14) fun x22 =>
 zb (za (zo (zc vs 0))) fun x24 =>
 zb (za (zt8 1 x22 none (some x24))) fun x25 =>
 ret (.nxt [x25])
 ) (
 ret (.nxt [(zc vs 0)])
 )
 ) fun o => nx o ziw
def zec (x0 x1 : V) : M V :=
 zb (
 zb (
 zb (za (zj .lss x1 (Value.int .i64 0))) fun x6 =>
 zi x6 (
 zb (za (some (Value.iface zbcr (Value.string ⟨#[99, 97, 110, 110, 111, 116, 32, 98, 101, 32, 110, 101, 103, 97, 116, 105, 118, 101]⟩)))) fun x7 =>
 zb (za ((none : Option V))) fun _ =>
 ret (.nxt [x0, x1])
 ) (
 ret (.nxt [x0, x1])
 )
 ) fun o => nx o zix
 ) fun o => zbn o fun vs => ret (zbe [(zc vs 0)])
def zon : Hint := (.seq [] .leaf (.seq [0, 1] (.seq [] .leaf (.cond .leaf .leaf)) (.seq [0] (.seq [] .leaf (.seq [] .leaf (.cond .leaf .leaf))) (.seq [] .leaf .leaf))))
def zed (l : List V) : M V := match l with | [x0, x1] => zec x0 x1 | _ => fail
theorem zxf (x0 x1 : V) : zbr Tryz.prog (ovr [] noC) zif zon [x0, x1] = zec x0 x1 := by kernel_rfl
theorem zxg : zk Tryz.prog zif (zed) := zh (σ := ovr [] noC) (hint := zon) (by kernel_rfl) zf fun l H r H' h => by
 unfold zed at h; split at h
 · rw [zxf]; exact h
 · exact (ze h).elim
def zld (vs_3 : List V) : M Out :=
 zb (za (zj .add (zc vs_3 4) (Value.int .i64 1))) fun x22 =>
 ret (.nxt [(zc vs_3 0), (zc vs_3 1), (zc vs_3 2), (zc vs_3 3), x22])
def zle (vs_2 : List V) : M Out :=
 zb (
 zb (
 zb (za (zbo 1 (zc vs_2 2) (zc vs_2 4))) fun x13 =>
 zb (z8 x13) fun x14 =>
 zb (za (zo x14)) fun x17 =>
 zb (za (zj .add (zc vs_2 1) x17)) fun x18 =>
 zb (za (zj .lss x18 (Value.int .i64 0))) fun x20 =>
 zi x20 (
 zb (za (some (Value.iface zbcr (Value.string ⟨#[108, 101, 110, 32, 111, 117, 116, 32, 111, 102, 32, 114, 97, 110, 103, 101]⟩)))) fun x21 =>
 zb (za ((none : Option V))) fun _ =>
 ret (.nxt [(zc vs_2 0), x18, (zc vs_2 2), (zc vs_2 3), (zc vs_2 4)])
 ) (
 ret (.nxt [(zc vs_2 0), x18, (zc vs_2 2), (zc vs_2 3), (zc vs_2 4)])
 )
 ) fun o => ret (zp 1 o)
 ) fun o => nx o zld
def zh2 (vs : List V) : M Out :=
 zb (za (zj .lss (zc vs 4) (zc vs 3))) fun x12 =>
 zb (
 zi x12 (
 ret (.nxt [(zc vs 0), (zc vs 1), (zc vs 2), (zc vs 3), (zc vs 4)])
 ) (
 ret (.brk 0 [(zc vs 0), (zc vs 1)])
 )
 ) fun o => nx o zle
def zlf (vs_7 : List V) : M Out :=
 zb (za (zj .add (zc vs_7 3) (Value.int .i64 1))) fun x34 =>
 ret (.nxt [(zc vs_7 0), (zc vs_7 1), (zc vs_7 2), x34])
def zlg (vs_6 : List V) : M Out :=
 zb (
 zb (
 zb (za (zbo 1 (zc vs_6 1) (zc vs_6 3))) fun x29 =>
 zb (z8 x29) fun x30 =>
 zb (zk7 1 8 (zc vs_6 0) x30) fun x33 =>
 ret (.nxt [x33, (zc vs_6 1), (zc vs_6 2), (zc vs_6 3)])
 ) fun o => ret (zp 3 o)
 ) fun o => nx o zlf
def zh3 (vs_5 : List V) : M Out :=
 zb (za (zj .lss (zc vs_5 3) (zc vs_5 2))) fun x28 =>
 zb (
 zi x28 (
 ret (.nxt [(zc vs_5 0), (zc vs_5 1), (zc vs_5 2), (zc vs_5 3)])
 ) (
 ret (.brk 2 [(zc vs_5 0)])
 )
 ) fun o => nx o zlg
def zlh (vs_8 : List V) : M Out :=
 ret (.ret [(zc vs_8 0)])
def zli (vs_4 : List V) : M Out :=
 zb (zed [(Value.slice none 0 0), (zc vs_4 1)]) fun x24 =>
 zb (
 zb (za (zo (zc vs_4 0))) fun x26 =>
 zb (
 zcg zcb zh3 [x24, (zc vs_4 0), x26, (Value.int .i64 0)]
 ) fun o => ret (zp 2 o)
 ) fun o => nx o zlh
def zga (x0 : V) : M V :=
 zb (
 zb (
 zb (za (zo x0)) fun x10 =>
 zb (
 zcg zcb zh2 [x0, (Value.int .i64 0), x0, x10, (Value.int .i64 0)]
 ) fun o => ret (zp 0 o)
 ) fun o => nx o zli
 ) fun o => zbn o fun vs => ret (zbe [(zc vs 0)])
def zm8 : Hint := (.seq [] .leaf (.seq [] .leaf (.seq [0, 3] (.seq [] .leaf (.blk (.loop [0, 3, 9, 10, 11] (.seq [] .leaf (.seq [0, 3, 9, 10, 11] (.cond .leaf .leaf) (.seq [0, 3, 9, 10, 11] (.blk (.seq [] .leaf (.seq [] .leaf (.seq [] .leaf (.cond .leaf .leaf))))) .leaf)))))) (.seq [] .leaf (.seq [6] (.seq [] .leaf (.blk (.loop [6, 25, 26, 27] (.seq [] .leaf (.seq [6, 25, 26, 27] (.cond .leaf .leaf) (.seq [6, 25, 26, 27] (.blk (.seq [] .leaf .leaf)) .leaf)))))) (.seq [] .leaf .leaf))))))
def zdl (l : List V) : M V := match l with | [x0] => zga x0 | _ => fail
def zm9 : zl := ovr [(zif, zed)] noC
theorem zvf (x0 : V) : zbr Tryz.prog (zm9) zfg zm8 [x0] = zga x0 := by kernel_rfl
theorem zvg : zk Tryz.prog zfg (zdl) := zh (σ := zm9) (hint := zm8) (by kernel_rfl) (zd zxg zf) fun l H r H' h => by
 unfold zdl at h; split at h
 · rw [zvf]; exact h
 · exact (ze h).elim
def zwh (vs_2 : List V) : M Out :=
 zb (
 zb (za (zde (zc vs_2 0))) fun x19 =>
 zb (za (zj .sub x19 (Value.int .i64 1))) fun x20 =>
 zb (za (zo6 (zc vs_2 0) none (some x20))) fun x21 =>
 ret (.nxt [x21, (zc vs_2 1)])
 ) fun o => ret (zp 1 o)
def zwi (vs : List V) : M Out :=
 zb (
 zb (za (zde (zc vs 0))) fun x6 =>
 zb (za (zj .gtr x6 (Value.int .i64 0))) fun x7 =>
 zb (gd x7 true (za (some (zc vs 0)))) fun x9 =>
 zb (gd x7 true (za (some (zc vs 0)))) fun x10 =>
 zb (gd x7 true (za (zde x10))) fun x11 =>
 zb (gd x7 true (za (zj .sub x11 (Value.int .i64 1)))) fun x12 =>
 zb (gd x7 true (za (zh9 x9 x12))) fun x13 =>
 zb (gd x7 true (za (some (zc vs 1)))) fun x14 =>
 zb (gd x7 true (za (zj .eql x13 x14))) fun x15 =>
 zb (za (zm x7 x15 (Value.bool false))) fun x16 =>
 zi x16 (
 ret (.nxt [(zc vs 0), (zc vs 1)])
 ) (
 ret (.brk 0 [(zc vs 0)])
 )
 ) fun o => nx o zwh
def zwj (vs_3 : List V) : M Out :=
 ret (.ret [(zc vs_3 0)])
def zoo (x0 x1 : V) : M V :=
 zb (
 zb (
 zb (
 zcg zcb zwi [x0, x1]
 ) fun o => ret (zp 0 o)
 ) fun o => nx o zwj
 ) fun o => zbn o fun vs => ret (zbe [(zc vs 0)])
def zop : Hint := (.seq [] .leaf (.seq [0] (.blk (.loop [0, 1] (.seq [0, 1] (.seq [] .leaf (.cond .leaf .leaf)) (.blk .leaf)))) (.seq [] .leaf .leaf)))
def zfd (l : List V) : M V := match l with | [x0, x1] => zoo x0 x1 | _ => fail
theorem zxh (x0 x1 : V) : zbr Tryz.prog (ovr [] noC) zf8 zop [x0, x1] = zoo x0 x1 := by kernel_rfl
theorem zxi : zk Tryz.prog zf8 (zfd) := zh (σ := ovr [] noC) (hint := zop) (by kernel_rfl) zf fun l H r H' h => by
 unfold zfd at h; split at h
 · rw [zxh]; exact h
 · exact (ze h).elim
def zxj (vs_2 : List V) : M Out :=
 zb (
 zb (za (zo6 (zc vs_2 0) (some (Value.int .i64 1)) none)) fun x15 =>
 ret (.nxt [x15, (zc vs_2 1)])
 ) fun o => ret (zp 1 o)
def zxk (vs : List V) : M Out :=
 zb (
 zb (za (zde (zc vs 0))) fun x6 =>
 zb (za (zj .gtr x6 (Value.int .i64 0))) fun x7 =>
 zb (gd x7 true (za (some (zc vs 0)))) fun x9 =>
 zb (gd x7 true (za (zh9 x9 (Value.int .i64 0)))) fun x10 =>
 zb (gd x7 true (za (some (zc vs 1)))) fun x11 =>
 zb (gd x7 true (za (zj .eql x10 x11))) fun x12 =>
 zb (za (zm x7 x12 (Value.bool false))) fun x13 =>
 zi x13 (
 ret (.nxt [(zc vs 0), (zc vs 1)])
 ) (
 ret (.brk 0 [(zc vs 0)])
 )
 ) fun o => nx o zxj
def zxl (vs_3 : List V) : M Out :=
 ret (.ret [(zc vs_3 0)])
def zpj (x0 x1 : V) : M V :=
 zb (
 zb (
 zb (
 zcg zcb zxk [x0, x1]
 ) fun o => ret (zp 0 o)
 ) fun o => nx o zxl
 ) fun o => zbn o fun vs => ret (zbe [(zc vs 0)])
def zpk : Hint := (.seq [] .leaf (.seq [0] (.blk (.loop [0, 1] (.seq [0, 1] (.seq [] .leaf (.cond .leaf .leaf)) (.blk .leaf)))) (.seq [] .leaf .leaf)))
def zfw (l : List V) : M V := match l with | [x0, x1] => zpj x0 x1 | _ => fail
theorem zys (x0 x1 : V) : zbr Tryz.prog (ovr [] noC) zgm zpk [x0, x1] = zpj x0 x1 := by kernel_rfl
theorem zyt : zk Tryz.prog zgm (zfw) := zh (σ := ovr [] noC) (hint := zpk) (by kernel_rfl) zf fun l H r H' h => by
 unfold zfw at h; split at h
 · rw [zys]; exact h
 · exact (ze h).elim
def zoq (vs_3 : List V) : M Out :=
 zb (za (zo5 256 1 (zc vs_3 1) (zc vs_3 3))) fun x19 =>
 zb (st1 x19 (Value.bool true)) fun _ =>
 ret (.nxt [(zc vs_3 0), (zc vs_3 1), (zc vs_3 2)])
def zor (vs_4 : List V) : M Out :=
 zb (za (zj .add (zc vs_4 2) (Value.int .i64 1))) fun x11 =>
 ret (.nxt [(zc vs_4 0), (zc vs_4 1), x11])
def zos (vs_2 : List V) : M Out :=
 zb (
 zb (
 zb (za (zh9 (zc vs_2 0) (zc vs_2 2))) fun x14 =>
 zb (
 zb (za (zj .geq x14 (Value.int .u8 128))) fun x16 =>
 zi x16 (
 zb (ldn 256 (zc vs_2 1)) fun x17 =>
 zb (stn 256 (zc vs_2 1) x17) fun _ =>
 ret (.ret [(zc vs_2 1), (Value.bool false)])
 ) (
 ret (.nxt [(zc vs_2 0), (zc vs_2 1), (zc vs_2 2), x14])
 )
 ) fun o => nx o zoq
 ) fun o => ret (zp 1 o)
 ) fun o => nx o zor
def zi8 (vs : List V) : M Out :=
 zb (
 zb (za (zde (zc vs 0))) fun x8 =>
 zb (za (zj .lss (zc vs 2) x8)) fun x9 =>
 zi x9 (
 ret (.nxt [(zc vs 0), (zc vs 1), (zc vs 2)])
 ) (
 ret (.brk 0 [(zc vs 1)])
 )
 ) fun o => nx o zos
def zot (vs_5 : List V) : M Out :=
 zb (ldn 256 (zc vs_5 0)) fun x20 =>
 zb (stn 256 (zc vs_5 0) x20) fun _ =>
 ret (.ret [(zc vs_5 0), (Value.bool true)])
def zhh (x0 : V) : M V :=
 zb (
 zb (newc (List.replicate 256 (Value.bool false))) fun x2 =>
 zb (
 zb (
 zcg zcb zi8 [x0, x2, (Value.int .i64 0)]
 ) fun o => ret (zp 0 o)
 ) fun o => nx o zot
 ) fun o => zbn o fun vs => zb (ldn 256 (zc vs 0)) fun r0 => ret (zbe [r0, (zc vs 1)])
def zpl : Hint := (.seq [] .leaf (.seq [2] (.seq [] .leaf (.blk (.loop [0, 2, 4] (.seq [0, 2, 4] (.seq [] .leaf (.cond .leaf .leaf)) (.seq [0, 2, 4] (.blk (.seq [] .leaf (.seq [0, 2, 4, 5] (.seq [] .leaf (.cond (.seq [] .leaf .leaf) .leaf)) .leaf))) .leaf))))) (.seq [] .leaf .leaf)))
def zen (l : List V) : M V := match l with | [x0] => zhh x0 | _ => fail
theorem zyu (x0 : V) : zbr Tryz.prog (ovr [] noC) zgn zpl [x0] = zhh x0 := by kernel_rfl
theorem zyv : zk Tryz.prog zgn (zen) := zh (σ := ovr [] noC) (hint := zpl) (by kernel_rfl) zf fun l H r H' h => by
 unfold zen at h; split at h
 · rw [zyu]; exact h
 · exact (ze h).elim
def zfi (x0 x1 : V) : M V :=
 zb (
 zb (za (zeb x0)) fun x7 =>
 zb (za (zo5 256 1 x7 x1)) fun x8 =>
 zb (z8 x8) fun x9 =>
 ret (.ret [x9])
 ) fun o => zbn o fun vs => ret (zbe [(zc vs 0)])
def zk0 : Hint := (.seq [] .leaf (.seq [] .leaf .leaf))
def zci (l : List V) : M V := match l with | [x0, x1] => zfi x0 x1 | _ => fail
theorem ztf (x0 x1 : V) : zbr Tryz.prog (ovr [] noC) zet zk0 [x0, x1] = zfi x0 x1 := by kernel_rfl
theorem zk1 : zk Tryz.prog zet (zci) := zh (σ := ovr [] noC) (hint := zk0) (by kernel_rfl) zf fun l H r H' h => by
 unfold zci at h; split at h
 · rw [ztf]; exact h
 · exact (ze h).elim
def zna (vs_3 : List V) : M Out :=
 zb (za (zde (zc vs_3 0))) fun x18 =>
 zb (za (zj .sub x18 (Value.int .i64 1))) fun x19 =>
 zb (za (zo6 (zc vs_3 0) none (some x19))) fun x20 =>
 ret (.nxt [x20, (zc vs_3 1)])
def znb (vs_2 : List V) : M Out :=
 zb (
 zb (
 zb (za (zde (zc vs_2 0))) fun x11 =>
 zb (za (zj .sub x11 (Value.int .i64 1))) fun x12 =>
 zb (za (zh9 (zc vs_2 0) x12)) fun x13 =>
 zb (zci [(zc vs_2 1), x13]) fun x14 =>
 zb (za (un .not x14)) fun x15 =>
 zi x15 (
 ret (.brk 0 [(zc vs_2 0)])
 ) (
 ret (.nxt [(zc vs_2 0), (zc vs_2 1)])
 )
 ) fun o => nx o zna
 ) fun o => ret (zp 1 o)
def zig (vs : List V) : M Out :=
 zb (
 zb (za (zde (zc vs 0))) fun x6 =>
 zb (za (zj .gtr x6 (Value.int .i64 0))) fun x7 =>
 zi x7 (
 ret (.nxt [(zc vs 0), (zc vs 1)])
 ) (
 ret (.brk 0 [(zc vs 0)])
 )
 ) fun o => nx o znb
def zih (vs_4 : List V) : M Out :=
 ret (.ret [(zc vs_4 0)])
def zgo (x0 x1 : V) : M V :=
 zb (
 zb (
 zb (
 zcg zcb zig [x0, x1]
 ) fun o => ret (zp 0 o)
 ) fun o => nx o zih
 ) fun o => zbn o fun vs => ret (zbe [(zc vs 0)])
def znj : Hint := (.seq [] .leaf (.seq [0] (.blk (.loop [0, 1] (.seq [0, 1] (.seq [] .leaf (.cond .leaf .leaf)) (.blk (.seq [0, 1] (.seq [] .leaf (.cond .leaf .leaf)) .leaf))))) (.seq [] .leaf .leaf)))
def zd4 (l : List V) : M V := match l with | [x0, x1] => zgo x0 x1 | _ => fail
def znk : zl := ovr [(zet, zci)] noC
theorem zwk (x0 x1 : V) : zbr Tryz.prog (znk) zfm znj [x0, x1] = zgo x0 x1 := by kernel_rfl
theorem zwl : zk Tryz.prog zfm (zd4) := zh (σ := znk) (hint := znj) (by kernel_rfl) (zd zk1 zf) fun l H r H' h => by
 unfold zd4 at h; split at h
 · rw [zwk]; exact h
 · exact (ze h).elim
def znl (vs_3 : List V) : M Out :=
 zb (za (zo6 (zc vs_3 0) (some (Value.int .i64 1)) none)) fun x14 =>
 ret (.nxt [x14, (zc vs_3 1)])
def znm (vs_2 : List V) : M Out :=
 zb (
 zb (
 zb (za (zh9 (zc vs_2 0) (Value.int .i64 0))) fun x10 =>
 zb (zci [(zc vs_2 1), x10]) fun x11 =>
 zb (za (un .not x11)) fun x12 =>
 zi x12 (
 ret (.brk 0 [(zc vs_2 0)])
 ) (
 ret (.nxt [(zc vs_2 0), (zc vs_2 1)])
 )
 ) fun o => nx o znl
 ) fun o => ret (zp 1 o)
def ziy (vs : List V) : M Out :=
 zb (
 zb (za (zde (zc vs 0))) fun x6 =>
 zb (za (zj .gtr x6 (Value.int .i64 0))) fun x7 =>
 zi x7 (
 ret (.nxt [(zc vs 0), (zc vs 1)])
 ) (
 ret (.brk 0 [(zc vs 0)])
 )
 ) fun o => nx o znm
def ziz (vs_4 : List V) : M Out :=
 ret (.ret [(zc vs_4 0)])
def zg1 (x0 x1 : V) : M V :=
 zb (
 zb (
 zb (
 zcg zcb ziy [x0, x1]
 ) fun o => ret (zp 0 o)
 ) fun o => nx o ziz
 ) fun o => zbn o fun vs => ret (zbe [(zc vs 0)])
def zou : Hint := (.seq [] .leaf (.seq [0] (.blk (.loop [0, 1] (.seq [0, 1] (.seq [] .leaf (.cond .leaf .leaf)) (.blk (.seq [0, 1] (.seq [] .leaf (.cond .leaf .leaf)) .leaf))))) (.seq [] .leaf .leaf)))
def zee (l : List V) : M V := match l with | [x0, x1] => zg1 x0 x1 | _ => fail
def zov : zl := ovr [(zet, zci)] noC
theorem zxm (x0 x1 : V) : zbr Tryz.prog (zov) zf9 zou [x0, x1] = zg1 x0 x1 := by kernel_rfl
theorem zxn : zk Tryz.prog zf9 (zee) := zh (σ := zov) (hint := zou) (by kernel_rfl) (zd zk1 zf) fun l H r H' h => by
 unfold zee at h; split at h
 · rw [zxm]; exact h
 · exact (ze h).elim
def znn (x0 : V) : M V :=
 zb (
 zb (za (zj .and x0 (Value.int .u8 192))) fun x4 =>
 zb (za (zj .neq x4 (Value.int .u8 128))) fun x5 =>
 ret (.ret [x5])
 ) fun o => zbn o fun vs => ret (zbe [(zc vs 0)])
def zno : Hint := (.seq [] .leaf (.seq [] .leaf .leaf))
def zgp (l : List V) : M V := match l with | [x0] => znn x0 | _ => fail
theorem zwm (x0 : V) : zbr Tryz.prog (ovr [] noC) zh1 zno [x0] = znn x0 := by kernel_rfl
theorem zwn : zk Tryz.prog zh1 (zgp) := zh (σ := ovr [] noC) (hint := zno) (by kernel_rfl) zf fun l H r H' h => by
 unfold zgp at h; split at h
 · rw [zwm]; exact h
 · exact (ze h).elim
def zlj (vs_8 : List V) : M Out :=
 zb (za (zj .and (zc vs_8 0) (Value.int .u8 7))) fun x100 =>
 zb (za (cvi .i32 x100)) fun x101 =>
 zb (za (zj .shl x101 (Value.int .u64 18))) fun x102 =>
 zb (za (zj .and (zc vs_8 1) (Value.int .u8 63))) fun x104 =>
 zb (za (cvi .i32 x104)) fun x105 =>
 zb (za (zj .shl x105 (Value.int .u64 12))) fun x106 =>
 zb (za (zj .or x102 x106)) fun x107 =>
 zb (za (zj .and (zc vs_8 2) (Value.int .u8 63))) fun x109 =>
 zb (za (cvi .i32 x109)) fun x110 =>
 zb (za (zj .shl x110 (Value.int .u64 6))) fun x111 =>
 zb (za (zj .or x107 x111)) fun x112 =>
 zb (za (zj .and (zc vs_8 3) (Value.int .u8 63))) fun x114 =>
 zb (za (cvi .i32 x114)) fun x115 =>
 zb (za (zj .or x112 x115)) fun x116 =>
 ret (.ret [x116, (Value.int .i64 4)])
def zlk (vs_7 : List V) : M Out :=
 zb (za (zh9 (zc vs_7 0) (Value.int .i64 3))) fun x92 =>
 zb (
 zb (za (zj .lss x92 (Value.int .u8 128))) fun x94 =>
 zb (gd x94 false (za (some x92))) fun x96 =>
 zb (gd x94 false (za (zj .lss (Value.int .u8 191) x96))) fun x97 =>
 zb (za (zm x94 (Value.bool true) x97)) fun x98 =>
 zi x98 (
 ret (.ret [(Value.int .i32 65533), (Value.int .i64 1)])
 ) (
 ret (.nxt [(zc vs_7 1), (zc vs_7 2), (zc vs_7 3), x92])
 )
 ) fun o => nx o zlj
def zll (vs_6 : List V) : M Out :=
 zb (
 zb (za (zj .leq (zc vs_6 2) (Value.int .i64 3))) fun x77 =>
 zi x77 (
 zb (za (zj .and (zc vs_6 1) (Value.int .u8 15))) fun x79 =>
 zb (za (cvi .i32 x79)) fun x80 =>
 zb (za (zj .shl x80 (Value.int .u64 12))) fun x81 =>
 zb (za (zj .and (zc vs_6 3) (Value.int .u8 63))) fun x83 =>
 zb (za (cvi .i32 x83)) fun x84 =>
 zb (za (zj .shl x84 (Value.int .u64 6))) fun x85 =>
 zb (za (zj .or x81 x85)) fun x86 =>
 zb (za (zj .and (zc vs_6 4) (Value.int .u8 63))) fun x88 =>
 zb (za (cvi .i32 x88)) fun x89 =>
 zb (za (zj .or x86 x89)) fun x90 =>
 ret (.ret [x90, (Value.int .i64 3)])
 ) (
 ret (.nxt [(zc vs_6 0), (zc vs_6 1), (zc vs_6 3), (zc vs_6 4)])
 )
 ) fun o => nx o zlk
def zlm (vs_5 : List V) : M Out :=
 zb (za (zh9 (zc vs_5 0) (Value.int .i64 2))) fun x69 =>
 zb (
 zb (za (zj .lss x69 (Value.int .u8 128))) fun x71 =>
 zb (gd x71 false (za (some x69))) fun x73 =>
 zb (gd x71 false (za (zj .lss (Value.int .u8 191) x73))) fun x74 =>
 zb (za (zm x71 (Value.bool true) x74)) fun x75 =>
 zi x75 (
 ret (.ret [(Value.int .i32 65533), (Value.int .i64 1)])
 ) (
 ret (.nxt [(zc vs_5 0), (zc vs_5 1), (zc vs_5 2), (zc vs_5 3), x69])
 )
 ) fun o => nx o zll
def zln (vs_4 : List V) : M Out :=
 zb (
 zb (za (zj .leq (zc vs_4 2) (Value.int .i64 2))) fun x59 =>
 zi x59 (
 zb (za (zj .and (zc vs_4 1) (Value.int .u8 31))) fun x61 =>
 zb (za (cvi .i32 x61)) fun x62 =>
 zb (za (zj .shl x62 (Value.int .u64 6))) fun x63 =>
 zb (za (zj .and (zc vs_4 3) (Value.int .u8 63))) fun x65 =>
 zb (za (cvi .i32 x65)) fun x66 =>
 zb (za (zj .or x63 x66)) fun x67 =>
 ret (.ret [x67, (Value.int .i64 2)])
 ) (
 ret (.nxt [(zc vs_4 0), (zc vs_4 1), (zc vs_4 2), (zc vs_4 3)])
 )
 ) fun o => nx o zlm
def zlo (vs_3 : List V) : M Out :=
 zb (za (zh9 (zc vs_3 0) (Value.int .i64 1))) fun x47 =>
 zb (
 zb (za (zg 0 (zc vs_3 3))) fun x49 =>
 zb (z8 x49) fun x50 =>
 zb (za (zj .lss x47 x50)) fun x51 =>
 zb (gd x51 false (za (zg 1 (zc vs_3 3)))) fun x53 =>
 zb (gd x51 false (z8 x53)) fun x54 =>
 zb (gd x51 false (za (some x47))) fun x55 =>
 zb (gd x51 false (za (zj .lss x54 x55))) fun x56 =>
 zb (za (zm x51 (Value.bool true) x56)) fun x57 =>
 zi x57 (
 ret (.ret [(Value.int .i32 65533), (Value.int .i64 1)])
 ) (
 ret (.nxt [(zc vs_3 0), (zc vs_3 1), (zc vs_3 2), x47])
 )
 ) fun o => nx o zln
def zlp (vs_2 : List V) : M Out :=
 zb (za (zj .and (zc vs_2 3) (Value.int .u8 7))) fun x37 =>
 zb (za (cvi .i64 x37)) fun x38 =>
 zb (za (zj .shr (zc vs_2 3) (Value.int .u64 4))) fun x40 =>
 zb (za (zo5 16 2 (ptr zr3 0) x40)) fun x41 =>
 zb (ldn 2 x41) fun x42 =>
 zb (newc [Value.int .u8 0, Value.int .u8 0]) fun x9 =>
 zb (stn 2 x9 x42) fun _ =>
 zb (
 zb (za (zj .lss (zc vs_2 1) x38)) fun x45 =>
 zi x45 (
 ret (.ret [(Value.int .i32 65533), (Value.int .i64 1)])
 ) (
 ret (.nxt [(zc vs_2 0), (zc vs_2 2), x38, x9])
 )
 ) fun o => nx o zlo
def zlq (vs : List V) : M Out :=
 zb (za (zh9 (zc vs 0) (Value.int .i64 0))) fun x18 =>
 zb (za (zo5 256 1 (ptr zym 0) x18)) fun x20 =>
 zb (z8 x20) fun x21 =>
 zb (
 zb (za (zj .geq x21 (Value.int .u8 240))) fun x23 =>
 zi x23 (
 zb (za (cvi .i32 x21)) fun x25 =>
 zb (za (zj .shl x25 (Value.int .u64 31))) fun x26 =>
 zb (za (zj .shr x26 (Value.int .u64 31))) fun x27 =>
 zb (za (zh9 (zc vs 0) (Value.int .i64 0))) fun x29 =>
 zb (za (cvi .i32 x29)) fun x30 =>
 zb (za (zj .andNot x30 x27)) fun x32 =>
 zb (za (zj .and (Value.int .i32 65533) x27)) fun x34 =>
 zb (za (zj .or x32 x34)) fun x35 =>
 ret (.ret [x35, (Value.int .i64 1)])
 ) (
 ret (.nxt [(zc vs 0), (zc vs 1), x18, x21])
 )
 ) fun o => nx o zlp
def zg2 (x0 : V) : M V :=
 zb (
 zb (za (zde x0)) fun x14 =>
 zb (
 zb (za (zj .lss x14 (Value.int .i64 1))) fun x16 =>
 zi x16 (
 ret (.ret [(Value.int .i32 65533), (Value.int .i64 0)])
 ) (
 ret (.nxt [x0, x14])
 )
 ) fun o => nx o zlq
 ) fun o => zbn o fun vs => ret (zbe [(zc vs 0), (zc vs 1)])
def zg3 : Hint := (.seq [] .leaf (.seq [] .leaf (.seq [0, 4] (.seq [] .leaf (.cond (.seq [] .leaf .leaf) .leaf)) (.seq [] .leaf (.seq [] .leaf (.seq [0, 4, 5, 6] (.seq [] .leaf (.cond (.seq [] .leaf (.seq [] .leaf .leaf)) .leaf)) (.seq [] .leaf (.seq [] .leaf (.seq [0, 5, 8, 9] (.seq [] .leaf (.cond (.seq [] .leaf .leaf) .leaf)) (.seq [] .leaf (.seq [0, 5, 8, 10] (.seq [] .leaf (.cond (.seq [] .leaf .leaf) .leaf)) (.seq [0, 5, 8, 10] (.seq [] .leaf (.cond (.seq [] .leaf .leaf) .leaf)) (.seq [] .leaf (.seq [0, 5, 8, 10, 11] (.seq [] .leaf (.cond (.seq [] .leaf .leaf) .leaf)) (.seq [0, 5, 10, 11] (.seq [] .leaf (.cond (.seq [] .leaf .leaf) .leaf)) (.seq [] .leaf (.seq [5, 10, 11, 12] (.seq [] .leaf (.cond (.seq [] .leaf .leaf) .leaf)) (.seq [] .leaf .leaf))))))))))))))))))
def zc8 (l : List V) : M V := match l with | [x0] => zg2 x0 | _ => fail
theorem zml (x0 : V) : zbr Tryz.prog (ovr [] noC) zea zg3 [x0] = zg2 x0 := by kernel_rfl
theorem zmm : zk Tryz.prog zea (zc8) := zh (σ := ovr [] noC) (hint := zg3) (by kernel_rfl) zf fun l H r H' h => by
 unfold zc8 at h; split at h
 · rw [zml]; exact h
 · exact (ze h).elim
def zog (vs : List V) : M Out :=
 ret (.ret [(zc vs 0), (zc vs 1)])
def zib (x0 : V) : M V :=
 zb (
 zb (
 zb (za (zj .neq x0 (Value.string ⟨#[]⟩))) fun x5 =>
 zb (gd x5 true (za (some x0))) fun x7 =>
 zb (gd x5 true (za (zh9 x7 (Value.int .i64 0)))) fun x8 =>
 zb (gd x5 true (za (zj .lss x8 (Value.int .u8 128)))) fun x9 =>
 zb (za (zm x5 x9 (Value.bool false))) fun x10 =>
 zi x10 (
 zb (za (zh9 x0 (Value.int .i64 0))) fun x12 =>
 zb (za (cvi .i32 x12)) fun x13 =>
 ret (.ret [x13, (Value.int .i64 1)])
 ) (
 zb (zc8 [x0]) fun x16 =>
 zb (za (ext 0 x16)) fun x17 =>
 zb (za (ext 1 x16)) fun x18 =>
 ret (.nxt [x17, x18])
 )
 ) fun o => nx o zog
 ) fun o => zbn o fun vs => ret (zbe [(zc vs 0), (zc vs 1)])
def zic : Hint := (.seq [] .leaf (.seq [2, 3] (.seq [] .leaf (.cond (.seq [] .leaf .leaf) .leaf)) .leaf))
def zbj (l : List V) : M V := match l with | [x0] => zib x0 | _ => fail
def zid : zl := ovr [(zea, zc8)] noC
theorem zo3 (x0 : V) : zbr Tryz.prog (zid) zcj zic [x0] = zib x0 := by kernel_rfl
theorem zie : zk Tryz.prog zcj (zbj) := zh (σ := zid) (hint := zic) (by kernel_rfl) (zd zmm zf) fun l H r H' h => by
 unfold zbj at h; split at h
 · rw [zo3]; exact h
 · exact (ze h).elim
def zlr (vs_5 : List V) : M Out :=
 zb (za (zj .sub (zc vs_5 2) (Value.int .i64 1))) fun x29 =>
 ret (.nxt [(zc vs_5 0), (zc vs_5 1), x29, (zc vs_5 3)])
def zls (vs_4 : List V) : M Out :=
 zb (
 zb (
 zb (za (zh9 (zc vs_4 0) (zc vs_4 2))) fun x32 =>
 zb (zgp [x32]) fun x33 =>
 zi x33 (
 ret (.brk 0 [(zc vs_4 0), (zc vs_4 1), (zc vs_4 2)])
 ) (
 ret (.nxt [(zc vs_4 0), (zc vs_4 1), (zc vs_4 2), (zc vs_4 3)])
 )
 ) fun o => ret (zp 1 o)
 ) fun o => nx o zlr
def zlt (vs_3 : List V) : M Out :=
 zb (
 zb (za (zj .geq (zc vs_3 2) (zc vs_3 3))) fun x27 =>
 zi x27 (
 ret (.nxt [(zc vs_3 0), (zc vs_3 1), (zc vs_3 2), (zc vs_3 3)])
 ) (
 ret (.brk 0 [(zc vs_3 0), (zc vs_3 1), (zc vs_3 2)])
 )
 ) fun o => nx o zls
def zlu (vs_8 : List V) : M Out :=
 ret (.ret [(zc vs_8 0), (zc vs_8 1)])
def zlv (vs_7 : List V) : M Out :=
 zb (za (zo6 (zc vs_7 0) (some (zc vs_7 2)) (some (zc vs_7 1)))) fun x40 =>
 zb (zbj [x40]) fun x41 =>
 zb (za (ext 0 x41)) fun x42 =>
 zb (za (ext 1 x41)) fun x43 =>
 zb (
 zb (za (zj .add (zc vs_7 2) x43)) fun x46 =>
 zb (za (zj .neq x46 (zc vs_7 1))) fun x48 =>
 zi x48 (
 ret (.ret [(Value.int .i32 65533), (Value.int .i64 1)])
 ) (
 ret (.nxt [x42, x43])
 )
 ) fun o => nx o zlu
def zlw (vs_6 : List V) : M Out :=
 zb (
 zb (za (zj .lss (zc vs_6 2) (Value.int .i64 0))) fun x35 =>
 zi x35 (
 ret (.nxt [(zc vs_6 0), (zc vs_6 1), (Value.int .i64 0)])
 ) (
 ret (.nxt [(zc vs_6 0), (zc vs_6 1), (zc vs_6 2)])
 )
 ) fun o => nx o zlv
def zlx (vs_2 : List V) : M Out :=
 zb (za (zj .sub (zc vs_2 1) (Value.int .i64 4))) fun x21 =>
 zb (za (maxV x21 (Value.int .i64 0))) fun x22 =>
 zb (
 zb (za (zj .sub (zc vs_2 2) (Value.int .i64 1))) fun x24 =>
 zb (
 zcg zcb zlt [(zc vs_2 0), (zc vs_2 1), x24, x22]
 ) fun o => ret (zp 0 o)
 ) fun o => nx o zlw
def zly (vs : List V) : M Out :=
 zb (za (zj .sub (zc vs 1) (Value.int .i64 1))) fun x12 =>
 zb (za (zh9 (zc vs 0) x12)) fun x15 =>
 zb (za (cvi .i32 x15)) fun x16 =>
 zb (
 zb (za (zj .lss x16 (Value.int .i32 128))) fun x18 =>
 zi x18 (
 ret (.ret [x16, (Value.int .i64 1)])
 ) (
 ret (.nxt [(zc vs 0), (zc vs 1), x12])
 )
 ) fun o => nx o zlx
def zg4 (x0 : V) : M V :=
 zb (
 zb (za (zde x0)) fun x8 =>
 zb (
 zb (za (zj .eql x8 (Value.int .i64 0))) fun x10 =>
 zi x10 (
 ret (.ret [(Value.int .i32 65533), (Value.int .i64 0)])
 ) (
 ret (.nxt [x0, x8])
 )
 ) fun o => nx o zly
 ) fun o => zbn o fun vs => ret (zbe [(zc vs 0), (zc vs 1)])
def zg5 : Hint := (.seq [] .leaf (.seq [] .leaf (.seq [0, 4] (.seq [] .leaf (.cond (.seq [] .leaf .leaf) .leaf)) (.seq [] .leaf (.seq [] .leaf (.seq [0, 4, 5] (.seq [] .leaf (.cond (.seq [] .leaf .leaf) .leaf)) (.seq [] .leaf (.seq [0, 4, 5] (.seq [] .leaf (.blk (.loop [0, 4, 5, 6] (.seq [0, 4, 5, 6] (.seq [] .leaf (.cond .leaf .leaf)) (.seq [0, 4, 5, 6] (.blk (.seq [] .leaf (.cond .leaf .leaf))) .leaf))))) (.seq [0, 4, 5] (.seq [] .leaf (.cond .leaf .leaf)) (.seq [] .leaf (.seq [2, 3] (.seq [] .leaf (.cond (.seq [] .leaf .leaf) .leaf)) (.seq [] .leaf .leaf))))))))))))
def zcd (l : List V) : M V := match l with | [x0] => zg4 x0 | _ => fail
def zg6 : zl := ovr [(zh1, zgp), (zcj, zbj)] noC
theorem zmn (x0 : V) : zbr Tryz.prog (zg6) zc3 zg5 [x0] = zg4 x0 := by kernel_rfl
theorem zmo : zk Tryz.prog zc3 (zcd) := zh (σ := zg6) (hint := zg5) (by kernel_rfl) (zd zwn (zd zie zf)) fun l H r H' h => by
 unfold zcd at h; split at h
 · rw [zmn]; exact h
 · exact (ze h).elim
def zpm (G_strings_IndexRune : List V → M V) (x0 x1 : V) : M V :=
 zb (
 zb (G_strings_IndexRune [x0, x1]) fun x7 =>
 zb (za (zj .geq x7 (Value.int .i64 0))) fun x8 =>
 ret (.ret [x8])
 ) fun o => zbn o fun vs => ret (zbe [(zc vs 0)])
def zpn : Hint := (.seq [] .leaf (.seq [] .leaf .leaf))
def zc6 (G_strings_IndexRune : List V → M V) (l : List V) : M V := match l with | [x0, x1] => zpm G_strings_IndexRune x0 x1 | _ => fail
theorem zyw (G_strings_IndexRune : List V → M V) (x0 x1 : V) : zbr Tryz.prog (ovr [(zy, G_strings_IndexRune)] noC) zd3 zpn [x0, x1] = zpm G_strings_IndexRune x0 x1 := by kernel_rfl
theorem zpo {G_strings_IndexRune : List V → M V} (k_strings_IndexRune : zk Tryz.prog zy G_strings_IndexRune) : zk Tryz.prog zd3 (zc6 G_strings_IndexRune) := zh (σ := ovr [(zy, G_strings_IndexRune)] noC) (hint := zpn) (by kernel_rfl) (zd k_strings_IndexRune zf) fun l H r H' h => by
 unfold zc6 at h; split at h
 · rw [zyw]; exact h
 · exact (ze h).elim
def ztg (G_strings_IndexRune : List V → M V) (vs_4 : List V) : M Out :=
 zb (za (zde (zc vs_4 0))) fun x29 =>
 zb (za (zj .sub x29 (zc vs_4 2))) fun x31 =>
 zb (za (zo6 (zc vs_4 0) none (some x31))) fun x32 =>
 ret (.nxt [x32, (zc vs_4 1)])
def zth (G_strings_IndexRune : List V → M V) (vs_3 : List V) : M Out :=
 zb (
 zb ((zc6 G_strings_IndexRune) [(zc vs_3 1), (zc vs_3 2)]) fun x25 =>
 zb (za (un .not x25)) fun x26 =>
 zi x26 (
 ret (.brk 0 [(zc vs_3 0)])
 ) (
 ret (.nxt [(zc vs_3 0), (zc vs_3 1), (zc vs_3 3)])
 )
 ) fun o => nx o (ztg G_strings_IndexRune)
def zti (G_strings_IndexRune : List V → M V) (vs_2 : List V) : M Out :=
 zb (
 zb (za (zde (zc vs_2 0))) fun x12 =>
 zb (za (zj .sub x12 (Value.int .i64 1))) fun x13 =>
 zb (za (zh9 (zc vs_2 0) x13)) fun x14 =>
 zb (za (cvi .i32 x14)) fun x15 =>
 zb (
 zb (za (zj .geq x15 (Value.int .i32 128))) fun x17 =>
 zi x17 (
 zb (zcd [(zc vs_2 0)]) fun x20 =>
 zb (za (ext 0 x20)) fun x21 =>
 zb (za (ext 1 x20)) fun x22 =>
 ret (.nxt [(zc vs_2 0), (zc vs_2 1), x21, x22])
 ) (
 ret (.nxt [(zc vs_2 0), (zc vs_2 1), x15, (Value.int .i64 1)])
 )
 ) fun o => nx o (zth G_strings_IndexRune)
 ) fun o => ret (zp 1 o)
def ztj (G_strings_IndexRune : List V → M V) (vs : List V) : M Out :=
 zb (
 zb (za (zde (zc vs 0))) fun x8 =>
 zb (za (zj .gtr x8 (Value.int .i64 0))) fun x9 =>
 zi x9 (
 ret (.nxt [(zc vs 0), (zc vs 1)])
 ) (
 ret (.brk 0 [(zc vs 0)])
 )
 ) fun o => nx o (zti G_strings_IndexRune)
def ztk (G_strings_IndexRune : List V → M V) (vs_5 : List V) : M Out :=
 ret (.ret [(zc vs_5 0)])
def zlz (G_strings_IndexRune : List V → M V) (x0 x1 : V) : M V :=
 zb (
 zb (
 zb (
 zcg zcb (ztj G_strings_IndexRune) [x0, x1]
 ) fun o => ret (zp 0 o)
 ) fun o => nx o (ztk G_strings_IndexRune)
 ) fun o => zbn o fun vs => ret (zbe [(zc vs 0)])
def zl0 : Hint := (.seq [] .leaf (.seq [0] (.blk (.loop [0, 1] (.seq [0, 1] (.seq [] .leaf (.cond .leaf .leaf)) (.blk (.seq [] .leaf (.seq [0, 1, 5, 6] (.seq [] .leaf (.cond .leaf .leaf)) (.seq [0, 1, 6] (.seq [] .leaf (.cond .leaf .leaf)) .leaf))))))) (.seq [] .leaf .leaf)))
def zei (G_strings_IndexRune : List V → M V) (l : List V) : M V := match l with | [x0, x1] => zlz G_strings_IndexRune x0 x1 | _ => fail
theorem zut (G_strings_IndexRune : List V → M V) (x0 x1 : V) : zbr Tryz.prog (ovr [(zc3, zcd), (zd3, zc6 G_strings_IndexRune)] noC) zey zl0 [x0, x1] = zlz G_strings_IndexRune x0 x1 := by kernel_rfl
theorem zuu {G_strings_IndexRune : List V → M V} (k_strings_IndexRune : zk Tryz.prog zy G_strings_IndexRune) : zk Tryz.prog zey (zei G_strings_IndexRune) := zh (σ := ovr [(zc3, zcd), (zd3, zc6 G_strings_IndexRune)] noC) (hint := zl0) (by kernel_rfl) (zd zmo (zd (zpo k_strings_IndexRune) zf)) fun l H r H' h => by
 unfold zei at h; split at h
 · rw [zut]; exact h
 · exact (ze h).elim
def zuv (G_strings_IndexRune : List V → M V) (vs_3 : List V) : M Out :=
 zb (za (zo6 (zc vs_3 0) (some (zc vs_3 2)) none)) fun x21 =>
 ret (.nxt [x21, (zc vs_3 1)])
def zuw (G_strings_IndexRune : List V → M V) (vs_2 : List V) : M Out :=
 zb (
 zb (zbj [(zc vs_2 0)]) fun x12 =>
 zb (za (ext 0 x12)) fun x13 =>
 zb (za (ext 1 x12)) fun x14 =>
 zb (
 zb ((zc6 G_strings_IndexRune) [(zc vs_2 1), x13]) fun x17 =>
 zb (za (un .not x17)) fun x18 =>
 zi x18 (
 ret (.brk 0 [(zc vs_2 0)])
 ) (
 ret (.nxt [(zc vs_2 0), (zc vs_2 1), x14])
 )
 ) fun o => nx o (zuv G_strings_IndexRune)
 ) fun o => ret (zp 1 o)
def zux (G_strings_IndexRune : List V → M V) (vs : List V) : M Out :=
 zb (
 zb (za (zde (zc vs 0))) fun x8 =>
 zb (za (zj .gtr x8 (Value.int .i64 0))) fun x9 =>
 zi x9 (
 ret (.nxt [(zc vs 0), (zc vs 1)])
 ) (
 ret (.brk 0 [(zc vs 0)])
 )
 ) fun o => nx o (zuw G_strings_IndexRune)
def zuy (G_strings_IndexRune : List V → M V) (vs_4 : List V) : M Out :=
 ret (.ret [(zc vs_4 0)])
def znc (G_strings_IndexRune : List V → M V) (x0 x1 : V) : M V :=
 zb (
 zb (
 zb (
 zcg zcb (zux G_strings_IndexRune) [x0, x1]
 ) fun o => ret (zp 0 o)
 ) fun o => nx o (zuy G_strings_IndexRune)
 ) fun o => zbn o fun vs => ret (zbe [(zc vs 0)])
def znd : Hint := (.seq [] .leaf (.seq [0] (.blk (.loop [0, 1] (.seq [0, 1] (.seq [] .leaf (.cond .leaf .leaf)) (.blk (.seq [] .leaf (.seq [0, 1, 6] (.seq [] .leaf (.cond .leaf .leaf)) .leaf)))))) (.seq [] .leaf .leaf)))
def zeo (G_strings_IndexRune : List V → M V) (l : List V) : M V := match l with | [x0, x1] => znc G_strings_IndexRune x0 x1 | _ => fail
theorem zvh (G_strings_IndexRune : List V → M V) (x0 x1 : V) : zbr Tryz.prog (ovr [(zcj, zbj), (zd3, zc6 G_strings_IndexRune)] noC) zfh znd [x0, x1] = znc G_strings_IndexRune x0 x1 := by kernel_rfl
theorem zvi {G_strings_IndexRune : List V → M V} (k_strings_IndexRune : zk Tryz.prog zy G_strings_IndexRune) : zk Tryz.prog zfh (zeo G_strings_IndexRune) := zh (σ := ovr [(zcj, zbj), (zd3, zc6 G_strings_IndexRune)] noC) (hint := znd) (by kernel_rfl) (zd zie (zd (zpo k_strings_IndexRune) zf)) fun l H r H' h => by
 unfold zeo at h; split at h
 · rw [zvh]; exact h
 · exact (ze h).elim
def zbaz (G_strings_IndexRune : List V → M V) (vs_3 : List V) : M Out :=
 zb ((zei G_strings_IndexRune) [(zc vs_3 0), (zc vs_3 1)]) fun x40 =>
 zb ((zeo G_strings_IndexRune) [x40, (zc vs_3 1)]) fun x42 =>
 ret (.ret [x42])
def zzi (G_strings_IndexRune : List V → M V) (vs_2 : List V) : M Out :=
 zb (
 zb (zen [(zc vs_2 1)]) fun x31 =>
 zb (za (ext 0 x31)) fun x32 =>
 zb (za (ext 1 x31)) fun x33 =>
 zb (newc (List.replicate 256 (Value.bool false))) fun x5 =>
 zb (stn 256 x5 x32) fun _ =>
 zi x33 (
 zb (zd4 [(zc vs_2 0), x5]) fun x36 =>
 zb (zee [x36, x5]) fun x37 =>
 ret (.ret [x37])
 ) (
 ret (.nxt [(zc vs_2 0), (zc vs_2 1)])
 )
 ) fun o => nx o (zbaz G_strings_IndexRune)
def zzj (G_strings_IndexRune : List V → M V) (vs : List V) : M Out :=
 zb (
 zb (za (zde (zc vs 1))) fun x15 =>
 zb (za (zj .eql x15 (Value.int .i64 1))) fun x16 =>
 zb (gd x16 true (za (some (zc vs 1)))) fun x18 =>
 zb (gd x16 true (za (zh9 x18 (Value.int .i64 0)))) fun x19 =>
 zb (gd x16 true (za (zj .lss x19 (Value.int .u8 128)))) fun x20 =>
 zb (za (zm x16 x20 (Value.bool false))) fun x21 =>
 zi x21 (
 zb (za (zh9 (zc vs 1) (Value.int .i64 0))) fun x24 =>
 zb (za (zh9 (zc vs 1) (Value.int .i64 0))) fun x27 =>
 zb (zfd [(zc vs 0), x24]) fun x25 =>
 zb (zfw [x25, x27]) fun x28 =>
 ret (.ret [x28])
 ) (
 ret (.nxt [(zc vs 0), (zc vs 1)])
 )
 ) fun o => nx o (zzi G_strings_IndexRune)
def zl1 (G_strings_IndexRune : List V → M V) (x0 x1 : V) : M V :=
 zb (
 zb (
 zb (za (zj .eql x0 (Value.string ⟨#[]⟩))) fun x8 =>
 zb (gd x8 false (za (some x1))) fun x10 =>
 zb (gd x8 false (za (zj .eql x10 (Value.string ⟨#[]⟩)))) fun x11 =>
 zb (za (zm x8 (Value.bool true) x11)) fun x12 =>
 zi x12 (
 ret (.ret [x0])
 ) (
 ret (.nxt [x0, x1])
 )
 ) fun o => nx o (zzj G_strings_IndexRune)
 ) fun o => zbn o fun vs => ret (zbe [(zc vs 0)])
def z0s : Hint := (.seq [] .leaf (.seq [0, 1] (.seq [] .leaf (.cond (.seq [] .leaf .leaf) .leaf)) (.seq [0, 1] (.seq [] .leaf (.cond (.seq [] (.reg [0, 1, 2, 4, 5, 3, 6, 7] []) .leaf) .leaf)) (.seq [0, 1] (.seq [] .leaf (.seq [] .leaf (.cond (.seq [] .leaf .leaf) .leaf))) (.seq [] .leaf .leaf)))))
def zi9 (G_strings_IndexRune : List V → M V) (l : List V) : M V := match l with | [x0, x1] => zl1 G_strings_IndexRune x0 x1 | _ => fail
theorem zbcu (G_strings_IndexRune : List V → M V) (x0 x1 : V) : zbr Tryz.prog (ovr [(zf8, zfd), (zgm, zfw), (zgn, zen), (zfm, zd4), (zf9, zee), (zey, zei G_strings_IndexRune), (zfh, zeo G_strings_IndexRune)] noC) zmi z0s [x0, x1] = zl1 G_strings_IndexRune x0 x1 := by kernel_rfl
theorem zbcv {G_strings_IndexRune : List V → M V} (k_strings_IndexRune : zk Tryz.prog zy G_strings_IndexRune) : zk Tryz.prog zmi (zi9 G_strings_IndexRune) := zh (σ := ovr [(zf8, zfd), (zgm, zfw), (zgn, zen), (zfm, zd4), (zf9, zee), (zey, zei G_strings_IndexRune), (zfh, zeo G_strings_IndexRune)] noC) (hint := z0s) (by kernel_rfl) (zd zxi (zd zyt (zd zyv (zd zwl (zd zxn (zd (zuu k_strings_IndexRune) (zd (zvi k_strings_IndexRune) zf))))))) fun l H r H' h => by
 unfold zi9 at h; split at h
 · rw [zbcu]; exact h
 · exact (ze h).elim
def zvr (G_strings_IndexRune : List V → M V) (G_strings_Contains : List V → M V) (x0 : V) : M V :=
 zb (
 zb (za (zj .neq x0 (Value.string ⟨#[]⟩))) fun x4 =>
 zb (gd x4 true (za (some x0))) fun x6 =>
 zb (gd x4 true (za (zde x6))) fun x7 =>
 zb (gd x4 true (za (zj .leq x7 (Value.int .i64 24)))) fun x8 =>
 zb (za (zm x4 x8 (Value.bool false))) fun x9 =>
 zb (gd x9 true (za (some x0))) fun x11 =>
 zb (gd x9 true ((zi9 G_strings_IndexRune) [x11, (Value.string ⟨#[65, 66, 67, 68, 69, 70, 71, 72, 73, 74, 75, 76, 77, 78, 79, 80, 81, 82, 83, 84, 85, 86, 87, 88, 89, 90, 95, 48, 49, 50, 51, 52, 53, 54, 55, 56, 57]⟩)])) fun x12 =>
 zb (gd x9 true (za (zj .eql x12 (Value.string ⟨#[]⟩)))) fun x13 =>
 zb (za (zm x9 x13 (Value.bool false))) fun x14 =>
 zb (gd x14 true (za (some x0))) fun x16 =>
 zb (gd x14 true (za (zo6 x16 none (some (Value.int .i64 1))))) fun x17 =>
 zb (gd x14 true (G_strings_Contains [(Value.string ⟨#[48, 49, 50, 51, 52, 53, 54, 55, 56, 57]⟩), x17])) fun x18 =>
 zb (gd x14 true (za (un .not x18))) fun x19 =>
 zb (za (zm x14 x19 (Value.bool false))) fun x20 =>
 ret (.ret [x20])
 ) fun o => zbn o fun vs => ret (zbe [(zc vs 0)])
def z99 : Hint := (.seq [] .leaf (.seq [] .leaf .leaf))
def zow (G_strings_IndexRune : List V → M V) (G_strings_Contains : List V → M V) (l : List V) : M V := match l with | [x0] => zvr G_strings_IndexRune G_strings_Contains x0 | _ => fail
theorem zbkz (G_strings_IndexRune : List V → M V) (G_strings_Contains : List V → M V) (x0 : V) : zbr Tryz.prog (ovr [(zmi, zi9 G_strings_IndexRune), (zbd, G_strings_Contains)] noC) zrf z99 [x0] = zvr G_strings_IndexRune G_strings_Contains x0 := by kernel_rfl
theorem zbk0 {G_strings_IndexRune : List V → M V} {G_strings_Contains : List V → M V} (k_strings_IndexRune : zk Tryz.prog zy G_strings_IndexRune) (k_strings_Contains : zk Tryz.prog zbd G_strings_Contains) : zk Tryz.prog zrf (zow G_strings_IndexRune G_strings_Contains) := zh (σ := ovr [(zmi, zi9 G_strings_IndexRune), (zbd, G_strings_Contains)] noC) (hint := z99) (by kernel_rfl) (zd (zbcv k_strings_IndexRune) (zd k_strings_Contains zf)) fun l H r H' h => by
 unfold zow at h; split at h
 · rw [zbkz]; exact h
 · exact (ze h).elim
def zvs (G_strings_IndexRune : List V → M V) (G_strings_Contains : List V → M V) (x0 : V) : M V :=
 zb (
 zb ((zow G_strings_IndexRune G_strings_Contains) [x0]) fun x4 =>
 zb (gd x4 true (za (some x0))) fun x6 =>
 zb (gd x4 true (za (zj .add (Value.string ⟨#[32]⟩) x6))) fun x7 =>
 zb (gd x4 true (za (zj .add x7 (Value.string ⟨#[32]⟩)))) fun x8 =>
 zb (gd x4 true (G_strings_Contains [(Value.string ⟨#[32, 80, 82, 79, 71, 82, 65, 77, 32, 69, 78, 68, 95, 80, 82, 79, 71, 82, 65, 77, 32, 86, 65, 82, 32, 86, 65, 82, 95, 73, 78, 80, 85, 84, 32, 86, 65, 82, 95, 79, 85, 84, 80, 85, 84, 32, 69, 78, 68, 95, 86, 65, 82, 32, 65, 82, 82, 65, 89, 32, 79, 70, 32, 66, 79, 79, 76, 32, 73, 78, 84, 32, 68, 73, 78, 84, 32, 84, 73, 77, 69, 32, 84, 79, 78, 32, 84, 79, 70, 32, 84, 80, 32, 67, 84, 85, 32, 67, 84, 68, 32, 82, 95, 84, 82, 73, 71, 32, 70, 95, 84, 82, 73, 71, 32, 83, 82, 32, 82, 83, 32, 81, 85, 65, 68, 32, 73, 70, 32, 84, 72, 69, 78, 32, 69, 76, 83, 73, 70, 32, 69, 76, 83, 69, 32, 69, 78, 68, 95, 73, 70, 32, 67, 65, 83, 69, 32, 69, 78, 68, 95, 67, 65, 83, 69, 32, 87, 72, 73, 76, 69, 32, 68, 79, 32, 69, 78, 68, 95, 87, 72, 73, 76, 69, 32, 70, 79, 82, 32, 84, 79, 32, 66, 89, 32, 69, 78, 68, 95, 70, 79, 82, 32, 82, 69, 80, 69, 65, 84, 32, 85, 78, 84, 73, 76, 32, 69, 78, 68, 95, 82, 69, 80, 69, 65, 84, 32, 69, 88, 73, 84, 32, 82, 69, 84, 85, 82, 78, 32, 65, 78, 68, 32, 79, 82, 32, 88, 79, 82, 32, 78, 79, 84, 32, 77, 79, 68, 32, 84, 82, 85, 69, 32, 70, 65, 76, 83, 69, 32, 84, 79, 95, 73, 78, 84, 32, 84, 79, 95, 68, 73, 78, 84, 32, 84, 79, 95, 84, 73, 77, 69, 32]⟩), x8])) fun x9 =>
 zb (gd x4 true (za (un .not x9))) fun x10 =>
 zb (za (zm x4 x10 (Value.bool false))) fun x11 =>
 ret (.ret [x11])
 ) fun o => zbn o fun vs => ret (zbe [(zc vs 0)])
def zbaa : Hint := (.seq [] .leaf (.seq [] .leaf .leaf))
def zox (G_strings_IndexRune : List V → M V) (G_strings_Contains : List V → M V) (l : List V) : M V := match l with | [x0] => zvs G_strings_IndexRune G_strings_Contains x0 | _ => fail
theorem zbk1 (G_strings_IndexRune : List V → M V) (G_strings_Contains : List V → M V) (x0 : V) : zbr Tryz.prog (ovr [(zrf, zow G_strings_IndexRune G_strings_Contains), (zbd, G_strings_Contains)] noC) zrd zbaa [x0] = zvs G_strings_IndexRune G_strings_Contains x0 := by kernel_rfl
theorem zbk2 {G_strings_IndexRune : List V → M V} {G_strings_Contains : List V → M V} (k_strings_IndexRune : zk Tryz.prog zy G_strings_IndexRune) (k_strings_Contains : zk Tryz.prog zbd G_strings_Contains) : zk Tryz.prog zrd (zox G_strings_IndexRune G_strings_Contains) := zh (σ := ovr [(zrf, zow G_strings_IndexRune G_strings_Contains), (zbd, G_strings_Contains)] noC) (hint := zbaa) (by kernel_rfl) (zd (zbk0 k_strings_IndexRune k_strings_Contains) (zd k_strings_Contains zf)) fun l H r H' h => by
 unfold zox at h; split at h
 · rw [zbk1]; exact h
 · exact (ze h).elim
def zvt (x0 : V) : M V :=
 zb (
 zb (za (zj .geq x0 (Value.int .i64 1))) fun x4 =>
 zb (gd x4 true (za (some x0))) fun x6 =>
 zb (gd x4 true (za (zj .leq x6 (Value.int .i64 4)))) fun x7 =>
 zb (za (zm x4 x7 (Value.bool false))) fun x8 =>
 ret (.ret [x8])
 ) fun o => zbn o fun vs => ret (zbe [(zc vs 0)])
def zbab : Hint := (.seq [] .leaf (.seq [] .leaf .leaf))
def zhl (l : List V) : M V := match l with | [x0] => zvt x0 | _ => fail
theorem zbk3 (x0 : V) : zbr Tryz.prog (ovr [] noC) zni zbab [x0] = zvt x0 := by kernel_rfl
theorem z0t : zk Tryz.prog zni (zhl) := zh (σ := ovr [] noC) (hint := zbab) (by kernel_rfl) zf fun l H r H' h => by
 unfold zhl at h; split at h
 · rw [zbk3]; exact h
 · exact (ze h).elim
def zbac (vs : List V) : M Out :=
 zb (za (cvi .i32 (zc vs 0))) fun x16 =>
 zb (za (cvi .i64 x16)) fun x17 =>
 ret (.ret [x17])
def zyx (x0 x1 : V) : M V :=
 zb (
 zb (
 zb (
 zb (za (zj .eql x0 (Value.int .i64 1))) fun x7 =>
 zi x7 (
 zb (za (zj .and x1 (Value.int .i64 1))) fun x9 =>
 ret (.ret [x9])
 ) (
 zb (za (zj .eql x0 (Value.int .i64 2))) fun x11 =>
 zi x11 (
 zb (za (cvi .i16 x1)) fun x13 =>
 zb (za (cvi .i64 x13)) fun x14 =>
 ret (.ret [x14])
 ) (
 ret (.nxt [x1])
 )
 )
 ) fun o => ret (zp 0 o)
 ) fun o => nx o zbac
 ) fun o => zbn o fun vs => ret (zbe [(zc vs 0)])
def zbcw : Hint := (.seq [] .leaf (.seq [1] (.seq [] .leaf (.blk (.seq [] .leaf (.cond (.seq [] .leaf .leaf) (.seq [] .leaf (.cond (.seq [] .leaf .leaf) .leaf)))))) (.seq [] .leaf .leaf)))
def zg8 (l : List V) : M V := match l with | [x0, x1] => zyx x0 x1 | _ => fail
theorem zbm6 (x0 x1 : V) : zbr Tryz.prog (ovr [] noC) zin zbcw [x0, x1] = zyx x0 x1 := by kernel_rfl
theorem z5n : zk Tryz.prog zin (zg8) := zh (σ := ovr [] noC) (hint := zbcw) (by kernel_rfl) zf fun l H r H' h => by
 unfold zg8 at h; split at h
 · rw [zbm6]; exact h
 · exact (ze h).elim
def zyy (x0 x1 : V) : M V :=
 zb (
 zb (zhl [x0]) fun x6 =>
 zb (gd x6 true (za (some x0))) fun x8 =>
 zb (gd x6 true (za (some x1))) fun x9 =>
 zb (gd x6 true (zg8 [x8, x9])) fun x10 =>
 zb (gd x6 true (za (some x1))) fun x11 =>
 zb (gd x6 true (za (zj .eql x10 x11))) fun x12 =>
 zb (za (zm x6 x12 (Value.bool false))) fun x13 =>
 ret (.ret [x13])
 ) fun o => zbn o fun vs => ret (zbe [(zc vs 0)])
def zbcx : Hint := (.seq [] .leaf (.seq [] .leaf .leaf))
def zep (l : List V) : M V := match l with | [x0, x1] => zyy x0 x1 | _ => fail
def zbcy : zl := ovr [(zni, zhl), (zin, zg8)] noC
theorem zbm7 (x0 x1 : V) : zbr Tryz.prog (zbcy) zgl zbcx [x0, x1] = zyy x0 x1 := by kernel_rfl
theorem zyz : zk Tryz.prog zgl (zep) := zh (σ := zbcy) (hint := zbcx) (by kernel_rfl) (zd z0t (zd z5n zf)) fun l H r H' h => by
 unfold zep at h; split at h
 · rw [zbm7]; exact h
 · exact (ze h).elim
def z3o (G_strings_IndexRune : List V → M V) (G_strings_Contains : List V → M V) (vs_4 : List V) : M Out :=
 zb (za (zj .add (zc vs_4 4) (Value.int .i64 1))) fun x70 =>
 ret (.nxt [(zc vs_4 0), (zc vs_4 1), (zc vs_4 2), (zc vs_4 3), x70])
def zwo (G_strings_IndexRune : List V → M V) (G_strings_Contains : List V → M V) (vs_3 : List V) : M Out :=
 zb (
 zb (
 zb (za (zbo 1 (zc vs_3 2) (zc vs_3 4))) fun x60 =>
 zb (z8 x60) fun x61 =>
 zb (za (zg 2 (zc vs_3 0))) fun x63 =>
 zb (z8 x63) fun x64 =>
 zb (za (zbo 1 x64 (zc vs_3 4))) fun x66 =>
 zb (z8 x66) fun x67 =>
 zb (zep [x61, x67]) fun x68 =>
 zb (za (un .not x68)) fun x69 =>
 zi x69 (
 ret (.ret [(Value.bool false)])
 ) (
 ret (.nxt [(zc vs_3 0), (zc vs_3 1), (zc vs_3 2), (zc vs_3 3), (zc vs_3 4)])
 )
 ) fun o => ret (zp 1 o)
 ) fun o => nx o (z3o G_strings_IndexRune G_strings_Contains)
def zrh (G_strings_IndexRune : List V → M V) (G_strings_Contains : List V → M V) (vs_2 : List V) : M Out :=
 zb (za (zj .lss (zc vs_2 4) (zc vs_2 3))) fun x58 =>
 zb (
 zi x58 (
 ret (.nxt [(zc vs_2 0), (zc vs_2 1), (zc vs_2 2), (zc vs_2 3), (zc vs_2 4)])
 ) (
 ret (.brk 0 [(zc vs_2 0), (zc vs_2 1)])
 )
 ) fun o => nx o (zwo G_strings_IndexRune G_strings_Contains)
def z3p (G_strings_IndexRune : List V → M V) (G_strings_Contains : List V → M V) (vs_8 : List V) : M Out :=
 zb (z44 (.one .i) (zc vs_8 1) (zc vs_8 2) (Value.bool true)) fun _ =>
 ret (.nxt [(zc vs_8 0), (zc vs_8 1), (zc vs_8 3), (zc vs_8 4), (zc vs_8 5)])
def z3q (G_strings_IndexRune : List V → M V) (G_strings_Contains : List V → M V) (vs_9 : List V) : M Out :=
 zb (za (zj .add (zc vs_9 4) (Value.int .i64 1))) fun x94 =>
 ret (.nxt [(zc vs_9 0), (zc vs_9 1), (zc vs_9 2), (zc vs_9 3), x94])
def znp (G_strings_IndexRune : List V → M V) (G_strings_Contains : List V → M V) (vs_7 : List V) : M Out :=
 zb (
 zb (
 zb (za (zbo 1 (zc vs_7 2) (zc vs_7 4))) fun x76 =>
 zb (z8 x76) fun x77 =>
 zb (
 zb (za (zj .lss x77 (Value.int .i64 0))) fun x79 =>
 zb (gd x79 false (za (some x77))) fun x81 =>
 zb (gd x79 false (za (zg 1 (zc vs_7 0)))) fun x82 =>
 zb (gd x79 false (z8 x82)) fun x83 =>
 zb (gd x79 false (za (zo x83))) fun x84 =>
 zb (gd x79 false (za (zj .geq x81 x84))) fun x85 =>
 zb (za (zm x79 (Value.bool true) x85)) fun x86 =>
 zb (gd x86 false (za (some (zc vs_7 1)))) fun x88 =>
 zb (gd x86 false (za (some x77))) fun x89 =>
 zb (gd x86 false (lookup (.one .i) (Value.bool false) false x88 x89)) fun x90 =>
 zb (za (zm x86 (Value.bool true) x90)) fun x91 =>
 zi x91 (
 ret (.ret [(Value.bool false)])
 ) (
 ret (.nxt [(zc vs_7 0), (zc vs_7 1), x77, (zc vs_7 2), (zc vs_7 3), (zc vs_7 4)])
 )
 ) fun o => nx o (z3p G_strings_IndexRune G_strings_Contains)
 ) fun o => ret (zp 3 o)
 ) fun o => nx o (z3q G_strings_IndexRune G_strings_Contains)
def zkf (G_strings_IndexRune : List V → M V) (G_strings_Contains : List V → M V) (vs_6 : List V) : M Out :=
 zb (za (zj .lss (zc vs_6 4) (zc vs_6 3))) fun x75 =>
 zb (
 zi x75 (
 ret (.nxt [(zc vs_6 0), (zc vs_6 1), (zc vs_6 2), (zc vs_6 3), (zc vs_6 4)])
 ) (
 ret (.brk 2 [])
 )
 ) fun o => nx o (znp G_strings_IndexRune G_strings_Contains)
def z3r (G_strings_IndexRune : List V → M V) (G_strings_Contains : List V → M V) (vs_10 : List V) : M Out :=
 ret (.ret [(Value.bool true)])
def z3s (G_strings_IndexRune : List V → M V) (G_strings_Contains : List V → M V) (vs_5 : List V) : M Out :=
 zb (z9t) fun x71 =>
 zb (
 zb (za (zo (zc vs_5 1))) fun x73 =>
 zb (
 zcg zcb (zkf G_strings_IndexRune G_strings_Contains) [(zc vs_5 0), x71, (zc vs_5 1), x73, (Value.int .i64 0)]
 ) fun o => ret (zp 2 o)
 ) fun o => nx o (z3r G_strings_IndexRune G_strings_Contains)
def z3t (G_strings_IndexRune : List V → M V) (G_strings_Contains : List V → M V) (vs : List V) : M Out :=
 zb (
 zb (za (zg 1 (zc vs 0))) fun x54 =>
 zb (z8 x54) fun x55 =>
 zb (za (zo x55)) fun x56 =>
 zb (
 zcg zcb (zrh G_strings_IndexRune G_strings_Contains) [(zc vs 0), (zc vs 1), x55, x56, (Value.int .i64 0)]
 ) fun o => ret (zp 0 o)
 ) fun o => nx o (z3s G_strings_IndexRune G_strings_Contains)
def ztl (G_strings_IndexRune : List V → M V) (G_strings_Contains : List V → M V) (x0 : V) : M V :=
 zb (
 zb (zhp x0) fun x1 =>
 zb (za (zg 3 x1)) fun x9 =>
 zb (z8 x9) fun x10 =>
 zb (za (zg 4 x1)) fun x11 =>
 zb (z8 x11) fun x12 =>
 zb (zfb 1 2 (rep 2 [Value.slice none 0 0]) [(0, 1, x10), (1, 1, x12)]) fun x13 =>
 zb (zdl [x13]) fun x14 =>
 zb (
 zb (za (zg 0 x1)) fun x15 =>
 zb (z8 x15) fun x16 =>
 zb ((zox G_strings_IndexRune G_strings_Contains) [x16]) fun x17 =>
 zb (za (un .not x17)) fun x18 =>
 zb (gd x18 false (za (zg 1 x1))) fun x20 =>
 zb (gd x18 false (z8 x20)) fun x21 =>
 zb (gd x18 false (za (zo x21))) fun x22 =>
 zb (gd x18 false (za (zg 2 x1))) fun x23 =>
 zb (gd x18 false (z8 x23)) fun x24 =>
 zb (gd x18 false (za (zo x24))) fun x25 =>
 zb (gd x18 false (za (zj .neq x22 x25))) fun x26 =>
 zb (za (zm x18 (Value.bool true) x26)) fun x27 =>
 zb (gd x27 false (za (zg 1 x1))) fun x29 =>
 zb (gd x27 false (z8 x29)) fun x30 =>
 zb (gd x27 false (za (zo x30))) fun x31 =>
 zb (gd x27 false (za (zj .gtr x31 (Value.int .i64 1024)))) fun x32 =>
 zb (za (zm x27 (Value.bool true) x32)) fun x33 =>
 zb (gd x33 false (za (zg 5 x1))) fun x35 =>
 zb (gd x33 false (z8 x35)) fun x36 =>
 zb (gd x33 false (za (zo x36))) fun x37 =>
 zb (gd x33 false (za (zj .lss x37 (Value.int .i64 1)))) fun x38 =>
 zb (za (zm x33 (Value.bool true) x38)) fun x39 =>
 zb (gd x39 false (za (zg 5 x1))) fun x41 =>
 zb (gd x39 false (z8 x41)) fun x42 =>
 zb (gd x39 false (za (zo x42))) fun x43 =>
 zb (gd x39 false (za (zj .gtr x43 (Value.int .i64 4096)))) fun x44 =>
 zb (za (zm x39 (Value.bool true) x44)) fun x45 =>
 zb (gd x45 false (za (some x14))) fun x47 =>
 zb (gd x45 false (za (zo x47))) fun x48 =>
 zb (gd x45 false (za (zg 1 x1))) fun x49 =>
 zb (gd x45 false (z8 x49)) fun x50 =>
 zb (gd x45 false (za (zo x50))) fun x51 =>
 zb (gd x45 false (za (zj .gtr x48 x51))) fun x52 =>
 zb (za (zm x45 (Value.bool true) x52)) fun x53 =>
 zi x53 (
 ret (.ret [(Value.bool false)])
 ) (
 ret (.nxt [x1, x14])
 )
 ) fun o => nx o (z3t G_strings_IndexRune G_strings_Contains)
 ) fun o => zbn o fun vs => ret (zbe [(zc vs 0)])
def z6v : Hint := (.seq [] .leaf (.seq [] .leaf (.seq [1, 3] (.seq [] .leaf (.cond (.seq [] .leaf .leaf) .leaf)) (.seq [1, 3] (.seq [] .leaf (.blk (.loop [1, 3, 55, 56, 57] (.seq [] .leaf (.seq [1, 3, 55, 56, 57] (.cond .leaf .leaf) (.seq [1, 3, 55, 56, 57] (.blk (.seq [] .leaf (.seq [] .leaf (.cond (.seq [] .leaf .leaf) .leaf)))) .leaf)))))) (.seq [] .leaf (.seq [] (.seq [] .leaf (.blk (.loop [1, 6, 72, 73, 74] (.seq [] .leaf (.seq [1, 6, 72, 73, 74] (.cond .leaf .leaf) (.seq [1, 6, 72, 73, 74] (.blk (.seq [] .leaf (.seq [1, 6, 8, 72, 73, 74] (.seq [] .leaf (.cond (.seq [] .leaf .leaf) .leaf)) .leaf))) .leaf)))))) (.seq [] .leaf .leaf)))))))
def zmp (G_strings_IndexRune : List V → M V) (G_strings_Contains : List V → M V) (l : List V) : M V := match l with | [x0] => ztl G_strings_IndexRune G_strings_Contains x0 | _ => fail
theorem zbh7 (G_strings_IndexRune : List V → M V) (G_strings_Contains : List V → M V) (x0 : V) : zbr Tryz.prog (ovr [(zfg, zdl), (zrd, zox G_strings_IndexRune G_strings_Contains), (zgl, zep)] noC) zpd z6v [x0] = ztl G_strings_IndexRune G_strings_Contains x0 := by kernel_rfl
theorem zbh8 {G_strings_IndexRune : List V → M V} {G_strings_Contains : List V → M V} (k_strings_IndexRune : zk Tryz.prog zy G_strings_IndexRune) (k_strings_Contains : zk Tryz.prog zbd G_strings_Contains) : zk Tryz.prog zpd (zmp G_strings_IndexRune G_strings_Contains) := zh (σ := ovr [(zfg, zdl), (zrd, zox G_strings_IndexRune G_strings_Contains), (zgl, zep)] noC) (hint := z6v) (by kernel_rfl) (zd zvg (zd (zbk2 k_strings_IndexRune k_strings_Contains) (zd zyz zf))) fun l H r H' h => by
 unfold zmp at h; split at h
 · rw [zbh7]; exact h
 · exact (ze h).elim
def z3u (vs : List V) : M Out :=
 zb (za (zg 1 (zc vs 2))) fun x25 =>
 zb (z8 x25) fun x26 =>
 zb (za (zj .add (zc vs 0) (zc vs 1))) fun x30 =>
 zb (za (zt8 1 x26 (some (zc vs 0)) (some x30))) fun x31 =>
 ret (.ret [x31])
def ztm (x0 x1 x2 : V) : M V :=
 zb (
 zb (zhp x0) fun x3 =>
 zb (
 zb (za (zj .lss x1 (Value.int .i64 0))) fun x8 =>
 zb (gd x8 false (za (some x1))) fun x10 =>
 zb (gd x8 false (za (zg 1 x3))) fun x11 =>
 zb (gd x8 false (z8 x11)) fun x12 =>
 zb (gd x8 false (za (zo x12))) fun x13 =>
 zb (gd x8 false (za (zj .geq x10 x13))) fun x14 =>
 zb (za (zm x8 (Value.bool true) x14)) fun x15 =>
 zb (gd x15 false (za (some x2))) fun x17 =>
 zb (gd x15 false (za (zg 1 x3))) fun x18 =>
 zb (gd x15 false (z8 x18)) fun x19 =>
 zb (gd x15 false (za (zo x19))) fun x20 =>
 zb (gd x15 false (za (some x1))) fun x21 =>
 zb (gd x15 false (za (zj .sub x20 x21))) fun x22 =>
 zb (gd x15 false (za (zj .gtr x17 x22))) fun x23 =>
 zb (za (zm x15 (Value.bool true) x23)) fun x24 =>
 zi x24 (
 ret (.ret [(Value.slice none 0 0)])
 ) (
 ret (.nxt [x1, x2, x3])
 )
 ) fun o => nx o z3u
 ) fun o => zbn o fun vs => ret (zbe [(zc vs 0)])
def z6w : Hint := (.seq [] .leaf (.seq [1, 2, 3] (.seq [] .leaf (.cond (.seq [] .leaf .leaf) .leaf)) (.seq [] .leaf .leaf)))
def zhi (l : List V) : M V := match l with | [x0, x1, x2] => ztm x0 x1 x2 | _ => fail
theorem zbh9 (x0 x1 x2 : V) : zbr Tryz.prog (ovr [] noC) zla z6w [x0, x1, x2] = ztm x0 x1 x2 := by kernel_rfl
theorem zy0 : zk Tryz.prog zla (zhi) := zh (σ := ovr [] noC) (hint := z6w) (by kernel_rfl) zf fun l H r H' h => by
 unfold zhi at h; split at h
 · rw [zbh9]; exact h
 · exact (ze h).elim
def zpp (x0 x1 : V) : M V :=
 zb (
 zb (zhp x0) fun x2 =>
 zb (zhp x1) fun x3 =>
 zb (ldn 6 x2) fun x5 =>
 zb (za (zg 1 x3)) fun x6 =>
 zb (z8 x6) fun x7 =>
 zb (zhi [x5, x7, (Value.int .i64 1)]) fun x8 =>
 zb (za (zhx true (isNil .s x8))) fun x9 =>
 ret (.ret [x9])
 ) fun o => zbn o fun vs => ret (zbe [(zc vs 0)])
def z0u : Hint := (.seq [] .leaf (.seq [] .leaf .leaf))
def zja (l : List V) : M V := match l with | [x0, x1] => zpp x0 x1 | _ => fail
def z0v : zl := ovr [(zla, zhi)] noC
theorem zbcz (x0 x1 : V) : zbr Tryz.prog (z0v) zcl z0u [x0, x1] = zpp x0 x1 := by kernel_rfl
theorem zbc0 : zk Tryz.prog zcl (zja) := zh (σ := z0v) (hint := z0u) (by kernel_rfl) (zd zy0 zf) fun l H r H' h => by
 unfold zja at h; split at h
 · rw [zbcz]; exact h
 · exact (ze h).elim
def zmq (x0 x1 : V) : M V :=
 zb (
 zb (z8 x1) fun x5 =>
 zb (za (zbo 1 x5 (Value.int .i64 0))) fun x6 =>
 zb (z8 x6) fun x7 =>
 zb (za (zj .neq x0 x7)) fun x8 =>
 ret (.ret [x8])
 ) fun o => zbn o fun vs => ret (zbe [(zc vs 0)])
def zxo : Hint := (.seq [] .leaf (.seq [] .leaf .leaf))
def zmr (l : List V) : M V := match l with | [x0, x1] => zmq x0 x1 | _ => fail
theorem z85 (x0 x1 : V) : zbr Tryz.prog (ovr [] noC) zgg zxo [x0, x1] = zmq x0 x1 := by kernel_rfl
theorem z86 : zk Tryz.prog zgg (zmr) := zh (σ := ovr [] noC) (hint := zxo) (by kernel_rfl) zf fun l H r H' h => by
 unfold zmr at h; split at h
 · rw [z85]; exact h
 · exact (ze h).elim
def zjr (S : zl) (vs_3 : List V) : M Out :=
 zb (za (zj .add (zc vs_3 3) (Value.int .i64 1))) fun x18 =>
 ret (.nxt [(zc vs_3 0), (zc vs_3 1), (zc vs_3 2), x18])
def zjs (S : zl) (vs_2 : List V) : M Out :=
 zb (
 zb (
 zb (za (zbo 1 (zc vs_2 0) (zc vs_2 3))) fun x14 =>
 zb (z8 x14) fun x15 =>
 zb (zhz (ovr [] S) (zc vs_2 1) [x15]) fun x16 =>
 zi x16 (
 ret (.ret [(zc vs_2 3)])
 ) (
 ret (.nxt [(zc vs_2 0), (zc vs_2 1), (zc vs_2 2), (zc vs_2 3)])
 )
 ) fun o => ret (zp 1 o)
 ) fun o => nx o (zjr S)
def zgw (S : zl) (vs : List V) : M Out :=
 zb (za (zj .lss (zc vs 3) (zc vs 2))) fun x9 =>
 zb (
 zi x9 (
 ret (.nxt [(zc vs 0), (zc vs 1), (zc vs 2), (zc vs 3)])
 ) (
 ret (.brk 0 [])
 )
 ) fun o => nx o (zjs S)
def zjt (S : zl) (vs_4 : List V) : M Out :=
 ret (.ret [(Value.int .i64 (-1))])
def ze7 (S : zl) (x0 x1 : V) : M V :=
 zb (
 zb (
 zb (za (zo x0)) fun x7 =>
 zb (
 zcg zcb (zgw S) [x0, x1, x7, (Value.int .i64 0)]
 ) fun o => ret (zp 0 o)
 ) fun o => nx o (zjt S)
 ) fun o => zbn o fun vs => ret (zbe [(zc vs 0)])
def zj7 : Hint := (.seq [] .leaf (.seq [] (.seq [] .leaf (.blk (.loop [0, 1, 7, 8] (.seq [] .leaf (.seq [0, 1, 7, 8] (.cond .leaf .leaf) (.seq [0, 1, 7, 8] (.blk (.seq [] .leaf (.seq [] .leaf (.cond (.seq [] .leaf .leaf) .leaf)))) .leaf)))))) (.seq [] .leaf .leaf)))
def zc5 (S : zl) (l : List V) : M V := match l with | [x0, x1] => ze7 S x0 x1 | _ => fail
theorem zsl (S : zl) (x0 x1 : V) : zbr Tryz.prog (ovr [] S) zem zj7 [x0, x1] = ze7 S x0 x1 := by kernel_rfl
theorem zsm {S : zl} (hS : zi5 Tryz.prog S) : zk Tryz.prog zem (zc5 S) := zh (σ := ovr [] S) (hint := zj7) (by kernel_rfl) (zr2 hS) fun l H r H' h => by
 unfold zc5 at h; split at h
 · rw [zsl]; exact h
 · exact (ze h).elim
def zef (S : zl) (x0 x1 : V) : M V :=
 zb (
 zb ((zc5 S) [x0, x1]) fun x7 =>
 zb (za (zj .geq x7 (Value.int .i64 0))) fun x8 =>
 ret (.ret [x8])
 ) fun o => zbn o fun vs => ret (zbe [(zc vs 0)])
def zi2 : Hint := (.seq [] .leaf (.seq [] .leaf .leaf))
def zeg (S : zl) (l : List V) : M V := match l with | [x0, x1] => zef S x0 x1 | _ => fail
theorem zqr (S : zl) (x0 x1 : V) : zbr Tryz.prog (ovr [(zem, zc5 S)] S) zfk zi2 [x0, x1] = zef S x0 x1 := by kernel_rfl
theorem zqs {S : zl} (hS : zi5 Tryz.prog S) : zk Tryz.prog zfk (zeg S) := zh (σ := ovr [(zem, zc5 S)] S) (hint := zi2) (by kernel_rfl) (zd (zsm (zr2 hS)) (zr2 hS)) fun l H r H' h => by
 unfold zeg at h; split at h
 · rw [zqr]; exact h
 · exact (ze h).elim
def zzk (vs : List V) : M Out :=
 zb (ldn 6 (zc vs 0)) fun x14 =>
 zb (za (zg 1 (zc vs 1))) fun x15 =>
 zb (z8 x15) fun x16 =>
 zb (za (zg 2 (zc vs 1))) fun x17 =>
 zb (z8 x17) fun x18 =>
 zb (zhi [x14, x16, x18]) fun x19 =>
 zb (newc [Value.slice none 0 0]) fun x5 =>
 zb (st1 x5 x19) fun _ =>
 zb (z8 x5) fun x20 =>
 zb (za (zhx true (isNil .s x20))) fun x21 =>
 zb (gd x21 true (z8 x5)) fun x23 =>
 zb (gd x21 true (za (some (Value.func (.func zgg) #[] #[x5])))) fun x24 =>
 zb (gd x21 true ((zeg (ovr [(zgg, zmr)] noC)) [x23, x24])) fun x25 =>
 zb (gd x21 true (za (un .not x25))) fun x26 =>
 zb (za (zm x21 x26 (Value.bool false))) fun x27 =>
 ret (.ret [x27])
def zpq (x0 x1 : V) : M V :=
 zb (
 zb (zhp x0) fun x2 =>
 zb (zhp x1) fun x3 =>
 zb (
 zb (za (zg 2 x3)) fun x6 =>
 zb (z8 x6) fun x7 =>
 zb (za (zj .lss x7 (Value.int .i64 1))) fun x8 =>
 zb (gd x8 false (za (zg 2 x3))) fun x10 =>
 zb (gd x8 false (z8 x10)) fun x11 =>
 zb (gd x8 false (za (zj .gtr x11 (Value.int .i64 32)))) fun x12 =>
 zb (za (zm x8 (Value.bool true) x12)) fun x13 =>
 zi x13 (
 ret (.ret [(Value.bool false)])
 ) (
 ret (.nxt [x2, x3])
 )
 ) fun o => nx o zzk
 ) fun o => zbn o fun vs => ret (zbe [(zc vs 0)])
def z0w : Hint := (.seq [] .leaf (.seq [2, 3] (.seq [] .leaf (.cond (.seq [] .leaf .leaf) .leaf)) (.seq [] .leaf (.seq [] .leaf .leaf))))
def zjb (l : List V) : M V := match l with | [x0, x1] => zpq x0 x1 | _ => fail
def z0x : zl := ovr [(zla, zhi), (zfk, zeg (ovr [(zgg, zmr)] noC))] noC
theorem zbc1 (x0 x1 : V) : zbr Tryz.prog (z0x) zdf z0w [x0, x1] = zpq x0 x1 := by kernel_rfl
theorem zbc2 : zk Tryz.prog zdf (zjb) := zh (σ := z0x) (hint := z0w) (by kernel_rfl) (zd zy0 (zd (zqs (zd z86 zf)) zf)) fun l H r H' h => by
 unfold zjb at h; split at h
 · rw [zbc1]; exact h
 · exact (ze h).elim
def zpr (x0 x1 : V) : M V :=
 zb (
 zb (zhp x0) fun x2 =>
 zb (zhp x1) fun x3 =>
 zb (za (zg 1 x3)) fun x5 =>
 zb (z8 x5) fun x6 =>
 zb (za (zj .geq x6 (Value.int .i64 0))) fun x7 =>
 zb (gd x7 true (za (zg 1 x3))) fun x9 =>
 zb (gd x7 true (z8 x9)) fun x10 =>
 zb (gd x7 true (za (zg 5 x2))) fun x11 =>
 zb (gd x7 true (z8 x11)) fun x12 =>
 zb (gd x7 true (za (zo x12))) fun x13 =>
 zb (gd x7 true (za (zj .lss x10 x13))) fun x14 =>
 zb (za (zm x7 x14 (Value.bool false))) fun x15 =>
 ret (.ret [x15])
 ) fun o => zbn o fun vs => ret (zbe [(zc vs 0)])
def z0y : Hint := (.seq [] .leaf (.seq [] .leaf .leaf))
def zjc (l : List V) : M V := match l with | [x0, x1] => zpr x0 x1 | _ => fail
theorem zbc3 (x0 x1 : V) : zbr Tryz.prog (ovr [] noC) zdg z0y [x0, x1] = zpr x0 x1 := by kernel_rfl
theorem zbc4 : zk Tryz.prog zdg (zjc) := zh (σ := ovr [] noC) (hint := z0y) (by kernel_rfl) zf fun l H r H' h => by
 unfold zjc at h; split at h
 · rw [zbc3]; exact h
 · exact (ze h).elim
def zps (x0 x1 : V) : M V :=
 zb (
 zb (zhp x0) fun x2 =>
 zb (zhp x1) fun x3 =>
 zb (za (zg 1 x3)) fun x5 =>
 zb (z8 x5) fun x6 =>
 zb (za (zg 3 x3)) fun x7 =>
 zb (z8 x7) fun x8 =>
 zb (zep [x6, x8]) fun x9 =>
 ret (.ret [x9])
 ) fun o => zbn o fun vs => ret (zbe [(zc vs 0)])
def z0z : Hint := (.seq [] .leaf (.seq [] .leaf .leaf))
def zjd (l : List V) : M V := match l with | [x0, x1] => zps x0 x1 | _ => fail
def z00 : zl := ovr [(zgl, zep)] noC
theorem zbc5 (x0 x1 : V) : zbr Tryz.prog (z00) zdh z0z [x0, x1] = zps x0 x1 := by kernel_rfl
theorem zbc6 : zk Tryz.prog zdh (zjd) := zh (σ := z00) (hint := z0z) (by kernel_rfl) (zd zyz zf) fun l H r H' h => by
 unfold zjd at h; split at h
 · rw [zbc5]; exact h
 · exact (ze h).elim
def ztn (x0 x1 : V) : M V :=
 zb (
 zb (za (zj .add x0 x1)) fun x7 =>
 ret (.ret [x7])
 ) fun o => zbn o fun vs => ret (zbe [(zc vs 0)])
def z6x : Hint := (.seq [] .leaf (.seq [] .leaf .leaf))
def zms (l : List V) : M V := match l with | [x0, x1] => ztn x0 x1 | _ => fail
theorem zbia (x0 x1 : V) : zbr Tryz.prog (ovr [] noC) zfn z6x [x0, x1] = ztn x0 x1 := by kernel_rfl
theorem zbib : zk Tryz.prog zfn (zms) := zh (σ := ovr [] noC) (hint := z6x) (by kernel_rfl) zf fun l H r H' h => by
 unfold zms at h; split at h
 · rw [zbia]; exact h
 · exact (ze h).elim
def zto (x0 x1 : V) : M V :=
 zb (
 zb (za (zj .sub x0 x1)) fun x7 =>
 ret (.ret [x7])
 ) fun o => zbn o fun vs => ret (zbe [(zc vs 0)])
def z6y : Hint := (.seq [] .leaf (.seq [] .leaf .leaf))
def zmt (l : List V) : M V := match l with | [x0, x1] => zto x0 x1 | _ => fail
theorem zbic (x0 x1 : V) : zbr Tryz.prog (ovr [] noC) zfo z6y [x0, x1] = zto x0 x1 := by kernel_rfl
theorem zbid : zk Tryz.prog zfo (zmt) := zh (σ := ovr [] noC) (hint := z6y) (by kernel_rfl) zf fun l H r H' h => by
 unfold zmt at h; split at h
 · rw [zbic]; exact h
 · exact (ze h).elim
def ztp (x0 x1 : V) : M V :=
 zb (
 zb (za (zj .mul x0 x1)) fun x7 =>
 ret (.ret [x7])
 ) fun o => zbn o fun vs => ret (zbe [(zc vs 0)])
def z6z : Hint := (.seq [] .leaf (.seq [] .leaf .leaf))
def zmu (l : List V) : M V := match l with | [x0, x1] => ztp x0 x1 | _ => fail
theorem zbie (x0 x1 : V) : zbr Tryz.prog (ovr [] noC) zfp z6z [x0, x1] = ztp x0 x1 := by kernel_rfl
theorem zbif : zk Tryz.prog zfp (zmu) := zh (σ := ovr [] noC) (hint := z6z) (by kernel_rfl) zf fun l H r H' h => by
 unfold zmu at h; split at h
 · rw [zbie]; exact h
 · exact (ze h).elim
def ztq (x0 x1 : V) : M V :=
 zb (
 zb (za (zj .quo x0 x1)) fun x7 =>
 ret (.ret [x7])
 ) fun o => zbn o fun vs => ret (zbe [(zc vs 0)])
def z60 : Hint := (.seq [] .leaf (.seq [] .leaf .leaf))
def zmv (l : List V) : M V := match l with | [x0, x1] => ztq x0 x1 | _ => fail
theorem zbig (x0 x1 : V) : zbr Tryz.prog (ovr [] noC) zfq z60 [x0, x1] = ztq x0 x1 := by kernel_rfl
theorem zbih : zk Tryz.prog zfq (zmv) := zh (σ := ovr [] noC) (hint := z60) (by kernel_rfl) zf fun l H r H' h => by
 unfold zmv at h; split at h
 · rw [zbig]; exact h
 · exact (ze h).elim
def ztr (x0 x1 : V) : M V :=
 zb (
 zb (za (zj .rem x0 x1)) fun x7 =>
 ret (.ret [x7])
 ) fun o => zbn o fun vs => ret (zbe [(zc vs 0)])
def z61 : Hint := (.seq [] .leaf (.seq [] .leaf .leaf))
def zmw (l : List V) : M V := match l with | [x0, x1] => ztr x0 x1 | _ => fail
theorem zbii (x0 x1 : V) : zbr Tryz.prog (ovr [] noC) zfr z61 [x0, x1] = ztr x0 x1 := by kernel_rfl
theorem zbij : zk Tryz.prog zfr (zmw) := zh (σ := ovr [] noC) (hint := z61) (by kernel_rfl) zf fun l H r H' h => by
 unfold zmw at h; split at h
 · rw [zbii]; exact h
 · exact (ze h).elim
def zts (x0 x1 : V) : M V :=
 zb (
 zb (za (zj .and x0 x1)) fun x7 =>
 ret (.ret [x7])
 ) fun o => zbn o fun vs => ret (zbe [(zc vs 0)])
def z62 : Hint := (.seq [] .leaf (.seq [] .leaf .leaf))
def zmx (l : List V) : M V := match l with | [x0, x1] => zts x0 x1 | _ => fail
theorem zbik (x0 x1 : V) : zbr Tryz.prog (ovr [] noC) zfs z62 [x0, x1] = zts x0 x1 := by kernel_rfl
theorem zbil : zk Tryz.prog zfs (zmx) := zh (σ := ovr [] noC) (hint := z62) (by kernel_rfl) zf fun l H r H' h => by
 unfold zmx at h; split at h
 · rw [zbik]; exact h
 · exact (ze h).elim
def ztt (x0 x1 : V) : M V :=
 zb (
 zb (za (zj .or x0 x1)) fun x7 =>
 ret (.ret [x7])
 ) fun o => zbn o fun vs => ret (zbe [(zc vs 0)])
def z63 : Hint := (.seq [] .leaf (.seq [] .leaf .leaf))
def zmy (l : List V) : M V := match l with | [x0, x1] => ztt x0 x1 | _ => fail
theorem zbim (x0 x1 : V) : zbr Tryz.prog (ovr [] noC) zft z63 [x0, x1] = ztt x0 x1 := by kernel_rfl
theorem zbin : zk Tryz.prog zft (zmy) := zh (σ := ovr [] noC) (hint := z63) (by kernel_rfl) zf fun l H r H' h => by
 unfold zmy at h; split at h
 · rw [zbim]; exact h
 · exact (ze h).elim
def ztu (x0 x1 : V) : M V :=
 zb (
 zb (za (zj .xor x0 x1)) fun x7 =>
 ret (.ret [x7])
 ) fun o => zbn o fun vs => ret (zbe [(zc vs 0)])
def z64 : Hint := (.seq [] .leaf (.seq [] .leaf .leaf))
def zmz (l : List V) : M V := match l with | [x0, x1] => ztu x0 x1 | _ => fail
theorem zbio (x0 x1 : V) : zbr Tryz.prog (ovr [] noC) zfu z64 [x0, x1] = ztu x0 x1 := by kernel_rfl
theorem zbip : zk Tryz.prog zfu (zmz) := zh (σ := ovr [] noC) (hint := z64) (by kernel_rfl) zf fun l H r H' h => by
 unfold zmz at h; split at h
 · rw [zbio]; exact h
 · exact (ze h).elim
def zdk (vs : List V) : M Out :=
 ret (.ret [(Value.int .i64 0)])
def zd6 (x0 : V) : M V :=
 zb (
 zb (
 zi x0 (
 ret (.ret [(Value.int .i64 1)])
 ) (
 ret (.nxt [])
 )
 ) fun o => nx o zdk
 ) fun o => zbn o fun vs => ret (zbe [(zc vs 0)])
def zbc7 : Hint := (.seq [] .leaf (.seq [] (.seq [] .leaf (.cond (.seq [] .leaf .leaf) .leaf)) (.seq [] .leaf .leaf)))
def zbk (l : List V) : M V := match l with | [x0] => zd6 x0 | _ => fail
theorem zbm8 (x0 : V) : zbr Tryz.prog (ovr [] noC) zio zbc7 [x0] = zd6 x0 := by kernel_rfl
theorem zq4 : zk Tryz.prog zio (zbk) := zh (σ := ovr [] noC) (hint := zbc7) (by kernel_rfl) zf fun l H r H' h => by
 unfold zbk at h; split at h
 · rw [zbm8]; exact h
 · exact (ze h).elim
def ztv (x0 x1 : V) : M V :=
 zb (
 zb (za (zj .eql x0 x1)) fun x7 =>
 zb (zbk [x7]) fun x8 =>
 ret (.ret [x8])
 ) fun o => zbn o fun vs => ret (zbe [(zc vs 0)])
def z65 : Hint := (.seq [] .leaf (.seq [] .leaf .leaf))
def zm0 (l : List V) : M V := match l with | [x0, x1] => ztv x0 x1 | _ => fail
def z66 : zl := ovr [(zio, zbk)] noC
theorem zbiq (x0 x1 : V) : zbr Tryz.prog (z66) zfv z65 [x0, x1] = ztv x0 x1 := by kernel_rfl
theorem zbir : zk Tryz.prog zfv (zm0) := zh (σ := z66) (hint := z65) (by kernel_rfl) (zd zq4 zf) fun l H r H' h => by
 unfold zm0 at h; split at h
 · rw [zbiq]; exact h
 · exact (ze h).elim
def zri (x0 x1 : V) : M V :=
 zb (
 zb (za (zj .neq x0 x1)) fun x7 =>
 zb (zbk [x7]) fun x8 =>
 ret (.ret [x8])
 ) fun o => zbn o fun vs => ret (zbe [(zc vs 0)])
def z3v : Hint := (.seq [] .leaf (.seq [] .leaf .leaf))
def zkg (l : List V) : M V := match l with | [x0, x1] => zri x0 x1 | _ => fail
def z3w : zl := ovr [(zio, zbk)] noC
theorem zbex (x0 x1 : V) : zbr Tryz.prog (z3w) zez z3v [x0, x1] = zri x0 x1 := by kernel_rfl
theorem zbey : zk Tryz.prog zez (zkg) := zh (σ := z3w) (hint := z3v) (by kernel_rfl) (zd zq4 zf) fun l H r H' h => by
 unfold zkg at h; split at h
 · rw [zbex]; exact h
 · exact (ze h).elim
def zrj (x0 x1 : V) : M V :=
 zb (
 zb (za (zj .lss x0 x1)) fun x7 =>
 zb (zbk [x7]) fun x8 =>
 ret (.ret [x8])
 ) fun o => zbn o fun vs => ret (zbe [(zc vs 0)])
def z3x : Hint := (.seq [] .leaf (.seq [] .leaf .leaf))
def zkh (l : List V) : M V := match l with | [x0, x1] => zrj x0 x1 | _ => fail
def z3y : zl := ovr [(zio, zbk)] noC
theorem zbez (x0 x1 : V) : zbr Tryz.prog (z3y) ze0 z3x [x0, x1] = zrj x0 x1 := by kernel_rfl
theorem zbe0 : zk Tryz.prog ze0 (zkh) := zh (σ := z3y) (hint := z3x) (by kernel_rfl) (zd zq4 zf) fun l H r H' h => by
 unfold zkh at h; split at h
 · rw [zbez]; exact h
 · exact (ze h).elim
def zrk (x0 x1 : V) : M V :=
 zb (
 zb (za (zj .leq x0 x1)) fun x7 =>
 zb (zbk [x7]) fun x8 =>
 ret (.ret [x8])
 ) fun o => zbn o fun vs => ret (zbe [(zc vs 0)])
def z3z : Hint := (.seq [] .leaf (.seq [] .leaf .leaf))
def zki (l : List V) : M V := match l with | [x0, x1] => zrk x0 x1 | _ => fail
def z30 : zl := ovr [(zio, zbk)] noC
theorem zbe1 (x0 x1 : V) : zbr Tryz.prog (z30) ze1 z3z [x0, x1] = zrk x0 x1 := by kernel_rfl
theorem zbe2 : zk Tryz.prog ze1 (zki) := zh (σ := z30) (hint := z3z) (by kernel_rfl) (zd zq4 zf) fun l H r H' h => by
 unfold zki at h; split at h
 · rw [zbe1]; exact h
 · exact (ze h).elim
def zrl (x0 x1 : V) : M V :=
 zb (
 zb (za (zj .gtr x0 x1)) fun x7 =>
 zb (zbk [x7]) fun x8 =>
 ret (.ret [x8])
 ) fun o => zbn o fun vs => ret (zbe [(zc vs 0)])
def z32 : Hint := (.seq [] .leaf (.seq [] .leaf .leaf))
def zkj (l : List V) : M V := match l with | [x0, x1] => zrl x0 x1 | _ => fail
def z33 : zl := ovr [(zio, zbk)] noC
theorem zbe3 (x0 x1 : V) : zbr Tryz.prog (z33) ze2 z32 [x0, x1] = zrl x0 x1 := by kernel_rfl
theorem zbe4 : zk Tryz.prog ze2 (zkj) := zh (σ := z33) (hint := z32) (by kernel_rfl) (zd zq4 zf) fun l H r H' h => by
 unfold zkj at h; split at h
 · rw [zbe3]; exact h
 · exact (ze h).elim
def zrm (x0 x1 : V) : M V :=
 zb (
 zb (za (zj .geq x0 x1)) fun x7 =>
 zb (zbk [x7]) fun x8 =>
 ret (.ret [x8])
 ) fun o => zbn o fun vs => ret (zbe [(zc vs 0)])
def z34 : Hint := (.seq [] .leaf (.seq [] .leaf .leaf))
def zkk (l : List V) : M V := match l with | [x0, x1] => zrm x0 x1 | _ => fail
def z35 : zl := ovr [(zio, zbk)] noC
theorem zbe5 (x0 x1 : V) : zbr Tryz.prog (z35) ze3 z34 [x0, x1] = zrm x0 x1 := by kernel_rfl
theorem zbe6 : zk Tryz.prog ze3 (zkk) := zh (σ := z35) (hint := z34) (by kernel_rfl) (zd zq4 zf) fun l H r H' h => by
 unfold zkk at h; split at h
 · rw [zbe5]; exact h
 · exact (ze h).elim
def zrn (x0 x1 : V) : M V :=
 zb (
 zb (za (un .neg x0)) fun x6 =>
 ret (.ret [x6])
 ) fun o => zbn o fun vs => ret (zbe [(zc vs 0)])
def z36 : Hint := (.seq [] .leaf (.seq [] .leaf .leaf))
def zkl (l : List V) : M V := match l with | [x0, x1] => zrn x0 x1 | _ => fail
theorem zbe7 (x0 x1 : V) : zbr Tryz.prog (ovr [] noC) ze4 z36 [x0, x1] = zrn x0 x1 := by kernel_rfl
theorem zbe8 : zk Tryz.prog ze4 (zkl) := zh (σ := ovr [] noC) (hint := z36) (by kernel_rfl) zf fun l H r H' h => by
 unfold zkl at h; split at h
 · rw [zbe7]; exact h
 · exact (ze h).elim
def zro (x0 x1 : V) : M V :=
 zb (
 zb (za (un .xor x0)) fun x6 =>
 ret (.ret [x6])
 ) fun o => zbn o fun vs => ret (zbe [(zc vs 0)])
def z38 : Hint := (.seq [] .leaf (.seq [] .leaf .leaf))
def zkm (l : List V) : M V := match l with | [x0, x1] => zro x0 x1 | _ => fail
theorem zbe9 (x0 x1 : V) : zbr Tryz.prog (ovr [] noC) ze5 z38 [x0, x1] = zro x0 x1 := by kernel_rfl
theorem zbfa : zk Tryz.prog ze5 (zkm) := zh (σ := ovr [] noC) (hint := z38) (by kernel_rfl) zf fun l H r H' h => by
 unfold zkm at h; split at h
 · rw [zbe9]; exact h
 · exact (ze h).elim
def zbad (vs : List V) : M Out :=
 zb (za (zj .sub (zc vs 0) (Value.int .i64 1))) fun x33 =>
 zb (za (zbo 4 (zc vs 2) x33)) fun x34 =>
 zb (ldn 4 x34) fun x35 =>
 zb (stn 4 (zc vs 1) x35) fun _ =>
 ret (.ret [(zc vs 1), (Value.bool true)])
def zy1 (x0 : V) : M V :=
 zb (
 zb (newc [Value.int .i64 0, Value.bool false, Value.nilFunc, Value.bool false]) fun x2 =>
 zb (za (build [Value.int .i64 0, Value.bool false, Value.nilFunc, Value.bool false] [(0, 1, (Value.int .i64 28)), (2, 1, (Value.func (.func zfn) #[] #[]))])) fun x5 =>
 zb (za (build [Value.int .i64 0, Value.bool false, Value.nilFunc, Value.bool false] [(0, 1, (Value.int .i64 28)), (2, 1, (Value.func (.func zfo) #[] #[]))])) fun x6 =>
 zb (za (build [Value.int .i64 0, Value.bool false, Value.nilFunc, Value.bool false] [(0, 1, (Value.int .i64 12)), (2, 1, (Value.func (.func zfp) #[] #[]))])) fun x7 =>
 zb (za (build [Value.int .i64 0, Value.bool false, Value.nilFunc, Value.bool false] [(0, 1, (Value.int .i64 12)), (2, 1, (Value.func (.func zfq) #[] #[]))])) fun x8 =>
 zb (za (build [Value.int .i64 0, Value.bool false, Value.nilFunc, Value.bool false] [(0, 1, (Value.int .i64 12)), (2, 1, (Value.func (.func zfr) #[] #[]))])) fun x9 =>
 zb (za (build [Value.int .i64 0, Value.bool false, Value.nilFunc, Value.bool false] [(0, 1, (Value.int .i64 14)), (2, 1, (Value.func (.func zfs) #[] #[]))])) fun x10 =>
 zb (za (build [Value.int .i64 0, Value.bool false, Value.nilFunc, Value.bool false] [(0, 1, (Value.int .i64 14)), (2, 1, (Value.func (.func zft) #[] #[]))])) fun x11 =>
 zb (za (build [Value.int .i64 0, Value.bool false, Value.nilFunc, Value.bool false] [(0, 1, (Value.int .i64 14)), (2, 1, (Value.func (.func zfu) #[] #[]))])) fun x12 =>
 zb (za (build [Value.int .i64 0, Value.bool false, Value.nilFunc, Value.bool false] [(0, 1, (Value.int .i64 30)), (2, 1, (Value.func (.func zfv) #[] #[])), (3, 1, (Value.bool true))])) fun x13 =>
 zb (za (build [Value.int .i64 0, Value.bool false, Value.nilFunc, Value.bool false] [(0, 1, (Value.int .i64 30)), (2, 1, (Value.func (.func zez) #[] #[])), (3, 1, (Value.bool true))])) fun x14 =>
 zb (za (build [Value.int .i64 0, Value.bool false, Value.nilFunc, Value.bool false] [(0, 1, (Value.int .i64 28)), (2, 1, (Value.func (.func ze0) #[] #[])), (3, 1, (Value.bool true))])) fun x15 =>
 zb (za (build [Value.int .i64 0, Value.bool false, Value.nilFunc, Value.bool false] [(0, 1, (Value.int .i64 28)), (2, 1, (Value.func (.func ze1) #[] #[])), (3, 1, (Value.bool true))])) fun x16 =>
 zb (za (build [Value.int .i64 0, Value.bool false, Value.nilFunc, Value.bool false] [(0, 1, (Value.int .i64 28)), (2, 1, (Value.func (.func ze2) #[] #[])), (3, 1, (Value.bool true))])) fun x17 =>
 zb (za (build [Value.int .i64 0, Value.bool false, Value.nilFunc, Value.bool false] [(0, 1, (Value.int .i64 28)), (2, 1, (Value.func (.func ze3) #[] #[])), (3, 1, (Value.bool true))])) fun x18 =>
 zb (za (build [Value.int .i64 0, Value.bool false, Value.nilFunc, Value.bool false] [(0, 1, (Value.int .i64 28)), (1, 1, (Value.bool true)), (2, 1, (Value.func (.func ze4) #[] #[]))])) fun x19 =>
 zb (za (build [Value.int .i64 0, Value.bool false, Value.nilFunc, Value.bool false] [(0, 1, (Value.int .i64 14)), (1, 1, (Value.bool true)), (2, 1, (Value.func (.func ze5) #[] #[]))])) fun x20 =>
 zb (zfb 4 16 (rep 16 [Value.int .i64 0, Value.bool false, Value.nilFunc, Value.bool false]) [(0, 4, x5), (4, 4, x6), (8, 4, x7), (12, 4, x8), (16, 4, x9), (20, 4, x10), (24, 4, x11), (28, 4, x12), (32, 4, x13), (36, 4, x14), (40, 4, x15), (44, 4, x16), (48, 4, x17), (52, 4, x18), (56, 4, x19), (60, 4, x20)]) fun x21 =>
 zb (
 zb (za (zj .lss x0 (Value.int .i64 1))) fun x23 =>
 zb (gd x23 false (za (some x0))) fun x25 =>
 zb (gd x23 false (za (some x21))) fun x26 =>
 zb (gd x23 false (za (zo x26))) fun x27 =>
 zb (gd x23 false (za (zj .gtr x25 x27))) fun x28 =>
 zb (za (zm x23 (Value.bool true) x28)) fun x29 =>
 zi x29 (
 zb (za (build [Value.int .i64 0, Value.bool false, Value.nilFunc, Value.bool false] [])) fun x30 =>
 zb (stn 4 x2 x30) fun _ =>
 ret (.ret [x2, (Value.bool false)])
 ) (
 ret (.nxt [x0, x2, x21])
 )
 ) fun o => nx o zbad
 ) fun o => zbn o fun vs => zb (ldn 4 (zc vs 0)) fun r0 => ret (zbe [r0, (zc vs 1)])
def zbc8 : Hint := (.seq [] .leaf (.seq [] .leaf (.seq [0, 2, 4] (.seq [] .leaf (.cond (.seq [] .leaf .leaf) .leaf)) (.seq [] .leaf .leaf))))
def zl2 (l : List V) : M V := match l with | [x0] => zy1 x0 | _ => fail
theorem zbm9 (x0 : V) : zbr Tryz.prog (ovr [] noC) zmj zbc8 [x0] = zy1 x0 := by kernel_rfl
theorem zbna : zk Tryz.prog zmj (zl2) := zh (σ := ovr [] noC) (hint := zbc8) (by kernel_rfl) zf fun l H r H' h => by
 unfold zl2 at h; split at h
 · rw [zbm9]; exact h
 · exact (ze h).elim
def zpt (x0 x1 : V) : M V :=
 zb (
 zb (zhp x0) fun x2 =>
 zb (zhl [x1]) fun x6 =>
 zb (gd x6 true (za (zg 0 x2))) fun x8 =>
 zb (gd x6 true (z8 x8)) fun x9 =>
 zb (gd x6 true (za (some x1))) fun x10 =>
 zb (gd x6 true (za (zj .shr x9 x10))) fun x11 =>
 zb (gd x6 true (za (zj .and x11 (Value.int .i64 1)))) fun x12 =>
 zb (gd x6 true (za (zj .eql x12 (Value.int .i64 1)))) fun x13 =>
 zb (za (zm x6 x13 (Value.bool false))) fun x14 =>
 ret (.ret [x14])
 ) fun o => zbn o fun vs => ret (zbe [(zc vs 0)])
def z67 : Hint := (.seq [] .leaf (.seq [] .leaf .leaf))
def ziq (l : List V) : M V := match l with | [x0, x1] => zpt x0 x1 | _ => fail
def z68 : zl := ovr [(zni, zhl)] noC
theorem zbis (x0 x1 : V) : zbr Tryz.prog (z68) zi7 z67 [x0, x1] = zpt x0 x1 := by kernel_rfl
theorem zbit : zk Tryz.prog zi7 (ziq) := zh (σ := z68) (hint := z67) (by kernel_rfl) (zd z0t zf) fun l H r H' h => by
 unfold ziq at h; split at h
 · rw [zbis]; exact h
 · exact (ze h).elim
def zvu (vs : List V) : M Out :=
 zb (za (zg 2 (zc vs 3))) fun x65 =>
 zb (z8 x65) fun x66 =>
 zb (zhz (ovr [(zfn, zms), (zfo, zmt), (zfp, zmu), (zfq, zmv), (zfr, zmw), (zfs, zmx), (zft, zmy), (zfu, zmz), (zfv, zm0), (zez, zkg), (ze0, zkh), (ze1, zki), (ze2, zkj), (ze3, zkk), (ze4, zkl), (ze5, zkm), (zmj, zl2), (zi7, ziq), (zgl, zep), (zin, zg8)] noC) x66 [(zc vs 1), (zc vs 2)]) fun x69 =>
 zb (zg8 [(zc vs 0), x69]) fun x70 =>
 ret (.ret [x70, (Value.int .i64 0)])
def zy2 (x0 x1 x2 x3 x4 : V) : M V :=
 zb (
 zb (zl2 [x0]) fun x16 =>
 zb (za (ext 0 x16)) fun x17 =>
 zb (za (ext 1 x16)) fun x18 =>
 zb (newc [Value.int .i64 0, Value.bool false, Value.nilFunc, Value.bool false]) fun x12 =>
 zb (stn 4 x12 x17) fun _ =>
 zb (
 zb (
 zb (za (un .not x18)) fun x21 =>
 zb (gd x21 false (za (zg 1 x12))) fun x23 =>
 zb (gd x21 false (z8 x23)) fun x24 =>
 zb (gd x21 false (za (some x2))) fun x25 =>
 zb (gd x21 false (za (zhx true (eqK .b x24 x25)))) fun x26 =>
 zb (za (zm x21 (Value.bool true) x26)) fun x27 =>
 zb (gd x27 false (ldn 4 x12)) fun x29 =>
 zb (gd x27 false (za (some x1))) fun x30 =>
 zb (gd x27 false (ziq [x29, x30])) fun x31 =>
 zb (gd x27 false (za (un .not x31))) fun x32 =>
 zb (za (zm x27 (Value.bool true) x32)) fun x33 =>
 zi x33 (
 ret (.ret [(Value.int .i64 0), (Value.int .i64 40)])
 ) (
 zb (zep [x1, x3]) fun x37 =>
 zb (za (un .not x37)) fun x38 =>
 zb (gd x38 false (za (some x1))) fun x40 =>
 zb (gd x38 false (za (some x4))) fun x41 =>
 zb (gd x38 false (zep [x40, x41])) fun x42 =>
 zb (gd x38 false (za (un .not x42))) fun x43 =>
 zb (za (zm x38 (Value.bool true) x43)) fun x44 =>
 zi x44 (
 ret (.ret [(Value.int .i64 0), (Value.int .i64 1)])
 ) (
 zb (za (zj .eql x0 (Value.int .i64 4))) fun x47 =>
 zb (gd x47 false (za (some x0))) fun x49 =>
 zb (gd x47 false (za (zj .eql x49 (Value.int .i64 5)))) fun x50 =>
 zb (za (zm x47 (Value.bool true) x50)) fun x51 =>
 zb (gd x51 true (za (some x4))) fun x53 =>
 zb (gd x51 true (za (zj .eql x53 (Value.int .i64 0)))) fun x54 =>
 zb (za (zm x51 x54 (Value.bool false))) fun x55 =>
 zi x55 (
 ret (.ret [(Value.int .i64 0), (Value.int .i64 41)])
 ) (
 zb (za (zg 3 x12)) fun x57 =>
 zb (z8 x57) fun x58 =>
 zi x58 (
 zb (za (zg 2 x12)) fun x59 =>
 zb (z8 x59) fun x60 =>
 zb (zhz (ovr [(zfn, zms), (zfo, zmt), (zfp, zmu), (zfq, zmv), (zfr, zmw), (zfs, zmx), (zft, zmy), (zfu, zmz), (zfv, zm0), (zez, zkg), (ze0, zkh), (ze1, zki), (ze2, zkj), (ze3, zkk), (ze4, zkl), (ze5, zkm), (zmj, zl2), (zi7, ziq), (zgl, zep), (zin, zg8)] noC) x60 [x3, x4]) fun x63 =>
 ret (.ret [x63, (Value.int .i64 0)])
 ) (
 ret (.nxt [x1, x3, x4, x12])
 )
 )
 )
 )
 ) fun o => ret (zp 0 o)
 ) fun o => nx o zvu
 ) fun o => zbn o fun vs => ret (zbe [(zc vs 0), (zc vs 1)])
def zbc9 : Hint := (.seq [] .leaf (.seq [] .leaf (.seq [1, 3, 4, 12] (.blk (.seq [] .leaf (.cond (.seq [] .leaf .leaf) (.seq [] .leaf (.cond (.seq [] .leaf .leaf) (.seq [] .leaf (.cond (.seq [] .leaf .leaf) (.seq [] .leaf (.cond (.seq [] .leaf .leaf) .leaf))))))))) (.seq [] .leaf .leaf))))
def zoh (l : List V) : M V := match l with | [x0, x1, x2, x3, x4] => zy2 x0 x1 x2 x3 x4 | _ => fail
def zbda : zl := ovr [(zfn, zms), (zfo, zmt), (zfp, zmu), (zfq, zmv), (zfr, zmw), (zfs, zmx), (zft, zmy), (zfu, zmz), (zfv, zm0), (zez, zkg), (ze0, zkh), (ze1, zki), (ze2, zkj), (ze3, zkk), (ze4, zkl), (ze5, zkm), (zmj, zl2), (zi7, ziq), (zgl, zep), (zin, zg8)] noC
theorem zbnb (x0 x1 x2 x3 x4 : V) : zbr Tryz.prog (zbda) ztb zbc9 [x0, x1, x2, x3, x4] = zy2 x0 x1 x2 x3 x4 := by kernel_rfl
theorem zbdb : zk Tryz.prog ztb (zoh) := zh (σ := zbda) (hint := zbc9) (by kernel_rfl) (zd zbib (zd zbid (zd zbif (zd zbih (zd zbij (zd zbil (zd zbin (zd zbip (zd zbir (zd zbey (zd zbe0 (zd zbe2 (zd zbe4 (zd zbe6 (zd zbe8 (zd zbfa (zd zbna (zd zbit (zd zyz (zd z5n zf)))))))))))))))))))) fun l H r H' h => by
 unfold zoh at h; split at h
 · rw [zbnb]; exact h
 · exact (ze h).elim
def z23 (x0 x1 x2 x3 : V) : M V :=
 zb (
 zb (zoh [x0, x1, (Value.bool false), x2, x3]) fun x14 =>
 zb (za (ext 0 x14)) fun x15 =>
 zb (za (ext 1 x14)) fun x16 =>
 ret (.ret [x15, x16])
 ) fun o => zbn o fun vs => ret (zbe [(zc vs 0), (zc vs 1)])
def zbgj : Hint := (.seq [] .leaf (.seq [] .leaf .leaf))
def zxp (l : List V) : M V := match l with | [x0, x1, x2, x3] => z23 x0 x1 x2 x3 | _ => fail
def zbgk : zl := ovr [(ztb, zoh)] noC
theorem zbp4 (x0 x1 x2 x3 : V) : zbr Tryz.prog (zbgk) z0q zbgj [x0, x1, x2, x3] = z23 x0 x1 x2 x3 := by kernel_rfl
theorem zbp5 : zk Tryz.prog z0q (zxp) := zh (σ := zbgk) (hint := zbgj) (by kernel_rfl) (zd zbdb zf) fun l H r H' h => by
 unfold zxp at h; split at h
 · rw [zbp4]; exact h
 · exact (ze h).elim
def zpu (x0 x1 : V) : M V :=
 zb (
 zb (zhp x0) fun x2 =>
 zb (zhp x1) fun x3 =>
 zb (za (zg 1 x3)) fun x8 =>
 zb (z8 x8) fun x9 =>
 zb (za (zg 2 x3)) fun x10 =>
 zb (z8 x10) fun x11 =>
 zb (zxp [x9, x11, (Value.int .i64 1), (Value.int .i64 1)]) fun x12 =>
 zb (za (ext 0 x12)) fun x13 =>
 zb (za (ext 1 x12)) fun x14 =>
 zb (za (zj .eql x14 (Value.int .i64 0))) fun x16 =>
 ret (.ret [x16])
 ) fun o => zbn o fun vs => ret (zbe [(zc vs 0)])
def z01 : Hint := (.seq [] .leaf (.seq [] .leaf (.seq [] .leaf .leaf)))
def zje (l : List V) : M V := match l with | [x0, x1] => zpu x0 x1 | _ => fail
def z02 : zl := ovr [(z0q, zxp)] noC
theorem zbdc (x0 x1 : V) : zbr Tryz.prog (z02) zdy z01 [x0, x1] = zpu x0 x1 := by kernel_rfl
theorem zbdd : zk Tryz.prog zdy (zje) := zh (σ := z02) (hint := z01) (by kernel_rfl) (zd zbp5 zf) fun l H r H' h => by
 unfold zje at h; split at h
 · rw [zbdc]; exact h
 · exact (ze h).elim
def z24 (x0 x1 x2 : V) : M V :=
 zb (
 zb (zoh [x0, x1, (Value.bool true), x2, x2]) fun x12 =>
 zb (za (ext 0 x12)) fun x13 =>
 zb (za (ext 1 x12)) fun x14 =>
 ret (.ret [x13, x14])
 ) fun o => zbn o fun vs => ret (zbe [(zc vs 0), (zc vs 1)])
def zbgl : Hint := (.seq [] .leaf (.seq [] .leaf .leaf))
def zxq (l : List V) : M V := match l with | [x0, x1, x2] => z24 x0 x1 x2 | _ => fail
def zbgm : zl := ovr [(ztb, zoh)] noC
theorem zbp6 (x0 x1 x2 : V) : zbr Tryz.prog (zbgm) z0r zbgl [x0, x1, x2] = z24 x0 x1 x2 := by kernel_rfl
theorem zbp7 : zk Tryz.prog z0r (zxq) := zh (σ := zbgm) (hint := zbgl) (by kernel_rfl) (zd zbdb zf) fun l H r H' h => by
 unfold zxq at h; split at h
 · rw [zbp6]; exact h
 · exact (ze h).elim
def zpv (x0 x1 : V) : M V :=
 zb (
 zb (zhp x0) fun x2 =>
 zb (zhp x1) fun x3 =>
 zb (za (zg 1 x3)) fun x8 =>
 zb (z8 x8) fun x9 =>
 zb (za (zg 2 x3)) fun x10 =>
 zb (z8 x10) fun x11 =>
 zb (zxq [x9, x11, (Value.int .i64 1)]) fun x12 =>
 zb (za (ext 0 x12)) fun x13 =>
 zb (za (ext 1 x12)) fun x14 =>
 zb (za (zj .eql x14 (Value.int .i64 0))) fun x16 =>
 ret (.ret [x16])
 ) fun o => zbn o fun vs => ret (zbe [(zc vs 0)])
def z03 : Hint := (.seq [] .leaf (.seq [] .leaf (.seq [] .leaf .leaf)))
def zjf (l : List V) : M V := match l with | [x0, x1] => zpv x0 x1 | _ => fail
def z04 : zl := ovr [(z0r, zxq)] noC
theorem zbde (x0 x1 : V) : zbr Tryz.prog (z04) zdz z03 [x0, x1] = zpv x0 x1 := by kernel_rfl
theorem zbdf : zk Tryz.prog zdz (zjf) := zh (σ := z04) (hint := z03) (by kernel_rfl) (zd zbp7 zf) fun l H r H' h => by
 unfold zjf at h; split at h
 · rw [zbde]; exact h
 · exact (ze h).elim
def z05 (vs : List V) : M Out :=
 zb (zg8 [(zc vs 0), (zc vs 1)]) fun x31 =>
 ret (.ret [x31, (Value.int .i64 0)])
def zi0 (x0 x1 x2 : V) : M V :=
 zb (
 zb (
 zb (
 zb (zhl [x0]) fun x10 =>
 zb (za (un .not x10)) fun x11 =>
 zb (gd x11 false (za (some x1))) fun x13 =>
 zb (gd x11 false (zhl [x13])) fun x14 =>
 zb (gd x11 false (za (un .not x14))) fun x15 =>
 zb (za (zm x11 (Value.bool true) x15)) fun x16 =>
 zb (gd x16 false (za (some x0))) fun x18 =>
 zb (gd x16 false (za (zj .eql x18 (Value.int .i64 1)))) fun x19 =>
 zb (gd x16 false (za (some x1))) fun x20 =>
 zb (gd x16 false (za (zj .eql x20 (Value.int .i64 1)))) fun x21 =>
 zb (gd x16 false (za (zhx true (eqK .b x19 x21)))) fun x22 =>
 zb (za (zm x16 (Value.bool true) x22)) fun x23 =>
 zi x23 (
 ret (.ret [(Value.int .i64 0), (Value.int .i64 40)])
 ) (
 zb (zep [x0, x2]) fun x27 =>
 zb (za (un .not x27)) fun x28 =>
 zi x28 (
 ret (.ret [(Value.int .i64 0), (Value.int .i64 1)])
 ) (
 ret (.nxt [x1, x2])
 )
 )
 ) fun o => ret (zp 0 o)
 ) fun o => nx o z05
 ) fun o => zbn o fun vs => ret (zbe [(zc vs 0), (zc vs 1)])
def z39 : Hint := (.seq [] .leaf (.seq [1, 2] (.blk (.seq [] .leaf (.cond (.seq [] .leaf .leaf) (.seq [] .leaf (.cond (.seq [] .leaf .leaf) .leaf))))) (.seq [] .leaf .leaf)))
def znq (l : List V) : M V := match l with | [x0, x1, x2] => zi0 x0 x1 x2 | _ => fail
def z4a : zl := ovr [(zni, zhl), (zgl, zep), (zin, zg8)] noC
theorem zbfb (x0 x1 x2 : V) : zbr Tryz.prog (z4a) zsi z39 [x0, x1, x2] = zi0 x0 x1 x2 := by kernel_rfl
theorem zbfc : zk Tryz.prog zsi (znq) := zh (σ := z4a) (hint := z39) (by kernel_rfl) (zd z0t (zd zyz (zd z5n zf))) fun l H r H' h => by
 unfold znq at h; split at h
 · rw [zbfb]; exact h
 · exact (ze h).elim
def zpw (x0 x1 : V) : M V :=
 zb (
 zb (zhp x0) fun x2 =>
 zb (zhp x1) fun x3 =>
 zb (za (zg 1 x3)) fun x8 =>
 zb (z8 x8) fun x9 =>
 zb (za (zg 2 x3)) fun x10 =>
 zb (z8 x10) fun x11 =>
 zb (znq [x9, x11, (Value.int .i64 0)]) fun x12 =>
 zb (za (ext 0 x12)) fun x13 =>
 zb (za (ext 1 x12)) fun x14 =>
 zb (za (zj .eql x14 (Value.int .i64 0))) fun x16 =>
 ret (.ret [x16])
 ) fun o => zbn o fun vs => ret (zbe [(zc vs 0)])
def z06 : Hint := (.seq [] .leaf (.seq [] .leaf (.seq [] .leaf .leaf)))
def zjg (l : List V) : M V := match l with | [x0, x1] => zpw x0 x1 | _ => fail
def z07 : zl := ovr [(zsi, znq)] noC
theorem zbdg (x0 x1 : V) : zbr Tryz.prog (z07) zd0 z06 [x0, x1] = zpw x0 x1 := by kernel_rfl
theorem zbdh : zk Tryz.prog zd0 (zjg) := zh (σ := z07) (hint := z06) (by kernel_rfl) (zd zbfc zf) fun l H r H' h => by
 unfold zjg at h; split at h
 · rw [zbdg]; exact h
 · exact (ze h).elim
def zy3 (x0 x1 : V) : M V :=
 zb (
 zb (newc [Value.string ⟨#[]⟩, Value.int .i64 0, Value.bool false]) fun x4 =>
 zb (za (build [Value.string ⟨#[]⟩, Value.int .i64 0, Value.bool false] [(0, 1, x0), (1, 1, x1), (2, 1, (Value.bool true))])) fun x7 =>
 zb (stn 3 x4 x7) fun _ =>
 ret (.ret [x4])
 ) fun o => zbn o fun vs => zb (ldn 3 (zc vs 0)) fun r0 => ret (zbe [r0])
def zbdi : Hint := (.seq [] .leaf (.seq [] .leaf .leaf))
def zdi (l : List V) : M V := match l with | [x0, x1] => zy3 x0 x1 | _ => fail
theorem zbnc (x0 x1 : V) : zbr Tryz.prog (ovr [] noC) zyo zbdi [x0, x1] = zy3 x0 x1 := by kernel_rfl
theorem zbnd : zk Tryz.prog zyo (zdi) := zh (σ := ovr [] noC) (hint := zbdi) (by kernel_rfl) zf fun l H r H' h => by
 unfold zdi at h; split at h
 · rw [zbnc]; exact h
 · exact (ze h).elim
def zvv (x0 x1 : V) : M V :=
 zb (
 zb (newc [Value.string ⟨#[]⟩, Value.int .i64 0, Value.bool false]) fun x4 =>
 zb (za (build [Value.string ⟨#[]⟩, Value.int .i64 0, Value.bool false] [(0, 1, x0), (1, 1, x1), (2, 1, (Value.bool false))])) fun x7 =>
 zb (stn 3 x4 x7) fun _ =>
 ret (.ret [x4])
 ) fun o => zbn o fun vs => zb (ldn 3 (zc vs 0)) fun r0 => ret (zbe [r0])
def zbae : Hint := (.seq [] .leaf (.seq [] .leaf .leaf))
def zck (l : List V) : M V := match l with | [x0, x1] => zvv x0 x1 | _ => fail
theorem zbk4 (x0 x1 : V) : zbr Tryz.prog (ovr [] noC) zwf zbae [x0, x1] = zvv x0 x1 := by kernel_rfl
theorem zbk5 : zk Tryz.prog zwf (zck) := zh (σ := ovr [] noC) (hint := zbae) (by kernel_rfl) zf fun l H r H' h => by
 unfold zck at h; split at h
 · rw [zbk4]; exact h
 · exact (ze h).elim
def zc9 (vs_2 : List V) : M Out :=
 zi (zc vs_2 1) (
 zb (zdi [(Value.string ⟨#[67, 76, 75]⟩), (Value.int .i64 1)]) fun x37 =>
 zb (zck [(Value.string ⟨#[81]⟩), (Value.int .i64 1)]) fun x38 =>
 zb (zck [(Value.string ⟨#[77]⟩), (Value.int .i64 1)]) fun x39 =>
 zb (zfb 3 3 (rep 3 [Value.string ⟨#[]⟩, Value.int .i64 0, Value.bool false]) [(0, 3, x37), (3, 3, x38), (6, 3, x39)]) fun x40 =>
 ret (.ret [x40, (Value.int .i64 0)])
 ) (
 zb (za (zj .eql (zc vs_2 0) (Value.int .i64 8))) fun x42 =>
 zi x42 (
 zb (zdi [(Value.string ⟨#[83, 49]⟩), (Value.int .i64 1)]) fun x43 =>
 zb (zdi [(Value.string ⟨#[82]⟩), (Value.int .i64 1)]) fun x44 =>
 zb (zck [(Value.string ⟨#[81, 49]⟩), (Value.int .i64 1)]) fun x45 =>
 zb (zfb 3 3 (rep 3 [Value.string ⟨#[]⟩, Value.int .i64 0, Value.bool false]) [(0, 3, x43), (3, 3, x44), (6, 3, x45)]) fun x46 =>
 ret (.ret [x46, (Value.int .i64 0)])
 ) (
 zb (za (zj .eql (zc vs_2 0) (Value.int .i64 9))) fun x48 =>
 zi x48 (
 zb (zdi [(Value.string ⟨#[83]⟩), (Value.int .i64 1)]) fun x49 =>
 zb (zdi [(Value.string ⟨#[82, 49]⟩), (Value.int .i64 1)]) fun x50 =>
 zb (zck [(Value.string ⟨#[81, 49]⟩), (Value.int .i64 1)]) fun x51 =>
 zb (zfb 3 3 (rep 3 [Value.string ⟨#[]⟩, Value.int .i64 0, Value.bool false]) [(0, 3, x49), (3, 3, x50), (6, 3, x51)]) fun x52 =>
 ret (.ret [x52, (Value.int .i64 0)])
 ) (
 zb (za (zj .eql (zc vs_2 0) (Value.int .i64 10))) fun x54 =>
 zi x54 (
 zb (zdi [(Value.string ⟨#[65]⟩), (Value.int .i64 1)]) fun x55 =>
 zb (zdi [(Value.string ⟨#[66]⟩), (Value.int .i64 1)]) fun x56 =>
 zb (zdi [(Value.string ⟨#[82]⟩), (Value.int .i64 1)]) fun x57 =>
 zb (zck [(Value.string ⟨#[67, 86]⟩), (Value.int .i64 3)]) fun x58 =>
 zb (zck [(Value.string ⟨#[69, 82, 82]⟩), (Value.int .i64 1)]) fun x59 =>
 zb (zck [(Value.string ⟨#[76, 65, 83, 84]⟩), (Value.int .i64 2)]) fun x60 =>
 zb (zfb 3 6 (rep 6 [Value.string ⟨#[]⟩, Value.int .i64 0, Value.bool false]) [(0, 3, x55), (3, 3, x56), (6, 3, x57), (9, 3, x58), (12, 3, x59), (15, 3, x60)]) fun x61 =>
 ret (.ret [x61, (Value.int .i64 0)])
 ) (
 ret (.nxt [])
 )
 )
 )
 )
def zda (vs : List V) : M Out :=
 zi (zc vs 1) (
 zb (zdi [(Value.string ⟨#[73, 78]⟩), (Value.int .i64 1)]) fun x9 =>
 zb (zdi [(Value.string ⟨#[80, 84]⟩), (Value.int .i64 4)]) fun x10 =>
 zb (zck [(Value.string ⟨#[81]⟩), (Value.int .i64 1)]) fun x11 =>
 zb (zck [(Value.string ⟨#[69, 84]⟩), (Value.int .i64 4)]) fun x12 =>
 zb (zck [(Value.string ⟨#[83, 84, 65, 82, 84]⟩), (Value.int .i64 4)]) fun x13 =>
 zb (zck [(Value.string ⟨#[82, 85, 78]⟩), (Value.int .i64 1)]) fun x14 =>
 zb (zfb 3 6 (rep 6 [Value.string ⟨#[]⟩, Value.int .i64 0, Value.bool false]) [(0, 3, x9), (3, 3, x10), (6, 3, x11), (9, 3, x12), (12, 3, x13), (15, 3, x14)]) fun x15 =>
 ret (.ret [x15, (Value.int .i64 0)])
 ) (
 zb (za (zj .eql (zc vs 0) (Value.int .i64 4))) fun x17 =>
 zi x17 (
 zb (zdi [(Value.string ⟨#[67, 85]⟩), (Value.int .i64 1)]) fun x18 =>
 zb (zdi [(Value.string ⟨#[82]⟩), (Value.int .i64 1)]) fun x19 =>
 zb (zdi [(Value.string ⟨#[80, 86]⟩), (Value.int .i64 2)]) fun x20 =>
 zb (zck [(Value.string ⟨#[81]⟩), (Value.int .i64 1)]) fun x21 =>
 zb (zck [(Value.string ⟨#[67, 86]⟩), (Value.int .i64 2)]) fun x22 =>
 zb (zck [(Value.string ⟨#[77]⟩), (Value.int .i64 1)]) fun x23 =>
 zb (zfb 3 6 (rep 6 [Value.string ⟨#[]⟩, Value.int .i64 0, Value.bool false]) [(0, 3, x18), (3, 3, x19), (6, 3, x20), (9, 3, x21), (12, 3, x22), (15, 3, x23)]) fun x24 =>
 ret (.ret [x24, (Value.int .i64 0)])
 ) (
 zb (za (zj .eql (zc vs 0) (Value.int .i64 5))) fun x26 =>
 zi x26 (
 zb (zdi [(Value.string ⟨#[67, 68]⟩), (Value.int .i64 1)]) fun x27 =>
 zb (zdi [(Value.string ⟨#[76, 68]⟩), (Value.int .i64 1)]) fun x28 =>
 zb (zdi [(Value.string ⟨#[80, 86]⟩), (Value.int .i64 2)]) fun x29 =>
 zb (zck [(Value.string ⟨#[81]⟩), (Value.int .i64 1)]) fun x30 =>
 zb (zck [(Value.string ⟨#[67, 86]⟩), (Value.int .i64 2)]) fun x31 =>
 zb (zck [(Value.string ⟨#[77]⟩), (Value.int .i64 1)]) fun x32 =>
 zb (zfb 3 6 (rep 6 [Value.string ⟨#[]⟩, Value.int .i64 0, Value.bool false]) [(0, 3, x27), (3, 3, x28), (6, 3, x29), (9, 3, x30), (12, 3, x31), (15, 3, x32)]) fun x33 =>
 ret (.ret [x33, (Value.int .i64 0)])
 ) (
 zb (
 zb (za (zj .eql (zc vs 0) (Value.int .i64 6))) fun x35 =>
 zi x35 (
 ret (.nxt [(zc vs 0), x35])
 ) (
 zb (za (zj .eql (zc vs 0) (Value.int .i64 7))) fun x36 =>
 ret (.nxt [(zc vs 0), x36])
 )
 ) fun o => nx o zc9
 )
 )
 )
def zzl (vs_3 : List V) : M Out :=
 ret (.ret [(Value.slice none 0 0), (Value.int .i64 92)])
def zpx (x0 : V) : M V :=
 zb (
 zb (
 zb (
 zb (
 zb (za (zj .eql x0 (Value.int .i64 1))) fun x6 =>
 zi x6 (
 ret (.nxt [x0, x6])
 ) (
 zb (za (zj .eql x0 (Value.int .i64 2))) fun x7 =>
 zi x7 (
 ret (.nxt [x0, x7])
 ) (
 zb (za (zj .eql x0 (Value.int .i64 3))) fun x8 =>
 ret (.nxt [x0, x8])
 )
 )
 ) fun o => nx o zda
 ) fun o => ret (zp 0 o)
 ) fun o => nx o zzl
 ) fun o => zbn o fun vs => ret (zbe [(zc vs 0), (zc vs 1)])
def z08 : Hint := (.seq [] .leaf (.seq [] (.seq [] .leaf (.blk (.seq [4, 5] (.seq [] .leaf (.cond .leaf (.seq [] .leaf (.cond .leaf .leaf)))) (.cond (.seq [] .leaf .leaf) (.seq [] .leaf (.cond (.seq [] .leaf .leaf) (.seq [] .leaf (.cond (.seq [] .leaf .leaf) (.seq [4, 34] (.seq [] .leaf (.cond .leaf .leaf)) (.cond (.seq [] .leaf .leaf) (.seq [] .leaf (.cond (.seq [] .leaf .leaf) (.seq [] .leaf (.cond (.seq [] .leaf .leaf) (.seq [] .leaf (.cond (.seq [] .leaf .leaf) .leaf)))))))))))))))) (.seq [] .leaf .leaf)))
def zl3 (l : List V) : M V := match l with | [x0] => zpx x0 | _ => fail
def z09 : zl := ovr [(zyo, zdi), (zwf, zck)] noC
theorem zbdj (x0 : V) : zbr Tryz.prog (z09) zq0 z08 [x0] = zpx x0 := by kernel_rfl
theorem zbdk : zk Tryz.prog zq0 (zl3) := zh (σ := z09) (hint := z08) (by kernel_rfl) (zd zbnd (zd zbk5 zf)) fun l H r H' h => by
 unfold zl3 at h; split at h
 · rw [zbdj]; exact h
 · exact (ze h).elim
def zdp (S : zl) (vs_4 : List V) : M Out :=
 zb (za (zj .add (zc vs_4 4) (Value.int .i64 1))) fun x31 =>
 ret (.nxt [(zc vs_4 0), (zc vs_4 1), (zc vs_4 2), (zc vs_4 3), x31])
def zdq (S : zl) (vs_3 : List V) : M Out :=
 zb (
 zb (
 zb (za (zbo 1 (zc vs_3 2) (zc vs_3 4))) fun x20 =>
 zb (z8 x20) fun x21 =>
 zb (za (zbo 3 (zc vs_3 0) (zc vs_3 4))) fun x24 =>
 zb (ldn 3 x24) fun x25 =>
 zb (newc [Value.string ⟨#[]⟩, Value.int .i64 0, Value.bool false]) fun x9 =>
 zb (stn 3 x9 x25) fun _ =>
 zb (ldn 3 x9) fun x28 =>
 zb (zhz (ovr [] S) (zc vs_3 1) [x21, x28]) fun x29 =>
 zb (za (un .not x29)) fun x30 =>
 zi x30 (
 ret (.ret [(Value.bool false)])
 ) (
 ret (.nxt [(zc vs_3 0), (zc vs_3 1), (zc vs_3 2), (zc vs_3 3), (zc vs_3 4)])
 )
 ) fun o => ret (zp 1 o)
 ) fun o => nx o (zdp S)
def zca (S : zl) (vs_2 : List V) : M Out :=
 zb (za (zj .lss (zc vs_2 4) (zc vs_2 3))) fun x18 =>
 zb (
 zi x18 (
 ret (.nxt [(zc vs_2 0), (zc vs_2 1), (zc vs_2 2), (zc vs_2 3), (zc vs_2 4)])
 ) (
 ret (.brk 0 [])
 )
 ) fun o => nx o (zdq S)
def zdr (S : zl) (vs_5 : List V) : M Out :=
 ret (.ret [(Value.bool true)])
def zds (S : zl) (vs : List V) : M Out :=
 zb (
 zb (za (zo (zc vs 0))) fun x16 =>
 zb (
 zcg zcb (zca S) [(zc vs 1), (zc vs 2), (zc vs 0), x16, (Value.int .i64 0)]
 ) fun o => ret (zp 0 o)
 ) fun o => nx o (zdr S)
def zt (S : zl) (x0 x1 x2 : V) : M V :=
 zb (
 zb (
 zb (za (zo x0)) fun x11 =>
 zb (za (zo x1)) fun x13 =>
 zb (za (zj .neq x11 x13)) fun x14 =>
 zi x14 (
 ret (.ret [(Value.bool false)])
 ) (
 ret (.nxt [x0, x1, x2])
 )
 ) fun o => nx o (zds S)
 ) fun o => zbn o fun vs => ret (zbe [(zc vs 0)])
def zdt : Hint := (.seq [] .leaf (.seq [0, 1, 2] (.seq [] .leaf (.cond (.seq [] .leaf .leaf) .leaf)) (.seq [] (.seq [] .leaf (.blk (.loop [1, 2, 15, 16, 17] (.seq [] .leaf (.seq [1, 2, 15, 16, 17] (.cond .leaf .leaf) (.seq [1, 2, 15, 16, 17] (.blk (.seq [] .leaf (.seq [] .leaf (.seq [] .leaf (.cond (.seq [] .leaf .leaf) .leaf))))) .leaf)))))) (.seq [] .leaf .leaf))))
def zu (S : zl) (l : List V) : M V := match l with | [x0, x1, x2] => zt S x0 x1 x2 | _ => fail
theorem zg9 (S : zl) (x0 x1 x2 : V) : zbr Tryz.prog (ovr [] S) zb8 zdt [x0, x1, x2] = zt S x0 x1 x2 := by kernel_rfl
theorem zha {S : zl} (hS : zi5 Tryz.prog S) : zk Tryz.prog zb8 (zu S) := zh (σ := ovr [] S) (hint := zdt) (by kernel_rfl) (zr2 hS) fun l H r H' h => by
 unfold zu at h; split at h
 · rw [zg9]; exact h
 · exact (ze h).elim
def zjh (x0 x1 : V) : M V :=
 zb (
 zb (zhp x1) fun x3 =>
 zb (za (zg 1 x3)) fun x6 =>
 zb (z8 x6) fun x7 =>
 zb (za (zj .eql x0 x7)) fun x8 =>
 ret (.ret [x8])
 ) fun o => zbn o fun vs => ret (zbe [(zc vs 0)])
def zxr : Hint := (.seq [] .leaf (.seq [] .leaf .leaf))
def zhv (l : List V) : M V := match l with | [x0, x1] => zjh x0 x1 | _ => fail
theorem z87 (x0 x1 : V) : zbr Tryz.prog (ovr [] noC) zdo zxr [x0, x1] = zjh x0 x1 := by kernel_rfl
theorem z88 : zk Tryz.prog zdo (zhv) := zh (σ := ovr [] noC) (hint := zxr) (by kernel_rfl) zf fun l H r H' h => by
 unfold zhv at h; split at h
 · rw [z87]; exact h
 · exact (ze h).elim
def zpy (x0 x1 : V) : M V :=
 zb (
 zb (zhp x0) fun x2 =>
 zb (zhp x1) fun x3 =>
 zb (za (zg 1 x3)) fun x9 =>
 zb (z8 x9) fun x10 =>
 zb (zl3 [x10]) fun x11 =>
 zb (za (ext 0 x11)) fun x12 =>
 zb (za (ext 1 x11)) fun x13 =>
 zb (ldn 6 x2) fun x14 =>
 zb (za (zg 2 x3)) fun x15 =>
 zb (z8 x15) fun x16 =>
 zb (za (zo x12)) fun x18 =>
 zb (zhi [x14, x16, x18]) fun x19 =>
 zb (za (zj .eql x13 (Value.int .i64 0))) fun x21 =>
 zb (gd x21 true (za (some x19))) fun x23 =>
 zb (gd x21 true (za (some x12))) fun x24 =>
 zb (gd x21 true ((zu (ovr [(zdo, zhv)] noC)) [x23, x24, (Value.func (.func zdo) #[] #[])])) fun x25 =>
 zb (za (zm x21 x25 (Value.bool false))) fun x26 =>
 ret (.ret [x26])
 ) fun o => zbn o fun vs => ret (zbe [(zc vs 0)])
def z1a : Hint := (.seq [] .leaf (.seq [] .leaf (.seq [] .leaf (.seq [] .leaf .leaf))))
def zji (l : List V) : M V := match l with | [x0, x1] => zpy x0 x1 | _ => fail
def z1b : zl := ovr [(zq0, zl3), (zla, zhi), (zb8, zu (ovr [(zdo, zhv)] noC))] noC
theorem zbdl (x0 x1 : V) : zbr Tryz.prog (z1b) zd1 z1a [x0, x1] = zpy x0 x1 := by kernel_rfl
theorem zbdm : zk Tryz.prog zd1 (zji) := zh (σ := z1b) (hint := z1a) (by kernel_rfl) (zd zbdk (zd zy0 (zd (zha (zd z88 zf)) zf))) fun l H r H' h => by
 unfold zji at h; split at h
 · rw [zbdl]; exact h
 · exact (ze h).elim
def zpz (x0 x1 : V) : M V :=
 zb (
 zb (zhp x0) fun x2 =>
 zb (zhp x1) fun x3 =>
 ret (.ret [(Value.bool true)])
 ) fun o => zbn o fun vs => ret (zbe [(zc vs 0)])
def z1c : Hint := (.seq [] .leaf (.seq [] .leaf .leaf))
def zjj (l : List V) : M V := match l with | [x0, x1] => zpz x0 x1 | _ => fail
theorem zbdn (x0 x1 : V) : zbr Tryz.prog (ovr [] noC) zd2 z1c [x0, x1] = zpz x0 x1 := by kernel_rfl
theorem zbdo : zk Tryz.prog zd2 (zjj) := zh (σ := ovr [] noC) (hint := z1c) (by kernel_rfl) zf fun l H r H' h => by
 unfold zjj at h; split at h
 · rw [zbdn]; exact h
 · exact (ze h).elim
def ztw : M V :=
 zb (
 zb (za (build [Value.bool false, Value.bool false, Value.bool false, Value.nilFunc] [(0, 1, (Value.bool true)), (3, 1, (Value.func (.func zcl) #[] #[]))])) fun x4 =>
 zb (newc [Value.bool false, Value.bool false, Value.bool false, Value.nilFunc]) fun x1 =>
 zb (stn 4 x1 x4) fun _ =>
 zb (za (build [Value.bool false, Value.bool false, Value.bool false, Value.nilFunc] [(0, 1, (Value.bool true)), (1, 1, (Value.bool true)), (3, 1, (Value.func (.func zdf) #[] #[]))])) fun x5 =>
 zb (newc [Value.bool false, Value.bool false, Value.bool false, Value.nilFunc]) fun x2 =>
 zb (stn 4 x2 x5) fun _ =>
 zb (za (build [Value.bool false, Value.bool false, Value.bool false, Value.nilFunc] [(0, 1, (Value.bool true)), (3, 1, (Value.func (.func zdg) #[] #[]))])) fun x6 =>
 zb (newc [Value.bool false, Value.bool false, Value.bool false, Value.nilFunc]) fun x3 =>
 zb (stn 4 x3 x6) fun _ =>
 zb (za (build [Value.bool false, Value.bool false, Value.bool false, Value.nilFunc] [(0, 1, (Value.bool true)), (2, 1, (Value.bool true)), (3, 1, (Value.func (.func zdh) #[] #[]))])) fun x7 =>
 zb (ldn 4 x1) fun x8 =>
 zb (ldn 4 x1) fun x9 =>
 zb (ldn 4 x2) fun x10 =>
 zb (ldn 4 x2) fun x11 =>
 zb (za (build [Value.bool false, Value.bool false, Value.bool false, Value.nilFunc] [(0, 1, (Value.bool true)), (1, 1, (Value.bool true)), (3, 1, (Value.func (.func zdy) #[] #[]))])) fun x12 =>
 zb (za (build [Value.bool false, Value.bool false, Value.bool false, Value.nilFunc] [(0, 1, (Value.bool true)), (1, 1, (Value.bool true)), (3, 1, (Value.func (.func zdz) #[] #[]))])) fun x13 =>
 zb (za (build [Value.bool false, Value.bool false, Value.bool false, Value.nilFunc] [(0, 1, (Value.bool true)), (1, 1, (Value.bool true)), (3, 1, (Value.func (.func zd0) #[] #[]))])) fun x14 =>
 zb (ldn 4 x3) fun x15 =>
 zb (ldn 4 x3) fun x16 =>
 zb (za (build [Value.bool false, Value.bool false, Value.bool false, Value.nilFunc] [(0, 1, (Value.bool true)), (1, 1, (Value.bool true)), (3, 1, (Value.func (.func zd1) #[] #[]))])) fun x17 =>
 zb (za (build [Value.bool false, Value.bool false, Value.bool false, Value.nilFunc] [(3, 1, (Value.func (.func zd2) #[] #[]))])) fun x18 =>
 zb (zfb 4 12 (rep 12 [Value.bool false, Value.bool false, Value.bool false, Value.nilFunc]) [(0, 4, x7), (4, 4, x8), (8, 4, x9), (12, 4, x10), (16, 4, x11), (20, 4, x12), (24, 4, x13), (28, 4, x14), (32, 4, x15), (36, 4, x16), (40, 4, x17), (44, 4, x18)]) fun x19 =>
 ret (.ret [x19])
 ) fun o => zbn o fun vs => ret (zbe [(zc vs 0)])
def z69 : Hint := (.seq [] .leaf (.seq [] .leaf (.seq [] .leaf (.seq [] .leaf (.seq [] .leaf .leaf)))))
def zm1 (l : List V) : M V := match l with | [] => ztw  | _ => fail
theorem zbiu : zbr Tryz.prog (ovr [] noC) zpe z69 [] = ztw  := by kernel_rfl
theorem zbiv : zk Tryz.prog zpe (zm1) := zh (σ := ovr [] noC) (hint := z69) (by kernel_rfl) zf fun l H r H' h => by
 unfold zm1 at h; split at h
 · rw [zbiu]; exact h
 · exact (ze h).elim
def zbaf (vs : List V) : M Out :=
 zb (za (zg 0 (zc vs 2))) fun x19 =>
 zb (z8 x19) fun x20 =>
 zb (za (zj .sub x20 (Value.int .i64 1))) fun x21 =>
 zb (za (zbo 4 (zc vs 0) x21)) fun x22 =>
 zb (ldn 4 x22) fun x23 =>
 zb (newc [Value.bool false, Value.bool false, Value.bool false, Value.nilFunc]) fun x7 =>
 zb (stn 4 x7 x23) fun _ =>
 zb (za (zg 0 x7)) fun x24 =>
 zb (z8 x24) fun x25 =>
 zb (gd x25 false (za (zg 1 (zc vs 2)))) fun x27 =>
 zb (gd x25 false (z8 x27)) fun x28 =>
 zb (gd x25 false (za (zj .eql x28 (Value.int .i64 0)))) fun x29 =>
 zb (za (zm x25 (Value.bool true) x29)) fun x30 =>
 zb (gd x30 true (za (zg 1 x7))) fun x32 =>
 zb (gd x30 true (z8 x32)) fun x33 =>
 zb (gd x30 true (za (some x33))) fun x34 =>
 zb (gd x34 false (za (zg 2 (zc vs 2)))) fun x35 =>
 zb (gd x34 false (z8 x35)) fun x36 =>
 zb (gd x34 false (za (zj .eql x36 (Value.int .i64 0)))) fun x37 =>
 zb (gd x30 true (za (zm x34 (Value.bool true) x37))) fun x38 =>
 zb (za (zm x30 x38 (Value.bool false))) fun x39 =>
 zb (gd x39 true (za (zg 2 x7))) fun x41 =>
 zb (gd x39 true (z8 x41)) fun x42 =>
 zb (gd x39 true (za (some x42))) fun x43 =>
 zb (gd x43 false (za (zg 3 (zc vs 2)))) fun x44 =>
 zb (gd x43 false (z8 x44)) fun x45 =>
 zb (gd x43 false (za (zj .eql x45 (Value.int .i64 0)))) fun x46 =>
 zb (gd x39 true (za (zm x43 (Value.bool true) x46))) fun x47 =>
 zb (za (zm x39 x47 (Value.bool false))) fun x48 =>
 zb (gd x48 true (za (zg 3 x7))) fun x50 =>
 zb (gd x48 true (z8 x50)) fun x51 =>
 zb (gd x48 true (ldn 6 (zc vs 1))) fun x52 =>
 zb (gd x48 true (ldn 4 (zc vs 2))) fun x53 =>
 zb (gd x48 true (zhz (ovr [(zcl, zja), (zdf, zjb), (zdg, zjc), (zdh, zjd), (zdy, zje), (zdz, zjf), (zd0, zjg), (zd1, zji), (zd2, zjj)] noC) x51 [x52, x53])) fun x54 =>
 zb (za (zm x48 x54 (Value.bool false))) fun x55 =>
 ret (.ret [x55])
def zy4 (x0 x1 x2 : V) : M V :=
 zb (
 zb (zhp x0) fun x3 =>
 zb (zhp x1) fun x4 =>
 zb (
 zb (za (zg 0 x4)) fun x8 =>
 zb (z8 x8) fun x9 =>
 zb (za (zj .lss x9 (Value.int .i64 1))) fun x10 =>
 zb (gd x10 false (za (zg 0 x4))) fun x12 =>
 zb (gd x10 false (z8 x12)) fun x13 =>
 zb (gd x10 false (za (some x2))) fun x14 =>
 zb (gd x10 false (za (zo x14))) fun x15 =>
 zb (gd x10 false (za (zj .gtr x13 x15))) fun x16 =>
 zb (za (zm x10 (Value.bool true) x16)) fun x17 =>
 zi x17 (
 ret (.ret [(Value.bool false)])
 ) (
 ret (.nxt [x2, x3, x4])
 )
 ) fun o => nx o zbaf
 ) fun o => zbn o fun vs => ret (zbe [(zc vs 0)])
def zbdp : Hint := (.seq [] .leaf (.seq [2, 3, 4] (.seq [] .leaf (.cond (.seq [] .leaf .leaf) .leaf)) (.seq [] .leaf (.seq [] .leaf .leaf))))
def zuz (l : List V) : M V := match l with | [x0, x1, x2] => zy4 x0 x1 x2 | _ => fail
def zbdq : zl := ovr [(zcl, zja), (zdf, zjb), (zdg, zjc), (zdh, zjd), (zdy, zje), (zdz, zjf), (zd0, zjg), (zd1, zji), (zd2, zjj)] noC
theorem zbne (x0 x1 x2 : V) : zbr Tryz.prog (zbdq) zyn zbdp [x0, x1, x2] = zy4 x0 x1 x2 := by kernel_rfl
theorem zbnf : zk Tryz.prog zyn (zuz) := zh (σ := zbdq) (hint := zbdp) (by kernel_rfl) (zd zbc0 (zd zbc2 (zd zbc4 (zd zbc6 (zd zbdd (zd zbdf (zd zbdh (zd zbdm (zd zbdo zf))))))))) fun l H r H' h => by
 unfold zuz at h; split at h
 · rw [zbne]; exact h
 · exact (ze h).elim
def zp0 (x0 x1 x2 : V) : M V :=
 zb (
 zb (zhp x0) fun x3 =>
 zb (ldn 6 x1) fun x5 =>
 zb (ldn 4 x3) fun x6 =>
 zb (z8 x2) fun x7 =>
 zb (zuz [x5, x6, x7]) fun x8 =>
 zb (za (un .not x8)) fun x9 =>
 ret (.ret [x9])
 ) fun o => zbn o fun vs => ret (zbe [(zc vs 0)])
def z1d : Hint := (.seq [] .leaf (.seq [] .leaf .leaf))
def zl4 (l : List V) : M V := match l with | [x0, x1, x2] => zp0 x0 x1 x2 | _ => fail
def z1e : zl := ovr [(zyn, zuz)] noC
theorem zbdr (x0 x1 x2 : V) : zbr Tryz.prog (z1e) zhu z1d [x0, x1, x2] = zp0 x0 x1 x2 := by kernel_rfl
theorem zbds : zk Tryz.prog zhu (zl4) := zh (σ := z1e) (hint := z1d) (by kernel_rfl) (zd zbnf zf) fun l H r H' h => by
 unfold zl4 at h; split at h
 · rw [zbdr]; exact h
 · exact (ze h).elim
def zf1 (S : zl) (vs_3 : List V) : M Out :=
 zb (za (zj .add (zc vs_3 3) (Value.int .i64 1))) fun x18 =>
 ret (.nxt [(zc vs_3 0), (zc vs_3 1), (zc vs_3 2), x18])
def zf2 (S : zl) (vs_2 : List V) : M Out :=
 zb (
 zb (
 zb (za (zbo 4 (zc vs_2 0) (zc vs_2 3))) fun x14 =>
 zb (ldn 4 x14) fun x15 =>
 zb (zhz (ovr [] S) (zc vs_2 1) [x15]) fun x16 =>
 zi x16 (
 ret (.ret [(zc vs_2 3)])
 ) (
 ret (.nxt [(zc vs_2 0), (zc vs_2 1), (zc vs_2 2), (zc vs_2 3)])
 )
 ) fun o => ret (zp 1 o)
 ) fun o => nx o (zf1 S)
def zdu (S : zl) (vs : List V) : M Out :=
 zb (za (zj .lss (zc vs 3) (zc vs 2))) fun x9 =>
 zb (
 zi x9 (
 ret (.nxt [(zc vs 0), (zc vs 1), (zc vs 2), (zc vs 3)])
 ) (
 ret (.brk 0 [])
 )
 ) fun o => nx o (zf2 S)
def zf3 (S : zl) (vs_4 : List V) : M Out :=
 ret (.ret [(Value.int .i64 (-1))])
def zcm (S : zl) (x0 x1 : V) : M V :=
 zb (
 zb (
 zb (za (zo x0)) fun x7 =>
 zb (
 zcg zcb (zdu S) [x0, x1, x7, (Value.int .i64 0)]
 ) fun o => ret (zp 0 o)
 ) fun o => nx o (zf3 S)
 ) fun o => zbn o fun vs => ret (zbe [(zc vs 0)])
def zgc : Hint := (.seq [] .leaf (.seq [] (.seq [] .leaf (.blk (.loop [0, 1, 7, 8] (.seq [] .leaf (.seq [0, 1, 7, 8] (.cond .leaf .leaf) (.seq [0, 1, 7, 8] (.blk (.seq [] .leaf (.seq [] .leaf (.cond (.seq [] .leaf .leaf) .leaf)))) .leaf)))))) (.seq [] .leaf .leaf)))
def zba (S : zl) (l : List V) : M V := match l with | [x0, x1] => zcm S x0 x1 | _ => fail
theorem zkt (S : zl) (x0 x1 : V) : zbr Tryz.prog (ovr [] S) zch zgc [x0, x1] = zcm S x0 x1 := by kernel_rfl
theorem zku {S : zl} (hS : zi5 Tryz.prog S) : zk Tryz.prog zch (zba S) := zh (σ := ovr [] S) (hint := zgc) (by kernel_rfl) (zr2 hS) fun l H r H' h => by
 unfold zba at h; split at h
 · rw [zkt]; exact h
 · exact (ze h).elim
def z4b (G_strings_IndexRune : List V → M V) (G_strings_Contains : List V → M V) (vs_2 : List V) : M Out :=
 ret (.ret [(Value.int .i64 0), (Value.int .i64 0)])
def z4c (G_strings_IndexRune : List V → M V) (G_strings_Contains : List V → M V) (vs : List V) : M Out :=
 zb (zm1 []) fun x9 =>
 zb (newc [Value.slice none 0 0]) fun x4 =>
 zb (st1 x4 x9) fun _ =>
 zb (
 zb (za (zg 5 (zc vs 0))) fun x10 =>
 zb (z8 x10) fun x11 =>
 zb (za (some (Value.func (.func zhu) #[] #[(zc vs 0), x4]))) fun x12 =>
 zb ((zba (ovr [(zhu, zl4)] noC)) [x11, x12]) fun x13 =>
 zb (za (zj .geq x13 (Value.int .i64 0))) fun x15 =>
 zi x15 (
 ret (.ret [x13, (Value.int .i64 130)])
 ) (
 ret (.nxt [])
 )
 ) fun o => nx o (z4b G_strings_IndexRune G_strings_Contains)
def ztx (G_strings_IndexRune : List V → M V) (G_strings_Contains : List V → M V) (x0 : V) : M V :=
 zb (
 zb (zhp x0) fun x1 =>
 zb (
 zb (ldn 6 x1) fun x6 =>
 zb ((zmp G_strings_IndexRune G_strings_Contains) [x6]) fun x7 =>
 zb (za (un .not x7)) fun x8 =>
 zi x8 (
 ret (.ret [(Value.int .i64 (-1)), (Value.int .i64 130)])
 ) (
 ret (.nxt [x1])
 )
 ) fun o => nx o (z4c G_strings_IndexRune G_strings_Contains)
 ) fun o => zbn o fun vs => ret (zbe [(zc vs 0), (zc vs 1)])
def z7a : Hint := (.seq [] .leaf (.seq [1] (.seq [] .leaf (.cond (.seq [] .leaf .leaf) .leaf)) (.seq [] .leaf (.seq [] (.seq [] .leaf (.seq [] .leaf (.cond (.seq [] .leaf .leaf) .leaf))) (.seq [] .leaf .leaf)))))
def zfx (G_strings_IndexRune : List V → M V) (G_strings_Contains : List V → M V) (l : List V) : M V := match l with | [x0] => ztx G_strings_IndexRune G_strings_Contains x0 | _ => fail
theorem zbiw (G_strings_IndexRune : List V → M V) (G_strings_Contains : List V → M V) (x0 : V) : zbr Tryz.prog (ovr [(zpd, zmp G_strings_IndexRune G_strings_Contains), (zpe, zm1), (zch, zba (ovr [(zhu, zl4)] noC))] noC) zi6 z7a [x0] = ztx G_strings_IndexRune G_strings_Contains x0 := by kernel_rfl
theorem z7b {G_strings_IndexRune : List V → M V} {G_strings_Contains : List V → M V} (k_strings_IndexRune : zk Tryz.prog zy G_strings_IndexRune) (k_strings_Contains : zk Tryz.prog zbd G_strings_Contains) : zk Tryz.prog zi6 (zfx G_strings_IndexRune G_strings_Contains) := zh (σ := ovr [(zpd, zmp G_strings_IndexRune G_strings_Contains), (zpe, zm1), (zch, zba (ovr [(zhu, zl4)] noC))] noC) (hint := z7a) (by kernel_rfl) (zd (zbh8 k_strings_IndexRune k_strings_Contains) (zd zbiv (zd (zku (zd zbds zf)) zf))) fun l H r H' h => by
 unfold zfx at h; split at h
 · rw [zbiw]; exact h
 · exact (ze h).elim
def zs0 (vs_3 : List V) : M Out :=
 zb (za (zj .add (zc vs_3 3) (Value.int .i64 1))) fun x17 =>
 ret (.nxt [(zc vs_3 0), (zc vs_3 1), (zc vs_3 2), x17])
def zs1 (vs_2 : List V) : M Out :=
 zb (
 zb (
 zb (za (zbo 1 (zc vs_2 1) (zc vs_2 3))) fun x10 =>
 zb (z8 x10) fun x11 =>
 zb (za (build [Value.bool false, Value.int .i64 0, Value.string ⟨#[]⟩] [(1, 1, x11)])) fun x14 =>
 zb (zfb 3 1 (rep 1 [Value.bool false, Value.int .i64 0, Value.string ⟨#[]⟩]) [(0, 3, x14)]) fun x15 =>
 zb (zk7 3 32 (zc vs_2 0) x15) fun x16 =>
 ret (.nxt [x16, (zc vs_2 1), (zc vs_2 2), (zc vs_2 3)])
 ) fun o => ret (zp 1 o)
 ) fun o => nx o zs0
def zng (vs : List V) : M Out :=
 zb (za (zj .lss (zc vs 3) (zc vs 2))) fun x9 =>
 zb (
 zi x9 (
 ret (.nxt [(zc vs 0), (zc vs 1), (zc vs 2), (zc vs 3)])
 ) (
 ret (.brk 0 [(zc vs 0)])
 )
 ) fun o => nx o zs1
def zs2 (vs_4 : List V) : M Out :=
 ret (.ret [(zc vs_4 0)])
def zj1 (x0 : V) : M V :=
 zb (
 zb (
 zb (za (zo x0)) fun x7 =>
 zb (
 zcg zcb zng [(Value.slice none 0 0), x0, x7, (Value.int .i64 0)]
 ) fun o => ret (zp 0 o)
 ) fun o => nx o zs2
 ) fun o => zbn o fun vs => ret (zbe [(zc vs 0)])
def zu0 : Hint := (.seq [] .leaf (.seq [] .leaf (.seq [3] (.seq [] .leaf (.blk (.loop [3, 6, 7, 8] (.seq [] .leaf (.seq [3, 6, 7, 8] (.cond .leaf .leaf) (.seq [3, 6, 7, 8] (.blk (.seq [] .leaf .leaf)) .leaf)))))) (.seq [] .leaf .leaf))))
def zej (l : List V) : M V := match l with | [x0] => zj1 x0 | _ => fail
theorem z5o (x0 : V) : zbr Tryz.prog (ovr [] noC) zik zu0 [x0] = zj1 x0 := by kernel_rfl
theorem z5p : zk Tryz.prog zik (zej) := zh (σ := ovr [] noC) (hint := zu0) (by kernel_rfl) zf fun l H r H' h => by
 unfold zej at h; split at h
 · rw [z5o]; exact h
 · exact (ze h).elim
def zqt (vs_3 : List V) : M Out :=
 zb (za (zj .add (zc vs_3 3) (Value.int .i64 1))) fun x17 =>
 ret (.nxt [(zc vs_3 0), (zc vs_3 1), (zc vs_3 2), x17])
def zqu (vs_2 : List V) : M Out :=
 zb (
 zb (
 zb (za (zbo 1 (zc vs_2 1) (zc vs_2 3))) fun x10 =>
 zb (z8 x10) fun x11 =>
 zb (za (build [Value.bool false, Value.int .i64 0, Value.string ⟨#[]⟩] [(1, 1, x11)])) fun x14 =>
 zb (zfb 3 1 (rep 1 [Value.bool false, Value.int .i64 0, Value.string ⟨#[]⟩]) [(0, 3, x14)]) fun x15 =>
 zb (zk7 3 32 (zc vs_2 0) x15) fun x16 =>
 ret (.nxt [x16, (zc vs_2 1), (zc vs_2 2), (zc vs_2 3)])
 ) fun o => ret (zp 1 o)
 ) fun o => nx o zqt
def zkv (vs : List V) : M Out :=
 zb (za (zj .lss (zc vs 3) (zc vs 2))) fun x9 =>
 zb (
 zi x9 (
 ret (.nxt [(zc vs 0), (zc vs 1), (zc vs 2), (zc vs 3)])
 ) (
 ret (.brk 0 [(zc vs 0)])
 )
 ) fun o => nx o zqu
def zqv (vs_4 : List V) : M Out :=
 ret (.ret [(zc vs_4 0)])
def zir (x0 : V) : M V :=
 zb (
 zb (
 zb (za (zo x0)) fun x7 =>
 zb (
 zcg zcb zkv [(Value.slice none 0 0), x0, x7, (Value.int .i64 0)]
 ) fun o => ret (zp 0 o)
 ) fun o => nx o zqv
 ) fun o => zbn o fun vs => ret (zbe [(zc vs 0)])
def zr5 : Hint := (.seq [] .leaf (.seq [] .leaf (.seq [3] (.seq [] .leaf (.blk (.loop [3, 6, 7, 8] (.seq [] .leaf (.seq [3, 6, 7, 8] (.cond .leaf .leaf) (.seq [3, 6, 7, 8] (.blk (.seq [] .leaf .leaf)) .leaf)))))) (.seq [] .leaf .leaf))))
def zfe (l : List V) : M V := match l with | [x0] => zir x0 | _ => fail
theorem z1f (x0 : V) : zbr Tryz.prog (ovr [] noC) zhg zr5 [x0] = zir x0 := by kernel_rfl
theorem z1g : zk Tryz.prog zhg (zfe) := zh (σ := ovr [] noC) (hint := zr5) (by kernel_rfl) zf fun l H r H' h => by
 unfold zfe at h; split at h
 · rw [z1f]; exact h
 · exact (ze h).elim
def z1h (vs_7 : List V) : M Out :=
 zb (za (zj .sub (zc vs_7 3) (Value.int .i64 8))) fun x32 =>
 ret (.nxt [(zc vs_7 0), (zc vs_7 1), (zc vs_7 2), x32, (zc vs_7 4), (zc vs_7 5), (zc vs_7 6)])
def z1i (vs_6 : List V) : M Out :=
 zb (
 zb (
 zb (za (zg 1 (zc vs_6 2))) fun x34 =>
 zb (z8 x34) fun x35 =>
 zb (za (cvi .u64 x35)) fun x36 =>
 zb (za (zj .shr x36 (zc vs_6 3))) fun x38 =>
 zb (za (cvi .u8 x38)) fun x39 =>
 zb (zfb 1 1 (rep 1 [Value.int .u8 0]) [(0, 1, x39)]) fun x40 =>
 zb (zk7 1 1 (zc vs_6 0) x40) fun x41 =>
 ret (.nxt [x41, (zc vs_6 1), (zc vs_6 2), (zc vs_6 3), (zc vs_6 4), (zc vs_6 5), (zc vs_6 6)])
 ) fun o => ret (zp 4 o)
 ) fun o => nx o z1h
def zp1 (vs_5 : List V) : M Out :=
 zb (
 zb (za (zj .geq (zc vs_5 3) (Value.int .i64 0))) fun x30 =>
 zi x30 (
 ret (.nxt [(zc vs_5 0), (zc vs_5 1), (zc vs_5 2), (zc vs_5 3), (zc vs_5 4), (zc vs_5 5), (zc vs_5 6)])
 ) (
 ret (.brk 3 [(zc vs_5 0), (zc vs_5 1), (zc vs_5 4), (zc vs_5 5), (zc vs_5 6)])
 )
 ) fun o => nx o z1i
def zgx (vs_4 : List V) : M Out :=
 zi (zc vs_4 6) (
 ret (.ret [(Value.string ⟨#[]⟩), (Value.int .i64 4)])
 ) (
 zb (za (zo (zc vs_4 0))) fun x66 =>
 zb (za (zj .gtr x66 (Value.int .i64 65536))) fun x67 =>
 zi x67 (
 ret (.nxt [(zc vs_4 0), (Value.bool true), (zc vs_4 3), (zc vs_4 4), (zc vs_4 5)])
 ) (
 zb (za (zg 0 (zc vs_4 2))) fun x69 =>
 zb (z8 x69) fun x70 =>
 zi x70 (
 zvo fun h0 =>
 zb (za (zg 2 (zc vs_4 2))) fun x72 =>
 zb (za (zg 2 (zc vs_4 2))) fun x77 =>
 zb (za (zg 2 (zc vs_4 2))) fun x83 =>
 zb (z8 x72) fun x73 =>
 zb (za (zde x73)) fun x74 =>
 zb (za (zj .shr x74 (Value.int .u64 8))) fun x75 =>
 zb (za (cvi .u8 x75)) fun x76 =>
 zb (z8 x77) fun x78 =>
 zb (za (zde x78)) fun x79 =>
 zb (za (cvi .u8 x79)) fun x80 =>
 zb (z8 x83) fun x84 =>
 zhr (zfb 1 3 (rep 3 [Value.int .u8 0]) [(0, 1, (Value.int .u8 36)), (1, 1, x76), (2, 1, x80)]) fun ha x81 h1 =>
 zhr (zk7 1 1 (zc vs_4 0) x81) fun ha_2 x82 h2 =>
 zhr (appS x82 x84) fun ha_3 x85 h3 =>
 zmd (chk (z8 x83) h1 x84) <|
 zmd (chk (z8 x83) h2 x84) <|
 ret (.nxt [x85, (zc vs_4 1), (zc vs_4 3), (zc vs_4 4), (zc vs_4 5)])
 ) (
 zb (zfb 1 1 (rep 1 [Value.int .u8 0]) [(0, 1, (Value.int .u8 35))]) fun x27 =>
 zb (zk7 1 1 (zc vs_4 0) x27) fun x28 =>
 zb (
 zcg zcb zp1 [x28, (zc vs_4 1), (zc vs_4 2), (Value.int .i64 56), (zc vs_4 3), (zc vs_4 4), (zc vs_4 5)]
 ) fun o => ret (zp 3 o)
 )
 )
 )
def zh4 (vs_8 : List V) : M Out :=
 zb (za (zj .add (zc vs_8 4) (Value.int .i64 1))) fun x86 =>
 ret (.nxt [(zc vs_8 0), (zc vs_8 1), (zc vs_8 2), (zc vs_8 3), x86])
def z1j (vs_3 : List V) : M Out :=
 zb (
 zb (
 zb (za (zbo 3 (zc vs_3 2) (zc vs_3 4))) fun x24 =>
 zb (ldn 3 x24) fun x25 =>
 zb (newc [Value.bool false, Value.int .i64 0, Value.string ⟨#[]⟩]) fun x7 =>
 zb (stn 3 x7 x25) fun _ =>
 zb (
 zb (
 zb (za (zg 0 x7)) fun x43 =>
 zb (z8 x43) fun x44 =>
 zb (gd x44 true (za (zg 1 x7))) fun x46 =>
 zb (gd x44 true (z8 x46)) fun x47 =>
 zb (gd x44 true (za (zj .neq x47 (Value.int .i64 0)))) fun x48 =>
 zb (gd x44 true (za (some x48))) fun x49 =>
 zb (gd x49 false (za (zg 2 x7))) fun x50 =>
 zb (gd x49 false (z8 x50)) fun x51 =>
 zb (gd x49 false (za (zde x51))) fun x52 =>
 zb (gd x49 false (za (zj .gtr x52 (Value.int .i64 65535)))) fun x53 =>
 zb (gd x44 true (za (zm x49 (Value.bool true) x53))) fun x54 =>
 zb (za (zm x44 x54 (Value.bool false))) fun x55 =>
 zi x55 (
 ret (.nxt [(zc vs_3 0), (zc vs_3 1), x7, (zc vs_3 2), (zc vs_3 3), (zc vs_3 4), x55])
 ) (
 zb (za (zg 0 x7)) fun x56 =>
 zb (z8 x56) fun x57 =>
 zb (za (un .not x57)) fun x58 =>
 zb (gd x58 true (za (zg 2 x7))) fun x60 =>
 zb (gd x58 true (z8 x60)) fun x61 =>
 zb (gd x58 true (za (zj .neq x61 (Value.string ⟨#[]⟩)))) fun x62 =>
 zb (za (zm x58 x62 (Value.bool false))) fun x63 =>
 ret (.nxt [(zc vs_3 0), (zc vs_3 1), x7, (zc vs_3 2), (zc vs_3 3), (zc vs_3 4), x63])
 )
 ) fun o => nx o zgx
 ) fun o => ret (zp 2 o)
 ) fun o => ret (zp 1 o)
 ) fun o => nx o zh4
def zu1 (vs_2 : List V) : M Out :=
 zb (za (zj .lss (zc vs_2 4) (zc vs_2 3))) fun x23 =>
 zb (
 zi x23 (
 ret (.nxt [(zc vs_2 0), (zc vs_2 1), (zc vs_2 2), (zc vs_2 3), (zc vs_2 4)])
 ) (
 ret (.brk 0 [(zc vs_2 0), (zc vs_2 1)])
 )
 ) fun o => nx o z1j
def z1k (vs_10 : List V) : M Out :=
 zb (b2s (zc vs_10 0)) fun x94 =>
 ret (.ret [x94, (Value.int .i64 0)])
def zp2 (vs_9 : List V) : M Out :=
 zb (
 zb (gd (zc vs_9 1) false (za (some (zc vs_9 0)))) fun x89 =>
 zb (gd (zc vs_9 1) false (za (zo x89))) fun x90 =>
 zb (gd (zc vs_9 1) false (za (zj .gtr x90 (Value.int .i64 65536)))) fun x91 =>
 zb (za (zm (zc vs_9 1) (Value.bool true) x91)) fun x92 =>
 zi x92 (
 ret (.ret [(Value.string ⟨#[]⟩), (Value.int .i64 2)])
 ) (
 ret (.nxt [(zc vs_9 0)])
 )
 ) fun o => nx o z1k
def z1l (vs : List V) : M Out :=
 zb (za (zo (zc vs 0))) fun x13 =>
 zb (za (zj .shr x13 (Value.int .u64 8))) fun x14 =>
 zb (za (cvi .u8 x14)) fun x15 =>
 zb (za (zo (zc vs 0))) fun x17 =>
 zb (za (cvi .u8 x17)) fun x18 =>
 zb (zfb 1 2 (rep 2 [Value.int .u8 0]) [(0, 1, x15), (1, 1, x18)]) fun x19 =>
 zb (
 zb (za (zo (zc vs 0))) fun x21 =>
 zb (
 zcg zcb zu1 [x19, (Value.bool false), (zc vs 0), x21, (Value.int .i64 0)]
 ) fun o => ret (zp 0 o)
 ) fun o => nx o zp2
def zrp (x0 : V) : M V :=
 zb (
 zb (
 zb (za (zo x0)) fun x10 =>
 zb (za (zj .gtr x10 (Value.int .i64 1000))) fun x11 =>
 zi x11 (
 ret (.ret [(Value.string ⟨#[]⟩), (Value.int .i64 2)])
 ) (
 ret (.nxt [x0])
 )
 ) fun o => nx o z1l
 ) fun o => zbn o fun vs => ret (zbe [(zc vs 0), (zc vs 1)])
def z4d : Hint := (.seq [] .leaf (.seq [0] (.seq [] .leaf (.cond (.seq [] .leaf .leaf) .leaf)) (.seq [] .leaf (.seq [] .leaf (.seq [4, 5] (.seq [] .leaf (.blk (.loop [4, 5, 20, 21, 22] (.seq [] .leaf (.seq [4, 5, 20, 21, 22] (.cond .leaf .leaf) (.seq [4, 5, 20, 21, 22] (.blk (.seq [] .leaf (.blk (.seq [4, 5, 7, 20, 21, 22, 42] (.seq [] .leaf (.cond .leaf .leaf)) (.cond (.seq [] .leaf .leaf) (.seq [] .leaf (.cond .leaf (.seq [] .leaf (.cond (.reg [0, 1, 6, 12, 2, 3, 4, 5, 7, 8, 9, 13, 10, 11, 14, 15] []) (.seq [] .leaf (.seq [] .leaf (.blk (.loop [4, 5, 7, 8, 20, 21, 22] (.seq [4, 5, 7, 8, 20, 21, 22] (.seq [] .leaf (.cond .leaf .leaf)) (.seq [4, 5, 7, 8, 20, 21, 22] (.blk .leaf) .leaf))))))))))))))) .leaf)))))) (.seq [4] (.seq [] .leaf (.cond (.seq [] .leaf .leaf) .leaf)) (.seq [] .leaf .leaf)))))))
def zkn (l : List V) : M V := match l with | [x0] => zrp x0 | _ => fail
theorem zbfd (x0 : V) : zbr Tryz.prog (ovr [] noC) zn4 z4d [x0] = zrp x0 := by kernel_rfl
theorem zbfe : zk Tryz.prog zn4 (zkn) := zh (σ := ovr [] noC) (hint := z4d) (by kernel_rfl) zf fun l H r H' h => by
 unfold zkn at h; split at h
 · rw [zbfd]; exact h
 · exact (ze h).elim
def z1m (G_strings_IndexRune : List V → M V) (G_strings_Contains : List V → M V) (vs_4 : List V) : M Out :=
 zb (za (zj .add (zc vs_4 4) (Value.int .i64 1))) fun x51 =>
 ret (.nxt [(zc vs_4 0), (zc vs_4 1), (zc vs_4 2), (zc vs_4 3), x51])
def z1n (G_strings_IndexRune : List V → M V) (G_strings_Contains : List V → M V) (vs_3 : List V) : M Out :=
 zb (
 zb (
 zb (za (zbo 1 (zc vs_3 2) (zc vs_3 4))) fun x39 =>
 zb (z8 x39) fun x40 =>
 zb (za (zg 2 (zc vs_3 0))) fun x43 =>
 zb (z8 x43) fun x44 =>
 zb (za (zbo 1 x44 (zc vs_3 4))) fun x46 =>
 zb (z8 x46) fun x47 =>
 zb (zfb 1 2 (rep 2 [Value.int .i64 0]) [(0, 1, x40), (1, 1, x47)]) fun x48 =>
 zb (zfe [x48]) fun x49 =>
 zb (zk7 3 32 (zc vs_3 1) x49) fun x50 =>
 ret (.nxt [(zc vs_3 0), x50, (zc vs_3 2), (zc vs_3 3), (zc vs_3 4)])
 ) fun o => ret (zp 1 o)
 ) fun o => nx o (z1m G_strings_IndexRune G_strings_Contains)
def zp3 (G_strings_IndexRune : List V → M V) (G_strings_Contains : List V → M V) (vs_2 : List V) : M Out :=
 zb (za (zj .lss (zc vs_2 4) (zc vs_2 3))) fun x37 =>
 zb (
 zi x37 (
 ret (.nxt [(zc vs_2 0), (zc vs_2 1), (zc vs_2 2), (zc vs_2 3), (zc vs_2 4)])
 ) (
 ret (.brk 0 [(zc vs_2 0), (zc vs_2 1)])
 )
 ) fun o => nx o (z1n G_strings_IndexRune G_strings_Contains)
def z1o (G_strings_IndexRune : List V → M V) (G_strings_Contains : List V → M V) (vs_8 : List V) : M Out :=
 zb (za (zj .add (zc vs_8 4) (Value.int .i64 1))) fun x71 =>
 ret (.nxt [(zc vs_8 0), (zc vs_8 1), (zc vs_8 2), (zc vs_8 3), x71])
def z1p (G_strings_IndexRune : List V → M V) (G_strings_Contains : List V → M V) (vs_7 : List V) : M Out :=
 zb (
 zb (
 zb (za (zbo 1 (zc vs_7 2) (zc vs_7 4))) fun x60 =>
 zb (z8 x60) fun x61 =>
 zb (za (zo x61)) fun x64 =>
 zb (zfb 1 1 (rep 1 [Value.int .i64 0]) [(0, 1, x64)]) fun x65 =>
 zb (zej [x65]) fun x66 =>
 zb (zk7 3 32 (zc vs_7 1) x66) fun x67 =>
 zb (zej [x61]) fun x69 =>
 zb (zk7 3 32 x67 x69) fun x70 =>
 ret (.nxt [(zc vs_7 0), x70, (zc vs_7 2), (zc vs_7 3), (zc vs_7 4)])
 ) fun o => ret (zp 3 o)
 ) fun o => nx o (z1o G_strings_IndexRune G_strings_Contains)
def zp4 (G_strings_IndexRune : List V → M V) (G_strings_Contains : List V → M V) (vs_6 : List V) : M Out :=
 zb (za (zj .lss (zc vs_6 4) (zc vs_6 3))) fun x59 =>
 zb (
 zi x59 (
 ret (.nxt [(zc vs_6 0), (zc vs_6 1), (zc vs_6 2), (zc vs_6 3), (zc vs_6 4)])
 ) (
 ret (.brk 2 [(zc vs_6 0), (zc vs_6 1)])
 )
 ) fun o => nx o (z1p G_strings_IndexRune G_strings_Contains)
def z1q (G_strings_IndexRune : List V → M V) (G_strings_Contains : List V → M V) (vs_14 : List V) : M Out :=
 zb (za (zj .sub (zc vs_14 3) (Value.int .i64 8))) fun x102 =>
 ret (.nxt [(zc vs_14 0), (zc vs_14 1), (zc vs_14 2), x102, (zc vs_14 4), (zc vs_14 5), (zc vs_14 6)])
def z1r (G_strings_IndexRune : List V → M V) (G_strings_Contains : List V → M V) (vs_13 : List V) : M Out :=
 zb (
 zb (
 zb (za (zg 3 (zc vs_13 2))) fun x104 =>
 zb (z8 x104) fun x105 =>
 zb (za (zj .shr x105 (zc vs_13 3))) fun x107 =>
 zb (za (cvi .u8 x107)) fun x108 =>
 zb (zfb 1 1 (rep 1 [Value.int .u8 0]) [(0, 1, x108)]) fun x109 =>
 zb (zk7 1 1 (zc vs_13 1) x109) fun x110 =>
 ret (.nxt [(zc vs_13 0), x110, (zc vs_13 2), (zc vs_13 3), (zc vs_13 4), (zc vs_13 5), (zc vs_13 6)])
 ) fun o => ret (zp 7 o)
 ) fun o => nx o (z1q G_strings_IndexRune G_strings_Contains)
def zp5 (G_strings_IndexRune : List V → M V) (G_strings_Contains : List V → M V) (vs_12 : List V) : M Out :=
 zb (
 zb (za (zj .geq (zc vs_12 3) (Value.int .i64 0))) fun x100 =>
 zi x100 (
 ret (.nxt [(zc vs_12 0), (zc vs_12 1), (zc vs_12 2), (zc vs_12 3), (zc vs_12 4), (zc vs_12 5), (zc vs_12 6)])
 ) (
 ret (.brk 6 [(zc vs_12 0), (zc vs_12 1), (zc vs_12 4), (zc vs_12 5), (zc vs_12 6)])
 )
 ) fun o => nx o (z1r G_strings_IndexRune G_strings_Contains)
def z1s (G_strings_IndexRune : List V → M V) (G_strings_Contains : List V → M V) (vs_15 : List V) : M Out :=
 zb (za (zj .add (zc vs_15 4) (Value.int .i64 1))) fun x111 =>
 ret (.nxt [(zc vs_15 0), (zc vs_15 1), (zc vs_15 2), (zc vs_15 3), x111])
def zzm (G_strings_IndexRune : List V → M V) (G_strings_Contains : List V → M V) (vs_11 : List V) : M Out :=
 zb (
 zb (
 zb (za (zbo 4 (zc vs_11 2) (zc vs_11 4))) fun x77 =>
 zb (ldn 4 x77) fun x78 =>
 zb (newc [Value.int .i64 0, Value.int .i64 0, Value.int .i64 0, Value.int .i64 0]) fun x13 =>
 zb (stn 4 x13 x78) fun _ =>
 zb (za (zg 0 x13)) fun x80 =>
 zb (z8 x80) fun x81 =>
 zb (za (cvi .u8 x81)) fun x82 =>
 zb (za (zg 1 x13)) fun x83 =>
 zb (z8 x83) fun x84 =>
 zb (za (zj .shr x84 (Value.int .u64 8))) fun x85 =>
 zb (za (cvi .u8 x85)) fun x86 =>
 zb (za (zg 1 x13)) fun x87 =>
 zb (z8 x87) fun x88 =>
 zb (za (cvi .u8 x88)) fun x89 =>
 zb (za (zg 2 x13)) fun x90 =>
 zb (z8 x90) fun x91 =>
 zb (za (zj .shr x91 (Value.int .u64 8))) fun x92 =>
 zb (za (cvi .u8 x92)) fun x93 =>
 zb (za (zg 2 x13)) fun x94 =>
 zb (z8 x94) fun x95 =>
 zb (za (cvi .u8 x95)) fun x96 =>
 zb (zfb 1 5 (rep 5 [Value.int .u8 0]) [(0, 1, x82), (1, 1, x86), (2, 1, x89), (3, 1, x93), (4, 1, x96)]) fun x97 =>
 zb (zk7 1 1 (zc vs_11 1) x97) fun x98 =>
 zb (
 zcg zcb (zp5 G_strings_IndexRune G_strings_Contains) [(zc vs_11 0), x98, x13, (Value.int .i64 40), (zc vs_11 2), (zc vs_11 3), (zc vs_11 4)]
 ) fun o => ret (zp 6 o)
 ) fun o => ret (zp 5 o)
 ) fun o => nx o (z1s G_strings_IndexRune G_strings_Contains)
def zn8 (G_strings_IndexRune : List V → M V) (G_strings_Contains : List V → M V) (vs_10 : List V) : M Out :=
 zb (za (zj .lss (zc vs_10 4) (zc vs_10 3))) fun x76 =>
 zb (
 zi x76 (
 ret (.nxt [(zc vs_10 0), (zc vs_10 1), (zc vs_10 2), (zc vs_10 3), (zc vs_10 4)])
 ) (
 ret (.brk 4 [(zc vs_10 0), (zc vs_10 1)])
 )
 ) fun o => nx o (zzm G_strings_IndexRune G_strings_Contains)
def zzn (G_strings_IndexRune : List V → M V) (G_strings_Contains : List V → M V) (vs_16 : List V) : M Out :=
 zb (b2s (zc vs_16 1)) fun x114 =>
 zb (za (build [Value.bool false, Value.int .i64 0, Value.string ⟨#[]⟩] [(0, 1, (Value.bool true)), (2, 1, x114)])) fun x115 =>
 zb (zfb 3 1 (rep 1 [Value.bool false, Value.int .i64 0, Value.string ⟨#[]⟩]) [(0, 3, x115)]) fun x116 =>
 zb (zk7 3 32 (zc vs_16 0) x116) fun x117 =>
 zb (zkn [x117]) fun x118 =>
 zb (za (ext 0 x118)) fun x119 =>
 zb (za (ext 1 x118)) fun x120 =>
 ret (.ret [x119, x120])
def zzo (G_strings_IndexRune : List V → M V) (G_strings_Contains : List V → M V) (vs_9 : List V) : M Out :=
 zb (
 zb (za (zg 5 (zc vs_9 0))) fun x72 =>
 zb (z8 x72) fun x73 =>
 zb (za (zo x73)) fun x74 =>
 zb (
 zcg zcb (zn8 G_strings_IndexRune G_strings_Contains) [(zc vs_9 1), (Value.slice none 0 0), x73, x74, (Value.int .i64 0)]
 ) fun o => ret (zp 4 o)
 ) fun o => nx o (zzn G_strings_IndexRune G_strings_Contains)
def zzp (G_strings_IndexRune : List V → M V) (G_strings_Contains : List V → M V) (vs_5 : List V) : M Out :=
 zb (
 zb (za (zg 3 (zc vs_5 0))) fun x52 =>
 zb (z8 x52) fun x53 =>
 zb (za (zg 4 (zc vs_5 0))) fun x54 =>
 zb (z8 x54) fun x55 =>
 zb (zfb 1 2 (rep 2 [Value.slice none 0 0]) [(0, 1, x53), (1, 1, x55)]) fun x56 =>
 zb (za (zo x56)) fun x57 =>
 zb (
 zcg zcb (zp4 G_strings_IndexRune G_strings_Contains) [(zc vs_5 0), (zc vs_5 1), x56, x57, (Value.int .i64 0)]
 ) fun o => ret (zp 2 o)
 ) fun o => nx o (zzo G_strings_IndexRune G_strings_Contains)
def zzq (G_strings_IndexRune : List V → M V) (G_strings_Contains : List V → M V) (vs : List V) : M Out :=
 zbb6 2 fun base h0 =>
 zb (za (zg 0 (zc vs 0))) fun x23 =>
 zb (za (zg 1 (zc vs 0))) fun x27 =>
 zb (z8 x23) fun x24 =>
 zb (za (build [Value.bool false, Value.int .i64 0, Value.string ⟨#[]⟩] [(0, 1, (Value.bool true)), (2, 1, x24)])) fun x25 =>
 zb (z8 x27) fun x28 =>
 zb (za (zo x28)) fun x29 =>
 zb (flt (base + 1) (zfb 1 1 (rep 1 [Value.int .i64 0]) [(0, 1, x29)])) fun x30 =>
 zhr (zej [x30]) fun ha x31 h1 =>
 zmd (zk8 ha [base + 0] && zk8 h1 [base + 0]) <|
 zb (flt (base + 0) (zfb 3 1 (rep 1 [Value.bool false, Value.int .i64 0, Value.string ⟨#[]⟩]) [(0, 3, x25)])) fun x26 =>
 zhr (zk7 3 32 x26 x31) fun ha_2 x32 h2 =>
 zmd (chk (z8 x23) h1 x24) <|
 zb (
 zb (za (zg 1 (zc vs 0))) fun x33 =>
 zb (z8 x33) fun x34 =>
 zb (za (zo x34)) fun x35 =>
 zb (
 zcg zcb (zp3 G_strings_IndexRune G_strings_Contains) [(zc vs 0), x32, x34, x35, (Value.int .i64 0)]
 ) fun o => ret (zp 0 o)
 ) fun o => nx o (zzp G_strings_IndexRune G_strings_Contains)
def zrq (G_strings_IndexRune : List V → M V) (G_strings_Contains : List V → M V) (x0 : V) : M V :=
 zb (
 zb (zhp x0) fun x1 =>
 zb (
 zb (ldn 6 x1) fun x16 =>
 zb ((zfx G_strings_IndexRune G_strings_Contains) [x16]) fun x17 =>
 zb (za (ext 0 x17)) fun x18 =>
 zb (za (ext 1 x17)) fun x19 =>
 zb (za (zj .neq x19 (Value.int .i64 0))) fun x21 =>
 zi x21 (
 ret (.ret [(Value.string ⟨#[]⟩), x19])
 ) (
 ret (.nxt [x1])
 )
 ) fun o => nx o (zzq G_strings_IndexRune G_strings_Contains)
 ) fun o => zbn o fun vs => ret (zbe [(zc vs 0), (zc vs 1)])
def z4e : Hint := (.seq [] .leaf (.seq [1] (.seq [] .leaf (.seq [] .leaf (.cond (.seq [] .leaf .leaf) .leaf))) (.seq [] (.reg [0, 4, 1, 2, 5, 6, 7, 8, 3, 9, 10] [3, 7]) (.seq [1, 6] (.seq [] .leaf (.blk (.loop [1, 6, 34, 35, 36] (.seq [] .leaf (.seq [1, 6, 34, 35, 36] (.cond .leaf .leaf) (.seq [1, 6, 34, 35, 36] (.blk (.seq [] .leaf .leaf)) .leaf)))))) (.seq [1, 6] (.seq [] .leaf (.blk (.loop [1, 6, 56, 57, 58] (.seq [] .leaf (.seq [1, 6, 56, 57, 58] (.cond .leaf .leaf) (.seq [1, 6, 56, 57, 58] (.blk (.seq [] .leaf .leaf)) .leaf)))))) (.seq [] .leaf (.seq [6, 11] (.seq [] .leaf (.blk (.loop [6, 11, 73, 74, 75] (.seq [] .leaf (.seq [6, 11, 73, 74, 75] (.cond .leaf .leaf) (.seq [6, 11, 73, 74, 75] (.blk (.seq [] .leaf (.seq [] .leaf (.seq [] .leaf (.blk (.loop [6, 11, 13, 14, 73, 74, 75] (.seq [6, 11, 13, 14, 73, 74, 75] (.seq [] .leaf (.cond .leaf .leaf)) (.seq [6, 11, 13, 14, 73, 74, 75] (.blk .leaf) .leaf)))))))) .leaf)))))) (.seq [] .leaf .leaf))))))))
def zko (G_strings_IndexRune : List V → M V) (G_strings_Contains : List V → M V) (l : List V) : M V := match l with | [x0] => zrq G_strings_IndexRune G_strings_Contains x0 | _ => fail
theorem zbff (G_strings_IndexRune : List V → M V) (G_strings_Contains : List V → M V) (x0 : V) : zbr Tryz.prog (ovr [(zi6, zfx G_strings_IndexRune G_strings_Contains), (zik, zej), (zhg, zfe), (zn4, zkn)] noC) zn2 z4e [x0] = zrq G_strings_IndexRune G_strings_Contains x0 := by kernel_rfl
theorem zbfg {G_strings_IndexRune : List V → M V} {G_strings_Contains : List V → M V} (k_strings_IndexRune : zk Tryz.prog zy G_strings_IndexRune) (k_strings_Contains : zk Tryz.prog zbd G_strings_Contains) : zk Tryz.prog zn2 (zko G_strings_IndexRune G_strings_Contains) := zh (σ := ovr [(zi6, zfx G_strings_IndexRune G_strings_Contains), (zik, zej), (zhg, zfe), (zn4, zkn)] noC) (hint := z4e) (by kernel_rfl) (zd (z7b k_strings_IndexRune k_strings_Contains) (zd z5p (zd z1g (zd zbfe zf)))) fun l H r H' h => by
 unfold zko at h; split at h
 · rw [zbff]; exact h
 · exact (ze h).elim
def z1t (G_errors_As : List V → M V) (G_strings_IndexRune : List V → M V) (G_strings_Contains : List V → M V) (vs_3 : List V) : M Out :=
 zb (za (zj .add (zc vs_3 5) (Value.int .i64 1))) fun x47 =>
 ret (.nxt [(zc vs_3 0), (zc vs_3 1), (zc vs_3 2), (zc vs_3 3), (zc vs_3 4), x47])
def z1u (G_errors_As : List V → M V) (G_strings_IndexRune : List V → M V) (G_strings_Contains : List V → M V) (vs_2 : List V) : M Out :=
 zb (
 zb (
 zvo fun h0 =>
 zb (za (zg 1 (zc vs_2 3))) fun x31 =>
 zb (z8 x31) fun x32 =>
 zhr (zbv [(zc vs_2 2), (Value.bool false)]) fun ha x34 h1 =>
 zb (za (fld1 1 x34)) fun x35 =>
 zhr (zfb 1 1 (rep 1 [Value.int .i64 0]) [(0, 1, x35)]) fun ha_2 x36 h2 =>
 zhr (zk7 1 8 x32 x36) fun ha_3 x37 h3 =>
 zb (za (zg 1 (zc vs_2 3))) fun x38 =>
 zhr (st1 x38 x37) fun ha_4 u h4 =>
 zmd (chk (z8 x31) h1 x32) <|
 zmd (chk (z8 x31) h2 x32) <|
 zvo fun h0_2 =>
 zb (za (zg 2 (zc vs_2 3))) fun x39 =>
 zb (z8 x39) fun x40 =>
 zhr (zbv [(zc vs_2 2), (Value.bool false)]) fun ha_5 x42 h1_2 =>
 zb (za (fld1 1 x42)) fun x43 =>
 zhr (zfb 1 1 (rep 1 [Value.int .i64 0]) [(0, 1, x43)]) fun ha_6 x44 h2_2 =>
 zhr (zk7 1 8 x40 x44) fun ha_7 x45 h3_2 =>
 zb (za (zg 2 (zc vs_2 3))) fun x46 =>
 zhr (st1 x46 x45) fun ha_8 u_2 h4_2 =>
 zmd (chk (z8 x39) h1_2 x40) <|
 zmd (chk (z8 x39) h2_2 x40) <|
 ret (.nxt [(zc vs_2 0), (zc vs_2 1), (zc vs_2 2), (zc vs_2 3), (zc vs_2 4), (zc vs_2 5)])
 ) fun o => ret (zp 1 o)
 ) fun o => nx o (z1t G_errors_As G_strings_IndexRune G_strings_Contains)
def zp6 (G_errors_As : List V → M V) (G_strings_IndexRune : List V → M V) (G_strings_Contains : List V → M V) (vs : List V) : M Out :=
 zb (za (zj .lss (zc vs 5) (zc vs 4))) fun x30 =>
 zb (
 zi x30 (
 ret (.nxt [(zc vs 0), (zc vs 1), (zc vs 2), (zc vs 3), (zc vs 4), (zc vs 5)])
 ) (
 ret (.brk 0 [(zc vs 0), (zc vs 1), (zc vs 2), (zc vs 3)])
 )
 ) fun o => nx o (z1u G_errors_As G_strings_IndexRune G_strings_Contains)
def z1v (G_errors_As : List V → M V) (G_strings_IndexRune : List V → M V) (G_strings_Contains : List V → M V) (vs_7 : List V) : M Out :=
 zb (za (zo6 (zc vs_7 4) (some (Value.int .i64 11)) none)) fun x61 =>
 ret (.nxt [(zc vs_7 0), (zc vs_7 1), (zc vs_7 2), (zc vs_7 3), x61])
def z1w (G_errors_As : List V → M V) (G_strings_IndexRune : List V → M V) (G_strings_Contains : List V → M V) (vs_6 : List V) : M Out :=
 zb (
 zb (
 zb (za (zo6 (zc vs_6 4) (some (Value.int .i64 5)) (some (Value.int .i64 11)))) fun x63 =>
 zb (zf0 [x63]) fun x64 =>
 zb (za (zj .shl x64 (Value.int .u64 16))) fun x65 =>
 zb (za (zj .shr x65 (Value.int .u64 16))) fun x66 =>
 zvo fun h0_3 =>
 zb (za (zg 5 (zc vs_6 3))) fun x67 =>
 zb (za (zh9 (zc vs_6 4) (Value.int .i64 0))) fun x70 =>
 zb (za (cvi .i64 x70)) fun x71 =>
 zb (za (zo6 (zc vs_6 4) (some (Value.int .i64 1)) (some (Value.int .i64 3)))) fun x73 =>
 zb (za (zo6 (zc vs_6 4) (some (Value.int .i64 3)) (some (Value.int .i64 5)))) fun x76 =>
 zb (z8 x67) fun x68 =>
 zhr (zf0 [x73]) fun ha_9 x74 h1_3 =>
 zhr (zf0 [x76]) fun ha_10 x77 h2_3 =>
 zb (za (build [Value.int .i64 0, Value.int .i64 0, Value.int .i64 0, Value.int .i64 0] [(0, 1, x71), (1, 1, x74), (2, 1, x77), (3, 1, x66)])) fun x79 =>
 zhr (zfb 4 1 (rep 1 [Value.int .i64 0, Value.int .i64 0, Value.int .i64 0, Value.int .i64 0]) [(0, 4, x79)]) fun ha_11 x80 h3_3 =>
 zhr (zk7 4 32 x68 x80) fun ha_12 x81 h4_3 =>
 zb (za (zg 5 (zc vs_6 3))) fun x82 =>
 zhr (st1 x82 x81) fun ha_13 u_3 h5 =>
 zmd (chk (z8 x67) h1_3 x68) <|
 zmd (chk (z8 x67) h2_3 x68) <|
 zmd (chk (z8 x67) h3_3 x68) <|
 ret (.nxt [(zc vs_6 0), (zc vs_6 1), (zc vs_6 2), (zc vs_6 3), (zc vs_6 4)])
 ) fun o => ret (zp 3 o)
 ) fun o => nx o (z1v G_errors_As G_strings_IndexRune G_strings_Contains)
def zp7 (G_errors_As : List V → M V) (G_strings_IndexRune : List V → M V) (G_strings_Contains : List V → M V) (vs_5 : List V) : M Out :=
 zb (
 zb (za (zde (zc vs_5 4))) fun x58 =>
 zb (za (zj .geq x58 (Value.int .i64 11))) fun x59 =>
 zi x59 (
 ret (.nxt [(zc vs_5 0), (zc vs_5 1), (zc vs_5 2), (zc vs_5 3), (zc vs_5 4)])
 ) (
 ret (.brk 2 [(zc vs_5 0), (zc vs_5 1), (zc vs_5 2), (zc vs_5 3)])
 )
 ) fun o => nx o (z1w G_errors_As G_strings_IndexRune G_strings_Contains)
def z1x (G_errors_As : List V → M V) (G_strings_IndexRune : List V → M V) (G_strings_Contains : List V → M V) (vs_9 : List V) : M Out :=
 zb (ldn 6 (zc vs_9 1)) fun x102 =>
 zb (stn 6 (zc vs_9 0) x102) fun _ =>
 ret (.ret [(zc vs_9 0), (Value.int .i64 0)])
def z1y (G_errors_As : List V → M V) (G_strings_IndexRune : List V → M V) (G_strings_Contains : List V → M V) (vs_8 : List V) : M Out :=
 zb (
 zb (ldn 6 (zc vs_8 3)) fun x84 =>
 zb ((zko G_strings_IndexRune G_strings_Contains) [x84]) fun x85 =>
 zb (za (ext 0 x85)) fun x86 =>
 zb (za (ext 1 x85)) fun x87 =>
 zb (za (zeb (zc vs_8 2))) fun x89 =>
 zb (za (zg 1 x89)) fun x90 =>
 zb (z8 x90) fun x91 =>
 zb (gd x91 false (za (some x87))) fun x93 =>
 zb (gd x91 false (za (zj .neq x93 (Value.int .i64 0)))) fun x94 =>
 zb (za (zm x91 (Value.bool true) x94)) fun x95 =>
 zb (gd x95 false (za (some x86))) fun x97 =>
 zb (gd x95 false (za (some (zc vs_8 0)))) fun x98 =>
 zb (gd x95 false (za (zj .neq x97 x98))) fun x99 =>
 zb (za (zm x95 (Value.bool true) x99)) fun x100 =>
 zi x100 (
 zb (za (build [Value.string ⟨#[]⟩, Value.slice none 0 0, Value.slice none 0 0, Value.slice none 0 0, Value.slice none 0 0, Value.slice none 0 0] [])) fun x101 =>
 zb (stn 6 (zc vs_8 1) x101) fun _ =>
 ret (.ret [(zc vs_8 1), (Value.int .i64 130)])
 ) (
 ret (.nxt [(zc vs_8 1), (zc vs_8 3)])
 )
 ) fun o => nx o (z1x G_errors_As G_strings_IndexRune G_strings_Contains)
def z1z (G_errors_As : List V → M V) (G_strings_IndexRune : List V → M V) (G_strings_Contains : List V → M V) (vs_4 : List V) : M Out :=
 zb (ze9 [(zc vs_4 2)]) fun x49 =>
 zb (za (zg 3 (zc vs_4 3))) fun x50 =>
 zb (st1 x50 x49) fun _ =>
 zb (ze9 [(zc vs_4 2)]) fun x52 =>
 zb (za (zg 4 (zc vs_4 3))) fun x53 =>
 zb (st1 x53 x52) fun _ =>
 zb (
 zb (zbv [(zc vs_4 2), (Value.bool true)]) fun x55 =>
 zb (za (fld1 2 x55)) fun x56 =>
 zb (
 zcg zcb (zp7 G_errors_As G_strings_IndexRune G_strings_Contains) [(zc vs_4 0), (zc vs_4 1), (zc vs_4 2), (zc vs_4 3), x56]
 ) fun o => ret (zp 2 o)
 ) fun o => nx o (z1y G_errors_As G_strings_IndexRune G_strings_Contains)
def zrr (G_errors_As : List V → M V) (G_strings_IndexRune : List V → M V) (G_strings_Contains : List V → M V) (x0 : V) : M V :=
 zb (
 zb (newc [Value.string ⟨#[]⟩, Value.slice none 0 0, Value.slice none 0 0, Value.slice none 0 0, Value.slice none 0 0, Value.slice none 0 0]) fun x2 =>
 zb ((zke G_errors_As) [x0]) fun x14 =>
 zb (za (ext 0 x14)) fun x15 =>
 zb (za (ext 1 x14)) fun x16 =>
 zb (newc [Value.int .i64 0, Value.int .i64 0]) fun x5 =>
 zb (stn 2 x5 x16) fun _ =>
 zb (ldn 2 x5) fun x18 =>
 zb (za (build [Value.int .i64 0, Value.int .i64 0] [])) fun x19 =>
 zb (za (zhx true (z3k [.i, .i] x18 x19))) fun x20 =>
 zb (za (build [Value.slice none 0 0, Value.bool false] [(0, 1, x15), (1, 1, x20)])) fun x21 =>
 zb (zhp x21) fun x22 =>
 zb (zbv [x22, (Value.bool true)]) fun x24 =>
 zb (za (fld1 2 x24)) fun x25 =>
 zb (za (build [Value.string ⟨#[]⟩, Value.slice none 0 0, Value.slice none 0 0, Value.slice none 0 0, Value.slice none 0 0, Value.slice none 0 0] [(0, 1, x25)])) fun x26 =>
 zb (newc [Value.string ⟨#[]⟩, Value.slice none 0 0, Value.slice none 0 0, Value.slice none 0 0, Value.slice none 0 0, Value.slice none 0 0]) fun x7 =>
 zb (stn 6 x7 x26) fun _ =>
 zb (
 zb (zeh [x22]) fun x28 =>
 zb (
 zcg zcb (zp6 G_errors_As G_strings_IndexRune G_strings_Contains) [x0, x2, x22, x7, x28, (Value.int .i64 0)]
 ) fun o => ret (zp 0 o)
 ) fun o => nx o (z1z G_errors_As G_strings_IndexRune G_strings_Contains)
 ) fun o => zbn o fun vs => zb (ldn 6 (zc vs 0)) fun r0 => ret (zbe [r0, (zc vs 1)])
def z4f : Hint := (.seq [] .leaf (.seq [] .leaf (.seq [] .leaf (.seq [] .leaf (.seq [0, 2, 6, 7] (.seq [] .leaf (.blk (.loop [0, 2, 6, 7, 28, 29] (.seq [] .leaf (.seq [0, 2, 6, 7, 28, 29] (.cond .leaf .leaf) (.seq [0, 2, 6, 7, 28, 29] (.blk (.seq [] (.reg [0, 2, 1, 3, 4, 5, 6, 7, 8] []) (.reg [0, 2, 1, 3, 4, 5, 6, 7, 8] []))) .leaf)))))) (.seq [] .leaf (.seq [] .leaf (.seq [0, 2, 6, 7] (.seq [] .leaf (.blk (.loop [0, 2, 6, 7, 8] (.seq [0, 2, 6, 7, 8] (.seq [] .leaf (.cond .leaf .leaf)) (.seq [0, 2, 6, 7, 8] (.blk (.seq [] .leaf (.reg [0, 2, 3, 4, 5, 6, 8, 9, 11, 1, 7, 10, 12, 13, 14, 15, 16] []))) .leaf))))) (.seq [2, 7] (.seq [] .leaf (.seq [] .leaf (.cond (.seq [] .leaf .leaf) .leaf))) (.seq [] .leaf .leaf))))))))))
def zkp (G_errors_As : List V → M V) (G_strings_IndexRune : List V → M V) (G_strings_Contains : List V → M V) (l : List V) : M V := match l with | [x0] => zrr G_errors_As G_strings_IndexRune G_strings_Contains x0 | _ => fail
theorem zbfh (G_errors_As : List V → M V) (G_strings_IndexRune : List V → M V) (G_strings_Contains : List V → M V) (x0 : V) : zbr Tryz.prog (ovr [(zn5, zke G_errors_As), (zfc, zbv), (zgv, zeh), (zil, ze9), (zkx, zf0), (zn2, zko G_strings_IndexRune G_strings_Contains)] noC) zn3 z4f [x0] = zrr G_errors_As G_strings_IndexRune G_strings_Contains x0 := by kernel_rfl
theorem zbfi {G_errors_As : List V → M V} {G_strings_IndexRune : List V → M V} {G_strings_Contains : List V → M V} (k_errors_As : zk Tryz.prog ziv G_errors_As) (k_strings_IndexRune : zk Tryz.prog zy G_strings_IndexRune) (k_strings_Contains : zk Tryz.prog zbd G_strings_Contains) : zk Tryz.prog zn3 (zkp G_errors_As G_strings_IndexRune G_strings_Contains) := zh (σ := ovr [(zn5, zke G_errors_As), (zfc, zbv), (zgv, zeh), (zil, ze9), (zkx, zf0), (zn2, zko G_strings_IndexRune G_strings_Contains)] noC) (hint := z4f) (by kernel_rfl) (zd (zbew k_errors_As) (zd zof (zd zuq (zd z5m (zd zbay (zd (zbfg k_strings_IndexRune k_strings_Contains) zf)))))) fun l H r H' h => by
 unfold zkp at h; split at h
 · rw [zbfh]; exact h
 · exact (ze h).elim
def zrs (x0 x1 : V) : M V :=
 zb (
 zb (newc [Value.int .i64 0, Value.int .i64 0]) fun x4 =>
 zb (za (build [Value.int .i64 0, Value.int .i64 0] [(0, 1, x0), (1, 1, x1)])) fun x7 =>
 zb (stn 2 x4 x7) fun _ =>
 ret (.ret [x4])
 ) fun o => zbn o fun vs => zb (ldn 2 (zc vs 0)) fun r0 => ret (zbe [r0])
def z4g : Hint := (.seq [] .leaf (.seq [] .leaf .leaf))
def zgq (l : List V) : M V := match l with | [x0, x1] => zrs x0 x1 | _ => fail
theorem zbfj (x0 x1 : V) : zbr Tryz.prog (ovr [] noC) zsk z4g [x0, x1] = zrs x0 x1 := by kernel_rfl
theorem zbfk : zk Tryz.prog zsk (zgq) := zh (σ := ovr [] noC) (hint := z4g) (by kernel_rfl) zf fun l H r H' h => by
 unfold zgq at h; split at h
 · rw [zbfj]; exact h
 · exact (ze h).elim
def z4h (vs_5 : List V) : M Out :=
 zb (za (zj .add (zc vs_5 4) (Value.int .i64 1))) fun x30 =>
 ret (.nxt [(zc vs_5 0), (zc vs_5 1), (zc vs_5 2), (zc vs_5 3), x30])
def z4i (vs_4 : List V) : M Out :=
 zb (
 zb (
 zb (za (zj .mul (zc vs_4 3) (Value.int .u64 256))) fun x32 =>
 zb (za (zj .add (zc vs_4 1) (zc vs_4 4))) fun x36 =>
 zb (za (zh9 (zc vs_4 0) x36)) fun x37 =>
 zb (za (cvi .u64 x37)) fun x38 =>
 zb (za (zj .add x32 x38)) fun x39 =>
 ret (.nxt [(zc vs_4 0), (zc vs_4 1), (zc vs_4 2), x39, (zc vs_4 4)])
 ) fun o => ret (zp 1 o)
 ) fun o => nx o z4h
def zwp (vs_3 : List V) : M Out :=
 zb (
 zb (za (zj .lss (zc vs_3 4) (Value.int .i64 9))) fun x28 =>
 zi x28 (
 ret (.nxt [(zc vs_3 0), (zc vs_3 1), (zc vs_3 2), (zc vs_3 3), (zc vs_3 4)])
 ) (
 ret (.brk 0 [(zc vs_3 1), (zc vs_3 2), (zc vs_3 3)])
 )
 ) fun o => nx o z4i
def z4j (vs_6 : List V) : M Out :=
 zb (za (cvi .i64 (zc vs_6 2))) fun x41 =>
 zb (za (build [Value.bool false, Value.int .i64 0, Value.string ⟨#[]⟩] [(1, 1, x41)])) fun x42 =>
 zb (za (zj .add (zc vs_6 0) (Value.int .i64 9))) fun x44 =>
 zb (stn 3 (zc vs_6 1) x42) fun _ =>
 ret (.ret [(zc vs_6 1), x44, (Value.int .i64 0)])
def z4k (vs_2 : List V) : M Out :=
 zb (
 zb (
 zcg zcb zwp [(zc vs_2 0), (zc vs_2 1), (zc vs_2 2), (Value.int .u64 0), (Value.int .i64 1)]
 ) fun o => ret (zp 0 o)
 ) fun o => nx o z4j
def z4l (vs_10 : List V) : M Out :=
 zb (za (zj .add (zc vs_10 1) (Value.int .i64 3))) fun x78 =>
 zb (za (zj .add (zc vs_10 1) (Value.int .i64 3))) fun x80 =>
 zb (za (zj .add x80 (zc vs_10 3))) fun x82 =>
 zb (za (zo6 (zc vs_10 0) (some x78) (some x82))) fun x83 =>
 zb (za (build [Value.bool false, Value.int .i64 0, Value.string ⟨#[]⟩] [(0, 1, (Value.bool true)), (2, 1, x83)])) fun x84 =>
 zb (za (zj .add (zc vs_10 1) (Value.int .i64 3))) fun x86 =>
 zb (za (zj .add x86 (zc vs_10 3))) fun x88 =>
 zb (stn 3 (zc vs_10 2) x84) fun _ =>
 ret (.ret [(zc vs_10 2), x88, (Value.int .i64 0)])
def zwq (vs_9 : List V) : M Out :=
 zb (za (zj .add (zc vs_9 1) (Value.int .i64 1))) fun x58 =>
 zb (za (zh9 (zc vs_9 0) x58)) fun x59 =>
 zb (za (cvi .i64 x59)) fun x60 =>
 zb (za (zj .mul x60 (Value.int .i64 256))) fun x61 =>
 zb (za (zj .add (zc vs_9 1) (Value.int .i64 2))) fun x64 =>
 zb (za (zh9 (zc vs_9 0) x64)) fun x65 =>
 zb (za (cvi .i64 x65)) fun x66 =>
 zb (za (zj .add x61 x66)) fun x67 =>
 zb (
 zb (za (zde (zc vs_9 0))) fun x69 =>
 zb (za (zj .sub x69 (zc vs_9 1))) fun x71 =>
 zb (za (zj .sub x71 (Value.int .i64 3))) fun x72 =>
 zb (za (zj .lss x72 x67)) fun x74 =>
 zi x74 (
 zb (ldn 3 (zc vs_9 3)) fun x75 =>
 zb (stn 3 (zc vs_9 2) x75) fun _ =>
 ret (.ret [(zc vs_9 2), (Value.int .i64 0), (Value.int .i64 30)])
 ) (
 ret (.nxt [(zc vs_9 0), (zc vs_9 1), (zc vs_9 2), x67])
 )
 ) fun o => nx o z4l
def zrt (vs_8 : List V) : M Out :=
 zb (
 zb (za (zde (zc vs_8 0))) fun x51 =>
 zb (za (zj .sub x51 (zc vs_8 1))) fun x53 =>
 zb (za (zj .lss x53 (Value.int .i64 3))) fun x54 =>
 zi x54 (
 zb (ldn 3 (zc vs_8 3)) fun x55 =>
 zb (stn 3 (zc vs_8 2) x55) fun _ =>
 ret (.ret [(zc vs_8 2), (Value.int .i64 0), (Value.int .i64 30)])
 ) (
 ret (.nxt [(zc vs_8 0), (zc vs_8 1), (zc vs_8 2), (zc vs_8 3)])
 )
 ) fun o => nx o zwq
def znr (vs_7 : List V) : M Out :=
 zb (
 zb (za (zh9 (zc vs_7 0) (zc vs_7 1))) fun x47 =>
 zb (za (zj .neq x47 (Value.int .u8 36))) fun x48 =>
 zi x48 (
 zb (ldn 3 (zc vs_7 3)) fun x49 =>
 zb (stn 3 (zc vs_7 2) x49) fun _ =>
 ret (.ret [(zc vs_7 2), (Value.int .i64 0), (Value.int .i64 3)])
 ) (
 ret (.nxt [(zc vs_7 0), (zc vs_7 1), (zc vs_7 2), (zc vs_7 3)])
 )
 ) fun o => nx o zrt
def zhm (vs : List V) : M Out :=
 zb (
 zb (za (zh9 (zc vs 0) (zc vs 1))) fun x19 =>
 zb (za (zj .eql x19 (Value.int .u8 35))) fun x20 =>
 zi x20 (
 zb (
 zb (za (zde (zc vs 0))) fun x22 =>
 zb (za (zj .sub x22 (zc vs 1))) fun x24 =>
 zb (za (zj .lss x24 (Value.int .i64 9))) fun x25 =>
 zi x25 (
 zb (ldn 3 (zc vs 3)) fun x26 =>
 zb (stn 3 (zc vs 2) x26) fun _ =>
 ret (.ret [(zc vs 2), (Value.int .i64 0), (Value.int .i64 30)])
 ) (
 ret (.nxt [(zc vs 0), (zc vs 1), (zc vs 2)])
 )
 ) fun o => nx o z4k
 ) (
 ret (.nxt [(zc vs 0), (zc vs 1), (zc vs 2), (zc vs 3)])
 )
 ) fun o => nx o znr
def zp8 (x0 x1 : V) : M V :=
 zb (
 zb (newc [Value.bool false, Value.int .i64 0, Value.string ⟨#[]⟩]) fun x4 =>
 zb (za (build [Value.bool false, Value.int .i64 0, Value.string ⟨#[]⟩] [])) fun x11 =>
 zb (newc [Value.bool false, Value.int .i64 0, Value.string ⟨#[]⟩]) fun x7 =>
 zb (stn 3 x7 x11) fun _ =>
 zb (
 zb (za (zde x0)) fun x14 =>
 zb (za (zj .geq x1 x14)) fun x15 =>
 zi x15 (
 zb (ldn 3 x7) fun x16 =>
 zb (stn 3 x4 x16) fun _ =>
 ret (.ret [x4, (Value.int .i64 0), (Value.int .i64 30)])
 ) (
 ret (.nxt [x0, x1, x4, x7])
 )
 ) fun o => nx o zhm
 ) fun o => zbn o fun vs => zb (ldn 3 (zc vs 0)) fun r0 => ret (zbe [r0, (zc vs 1), (zc vs 2)])
def z7c : Hint := (.seq [] .leaf (.seq [] .leaf (.seq [0, 1, 4, 7] (.seq [] .leaf (.cond (.seq [] .leaf .leaf) .leaf)) (.seq [0, 1, 4, 7] (.seq [] .leaf (.cond (.seq [0, 1, 4] (.seq [] .leaf (.cond (.seq [] .leaf .leaf) .leaf)) (.seq [] .leaf (.seq [1, 4, 8] (.seq [] .leaf (.blk (.loop [0, 1, 4, 8, 9] (.seq [0, 1, 4, 8, 9] (.seq [] .leaf (.cond .leaf .leaf)) (.seq [0, 1, 4, 8, 9] (.blk .leaf) .leaf))))) (.seq [] .leaf .leaf)))) .leaf)) (.seq [0, 1, 4, 7] (.seq [] .leaf (.cond (.seq [] .leaf .leaf) .leaf)) (.seq [0, 1, 4, 7] (.seq [] .leaf (.cond (.seq [] .leaf .leaf) .leaf)) (.seq [] (.reg [0, 1, 2, 3, 4, 5, 6, 7, 8, 9, 10, 11, 12] []) (.seq [0, 1, 4, 10] (.seq [] .leaf (.cond (.seq [] .leaf .leaf) .leaf)) (.seq [] .leaf .leaf)))))))))
def zp9 (l : List V) : M V := match l with | [x0, x1] => zp8 x0 x1 | _ => fail
theorem zbix (x0 x1 : V) : zbr Tryz.prog (ovr [] noC) zum z7c [x0, x1] = zp8 x0 x1 := by kernel_rfl
theorem zbiy : zk Tryz.prog zum (zp9) := zh (σ := ovr [] noC) (hint := z7c) (by kernel_rfl) zf fun l H r H' h => by
 unfold zp9 at h; split at h
 · rw [zbix]; exact h
 · exact (ze h).elim
def zzr (vs_6 : List V) : M Out :=
 zb (ldn 3 (zc vs_6 5)) fun x48 =>
 zb (zfb 3 1 (rep 1 [Value.bool false, Value.int .i64 0, Value.string ⟨#[]⟩]) [(0, 3, x48)]) fun x49 =>
 zb (zk7 3 32 (zc vs_6 3) x49) fun x50 =>
 ret (.nxt [(zc vs_6 0), (zc vs_6 1), (zc vs_6 2), x50, (zc vs_6 6), (zc vs_6 4)])
def zzs (vs_7 : List V) : M Out :=
 zb (za (zj .add (zc vs_7 5) (Value.int .i64 1))) fun x34 =>
 ret (.nxt [(zc vs_7 0), (zc vs_7 1), (zc vs_7 2), (zc vs_7 3), (zc vs_7 4), x34])
def zzt (vs_5 : List V) : M Out :=
 zb (
 zb (
 zb (zp9 [(zc vs_5 0), (zc vs_5 4)]) fun x38 =>
 zb (za (ext 0 x38)) fun x39 =>
 zb (za (ext 1 x38)) fun x40 =>
 zb (za (ext 2 x38)) fun x41 =>
 zb (newc [Value.bool false, Value.int .i64 0, Value.string ⟨#[]⟩]) fun x8 =>
 zb (stn 3 x8 x39) fun _ =>
 zb (
 zb (za (zj .neq x41 (Value.int .i64 0))) fun x43 =>
 zi x43 (
 zb (zgq [(zc vs_5 4), x41]) fun x46 =>
 zb (stn 2 (zc vs_5 1) x46) fun _ =>
 ret (.ret [(Value.slice none 0 0), (zc vs_5 1)])
 ) (
 ret (.nxt [(zc vs_5 0), (zc vs_5 1), (zc vs_5 2), (zc vs_5 3), (zc vs_5 5), x8, x40])
 )
 ) fun o => nx o zzr
 ) fun o => ret (zp 1 o)
 ) fun o => nx o zzs
def zn9 (vs_4 : List V) : M Out :=
 zb (
 zb (za (zj .lss (zc vs_4 5) (zc vs_4 2))) fun x32 =>
 zi x32 (
 ret (.nxt [(zc vs_4 0), (zc vs_4 1), (zc vs_4 2), (zc vs_4 3), (zc vs_4 4), (zc vs_4 5)])
 ) (
 ret (.brk 0 [(zc vs_4 0), (zc vs_4 1), (zc vs_4 3), (zc vs_4 4)])
 )
 ) fun o => nx o zzt
def zzu (vs_9 : List V) : M Out :=
 zb (za (build [Value.int .i64 0, Value.int .i64 0] [])) fun x59 =>
 zb (stn 2 (zc vs_9 0) x59) fun _ =>
 ret (.ret [(zc vs_9 1), (zc vs_9 0)])
def zsn (vs_8 : List V) : M Out :=
 zb (
 zb (za (zde (zc vs_8 0))) fun x54 =>
 zb (za (zj .lss (zc vs_8 3) x54)) fun x55 =>
 zi x55 (
 zb (zgq [(zc vs_8 3), (Value.int .i64 31)]) fun x57 =>
 zb (stn 2 (zc vs_8 1) x57) fun _ =>
 ret (.ret [(Value.slice none 0 0), (zc vs_8 1)])
 ) (
 ret (.nxt [(zc vs_8 1), (zc vs_8 2)])
 )
 ) fun o => nx o zzu
def zzv (vs_3 : List V) : M Out :=
 zb (
 zb (
 zcg zcb zn9 [(zc vs_3 0), (zc vs_3 1), (zc vs_3 2), (Value.slice none 0 0), (Value.int .i64 2), (Value.int .i64 0)]
 ) fun o => ret (zp 0 o)
 ) fun o => nx o zsn
def zso (vs_2 : List V) : M Out :=
 zb (za (zh9 (zc vs_2 0) (Value.int .i64 0))) fun x20 =>
 zb (za (cvi .i64 x20)) fun x21 =>
 zb (za (zj .mul x21 (Value.int .i64 256))) fun x22 =>
 zb (za (zh9 (zc vs_2 0) (Value.int .i64 1))) fun x24 =>
 zb (za (cvi .i64 x24)) fun x25 =>
 zb (za (zj .add x22 x25)) fun x26 =>
 zb (
 zb (za (zj .gtr x26 (Value.int .i64 1000))) fun x28 =>
 zi x28 (
 zb (zgq [(Value.int .i64 0), (Value.int .i64 2)]) fun x29 =>
 zb (stn 2 (zc vs_2 1) x29) fun _ =>
 ret (.ret [(Value.slice none 0 0), (zc vs_2 1)])
 ) (
 ret (.nxt [(zc vs_2 0), (zc vs_2 1), x26])
 )
 ) fun o => nx o zzv
def zoa (vs : List V) : M Out :=
 zb (
 zb (za (zde (zc vs 0))) fun x16 =>
 zb (za (zj .lss x16 (Value.int .i64 2))) fun x17 =>
 zi x17 (
 zb (zgq [(Value.int .i64 0), (Value.int .i64 30)]) fun x18 =>
 zb (stn 2 (zc vs 1) x18) fun _ =>
 ret (.ret [(Value.slice none 0 0), (zc vs 1)])
 ) (
 ret (.nxt [(zc vs 0), (zc vs 1)])
 )
 ) fun o => nx o zso
def zqa (x0 : V) : M V :=
 zb (
 zb (newc [Value.int .i64 0, Value.int .i64 0]) fun x3 =>
 zb (
 zb (za (zde x0)) fun x12 =>
 zb (za (zj .gtr x12 (Value.int .i64 65536))) fun x13 =>
 zi x13 (
 zb (zgq [(Value.int .i64 0), (Value.int .i64 2)]) fun x14 =>
 zb (stn 2 x3 x14) fun _ =>
 ret (.ret [(Value.slice none 0 0), x3])
 ) (
 ret (.nxt [x0, x3])
 )
 ) fun o => nx o zoa
 ) fun o => zbn o fun vs => zb (ldn 2 (zc vs 1)) fun r1 => ret (zbe [(zc vs 0), r1])
def z10 : Hint := (.seq [] .leaf (.seq [0, 3] (.seq [] .leaf (.cond (.seq [] .leaf .leaf) .leaf)) (.seq [0, 3] (.seq [] .leaf (.cond (.seq [] .leaf .leaf) .leaf)) (.seq [] (.reg [0, 1, 2, 3, 4, 5, 6, 7, 8] []) (.seq [0, 3, 4] (.seq [] .leaf (.cond (.seq [] .leaf .leaf) .leaf)) (.seq [] .leaf (.seq [] .leaf (.seq [0, 3, 5, 6] (.seq [] .leaf (.blk (.loop [0, 3, 4, 5, 6, 7] (.seq [0, 3, 4, 5, 6, 7] (.seq [] .leaf (.cond .leaf .leaf)) (.seq [0, 3, 4, 5, 6, 7] (.blk (.seq [] .leaf (.seq [0, 3, 4, 5, 7, 8, 9] (.seq [] .leaf (.cond (.seq [] .leaf .leaf) .leaf)) (.seq [] .leaf .leaf)))) .leaf))))) (.seq [3, 5] (.seq [] .leaf (.cond (.seq [] .leaf .leaf) .leaf)) (.seq [] .leaf .leaf))))))))))
def zl5 (l : List V) : M V := match l with | [x0] => zqa x0 | _ => fail
def z11 : zl := ovr [(zsk, zgq), (zum, zp9)] noC
theorem zbdt (x0 : V) : zbr Tryz.prog (z11) zqz z10 [x0] = zqa x0 := by kernel_rfl
theorem zbdu : zk Tryz.prog zqz (zl5) := zh (σ := z11) (hint := z10) (by kernel_rfl) (zd zbfk (zd zbiy zf)) fun l H r H' h => by
 unfold zl5 at h; split at h
 · rw [zbdt]; exact h
 · exact (ze h).elim
def zr6 (vs : List V) : M Out :=
 zb (za (zeb (zc vs 0))) fun x37 =>
 zb (za (zg 1 x37)) fun x38 =>
 zb (z8 x38) fun x39 =>
 zb (za (zj .add x39 (Value.int .i64 1))) fun x40 =>
 zb (za (zeb (zc vs 0))) fun x41 =>
 zb (za (zg 1 x41)) fun x42 =>
 zb (st1 x42 x40) fun _ =>
 zb (za (zeb (zc vs 0))) fun x44 =>
 zb (za (zg 0 x44)) fun x45 =>
 zb (za (zeb (zc vs 0))) fun x48 =>
 zb (za (zg 1 x48)) fun x49 =>
 zb (z8 x45) fun x46 =>
 zb (z8 x49) fun x50 =>
 zb (za (zj .sub x50 (Value.int .i64 1))) fun x51 =>
 zb (za (zbo 3 x46 x51)) fun x52 =>
 zb (za (zg 2 x52)) fun x53 =>
 zb (z8 x53) fun x54 =>
 ret (.ret [x54])
def zi3 (x0 : V) : M V :=
 zb (
 zb (
 zb (za (zeb x0)) fun x4 =>
 zb (za (zg 2 x4)) fun x5 =>
 zb (z8 x5) fun x6 =>
 zb (gd x6 false (za (some x0))) fun x8 =>
 zb (gd x6 false (za (zeb x8))) fun x9 =>
 zb (gd x6 false (za (zg 1 x9))) fun x10 =>
 zb (gd x6 false (za (some x0))) fun x12 =>
 zb (gd x6 false (za (zeb x12))) fun x13 =>
 zb (gd x6 false (za (zg 0 x13))) fun x14 =>
 zb (gd x6 false (z8 x10)) fun x11 =>
 zb (gd x6 false (z8 x14)) fun x15 =>
 zb (gd x6 false (za (zo x15))) fun x16 =>
 zb (gd x6 false (za (zj .geq x11 x16))) fun x17 =>
 zb (za (zm x6 (Value.bool true) x17)) fun x18 =>
 zb (gd x18 false (za (some x0))) fun x20 =>
 zb (gd x18 false (za (zeb x20))) fun x21 =>
 zb (gd x18 false (za (zg 0 x21))) fun x22 =>
 zb (gd x18 false (za (some x0))) fun x24 =>
 zb (gd x18 false (za (zeb x24))) fun x25 =>
 zb (gd x18 false (za (zg 1 x25))) fun x26 =>
 zb (gd x18 false (z8 x22)) fun x23 =>
 zb (gd x18 false (z8 x26)) fun x27 =>
 zb (gd x18 false (za (zbo 3 x23 x27))) fun x28 =>
 zb (gd x18 false (za (zg 0 x28))) fun x29 =>
 zb (gd x18 false (z8 x29)) fun x30 =>
 zb (gd x18 false (za (un .not x30))) fun x31 =>
 zb (za (zm x18 (Value.bool true) x31)) fun x32 =>
 zi x32 (
 zb (za (zeb x0)) fun x34 =>
 zb (za (zg 2 x34)) fun x35 =>
 zb (st1 x35 (Value.bool true)) fun _ =>
 ret (.ret [(Value.string ⟨#[]⟩)])
 ) (
 ret (.nxt [x0])
 )
 ) fun o => nx o zr6
 ) fun o => zbn o fun vs => ret (zbe [(zc vs 0)])
def zs3 : Hint := (.seq [] .leaf (.seq [0] (.seq [] (.reg [0, 1, 2, 3, 4, 5, 6, 7, 9, 10, 11, 8, 12, 13, 14, 15, 16, 17, 18, 19, 21, 22, 23, 20, 24, 25, 26, 27, 28, 29] []) (.cond (.seq [] .leaf (.seq [] .leaf .leaf)) .leaf)) (.seq [] .leaf (.seq [] (.reg [0, 1, 2, 4, 5, 6, 3, 7, 8, 9, 10, 11, 12] []) .leaf))))
def zeq (l : List V) : M V := match l with | [x0] => zi3 x0 | _ => fail
theorem z3f (x0 : V) : zbr Tryz.prog (ovr [] noC) zkr zs3 [x0] = zi3 x0 := by kernel_rfl
theorem z3g : zk Tryz.prog zkr (zeq) := zh (σ := ovr [] noC) (hint := zs3) (by kernel_rfl) zf fun l H r H' h => by
 unfold zeq at h; split at h
 · rw [z3f]; exact h
 · exact (ze h).elim
end Go.AM.Cap
