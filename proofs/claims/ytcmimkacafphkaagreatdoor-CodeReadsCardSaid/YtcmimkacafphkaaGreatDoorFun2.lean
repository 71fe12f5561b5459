import Derived.Test.YtcmimkacafphkaaGreatDoorFun
set_option linter.all false
/- Printed by amprint2.py: functions of YtcmimkacafphkaaGreatDoor on the abstract machine. -/
set_option linter.unusedVariables false
set_option maxRecDepth 100000
namespace Go.AM.Cap
open Go.AM Go.Proofs
def zs4 (vs : List V) : M Out :=
 zb (za (zeb (zc vs 0))) fun x67 =>
 zb (za (zg 1 x67)) fun x68 =>
 zb (z8 x68) fun x69 =>
 zb (za (zj .add x69 (Value.int .i64 1))) fun x70 =>
 zb (za (zeb (zc vs 0))) fun x71 =>
 zb (za (zg 1 x71)) fun x72 =>
 zb (st1 x72 x70) fun _ =>
 zb (za (zeb (zc vs 0))) fun x74 =>
 zb (za (zg 0 x74)) fun x75 =>
 zb (za (zeb (zc vs 0))) fun x78 =>
 zb (za (zg 1 x78)) fun x79 =>
 zb (z8 x75) fun x76 =>
 zb (z8 x79) fun x80 =>
 zb (za (zj .sub x80 (Value.int .i64 1))) fun x81 =>
 zb (za (zbo 3 x76 x81)) fun x82 =>
 zb (za (zg 1 x82)) fun x83 =>
 zb (z8 x83) fun x84 =>
 ret (.ret [x84])
def zj2 (x0 x1 : V) : M V :=
 zb (
 zb (
 zb (za (zeb x0)) fun x6 =>
 zb (za (zg 2 x6)) fun x7 =>
 zb (z8 x7) fun x8 =>
 zb (gd x8 false (za (some x0))) fun x10 =>
 zb (gd x8 false (za (zeb x10))) fun x11 =>
 zb (gd x8 false (za (zg 1 x11))) fun x12 =>
 zb (gd x8 false (za (some x0))) fun x14 =>
 zb (gd x8 false (za (zeb x14))) fun x15 =>
 zb (gd x8 false (za (zg 0 x15))) fun x16 =>
 zb (gd x8 false (z8 x12)) fun x13 =>
 zb (gd x8 false (z8 x16)) fun x17 =>
 zb (gd x8 false (za (zo x17))) fun x18 =>
 zb (gd x8 false (za (zj .geq x13 x18))) fun x19 =>
 zb (za (zm x8 (Value.bool true) x19)) fun x20 =>
 zb (gd x20 false (za (some x0))) fun x22 =>
 zb (gd x20 false (za (zeb x22))) fun x23 =>
 zb (gd x20 false (za (zg 0 x23))) fun x24 =>
 zb (gd x20 false (za (some x0))) fun x26 =>
 zb (gd x20 false (za (zeb x26))) fun x27 =>
 zb (gd x20 false (za (zg 1 x27))) fun x28 =>
 zb (gd x20 false (z8 x24)) fun x25 =>
 zb (gd x20 false (z8 x28)) fun x29 =>
 zb (gd x20 false (za (zbo 3 x25 x29))) fun x30 =>
 zb (gd x20 false (za (zg 0 x30))) fun x31 =>
 zb (gd x20 false (z8 x31)) fun x32 =>
 zb (za (zm x20 (Value.bool true) x32)) fun x33 =>
 zb (gd x33 false (za (some x0))) fun x35 =>
 zb (gd x33 false (za (zeb x35))) fun x36 =>
 zb (gd x33 false (za (zg 0 x36))) fun x37 =>
 zb (gd x33 false (za (some x0))) fun x39 =>
 zb (gd x33 false (za (zeb x39))) fun x40 =>
 zb (gd x33 false (za (zg 1 x40))) fun x41 =>
 zb (gd x33 false (z8 x37)) fun x38 =>
 zb (gd x33 false (z8 x41)) fun x42 =>
 zb (gd x33 false (za (zbo 3 x38 x42))) fun x43 =>
 zb (gd x33 false (za (zg 1 x43))) fun x44 =>
 zb (gd x33 false (z8 x44)) fun x45 =>
 zb (gd x33 false (za (zj .lss x45 (Value.int .i64 0)))) fun x46 =>
 zb (za (zm x33 (Value.bool true) x46)) fun x47 =>
 zb (gd x47 false (za (some x0))) fun x49 =>
 zb (gd x47 false (za (zeb x49))) fun x50 =>
 zb (gd x47 false (za (zg 0 x50))) fun x51 =>
 zb (gd x47 false (za (some x0))) fun x53 =>
 zb (gd x47 false (za (zeb x53))) fun x54 =>
 zb (gd x47 false (za (zg 1 x54))) fun x55 =>
 zb (gd x47 false (za (some x1))) fun x60 =>
 zb (gd x47 false (z8 x51)) fun x52 =>
 zb (gd x47 false (z8 x55)) fun x56 =>
 zb (gd x47 false (za (zbo 3 x52 x56))) fun x57 =>
 zb (gd x47 false (za (zg 1 x57))) fun x58 =>
 zb (gd x47 false (z8 x58)) fun x59 =>
 zb (gd x47 false (za (zj .gtr x59 x60))) fun x61 =>
 zb (za (zm x47 (Value.bool true) x61)) fun x62 =>
 zi x62 (
 zb (za (zeb x0)) fun x64 =>
 zb (za (zg 2 x64)) fun x65 =>
 zb (st1 x65 (Value.bool true)) fun _ =>
 ret (.ret [(Value.int .i64 0)])
 ) (
 ret (.nxt [x0])
 )
 ) fun o => nx o zs4
 ) fun o => zbn o fun vs => ret (zbe [(zc vs 0)])
def zu2 : Hint := (.seq [] .leaf (.seq [0] (.seq [] (.reg [0, 1, 2, 3, 4, 5, 6, 7, 9, 10, 11, 8, 12, 13, 14, 15, 16, 17, 18, 19, 21, 22, 23, 20, 24, 25, 26, 27, 28, 29, 30, 31, 32, 34, 35, 36, 33, 37, 38, 39, 40, 41, 42, 43, 44, 45, 46, 48, 49, 50, 55, 47, 51, 52, 53, 54, 56, 57] []) (.cond (.seq [] .leaf (.seq [] .leaf .leaf)) .leaf)) (.seq [] .leaf (.seq [] (.reg [0, 1, 2, 4, 5, 6, 3, 7, 8, 9, 10, 11, 12] []) .leaf))))
def zc7 (l : List V) : M V := match l with | [x0, x1] => zj2 x0 x1 | _ => fail
theorem z5q (x0 x1 : V) : zbr Tryz.prog (ovr [] noC) zim zu2 [x0, x1] = zj2 x0 x1 := by kernel_rfl
theorem zu3 : zk Tryz.prog zim (zc7) := zh (σ := ovr [] noC) (hint := zu2) (by kernel_rfl) zf fun l H r H' h => by
 unfold zc7 at h; split at h
 · rw [z5q]; exact h
 · exact (ze h).elim
def zl6 (vs_3 : List V) : M Out :=
 zb (za (zj .add (zc vs_3 3) (Value.int .i64 1))) fun x19 =>
 ret (.nxt [(zc vs_3 0), (zc vs_3 1), (zc vs_3 2), x19])
def zr7 (vs_2 : List V) : M Out :=
 zb (
 zb (
 zb (zc7 [(zc vs_2 0), (Value.int .i64 1024)]) fun x22 =>
 zb (zfb 1 1 (rep 1 [Value.int .i64 0]) [(0, 1, x22)]) fun x23 =>
 zb (zk7 1 8 (zc vs_2 1) x23) fun x24 =>
 ret (.nxt [(zc vs_2 0), x24, (zc vs_2 2), (zc vs_2 3)])
 ) fun o => ret (zp 1 o)
 ) fun o => nx o zl6
def zgy (vs : List V) : M Out :=
 zb (
 zb (za (zj .lss (zc vs 3) (zc vs 2))) fun x10 =>
 zb (gd x10 true (za (some (zc vs 0)))) fun x12 =>
 zb (gd x10 true (za (zeb x12))) fun x13 =>
 zb (gd x10 true (za (zg 2 x13))) fun x14 =>
 zb (gd x10 true (z8 x14)) fun x15 =>
 zb (gd x10 true (za (un .not x15))) fun x16 =>
 zb (za (zm x10 x16 (Value.bool false))) fun x17 =>
 zi x17 (
 ret (.nxt [(zc vs 0), (zc vs 1), (zc vs 2), (zc vs 3)])
 ) (
 ret (.brk 0 [(zc vs 1)])
 )
 ) fun o => nx o zr7
def zis (vs_4 : List V) : M Out :=
 ret (.ret [(zc vs_4 0)])
def zi4 (x0 : V) : M V :=
 zb (
 zb (zc7 [x0, (Value.int .i64 1024)]) fun x7 =>
 zb (
 zb (
 zcg zcb zgy [x0, (Value.slice none 0 0), x7, (Value.int .i64 0)]
 ) fun o => ret (zp 0 o)
 ) fun o => nx o zis
 ) fun o => zbn o fun vs => ret (zbe [(zc vs 0)])
def zs5 : Hint := (.seq [] .leaf (.seq [] .leaf (.seq [] .leaf (.seq [3] (.seq [] .leaf (.blk (.loop [0, 3, 4, 5] (.seq [0, 3, 4, 5] (.seq [] .leaf (.cond .leaf .leaf)) (.seq [0, 3, 4, 5] (.blk .leaf) .leaf))))) (.seq [] .leaf .leaf)))))
def zer (l : List V) : M V := match l with | [x0] => zi4 x0 | _ => fail
def zs6 : zl := ovr [(zim, zc7)] noC
theorem z3h (x0 : V) : zbr Tryz.prog (zs6) zks zs5 [x0] = zi4 x0 := by kernel_rfl
theorem z3i : zk Tryz.prog zks (zer) := zh (σ := zs6) (hint := zs5) (by kernel_rfl) (zd zu3 zf) fun l H r H' h => by
 unfold zer at h; split at h
 · rw [z3h]; exact h
 · exact (ze h).elim
def z12 (vs_3 : List V) : M Out :=
 zb (za (zj .add (zc vs_3 3) (Value.int .i64 1))) fun x8 =>
 ret (.nxt [(zc vs_3 0), (zc vs_3 1), (zc vs_3 2), x8])
def z13 (vs_2 : List V) : M Out :=
 zb (
 zb (
 zb (za (zj .mul (zc vs_2 2) (Value.int .u64 256))) fun x10 =>
 zb (za (zh9 (zc vs_2 0) (zc vs_2 3))) fun x13 =>
 zb (za (cvi .u64 x13)) fun x14 =>
 zb (za (zj .add x10 x14)) fun x15 =>
 ret (.nxt [(zc vs_2 0), (zc vs_2 1), x15, (zc vs_2 3)])
 ) fun o => ret (zp 1 o)
 ) fun o => nx o z12
def zu4 (vs : List V) : M Out :=
 zb (
 zb (za (zj .lss (zc vs 3) (Value.int .i64 11))) fun x6 =>
 zi x6 (
 ret (.nxt [(zc vs 0), (zc vs 1), (zc vs 2), (zc vs 3)])
 ) (
 ret (.brk 0 [(zc vs 0), (zc vs 1), (zc vs 2)])
 )
 ) fun o => nx o z13
def zu5 (vs_5 : List V) : M Out :=
 zb (za (zh9 (zc vs_5 0) (Value.int .i64 0))) fun x21 =>
 zb (za (cvi .i64 x21)) fun x22 =>
 zb (za (zh9 (zc vs_5 0) (Value.int .i64 1))) fun x24 =>
 zb (za (cvi .i64 x24)) fun x25 =>
 zb (za (zj .mul x25 (Value.int .i64 256))) fun x26 =>
 zb (za (zh9 (zc vs_5 0) (Value.int .i64 2))) fun x28 =>
 zb (za (cvi .i64 x28)) fun x29 =>
 zb (za (zj .add x26 x29)) fun x30 =>
 zb (za (zh9 (zc vs_5 0) (Value.int .i64 3))) fun x32 =>
 zb (za (cvi .i64 x32)) fun x33 =>
 zb (za (zj .mul x33 (Value.int .i64 256))) fun x34 =>
 zb (za (zh9 (zc vs_5 0) (Value.int .i64 4))) fun x36 =>
 zb (za (cvi .i64 x36)) fun x37 =>
 zb (za (zj .add x34 x37)) fun x38 =>
 zb (za (cvi .i64 (zc vs_5 2))) fun x40 =>
 zb (za (build [Value.int .i64 0, Value.int .i64 0, Value.int .i64 0, Value.int .i64 0] [(0, 1, x22), (1, 1, x30), (2, 1, x38), (3, 1, x40)])) fun x41 =>
 zb (stn 4 (zc vs_5 1) x41) fun _ =>
 ret (.ret [(zc vs_5 1)])
def z14 (vs_4 : List V) : M Out :=
 zb (
 zb (za (zj .geq (zc vs_4 2) (Value.int .u64 140737488355328))) fun x17 =>
 zi x17 (
 zb (za (zj .sub (zc vs_4 2) (Value.int .u64 281474976710656))) fun x19 =>
 ret (.nxt [(zc vs_4 0), (zc vs_4 1), x19])
 ) (
 ret (.nxt [(zc vs_4 0), (zc vs_4 1), (zc vs_4 2)])
 )
 ) fun o => nx o zu5
def zru (x0 : V) : M V :=
 zb (
 zb (newc [Value.int .i64 0, Value.int .i64 0, Value.int .i64 0, Value.int .i64 0]) fun x2 =>
 zb (
 zb (
 zcg zcb zu4 [x0, x2, (Value.int .u64 0), (Value.int .i64 5)]
 ) fun o => ret (zp 0 o)
 ) fun o => nx o z14
 ) fun o => zbn o fun vs => zb (ldn 4 (zc vs 0)) fun r0 => ret (zbe [r0])
def z4m : Hint := (.seq [] .leaf (.seq [] .leaf (.seq [0, 2, 3] (.seq [] .leaf (.blk (.loop [0, 2, 3, 4] (.seq [0, 2, 3, 4] (.seq [] .leaf (.cond .leaf .leaf)) (.seq [0, 2, 3, 4] (.blk .leaf) .leaf))))) (.seq [0, 2, 3] (.seq [] .leaf (.cond .leaf .leaf)) (.seq [] (.reg [0, 1, 2, 3, 4, 5, 6, 7, 8, 9, 10, 11, 12, 13, 14, 15, 16, 17, 18, 19, 20, 21, 22] []) .leaf)))))
def zns (l : List V) : M V := match l with | [x0] => zru x0 | _ => fail
theorem zbfl (x0 : V) : zbr Tryz.prog (ovr [] noC) zsh z4m [x0] = zru x0 := by kernel_rfl
theorem zbfm : zk Tryz.prog zsh (zns) := zh (σ := ovr [] noC) (hint := z4m) (by kernel_rfl) zf fun l H r H' h => by
 unfold zns at h; split at h
 · rw [zbfl]; exact h
 · exact (ze h).elim
def zq5 : M V :=
 zb (
 zb (zfb 1 51 (rep 51 [Value.string ⟨#[]⟩]) [(0, 1, (Value.string ⟨#[80, 82, 79, 71, 82, 65, 77]⟩)), (1, 1, (Value.string ⟨#[69, 78, 68, 95, 80, 82, 79, 71, 82, 65, 77]⟩)), (2, 1, (Value.string ⟨#[86, 65, 82]⟩)), (3, 1, (Value.string ⟨#[86, 65, 82, 95, 73, 78, 80, 85, 84]⟩)), (4, 1, (Value.string ⟨#[86, 65, 82, 95, 79, 85, 84, 80, 85, 84]⟩)), (5, 1, (Value.string ⟨#[69, 78, 68, 95, 86, 65, 82]⟩)), (6, 1, (Value.string ⟨#[65, 82, 82, 65, 89]⟩)), (7, 1, (Value.string ⟨#[79, 70]⟩)), (8, 1, (Value.string ⟨#[66, 79, 79, 76]⟩)), (9, 1, (Value.string ⟨#[73, 78, 84]⟩)), (10, 1, (Value.string ⟨#[68, 73, 78, 84]⟩)), (11, 1, (Value.string ⟨#[84, 73, 77, 69]⟩)), (12, 1, (Value.string ⟨#[84, 79, 78]⟩)), (13, 1, (Value.string ⟨#[84, 79, 70]⟩)), (14, 1, (Value.string ⟨#[84, 80]⟩)), (15, 1, (Value.string ⟨#[67, 84, 85]⟩)), (16, 1, (Value.string ⟨#[67, 84, 68]⟩)), (17, 1, (Value.string ⟨#[82, 95, 84, 82, 73, 71]⟩)), (18, 1, (Value.string ⟨#[70, 95, 84, 82, 73, 71]⟩)), (19, 1, (Value.string ⟨#[83, 82]⟩)), (20, 1, (Value.string ⟨#[82, 83]⟩)), (21, 1, (Value.string ⟨#[81, 85, 65, 68]⟩)), (22, 1, (Value.string ⟨#[73, 70]⟩)), (23, 1, (Value.string ⟨#[84, 72, 69, 78]⟩)), (24, 1, (Value.string ⟨#[69, 76, 83, 73, 70]⟩)), (25, 1, (Value.string ⟨#[69, 76, 83, 69]⟩)), (26, 1, (Value.string ⟨#[69, 78, 68, 95, 73, 70]⟩)), (27, 1, (Value.string ⟨#[67, 65, 83, 69]⟩)), (28, 1, (Value.string ⟨#[69, 78, 68, 95, 67, 65, 83, 69]⟩)), (29, 1, (Value.string ⟨#[87, 72, 73, 76, 69]⟩)), (30, 1, (Value.string ⟨#[68, 79]⟩)), (31, 1, (Value.string ⟨#[69, 78, 68, 95, 87, 72, 73, 76, 69]⟩)), (32, 1, (Value.string ⟨#[70, 79, 82]⟩)), (33, 1, (Value.string ⟨#[84, 79]⟩)), (34, 1, (Value.string ⟨#[66, 89]⟩)), (35, 1, (Value.string ⟨#[69, 78, 68, 95, 70, 79, 82]⟩)), (36, 1, (Value.string ⟨#[82, 69, 80, 69, 65, 84]⟩)), (37, 1, (Value.string ⟨#[85, 78, 84, 73, 76]⟩)), (38, 1, (Value.string ⟨#[69, 78, 68, 95, 82, 69, 80, 69, 65, 84]⟩)), (39, 1, (Value.string ⟨#[69, 88, 73, 84]⟩)), (40, 1, (Value.string ⟨#[82, 69, 84, 85, 82, 78]⟩)), (41, 1, (Value.string ⟨#[65, 78, 68]⟩)), (42, 1, (Value.string ⟨#[79, 82]⟩)), (43, 1, (Value.string ⟨#[88, 79, 82]⟩)), (44, 1, (Value.string ⟨#[78, 79, 84]⟩)), (45, 1, (Value.string ⟨#[77, 79, 68]⟩)), (46, 1, (Value.string ⟨#[84, 82, 85, 69]⟩)), (47, 1, (Value.string ⟨#[70, 65, 76, 83, 69]⟩)), (48, 1, (Value.string ⟨#[84, 79, 95, 73, 78, 84]⟩)), (49, 1, (Value.string ⟨#[84, 79, 95, 68, 73, 78, 84]⟩)), (50, 1, (Value.string ⟨#[84, 79, 95, 84, 73, 77, 69]⟩))]) fun x1 =>
 ret (.ret [x1])
 ) fun o => zbn o fun vs => ret (zbe [(zc vs 0)])
def zxs : Hint := (.seq [] .leaf (.seq [] .leaf .leaf))
def zjk (l : List V) : M V := match l with | [] => zq5  | _ => fail
theorem z89 : zbr Tryz.prog (ovr [] noC) zoe zxs [] = zq5  := by kernel_rfl
theorem z9a : zk Tryz.prog zoe (zjk) := zh (σ := ovr [] noC) (hint := zxs) (by kernel_rfl) zf fun l H r H' h => by
 unfold zjk at h; split at h
 · rw [z89]; exact h
 · exact (ze h).elim
def zwr (vs_4 : List V) : M Out :=
 zb (za (zj .add (zc vs_4 1) (Value.int .i64 1))) fun x27 =>
 ret (.nxt [(zc vs_4 0), x27])
def zws (vs_3 : List V) : M Out :=
 zb (
 zb (
 zb (za (zh9 (zc vs_3 0) (zc vs_3 1))) fun x30 =>
 zb (za (zj .geq x30 (Value.int .u8 65))) fun x32 =>
 zb (gd x32 true (za (some x30))) fun x34 =>
 zb (gd x32 true (za (zj .leq x34 (Value.int .u8 90)))) fun x35 =>
 zb (za (zm x32 x35 (Value.bool false))) fun x36 =>
 zb (gd x36 false (za (some x30))) fun x38 =>
 zb (gd x36 false (za (zj .geq x38 (Value.int .u8 48)))) fun x39 =>
 zb (gd x36 false (za (some x39))) fun x40 =>
 zb (gd x40 true (za (some x30))) fun x41 =>
 zb (gd x40 true (za (zj .leq x41 (Value.int .u8 57)))) fun x42 =>
 zb (gd x36 false (za (zm x40 x42 (Value.bool false)))) fun x43 =>
 zb (za (zm x36 (Value.bool true) x43)) fun x44 =>
 zb (gd x44 false (za (some x30))) fun x46 =>
 zb (gd x44 false (za (zj .eql x46 (Value.int .u8 95)))) fun x47 =>
 zb (za (zm x44 (Value.bool true) x47)) fun x48 =>
 zb (za (un .not x48)) fun x49 =>
 zi x49 (
 ret (.ret [(Value.bool false)])
 ) (
 ret (.nxt [(zc vs_3 0), (zc vs_3 1)])
 )
 ) fun o => ret (zp 1 o)
 ) fun o => nx o zwr
def znt (vs_2 : List V) : M Out :=
 zb (
 zb (za (zde (zc vs_2 0))) fun x24 =>
 zb (za (zj .lss (zc vs_2 1) x24)) fun x25 =>
 zi x25 (
 ret (.nxt [(zc vs_2 0), (zc vs_2 1)])
 ) (
 ret (.brk 0 [])
 )
 ) fun o => nx o zws
def zwt (vs_5 : List V) : M Out :=
 ret (.ret [(Value.bool true)])
def zwu (vs : List V) : M Out :=
 zb (
 zb (
 zcg zcb znt [(zc vs 0), (Value.int .i64 0)]
 ) fun o => ret (zp 0 o)
 ) fun o => nx o zwt
def zty (x0 : V) : M V :=
 zb (
 zb (
 zb (za (zj .eql x0 (Value.string ⟨#[]⟩))) fun x6 =>
 zb (gd x6 false (za (some x0))) fun x8 =>
 zb (gd x6 false (za (zde x8))) fun x9 =>
 zb (gd x6 false (za (zj .gtr x9 (Value.int .i64 24)))) fun x10 =>
 zb (za (zm x6 (Value.bool true) x10)) fun x11 =>
 zb (gd x11 false (za (some x0))) fun x13 =>
 zb (gd x11 false (za (zh9 x13 (Value.int .i64 0)))) fun x14 =>
 zb (gd x11 false (za (zj .geq x14 (Value.int .u8 48)))) fun x15 =>
 zb (gd x11 false (za (some x15))) fun x16 =>
 zb (gd x16 true (za (some x0))) fun x17 =>
 zb (gd x16 true (za (zh9 x17 (Value.int .i64 0)))) fun x18 =>
 zb (gd x16 true (za (zj .leq x18 (Value.int .u8 57)))) fun x19 =>
 zb (gd x11 false (za (zm x16 x19 (Value.bool false)))) fun x20 =>
 zb (za (zm x11 (Value.bool true) x20)) fun x21 =>
 zi x21 (
 ret (.ret [(Value.bool false)])
 ) (
 ret (.nxt [x0])
 )
 ) fun o => nx o zwu
 ) fun o => zbn o fun vs => ret (zbe [(zc vs 0)])
def z7d : Hint := (.seq [] .leaf (.seq [0] (.seq [] .leaf (.cond (.seq [] .leaf .leaf) .leaf)) (.seq [] (.seq [] .leaf (.blk (.loop [0, 3] (.seq [0, 3] (.seq [] .leaf (.cond .leaf .leaf)) (.seq [0, 3] (.blk (.seq [] .leaf (.seq [] .leaf (.cond (.seq [] .leaf .leaf) .leaf)))) .leaf))))) (.seq [] .leaf .leaf))))
def zqb (l : List V) : M V := match l with | [x0] => zty x0 | _ => fail
theorem zbiz (x0 : V) : zbr Tryz.prog (ovr [] noC) zuj z7d [x0] = zty x0 := by kernel_rfl
theorem zbi0 : zk Tryz.prog zuj (zqb) := zh (σ := ovr [] noC) (hint := z7d) (by kernel_rfl) zf fun l H r H' h => by
 unfold zqb at h; split at h
 · rw [zbiz]; exact h
 · exact (ze h).elim
def z4n (vs_3 : List V) : M Out :=
 zb (za (zj .add (zc vs_3 2) (Value.int .i64 1))) fun x11 =>
 ret (.nxt [(zc vs_3 0), (zc vs_3 1), x11])
def zwv (vs_2 : List V) : M Out :=
 zb (
 zb (
 zb (za (zbo 1 (zc vs_2 1) (zc vs_2 2))) fun x14 =>
 zb (z8 x14) fun x15 =>
 zb (za (zj .eql x15 (zc vs_2 0))) fun x17 =>
 zi x17 (
 ret (.ret [(Value.bool false)])
 ) (
 ret (.nxt [(zc vs_2 0), (zc vs_2 1), (zc vs_2 2)])
 )
 ) fun o => ret (zp 1 o)
 ) fun o => nx o z4n
def zrv (vs : List V) : M Out :=
 zb (
 zb (za (zo (zc vs 1))) fun x8 =>
 zb (za (zj .lss (zc vs 2) x8)) fun x9 =>
 zi x9 (
 ret (.nxt [(zc vs 0), (zc vs 1), (zc vs 2)])
 ) (
 ret (.brk 0 [(zc vs 0)])
 )
 ) fun o => nx o zwv
def z4o (vs_4 : List V) : M Out :=
 zb (zqb [(zc vs_4 0)]) fun x19 =>
 ret (.ret [x19])
def ztz (x0 : V) : M V :=
 zb (
 zb (zjk []) fun x5 =>
 zb (
 zb (
 zcg zcb zrv [x0, x5, (Value.int .i64 0)]
 ) fun o => ret (zp 0 o)
 ) fun o => nx o z4o
 ) fun o => zbn o fun vs => ret (zbe [(zc vs 0)])
def z7e : Hint := (.seq [] .leaf (.seq [] .leaf (.seq [0] (.seq [] .leaf (.blk (.loop [0, 3, 4] (.seq [0, 3, 4] (.seq [] .leaf (.cond .leaf .leaf)) (.seq [0, 3, 4] (.blk (.seq [] .leaf (.cond (.seq [] .leaf .leaf) .leaf))) .leaf))))) (.seq [] .leaf .leaf))))
def zqc (l : List V) : M V := match l with | [x0] => ztz x0 | _ => fail
def z7f : zl := ovr [(zoe, zjk), (zuj, zqb)] noC
theorem zbi1 (x0 : V) : zbr Tryz.prog (z7f) zui z7e [x0] = ztz x0 := by kernel_rfl
theorem zbi2 : zk Tryz.prog zui (zqc) := zh (σ := z7f) (hint := z7e) (by kernel_rfl) (zd z9a (zd zbi0 zf)) fun l H r H' h => by
 unfold zqc at h; split at h
 · rw [zbi1]; exact h
 · exact (ze h).elim
def z15 (vs_7 : List V) : M Out :=
 zb (za (zj .add (zc vs_7 3) (Value.int .i64 1))) fun x44 =>
 ret (.nxt [(zc vs_7 0), (zc vs_7 1), (zc vs_7 2), x44])
def zu6 (vs_6 : List V) : M Out :=
 zb (
 zb (
 zb (za (zbo 1 (zc vs_6 1) (zc vs_6 3))) fun x47 =>
 zb (za (zbo 1 (zc vs_6 1) (zc vs_6 2))) fun x51 =>
 zb (z8 x47) fun x48 =>
 zb (z8 x51) fun x52 =>
 zb (za (zj .eql x48 x52)) fun x53 =>
 zi x53 (
 ret (.ret [(Value.bool false)])
 ) (
 ret (.nxt [(zc vs_6 0), (zc vs_6 1), (zc vs_6 2), (zc vs_6 3)])
 )
 ) fun o => ret (zp 3 o)
 ) fun o => nx o z15
def zqd (vs_5 : List V) : M Out :=
 zb (
 zb (za (zj .lss (zc vs_5 3) (zc vs_5 2))) fun x42 =>
 zi x42 (
 ret (.nxt [(zc vs_5 0), (zc vs_5 1), (zc vs_5 2), (zc vs_5 3)])
 ) (
 ret (.brk 2 [(zc vs_5 0), (zc vs_5 1), (zc vs_5 2)])
 )
 ) fun o => nx o zu6
def z16 (vs_4 : List V) : M Out :=
 zb (
 zcg zcb zqd [(zc vs_4 0), (zc vs_4 1), (zc vs_4 2), (Value.int .i64 0)]
 ) fun o => ret (zp 2 o)
def z17 (vs_8 : List V) : M Out :=
 zb (za (zj .add (zc vs_8 2) (Value.int .i64 1))) fun x24 =>
 ret (.nxt [(zc vs_8 0), (zc vs_8 1), x24])
def zqe (vs_3 : List V) : M Out :=
 zb (
 zb (
 zb (
 zb (za (zbo 1 (zc vs_3 1) (zc vs_3 2))) fun x27 =>
 zb (z8 x27) fun x28 =>
 zb (za (zj .lss x28 (Value.int .i64 0))) fun x29 =>
 zb (gd x29 false (za (some (zc vs_3 1)))) fun x31 =>
 zb (gd x29 false (za (some (zc vs_3 2)))) fun x32 =>
 zb (gd x29 false (za (zbo 1 x31 x32))) fun x33 =>
 zb (gd x29 false (za (zg 1 (zc vs_3 0)))) fun x35 =>
 zb (gd x29 false (z8 x33)) fun x34 =>
 zb (gd x29 false (z8 x35)) fun x36 =>
 zb (gd x29 false (za (zo x36))) fun x37 =>
 zb (gd x29 false (za (zj .geq x34 x37))) fun x38 =>
 zb (za (zm x29 (Value.bool true) x38)) fun x39 =>
 zi x39 (
 ret (.ret [(Value.bool false)])
 ) (
 ret (.nxt [(zc vs_3 0), (zc vs_3 1), (zc vs_3 2)])
 )
 ) fun o => nx o z16
 ) fun o => ret (zp 1 o)
 ) fun o => nx o z17
def zl7 (vs_2 : List V) : M Out :=
 zb (
 zb (za (zo (zc vs_2 1))) fun x21 =>
 zb (za (zj .lss (zc vs_2 2) x21)) fun x22 =>
 zi x22 (
 ret (.nxt [(zc vs_2 0), (zc vs_2 1), (zc vs_2 2)])
 ) (
 ret (.brk 0 [])
 )
 ) fun o => nx o zqe
def z18 (vs_9 : List V) : M Out :=
 ret (.ret [(Value.bool true)])
def z19 (vs : List V) : M Out :=
 zb (
 zb (
 zcg zcb zl7 [(zc vs 0), (zc vs 1), (Value.int .i64 0)]
 ) fun o => ret (zp 0 o)
 ) fun o => nx o z18
def zrw (x0 : V) : M V :=
 zb (
 zb (zhp x0) fun x1 =>
 zvo fun h0 =>
 zb (za (zg 3 x1)) fun x7 =>
 zb (za (zg 4 x1)) fun x10 =>
 zb (z8 x7) fun x8 =>
 zb (z8 x10) fun x11 =>
 zhr (zfb 1 0 (rep 0 [Value.int .i64 0]) []) fun ha x6 h1 =>
 zhr (zk7 1 8 x6 x8) fun ha_2 x9 h2 =>
 zhr (zk7 1 8 x9 x11) fun ha_3 x12 h3 =>
 zmd (chk (z8 x7) h1 x8) <|
 zmd (chk (z8 x10) h1 x11) <|
 zmd (chk (z8 x10) h2 x11) <|
 zb (
 zb (za (zo x12)) fun x14 =>
 zb (za (zg 1 x1)) fun x15 =>
 zb (z8 x15) fun x16 =>
 zb (za (zo x16)) fun x17 =>
 zb (za (zj .gtr x14 x17)) fun x18 =>
 zi x18 (
 ret (.ret [(Value.bool false)])
 ) (
 ret (.nxt [x1, x12])
 )
 ) fun o => nx o z19
 ) fun o => zbn o fun vs => ret (zbe [(zc vs 0)])
def z4p : Hint := (.seq [] .leaf (.seq [] (.reg [1, 4, 2, 5, 0, 3, 6, 7] []) (.seq [1, 3] (.seq [] .leaf (.cond (.seq [] .leaf .leaf) .leaf)) (.seq [] (.seq [] .leaf (.blk (.loop [1, 3, 4] (.seq [1, 3, 4] (.seq [] .leaf (.cond .leaf .leaf)) (.seq [1, 3, 4] (.blk (.seq [1, 3, 4] (.seq [] (.reg [0, 1, 2, 3, 4, 5, 6, 7, 8, 10, 9, 11, 12, 13, 14] []) (.cond (.seq [] .leaf .leaf) .leaf)) (.seq [] .leaf (.blk (.loop [1, 3, 4, 5] (.seq [1, 3, 4, 5] (.seq [] .leaf (.cond .leaf .leaf)) (.seq [1, 3, 4, 5] (.blk (.seq [] (.reg [0, 1, 2, 4, 5, 6, 3, 7, 8] []) (.cond (.seq [] .leaf .leaf) .leaf))) .leaf))))))) .leaf))))) (.seq [] .leaf .leaf)))))
def znu (l : List V) : M V := match l with | [x0] => zrw x0 | _ => fail
theorem zbfn (x0 : V) : zbr Tryz.prog (ovr [] noC) zsg z4p [x0] = zrw x0 := by kernel_rfl
theorem zbfo : zk Tryz.prog zsg (znu) := zh (σ := ovr [] noC) (hint := z4p) (by kernel_rfl) zf fun l H r H' h => by
 unfold znu at h; split at h
 · rw [zbfn]; exact h
 · exact (ze h).elim
def zt0 (x0 : V) : M V :=
 zb (
 zb (za (zj .geq x0 (Value.int .i64 1))) fun x4 =>
 zb (gd x4 true (za (some x0))) fun x6 =>
 zb (gd x4 true (za (zj .leq x6 (Value.int .i64 4)))) fun x7 =>
 zb (za (zm x4 x7 (Value.bool false))) fun x8 =>
 ret (.ret [x8])
 ) fun o => zbn o fun vs => ret (zbe [(zc vs 0)])
def z7g : Hint := (.seq [] .leaf (.seq [] .leaf .leaf))
def zgr (l : List V) : M V := match l with | [x0] => zt0 x0 | _ => fail
theorem zbi3 (x0 : V) : zbr Tryz.prog (ovr [] noC) zlb z7g [x0] = zt0 x0 := by kernel_rfl
theorem zy5 : zk Tryz.prog zlb (zgr) := zh (σ := ovr [] noC) (hint := z7g) (by kernel_rfl) zf fun l H r H' h => by
 unfold zgr at h; split at h
 · rw [zbi3]; exact h
 · exact (ze h).elim
def z4q (vs : List V) : M Out :=
 ret (.ret [(Value.int .i64 4294967296)])
def zt1 (x0 : V) : M V :=
 zb (
 zb (
 zb (za (zj .eql x0 (Value.int .i64 2))) fun x4 =>
 zi x4 (
 ret (.ret [(Value.int .i64 65536)])
 ) (
 ret (.nxt [])
 )
 ) fun o => nx o z4q
 ) fun o => zbn o fun vs => ret (zbe [(zc vs 0)])
def z7h : Hint := (.seq [] .leaf (.seq [] (.seq [] .leaf (.cond (.seq [] .leaf .leaf) .leaf)) (.seq [] .leaf .leaf)))
def zm2 (l : List V) : M V := match l with | [x0] => zt1 x0 | _ => fail
theorem zbi4 (x0 : V) : zbr Tryz.prog (ovr [] noC) zuk z7h [x0] = zt1 x0 := by kernel_rfl
theorem zbi5 : zk Tryz.prog zuk (zm2) := zh (σ := ovr [] noC) (hint := z7h) (by kernel_rfl) zf fun l H r H' h => by
 unfold zm2 at h; split at h
 · rw [zbi4]; exact h
 · exact (ze h).elim
def zww (vs : List V) : M Out :=
 zb (zgr [(zc vs 0)]) fun x14 =>
 zb (gd x14 true (za (some (zc vs 1)))) fun x16 =>
 zb (gd x14 true (za (some (zc vs 0)))) fun x17 =>
 zb (gd x14 true (zm2 [x17])) fun x18 =>
 zb (gd x14 true (za (un .neg x18))) fun x19 =>
 zb (gd x14 true (za (zj .quo x19 (Value.int .i64 2)))) fun x20 =>
 zb (gd x14 true (za (zj .geq x16 x20))) fun x21 =>
 zb (za (zm x14 x21 (Value.bool false))) fun x22 =>
 zb (gd x22 true (za (some (zc vs 1)))) fun x24 =>
 zb (gd x22 true (za (some (zc vs 0)))) fun x25 =>
 zb (gd x22 true (zm2 [x25])) fun x26 =>
 zb (gd x22 true (za (zj .quo x26 (Value.int .i64 2)))) fun x27 =>
 zb (gd x22 true (za (zj .lss x24 x27))) fun x28 =>
 zb (za (zm x22 x28 (Value.bool false))) fun x29 =>
 ret (.ret [x29])
def zqf (x0 x1 : V) : M V :=
 zb (
 zb (
 zb (za (zj .eql x0 (Value.int .i64 1))) fun x6 =>
 zi x6 (
 zb (za (zj .eql x1 (Value.int .i64 0))) fun x8 =>
 zb (gd x8 false (za (some x1))) fun x10 =>
 zb (gd x8 false (za (zj .eql x10 (Value.int .i64 1)))) fun x11 =>
 zb (za (zm x8 (Value.bool true) x11)) fun x12 =>
 ret (.ret [x12])
 ) (
 ret (.nxt [x0, x1])
 )
 ) fun o => nx o zww
 ) fun o => zbn o fun vs => ret (zbe [(zc vs 0)])
def z7i : Hint := (.seq [] .leaf (.seq [0, 1] (.seq [] .leaf (.cond (.seq [] .leaf .leaf) .leaf)) (.seq [] .leaf .leaf)))
def zj3 (l : List V) : M V := match l with | [x0, x1] => zqf x0 x1 | _ => fail
def z7j : zl := ovr [(zlb, zgr), (zuk, zm2)] noC
theorem zbi6 (x0 x1 : V) : zbr Tryz.prog (z7j) zpf z7i [x0, x1] = zqf x0 x1 := by kernel_rfl
theorem z7k : zk Tryz.prog zpf (zj3) := zh (σ := z7j) (hint := z7i) (by kernel_rfl) (zd zy5 (zd zbi5 zf)) fun l H r H' h => by
 unfold zj3 at h; split at h
 · rw [zbi6]; exact h
 · exact (ze h).elim
def z4r (vs_4 : List V) : M Out :=
 zb (za (zj .add (zc vs_4 3) (Value.int .i64 1))) fun x33 =>
 ret (.nxt [(zc vs_4 0), (zc vs_4 1), (zc vs_4 2), x33])
def zwx (vs_3 : List V) : M Out :=
 zb (
 zb (
 zb (za (zg 1 (zc vs_3 2))) fun x34 =>
 zb (za (zg 1 (zc vs_3 2))) fun x39 =>
 zb (z8 x34) fun x35 =>
 zb (za (zbo 1 x35 (zc vs_3 3))) fun x37 =>
 zb (z8 x37) fun x38 =>
 zb (z8 x39) fun x40 =>
 zb (za (zbo 1 x40 (zc vs_3 0))) fun x42 =>
 zb (z8 x42) fun x43 =>
 zb (za (zj .neq x38 x43)) fun x44 =>
 zi x44 (
 ret (.ret [(Value.bool false)])
 ) (
 ret (.nxt [(zc vs_3 0), (zc vs_3 1), (zc vs_3 2), (zc vs_3 3)])
 )
 ) fun o => ret (zp 1 o)
 ) fun o => nx o z4r
def zrx (vs_2 : List V) : M Out :=
 zb (
 zb (za (zj .add (zc vs_2 0) (zc vs_2 1))) fun x30 =>
 zb (za (zj .lss (zc vs_2 3) x30)) fun x31 =>
 zi x31 (
 ret (.nxt [(zc vs_2 0), (zc vs_2 1), (zc vs_2 2), (zc vs_2 3)])
 ) (
 ret (.brk 0 [])
 )
 ) fun o => nx o zwx
def z4s (vs_5 : List V) : M Out :=
 ret (.ret [(Value.bool true)])
def z4t (vs : List V) : M Out :=
 zb (
 zb (
 zcg zcb zrx [(zc vs 0), (zc vs 1), (zc vs 2), (zc vs 0)]
 ) fun o => ret (zp 0 o)
 ) fun o => nx o z4s
def zt2 (x0 x1 x2 : V) : M V :=
 zb (
 zb (zhp x0) fun x3 =>
 zb (
 zb (za (zj .lss x1 (Value.int .i64 0))) fun x9 =>
 zb (gd x9 false (za (some x1))) fun x11 =>
 zb (gd x9 false (za (zg 1 x3))) fun x12 =>
 zb (gd x9 false (z8 x12)) fun x13 =>
 zb (gd x9 false (za (zo x13))) fun x14 =>
 zb (gd x9 false (za (zj .geq x11 x14))) fun x15 =>
 zb (za (zm x9 (Value.bool true) x15)) fun x16 =>
 zb (gd x16 false (za (some x2))) fun x18 =>
 zb (gd x16 false (za (zg 1 x3))) fun x19 =>
 zb (gd x16 false (z8 x19)) fun x20 =>
 zb (gd x16 false (za (zo x20))) fun x21 =>
 zb (gd x16 false (za (some x1))) fun x22 =>
 zb (gd x16 false (za (zj .sub x21 x22))) fun x23 =>
 zb (gd x16 false (za (zj .gtr x18 x23))) fun x24 =>
 zb (za (zm x16 (Value.bool true) x24)) fun x25 =>
 zi x25 (
 ret (.ret [(Value.bool false)])
 ) (
 ret (.nxt [x1, x2, x3])
 )
 ) fun o => nx o z4t
 ) fun o => zbn o fun vs => ret (zbe [(zc vs 0)])
def z7l : Hint := (.seq [] .leaf (.seq [1, 2, 3] (.seq [] .leaf (.cond (.seq [] .leaf .leaf) .leaf)) (.seq [] (.seq [] .leaf (.blk (.loop [1, 2, 3, 7] (.seq [1, 2, 3, 7] (.seq [] .leaf (.cond .leaf .leaf)) (.seq [1, 2, 3, 7] (.blk (.seq [] (.reg [0, 2, 5, 7, 1, 3, 4, 6, 8, 9, 10] []) (.cond (.seq [] .leaf .leaf) .leaf))) .leaf))))) (.seq [] .leaf .leaf))))
def zm3 (l : List V) : M V := match l with | [x0, x1, x2] => zt2 x0 x1 x2 | _ => fail
theorem zbi7 (x0 x1 x2 : V) : zbr Tryz.prog (ovr [] noC) zul z7l [x0, x1, x2] = zt2 x0 x1 x2 := by kernel_rfl
theorem zbi8 : zk Tryz.prog zul (zm3) := zh (σ := ovr [] noC) (hint := z7l) (by kernel_rfl) zf fun l H r H' h => by
 unfold zm3 at h; split at h
 · rw [zbi7]; exact h
 · exact (ze h).elim
def z7m (vs_5 : List V) : M Out :=
 zi (zc vs_5 2) (
 zb (za (zj .neq (zc vs_5 1) (Value.int .i64 4))) fun x53 =>
 ret (.ret [x53])
 ) (
 ret (.nxt [(zc vs_5 0)])
 )
def z7n (vs_4 : List V) : M Out :=
 zi (zc vs_4 4) (
 ret (.ret [(zc vs_4 2)])
 ) (
 zb (
 zb (za (zj .eql (zc vs_4 3) (Value.int .i64 6))) fun x49 =>
 zi x49 (
 ret (.nxt [(zc vs_4 0), (zc vs_4 1), x49])
 ) (
 zb (za (zj .eql (zc vs_4 3) (Value.int .i64 7))) fun x50 =>
 zi x50 (
 ret (.nxt [(zc vs_4 0), (zc vs_4 1), x50])
 ) (
 zb (za (zj .eql (zc vs_4 3) (Value.int .i64 8))) fun x51 =>
 ret (.nxt [(zc vs_4 0), (zc vs_4 1), x51])
 )
 )
 ) fun o => nx o z7m
 )
def z7o (vs_3 : List V) : M Out :=
 zi (zc vs_3 4) (
 zb (za (zj .neq (zc vs_3 1) (Value.int .i64 1))) fun x42 =>
 ret (.ret [x42])
 ) (
 zb (
 zb (za (zj .eql (zc vs_3 3) (Value.int .i64 3))) fun x44 =>
 zi x44 (
 ret (.nxt [(zc vs_3 0), (zc vs_3 1), (zc vs_3 2), (zc vs_3 3), x44])
 ) (
 zb (za (zj .eql (zc vs_3 3) (Value.int .i64 4))) fun x45 =>
 zi x45 (
 ret (.nxt [(zc vs_3 0), (zc vs_3 1), (zc vs_3 2), (zc vs_3 3), x45])
 ) (
 zb (za (zj .eql (zc vs_3 3) (Value.int .i64 5))) fun x46 =>
 ret (.nxt [(zc vs_3 0), (zc vs_3 1), (zc vs_3 2), (zc vs_3 3), x46])
 )
 )
 ) fun o => nx o z7n
 )
def z7p (vs_6 : List V) : M Out :=
 zb (za (zj .eql (zc vs_6 0) (Value.int .i64 9))) fun x55 =>
 zb (gd x55 false (za (some (zc vs_6 0)))) fun x57 =>
 zb (gd x55 false (za (zj .eql x57 (Value.int .i64 10)))) fun x58 =>
 zb (za (zm x55 (Value.bool true) x58)) fun x59 =>
 ret (.ret [x59])
def z7q (vs_2 : List V) : M Out :=
 zb (
 zb (
 zb (
 zb (za (zj .eql (zc vs_2 0) (Value.int .i64 1))) fun x35 =>
 zi x35 (
 ret (.nxt [(zc vs_2 0), (zc vs_2 1), (zc vs_2 2), (zc vs_2 0), x35])
 ) (
 zb (za (zj .eql (zc vs_2 0) (Value.int .i64 2))) fun x36 =>
 zi x36 (
 ret (.nxt [(zc vs_2 0), (zc vs_2 1), (zc vs_2 2), (zc vs_2 0), x36])
 ) (
 zb (za (zj .eql (zc vs_2 0) (Value.int .i64 11))) fun x37 =>
 zi x37 (
 ret (.nxt [(zc vs_2 0), (zc vs_2 1), (zc vs_2 2), (zc vs_2 0), x37])
 ) (
 zb (za (zj .eql (zc vs_2 0) (Value.int .i64 12))) fun x38 =>
 zi x38 (
 ret (.nxt [(zc vs_2 0), (zc vs_2 1), (zc vs_2 2), (zc vs_2 0), x38])
 ) (
 zb (za (zj .eql (zc vs_2 0) (Value.int .i64 13))) fun x39 =>
 zi x39 (
 ret (.nxt [(zc vs_2 0), (zc vs_2 1), (zc vs_2 2), (zc vs_2 0), x39])
 ) (
 zb (za (zj .eql (zc vs_2 0) (Value.int .i64 14))) fun x40 =>
 ret (.nxt [(zc vs_2 0), (zc vs_2 1), (zc vs_2 2), (zc vs_2 0), x40])
 )
 )
 )
 )
 )
 ) fun o => nx o z7o
 ) fun o => ret (zp 0 o)
 ) fun o => nx o z7p
def z7r (vs : List V) : M Out :=
 zb (za (zj .eql (zc vs 1) (Value.int .i64 2))) fun x12 =>
 zb (gd x12 false (za (some (zc vs 1)))) fun x14 =>
 zb (gd x12 false (za (zj .eql x14 (Value.int .i64 3)))) fun x15 =>
 zb (za (zm x12 (Value.bool true) x15)) fun x16 =>
 zb (
 zb (za (zj .eql (zc vs 2) (Value.int .i64 1))) fun x18 =>
 zi x18 (
 zb (za (zj .eql (zc vs 0) (Value.int .i64 15))) fun x20 =>
 zb (gd x20 true (za (some (zc vs 1)))) fun x22 =>
 zb (gd x20 true (za (zj .neq x22 (Value.int .i64 1)))) fun x23 =>
 zb (za (zm x20 x23 (Value.bool false))) fun x24 =>
 zb (gd x24 false (za (some (zc vs 0)))) fun x26 =>
 zb (gd x24 false (za (zj .eql x26 (Value.int .i64 16)))) fun x27 =>
 zb (gd x24 false (za (some x27))) fun x28 =>
 zb (gd x28 true (za (some (zc vs 1)))) fun x29 =>
 zb (gd x28 true (za (zj .neq x29 (Value.int .i64 4)))) fun x30 =>
 zb (gd x24 false (za (zm x28 x30 (Value.bool false)))) fun x31 =>
 zb (za (zm x24 (Value.bool true) x31)) fun x32 =>
 ret (.ret [x32])
 ) (
 ret (.nxt [(zc vs 0), (zc vs 1), x16])
 )
 ) fun o => nx o z7q
def zr8 (x0 x1 x2 : V) : M V :=
 zb (
 zb (
 zb (zgr [x1]) fun x9 =>
 zb (za (un .not x9)) fun x10 =>
 zi x10 (
 ret (.ret [(Value.bool false)])
 ) (
 ret (.nxt [x0, x1, x2])
 )
 ) fun o => nx o z7r
 ) fun o => zbn o fun vs => ret (zbe [(zc vs 0)])
def zbag : Hint := (.seq [] .leaf (.seq [0, 1, 2] (.seq [] .leaf (.cond (.seq [] .leaf .leaf) .leaf)) (.seq [] .leaf (.seq [0, 1, 7] (.seq [] .leaf (.cond (.seq [] .leaf .leaf) .leaf)) (.seq [0] (.seq [] .leaf (.blk (.seq [0, 1, 7, 33, 34] (.seq [] .leaf (.cond .leaf (.seq [] .leaf (.cond .leaf (.seq [] .leaf (.cond .leaf (.seq [] .leaf (.cond .leaf (.seq [] .leaf (.cond .leaf .leaf)))))))))) (.cond (.seq [] .leaf .leaf) (.seq [0, 1, 7, 33, 43] (.seq [] .leaf (.cond .leaf (.seq [] .leaf (.cond .leaf .leaf)))) (.cond (.seq [] .leaf .leaf) (.seq [0, 1, 48] (.seq [] .leaf (.cond .leaf (.seq [] .leaf (.cond .leaf .leaf)))) (.cond (.seq [] .leaf .leaf) .leaf)))))))) (.seq [] .leaf .leaf))))))
def zoy (l : List V) : M V := match l with | [x0, x1, x2] => zr8 x0 x1 x2 | _ => fail
def zbah : zl := ovr [(zlb, zgr)] noC
theorem zbk6 (x0 x1 x2 : V) : zbr Tryz.prog (zbah) zwe zbag [x0, x1, x2] = zr8 x0 x1 x2 := by kernel_rfl
theorem zbk7 : zk Tryz.prog zwe (zoy) := zh (σ := zbah) (hint := zbag) (by kernel_rfl) (zd zy5 zf) fun l H r H' h => by
 unfold zoy at h; split at h
 · rw [zbk6]; exact h
 · exact (ze h).elim
def zdb (vs_2 : List V) : M Out :=
 zi (zc vs_2 4) (
 zb (za (build [Value.string ⟨#[]⟩, Value.int .i64 0, Value.bool false] [(0, 1, (Value.string ⟨#[67, 76, 75]⟩)), (1, 1, (zc vs_2 0)), (2, 1, (Value.bool true))])) fun x60 =>
 zb (za (build [Value.string ⟨#[]⟩, Value.int .i64 0, Value.bool false] [(0, 1, (Value.string ⟨#[81]⟩)), (1, 1, (zc vs_2 0)), (2, 1, (Value.bool false))])) fun x62 =>
 zb (za (build [Value.string ⟨#[]⟩, Value.int .i64 0, Value.bool false] [(0, 1, (Value.string ⟨#[77]⟩)), (1, 1, (zc vs_2 0)), (2, 1, (Value.bool false))])) fun x64 =>
 zb (zfb 3 3 (rep 3 [Value.string ⟨#[]⟩, Value.int .i64 0, Value.bool false]) [(0, 3, x60), (3, 3, x62), (6, 3, x64)]) fun x65 =>
 ret (.ret [x65, (Value.int .i64 0)])
 ) (
 zb (za (zj .eql (zc vs_2 3) (Value.int .i64 8))) fun x67 =>
 zi x67 (
 zb (za (build [Value.string ⟨#[]⟩, Value.int .i64 0, Value.bool false] [(0, 1, (Value.string ⟨#[83, 49]⟩)), (1, 1, (zc vs_2 0)), (2, 1, (Value.bool true))])) fun x69 =>
 zb (za (build [Value.string ⟨#[]⟩, Value.int .i64 0, Value.bool false] [(0, 1, (Value.string ⟨#[82]⟩)), (1, 1, (zc vs_2 0)), (2, 1, (Value.bool true))])) fun x71 =>
 zb (za (build [Value.string ⟨#[]⟩, Value.int .i64 0, Value.bool false] [(0, 1, (Value.string ⟨#[81, 49]⟩)), (1, 1, (zc vs_2 0)), (2, 1, (Value.bool false))])) fun x73 =>
 zb (zfb 3 3 (rep 3 [Value.string ⟨#[]⟩, Value.int .i64 0, Value.bool false]) [(0, 3, x69), (3, 3, x71), (6, 3, x73)]) fun x74 =>
 ret (.ret [x74, (Value.int .i64 0)])
 ) (
 zb (za (zj .eql (zc vs_2 3) (Value.int .i64 9))) fun x76 =>
 zi x76 (
 zb (za (build [Value.string ⟨#[]⟩, Value.int .i64 0, Value.bool false] [(0, 1, (Value.string ⟨#[83]⟩)), (1, 1, (zc vs_2 0)), (2, 1, (Value.bool true))])) fun x78 =>
 zb (za (build [Value.string ⟨#[]⟩, Value.int .i64 0, Value.bool false] [(0, 1, (Value.string ⟨#[82, 49]⟩)), (1, 1, (zc vs_2 0)), (2, 1, (Value.bool true))])) fun x80 =>
 zb (za (build [Value.string ⟨#[]⟩, Value.int .i64 0, Value.bool false] [(0, 1, (Value.string ⟨#[81, 49]⟩)), (1, 1, (zc vs_2 0)), (2, 1, (Value.bool false))])) fun x82 =>
 zb (zfb 3 3 (rep 3 [Value.string ⟨#[]⟩, Value.int .i64 0, Value.bool false]) [(0, 3, x78), (3, 3, x80), (6, 3, x82)]) fun x83 =>
 ret (.ret [x83, (Value.int .i64 0)])
 ) (
 zb (za (zj .eql (zc vs_2 3) (Value.int .i64 10))) fun x85 =>
 zi x85 (
 zb (za (build [Value.string ⟨#[]⟩, Value.int .i64 0, Value.bool false] [(0, 1, (Value.string ⟨#[65]⟩)), (1, 1, (zc vs_2 0)), (2, 1, (Value.bool true))])) fun x87 =>
 zb (za (build [Value.string ⟨#[]⟩, Value.int .i64 0, Value.bool false] [(0, 1, (Value.string ⟨#[66]⟩)), (1, 1, (zc vs_2 0)), (2, 1, (Value.bool true))])) fun x89 =>
 zb (za (build [Value.string ⟨#[]⟩, Value.int .i64 0, Value.bool false] [(0, 1, (Value.string ⟨#[82]⟩)), (1, 1, (zc vs_2 0)), (2, 1, (Value.bool true))])) fun x91 =>
 zb (za (build [Value.string ⟨#[]⟩, Value.int .i64 0, Value.bool false] [(0, 1, (Value.string ⟨#[67, 86]⟩)), (1, 1, (zc vs_2 2)), (2, 1, (Value.bool false))])) fun x93 =>
 zb (za (build [Value.string ⟨#[]⟩, Value.int .i64 0, Value.bool false] [(0, 1, (Value.string ⟨#[69, 82, 82]⟩)), (1, 1, (zc vs_2 0)), (2, 1, (Value.bool false))])) fun x95 =>
 zb (za (build [Value.string ⟨#[]⟩, Value.int .i64 0, Value.bool false] [(0, 1, (Value.string ⟨#[76, 65, 83, 84]⟩)), (1, 1, (zc vs_2 1)), (2, 1, (Value.bool false))])) fun x97 =>
 zb (zfb 3 6 (rep 6 [Value.string ⟨#[]⟩, Value.int .i64 0, Value.bool false]) [(0, 3, x87), (3, 3, x89), (6, 3, x91), (9, 3, x93), (12, 3, x95), (15, 3, x97)]) fun x98 =>
 ret (.ret [x98, (Value.int .i64 0)])
 ) (
 ret (.nxt [])
 )
 )
 )
 )
def zdc (vs : List V) : M Out :=
 zi (zc vs 5) (
 zb (za (build [Value.string ⟨#[]⟩, Value.int .i64 0, Value.bool false] [(0, 1, (Value.string ⟨#[73, 78]⟩)), (1, 1, (zc vs 0)), (2, 1, (Value.bool true))])) fun x14 =>
 zb (za (build [Value.string ⟨#[]⟩, Value.int .i64 0, Value.bool false] [(0, 1, (Value.string ⟨#[80, 84]⟩)), (1, 1, (zc vs 3)), (2, 1, (Value.bool true))])) fun x16 =>
 zb (za (build [Value.string ⟨#[]⟩, Value.int .i64 0, Value.bool false] [(0, 1, (Value.string ⟨#[81]⟩)), (1, 1, (zc vs 0)), (2, 1, (Value.bool false))])) fun x18 =>
 zb (za (build [Value.string ⟨#[]⟩, Value.int .i64 0, Value.bool false] [(0, 1, (Value.string ⟨#[69, 84]⟩)), (1, 1, (zc vs 3)), (2, 1, (Value.bool false))])) fun x20 =>
 zb (za (build [Value.string ⟨#[]⟩, Value.int .i64 0, Value.bool false] [(0, 1, (Value.string ⟨#[83, 84, 65, 82, 84]⟩)), (1, 1, (zc vs 3)), (2, 1, (Value.bool false))])) fun x22 =>
 zb (za (build [Value.string ⟨#[]⟩, Value.int .i64 0, Value.bool false] [(0, 1, (Value.string ⟨#[82, 85, 78]⟩)), (1, 1, (zc vs 0)), (2, 1, (Value.bool false))])) fun x24 =>
 zb (zfb 3 6 (rep 6 [Value.string ⟨#[]⟩, Value.int .i64 0, Value.bool false]) [(0, 3, x14), (3, 3, x16), (6, 3, x18), (9, 3, x20), (12, 3, x22), (15, 3, x24)]) fun x25 =>
 ret (.ret [x25, (Value.int .i64 0)])
 ) (
 zb (za (zj .eql (zc vs 4) (Value.int .i64 4))) fun x27 =>
 zi x27 (
 zb (za (build [Value.string ⟨#[]⟩, Value.int .i64 0, Value.bool false] [(0, 1, (Value.string ⟨#[67, 85]⟩)), (1, 1, (zc vs 0)), (2, 1, (Value.bool true))])) fun x29 =>
 zb (za (build [Value.string ⟨#[]⟩, Value.int .i64 0, Value.bool false] [(0, 1, (Value.string ⟨#[82]⟩)), (1, 1, (zc vs 0)), (2, 1, (Value.bool true))])) fun x31 =>
 zb (za (build [Value.string ⟨#[]⟩, Value.int .i64 0, Value.bool false] [(0, 1, (Value.string ⟨#[80, 86]⟩)), (1, 1, (zc vs 1)), (2, 1, (Value.bool true))])) fun x33 =>
 zb (za (build [Value.string ⟨#[]⟩, Value.int .i64 0, Value.bool false] [(0, 1, (Value.string ⟨#[81]⟩)), (1, 1, (zc vs 0)), (2, 1, (Value.bool false))])) fun x35 =>
 zb (za (build [Value.string ⟨#[]⟩, Value.int .i64 0, Value.bool false] [(0, 1, (Value.string ⟨#[67, 86]⟩)), (1, 1, (zc vs 1)), (2, 1, (Value.bool false))])) fun x37 =>
 zb (za (build [Value.string ⟨#[]⟩, Value.int .i64 0, Value.bool false] [(0, 1, (Value.string ⟨#[77]⟩)), (1, 1, (zc vs 0)), (2, 1, (Value.bool false))])) fun x39 =>
 zb (zfb 3 6 (rep 6 [Value.string ⟨#[]⟩, Value.int .i64 0, Value.bool false]) [(0, 3, x29), (3, 3, x31), (6, 3, x33), (9, 3, x35), (12, 3, x37), (15, 3, x39)]) fun x40 =>
 ret (.ret [x40, (Value.int .i64 0)])
 ) (
 zb (za (zj .eql (zc vs 4) (Value.int .i64 5))) fun x42 =>
 zi x42 (
 zb (za (build [Value.string ⟨#[]⟩, Value.int .i64 0, Value.bool false] [(0, 1, (Value.string ⟨#[67, 68]⟩)), (1, 1, (zc vs 0)), (2, 1, (Value.bool true))])) fun x44 =>
 zb (za (build [Value.string ⟨#[]⟩, Value.int .i64 0, Value.bool false] [(0, 1, (Value.string ⟨#[76, 68]⟩)), (1, 1, (zc vs 0)), (2, 1, (Value.bool true))])) fun x46 =>
 zb (za (build [Value.string ⟨#[]⟩, Value.int .i64 0, Value.bool false] [(0, 1, (Value.string ⟨#[80, 86]⟩)), (1, 1, (zc vs 1)), (2, 1, (Value.bool true))])) fun x48 =>
 zb (za (build [Value.string ⟨#[]⟩, Value.int .i64 0, Value.bool false] [(0, 1, (Value.string ⟨#[81]⟩)), (1, 1, (zc vs 0)), (2, 1, (Value.bool false))])) fun x50 =>
 zb (za (build [Value.string ⟨#[]⟩, Value.int .i64 0, Value.bool false] [(0, 1, (Value.string ⟨#[67, 86]⟩)), (1, 1, (zc vs 1)), (2, 1, (Value.bool false))])) fun x52 =>
 zb (za (build [Value.string ⟨#[]⟩, Value.int .i64 0, Value.bool false] [(0, 1, (Value.string ⟨#[77]⟩)), (1, 1, (zc vs 0)), (2, 1, (Value.bool false))])) fun x54 =>
 zb (zfb 3 6 (rep 6 [Value.string ⟨#[]⟩, Value.int .i64 0, Value.bool false]) [(0, 3, x44), (3, 3, x46), (6, 3, x48), (9, 3, x50), (12, 3, x52), (15, 3, x54)]) fun x55 =>
 ret (.ret [x55, (Value.int .i64 0)])
 ) (
 zb (
 zb (za (zj .eql (zc vs 4) (Value.int .i64 6))) fun x57 =>
 zi x57 (
 ret (.nxt [(zc vs 0), (zc vs 1), (zc vs 2), (zc vs 4), x57])
 ) (
 zb (za (zj .eql (zc vs 4) (Value.int .i64 7))) fun x58 =>
 ret (.nxt [(zc vs 0), (zc vs 1), (zc vs 2), (zc vs 4), x58])
 )
 ) fun o => nx o zdb
 )
 )
 )
def zdd (vs_3 : List V) : M Out :=
 ret (.ret [(Value.slice none 0 0), (Value.int .i64 92)])
def zqg (x0 : V) : M V :=
 zb (
 zb (
 zb (
 zb (
 zb (za (zj .eql x0 (Value.int .i64 1))) fun x10 =>
 zi x10 (
 ret (.nxt [(Value.int .i64 1), (Value.int .i64 2), (Value.int .i64 3), (Value.int .i64 4), x0, x10])
 ) (
 zb (za (zj .eql x0 (Value.int .i64 2))) fun x11 =>
 zi x11 (
 ret (.nxt [(Value.int .i64 1), (Value.int .i64 2), (Value.int .i64 3), (Value.int .i64 4), x0, x11])
 ) (
 zb (za (zj .eql x0 (Value.int .i64 3))) fun x12 =>
 ret (.nxt [(Value.int .i64 1), (Value.int .i64 2), (Value.int .i64 3), (Value.int .i64 4), x0, x12])
 )
 )
 ) fun o => nx o zdc
 ) fun o => ret (zp 0 o)
 ) fun o => nx o zdd
 ) fun o => zbn o fun vs => ret (zbe [(zc vs 0), (zc vs 1)])
def z2a : Hint := (.seq [] .leaf (.seq [] .leaf (.seq [] (.seq [] .leaf (.blk (.seq [4, 5, 6, 7, 8, 9] (.seq [] .leaf (.cond .leaf (.seq [] .leaf (.cond .leaf .leaf)))) (.cond (.seq [] .leaf .leaf) (.seq [] .leaf (.cond (.seq [] .leaf .leaf) (.seq [] .leaf (.cond (.seq [] .leaf .leaf) (.seq [4, 5, 6, 8, 56] (.seq [] .leaf (.cond .leaf .leaf)) (.cond (.seq [] .leaf .leaf) (.seq [] .leaf (.cond (.seq [] .leaf .leaf) (.seq [] .leaf (.cond (.seq [] .leaf .leaf) (.seq [] .leaf (.cond (.seq [] .leaf .leaf) .leaf)))))))))))))))) (.seq [] .leaf .leaf))))
def zl8 (l : List V) : M V := match l with | [x0] => zqg x0 | _ => fail
theorem zbdv (x0 : V) : zbr Tryz.prog (ovr [] noC) zq1 z2a [x0] = zqg x0 := by kernel_rfl
theorem zbdw : zk Tryz.prog zq1 (zl8) := zh (σ := ovr [] noC) (hint := z2a) (by kernel_rfl) zf fun l H r H' h => by
 unfold zl8 at h; split at h
 · rw [zbdv]; exact h
 · exact (ze h).elim
def z2b (vs_4 : List V) : M Out :=
 zb (za (zj .add (zc vs_4 3) (Value.int .i64 1))) fun x43 =>
 ret (.nxt [(zc vs_4 0), (zc vs_4 1), (zc vs_4 2), x43])
def zu7 (vs_3 : List V) : M Out :=
 zb (
 zb (
 zb (za (zg 1 (zc vs_3 1))) fun x44 =>
 zb (za (zj .add (zc vs_3 0) (zc vs_3 3))) fun x48 =>
 zb (za (zbo 3 (zc vs_3 2) (zc vs_3 3))) fun x53 =>
 zb (za (zg 1 x53)) fun x54 =>
 zb (z8 x44) fun x45 =>
 zb (za (zbo 1 x45 x48)) fun x49 =>
 zb (z8 x49) fun x50 =>
 zb (z8 x54) fun x55 =>
 zb (za (zj .neq x50 x55)) fun x56 =>
 zi x56 (
 ret (.ret [(Value.bool false)])
 ) (
 ret (.nxt [(zc vs_3 0), (zc vs_3 1), (zc vs_3 2), (zc vs_3 3)])
 )
 ) fun o => ret (zp 1 o)
 ) fun o => nx o z2b
def zqh (vs_2 : List V) : M Out :=
 zb (
 zb (za (zo (zc vs_2 2))) fun x40 =>
 zb (za (zj .lss (zc vs_2 3) x40)) fun x41 =>
 zi x41 (
 ret (.nxt [(zc vs_2 0), (zc vs_2 1), (zc vs_2 2), (zc vs_2 3)])
 ) (
 ret (.brk 0 [])
 )
 ) fun o => nx o zu7
def z2c (vs_5 : List V) : M Out :=
 ret (.ret [(Value.bool true)])
def z2d (vs : List V) : M Out :=
 zb (
 zb (
 zcg zcb zqh [(zc vs 0), (zc vs 1), (zc vs 2), (Value.int .i64 0)]
 ) fun o => ret (zp 0 o)
 ) fun o => nx o z2c
def zry (x0 x1 x2 : V) : M V :=
 zb (
 zb (zhp x0) fun x3 =>
 zb (zl8 [x1]) fun x12 =>
 zb (za (ext 0 x12)) fun x13 =>
 zb (za (ext 1 x12)) fun x14 =>
 zb (
 zb (za (zj .neq x14 (Value.int .i64 0))) fun x16 =>
 zb (gd x16 false (za (some x2))) fun x18 =>
 zb (gd x16 false (za (zj .lss x18 (Value.int .i64 0)))) fun x19 =>
 zb (za (zm x16 (Value.bool true) x19)) fun x20 =>
 zb (gd x20 false (za (some x2))) fun x22 =>
 zb (gd x20 false (za (zg 1 x3))) fun x23 =>
 zb (gd x20 false (z8 x23)) fun x24 =>
 zb (gd x20 false (za (zo x24))) fun x25 =>
 zb (gd x20 false (za (zj .geq x22 x25))) fun x26 =>
 zb (za (zm x20 (Value.bool true) x26)) fun x27 =>
 zb (gd x27 false (za (some x13))) fun x29 =>
 zb (gd x27 false (za (zo x29))) fun x30 =>
 zb (gd x27 false (za (zg 1 x3))) fun x31 =>
 zb (gd x27 false (z8 x31)) fun x32 =>
 zb (gd x27 false (za (zo x32))) fun x33 =>
 zb (gd x27 false (za (some x2))) fun x34 =>
 zb (gd x27 false (za (zj .sub x33 x34))) fun x35 =>
 zb (gd x27 false (za (zj .gtr x30 x35))) fun x36 =>
 zb (za (zm x27 (Value.bool true) x36)) fun x37 =>
 zi x37 (
 ret (.ret [(Value.bool false)])
 ) (
 ret (.nxt [x2, x3, x13])
 )
 ) fun o => nx o z2d
 ) fun o => zbn o fun vs => ret (zbe [(zc vs 0)])
def z4u : Hint := (.seq [] .leaf (.seq [] .leaf (.seq [2, 3, 7] (.seq [] .leaf (.cond (.seq [] .leaf .leaf) .leaf)) (.seq [] (.seq [] .leaf (.blk (.loop [2, 3, 7, 9] (.seq [2, 3, 7, 9] (.seq [] .leaf (.cond .leaf .leaf)) (.seq [2, 3, 7, 9] (.blk (.seq [] (.reg [0, 2, 3, 4, 7, 8, 9, 10, 1, 5, 6, 11, 12] []) (.cond (.seq [] .leaf .leaf) .leaf))) .leaf))))) (.seq [] .leaf .leaf)))))
def znv (l : List V) : M V := match l with | [x0, x1, x2] => zry x0 x1 x2 | _ => fail
def z4v : zl := ovr [(zq1, zl8)] noC
theorem zbfp (x0 x1 x2 : V) : zbr Tryz.prog (z4v) zsj z4u [x0, x1, x2] = zry x0 x1 x2 := by kernel_rfl
theorem zbfq : zk Tryz.prog zsj (znv) := zh (σ := z4v) (hint := z4u) (by kernel_rfl) (zd zbdw zf) fun l H r H' h => by
 unfold znv at h; split at h
 · rw [zbfp]; exact h
 · exact (ze h).elim
def zfy (vs_4 : List V) : M Out :=
 zi (zc vs_4 3) (
 zb (za (zg 2 (zc vs_4 1))) fun x94 =>
 zb (z8 x94) fun x95 =>
 zb (za (zj .eql x95 (Value.int .i64 0))) fun x96 =>
 zb (gd x96 true (za (zg 1 (zc vs_4 1)))) fun x98 =>
 zb (gd x96 true (z8 x98)) fun x99 =>
 zb (gd x96 true (za (zj .geq x99 (Value.int .i64 0)))) fun x100 =>
 zb (za (zm x96 x100 (Value.bool false))) fun x101 =>
 zb (gd x101 true (za (zg 1 (zc vs_4 1)))) fun x103 =>
 zb (gd x101 true (z8 x103)) fun x104 =>
 zb (gd x101 true (za (zg 5 (zc vs_4 0)))) fun x105 =>
 zb (gd x101 true (z8 x105)) fun x106 =>
 zb (gd x101 true (za (zo x106))) fun x107 =>
 zb (gd x101 true (za (zj .lss x104 x107))) fun x108 =>
 zb (za (zm x101 x108 (Value.bool false))) fun x109 =>
 ret (.ret [x109])
 ) (
 zb (za (zj .eql (zc vs_4 2) (Value.int .i64 11))) fun x111 =>
 zi x111 (
 zb (ldn 6 (zc vs_4 0)) fun x112 =>
 zb (za (zg 1 (zc vs_4 1))) fun x113 =>
 zb (z8 x113) fun x114 =>
 zb (za (zg 2 (zc vs_4 1))) fun x115 =>
 zb (z8 x115) fun x116 =>
 zb (znv [x112, x114, x116]) fun x117 =>
 ret (.ret [x117])
 ) (
 zb (za (zj .eql (zc vs_4 2) (Value.int .i64 12))) fun x119 =>
 zi x119 (
 zb (za (zg 1 (zc vs_4 1))) fun x120 =>
 zb (z8 x120) fun x121 =>
 zb (za (zj .eql x121 (Value.int .i64 0))) fun x122 =>
 zb (gd x122 true (za (zg 2 (zc vs_4 1)))) fun x124 =>
 zb (gd x122 true (z8 x124)) fun x125 =>
 zb (gd x122 true (za (zj .eql x125 (Value.int .i64 0)))) fun x126 =>
 zb (za (zm x122 x126 (Value.bool false))) fun x127 =>
 ret (.ret [x127])
 ) (
 ret (.nxt [])
 )
 )
 )
def zbp (vs_3 : List V) : M Out :=
 zi (zc vs_3 3) (
 zb (za (zg 2 (zc vs_3 1))) fun x42 =>
 zb (z8 x42) fun x43 =>
 zb (za (zj .geq x43 (Value.int .i64 1))) fun x44 =>
 zb (gd x44 true (za (zg 2 (zc vs_3 1)))) fun x46 =>
 zb (gd x44 true (z8 x46)) fun x47 =>
 zb (gd x44 true (za (zj .leq x47 (Value.int .i64 32)))) fun x48 =>
 zb (za (zm x44 x48 (Value.bool false))) fun x49 =>
 zb (gd x49 true (ldn 6 (zc vs_3 0))) fun x51 =>
 zb (gd x49 true (za (zg 1 (zc vs_3 1)))) fun x52 =>
 zb (gd x49 true (z8 x52)) fun x53 =>
 zb (gd x49 true (za (zg 2 (zc vs_3 1)))) fun x54 =>
 zb (gd x49 true (z8 x54)) fun x55 =>
 zb (gd x49 true (zm3 [x51, x53, x55])) fun x56 =>
 zb (za (zm x49 x56 (Value.bool false))) fun x57 =>
 ret (.ret [x57])
 ) (
 zb (za (zj .eql (zc vs_3 2) (Value.int .i64 6))) fun x59 =>
 zi x59 (
 zb (za (zg 1 (zc vs_3 1))) fun x60 =>
 zb (z8 x60) fun x61 =>
 zb (za (zg 2 (zc vs_3 1))) fun x62 =>
 zb (z8 x62) fun x63 =>
 zb (zoy [x61, x63, (Value.int .i64 2)]) fun x64 =>
 ret (.ret [x64])
 ) (
 zb (za (zj .eql (zc vs_3 2) (Value.int .i64 7))) fun x66 =>
 zi x66 (
 zb (za (zg 1 (zc vs_3 1))) fun x67 =>
 zb (z8 x67) fun x68 =>
 zb (za (zg 2 (zc vs_3 1))) fun x69 =>
 zb (z8 x69) fun x70 =>
 zb (zoy [x68, x70, (Value.int .i64 1)]) fun x71 =>
 ret (.ret [x71])
 ) (
 zb (za (zj .eql (zc vs_3 2) (Value.int .i64 8))) fun x73 =>
 zi x73 (
 zb (za (zg 1 (zc vs_3 1))) fun x74 =>
 zb (z8 x74) fun x75 =>
 zb (zgr [x75]) fun x76 =>
 zb (gd x76 true (za (zg 2 (zc vs_3 1)))) fun x78 =>
 zb (gd x76 true (z8 x78)) fun x79 =>
 zb (gd x76 true (zgr [x79])) fun x80 =>
 zb (za (zm x76 x80 (Value.bool false))) fun x81 =>
 zb (gd x81 true (za (zg 1 (zc vs_3 1)))) fun x83 =>
 zb (gd x81 true (z8 x83)) fun x84 =>
 zb (gd x81 true (za (zj .eql x84 (Value.int .i64 1)))) fun x85 =>
 zb (gd x81 true (za (zg 2 (zc vs_3 1)))) fun x86 =>
 zb (gd x81 true (z8 x86)) fun x87 =>
 zb (gd x81 true (za (zj .eql x87 (Value.int .i64 1)))) fun x88 =>
 zb (gd x81 true (za (zhx false (eqK .b x85 x88)))) fun x89 =>
 zb (za (zm x81 x89 (Value.bool false))) fun x90 =>
 ret (.ret [x90])
 ) (
 zb (
 zb (za (zj .eql (zc vs_3 2) (Value.int .i64 9))) fun x92 =>
 zi x92 (
 ret (.nxt [(zc vs_3 0), (zc vs_3 1), (zc vs_3 2), x92])
 ) (
 zb (za (zj .eql (zc vs_3 2) (Value.int .i64 10))) fun x93 =>
 ret (.nxt [(zc vs_3 0), (zc vs_3 1), (zc vs_3 2), x93])
 )
 ) fun o => nx o zfy
 )
 )
 )
 )
def z7 (vs_2 : List V) : M Out :=
 zi (zc vs_2 3) (
 zb (za (zg 2 (zc vs_2 1))) fun x30 =>
 zb (z8 x30) fun x31 =>
 zb (za (zj .eql x31 (Value.int .i64 0))) fun x32 =>
 zb (gd x32 true (ldn 6 (zc vs_2 0))) fun x34 =>
 zb (gd x32 true (za (zg 1 (zc vs_2 1)))) fun x35 =>
 zb (gd x32 true (z8 x35)) fun x36 =>
 zb (gd x32 true (zm3 [x34, x36, (Value.int .i64 1)])) fun x37 =>
 zb (za (zm x32 x37 (Value.bool false))) fun x38 =>
 ret (.ret [x38])
 ) (
 zb (
 zb (za (zj .eql (zc vs_2 2) (Value.int .i64 4))) fun x40 =>
 zi x40 (
 ret (.nxt [(zc vs_2 0), (zc vs_2 1), (zc vs_2 2), x40])
 ) (
 zb (za (zj .eql (zc vs_2 2) (Value.int .i64 5))) fun x41 =>
 ret (.nxt [(zc vs_2 0), (zc vs_2 1), (zc vs_2 2), x41])
 )
 ) fun o => nx o zbp
 )
def z7s (vs_5 : List V) : M Out :=
 ret (.ret [(Value.bool false)])
def zw (vs : List V) : M Out :=
 zb (
 zb (za (zg 0 (zc vs 1))) fun x13 =>
 zb (z8 x13) fun x14 =>
 zb (
 zb (za (zj .eql x14 (Value.int .i64 1))) fun x16 =>
 zi x16 (
 zb (za (zg 2 (zc vs 1))) fun x17 =>
 zb (z8 x17) fun x18 =>
 zb (za (zj .eql x18 (Value.int .i64 0))) fun x19 =>
 zb (gd x19 true (za (zg 1 (zc vs 1)))) fun x21 =>
 zb (gd x19 true (z8 x21)) fun x22 =>
 zb (gd x19 true (za (zg 3 (zc vs 1)))) fun x23 =>
 zb (gd x19 true (z8 x23)) fun x24 =>
 zb (gd x19 true (zj3 [x22, x24])) fun x25 =>
 zb (za (zm x19 x25 (Value.bool false))) fun x26 =>
 ret (.ret [x26])
 ) (
 zb (
 zb (za (zj .eql x14 (Value.int .i64 2))) fun x28 =>
 zi x28 (
 ret (.nxt [(zc vs 0), (zc vs 1), x14, x28])
 ) (
 zb (za (zj .eql x14 (Value.int .i64 3))) fun x29 =>
 ret (.nxt [(zc vs 0), (zc vs 1), x14, x29])
 )
 ) fun o => nx o z7
 )
 ) fun o => ret (zp 0 o)
 ) fun o => nx o z7s
def zvw (x0 x1 : V) : M V :=
 zb (
 zb (zhp x0) fun x2 =>
 zb (zhp x1) fun x3 =>
 zb (
 zb (za (zg 0 x3)) fun x5 =>
 zb (z8 x5) fun x6 =>
 zb (za (zj .neq x6 (Value.int .i64 1))) fun x7 =>
 zb (gd x7 true (za (zg 3 x3))) fun x9 =>
 zb (gd x7 true (z8 x9)) fun x10 =>
 zb (gd x7 true (za (zj .neq x10 (Value.int .i64 0)))) fun x11 =>
 zb (za (zm x7 x11 (Value.bool false))) fun x12 =>
 zi x12 (
 ret (.ret [(Value.bool false)])
 ) (
 ret (.nxt [x2, x3])
 )
 ) fun o => nx o zw
 ) fun o => zbn o fun vs => ret (zbe [(zc vs 0)])
def zbai : Hint := (.seq [] .leaf (.seq [2, 3] (.seq [] .leaf (.cond (.seq [] .leaf .leaf) .leaf)) (.seq [] (.seq [] .leaf (.blk (.seq [] .leaf (.cond (.seq [] .leaf .leaf) (.seq [2, 3, 14, 27] (.seq [] .leaf (.cond .leaf .leaf)) (.cond (.seq [] .leaf .leaf) (.seq [2, 3, 14, 39] (.seq [] .leaf (.cond .leaf .leaf)) (.cond (.seq [] .leaf .leaf) (.seq [] .leaf (.cond (.seq [] .leaf .leaf) (.seq [] .leaf (.cond (.seq [] .leaf .leaf) (.seq [] .leaf (.cond (.seq [] .leaf .leaf) (.seq [2, 3, 14, 91] (.seq [] .leaf (.cond .leaf .leaf)) (.cond (.seq [] .leaf .leaf) (.seq [] .leaf (.cond (.seq [] .leaf .leaf) (.seq [] .leaf (.cond (.seq [] .leaf .leaf) .leaf)))))))))))))))))))) (.seq [] .leaf .leaf))))
def zr9 (l : List V) : M V := match l with | [x0, x1] => zvw x0 x1 | _ => fail
def zbaj : zl := ovr [(zpf, zj3), (zul, zm3), (zwe, zoy), (zlb, zgr), (zsj, znv)] noC
theorem zbk8 (x0 x1 : V) : zbr Tryz.prog (zbaj) zwd zbai [x0, x1] = zvw x0 x1 := by kernel_rfl
theorem zbk9 : zk Tryz.prog zwd (zr9) := zh (σ := zbaj) (hint := zbai) (by kernel_rfl) (zd z7k (zd zbi8 (zd zbk7 (zd zy5 (zd zbfq zf))))) fun l H r H' h => by
 unfold zr9 at h; split at h
 · rw [zbk8]; exact h
 · exact (ze h).elim
def z2e (vs_4 : List V) : M Out :=
 zb (za (zj .add (zc vs_4 1) (Value.int .i64 1))) fun x48 =>
 ret (.nxt [(zc vs_4 0), x48])
def zu8 (vs_3 : List V) : M Out :=
 zb (
 zb (
 zb (za (zg 1 (zc vs_3 0))) fun x49 =>
 zb (za (zg 2 (zc vs_3 0))) fun x54 =>
 zb (z8 x49) fun x50 =>
 zb (za (zbo 1 x50 (zc vs_3 1))) fun x52 =>
 zb (z8 x52) fun x53 =>
 zb (z8 x54) fun x55 =>
 zb (za (zbo 1 x55 (zc vs_3 1))) fun x57 =>
 zb (z8 x57) fun x58 =>
 zb (zj3 [x53, x58]) fun x59 =>
 zb (za (un .not x59)) fun x60 =>
 zi x60 (
 ret (.ret [(Value.int .i64 (-1)), (Value.int .i64 130)])
 ) (
 ret (.nxt [(zc vs_3 0), (zc vs_3 1)])
 )
 ) fun o => ret (zp 1 o)
 ) fun o => nx o z2e
def zqi (vs_2 : List V) : M Out :=
 zb (
 zb (za (zg 1 (zc vs_2 0))) fun x43 =>
 zb (z8 x43) fun x44 =>
 zb (za (zo x44)) fun x45 =>
 zb (za (zj .lss (zc vs_2 1) x45)) fun x46 =>
 zi x46 (
 ret (.nxt [(zc vs_2 0), (zc vs_2 1)])
 ) (
 ret (.brk 0 [(zc vs_2 0)])
 )
 ) fun o => nx o zu8
def z2f (vs_8 : List V) : M Out :=
 zb (za (zj .add (zc vs_8 1) (Value.int .i64 1))) fun x67 =>
 ret (.nxt [(zc vs_8 0), x67])
def z2g (vs_7 : List V) : M Out :=
 zb (
 zb (
 zb (za (zg 5 (zc vs_7 0))) fun x69 =>
 zb (ldn 6 (zc vs_7 0)) fun x68 =>
 zb (z8 x69) fun x70 =>
 zb (za (zbo 4 x70 (zc vs_7 1))) fun x72 =>
 zb (ldn 4 x72) fun x73 =>
 zb (zr9 [x68, x73]) fun x74 =>
 zb (za (un .not x74)) fun x75 =>
 zi x75 (
 ret (.ret [(zc vs_7 1), (Value.int .i64 130)])
 ) (
 ret (.nxt [(zc vs_7 0), (zc vs_7 1)])
 )
 ) fun o => ret (zp 3 o)
 ) fun o => nx o z2f
def zu9 (vs_6 : List V) : M Out :=
 zb (
 zb (za (zg 5 (zc vs_6 0))) fun x62 =>
 zb (z8 x62) fun x63 =>
 zb (za (zo x63)) fun x64 =>
 zb (za (zj .lss (zc vs_6 1) x64)) fun x65 =>
 zi x65 (
 ret (.nxt [(zc vs_6 0), (zc vs_6 1)])
 ) (
 ret (.brk 2 [])
 )
 ) fun o => nx o z2g
def z2h (vs_9 : List V) : M Out :=
 ret (.ret [(Value.int .i64 0), (Value.int .i64 0)])
def z2i (vs_5 : List V) : M Out :=
 zb (
 zb (
 zcg zcb zu9 [(zc vs_5 0), (Value.int .i64 0)]
 ) fun o => ret (zp 2 o)
 ) fun o => nx o z2h
def z2j (vs : List V) : M Out :=
 zb (
 zb (
 zcg zcb zqi [(zc vs 0), (Value.int .i64 0)]
 ) fun o => ret (zp 0 o)
 ) fun o => nx o z2i
def zrz (x0 : V) : M V :=
 zb (
 zb (zhp x0) fun x1 =>
 zb (
 zb (za (zg 0 x1)) fun x6 =>
 zb (z8 x6) fun x7 =>
 zb (zqc [x7]) fun x8 =>
 zb (za (un .not x8)) fun x9 =>
 zb (gd x9 false (za (zg 1 x1))) fun x11 =>
 zb (gd x9 false (z8 x11)) fun x12 =>
 zb (gd x9 false (za (zo x12))) fun x13 =>
 zb (gd x9 false (za (zg 2 x1))) fun x14 =>
 zb (gd x9 false (z8 x14)) fun x15 =>
 zb (gd x9 false (za (zo x15))) fun x16 =>
 zb (gd x9 false (za (zj .neq x13 x16))) fun x17 =>
 zb (za (zm x9 (Value.bool true) x17)) fun x18 =>
 zb (gd x18 false (za (zg 1 x1))) fun x20 =>
 zb (gd x18 false (z8 x20)) fun x21 =>
 zb (gd x18 false (za (zo x21))) fun x22 =>
 zb (gd x18 false (za (zj .gtr x22 (Value.int .i64 1024)))) fun x23 =>
 zb (za (zm x18 (Value.bool true) x23)) fun x24 =>
 zb (gd x24 false (za (zg 5 x1))) fun x26 =>
 zb (gd x24 false (z8 x26)) fun x27 =>
 zb (gd x24 false (za (zo x27))) fun x28 =>
 zb (gd x24 false (za (zj .lss x28 (Value.int .i64 1)))) fun x29 =>
 zb (za (zm x24 (Value.bool true) x29)) fun x30 =>
 zb (gd x30 false (za (zg 5 x1))) fun x32 =>
 zb (gd x30 false (z8 x32)) fun x33 =>
 zb (gd x30 false (za (zo x33))) fun x34 =>
 zb (gd x30 false (za (zj .gtr x34 (Value.int .i64 4096)))) fun x35 =>
 zb (za (zm x30 (Value.bool true) x35)) fun x36 =>
 zb (gd x36 false (ldn 6 x1)) fun x38 =>
 zb (gd x36 false (znu [x38])) fun x39 =>
 zb (gd x36 false (za (un .not x39))) fun x40 =>
 zb (za (zm x36 (Value.bool true) x40)) fun x41 =>
 zi x41 (
 ret (.ret [(Value.int .i64 (-1)), (Value.int .i64 130)])
 ) (
 ret (.nxt [x1])
 )
 ) fun o => nx o z2j
 ) fun o => zbn o fun vs => ret (zbe [(zc vs 0), (zc vs 1)])
def z4w : Hint := (.seq [] .leaf (.seq [1] (.seq [] .leaf (.cond (.seq [] .leaf .leaf) .leaf)) (.seq [1] (.seq [] .leaf (.blk (.loop [1, 4] (.seq [1, 4] (.seq [] .leaf (.cond .leaf .leaf)) (.seq [1, 4] (.blk (.seq [] (.reg [0, 2, 5, 7, 1, 3, 4, 6, 8, 9, 10, 11] []) (.cond (.seq [] .leaf .leaf) .leaf))) .leaf))))) (.seq [] (.seq [] .leaf (.blk (.loop [1, 5] (.seq [1, 5] (.seq [] .leaf (.cond .leaf .leaf)) (.seq [1, 5] (.blk (.seq [] (.reg [1, 3, 0, 2, 4, 5, 6, 7] []) (.cond (.seq [] .leaf .leaf) .leaf))) .leaf))))) (.seq [] .leaf .leaf)))))
def znw (l : List V) : M V := match l with | [x0] => zrz x0 | _ => fail
def z4x : zl := ovr [(zui, zqc), (zsg, znu), (zpf, zj3), (zwd, zr9)] noC
theorem zbfr (x0 : V) : zbr Tryz.prog (z4x) zsf z4w [x0] = zrz x0 := by kernel_rfl
theorem zbfs : zk Tryz.prog zsf (znw) := zh (σ := z4x) (hint := z4w) (by kernel_rfl) (zd zbi2 (zd zbfo (zd z7k (zd zbk9 zf)))) fun l H r H' h => by
 unfold znw at h; split at h
 · rw [zbfr]; exact h
 · exact (ze h).elim
def zhb (vs_4 : List V) : M Out :=
 zb (za (zj .add (zc vs_4 5) (Value.int .i64 1))) fun x42 =>
 ret (.nxt [(zc vs_4 0), (zc vs_4 1), (zc vs_4 2), (zc vs_4 3), (zc vs_4 4), x42])
def zzw (vs_3 : List V) : M Out :=
 zb (
 zb (
 zvo fun h0 =>
 zb (za (zg 1 (zc vs_3 3))) fun x43 =>
 zb (z8 x43) fun x44 =>
 zhr (zc7 [(zc vs_3 2), (Value.int .i64 9)]) fun ha x46 h1 =>
 zhr (zfb 1 1 (rep 1 [Value.int .i64 0]) [(0, 1, x46)]) fun ha_2 x47 h2 =>
 zhr (zk7 1 8 x44 x47) fun ha_3 x48 h3 =>
 zb (za (zg 1 (zc vs_3 3))) fun x49 =>
 zhr (st1 x49 x48) fun ha_4 u h4 =>
 zmd (chk (z8 x43) h1 x44) <|
 zmd (chk (z8 x43) h2 x44) <|
 zb (za (zeb (zc vs_3 2))) fun x51 =>
 zb (za (zg 1 x51)) fun x52 =>
 zb (z8 x52) fun x53 =>
 zb (za (zo (zc vs_3 1))) fun x55 =>
 zb (za (zj .lss x53 x55)) fun x56 =>
 zb (gd x56 true (za (some (zc vs_3 1)))) fun x58 =>
 zb (gd x56 true (za (some (zc vs_3 2)))) fun x59 =>
 zb (gd x56 true (za (zeb x59))) fun x60 =>
 zb (gd x56 true (za (zg 1 x60))) fun x61 =>
 zb (gd x56 true (z8 x61)) fun x62 =>
 zb (gd x56 true (za (zbo 3 x58 x62))) fun x63 =>
 zb (gd x56 true (za (zg 0 x63))) fun x64 =>
 zb (gd x56 true (z8 x64)) fun x65 =>
 zb (gd x56 true (za (un .not x65))) fun x66 =>
 zb (za (zm x56 x66 (Value.bool false))) fun x67 =>
 zi x67 (
 zvo fun h0_2 =>
 zb (za (zg 2 (zc vs_3 3))) fun x68 =>
 zb (za (zeb (zc vs_3 2))) fun x72 =>
 zb (za (zg 1 x72)) fun x73 =>
 zb (z8 x68) fun x69 =>
 zb (z8 x73) fun x74 =>
 zb (za (zbo 3 (zc vs_3 1) x74)) fun x75 =>
 zb (za (zg 1 x75)) fun x76 =>
 zb (z8 x76) fun x77 =>
 zhr (zfb 1 1 (rep 1 [Value.int .i64 0]) [(0, 1, x77)]) fun ha_5 x78 h1_2 =>
 zhr (zk7 1 8 x69 x78) fun ha_6 x79 h2_2 =>
 zb (za (zg 2 (zc vs_3 3))) fun x80 =>
 zhr (st1 x80 x79) fun ha_7 u_2 h3_2 =>
 zmd (chk (z8 x68) h1_2 x69) <|
 zb (za (zeb (zc vs_3 2))) fun x82 =>
 zb (za (zg 1 x82)) fun x83 =>
 zb (z8 x83) fun x84 =>
 zb (za (zj .add x84 (Value.int .i64 1))) fun x85 =>
 zb (za (zeb (zc vs_3 2))) fun x86 =>
 zb (za (zg 1 x86)) fun x87 =>
 zb (st1 x87 x85) fun _ =>
 ret (.nxt [(zc vs_3 0), (zc vs_3 1), (zc vs_3 2), (zc vs_3 3), (zc vs_3 4), (zc vs_3 5)])
 ) (
 zb (za (zeb (zc vs_3 2))) fun x89 =>
 zb (za (zg 2 x89)) fun x90 =>
 zb (st1 x90 (Value.bool true)) fun _ =>
 ret (.nxt [(zc vs_3 0), (zc vs_3 1), (zc vs_3 2), (zc vs_3 3), (zc vs_3 4), (zc vs_3 5)])
 )
 ) fun o => ret (zp 1 o)
 ) fun o => nx o zhb
def zj8 (vs_2 : List V) : M Out :=
 zb (
 zb (za (zj .lss (zc vs_2 5) (zc vs_2 4))) fun x33 =>
 zb (gd x33 true (za (some (zc vs_2 2)))) fun x35 =>
 zb (gd x33 true (za (zeb x35))) fun x36 =>
 zb (gd x33 true (za (zg 2 x36))) fun x37 =>
 zb (gd x33 true (z8 x37)) fun x38 =>
 zb (gd x33 true (za (un .not x38))) fun x39 =>
 zb (za (zm x33 x39 (Value.bool false))) fun x40 =>
 zi x40 (
 ret (.nxt [(zc vs_2 0), (zc vs_2 1), (zc vs_2 2), (zc vs_2 3), (zc vs_2 4), (zc vs_2 5)])
 ) (
 ret (.brk 0 [(zc vs_2 0), (zc vs_2 1), (zc vs_2 2), (zc vs_2 3)])
 )
 ) fun o => nx o zzw
def zzx (vs_9 : List V) : M Out :=
 zb (za (zj .add (zc vs_9 3) (Value.int .i64 11))) fun x124 =>
 ret (.nxt [(zc vs_9 0), (zc vs_9 1), (zc vs_9 2), x124])
def zzy (vs_8 : List V) : M Out :=
 zb (
 zb (
 zvo fun h0_3 =>
 zb (za (zg 5 (zc vs_8 1))) fun x125 =>
 zb (za (zj .add (zc vs_8 3) (Value.int .i64 11))) fun x130 =>
 zb (za (zo6 (zc vs_8 2) (some (zc vs_8 3)) (some x130))) fun x131 =>
 zb (z8 x125) fun x126 =>
 zhr (zns [x131]) fun ha_8 x132 h1_3 =>
 zhr (zfb 4 1 (rep 1 [Value.int .i64 0, Value.int .i64 0, Value.int .i64 0, Value.int .i64 0]) [(0, 4, x132)]) fun ha_9 x133 h2_3 =>
 zhr (zk7 4 32 x126 x133) fun ha_10 x134 h3_3 =>
 zb (za (zg 5 (zc vs_8 1))) fun x135 =>
 zhr (st1 x135 x134) fun ha_11 u_3 h4_2 =>
 zmd (chk (z8 x125) h1_3 x126) <|
 zmd (chk (z8 x125) h2_3 x126) <|
 ret (.nxt [(zc vs_8 0), (zc vs_8 1), (zc vs_8 2), (zc vs_8 3)])
 ) fun o => ret (zp 3 o)
 ) fun o => nx o zzx
def zob (vs_7 : List V) : M Out :=
 zb (
 zb (za (zde (zc vs_7 2))) fun x121 =>
 zb (za (zj .lss (zc vs_7 3) x121)) fun x122 =>
 zi x122 (
 ret (.nxt [(zc vs_7 0), (zc vs_7 1), (zc vs_7 2), (zc vs_7 3)])
 ) (
 ret (.brk 2 [(zc vs_7 0), (zc vs_7 1)])
 )
 ) fun o => nx o zzy
def zzz (vs_11 : List V) : M Out :=
 zb (ldn 6 (zc vs_11 1)) fun x144 =>
 zb (stn 6 (zc vs_11 0) x144) fun _ =>
 ret (.ret [(zc vs_11 0), (Value.int .i64 0)])
def zz0 (vs_10 : List V) : M Out :=
 zb (
 zb (ldn 6 (zc vs_10 1)) fun x137 =>
 zb (znw [x137]) fun x138 =>
 zb (za (ext 0 x138)) fun x139 =>
 zb (za (ext 1 x138)) fun x140 =>
 zb (za (zj .neq x140 (Value.int .i64 0))) fun x142 =>
 zi x142 (
 zb (za (build [Value.string ⟨#[]⟩, Value.slice none 0 0, Value.slice none 0 0, Value.slice none 0 0, Value.slice none 0 0, Value.slice none 0 0] [])) fun x143 =>
 zb (stn 6 (zc vs_10 0) x143) fun _ =>
 ret (.ret [(zc vs_10 0), (Value.int .i64 130)])
 ) (
 ret (.nxt [(zc vs_10 0), (zc vs_10 1)])
 )
 ) fun o => nx o zzz
def zz1 (vs_6 : List V) : M Out :=
 zb (
 zb (
 zcg zcb zob [(zc vs_6 0), (zc vs_6 1), (zc vs_6 2), (Value.int .i64 0)]
 ) fun o => ret (zp 2 o)
 ) fun o => nx o zz0
def zz2 (vs_5 : List V) : M Out :=
 zb (zer [(zc vs_5 2)]) fun x92 =>
 zb (za (zg 3 (zc vs_5 3))) fun x93 =>
 zb (st1 x93 x92) fun _ =>
 zb (zer [(zc vs_5 2)]) fun x95 =>
 zb (za (zg 4 (zc vs_5 3))) fun x96 =>
 zb (st1 x96 x95) fun _ =>
 zb (zeq [(zc vs_5 2)]) fun x98 =>
 zb (
 zb (za (zeb (zc vs_5 2))) fun x100 =>
 zb (za (zg 2 x100)) fun x101 =>
 zb (z8 x101) fun x102 =>
 zb (gd x102 false (za (some (zc vs_5 2)))) fun x104 =>
 zb (gd x102 false (za (zeb x104))) fun x105 =>
 zb (gd x102 false (za (zg 1 x105))) fun x106 =>
 zb (gd x102 false (z8 x106)) fun x107 =>
 zb (gd x102 false (za (some (zc vs_5 1)))) fun x108 =>
 zb (gd x102 false (za (zo x108))) fun x109 =>
 zb (gd x102 false (za (zj .neq x107 x109))) fun x110 =>
 zb (za (zm x102 (Value.bool true) x110)) fun x111 =>
 zb (gd x111 false (za (some x98))) fun x113 =>
 zb (gd x111 false (za (zde x113))) fun x114 =>
 zb (gd x111 false (za (zj .rem x114 (Value.int .i64 11)))) fun x115 =>
 zb (gd x111 false (za (zj .neq x115 (Value.int .i64 0)))) fun x116 =>
 zb (za (zm x111 (Value.bool true) x116)) fun x117 =>
 zi x117 (
 zb (za (build [Value.string ⟨#[]⟩, Value.slice none 0 0, Value.slice none 0 0, Value.slice none 0 0, Value.slice none 0 0, Value.slice none 0 0] [])) fun x118 =>
 zb (stn 6 (zc vs_5 0) x118) fun _ =>
 ret (.ret [(zc vs_5 0), (Value.int .i64 130)])
 ) (
 ret (.nxt [(zc vs_5 0), (zc vs_5 3), x98])
 )
 ) fun o => nx o zz1
def zxt (vs : List V) : M Out :=
 zb (za (build [Value.slice none 0 0, Value.int .i64 0, Value.bool false] [(0, 1, (zc vs 1))])) fun x24 =>
 zb (zhp x24) fun x25 =>
 zb (zeq [x25]) fun x27 =>
 zb (za (build [Value.string ⟨#[]⟩, Value.slice none 0 0, Value.slice none 0 0, Value.slice none 0 0, Value.slice none 0 0, Value.slice none 0 0] [(0, 1, x27)])) fun x28 =>
 zb (newc [Value.string ⟨#[]⟩, Value.slice none 0 0, Value.slice none 0 0, Value.slice none 0 0, Value.slice none 0 0, Value.slice none 0 0]) fun x7 =>
 zb (stn 6 x7 x28) fun _ =>
 zb (zc7 [x25, (Value.int .i64 1024)]) fun x30 =>
 zb (
 zb (
 zcg zcb zj8 [(zc vs 0), (zc vs 1), x25, x7, x30, (Value.int .i64 0)]
 ) fun o => ret (zp 0 o)
 ) fun o => nx o zz2
def zqj (x0 : V) : M V :=
 zb (
 zb (newc [Value.string ⟨#[]⟩, Value.slice none 0 0, Value.slice none 0 0, Value.slice none 0 0, Value.slice none 0 0, Value.slice none 0 0]) fun x2 =>
 zb (zl5 [x0]) fun x16 =>
 zb (za (ext 0 x16)) fun x17 =>
 zb (za (ext 1 x16)) fun x18 =>
 zb (newc [Value.int .i64 0, Value.int .i64 0]) fun x5 =>
 zb (stn 2 x5 x18) fun _ =>
 zb (
 zb (za (zg 1 x5)) fun x19 =>
 zb (z8 x19) fun x20 =>
 zb (za (zj .neq x20 (Value.int .i64 0))) fun x21 =>
 zi x21 (
 zb (za (build [Value.string ⟨#[]⟩, Value.slice none 0 0, Value.slice none 0 0, Value.slice none 0 0, Value.slice none 0 0, Value.slice none 0 0] [])) fun x22 =>
 zb (stn 6 x2 x22) fun _ =>
 ret (.ret [x2, (Value.int .i64 130)])
 ) (
 ret (.nxt [x2, x17])
 )
 ) fun o => nx o zxt
 ) fun o => zbn o fun vs => zb (ldn 6 (zc vs 0)) fun r0 => ret (zbe [r0, (zc vs 1)])
def z2k : Hint := (.seq [] .leaf (.seq [] .leaf (.seq [2, 4] (.seq [] .leaf (.cond (.seq [] .leaf .leaf) .leaf)) (.seq [] .leaf (.seq [] .leaf (.seq [] .leaf (.seq [2, 4, 6, 7] (.seq [] .leaf (.blk (.loop [2, 4, 6, 7, 8, 9] (.seq [2, 4, 6, 7, 8, 9] (.seq [] .leaf (.cond .leaf .leaf)) (.seq [2, 4, 6, 7, 8, 9] (.blk (.seq [] (.reg [0, 2, 1, 3, 4, 5, 6, 7] []) (.seq [] .leaf (.cond (.seq [] (.reg [0, 2, 3, 4, 5, 1, 6, 7, 8, 9, 10, 11, 12, 13] []) .leaf) .leaf)))) .leaf))))) (.seq [] .leaf (.seq [] .leaf (.seq [] .leaf (.seq [2, 7, 10] (.seq [] .leaf (.cond (.seq [] .leaf .leaf) .leaf)) (.seq [2, 7] (.seq [] .leaf (.blk (.loop [2, 7, 10, 11] (.seq [2, 7, 10, 11] (.seq [] .leaf (.cond .leaf .leaf)) (.seq [2, 7, 10, 11] (.blk (.reg [0, 2, 3, 4, 5, 6, 1, 7, 8, 9, 10, 11] [])) .leaf))))) (.seq [2, 7] (.seq [] .leaf (.seq [] .leaf (.cond (.seq [] .leaf .leaf) .leaf))) (.seq [] .leaf .leaf))))))))))))))
def zjl (l : List V) : M V := match l with | [x0] => zqj x0 | _ => fail
def z2l : zl := ovr [(zqz, zl5), (zkr, zeq), (zim, zc7), (zks, zer), (zsh, zns), (zsf, znw)] noC
theorem zbdx (x0 : V) : zbr Tryz.prog (z2l) zmh z2k [x0] = zqj x0 := by kernel_rfl
theorem zbdy : zk Tryz.prog zmh (zjl) := zh (σ := z2l) (hint := z2k) (by kernel_rfl) (zd zbdu (zd z3g (zd zu3 (zd z3i (zd zbfm (zd zbfs zf)))))) fun l H r H' h => by
 unfold zjl at h; split at h
 · rw [zbdx]; exact h
 · exact (ze h).elim
def zxu (vs_4 : List V) : M Out :=
 zb (za (zj .add (zc vs_4 2) (Value.int .i64 1))) fun x16 =>
 ret (.nxt [(zc vs_4 0), (zc vs_4 1), x16])
def zq6 (vs_3 : List V) : M Out :=
 zb (
 zb (
 zb (za (zbo 1 (zc vs_3 0) (zc vs_3 2))) fun x19 =>
 zb (za (zbo 1 (zc vs_3 1) (zc vs_3 2))) fun x23 =>
 zb (z8 x19) fun x20 =>
 zb (z8 x23) fun x24 =>
 zb (za (zj .neq x20 x24)) fun x25 =>
 zi x25 (
 ret (.ret [(Value.bool false)])
 ) (
 ret (.nxt [(zc vs_3 0), (zc vs_3 1), (zc vs_3 2)])
 )
 ) fun o => ret (zp 1 o)
 ) fun o => nx o zxu
def zm4 (vs_2 : List V) : M Out :=
 zb (
 zb (za (zo (zc vs_2 0))) fun x13 =>
 zb (za (zj .lss (zc vs_2 2) x13)) fun x14 =>
 zi x14 (
 ret (.nxt [(zc vs_2 0), (zc vs_2 1), (zc vs_2 2)])
 ) (
 ret (.brk 0 [])
 )
 ) fun o => nx o zq6
def zxv (vs_5 : List V) : M Out :=
 ret (.ret [(Value.bool true)])
def zxw (vs : List V) : M Out :=
 zb (
 zb (
 zcg zcb zm4 [(zc vs 0), (zc vs 1), (Value.int .i64 0)]
 ) fun o => ret (zp 0 o)
 ) fun o => nx o zxv
def zj9 (x0 x1 : V) : M V :=
 zb (
 zb (
 zb (za (zo x0)) fun x7 =>
 zb (za (zo x1)) fun x9 =>
 zb (za (zj .neq x7 x9)) fun x10 =>
 zi x10 (
 ret (.ret [(Value.bool false)])
 ) (
 ret (.nxt [x0, x1])
 )
 ) fun o => nx o zxw
 ) fun o => zbn o fun vs => ret (zbe [(zc vs 0)])
def zz3 : Hint := (.seq [] .leaf (.seq [0, 1] (.seq [] .leaf (.cond (.seq [] .leaf .leaf) .leaf)) (.seq [] (.seq [] .leaf (.blk (.loop [0, 1, 5] (.seq [0, 1, 5] (.seq [] .leaf (.cond .leaf .leaf)) (.seq [0, 1, 5] (.blk (.seq [] (.reg [0, 1, 2, 4, 5, 6, 3, 7, 8] []) (.cond (.seq [] .leaf .leaf) .leaf))) .leaf))))) (.seq [] .leaf .leaf))))
def zhc (l : List V) : M V := match l with | [x0, x1] => zj9 x0 x1 | _ => fail
theorem zba0 (x0 x1 : V) : zbr Tryz.prog (ovr [] noC) zpg zz3 [x0, x1] = zj9 x0 x1 := by kernel_rfl
theorem zba1 : zk Tryz.prog zpg (zhc) := zh (σ := ovr [] noC) (hint := zz3) (by kernel_rfl) zf fun l H r H' h => by
 unfold zhc at h; split at h
 · rw [zba0]; exact h
 · exact (ze h).elim
def zxx (vs_4 : List V) : M Out :=
 zb (za (zj .add (zc vs_4 2) (Value.int .i64 1))) fun x16 =>
 ret (.nxt [(zc vs_4 0), (zc vs_4 1), x16])
def zq7 (vs_3 : List V) : M Out :=
 zb (
 zb (
 zb (za (zbo 1 (zc vs_3 0) (zc vs_3 2))) fun x19 =>
 zb (za (zbo 1 (zc vs_3 1) (zc vs_3 2))) fun x23 =>
 zb (z8 x19) fun x20 =>
 zb (z8 x23) fun x24 =>
 zb (za (zj .neq x20 x24)) fun x25 =>
 zi x25 (
 ret (.ret [(Value.bool false)])
 ) (
 ret (.nxt [(zc vs_3 0), (zc vs_3 1), (zc vs_3 2)])
 )
 ) fun o => ret (zp 1 o)
 ) fun o => nx o zxx
def zm5 (vs_2 : List V) : M Out :=
 zb (
 zb (za (zo (zc vs_2 0))) fun x13 =>
 zb (za (zj .lss (zc vs_2 2) x13)) fun x14 =>
 zi x14 (
 ret (.nxt [(zc vs_2 0), (zc vs_2 1), (zc vs_2 2)])
 ) (
 ret (.brk 0 [])
 )
 ) fun o => nx o zq7
def zxy (vs_5 : List V) : M Out :=
 ret (.ret [(Value.bool true)])
def zxz (vs : List V) : M Out :=
 zb (
 zb (
 zcg zcb zm5 [(zc vs 0), (zc vs 1), (Value.int .i64 0)]
 ) fun o => ret (zp 0 o)
 ) fun o => nx o zxy
def zka (x0 x1 : V) : M V :=
 zb (
 zb (
 zb (za (zo x0)) fun x7 =>
 zb (za (zo x1)) fun x9 =>
 zb (za (zj .neq x7 x9)) fun x10 =>
 zi x10 (
 ret (.ret [(Value.bool false)])
 ) (
 ret (.nxt [x0, x1])
 )
 ) fun o => nx o zxz
 ) fun o => zbn o fun vs => ret (zbe [(zc vs 0)])
def zz4 : Hint := (.seq [] .leaf (.seq [0, 1] (.seq [] .leaf (.cond (.seq [] .leaf .leaf) .leaf)) (.seq [] (.seq [] .leaf (.blk (.loop [0, 1, 5] (.seq [0, 1, 5] (.seq [] .leaf (.cond .leaf .leaf)) (.seq [0, 1, 5] (.blk (.seq [] (.reg [0, 1, 2, 4, 5, 6, 3, 7, 8] []) (.cond (.seq [] .leaf .leaf) .leaf))) .leaf))))) (.seq [] .leaf .leaf))))
def zkb (l : List V) : M V := match l with | [x0, x1] => zka x0 x1 | _ => fail
theorem zba2 (x0 x1 : V) : zbr Tryz.prog (ovr [] noC) zph zz4 [x0, x1] = zka x0 x1 := by kernel_rfl
theorem zba3 : zk Tryz.prog zph (zkb) := zh (σ := ovr [] noC) (hint := zz4) (by kernel_rfl) zf fun l H r H' h => by
 unfold zkb at h; split at h
 · rw [zba2]; exact h
 · exact (ze h).elim
def zvx (vs_4 : List V) : M Out :=
 zb (za (zj .add (zc vs_4 2) (Value.int .i64 1))) fun x58 =>
 ret (.nxt [(zc vs_4 0), (zc vs_4 1), x58])
def zqk (vs_3 : List V) : M Out :=
 zb (
 zb (
 zb (za (zg 5 (zc vs_3 0))) fun x59 =>
 zb (za (zg 5 (zc vs_3 1))) fun x64 =>
 zb (z8 x59) fun x60 =>
 zb (za (zbo 4 x60 (zc vs_3 2))) fun x62 =>
 zb (ldn 4 x62) fun x63 =>
 zb (z8 x64) fun x65 =>
 zb (za (zbo 4 x65 (zc vs_3 2))) fun x67 =>
 zb (ldn 4 x67) fun x68 =>
 zb (za (zhx true (z3k [.i, .i, .i, .i] x63 x68))) fun x69 =>
 zi x69 (
 ret (.ret [(Value.bool false)])
 ) (
 ret (.nxt [(zc vs_3 0), (zc vs_3 1), (zc vs_3 2)])
 )
 ) fun o => ret (zp 1 o)
 ) fun o => nx o zvx
def zk2 (vs_2 : List V) : M Out :=
 zb (
 zb (za (zg 5 (zc vs_2 0))) fun x53 =>
 zb (z8 x53) fun x54 =>
 zb (za (zo x54)) fun x55 =>
 zb (za (zj .lss (zc vs_2 2) x55)) fun x56 =>
 zi x56 (
 ret (.nxt [(zc vs_2 0), (zc vs_2 1), (zc vs_2 2)])
 ) (
 ret (.brk 0 [])
 )
 ) fun o => nx o zqk
def zvy (vs_5 : List V) : M Out :=
 ret (.ret [(Value.bool true)])
def zvz (vs : List V) : M Out :=
 zb (
 zb (
 zcg zcb zk2 [(zc vs 0), (zc vs 1), (Value.int .i64 0)]
 ) fun o => ret (zp 0 o)
 ) fun o => nx o zvy
def zm6 (x0 x1 : V) : M V :=
 zb (
 zb (zhp x0) fun x2 =>
 zb (zhp x1) fun x3 =>
 zb (
 zb (za (zg 0 x2)) fun x6 =>
 zb (z8 x6) fun x7 =>
 zb (za (zg 0 x3)) fun x8 =>
 zb (z8 x8) fun x9 =>
 zb (za (zj .neq x7 x9)) fun x10 =>
 zb (gd x10 false (za (zg 1 x2))) fun x12 =>
 zb (gd x10 false (z8 x12)) fun x13 =>
 zb (gd x10 false (za (zg 1 x3))) fun x14 =>
 zb (gd x10 false (z8 x14)) fun x15 =>
 zb (gd x10 false (zhc [x13, x15])) fun x16 =>
 zb (gd x10 false (za (un .not x16))) fun x17 =>
 zb (za (zm x10 (Value.bool true) x17)) fun x18 =>
 zb (gd x18 false (za (zg 2 x2))) fun x20 =>
 zb (gd x18 false (z8 x20)) fun x21 =>
 zb (gd x18 false (za (zg 2 x3))) fun x22 =>
 zb (gd x18 false (z8 x22)) fun x23 =>
 zb (gd x18 false (zkb [x21, x23])) fun x24 =>
 zb (gd x18 false (za (un .not x24))) fun x25 =>
 zb (za (zm x18 (Value.bool true) x25)) fun x26 =>
 zb (gd x26 false (za (zg 3 x2))) fun x28 =>
 zb (gd x26 false (z8 x28)) fun x29 =>
 zb (gd x26 false (za (zg 3 x3))) fun x30 =>
 zb (gd x26 false (z8 x30)) fun x31 =>
 zb (gd x26 false (zhc [x29, x31])) fun x32 =>
 zb (gd x26 false (za (un .not x32))) fun x33 =>
 zb (za (zm x26 (Value.bool true) x33)) fun x34 =>
 zb (gd x34 false (za (zg 4 x2))) fun x36 =>
 zb (gd x34 false (z8 x36)) fun x37 =>
 zb (gd x34 false (za (zg 4 x3))) fun x38 =>
 zb (gd x34 false (z8 x38)) fun x39 =>
 zb (gd x34 false (zhc [x37, x39])) fun x40 =>
 zb (gd x34 false (za (un .not x40))) fun x41 =>
 zb (za (zm x34 (Value.bool true) x41)) fun x42 =>
 zb (gd x42 false (za (zg 5 x2))) fun x44 =>
 zb (gd x42 false (z8 x44)) fun x45 =>
 zb (gd x42 false (za (zo x45))) fun x46 =>
 zb (gd x42 false (za (zg 5 x3))) fun x47 =>
 zb (gd x42 false (z8 x47)) fun x48 =>
 zb (gd x42 false (za (zo x48))) fun x49 =>
 zb (gd x42 false (za (zj .neq x46 x49))) fun x50 =>
 zb (za (zm x42 (Value.bool true) x50)) fun x51 =>
 zi x51 (
 ret (.ret [(Value.bool false)])
 ) (
 ret (.nxt [x2, x3])
 )
 ) fun o => nx o zvz
 ) fun o => zbn o fun vs => ret (zbe [(zc vs 0)])
def zx0 : Hint := (.seq [] .leaf (.seq [2, 3] (.seq [] .leaf (.cond (.seq [] .leaf .leaf) .leaf)) (.seq [] (.seq [] .leaf (.blk (.loop [2, 3, 5] (.seq [2, 3, 5] (.seq [] .leaf (.cond .leaf .leaf)) (.seq [2, 3, 5] (.blk (.seq [] (.reg [0, 2, 5, 7, 1, 3, 4, 6, 8, 9, 10] []) (.cond (.seq [] .leaf .leaf) .leaf))) .leaf))))) (.seq [] .leaf .leaf))))
def zhw (l : List V) : M V := match l with | [x0, x1] => zm6 x0 x1 | _ => fail
def zx1 : zl := ovr [(zpg, zhc), (zph, zkb)] noC
theorem z9b (x0 x1 : V) : zbr Tryz.prog (zx1) zjx zx0 [x0, x1] = zm6 x0 x1 := by kernel_rfl
theorem z9c : zk Tryz.prog zjx (zhw) := zh (σ := zx1) (hint := zx0) (by kernel_rfl) (zd zba1 (zd zba3 zf)) fun l H r H' h => by
 unfold zhw at h; split at h
 · rw [z9b]; exact h
 · exact (ze h).elim
def zy6 (G_strconv_Itoa : List V → M V) (G_strconv_FormatInt : List V → M V) (G_strings_Join : List V → M V) (vs : List V) : M Out :=
 zvo fun h0 =>
 zb (za (zg 1 (zc vs 0))) fun x19 =>
 zb (za (zg 2 (zc vs 0))) fun x22 =>
 zb (za (zg 3 (zc vs 0))) fun x25 =>
 zb (z8 x19) fun x20 =>
 zb (z8 x22) fun x23 =>
 zb (z8 x25) fun x26 =>
 zhr (G_strconv_Itoa [x20]) fun ha x21 h1 =>
 zhr (G_strconv_Itoa [x23]) fun ha_2 x24 h2 =>
 zhr (G_strconv_FormatInt [x26, (Value.int .i64 10)]) fun ha_3 x27 h3 =>
 zhr (zfb 1 4 (rep 4 [Value.string ⟨#[]⟩]) [(0, 1, (zc vs 1)), (1, 1, x21), (2, 1, x24), (3, 1, x27)]) fun ha_4 x28 h4 =>
 zhr (G_strings_Join [x28, (Value.string ⟨#[32]⟩)]) fun ha_5 x29 h5 =>
 zmd (chk (z8 x22) h1 x23) <|
 zmd (chk (z8 x25) h1 x26) <|
 zmd (chk (z8 x25) h2 x26) <|
 ret (.ret [x29])
def zv0 (G_strconv_Itoa : List V → M V) (G_strconv_FormatInt : List V → M V) (G_strings_Join : List V → M V) (x0 : V) : M V :=
 zb (
 zb (zhp x0) fun x1 =>
 zb (za (zo5 13 1 (ptr gid_code_opNames 0) (Value.int .i64 0))) fun x4 =>
 zb (z8 x4) fun x5 =>
 zb (
 zb (za (zg 0 x1)) fun x6 =>
 zb (z8 x6) fun x7 =>
 zb (za (zj .gtr x7 (Value.int .i64 0))) fun x8 =>
 zb (gd x8 true (za (zg 0 x1))) fun x10 =>
 zb (gd x8 true (z8 x10)) fun x11 =>
 zb (gd x8 true (za (zj .lss x11 (Value.int .i64 13)))) fun x12 =>
 zb (za (zm x8 x12 (Value.bool false))) fun x13 =>
 zi x13 (
 zb (za (zg 0 x1)) fun x14 =>
 zb (z8 x14) fun x15 =>
 zb (za (zo5 13 1 (ptr gid_code_opNames 0) x15)) fun x16 =>
 zb (z8 x16) fun x17 =>
 ret (.nxt [x1, x17])
 ) (
 ret (.nxt [x1, x5])
 )
 ) fun o => nx o (zy6 G_strconv_Itoa G_strconv_FormatInt G_strings_Join)
 ) fun o => zbn o fun vs => ret (zbe [(zc vs 0)])
def zbak : Hint := (.seq [] .leaf (.seq [] .leaf (.seq [1, 3] (.seq [] .leaf (.cond .leaf .leaf)) (.seq [] (.reg [0, 1, 4, 7, 2, 5, 8, 3, 6, 9, 10, 11, 12] []) .leaf))))
def zoz (G_strconv_Itoa : List V → M V) (G_strconv_FormatInt : List V → M V) (G_strings_Join : List V → M V) (l : List V) : M V := match l with | [x0] => zv0 G_strconv_Itoa G_strconv_FormatInt G_strings_Join x0 | _ => fail
theorem zbla (G_strconv_Itoa : List V → M V) (G_strconv_FormatInt : List V → M V) (G_strings_Join : List V → M V) (x0 : V) : zbr Tryz.prog (ovr [(zht, G_strconv_Itoa), (zev, G_strconv_FormatInt), (zhs, G_strings_Join)] noC) zrc zbak [x0] = zv0 G_strconv_Itoa G_strconv_FormatInt G_strings_Join x0 := by kernel_rfl
theorem zblb {G_strconv_Itoa : List V → M V} {G_strconv_FormatInt : List V → M V} {G_strings_Join : List V → M V} (k_strconv_Itoa : zk Tryz.prog zht G_strconv_Itoa) (k_strconv_FormatInt : zk Tryz.prog zev G_strconv_FormatInt) (k_strings_Join : zk Tryz.prog zhs G_strings_Join) : zk Tryz.prog zrc (zoz G_strconv_Itoa G_strconv_FormatInt G_strings_Join) := zh (σ := ovr [(zht, G_strconv_Itoa), (zev, G_strconv_FormatInt), (zhs, G_strings_Join)] noC) (hint := zbak) (by kernel_rfl) (zd k_strconv_Itoa (zd k_strconv_FormatInt (zd k_strings_Join zf))) fun l H r H' h => by
 unfold zoz at h; split at h
 · rw [zbla]; exact h
 · exact (ze h).elim
def zr0 (G_strings_IndexRune : List V → M V) (G_strings_Contains : List V → M V) (G_strconv_Itoa : List V → M V) (G_strconv_FormatInt : List V → M V) (G_strings_Join : List V → M V) : M V :=
 zb (
 zb (zfb 1 1 (rep 1 [Value.int .i64 0]) [(0, 1, (Value.int .i64 2))]) fun x6 =>
 zb (zfb 1 1 (rep 1 [Value.int .i64 0]) [(0, 1, (Value.int .i64 0))]) fun x7 =>
 zb (za (build [Value.int .i64 0, Value.int .i64 0, Value.int .i64 0, Value.int .i64 0] [(0, 1, (Value.int .i64 1)), (1, 1, (Value.int .i64 2)), (3, 1, (Value.int .i64 5))])) fun x8 =>
 zb (za (build [Value.int .i64 0, Value.int .i64 0, Value.int .i64 0, Value.int .i64 0] [(0, 1, (Value.int .i64 3))])) fun x9 =>
 zb (za (build [Value.int .i64 0, Value.int .i64 0, Value.int .i64 0, Value.int .i64 0] [(0, 1, (Value.int .i64 12))])) fun x10 =>
 zb (zfb 4 3 (rep 3 [Value.int .i64 0, Value.int .i64 0, Value.int .i64 0, Value.int .i64 0]) [(0, 4, x8), (4, 4, x9), (8, 4, x10)]) fun x11 =>
 zb (za (build [Value.string ⟨#[]⟩, Value.slice none 0 0, Value.slice none 0 0, Value.slice none 0 0, Value.slice none 0 0, Value.slice none 0 0] [(0, 1, (Value.string ⟨#[80]⟩)), (1, 1, x6), (2, 1, x7), (5, 1, x11)])) fun x12 =>
 zb (newc [Value.string ⟨#[]⟩, Value.slice none 0 0, Value.slice none 0 0, Value.slice none 0 0, Value.slice none 0 0, Value.slice none 0 0]) fun x1 =>
 zb (stn 6 x1 x12) fun _ =>
 zb (ldn 6 x1) fun x14 =>
 zb ((zfx G_strings_IndexRune G_strings_Contains) [x14]) fun x15 =>
 zb (za (ext 0 x15)) fun x16 =>
 zb (za (ext 1 x15)) fun x17 =>
 zb (za (zg 5 x1)) fun x18 =>
 zb (z8 x18) fun x19 =>
 zb (za (build [Value.int .i64 0, Value.int .i64 0, Value.int .i64 0, Value.int .i64 0] [(0, 1, (Value.int .i64 2)), (1, 1, (Value.int .i64 1))])) fun x20 =>
 zb (za (zbo 4 x19 (Value.int .i64 1))) fun x21 =>
 zb (stn 4 x21 x20) fun _ =>
 zb (ldn 6 x1) fun x23 =>
 zb ((zfx G_strings_IndexRune G_strings_Contains) [x23]) fun x24 =>
 zb (za (ext 0 x24)) fun x25 =>
 zb (za (ext 1 x24)) fun x26 =>
 zb (za (zj .eql x17 (Value.int .i64 0))) fun x28 =>
 zb (gd x28 true (za (some x25))) fun x30 =>
 zb (gd x28 true (za (zj .eql x30 (Value.int .i64 1)))) fun x31 =>
 zb (za (zm x28 x31 (Value.bool false))) fun x32 =>
 zb (gd x32 true (za (some x26))) fun x34 =>
 zb (gd x32 true (za (zj .eql x34 (Value.int .i64 130)))) fun x35 =>
 zb (za (zm x32 x35 (Value.bool false))) fun x36 =>
 zb (gd x36 true (za (build [Value.int .i64 0, Value.int .i64 0, Value.int .i64 0, Value.int .i64 0] [(0, 1, (Value.int .i64 1)), (1, 1, (Value.int .i64 2)), (3, 1, (Value.int .i64 (-5)))]))) fun x38 =>
 zb (gd x36 true ((zoz G_strconv_Itoa G_strconv_FormatInt G_strings_Join) [x38])) fun x39 =>
 zb (gd x36 true (za (zj .eql x39 (Value.string ⟨#[80, 85, 83, 72, 32, 50, 32, 48, 32, 45, 53]⟩)))) fun x40 =>
 zb (za (zm x36 x40 (Value.bool false))) fun x41 =>
 ret (.ret [x41])
 ) fun o => zbn o fun vs => ret (zbe [(zc vs 0)])
def z4y : Hint := (.seq [] .leaf (.seq [] .leaf (.seq [] .leaf (.seq [] .leaf (.seq [] .leaf (.seq [] .leaf .leaf))))))
def zkq (G_strings_IndexRune : List V → M V) (G_strings_Contains : List V → M V) (G_strconv_Itoa : List V → M V) (G_strconv_FormatInt : List V → M V) (G_strings_Join : List V → M V) (l : List V) : M V := match l with | [] => zr0 G_strings_IndexRune G_strings_Contains G_strconv_Itoa G_strconv_FormatInt G_strings_Join  | _ => fail
theorem zbft (G_strings_IndexRune : List V → M V) (G_strings_Contains : List V → M V) (G_strconv_Itoa : List V → M V) (G_strconv_FormatInt : List V → M V) (G_strings_Join : List V → M V) : zbr Tryz.prog (ovr [(zi6, zfx G_strings_IndexRune G_strings_Contains), (zrc, zoz G_strconv_Itoa G_strconv_FormatInt G_strings_Join)] noC) zn1 z4y [] = zr0 G_strings_IndexRune G_strings_Contains G_strconv_Itoa G_strconv_FormatInt G_strings_Join  := by kernel_rfl
theorem zbfu {G_strings_IndexRune : List V → M V} {G_strings_Contains : List V → M V} {G_strconv_Itoa : List V → M V} {G_strconv_FormatInt : List V → M V} {G_strings_Join : List V → M V} (k_strings_IndexRune : zk Tryz.prog zy G_strings_IndexRune) (k_strings_Contains : zk Tryz.prog zbd G_strings_Contains) (k_strconv_Itoa : zk Tryz.prog zht G_strconv_Itoa) (k_strconv_FormatInt : zk Tryz.prog zev G_strconv_FormatInt) (k_strings_Join : zk Tryz.prog zhs G_strings_Join) : zk Tryz.prog zn1 (zkq G_strings_IndexRune G_strings_Contains G_strconv_Itoa G_strconv_FormatInt G_strings_Join) := zh (σ := ovr [(zi6, zfx G_strings_IndexRune G_strings_Contains), (zrc, zoz G_strconv_Itoa G_strconv_FormatInt G_strings_Join)] noC) (hint := z4y) (by kernel_rfl) (zd (z7b k_strings_IndexRune k_strings_Contains) (zd (zblb k_strconv_Itoa k_strconv_FormatInt k_strings_Join) zf)) fun l H r H' h => by
 unfold zkq at h; split at h
 · rw [zbft]; exact h
 · exact (ze h).elim
def zk3 (G_errors_As : List V → M V) (G_strings_IndexRune : List V → M V) (G_strings_Contains : List V → M V) (G_strconv_Itoa : List V → M V) (G_strconv_FormatInt : List V → M V) (G_strings_Join : List V → M V) (x0 : V) : M V :=
 zb (
 zb ((zkp G_errors_As G_strings_IndexRune G_strings_Contains) [x0]) fun x9 =>
 zb (za (ext 0 x9)) fun x10 =>
 zb (za (ext 1 x9)) fun x11 =>
 zb (newc [Value.string ⟨#[]⟩, Value.slice none 0 0, Value.slice none 0 0, Value.slice none 0 0, Value.slice none 0 0, Value.slice none 0 0]) fun x3 =>
 zb (stn 6 x3 x10) fun _ =>
 zb (zjl [x0]) fun x14 =>
 zb (za (ext 0 x14)) fun x15 =>
 zb (za (ext 1 x14)) fun x16 =>
 zb (newc [Value.string ⟨#[]⟩, Value.slice none 0 0, Value.slice none 0 0, Value.slice none 0 0, Value.slice none 0 0, Value.slice none 0 0]) fun x5 =>
 zb (stn 6 x5 x15) fun _ =>
 zb (ldn 6 x3) fun x17 =>
 zb (ldn 6 x5) fun x18 =>
 zb (zhw [x17, x18]) fun x19 =>
 zb (gd x19 true (za (some x11))) fun x21 =>
 zb (gd x19 true (za (some x16))) fun x22 =>
 zb (gd x19 true (za (zj .eql x21 x22))) fun x23 =>
 zb (za (zm x19 x23 (Value.bool false))) fun x24 =>
 zb (gd x24 true ((zkq G_strings_IndexRune G_strings_Contains G_strconv_Itoa G_strconv_FormatInt G_strings_Join) [])) fun x26 =>
 zb (za (zm x24 x26 (Value.bool false))) fun x27 =>
 ret (.ret [x27])
 ) fun o => zbn o fun vs => ret (zbe [(zc vs 0)])
def zv1 : Hint := (.seq [] .leaf (.seq [] .leaf (.seq [] .leaf (.seq [] .leaf .leaf))))
def zql (G_errors_As : List V → M V) (G_strings_IndexRune : List V → M V) (G_strings_Contains : List V → M V) (G_strconv_Itoa : List V → M V) (G_strconv_FormatInt : List V → M V) (G_strings_Join : List V → M V) (l : List V) : M V := match l with | [x0] => zk3 G_errors_As G_strings_IndexRune G_strings_Contains G_strconv_Itoa G_strconv_FormatInt G_strings_Join x0 | _ => fail
theorem z7t (G_errors_As : List V → M V) (G_strings_IndexRune : List V → M V) (G_strings_Contains : List V → M V) (G_strconv_Itoa : List V → M V) (G_strconv_FormatInt : List V → M V) (G_strings_Join : List V → M V) (x0 : V) : zbr Tryz.prog (ovr [(zn3, zkp G_errors_As G_strings_IndexRune G_strings_Contains), (zmh, zjl), (zjx, zhw), (zn1, zkq G_strings_IndexRune G_strings_Contains G_strconv_Itoa G_strconv_FormatInt G_strings_Join)] noC) zsu zv1 [x0] = zk3 G_errors_As G_strings_IndexRune G_strings_Contains G_strconv_Itoa G_strconv_FormatInt G_strings_Join x0 := by kernel_rfl
theorem K_law13_CodeReads {G_errors_As : List V → M V} {G_strings_IndexRune : List V → M V} {G_strings_Contains : List V → M V} {G_strconv_Itoa : List V → M V} {G_strconv_FormatInt : List V → M V} {G_strings_Join : List V → M V} (k_errors_As : zk Tryz.prog ziv G_errors_As) (k_strings_IndexRune : zk Tryz.prog zy G_strings_IndexRune) (k_strings_Contains : zk Tryz.prog zbd G_strings_Contains) (k_strconv_Itoa : zk Tryz.prog zht G_strconv_Itoa) (k_strconv_FormatInt : zk Tryz.prog zev G_strconv_FormatInt) (k_strings_Join : zk Tryz.prog zhs G_strings_Join) : zk Tryz.prog zsu (zql G_errors_As G_strings_IndexRune G_strings_Contains G_strconv_Itoa G_strconv_FormatInt G_strings_Join) := zh (σ := ovr [(zn3, zkp G_errors_As G_strings_IndexRune G_strings_Contains), (zmh, zjl), (zjx, zhw), (zn1, zkq G_strings_IndexRune G_strings_Contains G_strconv_Itoa G_strconv_FormatInt G_strings_Join)] noC) (hint := zv1) (by kernel_rfl) (zd (zbfi k_errors_As k_strings_IndexRune k_strings_Contains) (zd zbdy (zd z9c (zd (zbfu k_strings_IndexRune k_strings_Contains k_strconv_Itoa k_strconv_FormatInt k_strings_Join) zf)))) fun l H r H' h => by
 unfold zql at h; split at h
 · rw [z7t]; exact h
 · exact (ze h).elim
end Go.AM.Cap
