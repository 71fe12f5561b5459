import Derived.Test.YtjchglndancedaaGreatDoorFun2
import Derived.Test.YtjchglndancedaaGreatDoorAmOpenN
import Derived.Lib.Builder
import Derived.Lib.AppendStr
import Derived.Lib.UnsafeStr
import Derived.Lib.Walk
import Derived.Laws.Externs
import Derived.Shelf.RegionOpenPlain
import Derived.WalkKit
set_option linter.all false
/- conf: builders as the model has them: copyCheck, WriteString, WriteByte, Len, String at a block of the writer's type -/
set_option maxHeartbeats 4000000
set_option maxRecDepth 100000
namespace Go.AM.Cap
open Go.AM Go.Proofs Go.RowKit
theorem zb3f (b:Nat) (w:World) (h0:w.cell? ⟨b,0,none⟩=some (.pointer (some ⟨b,0,none⟩))) :
  Calls Tryz.prog 86 #[.pointer (some ⟨b,0,none⟩)] w fun e w'=>e = .returned (.tuple #[])∧w'=w:=by
 obtain⟨j,hj,hjs⟩:=Option.map_eq_some_iff.1 (by kernel_rfl:(Tryz.prog.info? 72).map (·.size)=some 2)
 have t69:Tryz.prog.underlying 69=some (.pointer 72):=by kernel_rfl
 go_enter Tryz.func86,Tryz.ntmps86
 go_wp2
 rw[Lib.run_neq_ptr_same w _ t69 hj]
 go_wp2
 go_end0
 exact⟨rfl,rfl⟩
theorem zb0t (b:Nat) (w:World) (h0:w.cell? ⟨b,0,none⟩=some (.pointer none)) (hsh:w.shape? b=some (74,2)) (hfz:w.frozen? ⟨b,0,none⟩=false) :
  Calls Tryz.prog 86 #[.pointer (some ⟨b,0,none⟩)] w fun e w'=>e = .returned (.tuple #[])∧w'=w.setCell ⟨b,0,none⟩ (.pointer (some ⟨b,0,none⟩)):=by
 obtain⟨j,hj,hjs⟩:=Option.map_eq_some_iff.1 (by kernel_rfl:(Tryz.prog.info? 72).map (·.size)=some 2)
 have t69:Tryz.prog.underlying 69=some (.pointer 72):=by kernel_rfl
 have t256:Tryz.prog.underlying 256=some .unsafePointer:=by kernel_rfl
 have hl:liesAt Tryz.prog Tryz.prog.depth 74 (2 / Tryz.prog.cellsOf 74) 0 72 1=true:=by kernel_rfl
 go_enter Tryz.func86,Tryz.ntmps86
 go_wp2
 rw[Lib.run_to_unsafe w ⟨b,0,none⟩ t69 t256 hj (by rw[hjs];decide) hsh (Nat.zero_lt_succ 1)]
 simp only[Result.andThen]
 rw[Oper.upon_value]
 go_wp2
 rw[run_callFunc_extern Tryz.func124 (by kernel_rfl) (by kernel_rfl) (by kernel_rfl) (e:=Extern.AbiNoEscape.same) (by kernel_rfl)]
 rw[Lib.run_noEscape]
 simp only[Result.andThen]
 rw[Oper.upon_value]
 go_wp2
 rw[Lib.run_from_unsafe w ⟨b,0,none⟩ t256 t69 hj hsh hl]
 simp only[Result.andThen]
 rw[Oper.upon_value]
 go_wp2
 go_end0
 exact⟨rfl,rfl⟩
structure Bb (N:Nat) (w:World) (b:Nat) (v:Value) (n:Nat) (cs:List Value):Prop where
 blk:w.heap[b]? = some (.cells #[.pointer none,v] 74 (0,0))∨w.heap[b]? = some (.cells #[.pointer (some ⟨b,0,none⟩),v] 74 (0,0))
 own:w.ownsRow N 5 1 v n cs
 ne:v.ownBlock≠some b
 big:N≤w.heap.size
theorem Bb.lt {N:Nat} {w:World} {b:Nat} {v:Value} {n:Nat} {cs:List Value} (h:Bb N w b v n cs):b < w.heap.size:=by
 rcases Nat.lt_or_ge b w.heap.size with h' | h'
 ·exact h'
 ·rcases h.blk with q | q <;> simp[Array.getElem?_eq_none h'] at q
structure Turned (w w':World) (b:Nat) (v:Value):Prop where
 os:w'.os=w.os
 tape:w'.tape=w.tape
 output:w'.output=w.output
 size:w.heap.size≤w'.heap.size
 hold:∀ k,k < w.heap.size→k≠b→some k≠v.ownBlock→w'.heap[k]? = w.heap[k]?
theorem zb0u {N:Nat} {w:World} {b:Nat} {v:Value} {n:Nat} {cs:List Value} (h:Bb N w b v n cs) :
  Calls Tryz.prog 86 #[.pointer (some ⟨b,0,none⟩)] w fun e w'=>e = .returned (.tuple #[])∧w'.heap[b]? = some (.cells #[.pointer (some ⟨b,0,none⟩),v] 74 (0,0))∧w'.ownsRow N 5 1 v n cs∧w'.heap.size≤w.heap.size∧Turned w w' b v:=by
 rcases h.blk with q | q
 ·refine (zb0t b w (by simp[World.cell?,q]) (by simp[World.shape?,q]) (by simp[World.frozen?,q])).mono ?_
  rintro e w' ⟨rfl,rfl⟩
  have hk:w.grownBy (w.setCell ⟨b,0,none⟩ (.pointer (some ⟨b,0,none⟩))) (some b):=⟨rfl,rfl,rfl,by simp[World.setCell],fun k _ hk=>Below.heap_setCell _ _ _ _ (fun e=>hk (by simp[e]))⟩
  exact⟨rfl,by simp[World.setCell,Array.getElem?_modify,q],h.own.kept hk (.inr h.ne),by simp[World.setCell],⟨rfl,rfl,rfl,hk.size,fun k hk1 hk2 _=>hk.block k hk1 (fun e=>hk2 (by simpa using e))⟩⟩
 ·refine (zb3f b w (by simp[World.cell?,q])).mono ?_
  rintro e w' ⟨rfl,rfl⟩
  exact⟨rfl,q,h.own,Nat.le_refl _,rfl,rfl,rfl,Nat.le_refl _,fun _ _ _ _=>rfl⟩
theorem zb4i:∃ i,Tryz.prog.info? 5=some i∧i.zero=some (.int .u8 0)∧i.size=1∧i.bytes=1:=info_parts (by kernel_rfl)
theorem t70:Tryz.prog.underlying 70=some (.slice 5):=by kernel_rfl
theorem tStr:Tryz.prog.underlying 9=some .string:=by kernel_rfl
theorem zb3h {N g0 cap n:Nat} {w:World} {cs:List Value} (hown:w.ownsRow N 5 1 (.slice (some ⟨g0,0,none⟩) n cap) n cs):∃ cur,w.heap[g0]? = some (.cells cur 5 (0,0))∧n≤cap∧cur.size=cap∧cs.length=n:=by
 rcases hown.2 with⟨q,_⟩ | ⟨g1,cap1,cur,q,h1,h2,h3,h4,h5,h6⟩
 ·cases q
 ·injection q with q1 q2 q3
  injection q1 with q1
  injection q1 with q1
  subst q1;subst q3
  exact⟨cur,h2,h3,by simpa using h5,by simpa using hown.1⟩
theorem zb3i {N:Nat} {w:World} {v:Value} {n:Nat} {cs:List Value} (hown:w.ownsRow N 5 1 v n cs) (s:ByteArray) (hb:n + s.size≤100000000000000) (hN:N≤w.heap.size) (ty:TypeId) :
  ∃ v' w',(Builtin.append_ #[70,9] ty #[v,.string s]).run Tryz.prog w = .ok v' w'∧w'.ownsRow N 5 1 v' (n + s.size) (cs ++ Lib.strCells s)∧w.grownBy w' v.ownBlock∧(v' = .slice none 0 0↔v = .slice none 0 0∧s.size=0)∧∀ g,v'.ownBlock=some g→v.ownBlock=some g∨w.heap.size≤g:=by
 obtain⟨i,hi,hz,hs,hy⟩:=zb4i
 obtain⟨v',w',hr,h2,h3,h4⟩:=Lib.run_append_own_string (P:=Tryz.prog) w N 70 9 ty 5 i t70 tStr hi hz hs hy v n cs hown s (by unfold maxLen;omega) (by omega) hN
 refine⟨v',w',hr,h2,h3,h4,fun g hg=>?_⟩
 rcases hown.2 with⟨rfl,rfl⟩ | ⟨g0,cap,cur,rfl,hbg,hg0,hnc,hcm,hcs,htake⟩
 ·obtain⟨v2,w2,hr2,g2,_⟩:=Lib.run_append_own_string (P:=Tryz.prog) w w.heap.size 70 9 ty 5 i t70 tStr hi hz hs hy _ 0 [] (World.ownsRow_nil _ _ _ _) s (by unfold maxLen;omega) (by omega) (Nat.le_refl _)
  rw[hr] at hr2
  injection hr2 with e1 e2
  subst e1;subst e2
  exact .inr (g2.lt g hg).1
 ·by_cases hroom:n + s.size≤cap
  ·have hr2:=Lib.run_append_room_string (P:=Tryz.prog) w 70 9 ty 5 i t70 tStr hi hs g0 n cap cur hg0 s hroom (by omega)
   rw[hr] at hr2
   injection hr2 with e1 e2
   subst e1
   exact .inl hg
  ·have hr2:=Lib.run_append_grow_string (P:=Tryz.prog) w 70 9 ty 5 i (.int .u8 0) t70 tStr hi hz ⟨g0,0,none⟩ n cap cs (by rw[hs];exact hown.1) (hown.cells (g:=g0) rfl) s (by omega) (by omega) (by rw[hy];exact growslice_fits (by omega) (by omega))
   rw[hr] at hr2
   injection hr2 with e1 e2
   subst e1
   simp only[Value.ownBlock,Option.some.injEq] at hg
   exact .inr (by omega)
theorem zb3j {N:Nat} {w:World} {v:Value} {n:Nat} {cs:List Value} (hown:w.ownsRow N 5 1 v n cs) (ad:Addr) (c:Value) (h1:c.oneCell'=true) (hc:w.cell? ad=some c) (hb:n + 1≤100000000000000) (hN:N≤w.heap.size) (ty:TypeId) :
  ∃ v' w',(Builtin.append_ #[70,70] ty #[v,.slice (some ad) 1 1]).run Tryz.prog w = .ok v' w'∧w'.ownsRow N 5 1 v' (n + 1) (cs ++ [c])∧w.grownBy w' v.ownBlock∧∀ g,v'.ownBlock=some g→v.ownBlock=some g∨w.heap.size≤g:=by
 obtain⟨i,hi,hz,hs,hy⟩:=zb4i
 have hnews:∀ (j:Nat) (u:Value),[c][j]? = some u→w.cell? (ad.add j)=some u:=fun j u hj=>by
  match j,hj with
  | 0,hj=>simp at hj;subst hj;simpa[Addr.add] using hc
 have ho:∀ u∈[c],u.oneCell'=true:=fun u hu=>by simp at hu;subst hu;exact h1
 obtain⟨v',w',hr,h2,h3,h4⟩:=run_append_own (P:=Tryz.prog) w N 70 ty 5 i (.int .u8 0) 1 1 t70 hi hz hs hy rfl (by decide) v n cs hown ad 1 1 [c] rfl hnews ho (by unfold maxLen;omega) (by omega) hN
 refine⟨v',w',hr,h2,h3,fun g hg=>?_⟩
 rcases hown.2 with⟨rfl,rfl⟩ | ⟨g0,cap,cur,rfl,hbg,hg0,hnc,hcm,hcs,htake⟩
 ·obtain⟨v2,w2,hr2,g2,_⟩:=run_append_own (P:=Tryz.prog) w w.heap.size 70 ty 5 i (.int .u8 0) 1 1 t70 hi hz hs hy rfl (by decide) _ 0 [] (World.ownsRow_nil _ _ _ _) ad 1 1 [c] rfl hnews ho (by unfold maxLen;omega) (by omega) (Nat.le_refl _)
  rw[hr] at hr2
  injection hr2 with e1 e2
  subst e1;subst e2
  exact .inr (g2.lt g hg).1
 ·by_cases hroom:n + 1≤cap
  ·have hr2:=run_append_room (P:=Tryz.prog) w 70 ty 5 i t70 hi g0 n cap cur hg0 ad 1 1 [c] (by rw[hs];rfl) hnews ho hroom (by rw[hs];simp;omega)
   rw[hr] at hr2
   injection hr2 with e1 e2
   subst e1
   exact .inl hg
  ·have hr2:=run_append_grow (P:=Tryz.prog) w 70 ty 5 i (.int .u8 0) t70 hi hz ⟨g0,0,none⟩ n cap cs (by rw[hs];exact hown.1) (hown.cells (g:=g0) rfl) ad 1 1 [c] (by rw[hs];rfl) hnews (by omega) (by omega) (by rw[hy];exact growslice_fits (by omega) (by omega))
   rw[hr] at hr2
   injection hr2 with e1 e2
   subst e1
   simp only[Value.ownBlock,Option.some.injEq] at hg
   exact .inr (by omega)
theorem zb5z {ops:Array Oper} {rest:List Oper} {o:Oper} {a:Act} {Q:Exit→Act→World→Prop} {N:Nat} {w:World} (hgd:o.guard=none) (sl x:Operand)
  (ho:o.op = .call { callee := .builtin .append,args:=#[sl,x],argTypes:=#[70,9] }) (v:Value) (n:Nat) (cs:List Value) (hs:a.eval sl=v) (hown:w.ownsRow N 5 1 v n cs) (s:ByteArray) (hx:a.eval x = .string s)
  (hb:n + s.size≤100000000000000) (hN:N≤w.heap.size)
  (h:∀ v' w',w'.ownsRow N 5 1 v' (n + s.size) (cs ++ Lib.strCells s)→w.grownBy w' v.ownBlock→(v' = .slice none 0 0↔v = .slice none 0 0∧s.size=0)→(∀ g,v'.ownBlock=some g→v.ownBlock=some g∨w.heap.size≤g)→wpList Tryz.prog ops Q rest (a.put o.dst v') w'):wpList Tryz.prog ops Q (o :: rest) a w:=by
 refine wpList_plain hgd fun K hK=>?_
 obtain⟨v',w',hr,h2,h3,h4,h5⟩:=zb3i hown s hb hN o.type
 unfold Oper.wp execOp
 simp only[ho,resolve,invoke,builtin,Sem.run_bind,Sem.run_pure,Result.andThen_ok,List.map_toArray,List.map_cons,List.map_nil,hs,hx,hr]
 exact hK _ _ (h v' w' h2 h3 h4 h5)
theorem zb50 {ops:Array Oper} {rest:List Oper} {o:Oper} {a:Act} {Q:Exit→Act→World→Prop} {N:Nat} {w:World} (hgd:o.guard=none) (sl x:Operand)
  (ho:o.op = .call { callee := .builtin .append,args:=#[sl,x],argTypes:=#[70,70] }) (v:Value) (n:Nat) (cs:List Value) (hs:a.eval sl=v) (hown:w.ownsRow N 5 1 v n cs) (ad:Addr) (c:Value) (hx:a.eval x = .slice (some ad) 1 1)
  (h1:c.oneCell'=true) (hc:w.cell? ad=some c) (hb:n + 1≤100000000000000) (hN:N≤w.heap.size)
  (h:∀ v' w',w'.ownsRow N 5 1 v' (n + 1) (cs ++ [c])→w.grownBy w' v.ownBlock→(∀ g,v'.ownBlock=some g→v.ownBlock=some g∨w.heap.size≤g)→wpList Tryz.prog ops Q rest (a.put o.dst v') w'):wpList Tryz.prog ops Q (o :: rest) a w:=by
 refine wpList_plain hgd fun K hK=>?_
 obtain⟨v',w',hr,h2,h3,h5⟩:=zb3j hown ad c h1 hc hb hN o.type
 unfold Oper.wp execOp
 simp only[ho,resolve,invoke,builtin,Sem.run_bind,Sem.run_pure,Result.andThen_ok,List.map_toArray,List.map_cons,List.map_nil,hs,hx,hr]
 exact hK _ _ (h v' w' h2 h3 h5)
structure Wrote (N:Nat) (w w':World) (b:Nat) (v v':Value) (n:Nat) (cs:List Value):Prop where
 blk:w'.heap[b]? = some (.cells #[.pointer (some ⟨b,0,none⟩),v'] 74 (0,0))
 own:w'.ownsRow N 5 1 v' n cs
 new:∀ g,v'.ownBlock=some g→v.ownBlock=some g∨w.heap.size≤g
 turned:Turned w w' b v
theorem zbsm {N:Nat} {w w1 w2:World} {b:Nat} {v v':Value} {n n':Nat} {cs cs':List Value} (h:Bb N w b v n cs) (hsz:w1.heap.size≤w.heap.size) (ht:Turned w w1 b v)
  (hb2:w2.heap[b]? = some (.cells #[.pointer (some ⟨b,0,none⟩),v] 74 (0,0))) (hown':w2.ownsRow N 5 1 v' n' cs') (hgrow:w1.grownBy w2 v.ownBlock) (hnew:∀ g,v'.ownBlock=some g→v.ownBlock=some g∨w1.heap.size≤g) :
  Wrote N w (w2.setCell ⟨b,1,none⟩ v') b v v' n' cs':=by
 have hne:=Lib.ownBlock_ne hown' hb2 (by decide)
 have hs:∀ k,k≠b→(w2.setCell ⟨b,1,none⟩ v').heap[k]? = w2.heap[k]? := fun k hk=>Below.heap_setCell _ _ _ _ (fun e=>hk (by simp[e]))
 have hz:(w2.setCell ⟨b,1,none⟩ v').heap.size=w2.heap.size:=by simp[World.setCell]
 refine⟨by simp[World.setCell,Array.getElem?_modify,hb2],hown'.kept (row:=some b) ⟨rfl,rfl,rfl,by omega,fun k _ hk=>hs k (fun e=>hk (by simp[e]))⟩ (.inr hne),fun g hg=>?_,hgrow.os.trans ht.os,hgrow.tape.trans ht.tape,hgrow.output.trans ht.output,?_,fun k hk hk2 hk3=>?_⟩
 ·rcases hnew g hg with q | q
  ·exact .inl q
  ·exact .inr (Nat.le_trans ht.size q)
 ·have:=hgrow.size;have:=ht.size;omega
 ·rw[hs k hk2,hgrow.block k (Nat.lt_of_lt_of_le hk ht.size) hk3,ht.hold k hk hk2 hk3]
theorem zb51 {N:Nat} {w:World} {b:Nat} {v:Value} {n:Nat} {cs:List Value} (h:Bb N w b v n cs) (s:ByteArray) (hb:n + s.size≤100000000000000) :
  Calls Tryz.prog 42 #[.pointer (some ⟨b,0,none⟩),.string s] w fun e w'=>e = .returned (.tuple #[.int .i64 s.size,.nilIface])∧∃ v',Wrote N w w' b v v' (n + s.size) (cs ++ Lib.strCells s):=by
 go_enter Tryz.func42,Tryz.ntmps42
 go_wp2_with (go_at_call 86;refine (zb0u h).mono ?_)
 rintro e w1 ⟨rfl,hbk,hown,hsz,ht⟩
 have hlt:b < w1.heap.size:=Nat.lt_of_lt_of_le h.lt ht.size
 have hbg:N≤w1.heap.size:=Nat.le_trans h.big ht.size
 have c1:w1.cell? ⟨b,1,none⟩=some v:=by rw[Lib.cell_of_heap hbk];rfl
 go_wp2_with (at_builtin;refine zb5z rfl _ _ rfl _ _ _ rfl hown s rfl hb hbg ?_)
 intro v' w2 hown' hgrow hnil hnew
 have hb2:w2.heap[b]? = some (.cells #[.pointer (some ⟨b,0,none⟩),v] 74 (0,0)):=by
  rw[hgrow.block b hlt (fun e=>h.ne e.symm)];exact hbk
 have d1:w2.cell? ⟨b,1,none⟩=some v:=by rw[Lib.cell_of_heap hb2];rfl
 have f1:w2.frozen? ⟨b,1,none⟩=false:=Lib.frozen_of_heap hb2 1
 have hw:=zbsm h hsz ht hb2 hown' hgrow hnew
 obtain⟨ao,n',cap,rfl⟩:∃ ao n' cap,v' = .slice ao n' cap:=by
  rcases hown'.2 with⟨hv,_⟩ | ⟨g,cap,cur,hv,_⟩
  ·exact⟨_,_,_,hv⟩
  ·exact⟨_,_,_,hv⟩
 go_wp2
 go_ret2
 exact⟨rfl,_,hw⟩
theorem zb52 {N:Nat} {w:World} {b:Nat} {v:Value} {n:Nat} {cs:List Value} (h:Bb N w b v n cs) (c:Int) (hb:n + 1≤100000000000000) :
  Calls Tryz.prog 43 #[.pointer (some ⟨b,0,none⟩),.int .u8 c] w fun e w'=>e = .returned .nilIface∧∃ v',Wrote N w w' b v v' (n + 1) (cs ++ [.int .u8 c]):=by
 go_enter Tryz.func43,Tryz.ntmps43
 go_wp2_with (go_at_call 86;refine (zb0u h).mono ?_)
 rintro e w1 ⟨rfl,hbk,hown,hsz,ht⟩
 have hlt:b < w1.heap.size:=Nat.lt_of_lt_of_le h.lt ht.size
 have hbg:N≤w1.heap.size:=Nat.le_trans h.big ht.size
 have c1:w1.cell? ⟨b,1,none⟩=some v:=by rw[Lib.cell_of_heap hbk];rfl
 go_wp2_with (at_builtin;refine zb50 rfl _ _ rfl _ _ _ rfl (hown.alloc _) ⟨w1.heap.size,0,none⟩ (.int .u8 c) rfl rfl ?_ hb ?_ ?_)
 ·rw[Lib.cell_of_heap (heap_alloc_new w1 _)];rfl
 ·simp;omega
 intro v' w2 hown' hgrow hnew
 have hgrow1:w1.grownBy w2 v.ownBlock:=⟨hgrow.os,hgrow.tape,hgrow.output,by have:=hgrow.size;simp at this;omega,fun k hk hk2=>by
  rw[hgrow.block k (by simp;omega) hk2,Lib.alloc_old w1 _ k hk]⟩
 have hnew1:∀ g,v'.ownBlock=some g→v.ownBlock=some g∨w1.heap.size≤g:=fun g hg=>by
  rcases hnew g hg with q | q
  ·exact .inl q
  ·first | exact .inr (by omega) | (simp at q;exact .inr (by omega))
 have hb2:w2.heap[b]? = some (.cells #[.pointer (some ⟨b,0,none⟩),v] 74 (0,0)):=by
  rw[hgrow1.block b hlt (fun e=>h.ne e.symm)];exact hbk
 have d1:w2.cell? ⟨b,1,none⟩=some v:=by rw[Lib.cell_of_heap hb2];rfl
 have f1:w2.frozen? ⟨b,1,none⟩=false:=Lib.frozen_of_heap hb2 1
 have hw:=zbsm h hsz ht hb2 hown' hgrow1 hnew1
 obtain⟨ao,n',cap,rfl⟩:∃ ao n' cap,v' = .slice ao n' cap:=by
  rcases hown'.2 with⟨hv,_⟩ | ⟨g,cap,cur,hv,_⟩
  ·exact⟨_,_,_,hv⟩
  ·exact⟨_,_,_,hv⟩
 go_wp2
 go_ret
 exact⟨rfl,_,hw⟩
theorem zb3k {N:Nat} {w:World} {b:Nat} {v:Value} {n:Nat} {cs:List Value} (h:Bb N w b v n cs) :
  Calls Tryz.prog 24 #[.pointer (some ⟨b,0,none⟩)] w fun e w'=>e = .returned (.int .i64 n)∧w'=w:=by
 have hsl:∃ ao cap,v = .slice ao n cap:=by
  rcases h.own.2 with⟨hv,h0⟩ | ⟨g,cap,cur,hv,_⟩
  ·exact⟨none,0,by rw[hv,h0]⟩
  ·exact⟨_,_,hv⟩
 have c1:w.cell? ⟨b,1,none⟩=some v:=by
  rcases h.blk with q | q <;> (rw[Lib.cell_of_heap q];rfl)
 obtain⟨ao,cap,rfl⟩:=hsl
 go_enter Tryz.func24,Tryz.ntmps24
 go_wp2
 go_ret
 exact⟨rfl,rfl⟩
theorem zb3l {N:Nat} {w:World} {b g cap:Nat} {l:List UInt8} (h:Bb N w b (.slice (some ⟨g,0,none⟩) l.length cap) l.length (Lib.byteCells l)) (h0:l≠[]) (h9:l.length≤100000000000000) :
  Calls Tryz.prog 25 #[.pointer (some ⟨b,0,none⟩)] w fun e w'=>e = .returned (.string ⟨l.toArray⟩)∧w'.os=w.os∧w'.tape=w.tape∧w'.output=w.output∧w'.heap.size=w.heap.size∧∀ k,k≠g→w'.heap[k]? = w.heap[k]? := by
 obtain⟨cur,hg,hnc,hcs,hcl⟩:=zb3h h.own
 have hl0:l.length≠0:=by simpa using h0
 have c1:w.drew.cell? ⟨b,1,none⟩=some (.slice (some ⟨g,0,none⟩) l.length cap):=by
  rcases h.blk with q | q
  ·have:w.drew.heap[b]? = _:=q
   rw[Lib.cell_of_heap this];rfl
  ·have:w.drew.heap[b]? = _:=q
   rw[Lib.cell_of_heap this];rfl
 have t127:Tryz.prog.underlying 135=some (.pointer 5):=by kernel_rfl
 have hSD:(Builtin.unsafeSliceData_ #[70] 135 #[.slice (some ⟨g,0,none⟩) l.length cap]).run Tryz.prog w.drew = .ok (.pointer (some ⟨g,0,none⟩)) w.drew :=
  Lib.run_unsafeSliceData_row _ _ _ _ _ _ (by omega)
 have hUS:(Builtin.unsafeString_ #[135,3] 9 #[.pointer (some ⟨g,0,none⟩),.int .i64 l.length]).run Tryz.prog w.drew = .ok (.string ⟨l.toArray⟩) (w.drew.freeze ⟨g,0,none⟩ l.length):=by
  refine Lib.run_unsafeString_row w.drew 135 3 9 5 t127 (by kernel_rfl) g cur.size (by have hg':w.drew.heap[g]? = some (.cells cur 5 (0,0)):=hg;simp[World.shape?,hg']) l h0 (by omega) (by omega) ?_
  intro j x hx
  have:=h.own.cells (g:=g) rfl j (.int .u8 x.toNat) (by simp[Lib.byteCells,hx])
  exact this
 have hz:∀ k,k≠g→(w.drew.freeze ⟨g,0,none⟩ l.length).heap[k]? = w.heap[k]? := fun k hk=>by
  simp only[World.freeze]
  rw[if_neg hl0]
  show (w.heap.modify g _)[k]? = _
  rw[Array.getElem?_modify,if_neg (fun e=>hk e.symm)]
 go_enter Tryz.func25,Tryz.ntmps25
 go_wp2
 go_region
 all_goals (go_wp2;go_ret;exact⟨rfl,by simp only[World.freeze];rw[if_neg hl0];rfl,by simp only[World.freeze];rw[if_neg hl0];rfl,by simp only[World.freeze];rw[if_neg hl0];rfl,by simp only[World.freeze];rw[if_neg hl0];show (w.heap.modify g _).size=_;simp,hz⟩)
end Go.AM.Cap
