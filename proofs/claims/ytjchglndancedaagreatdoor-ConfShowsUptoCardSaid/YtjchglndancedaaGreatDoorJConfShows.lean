import Derived.Test.YtjchglndancedaaGreatDoorJConfS
import Derived.Test.YtjchglndancedaaGreatDoorCgSf
import Derived.Test.YtjchglndancedaaGreatDoorCards
import Derived.Test.YtjchglndancedaaGreatDoorTie
import Derived.WalkKit
import Derived.ProofKit
import Derived.Deep.DeepHandedRow
set_option linter.all false
/- ConfShows: at whatever arguments, together of at most 1048576 values and letters, the law answers true; the arguments read as they did. -/
namespace Go.Proofs.YtjchglndancedaaGreatDoor.confShows
open Go.ChangeShapes Go.WideShapes Go.ChangeAt Go.RowKit Go.AM
set_option maxRecDepth 100000 in
theorem contract (H:Type) (enc:TypeId × Value→H) (W:World) (base:Nat) (args:Array Value) (ds gs:List (DataW H)) (before:List MemPlace)
  (hval:∀ (j:Nat) t v,Tryz.f5.params[j]? = some t→args[j]? = some v→Value.okWide Tryz.prog W .any base t v)
  (hW:DataW.Whole enc Tryz.prog Tryz.f5.params.toList Rows.confShowsSpec.vars false W args.toList ds gs before) (hL:laidMetH Tryz.prog Rows.confShowsRow.laid W)
  (hk:Rows.uptoSmall H (ds ++ gs)=true) (hshape:W.ShapedOpen Tryz.prog) :
  Calls Tryz.prog 5 args W fun e W'=>∃ v,e = .returned v∧Rows.confShowsSpec.post enc Tryz.prog Tryz.f5 false true false false W args v W':=by
 have hW':=hW
 obtain⟨p,q,hA0,hV,rfl,hfz,hnd⟩:=hW
 have hA:DataW.TrodAll enc Tryz.prog W 0 (fun _=>true) true Tryz.f5.params.toList args.toList ds p:=hA0
 rw[Tryz.params5] at hA hval
 obtain⟨v0,vs0,d0,ds0,p0,q0,hargs,rfl,rfl,h0,r0⟩:=trodAll_cons hA
 obtain⟨rfl,rfl,rfl⟩:=trodAll_nil r0
 obtain rfl:args=#[v0]:=by cases args;simp_all
 obtain⟨rfl,rfl⟩:=trodVars_none hV
 have hG:=Cap.blocks_of hshape (n:=9) (by kernel_rfl) (by kernel_rfl)
 have hN:0 < W.heap.size:=Nat.lt_of_lt_of_le (show 0 < Tryz.prog.globals.size by rw[show Tryz.prog.globals.size=10 by kernel_rfl];decide) hG
 have hbu0:Rows.uptoBulk d0≤1048576:=by
  have hk3:Rows.uptoBulkAll _≤1048576:=of_decide_eq_true hk
  exact Nat.le_trans (Cap.bulk_mem (by simp)) hk3
 obtain⟨x0,w0,us0,e0,hab0,hsy0,hus0,hpe0⟩:=Cap.open_setup Cap.seT hN (hval 0 33 v0 rfl rfl) hbu0 h0
 have hk2:Rows.uptoBulkAll _≤1048576:=of_decide_eq_true hk
 simp only[List.nil_append,List.cons_append,List.append_nil,Rows.uptoBulkAll,Rows.uptoBulk,Array.length_toList] at hk2
 have hT:=Cap.tabsL hL hshape
 have hP:=Cap.pow10 hL
 have key:=calls_of_wp' (b:=true) (Cap.K_law27_ConfShows Cap.known_split (G_strings_IndexRune:=Cap.noM) (Cap.known_no (by kernel_rfl)) Cap.known_atoi Cap.known_ixb Cap.known_wstr Cap.known_wbyte Cap.known_itoa Cap.known_blen Cap.known_bstr) hG (args:=#[v0]) ((by rw[List.map_cons,List.map_nil,hab0];exact Cap.confshows_ok hP hT hsy0 hus0 hpe0 _ fun H'=>rfl))
 refine Calls.mono key fun e W' ⟨he,hb⟩=>?_
 subst he
 refine⟨_,rfl,post_of_below (by kernel_rfl) (fun t ht=>?_) rfl hW' hb (fun _ _ _=>trodAll_cons_mk (shut_bool (show Tryz.prog.underlying 4=some .bool by kernel_rfl) _) trodAll_mk0) rfl rfl (ok_one (by kernel_rfl) rfl (okWide_bool_mk (show Tryz.prog.underlying 4=some .bool by kernel_rfl) _))⟩
 rw[Tryz.params5] at ht
 simp only[List.mem_cons,List.not_mem_nil,or_false] at ht
 rcases ht with rfl <;> exact⟨by kernel_rfl,by decide +kernel⟩
theorem laid_met (os:Os):laidMetH Tryz.prog Rows.confShowsRow.laid ((Cap.laidWorld os).forCall (fun _ _=>0) ⟨#[],#[Value.agg #[Value.slice none 0 0,Value.slice none 0 0,Value.slice none 0 0,Value.int .i64 0,Value.slice none 0 0,Value.slice none 0 0,Value.int .i64 0,Value.slice none 0 0,Value.int .i64 0]],[]⟩).memory :=
 laidMet_of_run' 8 (by kernel_rfl) (by kernel_rfl)
theorem reads (os:Os) {H:Type} (enc:TypeId × Value→H):∃ places,DataW.whole enc Tryz.prog ((Cap.laidWorld os).forCall (fun _ _=>0) ⟨#[],#[Value.agg #[Value.slice none 0 0,Value.slice none 0 0,Value.slice none 0 0,Value.int .i64 0,Value.slice none 0 0,Value.slice none 0 0,Value.int .i64 0,Value.slice none 0 0,Value.int .i64 0]],[]⟩).memory Tryz.f5.params.toList Rows.confShowsSpec.vars false (#[Value.agg #[Value.slice none 0 0,Value.slice none 0 0,Value.slice none 0 0,Value.int .i64 0,Value.slice none 0 0,Value.slice none 0 0,Value.int .i64 0,Value.slice none 0 0,Value.int .i64 0]]:Array Value).toList 8=some ([.agg [.agg [.nil,.nil,.nil,.agg [.lit (.int .i64 0),.nil],.nil,.lit (.int .i64 0)],.nil,.lit (.int .i64 0)]],[],places) :=
 ⟨[],by kernel_rfl⟩
set_option maxRecDepth 100000 in
theorem lifted (os:Os) (started:os.Started) (H:Type) (enc:TypeId × Value→H) (F:Stop.Interp) :
  ReturnsInHanded {} Tryz.checked os 5 .any ((Rows.OpenSpec.upto Rows.confShowsSpec).preRow enc Tryz.prog Tryz.f5 Rows.confShowsUptoRow.domain false Rows.confShowsUptoRow.laid) (((Rows.OpenSpec.upto Rows.confShowsSpec).at F).post enc Tryz.prog Tryz.f5 false true false false):=by
 obtain⟨places,hx⟩:=reads os enc
 refine returnsInHanded_of_row (C:=Tryz.checked) (s:=Rows.OpenSpec.upto Rows.confShowsSpec) (show ownKnob Tryz.prog.godebug=none by kernel_rfl) started (by kernel_rfl) Tryz.func5
  (witness_row_atRef (enc:=enc) (C:=Tryz.checked) false (Cap.laidWorld os) #[Value.agg #[Value.slice none 0 0,Value.slice none 0 0,Value.slice none 0 0,Value.int .i64 0,Value.slice none 0 0,Value.slice none 0 0,Value.int .i64 0,Value.slice none 0 0,Value.int .i64 0]] rfl (by kernel_rfl) (by kernel_rfl) (by kernel_rfl)
   (OpenSpec.preRow_of_cond 8 hx (by kernel_rfl) (fun k hk=>by cases hk;kernel_rfl) (by kernel_rfl) (laid_met os))) ?_
 intro W base args ds gs before hval hW _ hcond _ hL hshape _
 exact contract H enc W base args ds gs before hval hW hL (hcond _ rfl) hshape
theorem said:Rows.ConfShowsUptoSaid :=
 OpenClaim.holds_of_cond 5 Tryz.f5 rfl rfl rfl rfl rfl rfl rfl ⟨rfl,rfl,rfl,rfl,rfl⟩ rfl rfl rfl rfl rfl (by kernel_rfl) Tryz.func5 (by kernel_rfl)
  (of_decide_eq_true (by kernel_rfl)) (by unfold Func.isWrapper;first | (rw[if_pos (by decide +kernel)];kernel_rfl) | (rw[if_neg (by decide +kernel)];exact⟨rfl,rfl⟩))
  (fun os started H enc _ F=>by rw[OpenClaim.pre_eq_preRow];exact lifted os started H enc F)
theorem plain (f:FuncId) (fn:Func) (hf:Tryz.pinned.checked.prog.funcNamed "capstan/capstanlaw27.ConfShows" = some f) (hfn:Tryz.pinned.checked.prog.funcs[f]? = some fn) :
  true=Tryz.pinned.checked.prog.looks []∧∀ (j:Nat) t,fn.params[j]? = some t→Tryz.pinned.checked.prog.wantsStandIn t=false:=by
 obtain rfl:f=5:=Option.some.inj ((show Tryz.prog.funcNamed "capstan/capstanlaw27.ConfShows" = some 5 by kernel_rfl).symm.trans hf) |>.symm
 obtain rfl:fn=Tryz.f5:=(Option.some.inj (Tryz.func5.symm.trans hfn)).symm
 refine⟨by kernel_rfl,fun j t ht=>?_⟩
 rw[Tryz.params5] at ht
 have hm:=Array.mem_of_getElem? ht
 simp only[List.mem_toArray,List.mem_cons,List.not_mem_nil,or_false] at hm
 rcases hm with rfl
 ·exact (show Tryz.prog.wantsStandIn 33=false by kernel_rfl)
theorem card:Rows.ConfShowsUptoCardSaid :=
 Claim7.holds_tied_plain_at .later [] _ _ _ _ said (fun _ h=>by cases h) (by kernel_rfl) (fun _ h=>by cases h) confShowsUpto_row_tie rfl ⟨rfl,rfl⟩ (by kernel_rfl) rfl plain (by kernel_rfl)
end Go.Proofs.YtjchglndancedaaGreatDoor.confShows
