import Derived.Test.YtjchglndancedaaGreatDoorAmSem
import Derived.Laws.Sem
import Derived.Laws.World
import Derived.Laws.Cells
import Derived.Laws.Slices
import Derived.Laws.AppendOwn
import Derived.Laws.StructEq
import Derived.Tactics
import Derived.WalkKit
import Derived.Laws.BytesString
set_option linter.all false
/- Operations that read and write no memory: what the abstract machine says is what the model does. -/
namespace Go.AM
open Go.RowKit (Below)
variable {P:Program} {ρ:Ren}
theorem VRel.int_inv {k n v} (h:VRel ρ (.int k n) v):v = .int k n:=by cases h;rfl
theorem VRel.bool_inv {b v} (h:VRel ρ (.bool b) v):v = .bool b:=by cases h;rfl
theorem VRel.string_inv {s v} (h:VRel ρ (.string s) v):v = .string s:=by cases h;rfl
theorem VRel.agg_inv {x v} (h:VRel ρ (.agg x) v):∃ x',v = .agg x'∧LRel ρ x.toList x'.toList:=by cases h;exact⟨_,rfl,arel (by assumption) (by assumption)⟩
theorem VRel.ptr_inv {b o v} (h:VRel ρ (AM.ptr b o) v):∃ L,ρ b=some L∧v = .pointer (some ⟨L.blk,L.off + o,none⟩):=by cases h;exact⟨_,by assumption,rfl⟩
theorem VRel.slc_inv {b o u len cap v} (h:VRel ρ (AM.slc b o u len cap) v):∃ L co ccap ca,ρ b=some L∧v = .slice (some ca) len ccap∧(co=L.off + o∨cap=0)∧len≤cap∧cap≤ccap∧(u=0∨co + ccap * u≤L.size)∧(ca=⟨L.blk,co,none⟩∨ccap=0)∧(u=0∨ccap≤9223372036854775807):=by
 cases h;exact⟨_,_,_,_,by assumption,rfl,by assumption,by assumption,by assumption,by assumption,by assumption,by assumption⟩
theorem VRel.snil_inv {n c v} (h:VRel ρ (.slice none n c) v):n=0∧c=0∧v = .slice none 0 0:=by cases h;exact⟨rfl,rfl,rfl⟩
theorem zbs3 {c a b c' a' b' r:V} (hc:VRel ρ c c') (ha:VRel ρ a a') (hb:VRel ρ b b') (h:z8 c a b=some r) :
  ∃ t,c' = .bool t∧VRel ρ r (if t then a' else b'):=by
 unfold z8 at h
 split at h
 ·exact⟨true,hc.bool_inv,by cases h;simpa using ha⟩
 ·exact⟨false,hc.bool_inv,by cases h;simpa using hb⟩
 ·cases h
theorem zs9 (a b:ByteArray):(a.toList == b.toList)=decide (a=b):=by
 rw[Bool.eq_iff_iff];simp only[beq_iff_eq,decide_eq_true_eq,ByteArray.toList_eq]
 constructor
 ·intro h
  obtain⟨⟨x⟩⟩:=a;obtain⟨⟨y⟩⟩:=b;simp at h;simp[h]
 ·rintro rfl;rfl
theorem zb4u:(IntKind.i64.max:Int)=9223372036854775807:=rfl
theorem zbej {op:BinOp} {a b r:V} (t:TypeId) (h:zu op a b=some r) (w:World):(binOp op t a b).run P w = .ok r w:=by
 unfold zu at h
 split at h
 ·rename_i k x k' y
  split at h
  ·unfold zbab at h
   split at h
   ·cases h
   ·cases h;simp[binOp,Op.shift, *]
  ·unfold zbab at h
   split at h
   ·cases h
   ·cases h;simp[binOp,Op.shift, *]
  ·rename_i h1 h2
   split at h
   ·rename_i hk;subst hk
    unfold z07 at h
    cases op <;> simp_all [binOp,Op.intArith,Op.intDiv,Op.intBits,Op.intCmp,zbbw]
   ·cases h
 ·rename_i x y
  unfold sbin at h
  cases op <;> simp_all [binOp,Op.stringOp,zs9]
  have:=zb4u
  omega
 ·cases h
theorem zbhj {op:BinOp} {a b r a' b':V} (h:zu op a b=some r) (ha:VRel ρ a a') (hb:VRel ρ b b'):a'=a∧b'=b:=by
 unfold zu at h
 split at h
 ·exact⟨ha.int_inv,hb.int_inv⟩
 ·exact⟨ha.string_inv,hb.string_inv⟩
 ·cases h
theorem zbng {op:BinOp} {a b r:V} (h:zu op a b=some r):VRel ρ r r:=by
 unfold zu at h
 split at h
 ·split at h
  ·unfold zbab at h;split at h <;> first | (cases h;constructor) | cases h
  ·unfold zbab at h;split at h <;> first | (cases h;constructor) | cases h
  ·split at h
   ·unfold z07 at h
    split at h <;> first | (cases h;constructor) | skip
    ·split at h <;> first | (cases h;constructor) | cases h
    ·split at h <;> first | (cases h;constructor) | cases h
    ·unfold zbbw at h;dsimp only at h;split at h <;> first | (cases h;constructor) | cases h
   ·cases h
 ·unfold sbin at h
  split at h <;> first | (cases h;constructor) | skip
  ·split at h <;> first | (cases h;constructor) | cases h
  ·cases h
 ·cases h
theorem zbpn {op:UnOp} {a a' r:V} (h:un op a=some r) (ha:VRel ρ a a') (w:World):(Op.unary op a').run P w = .ok r w∧VRel ρ r r:=by
 unfold un at h
 split at h
 ·cases h;rw[ha.int_inv];exact⟨by simp[Op.unary,Op.intArith],.int _ _⟩
 ·unfold zbbw at h;cases h;rw[ha.int_inv];exact⟨by simp[Op.unary,Op.intBits],.int _ _⟩
 ·cases h;rw[ha.bool_inv];exact⟨by simp[Op.unary],.bool _⟩
 ·cases h
theorem zbwd {k:IntKind} {a a' r:V} (h:cvi k a=some r) (ha:VRel ρ a a'):∃ j n,a' = .int j n∧r = .int k (k.wrap n):=by
 unfold cvi at h
 split at h
 ·cases h;exact⟨_,_,ha.int_inv,rfl⟩
 ·cases h
theorem zz7 {k:FK} {a b a' b':V} {r:Bool} (h:eqK k a b=some r) (ha:VRel ρ a a') (hb:VRel ρ b b'):a'=a∧b'=b:=by
 unfold eqK at h
 split at h
 ·exact⟨ha.bool_inv,hb.bool_inv⟩
 ·exact⟨ha.int_inv,hb.int_inv⟩
 ·exact⟨ha.string_inv,hb.string_inv⟩
 ·cases h
theorem zb33 {t:TypeId} (ht:fkT P t=some .b):P.underlying t=some .bool:=by
 unfold fkT at ht;split at ht <;> first | assumption | cases ht
theorem zb34 {t:TypeId} (ht:fkT P t=some .i):∃ k,P.underlying t=some (.int k):=by
 unfold fkT at ht;split at ht <;> first | exact⟨_,by assumption⟩ | cases ht
theorem zb35 {t:TypeId} (ht:fkT P t=some .s):P.underlying t=some .string:=by
 unfold fkT at ht;split at ht <;> first | assumption | cases ht
theorem zbnh {k:FK} {a b:V} {r:Bool} {t:TypeId} (ht:fkT P t=some k) (w:World) (d:Nat) (h:eqK k a b=some r):(Op.equalIn (d + 1) t a b).run P w = .ok r w:=by
 cases k
 ·cases a <;> cases b <;> simp only[eqK] at h <;> first | (cases h;done) | skip
  cases h;rw[run_equalIn_bool' w d t _ _ (zb33 ht)]
 ·cases a <;> cases b <;> simp only[eqK] at h <;> first | (cases h;done) | skip
  split at h
  ·rename_i hk;subst hk;cases h;obtain⟨k',hk'⟩:=zb34 ht;rw[run_equalIn_int w d t _ _ _ _ hk']
  ·cases h
 ·cases a <;> cases b <;> simp only[eqK] at h <;> first | (cases h;done) | skip
  cases h;rw[run_equalIn_string w d t _ _ (zb35 ht),zs9]
theorem zbek {k:FK} {t:TypeId} (ht:fkT P t=some k) (w:World):(isAgg t).run P w = .ok false w:=by
 unfold fkT at ht
 split at ht <;> first | (rename_i hu;simp[isAgg,run_underlying hu]) | cases ht
theorem zbpo (w:World) (d:Nat) (A B:Array V):∀ (fs:List Field) (n:Nat) (ks:List FK) (xs ys:List V) (r:Bool),zvx P n fs=some ks →
  LRel ρ xs (A.toList.drop n)→LRel ρ ys (B.toList.drop n)→zqk ks xs ys=some r→(Op.eqFields (d + 1) A B fs).run P w = .ok r w
 | [],n,ks,xs,ys,r,hf,hx,hy,h=>by
  simp only[zvx] at hf;cases hf
  cases xs <;> cases ys <;> simp only[zqk] at h <;> first | (cases h;done) | skip
  cases h;rfl
 | f :: fs,n,ks,xs,ys,r,hf,hx,hy,h=>by
  simp only[zvx] at hf
  split at hf
  ·rename_i k ks' hk hks
   split at hf
   ·rename_i hc
    cases hf
    simp only[Bool.and_eq_true,bne_iff_ne,ne_eq,beq_iff_eq] at hc
    obtain⟨hnm,hoff⟩:=hc
    cases xs <;> cases ys <;> simp only[zqk] at h <;> first | (cases h;done) | skip
    ·rename_i x xs1 y ys1
     generalize hA:A.toList.drop n=A1 at hx
     generalize hB:B.toList.drop n=B1 at hy
     cases hx with
     | cons hx1 hx2 =>
      cases hy with
      | cons hy1 hy2 =>
       rename_i a1 as1 b1 bs1
       have ha:A[n]? = some a1:=by have:=congrArg List.head? hA;simpa using this
       have hb:B[n]? = some b1:=by have:=congrArg List.head? hB;simpa using this
       have hA2:A.toList.drop (n + 1)=as1:=by have:=congrArg List.tail hA;simpa using this
       have hB2:B.toList.drop (n + 1)=bs1:=by have:=congrArg List.tail hB;simpa using this
       have hpa:(part f.type A f.offset).run P w = .ok a1 w:=by simp[part,zbek hk w,hoff,ha]
       have hpb:(part f.type B f.offset).run P w = .ok b1 w:=by simp[part,zbek hk w,hoff,hb]
       simp only[Op.eqFields,hnm,ne_eq,not_false_eq_true,if_true,Sem.run_bind,hpa,hpb,Result.andThen_ok]
       split at h
       ·rename_i he
        obtain⟨e1,e2⟩:=zz7 he hx1 hy1;subst e1;subst e2
        rw[zbnh hk w d he]
        simp only[Result.andThen_ok]
        exact zbpo w d A B fs (n + 1) ks' xs1 ys1 r hks (by rw[hA2];exact hx2) (by rw[hB2];exact hy2) h
       ·rename_i he
        cases h
        obtain⟨e1,e2⟩:=zz7 he hx1 hy1;subst e1;subst e2
        rw[zbnh hk w d he]
        simp
       ·cases h
   ·cases hf
  ·cases hf
theorem zbb1 {t:TypeId} {ks:List FK} (h:zbhf P t=some ks):∃ fs,P.underlying t=some (.struct fs)∧P.stoodInHeld t=false∧P.eqGuardType P.depth t=false∧zvx P 0 fs.toList=some ks:=by
 unfold zbhf at h
 split at h
 ·split at h
  ·rename_i hc;simp only[Bool.and_eq_true,Bool.not_eq_true'] at hc;exact⟨_,by assumption,hc.1,hc.2,h⟩
  ·cases h
 ·cases h
theorem zbel {t:TypeId} {ks:List FK} {a b a' b':V} {r:Bool} (ht:zbhf P t=some ks) (h:zpt ks a b=some r) (ha:VRel ρ a a') (hb:VRel ρ b b') (w:World) (d:Nat) :
  ∃ A B,a' = .agg A∧b' = .agg B∧(Op.equalIn (d + 2) t a' b').run P w = .ok r w:=by
 obtain⟨fs,hu,h1,h2,h3⟩:=zbb1 ht
 unfold zpt at h
 split at h
 ·obtain⟨A,rfl,hA⟩:=ha.agg_inv
  obtain⟨B,rfl,hB⟩:=hb.agg_inv
  refine⟨A,B,rfl,rfl,?_⟩
  have hfs:P.fieldsOf t=fs:=by simp[Program.fieldsOf,hu]
  rw[run_equalIn_struct w (d + 1) t A B (by rw[hfs];exact hu) h1,hfs]
  exact zbpo w d A B fs.toList 0 ks _ _ r h3 (by simpa using hA) (by simpa using hB) h
 ·cases h
theorem zbpp {nk:NK} {a a':V} {r:Bool} (h:zef nk a=some r) (ha:VRel ρ a a'):zef nk a'=some r:=by
 cases nk <;> cases a <;> simp only[zef] at h <;> first | (cases h;done) | (cases ha <;> simp_all [zef])
theorem zb4v {t:TypeId} {nk:NK} (h:nkT P t=some nk):match nk with
  | .p=>∃ e,P.underlying t=some (.pointer e)
  | .s=>∃ e,P.underlying t=some (.slice e)
  | .m=>∃ k e,P.underlying t=some (.map k e)
  | .f=>∃ x y z,P.underlying t=some (.func x y z)
  | .i=>∃ m,P.underlying t=some (.interface m):=by
 unfold nkT at h
 split at h <;> cases h <;> first | exact⟨_,by assumption⟩ | exact⟨_,_,by assumption⟩ | exact⟨_,_,_,by assumption⟩
theorem zbwe {t:TypeId} {nk:NK} (ht:nkT P t=some nk) {a z:V} {r:Bool} (h:zef nk a=some r) (hz:zef nk z=some true) (w:World) (n:Nat) :
  (Op.equalIn (n + 1) t a z).run P w = .ok r w∧(Op.equalIn (n + 1) t z a).run P w = .ok r w:=by
 have hu:=zb4v ht
 cases nk <;> cases a <;> simp only[zef] at h <;> first | (cases h;done) | skip
 all_goals (cases z <;> simp only[zef] at hz <;> first | (cases hz;done) | skip)
 ·rename_i x y;obtain⟨e,hu⟩:=hu;cases h;cases y <;> simp at hz
  cases x <;> simp[Op.equalIn,run_underlying hu]
 ·rename_i x _ _ y _ _;obtain⟨e,hu⟩:=hu;cases h;cases y <;> simp at hz
  cases x <;> simp[Op.equalIn,run_underlying hu]
 ·rename_i x y;obtain⟨k,e,hu⟩:=hu;cases h;cases y <;> simp at hz
  cases x <;> simp[Op.equalIn,run_underlying hu]
 all_goals (cases h)
 ·obtain⟨_,_,_,hu⟩:=hu;simp[Op.equalIn,run_underlying hu]
 ·obtain⟨_,_,_,hu⟩:=hu;simp[Op.equalIn,run_underlying hu]
 ·obtain⟨_,hu⟩:=hu;simp[Op.equalIn,run_underlying hu]
 ·obtain⟨_,hu⟩:=hu;simp[Op.equalIn,run_underlying hu]
theorem zbb2 {neg:Bool} {o:Option Bool} {r:V} (h:zer neg o=some r):∃ b,o=some b∧r = .bool (if neg then !b else b):=by
 unfold zer at h;split at h
 ·cases h;exact⟨_,rfl,rfl⟩
 ·cases h
def eqOp (neg:Bool):BinOp:=if neg then .neq else .eql
theorem z7t {neg:Bool} {t:TypeId} {a b:V} {r:Bool} {w:World} (h:(Op.equalIn (9999 + 1) t a b).run P w = .ok r w)
  (hne:∀ k x k' y,¬ (a = .int k x∧b = .int k' y)) (hns:∀ x y,¬ (a = .string x∧b = .string y)) (hnf:∀ k x k' y,¬ (a = .float k x∧b = .float k' y))
  (hnc:∀ k x y k' x' y',¬ (a = .complex k x y∧b = .complex k' x' y')):(binOp (eqOp neg) t a b).run P w = .ok (.bool (if neg then !r else r)) w:=by
 have h':(Op.equal t a b).run P w = .ok r w:=h
 cases neg
 ·show (binOp .eql t a b).run P w=_
  unfold binOp
  split <;> first | exact absurd ⟨rfl,rfl⟩ (hne _ _ _ _) | exact absurd ⟨rfl,rfl⟩ (hns _ _) | exact absurd ⟨rfl,rfl⟩ (hnf _ _ _ _) | exact absurd ⟨rfl,rfl⟩ (hnc _ _ _ _ _ _) | simp_all
 ·show (binOp .neq t a b).run P w=_
  unfold binOp
  split <;> first | exact absurd ⟨rfl,rfl⟩ (hne _ _ _ _) | exact absurd ⟨rfl,rfl⟩ (hns _ _) | exact absurd ⟨rfl,rfl⟩ (hnf _ _ _ _) | exact absurd ⟨rfl,rfl⟩ (hnc _ _ _ _ _ _) | simp_all
theorem z1b {op:BinOp} {t:TypeId} {x y:Operand} {a b:V} {w:World} (h1:∀ xs ys,¬ (a = .agg xs∧b = .agg ys)) (h2:¬ (a = .nilIface∧b = .nilIface)) :
  (eqGuard op t x y a b).run P w = .ok () w:=by
 cases a <;> cases b <;> first
  | exact absurd ⟨rfl,rfl⟩ h2
  | exact absurd ⟨rfl,rfl⟩ (h1 _ _)
  | (cases op <;> rfl)
theorem zbyo {k:FK} {a b:V} {r:Bool} (h:eqK k a b=some r):(∃ x y,a = .bool x∧b = .bool y)∨(∃ k x k' y,a = .int k x∧b = .int k' y)∨(∃ x y,a = .string x∧b = .string y):=by
 cases k <;> cases a <;> cases b <;> simp only[eqK] at h <;> first | (cases h;done) | simp
theorem zbaf {nk:NK} {a:V} {r:Bool} (h:zef nk a=some r):(∃ x,a = .pointer x)∨(∃ x n c,a = .slice x n c)∨(∃ x,a = .map x)∨a = .nilFunc∨(∃ f x y,a = .func f x y)∨a = .nilIface∨(∃ t v,a = .iface t v):=by
 cases nk <;> cases a <;> simp only[zef] at h <;> first | (cases h;done) | simp
theorem zbb3 {neg:Bool} {t:TypeId} {x y:Operand} {e c:Operand→V} {r:V} (hr:∀ z,VRel ρ (e z) (c z)) (hcn:∀ v,c (.const v)=v)
  (h:eqM P neg t x y e=some r) (w:World):((do eqGuard (eqOp neg) t x y (c x) (c y);binOp (eqOp neg) t (c x) (c y)):Sem Value).run P w = .ok r w∧VRel ρ r r:=by
 unfold eqM at h
 split at h
 ·rename_i hu
  obtain⟨b,hb,rfl⟩:=zbb2 h
  obtain⟨e1,e2⟩:=zz7 hb (hr x) (hr y)
  rw[e1,e2]
  have hf:fkT P t=some .b:=by simp[fkT,hu]
  have:=zbnh hf w 9999 hb
  rcases zbyo hb with⟨p,q,h1,h2⟩ | ⟨_,p,_,q,h1,h2⟩ | ⟨p,q,h1,h2⟩ <;> rw[h1,h2] at hb this ⊢ <;> simp only[eqK] at hb <;> first | (cases hb;done) | skip
  refine⟨?_,.bool _⟩
  simp only[Sem.run_bind,z1b (a := .bool p) (b := .bool q) (by simp) (by simp),Result.andThen_ok]
  exact z7t this (by simp) (by simp) (by simp) (by simp)
 ·obtain⟨e1,e2⟩:=zbhj h (hr x) (hr y)
  rw[e1,e2]
  refine⟨?_,zbng h⟩
  have hk:(∃ k p k' q,e x = .int k p∧e y = .int k' q)∨(∃ p q,e x = .string p∧e y = .string q):=by
   unfold zu at h;split at h
   ·rename_i h1 h2;exact .inl ⟨_,_,_,_,h1,h2⟩
   ·rename_i h1 h2;exact .inr ⟨_,_,h1,h2⟩
   ·cases h
  have hg:(eqGuard (eqOp neg) t x y (e x) (e y)).run P w = .ok () w:=by
   rcases hk with⟨_,_,_,_,h1,h2⟩ | ⟨_,_,h1,h2⟩ <;> rw[h1,h2] <;> exact z1b (by simp) (by simp)
  simp only[Sem.run_bind,hg,Result.andThen_ok]
  exact zbej t h w
 ·obtain⟨e1,e2⟩:=zbhj h (hr x) (hr y)
  rw[e1,e2]
  refine⟨?_,zbng h⟩
  have hk:(∃ k p k' q,e x = .int k p∧e y = .int k' q)∨(∃ p q,e x = .string p∧e y = .string q):=by
   unfold zu at h;split at h
   ·rename_i h1 h2;exact .inl ⟨_,_,_,_,h1,h2⟩
   ·rename_i h1 h2;exact .inr ⟨_,_,h1,h2⟩
   ·cases h
  have hg:(eqGuard (eqOp neg) t x y (e x) (e y)).run P w = .ok () w:=by
   rcases hk with⟨_,_,_,_,h1,h2⟩ | ⟨_,_,h1,h2⟩ <;> rw[h1,h2] <;> exact z1b (by simp) (by simp)
  simp only[Sem.run_bind,hg,Result.andThen_ok]
  exact zbej t h w
 ·split at h
  ·rename_i ks hks
   obtain⟨b,hb,rfl⟩:=zbb2 h
   obtain⟨A,B,hA,hB,hrun⟩:=zbel hks hb (hr x) (hr y) w 9998
   refine⟨?_,.bool _⟩
   obtain⟨fs,hu,h1,h2,h3⟩:=zbb1 hks
   rw[hA,hB] at hrun ⊢
   simp only[Sem.run_bind,run_eqGuard_agg w _ t x y A B h2,Result.andThen_ok]
   exact z7t hrun (by simp) (by simp) (by simp) (by simp)
  ·cases h
 ·split at h
  ·rename_i nk hnk
   have key:∀ (u v:Operand) (b:Bool),zvy nk v=true→zef nk (e u)=some b→zef nk (c u)=some b∧zef nk (c v)=some true∧(∃ z,v = .const z):=by
    intro u v b hv hb
    refine⟨zbpp hb (hr u),?_,?_⟩
    ·unfold zvy at hv;split at hv
     ·rw[hcn];split at hv
      ·assumption
      ·cases hv
     ·cases hv
    ·unfold zvy at hv;split at hv
     ·exact⟨_,rfl⟩
     ·cases hv
   have fin:∀ (b:Bool) (a z:V),zef nk a=some b→zef nk z=some true→(binOp (eqOp neg) t a z).run P w = .ok (.bool (if neg then !b else b)) w∧(binOp (eqOp neg) t z a).run P w = .ok (.bool (if neg then !b else b)) w:=by
    intro b a z ha hz
    have h2:=zbwe hnk ha hz w 9999
    have k1:=zbaf ha;have k2:=zbaf hz
    constructor
    ·refine z7t h2.1 ?_ ?_ ?_ ?_ <;> (intros;rintro⟨q1,q2⟩;subst q1;simp at k1)
    ·refine z7t h2.2 ?_ ?_ ?_ ?_ <;> (intros;rintro⟨q1,q2⟩;subst q2;simp at k1)
   have gfin:∀ (a b:V) (ra rb:Bool),zef nk a=some ra→zef nk b=some rb→(∃ z,x = .const z)∨(∃ z,y = .const z)→(eqGuard (eqOp neg) t x y a b).run P w = .ok () w:=by
    intro a b ra rb ha hb hc
    have k1:=zbaf ha
    by_cases h2:a = .nilIface∧b = .nilIface
    ·obtain⟨rfl,rfl⟩:=h2
     rcases hc with⟨z,rfl⟩ | ⟨z,rfl⟩ <;> cases neg <;> simp[eqGuard,eqOp]
    ·exact z1b (by intro xs ys ⟨q1,_⟩;subst q1;simp at k1) h2
   split at h
   ·rename_i hy
    obtain⟨b,hb,rfl⟩:=zbb2 h
    obtain⟨q1,q2,z,hz⟩:=key x y b hy hb
    refine⟨?_,.bool _⟩
    simp only[Sem.run_bind,gfin _ _ _ _ q1 q2 (.inr ⟨z,hz⟩),Result.andThen_ok]
    exact (fin b _ _ q1 q2).1
   ·split at h
    ·rename_i hx
     obtain⟨b,hb,rfl⟩:=zbb2 h
     obtain⟨q1,q2,z,hz⟩:=key y x b hx hb
     refine⟨?_,.bool _⟩
     simp only[Sem.run_bind,gfin _ _ _ _ q2 q1 (.inl ⟨z,hz⟩),Result.andThen_ok]
     exact (fin b _ _ q1 q2).2
    ·cases h
  ·cases h
end Go.AM

/- Operations that read and write no memory, together. -/
namespace Go.AM
open Go.RowKit (Below)
variable {P:Program} {ρ:Ren}
theorem zbhl {α:Type} [Inhabited α] (cs:List α) (o:Nat) (x:α) (l:List α) (h:o < cs.length) :
  (cs.set o x).take (o + 1) ++ (l ++ (cs.set o x).drop (o + 1 + l.length))=cs.take o ++ (x :: l ++ cs.drop (o + (x :: l).length)):=by
 have h1:(cs.set o x).take (o + 1)=cs.take o ++ [x]:=by
  rw[List.take_add_one,List.take_set_of_le (Nat.le_refl _)]
  simp[h]
 have h2:(cs.set o x).drop (o + 1 + l.length)=cs.drop (o + 1 + l.length):=List.drop_set_of_lt (by omega)
 rw[h1,h2]
 simp[Nat.add_assoc,Nat.add_comm 1]
theorem zbb4 (off:Nat):∀ (l:List V) (k:Nat) (cells:Array V),off + k + l.length≤cells.size →
  ((l.zipIdx k).foldl (fun cs (p:V × Nat)=>cs.setIfInBounds (off + p.2) p.1) cells).toList=splice cells.toList (off + k) l
 | [],k,cells,h=>by simp[splice]
 | x :: l,k,cells,h=>by
  have h':off + k + (l.length + 1)≤cells.size:=by simpa using h
  simp only[List.zipIdx_cons,List.foldl_cons]
  rw[zbb4 off l (k + 1) _ (by simp;omega)]
  unfold splice
  have:=zbhl cells.toList (off + k) x l (by simp;omega)
  rw[Array.toList_setIfInBounds,← Nat.add_assoc]
  exact this
theorem zbkk (off:Nat) (v:Array V) (cells:Array V) (h:off + v.size≤cells.size) :
  (v.zipIdx.foldl (fun cs (p:V × Nat)=>cs.setIfInBounds (off + p.2) p.1) cells).toList=splice cells.toList off v.toList:=by
 have:=zbb4 off v.toList 0 cells (by simpa using h)
 rw[← Array.foldl_toList,Array.toList_zipIdx]
 simpa using this
theorem LRel.splice {l l' m m':List V} (h:LRel ρ l l') (g:LRel ρ m m') (o:Nat):LRel ρ (splice l o m) (splice l' o m'):=by
 unfold AM.splice
 rw[g.length]
 exact (h.take o).append (g.append (h.drop _))
theorem zyx (l:List V) (o:Nat) (m:List V) (h:o + m.length≤l.length):(splice l o m).length=l.length:=by
 unfold splice;simp;omega
inductive PRel (ρ:Ren) (place:Nat→Option (Nat × Nat)):List (Nat × V)→List (Nat × Nat × V)→Prop where
 | nil:PRel ρ place [] []
 | cons {i:Nat} {v u:V} {off size:Nat} {ps:List (Nat × V)} {qs:List (Nat × Nat × V)}:place i=some (off,size)→VRel ρ u v→PRel ρ place ps qs →
   PRel ρ place ((i,v) :: ps) ((off,size,u) :: qs)
theorem zbag (place:Nat→Option (Nat × Nat)):∀ {ps:List (Nat × V)} {qs:List (Nat × Nat × V)},PRel ρ place ps qs→∀ (cs:List V) (C:Array V) (r:List V),
  LRel ρ cs C.toList→zbu cs qs=some r→∃ D,Instr.fill place C ps=some D∧LRel ρ r D.toList:=by
 intro ps qs hp
 induction hp with
 | nil=>intro cs C r hc h;simp only[zbu] at h;cases h;exact⟨C,rfl,hc⟩
 | @cons i v u off size ps qs hpl hv _ ih =>
  intro cs C r hc h
  simp only[zbu] at h
  split at h
  ·rename_i hcond
   simp only[Bool.and_eq_true,beq_iff_eq,decide_eq_true_eq] at hcond
   obtain⟨⟨h1,h2⟩,h3⟩:=hcond
   have hcells:=hv.cells h1
   have hl:=hcells.length
   have hC:=hc.length
   simp only[Array.length_toList] at hl hC
   simp only[Instr.fill,hpl]
   have hz:(decide (v.cells.size≠size) || decide (off + v.cells.size > C.size))=false:=by
    simp only[Bool.or_eq_false_iff,decide_eq_false_iff_not,ne_eq,Decidable.not_not]
    omega
   rw[if_neg (by rw[hz];simp)]
   refine ih (splice cs off u.cells.toList) _ r ?_ h
   rw[zbkk off v.cells C (by omega)]
   exact hc.splice hcells off
  ·cases h
theorem zbhm:∀ (fs:List Field) (pl:List (Nat × Nat)),zz6 P fs=some pl→∀ (w:World),
  (List.mapM (m:=Sem) (fun f:Field=>do pure (f.offset,← sizeOf f.type)) fs).run P w = .ok pl w
 | [],pl,h,w=>by simp only[zz6] at h;cases h;simp
 | f :: fs,pl,h,w=>by
  simp only[zz6] at h
  split at h
  ·rename_i n l hn hl
   cases h
   unfold zfu at hn
   split at hn
   ·rename_i i hi
    cases hn
    have ih:=zbhm fs l hl w
    simp only[List.mapM_cons,Sem.run_bind,sizeOf,typeInfo,run_program,Result.andThen_ok,hi,Sem.run_pure]
    have ih':(List.mapM (m:=Sem) (fun f:Field=>do let x ← typeInfo f.type;pure (f.offset,x.size)) fs).run P w = .ok l w:=by
     simpa[sizeOf] using ih
    simp only[sizeOf] at ih
    first
     | rw[ih];simp
     | (simp[typeInfo] at ih ⊢;rw[ih];simp)
   ·cases hn
  ·cases h
theorem zbl6 {x x':Option V} {d most n:Nat} (h:zd1 d most x=some n) (hx:(x=none∧x'=none)∨∃ v v',x=some v∧x'=some v'∧VRel ρ v v') :
  (x'=none∧n=d)∨∃ (k:IntKind) (i:Int),x'=some (.int k i)∧0≤i∧i≤most∧n=i.toNat:=by
 unfold zd1 at h
 rcases hx with⟨rfl,rfl⟩ | ⟨v,v',rfl,rfl,hv⟩
 ·cases h;exact .inl ⟨rfl,rfl⟩
 ·split at h
  ·rename_i q;cases q
  ·rename_i q;cases q
   split at h
   ·rename_i hi;cases h;exact .inr ⟨_,_,by rw[hv.int_inv],hi.1,hi.2,rfl⟩
   ·cases h
  ·cases h
theorem zta {k:IntKind} {i:Int} {y:Nat} (code:BoundsCode) (w:World) (h0:0≤i) (h1:i≤y):(Instr.sliceBound (.int k i) y code).run P w = .ok i.toNat w:=by
 simp[Instr.sliceBound,asIntOf,h0,h1]
theorem zv1 {isSlice:Bool} {lo hi lo' hi':Option V} {len cap ccap l h:Nat} (w:World) (hh:zd1 len cap hi=some h) (hl:zd1 0 h lo=some l) (hc:cap≤ccap)
  (hlo:(lo=none∧lo'=none)∨∃ v v',lo=some v∧lo'=some v'∧VRel ρ v v') (hhi:(hi=none∧hi'=none)∨∃ v v',hi=some v∧hi'=some v'∧VRel ρ v v') :
  (Instr.sliceBounds isSlice len ccap lo' hi' none).run P w = .ok (l,h,ccap) w:=by
 rcases zbl6 hh hhi with⟨rfl,rfl⟩ | ⟨k,i,rfl,a1,a2,rfl⟩ <;> rcases zbl6 hl hlo with⟨rfl,rfl⟩ | ⟨k',j,rfl,b1,b2,rfl⟩
 ·simp[Instr.sliceBounds]
 ·simp[Instr.sliceBounds,zta _ w b1 b2]
 ·simp[Instr.sliceBounds,zta _ w a1 (show i≤(ccap:Int) by omega)]
 ·simp[Instr.sliceBounds,zta _ w a1 (show i≤(ccap:Int) by omega),zta _ w b1 b2]
theorem zz8 {d most n:Nat} {x:Option V} (h:zd1 d most x=some n) (hd:d≤most):n≤most:=by
 unfold zd1 at h
 split at h
 ·cases h;exact hd
 ·split at h
  ·cases h;omega
  ·cases h
 ·cases h
theorem zbl7 {b o u l h m size cm:Nat} {L:Loc} {co:Nat} (hL:ρ b=some L) (ho:co=L.off + o∨m=0) (hu:u=size∨u=0) (hlh:l≤h) (hhm:h≤m) (hm:m≤cm)
  (hs:u=0∨co + cm * u≤L.size) (hmx:u=0∨cm≤9223372036854775807) :
  VRel ρ (zts b o u l h m size) (.slice (if cm=l then some ⟨L.blk,co,none⟩ else (some ⟨L.blk,co,none⟩:Option Addr).map (·.add (l * size))) (h - l) (cm - l)):=by
 have hadd:(⟨L.blk,co,none⟩:Addr).add (l * size)=⟨L.blk,co + l * size,none⟩:=by
  unfold Addr.add;split
  ·simp_all
  ·rfl
 have hmul:l≤cm→l * size + (cm - l) * size=cm * size:=fun h=>by rw[← Nat.add_mul];congr 1;omega
 unfold zts
 split
 ·rename_i e;subst e
  have:h - m=0:=by omega
  rw[this]
  split
  ·rename_i q
   refine .slc b o u 0 (m - m) L co _ _ hL (.inr (by omega)) (by omega) (by omega) ?_ (.inl rfl) (hmx.imp id fun q=>by omega)
   rcases hs with hs | hs
   ·exact .inl hs
   ·right;rw[q];simp;omega
  ·simp only[Option.map_some,hadd]
   refine .slc b o u 0 (m - m) L _ _ _ hL (.inr (by omega)) (by omega) (by omega) ?_ (.inl rfl) (hmx.imp id fun q=>by omega)
   rcases hs with hs | hs
   ·exact .inl hs
   ·rcases hu with hu | hu
    ·subst hu;right;have:=hmul hm;omega
    ·exact .inl hu
 ·rename_i e
  have hlt:l < m:=by omega
  rw[if_neg (by omega)]
  simp only[Option.map_some,hadd]
  refine .slc b _ u _ (m - l) L _ _ _ hL (.inl (by rcases ho with ho | ho <;> omega)) (by omega) (by omega) ?_ (.inl rfl) (hmx.imp id fun q=>by omega)
  rcases hs with hs | hs
  ·exact .inl hs
  ·rcases hu with hu | hu
   ·subst hu;right;have:=hmul (by omega);omega
   ·exact .inl hu
theorem zx8 {e c:Operand→V} (hr:∀ z,VRel ρ (e z) (c z)) (x:Option Operand) :
  (optO e x=none∧x.map c=none)∨∃ v v',optO e x=some v∧x.map c=some v'∧VRel ρ v v':=by
 cases x with
 | none=>exact .inl ⟨rfl,rfl⟩
 | some x=>exact .inr ⟨_,_,rfl,rfl,hr x⟩
theorem zbhn {a a' r:V} {lo hi lo' hi':Option V} {t:TypeId} (ht:P.underlying t=some .string) (ha:VRel ρ a a')
  (hlo:(lo=none∧lo'=none)∨∃ v v',lo=some v∧lo'=some v'∧VRel ρ v v') (hhi:(hi=none∧hi'=none)∨∃ v v',hi=some v∧hi'=some v'∧VRel ρ v v')
  (h:subS a lo hi=some r) (w:World):(Instr.sliceAt t a' lo' hi' none).run P w = .ok r w∧VRel ρ r r:=by
 unfold subS at h
 split at h
 ·split at h
  ·rename_i hh
   split at h
   ·rename_i hl
    cases h
    rw[ha.string_inv]
    refine⟨?_,.string _⟩
    simp[Instr.sliceAt,Instr.slice,run_underlying ht,zv1 (P:=P) (isSlice:=false) w hh hl (Nat.le_refl _) hlo hhi]
   ·cases h
  ·cases h
 ·cases h
theorem zbs4 {a a' r:V} {lo hi lo' hi':Option V} {t el:TypeId} {size:Nat} (ht:P.underlying t=some (.slice el)) (hsz:zfu P el=some size) (ha:VRel ρ a a')
  (hlo:(lo=none∧lo'=none)∨∃ v v',lo=some v∧lo'=some v'∧VRel ρ v v') (hhi:(hi=none∧hi'=none)∨∃ v v',hi=some v∧hi'=some v'∧VRel ρ v v')
  (h:zh6 size a lo hi=some r):∃ r',VRel ρ r r'∧∀ w,(Instr.sliceAt t a' lo' hi' none).run P w = .ok r' w:=by
 have hs:∀ w,(sizeOf el).run P w = .ok size w:=by
  intro w;unfold zfu at hsz;split at hsz
  ·rename_i i hi;cases hsz;simp[sizeOf,typeInfo,hi]
  ·cases hsz
 unfold zh6 at h
 split at h
 ·rename_i x len cap
  split at h
  ·rename_i hb hh
   split at h
   ·rename_i l hl
    split at h
    ·cases h
     cases ha
     have hhb:hb≤0:=zz8 hh (Nat.le_refl _)
     have hlb:l≤hb:=zz8 hl (Nat.zero_le _)
     have e1:hb - l=0:=by omega
     have e2:0 - l=0:=by omega
     refine⟨.slice none 0 0,by rw[e1,e2];exact .snil,fun w=>?_⟩
     simp[Instr.sliceAt,Instr.slice,run_underlying ht,zv1 (P:=P) (isSlice:=true) w hh hl (Nat.le_refl _) hlo hhi,hs,e1]
    ·split at h
     ·rename_i hu
      cases h
      obtain⟨L,co,ccap,ca,hL,rfl,ho,hlen,hcap,hs2,hca,hmx⟩:=ha.slc_inv
      have hhb:hb≤cap:=zz8 hh hlen
      have hlb:l≤hb:=zz8 hl (Nat.zero_le _)
      rcases hca with rfl | h0
      rotate_left
      ·subst h0
       obtain rfl:cap=0:=by omega
       obtain rfl:hb=0:=by omega
       obtain rfl:l=0:=by omega
       refine⟨.slice (some ca) 0 0,?_,fun w=>?_⟩
       ·unfold zts;rw[if_pos rfl]
        exact .slc _ _ _ 0 0 L co 0 ca hL (.inr rfl) (Nat.le_refl _) (Nat.le_refl _) (hs2.imp id fun q=>by omega) (.inr rfl) (.inr (by omega))
       ·simp[Instr.sliceAt,Instr.slice,run_underlying ht,zv1 (P:=P) (isSlice:=true) w hh hl hcap hlo hhi,hs]
      refine⟨_,zbl7 hL ho hu hlb hhb hcap hs2 hmx,fun w=>?_⟩
      simp[Instr.sliceAt,Instr.slice,run_underlying ht,zv1 (P:=P) (isSlice:=true) w hh hl hcap hlo hhi,hs]
     ·cases h
    ·cases h
   ·cases h
  ·cases h
 ·cases h
theorem zbs5 {a a' r:V} {lo hi lo' hi':Option V} {t el:TypeId} {n size:Nat} (ht:P.underlying t=some (.array n el)) (hsz:zfu P el=some size) (ha:VRel ρ a a')
  (hlo:(lo=none∧lo'=none)∨∃ v v',lo=some v∧lo'=some v'∧VRel ρ v v') (hhi:(hi=none∧hi'=none)∨∃ v v',hi=some v∧hi'=some v'∧VRel ρ v v')
  (h:subA n size a lo hi=some r):∃ r',VRel ρ r r'∧∀ w,(Instr.sliceAt t a' lo' hi' none).run P w = .ok r' w:=by
 have hs:∀ w,(sizeOf el).run P w = .ok size w:=by
  intro w;unfold zfu at hsz;split at hsz
  ·rename_i i hi;cases hsz;simp[sizeOf,typeInfo,hi]
  ·cases hsz
 unfold subA at h
 split at h
 ·split at h
  ·rename_i hb hh
   split at h
   ·rename_i l hl
    cases h
    obtain⟨L,hL,rfl⟩:=ha.ptr_inv
    have hhb:hb≤n:=zz8 hh (Nat.le_refl _)
    have hlb:l≤hb:=zz8 hl (Nat.zero_le _)
    refine⟨_,zbl7 (size:=size) (cm:=n) hL (.inl rfl) (.inr rfl) hlb hhb (Nat.le_refl _) (.inl rfl) (.inl rfl),fun w=>?_⟩
    simp[Instr.sliceAt,Instr.sureAddr,run_underlying ht,zv1 (P:=P) (isSlice:=false) w hh hl (Nat.le_refl _) hlo hhi,hs]
    split <;> rfl
   ·cases h
  ·cases h
 ·cases h
end Go.AM

/- Operations that read and write no memory: the theorem. -/
namespace Go.AM
open Go.RowKit (Below)
variable {P:Program} {ρ:Ren}
theorem zdr {t:TypeId} {n:Nat} (h:zfu P t=some n) (w:World):(sizeOf t).run P w = .ok n w:=by
 unfold zfu at h;split at h
 ·rename_i i hi;cases h;simp[sizeOf,typeInfo,hi]
 ·cases h
theorem zi4 {t:TypeId} {z:V} (h:zf5 P t=some z) (w:World):(zeroValue t).run P w = .ok z w:=by
 unfold zf5 at h;split at h
 ·rename_i i hi;simp[zeroValue,typeInfo,hi,h]
 ·cases h
theorem zv2 {t:TypeId} {n:Nat} (h:zn7 P t=some n) (w:World):∃ i,(typeInfo t).run P w = .ok i w∧i.bytes=n:=by
 unfold zn7 at h;split at h
 ·rename_i i hi;cases h;exact⟨i,by simp[typeInfo,hi],rfl⟩
 ·cases h
theorem zbni {t:TypeId} (h:tk P t=some .one):(∀ w,(isAgg t).run P w = .ok false w)∧∀ w,(sizeOf t).run P w = .ok 1 w:=by
 unfold tk at h
 split at h
 ·cases h
 ·cases h
 ·rename_i d i hn hm hu hi
  split at h
  ·rename_i h1
   refine⟨fun w=>?_,fun w=>?_⟩
   ·simp only[isAgg,Sem.run_bind,run_underlying hu,Result.andThen_ok]
    cases d <;> first | rfl | exact absurd rfl (hn _) | exact absurd rfl (hm _ _)
   ·simp[sizeOf,typeInfo,hi,h1]
  ·cases h
 ·cases h
theorem zbem {t:TypeId} {n:Nat} (h:tk P t=some (.agg n)):(∀ w,(isAgg t).run P w = .ok true w)∧∀ w,(sizeOf t).run P w = .ok n w:=by
 unfold tk at h
 split at h
 ·rename_i fs i hu hi;cases h
  exact⟨fun w=>by simp[isAgg,run_underlying hu],fun w=>by simp[sizeOf,typeInfo,hi]⟩
 ·rename_i fs i hu hi;cases h
  exact⟨fun w=>by simp[isAgg,run_underlying hu],fun w=>by simp[sizeOf,typeInfo,hi]⟩
 ·split at h <;> cases h
 ·cases h
theorem z38 {α β:Type} (f:α→Sem β) (a:Array α) (l:List β) (w:World) (h:(a.toList.mapM f).run P w = .ok l w):(a.mapM f).run P w = .ok l.toArray w:=by
 rw[Array.mapM_eq_mapM_toList]
 simp[h]
theorem zbho {pl:List (Nat × Nat)} {e c:Operand→V} (hr:∀ z,VRel ρ (e z) (c z)):∀ (ps:List (Nat × Operand)) (qs:List (Nat × Nat × V)),zyw pl e ps=some qs →
  PRel ρ (pl.toArray[·]?) (ps.map fun p=>(p.1,c p.2)) qs
 | [],qs,h=>by simp only[zyw] at h;cases h;exact .nil
 | (i,x) :: ps,qs,h=>by
  simp only[zyw] at h
  split at h
  ·rename_i p l hp hl;cases h
   exact .cons (by simpa using hp) (hr x) (zbho hr ps l hl)
  ·cases h
theorem z39 {size:Nat} {e c:Operand→V} (hr:∀ z,VRel ρ (e z) (c z)):∀ (ps:List (Nat × Operand)),
  PRel ρ (fun i=>some (i * size,size)) (ps.map fun p=>(p.1,c p.2)) (zm6 size e ps)
 | [] => .nil
 | (_,x) :: ps => .cons rfl (hr x) (z39 hr ps)
theorem zpu {v:V} (h:zge v=true):VRel ρ v v:=by
 unfold zge at h;split at h <;> first | constructor | cases h
theorem zbah {z:V} (h:z.cells.toList.all zge=true):LRel ρ z.cells.toList z.cells.toList:=by
 generalize z.cells.toList=l at h
 induction l with
 | nil=>exact .nil
 | cons x xs ih=>simp only[List.all_cons,Bool.and_eq_true] at h;exact .cons (zpu h.1) (ih h.2)
theorem zbpq {t:TypeId} (ht:tk P t=some .one) {cs:Array V} {off:Nat} {v:V} (h:cs[off]? = some v) (w:World):(part t cs off).run P w = .ok v w:=by
 simp[part,(zbni ht).1 w,h]
theorem zbpr {t:TypeId} {n:Nat} (ht:tk P t=some (.agg n)) {cs:Array V} {off:Nat} (w:World):(part t cs off).run P w = .ok (.agg (cs.extract off (off + n))) w:=by
 simp[part,(zbem ht).1 w,(zbem ht).2 w]
theorem zbhp {off:Nat} {a a' r:V} (h:fld1 off a=some r) (ha:VRel ρ a a'):∃ A v,a' = .agg A∧A[off]? = some v∧VRel ρ r v:=by
 unfold fld1 at h;split at h
 ·obtain⟨A,rfl,hA⟩:=ha.agg_inv
  obtain⟨v,h1,h2⟩:=hA.get off r h
  exact⟨A,v,rfl,by simpa using h1,h2⟩
 ·cases h
theorem zbhq {off n:Nat} {a a' r:V} (h:fldn off n a=some r) (ha:VRel ρ a a'):∃ A,a' = .agg A∧VRel ρ r (.agg (A.extract off (off + n))):=by
 unfold fldn at h;split at h
 ·split at h
  ·obtain⟨A,rfl,hA⟩:=ha.agg_inv
   cases h
   refine⟨A,rfl,.agg' ?_⟩
   have:(A.extract off (off + n)).toList=(A.toList.drop off).take n:=by
    rw[Array.toList_extract];simp[List.extract]
   rw[this]
   simpa using (hA.drop off).take n
  ·cases h
 ·cases h
theorem zbps {e c:Operand→V} (hr:∀ z,VRel ρ (e z) (c z)) (ty:TypeId) {b:Builtin} {args:Array Operand} {ts:Array TypeId} {r:V}
  (h:zbl4 P e b args.toList ts.toList=some r):∃ r',VRel ρ r r'∧∀ w k,(builtin b ts ty k (args.map c)).run P w = .ok (.value r') w:=by
 obtain⟨args⟩:=args
 obtain⟨ts⟩:=ts
 simp only at h
 unfold zbl4 at h
 split at h
 ·rename_i x t
  have h1:=hr x
  split at h
  ·rename_i hu
   split at h
   ·rename_i s hx;rw[hx] at h1;cases h
    exact⟨_,.int _ _,fun w k=>by simp[builtin,Builtin.len_,run_underlying hu,h1.string_inv,goInt]⟩
   ·cases h
  ·rename_i el hu
   split at h
   ·rename_i a n cap hx;rw[hx] at h1;cases h
    refine⟨_,.int _ _,fun w k=>?_⟩
    have:∃ a' cap',c x = .slice a' n cap':=by
     generalize c x=q at h1
     cases h1 <;> exact⟨_,_,rfl⟩
    obtain⟨a',cap',hc⟩:=this
    simp[builtin,Builtin.len_,run_underlying hu,hc,goInt]
   ·cases h
  ·rename_i n el hu
   cases h
   exact⟨_,.int _ _,fun w k=>by simp[builtin,Builtin.len_,run_underlying hu,goInt]⟩
  ·cases h
 ·rename_i x t
  have h1:=hr x
  split at h
  ·rename_i el hu
   unfold capV at h
   split at h
   ·rename_i hx;rw[hx] at h1;cases h
    refine⟨_,.int _ _,fun w k=>?_⟩
    have hc:c x = .slice none 0 0:=by
     generalize c x=q at h1
     cases h1;rfl
    simp[builtin,Builtin.cap_,run_underlying hu,hc,goInt]
   ·cases h
  ·cases h
 ·rename_i x y
  unfold minV at h
  split at h
  ·rename_i k p k' q hx hy
   have h1:=hr x;rw[hx] at h1
   have h2:=hr y;rw[hy] at h2
   cases h
   exact⟨_,.int _ _,fun w kk=>by simp[builtin,Builtin.min_,Builtin.min2,h1.int_inv,h2.int_inv]⟩
  ·cases h
 ·rename_i x y
  unfold maxV at h
  split at h
  ·rename_i k p k' q hx hy
   have h1:=hr x;rw[hx] at h1
   have h2:=hr y;rw[hy] at h2
   cases h
   exact⟨_,.int _ _,fun w kk=>by simp[builtin,Builtin.max_,Builtin.max2,h1.int_inv,h2.int_inv]⟩
  ·cases h
 ·cases h
set_option maxHeartbeats 1000000 in
theorem zbkl {t:TypeId} {d:TypeDesc} {ok:Bool} {a a' r:V} (hni:∀ x,d = .interface x→False) (hu:P.underlying t=some d) (h:zx5 t (zf5 P t) ok a=some r) (ha:VRel ρ a a') (xt:TypeId) :
  ∃ r',VRel ρ r r'∧∀ w,(Instr.typeAssert a' xt t ok).run P w = .ok r' w:=by
 have hfail:∀ {z:V},zf5 P t=some z→zge z=true→VRel ρ (.tuple #[z,.bool false]) (.tuple #[z,.bool false]):=fun _ hf => .tuple' (.cons (zpu hf) (.cons (.bool _) .nil))
 unfold zx5 at h
 split at h
 ·rename_i t' v
  have hv:∃ v',a' = .iface t' v'∧VRel ρ v v':=by cases ha;exact⟨_,rfl,by assumption⟩
  obtain⟨v',rfl,hv⟩:=hv
  split at h
  ·rename_i ht
   subst ht
   cases h
   cases ok with
   | true =>
    refine⟨.tuple #[v',.bool true],.tuple' (.cons hv (.cons (.bool _) .nil)),fun w=>?_⟩
    cases d <;> first | exact absurd rfl (hni _) | simp[Instr.typeAssert,run_underlying hu]
   | false =>
    refine⟨v',hv,fun w=>?_⟩
    cases d <;> first | exact absurd rfl (hni _) | simp[Instr.typeAssert,run_underlying hu]
  ·rename_i ht
   split at h
   ·rename_i z hz
    split at h
    ·rename_i hf
     cases h
     refine⟨_,hfail hz hf,fun w=>?_⟩
     cases d <;> first | exact absurd rfl (hni _) | simp[Instr.typeAssert,run_underlying hu,ht,zi4 hz w]
    ·cases h
   ·cases h
 ·have hv:a' = .nilIface:=by cases ha;rfl
  subst hv
  split at h
  ·rename_i z hz
   split at h
   ·rename_i hf
    cases h
    refine⟨_,hfail hz hf,fun w=>?_⟩
    cases d <;> first | exact absurd rfl (hni _) | simp[Instr.typeAssert,run_underlying hu,zi4 hz w]
   ·cases h
  ·cases h
 ·cases h
theorem zbhr {e c:Operand→V} (hr:∀ z,VRel ρ (e z) (c z)) (hcn:∀ v,c (.const v)=v) (o:Oper) {r:V} (h:z2s P e o.op=some r) :
  ∃ r',VRel ρ r r'∧∀ w,(execOp c o).run P w = .ok (.value r') w:=by
 obtain⟨dst,op,ty,pos,after,guard⟩:=o
 simp only at h
 unfold z2s at h
 split at h
 ·cases h;exact⟨_,hr _,fun w=>by simp[execOp]⟩
 ·cases h;exact⟨_,hr _,fun w=>by simp[execOp]⟩
 ·obtain⟨t,ht,hv⟩:=zbs3 (hr _) (hr _) (hr _) h
  exact⟨_,hv,fun w=>by simp[execOp,ht,asBool]⟩
 ·-- build
  rename_i t parts
  split at h
  ·rename_i fs z hu hz
   split at h
   ·rename_i pl hpl
    split at h
    ·rename_i l hl
     unfold AM.build at h
     split at h
     ·rename_i hfa
      split at h
      ·rename_i cs hcs
       cases h
       obtain⟨D,hD,hrel⟩:=zbag _ (zbho hr parts.toList l hl) _ z.cells cs (zbah hfa) hcs
       refine⟨.agg D,.agg' (by simpa using hrel),fun w=>?_⟩
       have hm:=z38 (P:=P) (fun f:Field=>(do pure (f.offset,← sizeOf f.type):Sem (Nat × Nat))) fs pl w (zbhm fs.toList pl hpl w)
       simp only[execOp,Instr.build,Sem.run_bind,zi4 hz w,Result.andThen_ok,run_underlying hu,hm]
       have hD':Instr.fill (fun x=>pl.toArray[x]?) z.cells (parts.map fun p=>(p.1,c p.2)).toList=some D:=by simpa using hD
       simp only[hD']
       simp
      ·cases h
     ·cases h
    ·cases h
   ·cases h
  ·rename_i k el z hu hz
   split at h
   ·rename_i n hn
    unfold AM.build at h
    split at h
    ·rename_i hfa
     split at h
     ·rename_i cs hcs
      cases h
      obtain⟨D,hD,hrel⟩:=zbag _ (z39 (size:=n) hr parts.toList) _ z.cells cs (zbah hfa) hcs
      refine⟨.agg D,.agg' (by simpa using hrel),fun w=>?_⟩
      simp only[execOp,Instr.build,Sem.run_bind,zi4 hz w,Result.andThen_ok,run_underlying hu,zdr hn w]
      have hD':Instr.fill (fun i=>some (i * n,n)) z.cells (parts.map fun p=>(p.1,c p.2)).toList=some D:=by simpa using hD
      simp only[hD']
      simp
     ·cases h
    ·cases h
   ·cases h
  ·cases h
 ·-- nilCheck
  rename_i x
  have hx:=hr x
  unfold zb2 at h
  split at h
  ·rename_i a q
   cases h
   rw[q] at hx
   refine⟨c x,hx,fun w=>?_⟩
   simp only[execOp]
   generalize c x=y at hx
   cases hx;rfl
  ·rename_i f a b q
   cases h
   rw[q] at hx
   refine⟨c x,hx,fun w=>?_⟩
   simp only[execOp]
   generalize c x=y at hx
   cases hx;rfl
  ·cases h
 ·obtain⟨h1,h2⟩:=zbb3 (neg:=false) hr hcn h default
  exact⟨r,h2,fun w=>by
   have:=(zbb3 (neg:=false) hr hcn h w).1
   simp only[execOp]
   rw[Sem.run_bind]
   have e1:(eqOp false)=BinOp.eql:=rfl
   rw[e1] at this;rw[this];rfl⟩
 ·obtain⟨h1,h2⟩:=zbb3 (neg:=true) hr hcn h default
  exact⟨r,h2,fun w=>by
   have:=(zbb3 (neg:=true) hr hcn h w).1
   simp only[execOp]
   rw[Sem.run_bind]
   have e1:(eqOp true)=BinOp.neq:=rfl
   rw[e1] at this;rw[this];rfl⟩
 ·-- other binary operations
  rename_i op t x y yt hn1 hn2
  obtain⟨e1,e2⟩:=zbhj h (hr x) (hr y)
  refine⟨r,zbng h,fun w=>?_⟩
  have hg:(eqGuard op t x y (e x) (e y)).run P w = .ok () w:=by cases op <;> first | rfl | exact absurd rfl hn1 | exact absurd rfl hn2
  simp only[execOp,Sem.run_bind,e1,e2,hg,Result.andThen_ok,zbej t h w,Sem.run_pure]
 ·rename_i op t x
  refine⟨r,(zbpn (P:=P) h (hr x) (default:World)).2 , fun w=>by simp[execOp,(zbpn (P:=P) h (hr x) w).1]⟩
 ·-- conversions
  rename_i src dst x
  split at h
  ·rename_i k1 k2 hs hd
   obtain⟨j,n,hc,rfl⟩:=zbwd h (hr x)
   exact⟨_,.int _ _,fun w=>by simp[execOp,convert,run_underlying hs,run_underlying hd,hc,Conv.intToInt]⟩
  ·rename_i hs hd
   split at h
   ·rename_i s hq
    cases h
    have:=hr x;rw[hq] at this
    exact⟨_,.string s,fun w=>by simp[execOp,convert,run_underlying hs,run_underlying hd,this.string_inv]⟩
   ·cases h
  ·cases h
 ·-- interfaces
  rename_i t x
  split at h
  ·cases h
  ·rename_i d hni hu
   cases h
   refine⟨.iface t (c x),.iface t _ _ (hr x),fun w=>?_⟩
   simp only[execOp,Instr.makeInterface,Sem.run_bind,run_underlying hu,Result.andThen_ok]
   cases d <;> first | rfl | exact absurd rfl (hni _)
  ·cases h
 ·-- what an interface holds
  rename_i x xt t ok
  split at h
  ·cases h
  ·rename_i d hni hu
   obtain⟨r',h1,h2⟩:=zbkl (P:=P) (fun x hx=>hni x hx) hu h (hr x) xt
   exact⟨r',h1,fun w=>by simp[execOp,h2 w]⟩
  ·cases h
 ·-- functions
  rename_i fn first captured
  cases h
  exact⟨.func fn (first.map c) (captured.map c),.func _ _ _ _ _ (by simp) (by simp) (fun i h1 h2=>by simpa using hr _) (fun i h1 h2=>by simpa using hr _),
   fun w=>by simp[execOp,Instr.makeFunc]⟩
 ·-- slices
  rename_i t x lo hi
  split at h
  ·rename_i hu
   refine⟨r,(zbhn (P:=P) hu (hr x) (zx8 hr lo) (zx8 hr hi) h default).2,fun w=>?_⟩
   simp[execOp,(zbhn (P:=P) hu (hr x) (zx8 hr lo) (zx8 hr hi) h w).1]
  ·rename_i el hu
   split at h
   ·rename_i n hn
    obtain⟨r',h1,h2⟩:=zbs4 hu hn (hr x) (zx8 hr lo) (zx8 hr hi) h
    exact⟨r',h1,fun w=>by simp[execOp,h2 w]⟩
   ·cases h
  ·rename_i k el hu
   split at h
   ·rename_i n hn
    obtain⟨r',h1,h2⟩:=zbs5 hu hn (hr x) (zx8 hr lo) (zx8 hr hi) h
    exact⟨r',h1,fun w=>by simp[execOp,h2 w]⟩
   ·cases h
  ·cases h
 ·-- a field's address
  rename_i s x f
  split at h
  ·rename_i fs hu
   split at h
   ·rename_i fd hfd
    split at h
    ·rename_i n hn
     unfold zf at h
     split at h
     ·rename_i b o hq
      cases h
      have:=hr x;rw[hq] at this
      obtain⟨L,hL,hc⟩:=this.ptr_inv
      refine⟨_,.ptr b (o + fd.offset) L hL,fun w=>?_⟩
      simp only[execOp,Instr.fieldAt,Sem.run_bind,run_underlying hu,Result.andThen_ok,hfd,hc,Instr.sureAddr,Sem.run_pure,fieldPlace,zdr hn w]
      simp[Addr.add]
      split <;> simp_all
     ·cases h
    ·cases h
   ·cases h
  ·cases h
 ·-- a field
  rename_i t x f
  split at h
  ·rename_i fs hu
   split at h
   ·rename_i fd hfd
    split at h
    ·rename_i hk
     obtain⟨A,v,hA,hv,hrel⟩:=zbhp h (hr x)
     exact⟨v,hrel,fun w=>by simp[execOp,Instr.field,run_underlying hu,hfd,hA,asAgg,zbpq hk hv w]⟩
    ·rename_i n hk
     obtain⟨A,hA,hrel⟩:=zbhq h (hr x)
     exact⟨_,hrel,fun w=>by simp[execOp,Instr.field,run_underlying hu,hfd,hA,asAgg,zbpr hk w]⟩
    ·cases h
   ·cases h
  ·cases h
 ·-- an element's address
  rename_i t x i
  split at h
  ·rename_i el hu
   split at h
   ·rename_i n hn
    unfold zr at h
    split at h
    ·rename_i b o u len cap k q hx hi
     split at h
     ·rename_i hb
      cases h
      have h1:=hr x;rw[hx] at h1
      have h2:=hr i;rw[hi] at h2
      obtain⟨L,co,ccap,ca,hL,hc,ho,hlen,hcap,_,hca,_⟩:=h1.slc_inv
      have hco:co=L.off + o:=by rcases ho with ho | ho <;> omega
      obtain rfl:ca=⟨L.blk,co,none⟩:=hca.resolve_right (by omega)
      subst hco
      refine⟨_,.ptr b (o + q.toNat * n) L hL,fun w=>?_⟩
      simp only[execOp,Instr.indexAt,Sem.run_bind,run_underlying hu,Result.andThen_ok,hc,h2.int_inv,asIntOf,Sem.run_pure,zdr hn w]
      simp only[hb,and_self,if_true,Sem.run_bind,zdr hn w,Result.andThen_ok,Sem.run_pure]
      simp[Addr.add]
      split <;> simp_all [Nat.add_assoc]
     ·cases h
    ·cases h
   ·cases h
  ·rename_i k el hu
   split at h
   ·rename_i n hn
    unfold zn5 at h
    split at h
    ·rename_i b o kk q hx hi
     split at h
     ·rename_i hb
      cases h
      have h1:=hr x;rw[hx] at h1
      have h2:=hr i;rw[hi] at h2
      obtain⟨L,hL,hc⟩:=h1.ptr_inv
      refine⟨_,.ptr b (o + q.toNat * n) L hL,fun w=>?_⟩
      simp only[execOp,Instr.indexAt,Sem.run_bind,run_underlying hu,Result.andThen_ok,hc,h2.int_inv,asIntOf,Sem.run_pure,Instr.sureAddr]
      simp only[hb,and_self,if_true,Sem.run_bind,zdr hn w,Result.andThen_ok,Sem.run_pure]
      simp[Addr.add]
      split <;> simp_all [Nat.add_assoc]
     ·cases h
    ·cases h
   ·cases h
  ·cases h
 ·-- an element
  rename_i t x i
  split at h
  ·rename_i hu
   unfold zjm at h
   split at h
   ·rename_i s k q hx hi
    split at h
    ·rename_i h0
     split at h
     ·rename_i b hb
      cases h
      have h1:=hr x;rw[hx] at h1
      have h2:=hr i;rw[hi] at h2
      exact⟨_,.int _ _,fun w=>by simp[execOp,Instr.index,run_underlying hu,h1.string_inv,h2.int_inv,asIntOf,h0,hb]⟩
     ·cases h
    ·cases h
   ·cases h
  ·rename_i k el hu
   split at h
   ·rename_i hk
    unfold zb31 at h
    split at h
    ·rename_i cs kk q hx hi
     split at h
     ·rename_i hb
      have h2:=hr i;rw[hi] at h2
      obtain⟨A,v,hA,hv,hrel⟩:=zbhp (off:=q.toNat) (by unfold fld1;rw[hx];exact h) (hr x)
      refine⟨v,hrel,fun w=>?_⟩
      simp only[execOp,Instr.index,Sem.run_bind,run_underlying hu,Result.andThen_ok,h2.int_inv,asIntOf,Sem.run_pure,hA]
      simp only[hb,and_self,if_true,Sem.run_bind,(zbni hk).2 w,Result.andThen_ok,Nat.mul_one,zbpq hk hv w,Sem.run_pure]
     ·cases h
    ·cases h
   ·rename_i n hk
    unfold zb32 at h
    split at h
    ·rename_i kk q hi
     split at h
     ·rename_i hb
      have h2:=hr i;rw[hi] at h2
      obtain⟨A,hA,hrel⟩:=zbhq h (hr x)
      refine⟨_,hrel,fun w=>?_⟩
      simp only[execOp,Instr.index,Sem.run_bind,run_underlying hu,Result.andThen_ok,h2.int_inv,asIntOf,Sem.run_pure,hA]
      simp only[hb,and_self,if_true,Sem.run_bind,(zbem hk).2 w,Result.andThen_ok,zbpr hk w,Sem.run_pure]
     ·cases h
    ·cases h
   ·cases h
  ·cases h
 ·-- a part of a tuple
  rename_i t i
  unfold ext at h
  split at h
  ·rename_i vs hx
   have h1:=hr t;rw[hx] at h1
   have h2:∃ x',c t = .tuple x'∧LRel ρ vs.toList x'.toList:=by
    generalize c t=q at h1
    cases h1 with
    | undef v=>simp at h
    | tuple _ x' h2 h3=>exact⟨_,rfl,arel h2 h3⟩
   obtain⟨x',hc,hl⟩:=h2
   obtain⟨v,hv,hrel⟩:=hl.get i r h
   simp only[Array.getElem?_toList] at hv
   exact⟨v,hrel,fun w=>by simp[execOp,Instr.extract,hc,hv]⟩
  ·cases h
 ·-- builtins
  rename_i cl
  obtain⟨callee,args,argTypes⟩:=cl
  simp only at h
  split at h
  ·rename_i b
   obtain⟨r',h1,h2⟩:=zbps hr ty h
   refine⟨r',h1,fun w=>?_⟩
   simp only[execOp,resolve,Sem.run_bind,Sem.run_pure,Result.andThen_ok,invoke]
   exact h2 w _
  ·cases h
 ·cases h
end Go.AM

/- Operations that read memory, and the words for those that make and write it. -/
namespace Go.AM
open Go.RowKit (Below)
variable {P:Program} {N:Nat} {w₀:World} {ρ:Ren} {H:Heap} {w:World}
theorem zbg7 {b o:Nat} {C:Array V} {e:TypeId} {f:Nat × Nat} (h:w.heap[b]? = some (.cells C e f)):w.cell? ⟨b,o,none⟩=C[o]? := by
 simp[World.cell?,h]
theorem Rel.cells (h:Rel N w₀ ρ H w) {b:Nat} {rw_:Bool} {cs:List V} (hb:H.get b=some (.cells rw_ cs)) {L:Loc} (hL:ρ b=some L) :
  ∃ C e f,w.heap[L.blk]? = some (.cells C e f)∧C.size=L.size∧(rw_=true→N≤L.blk∧∀ i,i < C.size→¬ (f.1≤i∧i < f.2))∧L.off + cs.length≤C.size∧LRel ρ cs ((C.toList.drop L.off).take cs.length):=by
 obtain⟨K,hK,hr⟩:=h.blk b _ hb
 rw[hL] at hK;cases hK
 obtain⟨C,e,f,h1,h2,h3,h4⟩:=hr
 exact⟨C,e,f,h1,h2,h3.1,h4⟩
theorem Rel.whole (h:Rel N w₀ ρ H w) {b:Nat} {cs:List V} (hb:H.get b=some (.cells false cs)) {s:Nat} (hL:ρ b=some ⟨b,0,s⟩) :
  ∃ C e f,w.heap[b]? = some (.cells C e f)∧LRel ρ cs C.toList:=by
 obtain⟨K,hK,hr⟩:=h.blk b _ hb
 rw[hL] at hK;cases hK
 obtain⟨C,e,f,h1,h2,h3,h4,h5⟩:=hr
 have hz:=h3.2 rfl
 simp only[Nat.zero_add] at hz
 refine⟨C,e,f,h1,?_⟩
 have:(C.toList.drop 0).take cs.length=C.toList:=by rw[List.drop_zero,hz];exact List.take_length
 rwa[this] at h5
theorem Rel.cell (h:Rel N w₀ ρ H w) {b o:Nat} {v:V} (hc:H.cell b o=some v) {L:Loc} (hL:ρ b=some L):∃ v',w.cell? ⟨L.blk,L.off + o,none⟩=some v'∧VRel ρ v v':=by
 unfold Heap.cell at hc
 split at hc
 ·rename_i rw_ cs hb
  obtain⟨C,e,f,h1,h2,h3,h4,h5⟩:=h.cells hb hL
  obtain⟨v',hv',hr⟩:=h5.get o v hc
  have ho:o < cs.length:=by
   rcases Nat.lt_or_ge o cs.length with hl | hl
   ·exact hl
   ·rw[List.getElem?_eq_none hl] at hc;cases hc
  refine⟨v',?_,hr⟩
  rw[zbg7 h1]
  simpa[List.getElem?_take,ho,List.getElem?_drop] using hv'
 ·cases hc
theorem Rel.cellsAt (h:Rel N w₀ ρ H w) {b o n:Nat} {l:List V} (hc:AM.cellsAt H b o n=some l) {L:Loc} (hL:ρ b=some L) :
  l.length=n∧∃ l',LRel ρ l l'∧∀ j v,l'[j]? = some v→w.cell? ⟨L.blk,L.off + o + j,none⟩=some v:=by
 unfold AM.cellsAt at hc
 split at hc
 ·rename_i rw_ cs hb
  split at hc
  ·rename_i hle
   cases hc
   obtain⟨C,e,f,h1,h2,h3,h4,h5⟩:=h.cells hb hL
   refine⟨by simp;omega,_,(h5.drop o).take n,fun j v hj=>?_⟩
   rw[zbg7 h1]
   simp only[List.getElem?_take,List.getElem?_drop] at hj
   split at hj
   ·split at hj
    ·rw[show L.off + o + j=L.off + (o + j) by omega];simpa using hj
    ·cases hj
   ·cases hj
  ·cases hc
 ·cases hc
theorem zbs6 (b o n:Nat):(⟨b,o,none⟩:Addr).add n=⟨b,o + n,none⟩:=by
 unfold Addr.add;split
 ·simp_all
 ·rfl
theorem zi5 {b o:Nat} {l:List V} (h:∀ j v,l[j]? = some v→w.cell? ⟨b,o + j,none⟩=some v):(loadCells ⟨b,o,none⟩ l.length).run P w = .ok l.toArray w :=
 run_loadCells_list w ⟨b,o,none⟩ l fun j v hj=>by rw[zbs6];exact h j v hj
theorem zbs7 {v v':V} {b:UInt8} (h:zbg6 v=some b) (hv:VRel ρ v v'):∃ n:Int,v' = .int .u8 n∧b=UInt8.ofNat n.toNat:=by
 unfold zbg6 at h;split at h
 ·cases h;exact⟨_,hv.int_inv,rfl⟩
 ·cases h
theorem zbfy:∀ {l l':List V} {bs:List UInt8},zql l=some bs→LRel ρ l l'→∃ ns:List Int,l'=ns.map (Value.int .u8)∧bs=ns.map fun n=>UInt8.ofNat n.toNat
 | [],_,bs,h,g=>by cases g;simp only[zql] at h;cases h;exact⟨[],rfl,rfl⟩
 | v :: vs,_,bs,h,g=>by
  cases g with
  | cons hv hvs =>
   simp only[zql] at h
   split at h
   ·rename_i b hb
    split at h
    ·rename_i l hl
     cases h
     obtain⟨n,rfl,rfl⟩:=zbs7 hb hv
     obtain⟨ns,rfl,rfl⟩:=zbfy hl hvs
     exact⟨n :: ns,rfl,rfl⟩
    ·cases h
   ·cases h
theorem zbhs:∀ (ns:List Int) (s:ByteArray),ns.foldl (fun r n=>r.push (UInt8.ofNat n.toNat)) s=⟨s.data ++ (ns.map fun n=>UInt8.ofNat n.toNat).toArray⟩
 | [],s=>by simp
 | n :: ns,s=>by
  rw[List.foldl_cons,zbhs ns]
  congr 1
  apply Array.ext'
  simp[ByteArray.push]
theorem zbwf (h:Rel N w₀ ρ H w) {a a' r:V} {H':Heap} (hb:b2s a H=some (r,H')) (ha:VRel ρ a a'):H'=H∧VRel ρ r r∧(Conv.bytesToString a').run P w = .ok r w:=by
 unfold b2s at hb
 split at hb
 ·cases hb
  obtain⟨_,_,rfl⟩:=ha.snil_inv
  exact⟨rfl,.string _,by simp[Conv.bytesToString]⟩
 ·rename_i b o u len cap
  split at hb
  ·rename_i l hl
   split at hb
   ·rename_i bs hbs
    cases hb
    obtain⟨L,co,ccap,ca,hL,rfl,ho,hlen,hcap,_,hca,_⟩:=ha.slc_inv
    obtain⟨hn,l',hrel,hcell⟩:=h.cellsAt hl hL
    obtain⟨ns,rfl,rfl⟩:=zbfy hbs hrel
    refine⟨rfl,.string _,?_⟩
    have hl2:ns.length=len:=by have:=hrel.length;simp at this;omega
    have hrun:(loadCells ca len).run P w = .ok (ns.map (Value.int .u8)).toArray w:=by
     rcases hca with rfl | q
     rotate_left
     ·have h0:len=0:=by omega
      have:ns=[]:=List.eq_nil_of_length_eq_zero (by omega)
      rw[this,h0];rfl
     rcases ho with ho | ho
     ·subst ho
      have:=zi5 (P:=P) (b:=L.blk) (o:=L.off + o) hcell
      simpa[hl2] using this
     ·have h0:len=0:=by omega
      have:ns=[]:=List.eq_nil_of_length_eq_zero (by omega)
      rw[this,h0];rfl
    rw[run_bytesToString w _ len ccap ns hrun,zbhs]
    simp
   ·cases hb
  ·cases hb
 ·cases hb
theorem zbl8 {fk:FK} {kt:TypeId} (hf:fkT P kt=some fk) {a b a' b':V} {r:Bool} (h:zvv (.one fk) a b=some r) (ha:VRel ρ a a') (hb:VRel ρ b b') (d:TypeDesc) (hd:P.underlying kt=some d) :
  Instr.sameNow d a' b'=some r:=by
 simp only[zvv] at h
 obtain⟨rfl,rfl⟩:=zz7 h ha hb
 cases fk
 ·have:=zb33 hf;rw[hd] at this;cases this
  cases a' <;> cases b' <;> simp only[eqK] at h <;> first | (cases h;done) | skip
  simpa[Instr.sameNow] using h
 ·obtain⟨k,this⟩:=zb34 hf;rw[hd] at this;cases this
  cases a' <;> cases b' <;> simp only[eqK] at h <;> first | (cases h;done) | skip
  simpa[Instr.sameNow] using h
 ·have:=zb35 hf;rw[hd] at this;cases this
  cases a' <;> cases b' <;> simp only[eqK] at h <;> first | (cases h;done) | skip
  simp only[Instr.sameNow,beq_toListBytes,zs9];exact h
theorem zbai {fk:FK} {kt:TypeId} (hf:fkT P kt=some fk) (d:TypeDesc) (hd:P.underlying kt=some d) {k k':V} (hk:VRel ρ k k'):∀ (es:List (V × V)) (E:List MapEntry) (i:Nat) (r:Option Nat),
  LRel ρ (es.map (·.1)) (E.map (·.key))→zjr (.one fk) k es=some r→Instr.findNow d k' E i=some (r.bind fun j=>(E[j]?).map fun e=>(i + j,e.val))
 | [],E,i,r,hr,h=>by
  cases E with
  | nil=>simp only[zjr] at h;cases h;rfl
  | cons e E=>have:=hr.length;simp at this
 | x :: es,E,i,r,hr,h=>by
  cases E with
  | nil=>have:=hr.length;simp at this
  | cons e E =>
   cases hr with
   | cons h1 h2 =>
    simp only[zjr] at h
    split at h
    ·rename_i hq;cases h
     simp[Instr.findNow,zbl8 hf hq hk h1 d hd]
    ·rename_i hq
     simp only[Instr.findNow,zbl8 hf hq hk h1 d hd]
     split at h
     ·rename_i j hj;cases h
      rw[zbai hf d hd hk es E (i + 1) (some j) h2 hj]
      simp[Nat.add_assoc,Nat.add_comm 1 j]
     ·rename_i hj;cases h
      rw[zbai hf d hd hk es E (i + 1) none h2 hj];rfl
     ·cases h
    ·cases h
theorem zyy {ks:List FK} {kt:TypeId} (hf:zbhf P kt=some ks) {k k':V} (hk:VRel ρ k k'):∀ (es:List (V × V)) (E:List MapEntry) (i:Nat) (r:Option Nat),
  LRel ρ (es.map (·.1)) (E.map (·.key))→zjr (.agg ks) k es=some r→∀ w,(Instr.findAsking kt k' E i).run P w = .ok (r.bind fun j=>(E[j]?).map fun e=>(i + j,e.val)) w
 | [],E,i,r,hr,h=>by
  intro w
  cases E with
  | nil=>simp only[zjr] at h;cases h;rfl
  | cons e E=>have:=hr.length;simp at this
 | x :: es,E,i,r,hr,h=>by
  intro w
  cases E with
  | nil=>have:=hr.length;simp at this
  | cons e E =>
   cases hr with
   | cons h1 h2 =>
    simp only[zjr] at h
    split at h
    ·rename_i hq;cases h
     simp only[zvv] at hq
     obtain⟨A,B,_,_,hrun⟩:=zbel hf hq hk h1 w 9998
     have hrun':(Op.equal kt k' e.key).run P w = .ok true w:=hrun
     simp[Instr.findAsking,hrun']
    ·rename_i hq
     simp only[zvv] at hq
     obtain⟨A,B,_,_,hrun⟩:=zbel hf hq hk h1 w 9998
     have hrun':(Op.equal kt k' e.key).run P w = .ok false w:=hrun
     simp only[Instr.findAsking,Sem.run_bind,hrun',Result.andThen_ok]
     simp only[Bool.false_eq_true,if_false]
     split at h
     ·rename_i j hj;cases h
      rw[zyy hf hk es E (i + 1) (some j) h2 hj w]
      simp[Nat.add_assoc,Nat.add_comm 1 j]
     ·rename_i hj;cases h
      rw[zyy hf hk es E (i + 1) none h2 hj w];rfl
     ·cases h
    ·cases h
theorem zpa {kk:KK} {kt:TypeId} (hf:z8c P kt=some kk) {k k':V} (hk:VRel ρ k k') (es:List (V × V)) (E:List MapEntry) (r:Option Nat)
  (hr:LRel ρ (es.map (·.1)) (E.map (·.key))) (h:zjr kk k es=some r) (w:World):(Instr.findKey kt k' E).run P w = .ok (r.bind fun j=>(E[j]?).map fun e=>(j,e.val)) w:=by
 unfold z8c at hf
 split at hf
 ·rename_i fk hfk
  cases hf
  have hd:∃ d,P.underlying kt=some d:=by unfold fkT at hfk;split at hfk <;> first | exact⟨_,by assumption⟩ | cases hfk
  obtain⟨d,hd⟩:=hd
  simp[Instr.findKey,run_underlying hd,zbai hfk d hd hk es E 0 r hr h]
 ·split at hf
  ·rename_i ks hks
   cases hf
   obtain⟨fs,hu,_⟩:=zbb1 hks
   simp only[Instr.findKey,Sem.run_bind,run_underlying hu,Result.andThen_ok]
   cases E with
   | nil =>
    cases es with
    | nil=>simp only[zjr] at h;cases h;rfl
    | cons x es=>have:=hr.length;simp at this
   | cons e E =>
    have:Instr.findNow (.struct fs) k' (e :: E) 0=none:=by simp[Instr.findNow,Instr.sameNow]
    simp only[this]
    have:=zyy hks hk es (e :: E) 0 r hr h w
    simpa using this
  ·cases hf
theorem zbpt {α:Type} (g:α→PUnit→Sem (ForInStep PUnit)) (w:World):∀ (fs:List α),(∀ f∈fs,(g f PUnit.unit).run P w = .ok (.yield PUnit.unit) w)→(forIn fs PUnit.unit g).run P w = .ok PUnit.unit w
 | [],_=>by simp
 | f :: fs,h=>by
  simp only[List.forIn_cons,Sem.run_bind,h f (by simp),Result.andThen_ok]
  exact zbpt g w fs fun x hx=>h x (by simp[hx])
theorem zbb5 (A:Array V):∀ (fs:List Field) (n:Nat) (ks:List FK),zvx P n fs=some ks→n + fs.length≤A.size →
  ∀ f∈fs,f.name ≠ "_" ∧ (∃ k,fkT P f.type=some k)∧f.offset < A.size
 | [],n,ks,_,_=>by simp
 | f :: fs,n,ks,hf,hl=>by
  simp only[zvx] at hf
  split at hf
  ·rename_i k ks' hk hks
   split at hf
   ·rename_i hc
    simp only[Bool.and_eq_true,bne_iff_ne,ne_eq,beq_iff_eq] at hc
    obtain⟨hnm,hoff⟩:=hc
    intro x hx
    rcases List.mem_cons.1 hx with rfl | hx
    ·exact⟨hnm,⟨k,hk⟩,by simp at hl;omega⟩
    ·exact zbb5 A fs (n + 1) ks' hks (by simp at hl;omega) x hx
   ·cases hf
  ·cases hf
theorem zbht {k:FK} {t:TypeId} (hk:fkT P t=some k) (em:Bool) (d:Nat) (v:V) (w:World):(Instr.checkKey em (d + 1) t v).run P w = .ok () w:=by
 have hd:∃ dd,P.underlying t=some dd∧(dd = .bool∨(∃ q,dd = .int q)∨dd = .string):=by
  unfold fkT at hk;split at hk <;> first | exact⟨_,by assumption,by simp⟩ | cases hk
 obtain⟨dd,hd,hdd⟩:=hd
 rcases hdd with rfl | ⟨q,rfl⟩ | rfl <;> simp[Instr.checkKey,run_underlying hd]
theorem z8o:∀ (fs:List Field) (n:Nat) (ks:List FK),zvx P n fs=some ks→ks.length=fs.length
 | [],n,ks,h=>by simp only[zvx] at h;cases h;rfl
 | f :: fs,n,ks,hf=>by
  simp only[zvx] at hf
  split at hf
  ·rename_i k ks' hk hks
   split at hf
   ·cases hf;simp[z8o fs (n + 1) ks' hks]
   ·cases hf
  ·cases hf
theorem zbs8 {kt:TypeId} {ks:List FK} (hks:zbhf P kt=some ks) {A:Array V} (hA:A.size=ks.length) (em:Bool) (d:Nat) (w:World):(Instr.checkKey em (d + 1 + 1) kt (.agg A)).run P w = .ok () w:=by
 obtain⟨fs,hu,_,_,h3⟩:=zbb1 hks
 have hl:A.size=fs.size:=by have:=z8o _ _ _ h3;simp at *;omega
 rw[Instr.checkKey]
 simp only[Sem.run_bind,run_underlying hu,Result.andThen_ok]
 rw[← Array.forIn_toList]
 rw[zbpt (P:=P) _ w fs.toList ?_]
 ·rfl
 ·intro f hf
  obtain⟨h1,⟨k,h2⟩,h4⟩:=zbb5 A fs.toList 0 ks h3 (by simp;omega) f hf
  have hp:(part f.type A f.offset).run P w = .ok A[f.offset] w:=by simp[part,zbek h2 w,h4]
  simp[h1,hp,zbht h2 em d]
theorem z4a {kk:KK} {kt:TypeId} (hf:z8c P kt=some kk) {k k':V} (hk:VRel ρ k k') (hfit:zo3 kk k=true) (em:Bool) (w:World):(Instr.checkKey em 10000 kt k').run P w = .ok () w:=by
 unfold z8c at hf
 split at hf
 ·rename_i fk hfk;exact zbht hfk em 9999 k' w
 ·split at hf
  ·rename_i ks hks
   cases hf
   cases k <;> simp only[zo3] at hfit <;> first | (cases hfit;done) | skip
   obtain⟨A,rfl,hA⟩:=hk.agg_inv
   exact zbs8 hks (by have:=hA.length;simp at *;omega) em 9998 w
  ·cases hf
theorem zbb6 (kk:KK) (k:V):∀ (es:List (V × V)) (i:Nat),zjr kk k es=some (some i)→i < es.length
 | [],i,h=>by simp[zjr] at h
 | e :: es,i,h=>by
  simp only[zjr] at h
  split at h
  ·cases h;simp
  ·split at h
   ·rename_i j hj;cases h;have:=zbb6 kk k es j hj;simp;omega
   ·cases h
   ·cases h
  ·cases h
theorem Rel.map (h:Rel N w₀ ρ H w) {b:Nat} {rw_:Bool} {es:List (V × V)} (hb:H.get b=some (.map rw_ es)) {L:Loc} (hL:ρ b=some L) :
  ∃ E clk,w.heap[L.blk]? = some (.map E clk)∧(rw_=true→N≤L.blk∧Born E clk)∧L.off=0∧LRel ρ (es.map (·.1)) (E.toList.map (·.key))∧LRel ρ (es.map (·.2)) (E.toList.map (·.val)):=by
 obtain⟨K,hK,h0,E,clk,h1,h2,h3,h4⟩:=h.blk b _ hb
 rw[hL] at hK;cases hK
 exact⟨E,clk,h1,h2,h0,h3,h4⟩
theorem zhg {r:Nat} {E:Array MapEntry} {clk:Nat} (h:w.heap[r]? = some (.map E clk)):(getObj r).run P w = .ok (.map E clk) w:=by
 simp[getObj,Sem.run,h]
theorem zbfz (h:Rel N w₀ ρ H w) {m m':V} {es:List (V × V)} (he:z7p H m=some es) (hm:VRel ρ m m') :
  (m' = .map none∧es=[])∨∃ r E clk,m' = .map (some r)∧w.heap[r]? = some (.map E clk)∧LRel ρ (es.map (·.1)) (E.toList.map (·.key))∧LRel ρ (es.map (·.2)) (E.toList.map (·.val)):=by
 unfold z7p at he
 split at he
 ·cases he;cases hm;exact .inl ⟨rfl,rfl⟩
 ·split at he
  ·rename_i b rw_ es2 hb
   cases he
   cases hm
   rename_i L hL
   obtain⟨E,clk,h1,_,_,h2,h3⟩:=h.map hb hL
   exact .inr ⟨_,E,clk,rfl,h1,h2,h3⟩
  ·cases he
 ·cases he
theorem zbnj (h:Rel N w₀ ρ H w) {kk:KK} {zero:V} {ok:Bool} {m k m' k' r:V} {H':Heap} {t kt et:TypeId} (hu:P.underlying t=some (.map kt et)) (hz:zf5 P et=some zero) (hf:z8c P kt=some kk)
  (hl:lookup kk zero ok m k H=some (r,H')) (hm:VRel ρ m m') (hk:VRel ρ k k'):H'=H∧∃ r',VRel ρ r r'∧(Instr.lookup t m' k' ok).run P w = .ok r' w:=by
 unfold lookup at hl
 split at hl
 ·rename_i hcond
  simp only[Bool.and_eq_true] at hcond
  split at hl
  ·rename_i es hes
   have hck:=fun em=>z4a hf hk hcond.1 em w
   rcases zbfz h hes hm with⟨rfl,rfl⟩ | ⟨q,E,clk,rfl,hq,h1,h2⟩
   ·simp only[zjr] at hl
    cases hl
    have hfk:=zpa hf hk [] [] none .nil (by simp[zjr]) w
    refine⟨rfl,if ok then .tuple #[zero,.bool false] else zero,?_,?_⟩
    ·split
     ·exact .tuple' (.cons (zpu hcond.2) (.cons (.bool _) .nil))
     ·exact zpu hcond.2
    ·simp[Instr.lookup,run_underlying hu,hck,hfk,zi4 hz w]
   ·split at hl
    ·rename_i i hi
     split at hl
     ·rename_i e he
      cases hl
      have hfk:=zpa hf hk es E.toList (some i) h1 hi w
      have hlt:=zbb6 kk k es i hi
      have hlE:i < E.toList.length:=by have:=h1.length;simp at this;simp;omega
      obtain⟨v',hv',hrel⟩:=h2.get i e.2 (by simp[he])
      have hv2:E.toList[i].val=v':=by
       rw[List.getElem?_map,List.getElem?_eq_getElem hlE] at hv'
       simpa using hv'
      refine⟨rfl,if ok then .tuple #[v',.bool true] else v',?_,?_⟩
      ·split
       ·exact .tuple' (.cons hrel (.cons (.bool _) .nil))
       ·exact hrel
      ·have:(some i).bind (fun j=>(E.toList[j]?).map fun e=>(j,e.val))=some (i,v'):=by
        rw[← hv2,Option.bind_some,List.getElem?_eq_getElem hlE];rfl
       rw[this] at hfk
       simp[Instr.lookup,run_underlying hu,zhg hq,hck,hfk]
     ·cases hl
    ·rename_i hi
     cases hl
     have hfk:=zpa hf hk es E.toList none h1 hi w
     refine⟨rfl,if ok then .tuple #[zero,.bool false] else zero,?_,?_⟩
     ·split
      ·exact .tuple' (.cons (zpu hcond.2) (.cons (.bool _) .nil))
      ·exact zpu hcond.2
     ·simp[Instr.lookup,run_underlying hu,zhg hq,hck,hfk,zi4 hz w]
    ·cases hl
  ·cases hl
 ·cases hl
theorem zbs9 (h:Rel N w₀ ρ H w) {m m' r:V} {H':Heap} {t ty kt et:TypeId} (hu:P.underlying t=some (.map kt et)) (hl:lenM m H=some (r,H')) (hm:VRel ρ m m') :
  H'=H∧VRel ρ r r∧(Builtin.len_ #[t] ty #[m']).run P w = .ok r w:=by
 unfold lenM at hl
 split at hl
 ·rename_i es hes
  cases hl
  refine⟨rfl,.int _ _,?_⟩
  rcases zbfz h hes hm with⟨rfl,rfl⟩ | ⟨q,E,clk,rfl,hq,h1,h2⟩
  ·simp[Builtin.len_,run_underlying hu,goInt]
  ·have:es.length=E.size:=by have:=h1.length;simpa using this
   simp[Builtin.len_,run_underlying hu,zhg hq,goInt,this]
 ·cases hl
theorem zbl9 (h:Rel N w₀ ρ H w) {p p' r:V} {H':Heap} {t:TypeId} (ht:tk P t=some .one) (hl:zz p H=some (r,H')) (hp:VRel ρ p p') :
  H'=H∧∃ r',VRel ρ r r'∧(Instr.loadAt t p').run P w = .ok r' w:=by
 unfold zz at hl
 split at hl
 ·rename_i b o
  split at hl
  ·rename_i v hv
   cases hl
   obtain⟨L,hL,rfl⟩:=hp.ptr_inv
   obtain⟨v',hv',hrel⟩:=h.cell hv hL
   exact⟨rfl,v',hrel,by simp[Instr.loadAt,Instr.sureAddr,loadVar,(zbni ht).1 w,hv']⟩
  ·cases hl
 ·cases hl
theorem zbma (h:Rel N w₀ ρ H w) {p p' r:V} {H':Heap} {t:TypeId} {n:Nat} (ht:tk P t=some (.agg n)) (hl:ldn n p H=some (r,H')) (hp:VRel ρ p p') :
  H'=H∧∃ r',VRel ρ r r'∧(Instr.loadAt t p').run P w = .ok r' w:=by
 unfold ldn at hl
 split at hl
 ·rename_i b o
  split at hl
  ·rename_i l hc
   cases hl
   obtain⟨L,hL,rfl⟩:=hp.ptr_inv
   obtain⟨hn,l',hrel,hcell⟩:=h.cellsAt hc hL
   have hl2:l'.length=n:=by rw[← hrel.length];exact hn
   have hrun:=zi5 (P:=P) hcell
   rw[hl2] at hrun
   exact⟨rfl,.agg l'.toArray,.agg' (by simpa using hrel),by simp[Instr.loadAt,Instr.sureAddr,loadVar,(zbem ht).1 w,(zbem ht).2 w,hrun]⟩
  ·cases hl
 ·cases hl
theorem z6 {α:Type} {H H':Heap} {r:α} (h:(fail:M α) H=some (r,H')):False:=by simp[fail] at h
theorem zbhu (h:Rel N w₀ ρ H w) {e c:Operand→V} (hr:∀ z,VRel ρ (e z) (c z)) (o:Oper) {r:V} {H':Heap} (hl:zbfw P e o.op H=some (r,H')) :
  H'=H∧∃ r',VRel ρ r r'∧(execOp c o).run P w = .ok (.value r') w:=by
 obtain⟨dst,op,ty,pos,after,guard⟩:=o
 simp only at hl
 cases op <;> simp only[zbfw] at hl <;> first | exact (z6 hl).elim | skip
 case load t a =>
  cases hk:tk P t with
  | none=>simp only[hk] at hl;exact (z6 hl).elim
  | some k =>
   cases k with
   | one =>
    simp only[hk] at hl
    obtain⟨h1,r',h2,h3⟩:=zbl9 h hk hl (hr a)
    exact⟨h1,r',h2,by simp[execOp,h3]⟩
   | agg n =>
    simp only[hk] at hl
    obtain⟨h1,r',h2,h3⟩:=zbma h hk hl (hr a)
    exact⟨h1,r',h2,by simp[execOp,h3]⟩
 case convert src dst x =>
  generalize hs:P.underlying src=s at hl
  generalize hd:P.underlying dst=d at hl
  split at hl
  all_goals first | exact (z6 hl).elim | skip
  rename_i el
  generalize hel:P.underlying el=ed at hl
  split at hl
  all_goals first | exact (z6 hl).elim | skip
  obtain⟨h1,h2,h3⟩:=zbwf (P:=P) h hl (hr x)
  refine⟨h1,r,h2,?_⟩
  have:(convert src dst (c x)).run P w = .ok r w:=by
   unfold convert
   simp only[Sem.run_bind,run_underlying hs,Result.andThen_ok,run_underlying hd]
   unfold b2s at hl
   have hx:=hr x
   split at hl
   ·rename_i q;rw[q] at hx;obtain⟨_,_,hc⟩:=hx.snil_inv;rw[hc] at h3 ⊢;simp[run_underlying hel,h3]
   ·rename_i q;rw[q] at hx;obtain⟨L,co,ccap,ca,hL,hc,_⟩:=hx.slc_inv;rw[hc] at h3 ⊢;simp[run_underlying hel,h3]
   ·cases hl
  simp[execOp,this]
 case lookup t m k ok =>
  generalize hu:P.underlying t=d at hl
  split at hl
  all_goals first | exact (z6 hl).elim | skip
  rename_i kt et
  generalize hz:zf5 P et=z at hl
  generalize hkk:z8c P kt=kk at hl
  split at hl
  all_goals first | exact (z6 hl).elim | skip
  obtain⟨h1,r',h2,h3⟩:=zbnj h hu hz hkk hl (hr m) (hr k)
  exact⟨h1,r',h2,by simp[execOp,h3]⟩
 case call cl =>
  obtain⟨callee,args,argTypes⟩:=cl
  simp only at hl
  cases callee <;> simp only at hl <;> first | exact (z6 hl).elim | skip
  rename_i b
  obtain⟨args⟩:=args
  obtain⟨ts⟩:=argTypes
  simp only[zbl5] at hl
  split at hl
  all_goals first | exact (z6 hl).elim | skip
  rename_i x t
  generalize hu:P.underlying t=d at hl
  split at hl
  all_goals first | exact (z6 hl).elim | skip
  obtain⟨h1,h2,h3⟩:=zbs9 (ty:=ty) h hu hl (hr x)
  exact⟨h1,r,h2,by simp[execOp,resolve,invoke,builtin,h3]⟩
end Go.AM
