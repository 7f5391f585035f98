import Derived.Test.YtbnhggfiembejaaGreatDoorNode
import Derived.Lib.AppendZeros
import Derived.Test.YtbnhggfiembejaaGreatDoorPut
import Derived.Test.YtbnhggfiembejaaGreatDoorStr
import Derived.Test.YtbnhggfiembejaaGreatDoorSub
section
namespace Go.Proofs.YtbnhggfiembejaaGreatDoor
open Go Go.RowKit X
set_option linter.unusedSimpArgs false
set_option linter.unusedVariables false
set_option linter.unusedSectionVars false
theorem intU : P.underlying Ht = some (.int .i64):=by kernel_rfl
theorem Qk6 {w : World} {n : Nat} {ty : TypeId} {K : Value → World → Prop} (h0 : 0 < n) (hn : n ≤ 100000000) (k : ∀ v' w' xs,Own w' w.heap.size Qm 1 v' n xs → Ext No w w' → K v' w') :
  Jv P (Builtin.append_ #[Ji,Ht] ty #[.slice none 0 0,.int .i64 n]) w K:=by
 obtain ⟨i,hi1,hi2,hi3,hi4⟩:=Uq.parts
 have hr:=Go.Lib.run_append_nil_zeros (P:=P) w Ji Ht ty Qm i (.int .u8 0) .i64 .i64 Uq.u intU hi1 hi2 n h0 (by omega) (by omega) (by rw [hi4]; omega)
 have hge:=grownCap_ge w n 0 Qm
 have hcm : grownCap w n 0 Qm ≤ maxLen:=grownCap_le_maxLen w n 0 Qm (by unfold maxLen; omega)
 have hzs : (Value.int IntKind.u8 0).cells.size = 1:=rfl
 have hsz : (Builtin.zeroCells (Value.int IntKind.u8 0).cells n ++ Builtin.zeroCells (Value.int IntKind.u8 0).cells (grownCap w n 0 Qm - n)).size = grownCap w n 0 Qm * 1:=by
  simp only [Array.size_append,size_zeroCells,hzs]
  omega
 refine ⟨_,_,hr,k _ _ (List.take (n * 1) (Builtin.zeroCells (Value.int IntKind.u8 0).cells n ++ Builtin.zeroCells (Value.int IntKind.u8 0).cells (grownCap w n 0 Qm - n)).toList) ⟨?_,.inr ⟨w.heap.size,_,_,rfl,Nat.le_refl _,heap_alloc_new w.drew _,hge,hcm,hsz,rfl⟩⟩ ⟨rfl,rfl,rfl,by simp,fun k hk _ => heap_alloc_old w.drew _ hk⟩⟩
 rw [List.length_take,Array.length_toList,hsz]
 omega
variable [Floor]
theorem QvN {w : World} {n : Nat} (hn : n ≤ 100000000) : Q6 P BI [.slice none 0 0,.int .i64 n] w fun r w' => Own w' w.heap.size Qm 1 r 0 [] ∧ Ext No w w':=by
 refine Q1H ?_
 refine xj (fun vs w' => w = w') ?_ ?_
 · exact Qp (by simp) rfl
 rintro vs g w1 rfl
 refine xj (fun vs w' => ∃ x v,vs = [x,v] ∧ Own w' w.heap.size Qm 1 v 0 [] ∧ Ext No w w') ?_ ?_
 · refine xi (r:=0) (by decide) ?_
   refine xi (r:=(n : Int)) (by rw [QQ (by omega)]; omega) ?_
   refine ZF (fun h => ?_) fun h => ⟨_,_,rfl,Own.nil _ _ _ _,Ext.refl _ _⟩
   refine Q9Q 0 rfl (Nat.le_refl _) ?_
   refine Qk6 (by omega) hn fun v w2 xs hv he => ?_
   refine Bs.len (w:=w2) (bs:=[]) Sl.nil ?_
   refine X.Own.cut hv 0 rfl (by omega) fun v' hv' _ => ?_
   rw [List.take_zero] at hv'
   exact ⟨_,_,rfl,hv',he⟩
 · rintro vs g w2 ⟨x,v,rfl,hv,he⟩
   exact ⟨hv,he⟩
theorem Q54 (a b : List Key) : (a ++ b).flatten = a.flatten ++ b.flatten:=List.flatten_append
theorem Qel {w : World} {Q : Nat → TypeId → Prop} {vs : Value} {cells : List Value} {ls : List Key} (hfl : Floor.n ≤ w.heap.size) (h : Sl w Q vs 1 ls.length cells) (hls : ∀ i (hi : i < ls.length),∃ x,cells[i]? = some x ∧ Bs w x ls[i]) (hn : ls.flatten.length ≤ 100000000) (hm : ls.length ≤ 1000) :
  Q6 P UN [vs] w fun r w' => Bs w' r ls.flatten ∧ Ext No w w':=by
 have hpre : ∀ i,(ls.take i).flatten.length ≤ ls.flatten.length:=fun i => by
  have:=congrArg (fun l : List Key => l.flatten.length) (List.take_append_drop i ls)
  simp only [Q54,List.length_append] at this
  omega
 have hstep : ∀ i (hi : i < ls.length),(ls.take (i + 1)).flatten = (ls.take i).flatten ++ ls[i]:=fun i hi => by
  rw [← List.take_append_getElem hi,Q54]
  simp
 refine SY ?_
 refine KN h ?_
 refine JN (fun n vs' w' => ∃ (i : Nat) (x : Value),vs' = [.int .i64 i,x,.int .i64 ((ls.take i).flatten.length : Nat)] ∧ n = ls.length - i ∧ i ≤ ls.length ∧ w = w') ls.length ⟨0,_,rfl,rfl,by omega,rfl⟩ ?_
 rintro n vs' g w1 ⟨i,x,rfl,rfl,hi,rfl⟩
 unfold Cn
 refine ZF (fun hlt => ?_) fun hnl => ?_
 · have hil : i < ls.length:=by omega
   obtain ⟨y,hy,hby⟩:=hls i hil
   have h1:=hpre (i + 1)
   have h2:=hstep i hil
   have h3:=congrArg List.length h2
   rw [List.length_append] at h3
   refine xj (fun vs' w' => ∃ x',vs' = [x',.int .i64 ((ls.take (i + 1)).flatten.length : Nat)] ∧ w = w') ?_ ?_
   · refine h.rd1 i rfl hil hy ?_
     refine hby.len ?_
     refine xi (r:=(((ls.take (i + 1)).flatten.length : Nat) : Int)) (by rw [QQ (by omega)]; omega) ?_
     refine Qp (by simp) ?_
     exact ⟨_,rfl,rfl⟩
   · rintro vs'' g w2 ⟨x',rfl,rfl⟩
     refine xi (r:=((i + 1 : Nat) : Int)) (by rw [QQ (by omega)]; omega) ?_
     exact JP (ls.length - (i + 1)) (by omega) ⟨i + 1,_,rfl,rfl,by omega,rfl⟩
 · have : i = ls.length:=by omega
   subst this
   rw [List.take_length]
   refine (QvN hn).mono ?_
   rintro r w1 ⟨hr,he1⟩
   refine KN h ?_
   refine JN (fun n vs' w' => ∃ (i : Nat) (x v : Value),vs' = [.int .i64 i,x,v] ∧ n = ls.length - i ∧ i ≤ ls.length ∧ Own w' w.heap.size Qm 1 v (ls.take i).flatten.length ((ls.take i).flatten.map bv) ∧ Ext No w w') ls.length ⟨0,_,_,rfl,rfl,by omega,hr,he1⟩ ?_
   rintro n vs' g w2 ⟨i,x,v,rfl,rfl,hi,hv,he2⟩
   unfold Co
   refine ZF (fun hlt => ?_) fun hnl => ?_
   · have hil : i < ls.length:=by omega
     obtain ⟨y,hy,hby⟩:=hls i hil
     have h1:=hpre (i + 1)
     have h2:=hstep i hil
     have h3:=congrArg List.length h2
     rw [List.length_append] at h3
     refine (Sl.Q4 h he2).rd1 i rfl hil hy ?_
     refine Vi Uq hv he2.size (hby.Q4 he2) (by simp only [List.mem_map]; rintro u ⟨c,-,rfl⟩; rfl) (by omega) (by omega) fun v' w3 hv' QE _ _ => ?_
     refine xi (r:=((i + 1 : Nat) : Int)) (by rw [QQ (by omega)]; omega) ?_
     refine JP (ls.length - (i + 1)) (by omega) ⟨i + 1,_,v',rfl,rfl,by omega,?_,he2.own hv (Nat.le_refl _) QE⟩
     rw [h2,List.length_append,List.map_append]
     exact hv'
   · have : i = ls.length:=by omega
     subst this
     rw [List.take_length] at hv
     exact ⟨Bs.of hv.sl,he2⟩
end Go.Proofs.YtbnhggfiembejaaGreatDoor
end
section
namespace Go.Proofs.YtbnhggfiembejaaGreatDoor
open Go Go.RowKit X
set_option linter.unusedSimpArgs false
set_option linter.unusedVariables false
set_option linter.unusedSectionVars false
variable [Floor]
abbrev Qls (o : Nat) (mt : Option Y3) : Value:=.agg #[.int .u64 o,mv mt]
abbrev Qfn (o : Nat) (mt : Option Y3) : List Value:=[.int .u64 o,mv mt]
theorem QpI : Oth WG:=by unfold Oth; decide
theorem Bs.Qyk {w : World} {b : Nat} {k : Key} (h : QZ w b (k.map bv) Qm) : Bs w (.slice (some ⟨b,0,none⟩) k.length k.length) k:=by
 have:=h.sl (o:=0) (n:=k.length) (cap:=k.length) (by simp) (Nat.le_refl _)
 rw [List.drop_zero,List.take_of_length_le (by simp)] at this
 exact Bs.of this
theorem AJ.Qyj {w w' : World} {a ow o n : Nat} {part : Key} {val : Option Nat} {ks : List Nat} {kids : UInt8 → T} {c : UInt8} {t' : T} {mt : Option Y3} (h : AJ w w' o (kids c) t' mt n) : AJ w w' o (.node a ow part val ks kids) t' mt n :=
 ⟨h.tree,h.ext.mono fun b _ hb => hb.imp id fun hb => .inr ⟨c,hb⟩,h.cnt,fun b hb => (h.all b hb).imp (fun hb => .inr ⟨c,hb⟩) id,fun b hb => (h.foot b hb).imp (fun hb => .inr ⟨c,hb⟩) id,h.sep⟩
section
variable {w : World} {a ow o : Nat} {part : Key} {val : Option Nat} {ks : List Nat} {kids : UInt8 → T} {mt : Option Y3} {n : Nat}
theorem QgD {w1 : World} {b1 : Nat} {p q : Key} {c : UInt8} {v1 v3 : Value} {K : Value → World → Prop} {A : World → Prop} (hA : ∀ w',Ext No w1 w' → A w') (hfl : Floor.n ≤ w1.heap.size) (h1 : Bs w1 v1 p) (hb : QZ w1 b1 [bv c] Qm) (h3 : Bs w1 v3 q) (hn : p.length + 1 + q.length ≤ 65535)
  (k : ∀ v' w',Bs w' v' (p ++ c :: q) → Ext No w1 w' → K v' w') :
  Qs w1 [v1,.slice (some ⟨b1,0,none⟩) 1 1,v3] Ji fun ad w2 => A w2 ∧ Q6 P WN [.slice (some ad) 3 3] w2 K:=by
 refine Qz fun nb w2 hnb hblk hz he => ⟨hA _ he,?_⟩
 refine Q8x ?_
 have hsl : Sl w2 (tyQ Ji) (.slice (some ⟨nb,0,none⟩) 3 3) 1 [p,[c],q].length [v1,.slice (some ⟨b1,0,none⟩) 1 1,v3]:=hblk.sln rfl
 have hz2:=he.size
 refine (Qel (by omega) hsl (fun i hi => ?_) (by simp; omega) (by simp)).mono ?_
 · match i,hi with
   | 0,_ => exact ⟨v1,rfl,h1.Q4 he⟩
   | 1,_ => exact ⟨_,rfl,(Bs.Qyk (k:=[c]) hb).Q4 he⟩
   | 2,_ => exact ⟨v3,rfl,h3.Q4 he⟩
   | n + 3,h => exact absurd h (by simp)
 · rintro r w3 ⟨hr,QE⟩
   refine k r w3 ?_ (he.Q0 QE)
   simpa using hr
theorem QvB {a1 ow1 : Nat} {p1 : Key} {v1 : Option Nat} {H9 : List Nat} {Ve : UInt8 → T} {c : UInt8} (ht : Tree w (.node a ow part val ks kids)) (hs : (T.node a ow part val ks kids).Sep o) (hm : Mt w mt n) (ho : o ≠ 0) (hk : kids c = .node a1 ow1 p1 v1 H9 Ve) (hlen : part.length + 1 + p1.length ≤ 65535) :
  Q6 P Wm [Qls o mt,(T.node a ow part val ks kids).v,bv c,(kids c).v] w fun r w' => ∃ u Jw n',r = rp u ∧ AJ w w' o (kids c) (.node u o (part ++ c :: p1) v1 Jw Ve) mt n' ∧ (Jw = [] ↔ H9 = []) ∧ n' ≤ n + 1 ∧ (o = ow1 → n' = n):=by
 refine Q4E ?_
 refine Qz fun pb w1 hpb hblk hz he => ?_
 have hblk : QZ w1 pb (Qfn o mt) WG:=hblk
 have ht1:=ht.Q4 he
 have hm1:=hm.Q4 he
 have hk1 : Tree w1 (.node a1 ow1 p1 v1 H9 Ve):=by rw [← hk]; exact ht1.2 c
 have hs1 : (T.node a1 ow1 p1 v1 H9 Ve).Sep o:=by rw [← hk]; exact hs.1 c
 rw [hk]
 refine hblk.ld (v:=mv mt) rfl ?_
 refine hblk.ld (v:=.int .u64 o) rfl ?_
 refine (Q1C (AJ.start hk1 hs1 hm1).h ho).mono ?_
 rintro _ w2 ⟨u,Jw,n',rfl,hH,hiff,he2,hle,Un⟩
 have hd:=Ext.drew (Ext.refl No w2)
 have hblk2:=(hblk.ext he2 (hm1.ne hblk (by decide))).drew
 have ht2:=(ht1.YL hm1 he2).Q4 hd
 have hk2:=(hk1.YL hm1 he2).Q4 hd
 have hR2:=(hH.Q4 hd).res rfl
 have QuS:=(hR2.cnt).fl
 refine hblk2.ld (v:=.int .u64 o) rfl ?_
 have keep : ∀ w',Ext No w2.drew w' → Zg w' (.pointer (some ((⟨pb,0,none⟩ : Addr).add 0))) (.int .u64 o):=fun w' e => by
  show w'.cell? ⟨pb,0,none⟩ = _
  rw [(hblk2.ext e fun h => h).cell]; rfl
 have fin : ∀ v' w',Bs w' v' (part ++ c :: p1) → Ext No w2.drew w' → Q6 P ZH [rp u,.int .u64 o,v'] w' fun _ w' => ∃ u' Jw n',rp u = rp u' ∧ AJ w w' o (.node a1 ow1 p1 v1 H9 Ve) (.node u' o (part ++ c :: p1) v1 Jw Ve) mt n' ∧ (Jw = [] ↔ H9 = []) ∧ n' ≤ n + 1 ∧ (o = ow1 → n' = n):=fun v' w' hv e => by
  refine (Qi5 (hR2.Q4 e) ho hv (by simp; omega)).mono ?_
  rintro _ w3 ⟨hR3,-⟩
  exact ⟨u,Jw,n',rfl,hR3.from' he,hiff,hle,fun e => (Un e).2.2⟩
 refine ⟨?_,?_⟩
 · refine (XA ht2).mono ?_
   rintro pv w3 ⟨hpv,QE⟩
   have hpv : Bs w3 pv part:=hpv
   obtain ⟨ad,cp,rfl⟩:=hpv.slice
   refine ⟨keep _ QE,?_,?_⟩
   · show Qs w3 ([c].map bv) Qm _
     refine Qz fun b1 w4 hb1 Q7C Ro Zl => ⟨keep _ (QE.Q0 Zl),?_⟩
     refine (XA (hk2.Q4 (QE.Q0 Zl))).mono ?_
     rintro qv w5 ⟨Ir,ZR⟩
     have Ir : Bs w5 qv p1:=Ir
     obtain ⟨ad',cp',rfl⟩:=Ir.slice
     have WX:=(QE.Q0 Zl).Q0 ZR
     refine ⟨keep _ WX,?_⟩
     exact QgD (A:=fun w' => Zg w' (.pointer (some ((⟨pb,0,none⟩ : Addr).add 0))) (.int .u64 o)) (fun w' e => keep _ (WX.Q0 e)) (Nat.le_trans QuS WX.size) (hpv.Q4 (Zl.Q0 ZR)) (Q7C.ext ZR fun h => h) Ir hlen fun v' w' hv e => ⟨keep _ (WX.Q0 e),fin v' w' hv (WX.Q0 e)⟩
   · refine (XA (hk2.Q4 QE)).mono ?_
     rintro qv w4 ⟨Ir,Zl⟩
     have Ir : Bs w4 qv p1:=Ir
     obtain ⟨ad',cp',rfl⟩:=Ir.slice
     refine ⟨keep _ (QE.Q0 Zl),?_⟩
     show Qs w4 ([c].map bv) Qm _
     refine Qz fun b1 w5 hb1 Q7C hz5 ZR => ?_
     have WX:=(QE.Q0 Zl).Q0 ZR
     refine ⟨keep _ WX,?_⟩
     exact QgD (A:=fun w' => Zg w' (.pointer (some ((⟨pb,0,none⟩ : Addr).add 0))) (.int .u64 o)) (fun w' e => keep _ (WX.Q0 e)) (Nat.le_trans QuS WX.size) (hpv.Q4 (Zl.Q0 ZR)) Q7C (Ir.Q4 ZR) hlen fun v' w' hv e => ⟨keep _ (WX.Q0 e),fin v' w' hv (WX.Q0 e)⟩
 · show Qs w2.drew ([c].map bv) Qm _
   refine Qz fun b1 w3 hb1 Q7C hz3 QE => ⟨keep _ QE,?_⟩
   refine (XA (ht2.Q4 QE)).mono ?_
   rintro pv w4 ⟨hpv,Zl⟩
   have hpv : Bs w4 pv part:=hpv
   obtain ⟨ad,cp,rfl⟩:=hpv.slice
   refine ⟨keep _ (QE.Q0 Zl),?_⟩
   refine (XA (hk2.Q4 (QE.Q0 Zl))).mono ?_
   rintro qv w5 ⟨Ir,ZR⟩
   have Ir : Bs w5 qv p1:=Ir
   obtain ⟨ad',cp',rfl⟩:=Ir.slice
   have WX:=(QE.Q0 Zl).Q0 ZR
   refine ⟨keep _ WX,?_⟩
   exact QgD (A:=fun w' => Zg w' (.pointer (some ((⟨pb,0,none⟩ : Addr).add 0))) (.int .u64 o)) (fun w' e => keep _ (WX.Q0 e)) (Nat.le_trans QuS WX.size) (hpv.Q4 ZR) (Q7C.ext (Zl.Q0 ZR) fun h => h) Ir hlen fun v' w' hv e => ⟨keep _ (WX.Q0 e),fin v' w' hv (WX.Q0 e)⟩
end
structure Q4Q (w w' : World) (o : Nat) (t t' : T) (mt : Option Y3) (n n' : Nat) (e : E) : Prop where
 res : AJ w w' o t t' mt n'
 er : t'.er = e
 QR : t.ZJ → t'.ZJ
 own : ∀ q : Nat → Prop,q o → t.OwQ q → t'.OwQ q
 root : ∀ a,t.ptr = some ⟨a,0,none⟩ → ∃ cs T,QZ w' a cs T
 nil : t' = .nil → Ext No w w' ∧ n' = n
 RJ : n' + t'.RJ o ≤ n + t.RJ o + 1
 up : t.Up o → t'.Up o ∧ (t' = .nil ∨ t'.Top o ∨ t' = t)
theorem Q4Q.from' {w w1 w2 : World} {o n n' : Nat} {t t' : T} {mt : Option Y3} {e : E} (he : Ext No w w1) (h : Q4Q w1 w2 o t t' mt n n' e) : Q4Q w w2 o t t' mt n n' e :=
 ⟨h.res.from' he,h.er,h.QR,h.own,h.root,fun e => ⟨he.Q0 (h.nil e).1,(h.nil e).2⟩,h.RJ,h.up⟩
theorem Q2n {kids : UInt8 → T} : Y2 (fun c => (kids c).er) = cnt (ptrs kids):=X.WR fun c => T.WQ (kids c)
theorem Vd {a ow : Nat} {part : Key} {val : Option Nat} {ks : List Nat} {kids : UInt8 → T} {c : UInt8} (h : c ∈ dom (ptrs kids)) : part.length + 1 + (kids c).er.long ≤ (T.node a ow part val ks kids).er.long:=by
 have hlong : (T.node a ow part val ks kids).er.long = CZ ((dom (ptrs kids)).map fun c => (kids c).er.long + 1) + part.length:=by
  show (E.node part val fun c => (kids c).er).long = _
  rw [E.Ky,Ec]
 have:=Ay (l:=(dom (ptrs kids)).map fun c => (kids c).er.long + 1) (List.mem_map.2 ⟨c,h,rfl⟩)
 omega
theorem QiS {a ow : Nat} {part : Key} {val : Option Nat} {ks : List Nat} {kids : UInt8 → T} : part.length ≤ (T.node a ow part val ks kids).er.long:=by
 have hlong : (T.node a ow part val ks kids).er.long = CZ ((dom (ptrs kids)).map fun c => (kids c).er.long + 1) + part.length:=by
  show (E.node part val fun c => (kids c).er).long = _
  rw [E.Ky,Ec]
 omega
theorem Q7o {kids : UInt8 → T} {c : UInt8} (h : c ∈ dom (ptrs kids)) : ∃ a ow p v ks k,kids c = .node a ow p v ks k:=by
 have h:=Zd.1 h
 cases e : kids c with
 | nil => simp [ptrs,e,T.ptr] at h
 | node => exact ⟨_,_,_,_,_,_,rfl⟩
theorem Qbd {kids : UInt8 → T} {c : UInt8} (h : c ∉ dom (ptrs kids)) : kids c = .nil:=by
 cases e : kids c with
 | nil => rfl
 | node => exact absurd (Zd.2 (by simp [ptrs,e,T.ptr])) h
section
variable {w : World} {a ow o : Nat} {part : Key} {val : Option Nat} {ks : List Nat} {kids : UInt8 → T} {mt : Option Y3} {n : Nat}
theorem Qid {c : UInt8} {e : E} (ht : Tree w (.node a ow part val ks kids)) (hs : (T.node a ow part val ks kids).Sep o) (hm : Mt w mt n) (ho : o ≠ 0) (hlong : (T.node a ow part val ks kids).er.long ≤ 65535) (hc : c ∈ dom (ptrs kids)) (he : e = Q0B part c (kids c).er) :
  Q6 P Wm [Qls o mt,(T.node a ow part val ks kids).v,bv c,(kids c).v] w fun r w' => ∃ t' n',r = t'.v ∧ Q4Q w w' o (.node a ow part val ks kids) t' mt n n' e ∧ n' ≤ n + 1:=by
 obtain ⟨a1,ow1,p1,v1,H9,Ve,hk⟩:=Q7o hc
 have h1:=Vd (a:=a) (ow:=ow) (part:=part) (val:=val) (ks:=ks) hc
 have h2:=QiS (a:=a1) (ow:=ow1) (part:=p1) (val:=v1) (ks:=H9) (kids:=Ve)
 rw [← hk] at h2
 refine (QvB ht hs hm ho hk (by omega)).mono ?_
 rintro _ w1 ⟨u,Jw,n',rfl,hR,hiff,hle,-⟩
 obtain ⟨pv,hb,-⟩:=ht.1.blk
 refine ⟨.node u o (part ++ c :: p1) v1 Jw Ve,n',rfl,⟨hR.Qyj,?_,fun hl => ?_,fun q hq h => ?_,fun a' ha' => ?_,(fun e => by cases e),?_,fun hu => ⟨⟨.inl rfl,?_⟩,.inr (.inl rfl)⟩⟩,hle⟩
 · rw [he,hk]; rfl
 · have:=hl.2 c
   rw [hk] at this
   exact ⟨by rw [hiff]; exact this.1,this.2⟩
 · have:=h.2 c
   rw [hk] at this
   exact ⟨hq,this.2⟩
 · obtain rfl : a = a':=by simpa [T.ptr] using ha'
   refine ⟨_,_,hb.ext hR.ext fun hx => ?_⟩
   rcases hx with hx | hx
   · exact hm.ne hb (by decide) hx
   · exact hs.2.2.2 c a hx (.inl rfl)
 · have h1:=QlI o kids c
   rw [hk,Jg] at h1
   rw [Jg,Jg,if_pos rfl]
   omega
 · have:=hu.2 c
   rw [hk] at this
   exact this.2
theorem Qr7 (ht : Tree w (.node a ow part val ks kids)) (hs : (T.node a ow part val ks kids).Sep o) (hf : (T.node a ow part val ks kids).er.ZV) (hl : (T.node a ow part val ks kids).ZJ) (hm : Mt w mt n) (ho : o ≠ 0) (hlong : (T.node a ow part val ks kids).er.long ≤ 65535) (hv : val.isSome = true) :
  Q6 P E5 [Qls o mt,(T.node a ow part val ks kids).v] w fun r w' => ∃ t' n',r = t'.v ∧ Q4Q w w' o (.node a ow part val ks kids) t' mt n n' (YF part none fun c => (kids c).er) ∧ n' ≤ n + 1:=by
 refine Q4F ?_
 refine Qz fun pb w1 hpb hblk hz he => ?_
 have hblk : QZ w1 pb (Qfn o mt) WG:=hblk
 have ht1:=ht.Q4 he
 have hm1:=hm.Q4 he
 refine (Qoi ht1).mono ?_
 rintro _ w2 ⟨rfl,rfl⟩
 have hcnt : cnt (ptrs (T.node a ow part val ks kids).kid) = cnt (ptrs kids):=rfl
 rw [hcnt]
 have hcE:=Q2n (kids:=kids)
 refine Vu (fun h0 => ?_) fun h0 => ?_
 · have h0 : cnt (ptrs kids) = 0:=by omega
   obtain ⟨pv,hb,-⟩:=ht1.1.blk
   refine ⟨.nil,n,rfl,⟨⟨trivial,he.mono fun _ _ h => h.elim,hm1,fun b h => h.elim,fun b h => h.elim,trivial⟩,?_,fun _ => trivial,fun q _ _ => trivial,fun a' ha' => ?_,(fun _ => ⟨he,rfl⟩),(by have : (T.nil).RJ o = 0:=rfl; omega),fun _ => ⟨trivial,.inl rfl⟩⟩,by omega⟩
   · show E.nil = if Y2 (fun c => (kids c).er) = 0 then .nil else _
     rw [if_pos (by rw [hcE]; exact h0)]
   · obtain rfl : a = a':=by simpa [T.ptr] using ha'
     exact ⟨_,_,hb⟩
 · refine Vu (fun h1 => ?_) fun h1 => ?_
   · have h1 : cnt (ptrs kids) = 1:=by omega
     obtain ⟨c,hd⟩:=List.length_eq_one_iff.1 h1
     have hcd : c ∈ dom (ptrs kids):=by rw [hd]; simp
     refine (WS ht1 (i:=0) (by omega)).mono ?_
     rintro _ w3 ⟨rfl,QE⟩
     have Qbj : Vx (ptrs (T.node a ow part val ks kids).kid) 0 = .tuple #[nxB (dom (ptrs kids)),nxP (ptrs kids) (dom (ptrs kids))]:=YZ (VI _)
     rw [Qbj,hd]
     have hblk3:=hblk.ext QE fun h => h
     refine hblk3.JH rfl ?_
     refine (Qid (c:=c) (ht1.Q4 QE) hs (hm1.Q4 QE) ho hlong hcd (N7 (kids:=fun c => (kids c).er) (c:=c) (by show ((kids c).er).opt.isSome = true; rw [T.WQ]; exact Zd.1 hcd) fun d hdc => ?_)).mono ?_
     · have : kids d = .nil:=Qbd (by rw [hd]; simpa using hdc)
       simp only [this]; rfl
     · rintro _ w4 ⟨t',n',rfl,hD,hle⟩
       exact ⟨t',n',rfl,hD.from' (he.Q0 QE),hle⟩
   · refine hblk.ld (v:=mv mt) rfl ?_
     refine hblk.ld (v:=.int .u64 o) rfl ?_
     have hks : ks ≠ []:=fun e => by have : cnt (ptrs kids) = 0:=hl.1.1 e; omega
     refine (Q1C (AJ.start ht1 hs hm1).h ho).mono ?_
     rintro _ w3 ⟨u,Jw,n',rfl,hH,hiff,QE,hle,Un⟩
     have hblk3:=hblk.ext QE (hm1.ne hblk (by decide))
     refine hblk3.ld (v:=.int .u64 o) rfl ?_
     refine (QgH (hH.res rfl) ho (fun h => hks (hiff.1 h)) hv).mono ?_
     rintro _ w4 ⟨hR,-⟩
     refine ⟨.node u o part none Jw kids,n',rfl,Q4Q.from' he ⟨hR,?_,fun hl => ⟨by rw [hiff]; exact hl.1,hl.2⟩,fun q hq h => ⟨hq,h.2⟩,(Q6n hR ht1 hs hm1 fun e => .inl (.inl (Un e).1.symm)),(fun e => by cases e),(by rw [Jg,Jg,if_pos rfl]; omega),fun hu => ⟨⟨.inl rfl,hu.2⟩,.inr (.inl rfl)⟩⟩,hle⟩
     show E.node part none (fun c => (kids c).er) = if Y2 (fun c => (kids c).er) = 0 then .nil else if Y2 (fun c => (kids c).er) = 1 then _ else _
     rw [if_neg (by rw [hcE]; omega),if_neg (by rw [hcE]; omega)]
theorem Qkh {w : World} {b o : Nat} {cs : List Value} {T : TypeId} {v : Value} (h : QZ w b cs T) (hv : cs[o]? = some v) : Zg w (.pointer (some ((⟨b,0,none⟩ : Addr).add o))) v:=by
 show w.cell? ((⟨b,0,none⟩ : Addr).add o) = some v
 rw [Addr.add_lit,h.cell,Nat.zero_add,hv]
theorem QgP {c : UInt8} (ht : Tree w (.node a ow part val ks kids)) (hs : (T.node a ow part val ks kids).Sep o) (hf : (T.node a ow part val ks kids).er.ZV) (hl : (T.node a ow part val ks kids).ZJ) (hm : Mt w mt n) (ho : o ≠ 0) (hlong : (T.node a ow part val ks kids).er.long ≤ 65535) (hc : c ∈ dom (ptrs kids)) :
  Q6 P AZ [Qls o mt,(T.node a ow part val ks kids).v,bv c] w fun r w' => ∃ t' n',r = t'.v ∧ Q4Q w w' o (.node a ow part val ks kids) t' mt n n' (YF part val (JU (fun c => (kids c).er) c .nil)) ∧ t' ≠ .nil ∧ n' ≤ n + 1:=by
 refine Q0s ?_
 refine Qz fun pb w1 hpb hblk hz he => ?_
 have hblk : QZ w1 pb (Qfn o mt) WG:=hblk
 have ht1:=ht.Q4 he
 have hm1:=hm.Q4 he
 have hcE:=Q2n (kids:=kids)
 have hks : ks ≠ []:=fun e => by
  have : cnt (ptrs kids) = 0:=hl.1.1 e
  unfold cnt at this
  rw [List.length_eq_zero_iff.1 this] at hc
  cases hc
 have Qgc : ((kids c).er).opt.isSome = true:=by rw [T.WQ]; exact Zd.1 hc
 have hupd : Y2 (JU (fun c => (kids c).er) c .nil) + 1 = cnt (ptrs kids):=by
  have:=Df (fun c => (kids c).er) c .nil
  rw [if_pos Qgc,hcE] at this
  simpa [E.opt] using this
 have QmT:=(Dc hf).2.1 (by rw [hcE]; omega)
 rw [hcE] at QmT
 refine (Cj ht1).mono ?_
 rintro _ w2 ⟨rfl,rfl⟩
 refine (Qog ht1.1).mono ?_
 rintro _ w2' ⟨rfl,rfl⟩
 have hone : one val = if val.isSome then 1 else 0:=rfl
 rw [← hone]
 refine ZF (fun h2 => ?_) fun h2 => ?_
 · have h2 : 2 < cnt (ptrs kids) + one val:=by omega
   refine hblk.ld (v:=mv mt) rfl ?_
   refine hblk.ld (v:=.int .u64 o) rfl ?_
   refine (Q1C (AJ.start ht1 hs hm1).h ho).mono ?_
   rintro _ w3 ⟨u,Jw,n',rfl,hH,hiff,QE,hle,Un⟩
   have hblk3:=hblk.ext QE (hm1.ne hblk (by decide))
   refine hblk3.ld (v:=.int .u64 o) rfl ?_
   refine (QgI (hH.res rfl) ho (fun h => hks (hiff.1 h)) (Zd.1 hc)).mono ?_
   rintro _ w4 ⟨Yb,hR,hne,-,-⟩
   have ho1 : one val ≤ 1:=by rw [hone]; split <;> omega
   refine ⟨.node u o part val Yb (Zt kids c .nil),n',rfl,Q4Q.from' he ⟨hR,?_,fun hl => ⟨iff_of_false hne fun e => ?_,fun d => ?_⟩,fun q hq h => ⟨hq,fun d => ?_⟩,(Q6n hR ht1 hs hm1 fun e => .inl (.inl (Un e).1.symm)),(fun e => by cases e),?_,fun hu => ⟨⟨.inl rfl,fun d => ?_⟩,.inr (.inl rfl)⟩⟩,by simp,hle⟩
   · show E.node part val (fun d => (Zt kids c .nil d).er) = _
     rw [Uf,Q2d (by show 2 ≤ Y2 (JU (fun c => (kids c).er) c .nil) + one val; omega)]
     rfl
   · have h3 : Y2 (fun d => (Zt kids c .nil d).er) = cnt (ptrs (Zt kids c .nil)):=Q2n
     rw [Uf] at h3
     have h4 : Y2 (JU (fun c => (kids c).er) c .nil) = cnt (ptrs (Zt kids c .nil)):=h3
     have h5 : cnt (ptrs (Zt kids c .nil)) = 0:=e
     omega
   · unfold Zt; split
     · trivial
     · exact hl.2 d
   · unfold Zt; split
     · trivial
     · exact h.2 d
   · have h1:=WV o kids c .nil
     have h2 : (T.nil).RJ o = 0:=rfl
     rw [Jg,Jg,if_pos rfl]
     omega
   · unfold Zt; split
     · trivial
     · exact hu.2 d
 · cases val with
   | some v =>
     refine Qr rfl ?_
     have h1 : one (some v) = 1:=rfl
     have hd:=Ext.drew (Ext.refl No w2')
     have Qn8:=hblk.drew
     refine Qn8.ld (v:=mv mt) rfl ?_
     refine Qn8.ld (v:=.int .u64 o) rfl ?_
     refine (XA (ht1.Q4 hd)).mono ?_
     rintro pv w3 ⟨hpv,QE⟩
     have hpv : Bs w3 pv part:=hpv
     have hblk3:=Qn8.ext QE fun h => h
     refine ⟨Qkh hblk3 rfl,Qkh hblk3 rfl,?_⟩
     have QuY : Ext No w2' w3:=hd.Q0 QE
     refine (QbS (hm1.Q4 QuY) hpv ht.1.short (ht.1.v64 v rfl)).mono ?_
     rintro _ w4 ⟨lf,rfl,htl,hlf,hm4,Zl⟩
     obtain ⟨pv0,hb,-⟩:=ht.1.blk
     have hE : Ext (MX mt) w w4:=((he.Q0 QuY).mono fun _ _ h => h.elim).QI Zl
     have hz3:=(he.Q0 QuY).size
     refine ⟨.node lf o part (some v) [] fun _ => .nil,n + 1,rfl,⟨⟨htl,hE.mono fun b _ h => .inl h,hm4,fun b hb => .inr (by rw [D6 hb]; omega),fun b hb => .inr (by rw [D6 hb.all]; omega),Sep.leaf⟩,?_,fun _ => OV,fun q hq _ => ⟨hq,fun _ => trivial⟩,fun a' ha' => ?_,(fun e => by cases e),(by rw [Q2h]; omega),fun _ => ⟨Q6v,.inr (.inl rfl)⟩⟩,by simp,by omega⟩
     · show E.node part (some v) Du = .node part (some v) (JU (fun c => (kids c).er) c .nil)
       rw [Np (kids:=JU (fun c => (kids c).er) c .nil) (by omega)]
     · obtain rfl : a = a':=by simpa [T.ptr] using ha'
       exact ⟨_,_,hb.ext hE (hm.ne hb (by decide))⟩
   | none =>
     refine Qp rfl ?_
     have h1 : one none = 0:=rfl
     have hc2 : (dom (ptrs kids)).length = 2:=by show cnt (ptrs kids) = 2; omega
     obtain ⟨d1,d2,Qgb⟩ : ∃ d1 d2,dom (ptrs kids) = [d1,d2]:=by
      match h : dom (ptrs kids),hc2 with
      | [x,y],_ => exact ⟨x,y,rfl⟩
     refine (WS ht1 (i:=0) (by omega)).mono ?_
     rintro _ w3 ⟨rfl,QE⟩
     have Qbj : Vx (ptrs (T.node a ow part none ks kids).kid) 0 = .tuple #[nxB (dom (ptrs kids)),nxP (ptrs kids) (dom (ptrs kids))]:=YZ (VI _)
     rw [Qbj,Qgb]
     have hdne : d1 ≠ d2:=by
      have:=Xl (ptrs kids)
      rw [Qgb] at this
      intro e
      have:=(List.pairwise_cons.1 this).1 d2 (by simp)
      rw [e] at this
      exact absurd this (by simp)
     have hblk3:=hblk.ext QE fun h => h
     refine xj (fun vs w' => ∃ d,vs = [bv d,(kids d).v] ∧ Ext No w2' w' ∧ d ≠ c ∧ d ∈ dom (ptrs kids)) ?_ ?_
     · refine Vu (fun e => ?_) fun e => ?_
       · have e : d1 = c:=by
          have : ((d1.toNat : Nat) : Int) = (c.toNat : Int):=e
          exact UInt8.toNat_inj.1 (by omega)
         subst e
         have hcb:=MV d1
         refine xi (r:=(d1.toNat : Int)) (QQ (by omega)) ?_
         refine xi (r:=((d1.toNat + 1 : Nat) : Int)) (by rw [QQ (by omega)]; omega) ?_
         refine (WS (ht1.Q4 QE) (i:=d1.toNat + 1) (by omega)).mono ?_
         rintro r w4 ⟨rfl,Zl⟩
         have hnx : Vx (ptrs (T.node a ow part none ks kids).kid) (d1.toNat + 1) = .tuple #[nxB [d2],nxP (ptrs kids) [d2]]:=YZ (UI (d:=[]) Qgb)
         rw [hnx]
         exact ⟨d2,rfl,QE.Q0 Zl,hdne.symm,by rw [Qgb]; simp⟩
       · refine ⟨d1,rfl,QE,fun h => e (by rw [h]),by rw [Qgb]; simp⟩
     · rintro vs g w4 ⟨d,rfl,Zl,hdc,hdd⟩
       have Ni:=hblk.ext Zl fun h => h
       refine Ni.JH rfl ?_
       refine (Qid (c:=d) (ht1.Q4 Zl) hs (hm1.Q4 Zl) ho hlong hdd (e:=YF part none (JU (fun c => (kids c).er) c .nil)) ?_).mono ?_
       · rw [N7 (kids:=JU (fun c => (kids c).er) c .nil) (c:=d) (by rw [ZN _ _ hdc]; rw [T.WQ]; exact Zd.1 hdd) fun x hx => ?_]
         · rw [ZN _ _ hdc]
         · by_cases hxc : x = c
           · subst hxc; rw [JI]
           · rw [ZN _ _ hxc]
             have : kids x = .nil:=Qbd (fun h => by
              rw [Qgb] at h hdd hc
              simp only [List.mem_cons,List.mem_nil_iff,or_false] at h hdd hc
              rcases h with rfl | rfl <;> rcases hdd with rfl | rfl <;> rcases hc with rfl | rfl <;> simp_all)
             rw [this]; rfl
       · rintro _ w5 ⟨t',n',rfl,hD,hle⟩
         refine ⟨t',n',rfl,hD.from' (he.Q0 Zl),fun e => ?_,hle⟩
         have her:=hD.er
         rw [e,N7 (kids:=JU (fun c => (kids c).er) c .nil) (c:=d) (by rw [ZN _ _ hdc]; rw [T.WQ]; exact Zd.1 hdd) fun x hx => ?_] at her
         · rw [ZN _ _ hdc] at her
           obtain ⟨a1,ow1,p1,v1,H9,Ve,hk⟩:=Q7o hdd
           rw [hk] at her
           cases her
         · by_cases hxc : x = c
           · subst hxc; rw [JI]
           · rw [ZN _ _ hxc]
             have : kids x = .nil:=Qbd (fun h => by
              rw [Qgb] at h hdd hc
              simp only [List.mem_cons,List.mem_nil_iff,or_false] at h hdd hc
              rcases h with rfl | rfl <;> rcases hdd with rfl | rfl <;> rcases hc with rfl | rfl <;> simp_all)
             rw [this]; rfl
end
def OutS (o : Nat) (mt : Option Y3) (t : T) : Prop:=∀ {w : World} {vk : Value} {k : Key} {n : Nat},Tree w t → t.Sep o → t.er.ZV → t.ZJ → t.er.long ≤ 65535 → Mt w mt n → Bs w vk k → (t.get k).isSome = true →
 Q6 P Bw [Qls o mt,t.v,vk] w fun r w' => ∃ t' n',r = t'.v ∧ Q4Q w w' o t t' mt n n' (Nn t.er k) ∧ n' ≤ n + t.steps k ∧ (t.OwQ (· = o) → n' ≤ n + 1)
theorem Qqo {part : Key} {val : Option Nat} {kids : UInt8 → E} {k : Key} (h : ((E.node part val kids).get k).isSome = true) : ∃ r,k = part ++ r:=by
 by_cases hp : part <+: k
 · obtain ⟨r,rfl⟩:=hp; exact ⟨r,rfl⟩
 · rw [J3 hp] at h; cases h
theorem QvO {o : Nat} {mt : Option Y3} (ho : o ≠ 0) : ∀ t,OutS o mt t:=by
 intro t
 induction t with
 | nil => intro w vk k n _ _ _ _ _ _ _ hg; cases hg
 | node a ow part val ks kids ih =>
   intro w vk k n ht hs hf hl hlong hm hk hg
   obtain ⟨r,rfl⟩:=Qqo hg
   refine Q6a ?_
   refine Qz fun pb w1 hpb hblk hz he => ?_
   have hblk : QZ w1 pb (Qfn o mt) WG:=hblk
   refine (XA (ht.Q4 he)).mono ?_
   rintro pv w2 ⟨hpv,he2⟩
   have hpv : Bs w2 pv part:=hpv
   have hE2:=he.Q0 he2
   have hblk2:=hblk.ext he2 fun h => h
   refine hpv.len ?_
   refine (hk.Q4 hE2).drop part.length rfl (by simp) fun v' hv' => ?_
   rw [List.drop_left] at hv'
   refine hv'.len ?_
   have hsp:=Q3I (a:=a) (ow:=ow) (part:=part) (val:=val) (ks:=ks) (kids:=kids) (k:=part ++ r)
   cases r with
   | nil =>
     refine Qr rfl ?_
     refine hblk2.JH rfl ?_
     have hval : val.isSome = true:=by
      have : (T.node a ow part val ks kids).get (part ++ []) = val:=by rw [List.append_nil]; exact get_nil
      rw [this] at hg; exact hg
     refine (Qr7 (ht.Q4 hE2) hs hf hl (hm.Q4 hE2) ho hlong hval).mono ?_
     rintro _ w3 ⟨t',n',rfl,hD,hle⟩
     have he' : Nn (T.node a ow part val ks kids).er (part ++ []) = YF part none fun c => (kids c).er:=Q2y
     rw [← he'] at hD
     exact ⟨t',n',rfl,hD.from' hE2,by omega,fun _ => hle⟩
   | cons c r =>
     refine Qp (by simp; omega) ?_
     refine hv'.rd 0 (by simp) rfl ?_
     refine (FI (ht.Q4 hE2)).mono ?_
     rintro _ w3 ⟨rfl,QE⟩
     have JD : Ext No w w3.drew:=(hE2.Q0 QE).drew
     have hblk3 : QZ w3.drew pb (Qfn o mt) WG:=(hblk2.ext QE fun h => h).drew
     have ht3:=ht.Q4 JD
     have Dw:=hm.Q4 JD
     have hv3 : Bs w3.drew v' (c :: r):=(hv'.Q4 QE).Q4 (Ext.refl No w3).drew
     refine hblk3.JH rfl ?_
     refine (hv'.Q4 QE).drop 1 rfl (by simp) fun vr hvr => ?_
     have hvr : Bs w3.drew vr r:=hvr.Q4 (Ext.refl No w3).drew
     have hgk : (T.node a ow part val ks kids).get (part ++ c :: r) = (kids c).get r:=Z8
     rw [hgk] at hg
     have hcd : c ∈ dom (ptrs kids):=by
      refine Zd.2 ?_
      cases e : kids c with
      | nil => rw [e] at hg; cases hg
      | node => simp [ptrs,e,T.ptr]
     have hlk:=Vd (a:=a) (ow:=ow) (part:=part) (val:=val) (ks:=ks) hcd
     have hstep : (T.node a ow part val ks kids).steps (part ++ c :: r) = (kids c).steps r + 1:=by
      rw [T.DF,if_pos (List.prefix_append _ _),List.drop_left]
     have hdel : Nn (T.node a ow part val ks kids).er (part ++ c :: r) = YF part val (JU (fun c => (kids c).er) c (Nn (kids c).er r)):=Q2y
     refine (ih c (ht3.2 c) (hs.1 c) (hf.2 c) (hl.2 c) (by omega) Dw hvr hg).mono ?_
     rintro _ w4 ⟨t2,n2,rfl,hD,hle,hown⟩
     have hH:=Q4P.kid ht3 hs Dw hD.res
     have hx1 : ∀ b,(MX mt b ∨ (T.node a ow part val ks kids).Bt o b) → b ≠ pb:=fun b hb e => by
      subst e
      rcases hb with hb | hb
      · exact Dw.ne hblk3 (by decide) hb
      · exact ht3.not hblk3 QpI hb.all
     have Ni : QZ w4 pb (Qfn o mt) WG:=hblk3.ext hH.ext fun h => hx1 _ h rfl
     have hv4 : Bs w4 v' (c :: r):=hv3.ext hH.ext (Dw.nb.or (Bt.nb ht3))
     obtain ⟨a1,ow1,p1,v1,H9,Ve,hkc⟩:=Q7o hcd
     have hkp : (kids c).ptr = some ⟨a1,0,none⟩:=by rw [hkc]; rfl
     have hks : ks ≠ []:=fun e => by
      have : cnt (ptrs kids) = 0:=hl.1.1 e
      unfold cnt at this
      rw [List.length_eq_zero_iff.1 this] at hcd
      cases hcd
     by_cases htn : t2 = .nil
     · subst htn
       obtain ⟨Zl,rfl⟩:=hD.nil rfl
       refine (show YV P w4 (.pointer none) (.pointer (kids c).ptr) _ from ?_)
       rw [hkp]
       refine Qp rfl ?_
       refine Qp rfl ?_
       have hd4:=Ext.drew (Ext.refl No w4)
       refine Ni.drew.JH rfl ?_
       refine (hv4.Q4 hd4).rd 0 (by simp) rfl ?_
       have U9:=JD.Q0 (Zl.Q0 hd4)
       refine (QgP (c:=c) (ht.Q4 U9) hs hf hl (hm.Q4 U9) ho hlong hcd).mono ?_
       rintro _ w5 ⟨t',n',rfl,hD',-,QzH⟩
       have hz : Nn (kids c).er r = .nil:=hD.er.symm
       rw [hdel,hz]
       exact ⟨t',n',rfl,hD'.from' U9,by omega,fun _ => QzH⟩
     · obtain ⟨a2,ow2,p2,v2,ks2,Bl,Q5R⟩ : ∃ a ow p v ks k,t2 = .node a ow p v ks k:=by
        cases t2 with
        | nil => exact absurd rfl htn
        | node => exact ⟨_,_,_,_,_,_,rfl⟩
       have hp2 : t2.ptr = some ⟨a2,0,none⟩:=by rw [Q5R]; rfl
       have hv2 : t2.v = rp a2:=by show Value.pointer t2.ptr = _; rw [hp2]
       have hcE:=Q2n (kids:=kids)
       have Qgc : ((kids c).er).opt.isSome = true:=by rw [T.WQ]; exact Zd.1 hcd
       have Qvl : (t2.er).opt.isSome = true:=by rw [T.WQ,hp2]; rfl
       have hupd : Y2 (JU (fun c => (kids c).er) c t2.er) = cnt (ptrs kids):=by
        have:=Df (fun c => (kids c).er) c t2.er
        rw [if_pos Qgc,if_pos Qvl,hcE] at this
        omega
       have hc0 : Y2 (fun c => (kids c).er) ≠ 0:=by
        rw [hcE]
        intro e
        unfold cnt at e
        rw [List.length_eq_zero_iff.1 e] at hcd
        cases hcd
       have QmT:=(Dc hf).2.1 hc0
       rw [hcE] at QmT
       have her : ∀ u Jw,(T.node u o part val Jw (Zt kids c t2)).er = Nn (T.node a ow part val ks kids).er (part ++ c :: r):=fun u Jw => by
        show E.node part val (fun d => (Zt kids c t2 d).er) = _
        rw [hdel,Uf,← hD.er,Q2d (by omega)]
       have QmQ : (T.node a ow part val ks kids).ZJ → ∀ d,(Zt kids c t2 d).ZJ:=fun hlf d => by
        unfold Zt; split
        · exact hD.QR (hlf.2 c)
        · exact hlf.2 d
       have QmD : ∀ q : Nat → Prop,q o → (∀ d,(kids d).OwQ q) → ∀ d,(Zt kids c t2 d).OwQ q:=fun q hq h d => by
        unfold Zt; split
        · exact hD.own q hq (h c)
        · exact h d
       obtain ⟨pv0,hba,-⟩:=hH.na.blk
       obtain ⟨cs1,T1,hb1⟩:=hD.root a1 hkp
       have hb2 : ∃ cs T,QZ w4 a2 cs T:=by
        have:=hD.res.tree
        rw [Q5R] at this
        obtain ⟨pv,hb,-⟩:=this.1.blk
        exact ⟨_,_,hb⟩
       obtain ⟨cs2,T2,hb2⟩:=hb2
       show Ia P w4 (.pointer t2.ptr) (.pointer (kids c).ptr) _
       rw [hp2,hkp]
       by_cases e : a2 = a1
       · subst e
         refine I9 (run_sameAddr_same _ _) ?_
         refine Qr rfl ?_
         have hmm : ptrs kids = ptrs (Zt kids c t2):=by rw [GG,hp2,← hkp]; exact (Qli _ _).symm
         refine ⟨.node a ow part val ks (Zt kids c t2),n2,rfl,Q4Q.from' JD ⟨hH.res hmm,?_,fun hlf => ⟨by rw [show (fun d => (Zt kids c t2 d).ptr) = ptrs (Zt kids c t2) from rfl,← hmm]; exact hlf.1,QmQ hlf⟩,fun q hq h => ⟨h.1,QmD q hq h.2⟩,fun a' ha' => ?_,(fun e => by cases e),?_,fun hu => ?_⟩,by rw [hstep]; omega,fun h => hown (h.2 c)⟩
         · exact her a ks
         · obtain rfl : a = a':=by simpa [T.ptr] using ha'
           exact ⟨_,_,hba⟩
         · have h1:=hD.RJ
           have h2:=WV o kids c t2
           rw [Jg,Jg]
           omega
         · obtain ⟨u1,u2⟩:=hD.up (hu.2 c)
           have how : ow = o:=hu.1.elim id fun hf => by
            exfalso
            rcases u2 with u2 | u2 | u2
            · exact htn u2
            · exact QcZ (ht3.2 c) hD.res.tree Dw hD.res.ext (hf c) (by rw [hp2,hkp]) u2
            · have h1 : (kids c).er = Nn (kids c).er r:=by rw [← hD.er,u2]
              have h2 : (Nn (kids c).er r).get r = none:=by rw [Q7R,if_pos rfl]
              rw [← h1] at h2
              have h3 : (kids c).get r = none:=h2
              rw [h3] at hg
              cases hg
           refine ⟨⟨.inl how,fun d => ?_⟩,.inr (.inl how)⟩
           unfold Zt; split
           · exact u1
           · exact hu.2 d
       · refine I9 (run_sameAddr_other _ (by simp [e]) hb2.h hb1.h) ?_
         refine Qp rfl ?_
         have hne : ∀ K : Value → Prop,K (.bool true) → Y1 P w4 t2.v (.pointer none) K:=fun K k => by rw [hv2]; exact k
         refine hne _ ?_
         refine Qr rfl ?_
         refine Ni.ld (v:=mv mt) rfl ?_
         refine Ni.ld (v:=.int .u64 o) rfl ?_
         refine (Q1C hH ho).mono ?_
         rintro _ w5 ⟨u,Jw,n3,rfl,hH5,hiff,ZR,hle5,Un⟩
         have hblk5 : QZ w5.drew pb (Qfn o mt) WG:=(Ni.ext ZR (hH.cnt.ne Ni (by decide))).drew
         have QAp:=(hba.ext ZR (hH.cnt.ne hba (by decide))).drew
         have hv5 : Bs w5.drew v' (c :: r):=(hv4.mt ZR hH.cnt).Q4 (Ext.refl No w5).drew
         have QAN:=hH5.Q4 (Ext.refl No w5).drew
         have hu : Jw ≠ []:=fun h => hks (hiff.1 h)
         refine hblk5.ld (v:=.int .u64 o) rfl ?_
         refine hv5.rd 0 (by simp) rfl ?_
         rw [hv2]
         refine (Qor QAN ho hu (c0:=c) (by rw [Vo]; exact hp2) fun d hd => by rw [WJ _ _ hd]).mono ?_
         rintro _ w6 ⟨Yb,hR6,QdC,Ke⟩
         have hnu : a ≠ u → ¬ a ∈ Jw:=fun _ hx => by
          obtain ⟨cs',T',h1,h2⟩:=QAN.na.kd.ty a hx
          exact h2.ne.2.1 (h1.inj QAp).2
         refine ⟨.node u o part val Yb (Zt kids c t2),n3,rfl,Q4Q.from' JD ⟨hR6,her u Yb,fun hlf => ⟨iff_of_false QdC (MU (by rw [hp2]; rfl)),QmQ hlf⟩,fun q hq h => ⟨hq,QmD q hq h.2⟩,fun a' ha' => ?_,(fun e => by cases e),?_,fun hu => ⟨⟨.inl rfl,fun d => ?_⟩,.inr (.inl rfl)⟩⟩,by rw [hstep]; omega,fun h => ?_⟩
         · obtain rfl : a = a':=by simpa [T.ptr] using ha'
           by_cases hau : a = u
           · subst hau
             obtain ⟨pvu,hbu,-⟩:=hR6.tree.1.blk
             exact ⟨_,_,hbu⟩
           · exact ⟨_,_,QAp.ext Ke (hnu hau)⟩
         · have h1:=hD.RJ
           have h2:=WV o kids c t2
           rw [Jg,Jg,if_pos rfl]
           split
           · rename_i how
             have:=(Un how.symm).2.2
             omega
           · omega
         · unfold Zt; split
           · exact (hD.up (hu.2 c)).1
           · exact hu.2 d
         · have:=(Un h.1.symm).2.2
           have:=hown (h.2 c)
           omega
theorem QBP {w : World} {t : T} {o n : Nat} {mt : Option Y3} {vk : Value} {k : Key} (ht : Tree w t) (hs : t.Sep o) (hf : t.er.ZV) (hl : t.ZJ) (hlong : t.er.long ≤ 65535) (hm : Mt w mt n) (ho : o ≠ 0) (hk : Bs w vk k) (hkl : k.length ≤ 65535) :
  Q6 P Q3T [t.v,vk,.int .u64 o,mv mt] w fun r w' => ∃ t' n',r = .tuple #[t'.v,.bool (t.get k).isSome,.int .i64 0] ∧ Q4Q w w' o t t' mt n n' (Nn t.er k) ∧ n' ≤ n + t.steps k ∧ (t.OwQ (· = o) → n' ≤ n + 1) ∧ (t.get k = none → t' = t ∧ n' = n):=by
 refine Qka ?_
 refine Qp (by simp; omega) ?_
 refine (Qi6 hk).mono ?_
 rintro _ w1 ⟨rfl,rfl⟩
 rw [if_pos hkl]
 refine Qp rfl ?_
 refine (QBO hm.fl ht hk (by omega)).mono ?_
 rintro _ w2 ⟨rfl,he2⟩
 cases hg : t.get k with
 | none =>
   refine Qr rfl ?_
   refine ⟨t,n,rfl,⟨(AJ.start (ht.Q4 he2) hs (hm.Q4 he2)).from' he2,?_,id,fun q _ h => h,fun a ha => ?_,(fun _ => ⟨he2,rfl⟩),by omega,fun h => ⟨h,.inr (.inr rfl)⟩⟩,by omega,fun _ => by omega,fun _ => ⟨rfl,rfl⟩⟩
   · exact E.unique hf (Qar hf) fun k' => by
      rw [Q7R]
      split
      · rename_i e; subst e; exact hg
      · rfl
   · cases t with
     | nil => cases ha
     | node a1 ow1 p1 v1 H9 Ve =>
       obtain ⟨pv,hb,-⟩:=(ht.Q4 he2).1.blk
       obtain rfl : a1 = a:=by simpa [T.ptr] using ha
       exact ⟨_,_,hb⟩
 | some v =>
   refine Qp rfl ?_
   refine (QvO (mt:=mt) ho t (ht.Q4 he2) hs hf hl hlong (hm.Q4 he2) (hk.Q4 he2) (by rw [hg]; rfl)).mono ?_
   rintro _ w3 ⟨t',n',rfl,hD,hle,hown⟩
   exact ⟨t',n',rfl,hD.from' he2,hle,hown,fun e => by cases e⟩
end Go.Proofs.YtbnhggfiembejaaGreatDoor
end
