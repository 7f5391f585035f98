import Derived.Test.YtbnhggfiembejaaGreatDoorUni14
import Derived.Test.YtbnhggfiembejaaGreatDoorLeft
import Derived.Test.YtbnhggfiembejaaGreatDoorSAi
import Derived.Test.YtbnhggfiembejaaGreatDoorList
import Derived.Test.YtbnhggfiembejaaGreatDoorRefV
section
namespace Go.Proofs.YtbnhggfiembejaaGreatDoor
open Go Go.RowKit X
set_option linter.unusedSimpArgs false
set_option linter.unusedVariables false
set_option linter.unusedSectionVars false
noncomputable abbrev Qd0 (i : Nat) : Field:=(P.fieldsOf KV).getD i { name:="",type:=0,offset:=0,embedded:=false,tag:="",pkgPath:="",byteOffset:=0 }
theorem QlD : (P.fieldsOf KV).toList = [Qd0 0,Qd0 1]:=by kernel_rfl
theorem Qu0 : (Qd0 0).name = "Node" ∧ (Qd0 0).type = Jz ∧ (Qd0 0).offset = 0:=⟨by kernel_rfl,by kernel_rfl,by kernel_rfl⟩
theorem QtZ : (Qd0 1).name = "gone" ∧ (Qd0 1).type = Ht ∧ (Qd0 1).offset = 1:=⟨by kernel_rfl,by kernel_rfl,by kernel_rfl⟩
theorem Qiq {w : World} {a b : Nat} {i j : Nat} {x y : Operand} {t : Bool} {K : Bool → Prop} (h : (sameAddr ⟨a,0,none⟩ ⟨b,0,none⟩).run P w = .ok t w) (k : K (t && decide (i = j))) :
  Q8f P .eql KV x y (.agg #[rp a,.int .i64 i]) (.agg #[rp b,.int .i64 j]) w K:=by
 refine ⟨⟨t && decide (i = j),run_eqGuard_agg w _ _ _ _ _ _ (by kernel_rfl),?_,k⟩⟩
 show (Op.equalIn (9999 + 1) KV _ _).run P w = _
 rw [run_equalIn_struct w 9999 _ _ _ (by kernel_rfl) (by kernel_rfl),QlD]
 obtain ⟨n0,t0,o0⟩:=Qu0
 obtain ⟨n1,t1,o1⟩:=QtZ
 have e1 : (((i : Nat) : Int) == (j : Int)) = decide (i = j):=by
  by_cases e : i = j
  · subst e; simp
  · rw [decide_eq_false e]; exact beq_eq_false_iff_ne.2 (by omega)
 have hint : (Op.equalIn 9999 Ht (.int .i64 (i : Int)) (.int .i64 (j : Int))).run P w = .ok (decide (i = j)) w:=by
  have:=run_equalIn_int w 9998 Ht .i64 .i64 (i : Int) (j : Int) G7
  rw [e1] at this
  exact this
 obtain ⟨inf,QmR⟩:=Q7s
 refine Qgo (x0:=rp a) (y0:=rp b) (x1:=.int .i64 (i : Int)) (y1:=.int .i64 (j : Int)) (by rw [n0]; decide) (by rw [n1]; decide) ?_ ?_ ?_ ?_ ?_ ?_
 · rw [t0,o0]; exact Vq Ei Q0c rfl
 · rw [t0,o0]; exact Vq Ei Q0c rfl
 · rw [t0]; exact Q7N (d:=9998) Ei QmR (by rw [Gj]; decide) h
 · rw [t1,o1]; exact Vq G7 Q0d rfl
 · rw [t1,o1]; exact Vq G7 Q0d rfl
 · rw [t1]; exact hint
def U8 (p : Nat) : Option Nat → Option Nat → Option Nat
 | some a,some b => some (CF p a b)
 | _,_ => none
theorem Cg {p : Nat} {x : Option Nat} : U8 p x none = none:=by cases x <;> rfl
theorem Qdw {p : Nat} (h : p ≠ 3) (hp : 1 ≤ p ∧ p ≤ 5) (x : Option Nat) : U8 p x x = x:=by
 cases x with
 | none => rfl
 | some v =>
   show some (CF p v v) = some v
   obtain ⟨h1,h2⟩:=hp
   match p,h1,h2,h with
   | 1,_,_,_ => rfl
   | 2,_,_,_ => rfl
   | 3,_,_,h => exact absurd rfl h
   | 4,_,_,_ => simp [CF]
   | 5,_,_,_ => simp [CF]
def gI (p : Nat) (a b : E) (oa ob : Nat) (k : Key) : Option Nat:=U8 p (a.get k) ((W9 ob b).get (k.drop oa))
abbrev Cb (t : T) (off : Nat) : Value:=.agg #[t.v,.int .i64 off]
abbrev Q5O (p o : Nat) (mt : Option Y3) : Value:=.agg #[.int .i64 p,.int .u64 o,mv mt]
abbrev Qlz (p o : Nat) (mt : Option Y3) : List Value:=[.int .i64 p,.int .u64 o,mv mt]
theorem E.Nj {e : E} (hf : e.ZV) (h : e ≠ .nil) : ∃ k v,e.get k = some v:=by
 refine hf.V8 fun e' => ?_
 exact h e'
variable [Floor]
section
variable {ap bp : Key} {av bv' : Option Nat} {ak bk : UInt8 → E} {p oa ob : Nat}
theorem Nl {ap r : Key} {oa : Nat} (h : oa ≤ ap.length) : (ap ++ r).drop oa = ap.drop oa ++ r:=by rw [List.drop_append_of_le_length h]
theorem Qni {c : Key} {x y : UInt8} {q r : Key} (h : oa ≤ ap.length) (hxy : x ≠ y) (h1 : ap.drop oa = c ++ x :: q) (h2 : bp.drop ob = c ++ y :: r) (k : Key) : gI p (.node ap av ak) (.node bp bv' bk) oa ob k = none:=by
 unfold gI
 by_cases hk : ap <+: k
 · obtain ⟨s,rfl⟩:=hk
   rw [Nl h,h1]
   show U8 p _ ((E.node (bp.drop ob) bv' bk).get (c ++ x :: q ++ s)) = none
   rw [h2,show c ++ x :: q ++ s = c ++ x :: (q ++ s) by simp,Vs hxy]
   exact Cg
 · rw [J3 hk]; rfl
theorem Qvo {y : UInt8} {q : Key} {e : E} {ob' : Nat} (h : oa ≤ ap.length) (h2 : bp.drop ob = ap.drop oa ++ y :: q) (hq : bp.drop ob' = q) (he : Can e (gI p (ak y) (.node bp bv' bk) 0 ob')) (hak : ∀ c,(ak c).ZV) : Can (YF ap none (JU Du y e)) (gI p (.node ap av ak) (.node bp bv' bk) oa ob):=by
 refine ⟨GJ fun c => ?_,fun k => ?_⟩
 · unfold JU
   split
   · exact he.fine
   · trivial
 rw [Ce]
 unfold gI
 by_cases hk : ap <+: k
 · obtain ⟨s,rfl⟩:=hk
   rw [Nl h]
   show _ = U8 p _ ((E.node (bp.drop ob) bv' bk).get (ap.drop oa ++ s))
   rw [h2]
   cases s with
   | nil =>
     rw [List.append_nil,List.append_nil,get_nil,get_nil,Hd]
     exact Cg.symm
   | cons c s =>
     rw [Z8,Z8]
     by_cases e' : c = y
     · subst e'
       rw [JI,Eb,he.get s,← hq]
       show U8 p _ ((W9 ob' (E.node bp bv' bk)).get (s.drop 0)) = _
       rfl
     · rw [ZN _ _ e',Vs (fun h => e' h)]
       exact Cg.symm
 · rw [J3 hk,J3 hk]; rfl
theorem Qqp {x : UInt8} {q : Key} {oa' : Nat} (h : oa ≤ ap.length) (h' : oa' ≤ ap.length) (h1 : ap.drop oa = bp.drop ob ++ x :: q) (hq : ap.drop oa' = q) (k : Key) : gI p (.node ap av ak) (.node bp bv' bk) oa ob k = gI p (.node ap av ak) (bk x) oa' 0 k:=by
 unfold gI
 by_cases hk : ap <+: k
 · obtain ⟨s,rfl⟩:=hk
   rw [Nl h,Nl h',hq,Xq]
   show U8 p _ ((E.node (bp.drop ob) bv' bk).get (ap.drop oa ++ s)) = _
   rw [h1,show bp.drop ob ++ x :: q ++ s = bp.drop ob ++ x :: (q ++ s) by simp,Z8]
 · rw [J3 hk]; rfl
theorem QdO {val : Option Nat} {kids : UInt8 → E} (h : oa ≤ ap.length) (h1 : bp.drop ob = ap.drop oa) (hv : val = U8 p av bv') (hk : ∀ c,Can (kids c) (gI p (ak c) (bk c) 0 0)) : Can (YF ap val kids) (gI p (.node ap av ak) (.node bp bv' bk) oa ob):=by
 refine ⟨GJ fun c => (hk c).fine,fun k => ?_⟩
 rw [Ce]
 unfold gI
 by_cases hk' : ap <+: k
 · obtain ⟨s,rfl⟩:=hk'
   rw [Nl h]
   show _ = U8 p _ ((E.node (bp.drop ob) bv' bk).get (ap.drop oa ++ s))
   rw [h1]
   cases s with
   | nil => rw [List.append_nil,List.append_nil,get_nil,get_nil,get_nil,hv]
   | cons c s =>
     rw [Z8,Z8,Z8,(hk c).get s]
     unfold gI
     rw [Xq]; rfl
 · rw [J3 hk',J3 hk']; rfl
end
section
variable {w w' : World} {a b : T} {p o n oa ob off m : Nat} {mt : Option Y3}
theorem Qaw (ht : Tree w a) (ho : off ≤ a.part.length) : Q6 P Ui [Cb a off] w fun r w' => Bs w' r (a.part.drop off) ∧ Ext No w w':=by
 refine Q32 ?_
 refine Qz fun eb w1 heb hE hz he => ?_
 have hE : QZ w1 eb [a.v,.int .i64 off] KV:=hE
 have hd:=Ext.drew (Ext.refl No w1)
 refine hE.drew.ld (v:=a.v) rfl ?_
 refine hE.drew.ld (v:=.int .i64 off) rfl ?_
 refine (XA ((ht.Q4 he).Q4 hd)).mono ?_
 rintro pv w2 ⟨hpv,he2⟩
 have hE2:=hE.drew.ext he2 fun h => h
 refine ⟨?_,?_⟩
 · show w2.cell? ((⟨eb,0,none⟩ : Addr).add 1) = _
   rw [Addr.add_lit,hE2.cell]; rfl
 · exact hpv.drop off rfl ho fun v' hv' => ⟨hv',(he.Q0 hd).Q0 he2⟩
theorem Qav (hb : off + m + 1 < 4611686018427387904) : Q6 P Uh [Cb a off,.int .i64 m] w fun r w' => r = Cb a (off + m + 1) ∧ Ext No w w':=by
 refine Q31 ?_
 refine Qz fun eb w1 heb hE hz he => ?_
 have hE : QZ w1 eb [a.v,.int .i64 off] KV:=hE
 refine Qz fun fb w2 hfb hF hz2 he2 => ?_
 have hE2:=hE.ext he2 fun h => h
 refine hE2.ld (v:=a.v) rfl ?_
 refine hE2.ld (v:=.int .i64 off) rfl ?_
 refine xi (r:=((off + m : Nat) : Int)) (by rw [QQ (by omega)]; omega) ?_
 refine xi (r:=((off + m + 1 : Nat) : Int)) (by rw [QQ (by omega)]; omega) ?_
 refine KD hF (by kernel_rfl) rfl rfl fun w3 hb3 hz3 QE => ?_
 exact hb3.JH rfl ⟨rfl,(he.Q0 he2).Z0 QE (by omega)⟩
theorem QjM {c : UInt8} (ht : Tree w a) : Q6 P CU [Cb a off,bv c] w fun r w' => r = Cb (a.kid c) 0 ∧ Ext No w w':=by
 refine Q33 ?_
 refine Qz fun eb w1 heb hE hz he => ?_
 have hE : QZ w1 eb [a.v,.int .i64 off] KV:=hE
 refine Qz fun fb w2 hfb hF hz2 he2 => ?_
 have hE2:=hE.ext he2 fun h => h
 refine hE2.ld (v:=a.v) rfl ?_
 refine (FI (ht.Q4 (he.Q0 he2)) (b:=c)).mono ?_
 rintro _ w3 ⟨rfl,QE⟩
 have hz1:=he.size
 have hz2':=he2.size
 refine KD (hF.ext QE fun h => h) (by kernel_rfl) rfl rfl fun w4 hb4 Ro Zl => ?_
 exact hb4.JH rfl ⟨rfl,((he.Q0 he2).Q0 QE).Z0 Zl (by omega)⟩
structure IR (w w' : World) (p : Nat) (a b : T) (oa ob : Nat) (t' : T) (mt : Option Y3) (n n' : Nat) : Prop where
 tree : Tree w' t'
 cnt : Mt w' mt n'
 ext : Ext (MX mt) w w'
 all : ∀ c,t'.All c → a.All c ∨ w.heap.size ≤ c
 QR : t'.ZJ
 can : Can t'.er (gI p a.er b.er oa ob)
 idle : (∀ k,gI p a.er b.er oa ob k = a.er.get k) → t' = a ∧ n' = n
theorem IR.from' {w0 : World} {t' : T} {n' : Nat} (h : IR w w' p a b oa ob t' mt n n') (e : Ext No w0 w) : IR w0 w' p a b oa ob t' mt n n' :=
 ⟨h.tree,h.cnt,(e.mono fun _ _ h => h.elim).QI h.ext,fun c hc => (h.all c hc).imp id fun h => by have:=e.size; omega,h.QR,h.can,h.idle⟩
theorem IR.none (hf : a.er.ZV) (hm : Mt w mt n) (h : ∀ k,gI p a.er b.er oa ob k = none) : IR w w p a b oa ob .nil mt n n :=
 ⟨trivial,hm,Ext.refl _ _,fun c hc => hc.elim,trivial,Can.nil.congr fun k => (h k).symm,fun hk => by
  refine ⟨?_,rfl⟩
  cases a with
  | nil => rfl
  | node =>
    obtain ⟨k,v,Wq⟩:=E.Nj hf (by simp [T.er])
    have:=hk k
    rw [h k,Wq] at this
    cases this⟩
end
end Go.Proofs.YtbnhggfiembejaaGreatDoor
end
section
namespace Go.Proofs.YtbnhggfiembejaaGreatDoor
open Go Go.RowKit X
set_option linter.unusedSimpArgs false
set_option linter.unusedVariables false
set_option linter.unusedSectionVars false
variable [Floor]
theorem Qvt : EI P Yu J5 2 16 (.agg #[.int .u8 0,.pointer none]):=⟨by kernel_rfl,by kernel_rfl,by rfl,by omega⟩
section
variable {w w' : World} {v : Value} {l : List (UInt8 × T)} {mt : Option Y3} {n n' o p x B nn : Nat} {t t' : T} {xs : List Value} {e : E}
theorem Q3x.from' {w0 : World} (h : Q3x w w' t l e o t' mt n n') (he : Ext No w0 w) : Q3x w0 w' t l e o t' mt n n' :=
 ⟨h.tree,h.er,h.QR,h.own,fun b hb => (h.all b hb).imp id fun h => h.imp id fun h => by have:=he.size; omega,h.cnt,h.le,(he.mono fun _ _ h => h.elim).QI h.ext⟩
theorem Own.Qdr (h : Own w B J5 2 v nn xs) {b : Nat} {cs : List Value} {T : TypeId} (hb : QZ w b cs T) (ht : T ≠ J5) : v.ownBlock ≠ some b:=fun hv => Own.neK h hb (fun e => ht e.symm) hv
theorem Own.kidM (h : Own w B J5 2 v nn xs) (hm : Mt w mt n) (e : Ext (MX mt) w w') : Own w' B J5 2 v nn xs:=h.ext e fun b hv hb => by
 obtain ⟨-,cs,T',h1,h2⟩:=hm.nbt (T:=J5) (by decide) b hb (h.ge hv).2
 exact Own.Qdr h h1 h2 hv
theorem Tree.Qu8 (ht : Tree w t) (h : Own w B J5 2 v nn xs) (hf : Floor.n ≤ B) (e : Ext (fun b => v.ownBlock = some b) w w') : Tree w' t:=Tree.ext e (Own.nb1 h hf (by decide)) ht fun b hb hv => by
 obtain ⟨cs,T',h1,h2⟩:=ht.ty hb
 exact Own.Qdr h h1 ((show Oth J5 by unfold Oth; decide).nt h2) hv
theorem Mt.Qu8 (hm : Mt w mt n) (h : Own w B J5 2 v nn xs) (e : Ext (fun b => v.ownBlock = some b) w w') : Mt w' mt n:=hm.ext e fun b hb hv => by
 obtain ⟨-,cs,T',h1,h2⟩:=hm.nbt (T:=J5) (by decide) b hb (h.ge hv).2
 exact Own.Qdr h h1 h2 hv
section
variable {a ow : Nat} {part : Key} {v0 val : Option Nat} {ks : List Nat} {kids : UInt8 → T}
theorem QhV (ht : Tree w (.node a ow part v0 ks kids)) (hne : ks ≠ []) (hf : (T.node a ow part v0 ks kids).er.ZV) (hl : (T.node a ow part v0 ks kids).ZJ) (hL : LK w v l) (hlf : ∀ p ∈ l,p.2.ZJ) (hx : ∀ y,val = some y → y = x) (Q0f : x < 18446744073709551616) (ho : o ≠ 0) (hm : Mt w mt n)
  (hlen : ∀ p ∈ l,part.length + 1 + p.2.part.length ≤ 65535) :
  Q6 P Vb [Q5O p o mt,(T.node a ow part v0 ks kids).v,.bool val.isSome,.int .u64 x,v] w fun r w' => ∃ t' n',r = t'.v ∧ Q3x w w' (.node a ow part v0 ks kids) l (YF part val fun c => (Xi l c).er) o t' mt n n' ∧
   ((v0 = val ∧ cnt (ptrs kids) = l.length ∧ ∀ p ∈ l,(kids p.1).ptr = p.2.ptr) → t' = .node a ow part v0 ks kids ∧ n' = n):=by
 refine Q1P ?_
 refine Qz fun sb w1 hsb hS hz he => ?_
 have hS : QZ w1 sb (Qlz p o mt) Bq:=hS
 refine hS.ld (o:=1) (v:=.int .u64 o) rfl ?_
 refine hS.ld (o:=2) (v:=mv mt) rfl ?_
 refine (QgN (ht.Q4 he) hne hf hl (hL.Q4 he) hlf hx Q0f ho (hm.Q4 he) hlen).mono ?_
 rintro _ w2 ⟨t',n',rfl,hR,hidle⟩
 exact ⟨t',n',rfl,hR.from' he,hidle⟩
theorem QqJ (ht : Tree w (.node a ow part v0 ks kids)) (hl : (T.node a ow part v0 ks kids).ZJ) (hf : (T.node a ow part v0 ks kids).er.ZV) (hk0 : ks = []) (hx : ∀ y,val = some y → y = x) (Q0f : x < 18446744073709551616) (ho : o ≠ 0) (hm : Mt w mt n) :
  Q6 P BM [Q5O p o mt,(T.node a ow part v0 ks kids).v,.bool val.isSome,.int .u64 x] w fun r w' => ∃ t' n',r = t'.v ∧ Tree w' t' ∧ t'.er = YF part val Du ∧ t'.ZJ ∧ (∀ c,t'.All c → (T.node a ow part v0 ks kids).All c ∨ w.heap.size ≤ c) ∧ Mt w' mt n' ∧ Ext (MX mt) w w' ∧ (v0 = val → t' = .node a ow part v0 ks kids ∧ n' = n):=by
 have hc0 : cnt (ptrs kids) = 0:=hl.1.1 hk0
 have e0 : cnt (fun c => ((kids c).er).opt) = cnt (ptrs kids):=X.WR fun c => T.WQ (kids c)
 have hkn : (fun c => (kids c).er) = Du:=Np (by show cnt (fun c => ((kids c).er).opt) = 0; rw [e0,hc0])
 have hv0 : v0.isSome = true:=by
  have h1 : if cnt (fun c => ((kids c).er).opt) = 0 then v0.isSome = true else 2 ≤ cnt (fun c => ((kids c).er).opt) + one v0:=hf.1
  rw [e0,if_pos hc0] at h1
  exact h1
 obtain ⟨z,rfl⟩:=Option.isSome_iff_exists.1 hv0
 refine Q1O ?_
 refine Qz fun sb w1 hsb hS hz he => ?_
 have hS : QZ w1 sb (Qlz p o mt) Bq:=hS
 have ht1:=ht.Q4 he
 have hm1:=hm.Q4 he
 refine (Cj ht1).mono ?_
 rintro _ w2 ⟨rfl,rfl⟩
 cases val with
 | none =>
   refine Qr rfl ?_
   refine ⟨.nil,n,rfl,trivial,?_,trivial,fun c hc => hc.elim,hm1,he.mono fun _ _ h => h.elim,fun h => by cases h⟩
   show E.nil = YF part none Du
   unfold YF
   rw [if_pos Iy]
 | some y =>
   obtain rfl:=hx y rfl
   refine Qp rfl ?_
   refine Vu (fun h => ?_) fun h => ?_
   · have h : ((z : Nat) : Int) = (y : Nat):=h
     obtain rfl : z = y:=by omega
     refine ⟨_,n,rfl,ht1,?_,hl,fun c h => .inl h,hm1,he.mono fun _ _ h => h.elim,fun _ => ⟨rfl,rfl⟩⟩
     show E.node part (some z) (fun c => (kids c).er) = _
     rw [hkn]; rfl
   · have hd:=Ext.drew (Ext.refl No w2)
     refine hS.drew.ld (o:=2) (v:=mv mt) rfl ?_
     refine hS.drew.ld (o:=1) (v:=.int .u64 o) rfl ?_
     refine (XA (ht1.Q4 hd)).mono ?_
     rintro pv w3 ⟨hpv,QE⟩
     have hpv : Bs w3 pv part:=hpv
     have hS3:=hS.drew.ext QE fun h => h
     refine ⟨?_,?_,?_⟩
     · show w3.cell? ((⟨sb,0,none⟩ : Addr).add 1) = _
       rw [Addr.add_lit,hS3.cell]; rfl
     · show w3.cell? ((⟨sb,0,none⟩ : Addr).add 2) = _
       rw [Addr.add_lit,hS3.cell]; rfl
     have JD:=(he.Q0 hd).Q0 QE
     have hz3:=JD.size
     refine (QbU (ow:=o) (hm.Q4 JD) hpv ht.1.short Q0f).mono ?_
     rintro _ w4 ⟨u,rfl,hna,hfr,hm4,Zl⟩
     refine ⟨.node u o part (some y) [] (fun _ => .nil),n + 1,rfl,⟨hna,fun _ => trivial⟩,rfl,⟨⟨fun _ => (by show cnt (fun _ => none : UInt8 → Option Addr) = 0; simp [cnt,VG]),fun _ => rfl⟩,fun _ => trivial⟩,fun b hb => ?_,hm4,(JD.mono fun _ _ h => h.elim).QI Zl,fun hq => absurd (by show ((z : Nat) : Int) = (y : Nat); rw [Option.some.inj hq]) h⟩
     rcases hb with (hb | hb) | ⟨c,hb⟩
     · exact .inr (by rw [hb]; omega)
     · cases hb
     · exact hb.elim
end
end
def OfI (p o : Nat) (mt : Option Y3) (M : Nat) : Prop:=∀ {w : World} {a b : T} {oa ob n : Nat},(a.er.long + 1 - oa) + (b.er.long + 1 - ob) < M → a.er.long ≤ 65535 → Wv w a oa → Wv w b ob → Mt w mt n →
 Q6 P Jp [Q5O p o mt,Cb a oa,Cb b ob] w fun r w' => ∃ t' n',r = t'.v ∧ IR w w' p a b oa ob t' mt n n'
structure LO (w : World) (B : Nat) (v : Value) (l : List (UInt8 × T)) : Prop where
 row : ∃ cells,Own w B J5 2 v l.length cells ∧ ∀ (i : Nat) (p : UInt8 × T),l[i]? = some p → cells[i * 2]? = some (bv p.1) ∧ cells[i * 2 + 1]? = some p.2.v
 tree : ∀ p ∈ l,Tree w p.2
section
variable {w w' : World} {v : Value} {l : List (UInt8 × T)} {mt : Option Y3} {n B : Nat}
theorem LO.YL (h : LO w B v l) (hm : Mt w mt n) (e : Ext (MX mt) w w') : LO w' B v l:=by
 obtain ⟨cells,h1,h2⟩:=h.row
 exact ⟨⟨cells,Own.kidM h1 hm e,h2⟩,fun p hp => (h.tree p hp).YL hm e⟩
theorem LO.Q4 (h : LO w B v l) (e : Ext No w w') : LO w' B v l:=by
 obtain ⟨cells,h1,h2⟩:=h.row
 exact ⟨⟨cells,h1.Q4 e,h2⟩,fun p hp => (h.tree p hp).Q4 e⟩
theorem LO.lk (h : LO w B v l) (hs : ∀ p ∈ l,p.2 ≠ .nil) (hu : UpK l) (hl : l.length ≤ 256) : LK w v l:=by
 obtain ⟨cells,h1,h2⟩:=h.row
 exact ⟨⟨cells,h1.sl,h2⟩,h.tree,hs,hu,hl⟩
theorem LO.push (h : LO w B v l) (hf : Floor.n ≤ B) (hB : B ≤ w.heap.size) (hm : Mt w mt n) {c : UInt8} {t : T} (ht : Tree w t) (hl : l.length ≤ 256) {K : Value → World → Prop}
  (k : ∀ v' w',LO w' B v' (l ++ [(c,t)]) → Mt w' mt n → (∀ u : T,Tree w u → Tree w' u) → (∀ w0 : World,∀ X,Ext X w0 w → w0.heap.size ≤ B → Ext X w0 w') → (∀ b cs T,QZ w b cs T → T ≠ J5 → QZ w' b cs T) → K v' w') :
  Qs w [bv c,t.v] J5 fun a w1 => Jv P (Builtin.append_ #[Yu,Yu] Yu #[v,.slice (some a) 1 1]) w1 K:=by
 obtain ⟨cells,h1,h2⟩:=h.row
 refine Qz fun b w1 hb hblk hz he1 => ?_
 have hsl : Sl w1 (tyQ J5) (.slice (some ⟨b,0,none⟩) 1 1) 2 1 [bv c,t.v]:=hblk.sln rfl
 have h11:=h1.Q4 he1
 refine Vi Qvt h11 (Nat.le_trans hB he1.size) hsl (fun u hu => ?_) (by omega) (by omega) fun v' w2 ho2 he2 _ _ => ?_
 · simp only [List.mem_cons,List.mem_nil_iff,or_false] at hu
   rcases hu with rfl | rfl <;> rfl
 have htr : ∀ u : T,Tree w u → Tree w2 u:=fun u hu => Tree.Qu8 (hu.Q4 he1) h11 hf he2
 refine k v' w2 ⟨⟨_,by rw [List.length_append]; exact ho2,fun i p hp => ?_⟩,fun p hp => ?_⟩ (Mt.Qu8 (hm.Q4 he1) h11 he2) htr (fun w0 X e0 h0 => Ext.own (e0.Q0 he1) h11 h0 he2) fun b' cs T hb' hT => (hb'.ext he1 fun h => h).ext he2 fun hv => Own.Qdr h11 (hb'.ext he1 fun h => h) hT hv
 · have hcl : cells.length = l.length * 2:=h1.len
   rcases Nat.lt_trichotomy i l.length with hlt | heq | hgt
   · rw [List.getElem?_append_left hlt] at hp
     obtain ⟨g1,g2⟩:=h2 i p hp
     exact ⟨by rw [List.getElem?_append_left (by omega)]; exact g1,by rw [List.getElem?_append_left (by omega)]; exact g2⟩
   · subst heq
     rw [List.getElem?_append_right (by omega)] at hp
     simp at hp
     subst hp
     exact ⟨by rw [List.getElem?_append_right (by omega),hcl]; simp,by rw [List.getElem?_append_right (by omega),hcl,show l.length * 2 + 1 - l.length * 2 = 1 by omega]; rfl⟩
   · rw [List.getElem?_eq_none (by simp; omega)] at hp; cases hp
 · rcases List.mem_append.1 hp with hp | hp
   · exact htr _ (h.tree p hp)
   · rw [List.mem_singleton.1 hp]; exact htr _ ht
end
theorem Q3N {e : E} {g : Key → Option Nat} {t : T} (hg : Can t.er g) (hle : ∀ k v,g k = some v → ∃ y,e.get k = some y) (hn : t ≠ .nil) : t.part.length ≤ e.long:=by
 cases t with
 | nil => exact absurd rfl hn
 | node a ow part val ks kids =>
   obtain ⟨k,v,hk⟩:=E.Nj hg.fine (by simp [T.er])
   have h1 : part <+: k:=E.Q6z hk
   rw [hg.get k] at hk
   obtain ⟨y,hy⟩:=hle k v hk
   have:=E.QhC hy
   have:=h1.length_le
   show part.length ≤ _
   omega
theorem Qbv {p : Nat} {a b : E} {oa ob : Nat} {k : Key} {v : Nat} (h : gI p a b oa ob k = some v) : ∃ y,a.get k = some y:=by
 unfold gI at h
 cases hk : a.get k with
 | none => rw [hk] at h; cases h
 | some y => exact ⟨y,rfl⟩
end Go.Proofs.YtbnhggfiembejaaGreatDoor
end
section
namespace Go.Proofs.YtbnhggfiembejaaGreatDoor
open Go Go.RowKit X
set_option linter.unusedSimpArgs false
set_option linter.unusedVariables false
set_option linter.unusedSectionVars false
variable [Floor]
theorem QiJ {p x y : Nat} (hp : 1 ≤ p ∧ p ≤ 5) (hx : x < 18446744073709551616) (hy : y < 18446744073709551616) : CF p x y < 18446744073709551616:=by
 obtain ⟨h1,h2⟩:=hp
 match p,h1,h2 with
 | 1,_,_ => exact hx
 | 2,_,_ => exact hy
 | 3,_,_ => exact Nat.mod_lt _ (by omega)
 | 4,_,_ => show min x y < _; omega
 | 5,_,_ => show max x y < _; omega
structure LV (w0 w' : World) (p : Nat) (Q7 Qd : UInt8 → T) (d : List UInt8) (l : List (UInt8 × T)) (v : Value) (mt : Option Y3) (n n1 : Nat) : Prop where
 lo : LO w' w0.heap.size v l
 sm : ∀ q ∈ l,q.2 ≠ .nil ∧ q.2.ZJ ∧ q.1 ∈ d ∧ ∀ b,q.2.All b → (Q7 q.1).All b ∨ w0.heap.size ≤ b
 up : UpK l
 len : l.length ≤ d.length
 can : ∀ c ∈ d,Can (Xi l c).er (gI p (Q7 c).er (Qd c).er 0 0)
 idle : (∀ c ∈ d,∀ k,gI p (Q7 c).er (Qd c).er 0 0 k = (Q7 c).er.get k) → l = d.map (fun c => (c,Q7 c)) ∧ n1 = n
 cnt : Mt w' mt n1
 ext : Ext (MX mt) w0 w'
theorem Q6m {l : List (UInt8 × T)} {c : UInt8} (h : ∀ q ∈ l,q.1 ≠ c) : Xi l c = .nil:=by
 by_cases e : Xi l c = .nil
 · exact e
 · obtain ⟨q,hq,e1,-⟩:=Ca e
   exact absurd e1 (h q hq)
theorem WZ {w : World} {t : T} (h : t ≠ .nil) {K : Value → Prop} (k : K (.bool true)) : Y1 P w t.v (.pointer none) K:=by
 cases t with
 | nil => exact absurd rfl h
 | node => exact k
section
variable {w w0 w' w9 : World} {p n n1 n2 : Nat} {Q7 Qd : UInt8 → T} {d rest : List UInt8} {l : List (UInt8 × T)} {v : Value} {mt : Option Y3} {c : UInt8} {t' : T}
theorem LV.skip (h : LV w0 w p Q7 Qd d l v mt n n1) (hcd : c ∉ d) (hne : Q7 c ≠ .nil) (hR : IR w w' p (Q7 c) (Qd c) 0 0 .nil mt n1 n2) : LV w0 w' p Q7 Qd (d ++ [c]) l v mt n n2:=by
 refine ⟨h.lo.YL h.cnt hR.ext,fun q hq => ⟨(h.sm q hq).1,(h.sm q hq).2.1,List.mem_append_left _ (h.sm q hq).2.2.1,(h.sm q hq).2.2.2⟩,h.up,by simp; have:=h.len; omega,fun c' hc' => ?_,fun hi => ?_,hR.cnt,h.ext.QI hR.ext⟩
 · rcases List.mem_append.1 hc' with hc' | hc'
   · exact h.can c' hc'
   · obtain rfl:=List.mem_singleton.1 hc'
     rw [Q6m fun q hq e => hcd (by have:=(h.sm q hq).2.2.1; rw [e] at this; exact this)]
     exact hR.can
 · exact absurd (hR.idle fun k => hi c (by simp) k).1.symm hne
theorem LV.more {v' : Value} (h : LV w0 w p Q7 Qd d l v mt n n1) (hcd : c ∉ d) (hup : ∀ c' ∈ d,c'.toNat < c.toNat) (hn : t' ≠ .nil) (hR : IR w w9 p (Q7 c) (Qd c) 0 0 t' mt n1 n2) (hlo : LO w' w0.heap.size v' (l ++ [(c,t')])) (hm : Mt w' mt n2) (he : Ext (MX mt) w0 w') : LV w0 w' p Q7 Qd (d ++ [c]) (l ++ [(c,t')]) v' mt n n2:=by
 have hno : ∀ q ∈ l,q.1 ≠ c:=fun q hq e => hcd (e ▸ (h.sm q hq).2.2.1)
 have hz:=h.ext.size
 refine ⟨hlo,fun q hq => ?_,?_,by simp; exact h.len,fun c' hc' => ?_,fun hi => ?_,hm,he⟩
 · rcases List.mem_append.1 hq with hq | hq
   · exact ⟨(h.sm q hq).1,(h.sm q hq).2.1,List.mem_append_left _ (h.sm q hq).2.2.1,(h.sm q hq).2.2.2⟩
   · obtain rfl:=List.mem_singleton.1 hq
     exact ⟨hn,hR.QR,by simp,fun b hb => (hR.all b hb).imp id fun h => by omega⟩
 · refine List.pairwise_append.2 ⟨h.up,List.pairwise_singleton _ _,fun q hq r hr => ?_⟩
   rw [List.mem_singleton.1 hr]
   exact hup _ (h.sm q hq).2.2.1
 · rw [Q01 hno]
   show Can (Zt (Xi l) c t' c').er _
   rcases List.mem_append.1 hc' with hc' | hc'
   · rw [WJ _ _ (fun e : c' = c => hcd (by rw [← e]; exact hc'))]
     exact h.can c' hc'
   · obtain rfl:=List.mem_singleton.1 hc'
     rw [Vo]
     exact hR.can
 · obtain ⟨h1,h2⟩:=hR.idle fun k => hi c (by simp) k
   obtain ⟨h3,h4⟩:=h.idle fun c' hc' => hi c' (List.mem_append_left _ hc')
   rw [List.map_append,← h3,h1]
   exact ⟨rfl,h2.trans h4⟩
end
section
variable {w : World} {aa Jk ba KZ o p n oa ob M : Nat} {apart Qi : Key} {Qq QW : Option Nat} {ZO Km : List Nat} {Q7 Qd : UInt8 → T} {mt : Option Y3}
set_option maxRecDepth 100000 in
theorem QnS (hI : OfI p o mt M) (ho : o ≠ 0) (hp : 1 ≤ p ∧ p ≤ 5) (ha : Wv w (.node aa Jk apart Qq ZO Q7) oa) (hb : Wv w (.node ba KZ Qi QW Km Qd) ob) (hla : (T.node aa Jk apart Qq ZO Q7).er.long ≤ 65535) (h1 : Qi.drop ob = apart.drop oa)
  (hM : ((T.node aa Jk apart Qq ZO Q7).er.long + 1 - oa) + ((T.node ba KZ Qi QW Km Qd).er.long + 1 - ob) ≤ M) (hm : Mt w mt n) :
  Q6 P AY [Q5O p o mt,(T.node aa Jk apart Qq ZO Q7).v,(T.node ba KZ Qi QW Km Qd).v] w fun r w' => ∃ t' n',r = t'.v ∧ IR w w' p (.node aa Jk apart Qq ZO Q7) (.node ba KZ Qi QW Km Qd) oa ob t' mt n n':=by
 have hoff : oa ≤ apart.length:=ha.off
 have QdB : ob ≤ Qi.length:=hb.off
 have hva : Qq.getD 0 < 18446744073709551616:=ha.tree.v64
 have hvb : QW.getD 0 < 18446744073709551616:=hb.tree.v64
 refine Q0r ?_
 refine Qz fun sb w1 hsb hS hz he1 => ?_
 have hS : QZ w1 sb (Qlz p o mt) Bq:=hS
 refine (Cj (ha.tree.Q4 he1)).mono ?_
 rintro _ w2 ⟨rfl,rfl⟩
 refine (Cj (hb.tree.Q4 he1)).mono ?_
 rintro _ w3 ⟨rfl,rfl⟩
 refine xj (fun vs w' => vs = [.bool (U8 p Qq QW).isSome] ∧ w3 = w') ?_ ?_
 · show Ql (.bool QW.isSome) _ _
   cases QW with
   | none => exact Qp rfl ⟨by rw [Cg]; rfl,rfl⟩
   | some y =>
     refine Qr rfl ?_
     cases Qq <;> exact ⟨rfl,rfl⟩
 rintro vs g w4 ⟨rfl,rfl⟩
 refine xj (fun vs w' => ∃ x : Nat,vs = [.int .u64 x] ∧ x < 18446744073709551616 ∧ (∀ y,U8 p Qq QW = some y → y = x) ∧ Ext No w3 w') ?_ ?_
 · show Ql (.bool (U8 p Qq QW).isSome) _ _
   cases hi : U8 p Qq QW with
   | none => exact Qp rfl ⟨QW.getD 0,rfl,hvb,(fun y h => by cases h),Ext.refl _ _⟩
   | some z =>
     refine Qr rfl ?_
     refine hS.ld (o:=0) (v:=.int .i64 p) rfl ?_
     refine (Qi4 (z:=p) hva hvb).mono ?_
     rintro _ w5 ⟨ZR,⟨p',hp1,hp5,hpp,rfl⟩ | ⟨hn,-⟩⟩
     · obtain rfl : p = p':=by omega
       refine ⟨CF p (Qq.getD 0) (QW.getD 0),rfl,QiJ hp hva hvb,fun y hy => ?_,ZR⟩
       obtain rfl:=Option.some.inj hy
       cases Qq with
       | none => cases hi
       | some x0 =>
         cases QW with
         | none => cases hi
         | some y0 => exact (Option.some.inj hi).symm
     · exact absurd (by omega) hn
 rintro vs g w5 ⟨x,rfl,Q0f,hxv,ZR⟩
 have WX:=he1.Q0 ZR
 have hS5:=hS.ext ZR fun h => h
 have ha5:=ha.Q4 WX
 have hb5:=hb.Q4 WX
 have hm5:=hm.Q4 WX
 refine (Hg ha5.tree).mono ?_
 rintro _ w6 ⟨rfl,rfl⟩
 by_cases hk : ZO = []
 · refine Qr (by show (((Yx ZO (ptrs Q7) : Nat) : Int) == 1) = true; unfold Yx; rw [if_pos hk]; rfl) ?_
   refine hS5.JH rfl ?_
   refine (QqJ (p:=p) ha5.tree ha.QR ha.fine hk hxv Q0f ho hm5).mono ?_
   rintro _ w7 ⟨t',n',rfl,htr,her,hlf,hall,hm7,Yy,hid⟩
   have hc0 : cnt (ptrs Q7) = 0:=ha.QR.1.1 hk
   have e0 : cnt (fun c => ((Q7 c).er).opt) = cnt (ptrs Q7):=X.WR fun c => T.WQ (Q7 c)
   have hkn : (fun c => (Q7 c).er) = Du:=Np (by show cnt (fun c => ((Q7 c).er).opt) = 0; rw [e0,hc0])
   have hg:=QdO (p:=p) (av:=Qq) (bv':=QW) (ak:=fun c => (Q7 c).er) (bk:=fun c => (Qd c).er) (kids:=Du) hoff h1 rfl fun c => Can.nil.congr fun k => by
    have : (Q7 c).er = .nil:=congrFun hkn c
    unfold gI
    rw [this]; rfl
   refine ⟨t',n',rfl,IR.from' ⟨htr,hm7,Yy,hall,hlf,by rw [her]; exact hg,fun hk' => hid ?_⟩ WX⟩
   have h2:=hk' apart
   have h3:=hg.get apart
   rw [Ce,get_nil] at h3
   have h4 : (T.node aa Jk apart Qq ZO Q7).er.get apart = Qq:=get_nil
   rw [h4] at h2
   exact h2.symm.trans h3.symm
 · have Wq : ((Yx ZO (ptrs Q7) : Nat) : Int) ≠ 1:=by
    have : Yx ZO (ptrs Q7) ≠ 1:=by
     unfold Yx
     rw [if_neg hk]
     unfold Kl
     repeat' split
     all_goals omega
    omega
   refine Qp (beq_eq_false_iff_ne.2 Wq) ?_
   refine (WS ha5.tree (i:=0) (by omega)).mono ?_
   rintro _ w7 ⟨rfl,Yy⟩
   rw [show Vx (ptrs (T.node aa Jk apart Qq ZO Q7).kid) 0 = .tuple #[nxB (dom (ptrs Q7)),nxP (ptrs Q7) (dom (ptrs Q7))] from YZ (VI _)]
   have BA:=WX.Q0 Yy
   have ha7:=ha.Q4 BA
   have hb7:=hb.Q4 BA
   have hS7:=hS5.ext Yy fun h => h
   have hfl : Floor.n ≤ w7.heap.size:=(hm.Q4 BA).fl
   refine JN (fun nn vs w' => ∃ (d rest : List UInt8) (l : List (UInt8 × T)) (v x0 : Value) (n1 : Nat),vs = [nxP (ptrs Q7) rest,nxB rest,x0,v] ∧ nn = rest.length ∧ dom (ptrs Q7) = d ++ rest ∧ LV w7 w' p Q7 Qd d l v mt n n1) (dom (ptrs Q7)).length
    ⟨[],_,[],_,_,n,rfl,rfl,rfl,⟨⟨[],Own.nil _ _ _ _,fun i p h => by simp at h⟩,fun p h => by cases h⟩,(fun q h => by cases h),List.Pairwise.nil,Nat.le_refl _,(fun c h => by cases h),fun _ => ⟨rfl,rfl⟩,hm.Q4 BA,Ext.refl _ _⟩ ?_
   rintro nn vs g w8 ⟨d,rest,l,v,x0,n1,rfl,rfl,hdr,hV⟩
   unfold Dl
   have Si:=hV.cnt
   have hz8:=hV.ext.size
   have ha8:=ha7.YL (hm.Q4 BA) hV.ext
   have hb8:=hb7.YL (hm.Q4 BA) hV.ext
   have hS8:=hS7.ext hV.ext ((hm.Q4 BA).ne hS7 (by decide))
   have hrise : Eg (d ++ rest):=hdr ▸ Xl _
   have hdl : (dom (ptrs Q7)).length ≤ 256:=BR _
   cases rest with
   | cons c rest =>
     have hcd : c ∈ dom (ptrs Q7):=by rw [hdr]; simp
     obtain ⟨ka,hka⟩:=Option.isSome_iff_exists.1 (Zd.1 hcd)
     have hka : (Q7 c).ptr = some ka:=hka
     have hkn : Q7 c ≠ .nil:=fun e => by rw [e] at hka; cases hka
     have hlt : ∀ c' ∈ d,c'.toNat < c.toNat:=fun c' hc' => (List.pairwise_append.1 hrise).2.2 c' hc' c (by simp)
     have hcn : c ∉ d:=fun h => by have:=hlt c h; omega
     have hlen:=hV.len
     have QuZ : d.length + (rest.length + 1) ≤ 256:=by rw [hdr] at hdl; simpa using hdl
     have hlk:=Vd (a:=aa) (ow:=Jk) (part:=apart) (val:=Qq) (ks:=ZO) hcd
     have hal : apart.length ≤ (T.node aa Jk apart Qq ZO Q7).er.long:=by show _ ≤ (E.node apart Qq fun c => (Q7 c).er).long; rw [E.Ky]; omega
     have hbl : Qi.length ≤ (T.node ba KZ Qi QW Km Qd).er.long:=by show _ ≤ (E.node Qi QW fun c => (Qd c).er).long; rw [E.Ky]; omega
     have hbk : (Qd c).er.long + 1 ≤ (T.node ba KZ Qi QW Km Qd).er.long + 1 - ob:=by
      by_cases e : c ∈ dom (ptrs Qd)
      · have:=Vd (a:=ba) (ow:=KZ) (part:=Qi) (val:=QW) (ks:=Km) e
        omega
      · have : Qd c = .nil:=T.Ff fun hq => e (Zd.2 hq)
        rw [this]
        show 0 + 1 ≤ _
        omega
     refine WZ (t:=Q7 c) hkn ?_
     refine Qr rfl ?_
     refine xj (fun vs w' => ∃ (y : Value) (l' : List (UInt8 × T)) (v' : Value) (n2 : Nat),vs = [y,v'] ∧ LV w7 w' p Q7 Qd (d ++ [c]) l' v' mt n n2) ?_ ?_
     · have hd8:=Ext.drew (Ext.refl No w8)
       refine hS8.drew.JH rfl ?_
       show Q6 P Zm [(T.node ba KZ Qi QW Km Qd).v,bv c] w8.drew _
       refine (FI (hb8.tree.Q4 hd8) (b:=c)).mono ?_
       rintro _ w9 ⟨rfl,Ym⟩
       have QmV:=hd8.Q0 Ym
       refine ⟨J6 (hS8.ext QmV fun h => h),?_⟩
       have QuK : Wv w9 (Q7 c) 0:=⟨(ha8.tree.Q4 QmV).2 c,ha.fine.2 c,ha.QR.2 c,by have:=ha.long; omega,Nat.zero_le _⟩
       have QuJ : Wv w9 (Qd c) 0:=⟨(hb8.tree.Q4 QmV).2 c,hb.fine.2 c,hb.QR.2 c,by have:=hb.long; omega,Nat.zero_le _⟩
       refine Q6.mono (show Q6 P Jp [Q5O p o mt,Cb (Q7 c) 0,Cb (Qd c) 0] w9 _ from hI (by omega) (by omega) QuK QuJ (Si.Q4 QmV)) ?_
       rintro _ Dn ⟨t',n2,rfl,hR⟩
       have Re:=hR.from' QmV
       by_cases hn : t' = .nil
       · subst hn
         refine Y4 T.nil ?_
         refine Qp rfl ?_
         exact ⟨_,l,v,n2,rfl,hV.skip hcn hkn Re⟩
       · refine WZ hn ?_
         refine Qr rfl ?_
         have QdG:=hV.lo.YL Si Re.ext
         refine LO.push QdG hfl (Nat.le_trans hz8 Re.ext.size) hR.cnt (c:=c) (t:=t') hR.tree (by omega) fun v' AL hlo Q9m _ hex _ => ?_
         exact ⟨_,_,v',n2,rfl,hV.more hcn hlt hn Re hlo Q9m (hex w7 _ (hV.ext.QI Re.ext) (Nat.le_refl _))⟩
     rintro vs g w9 ⟨y,l',v',n2,rfl,hV9⟩
     have hcb:=MV c
     refine xi (r:=(c.toNat : Int)) (QQ (by omega)) ?_
     refine xi (r:=((c.toNat + 1 : Nat) : Int)) (by rw [QQ (by omega)]; omega) ?_
     have ha9:=ha7.YL (hm.Q4 BA) hV9.ext
     refine (WS ha9.tree (i:=c.toNat + 1) (by omega)).mono ?_
     rintro _ Dn ⟨rfl,J9⟩
     rw [show Vx (ptrs (T.node aa Jk apart Qq ZO Q7).kid) (c.toNat + 1) = .tuple #[nxB rest,nxP (ptrs Q7) rest] from YZ (UI hdr)]
     refine JP rest.length (by simp) ⟨d ++ [c],rest,l',v',_,n2,rfl,rfl,by rw [hdr]; simp,⟨hV9.lo.Q4 J9,hV9.sm,hV9.up,hV9.len,hV9.can,hV9.idle,hV9.cnt.Q4 J9,hV9.ext.Q0 J9⟩⟩
   | nil =>
     rw [List.append_nil] at hdr
     refine Y4 T.nil ?_
     refine Qp rfl ?_
     refine hS8.JH rfl ?_
     have hlen:=hV.len
     have hL:=hV.lo.lk (fun q hq => (hV.sm q hq).1) hV.up (by rw [hdr] at hdl; omega)
     have hsub : ∀ q ∈ l,q.1 ∈ dom (ptrs Q7):=fun q hq => by rw [hdr]; exact (hV.sm q hq).2.2.1
     have Qnc : ∀ c,Can (Xi l c).er (gI p (Q7 c).er (Qd c).er 0 0):=fun c => by
      by_cases e : c ∈ d
      · exact hV.can c e
      · have hk : Q7 c = .nil:=T.Ff fun hq => e (by rw [← hdr]; exact Zd.2 hq)
        rw [Q6m fun q hq e' => e (by have:=(hV.sm q hq).2.2.1; rw [e'] at this; exact this),hk]
        exact Can.nil.congr fun k => rfl
     refine (QhV (p:=p) (val:=U8 p Qq QW) ha8.tree hk ha.fine ha.QR hL (fun q hq => (hV.sm q hq).2.1) hxv Q0f ho Si fun q hq => ?_).mono ?_
     · have h2:=Qnc q.1
       rw [Q25 hV.up hq] at h2
       have h3:=Q3N h2 (fun k v Wq => Qbv Wq) (hV.sm q hq).1
       have:=Vd (a:=aa) (ow:=Jk) (part:=apart) (val:=Qq) (ks:=ZO) (hsub q hq)
       omega
     rintro _ w9 ⟨t',n',rfl,hR,hid⟩
     have hg:=QdO (p:=p) (av:=Qq) (bv':=QW) (ak:=fun c => (Q7 c).er) (bk:=fun c => (Qd c).er) (kids:=fun c => (Xi l c).er) hoff h1 rfl Qnc
     have hz7:=BA.size
     refine ⟨t',n',rfl,⟨hR.tree,hR.cnt,((BA.mono fun _ _ h => h.elim).QI hV.ext).QI hR.ext,fun c hc => ?_,hR.QR,by rw [hR.er]; exact hg,fun hk' => ?_⟩⟩
     · rcases hR.all c hc with h | ⟨q,hq,h⟩ | h
       · exact .inl h
       · rcases (hV.sm q hq).2.2.2 c h with h | h
         · exact .inl (.inr ⟨_,h⟩)
         · exact .inr (by omega)
       · exact .inr (by omega)
     · have h2:=hk' apart
       have h3:=hg.get apart
       rw [Ce,get_nil] at h3
       have h4 : (T.node aa Jk apart Qq ZO Q7).er.get apart = Qq:=get_nil
       rw [h4] at h2
       obtain ⟨h5,h6⟩:=hV.idle fun c hc k => by
        have h7:=hk' (apart ++ c :: k)
        have h8:=hg.get (apart ++ c :: k)
        rw [Ce,Z8,(Qnc c).get k] at h8
        have h9 : (T.node aa Jk apart Qq ZO Q7).er.get (apart ++ c :: k) = (Q7 c).er.get k:=Z8
        rw [h9] at h7
        exact h8.trans h7
       obtain ⟨h10,h11⟩:=hid ⟨h2.symm.trans h3.symm,by rw [h5,List.length_map,← hdr]; rfl,fun q hq => by
        rw [h5] at hq
        obtain ⟨c,-,rfl⟩:=List.mem_map.1 hq
        rfl⟩
       exact ⟨h10,h11.trans h6⟩
end
end Go.Proofs.YtbnhggfiembejaaGreatDoor
end
section
namespace Go.Proofs.YtbnhggfiembejaaGreatDoor
open Go Go.RowKit X
set_option linter.unusedSimpArgs false
set_option linter.unusedVariables false
set_option linter.unusedSectionVars false
variable [Floor]
theorem QlA (y : UInt8) (t : T) : (fun c => (Xi [(y,t)] c).er) = JU Du y t.er:=by
 have h : Xi [(y,t)] = Zt (fun _ => .nil) y t:=Q01 (l:=[]) (p:=(y,t)) fun q hq => by cases hq
 rw [h,Uf]
 rfl
theorem Q2c (part : Key) (y : UInt8) : YF part none (JU Du y .nil) = .nil:=by
 have : JU Du y .nil = Du:=funext fun c => by unfold JU; split <;> rfl
 rw [this]
 unfold YF
 rw [if_pos Iy]
theorem QlZ {part : Key} {y : UInt8} {e : E} (h : e ≠ .nil) : YF part none (JU Du y e) = Q0B part y e:=by
 rw [N7 (c:=y) (by rw [JI]; cases e with | nil => exact absurd rfl h | node => rfl) fun d hd => by rw [ZN _ _ hd]; rfl,JI]
theorem Qdc {part : Key} {y : UInt8} {e : E} {v : Option Nat} {ks : UInt8 → E} : E.node part v ks ≠ YF part none (JU Du y e):=by
 cases e with
 | nil => rw [Q2c]; intro h; cases h
 | node p' v' ks' =>
   rw [QlZ (by simp)]
   intro h
   have h : E.node part v ks = .node (part ++ y :: p') v' ks':=h
   injection h with h1 _ _
   have:=congrArg List.length h1
   simp at this
section
variable {w : World} {aa Jk ba KZ o p n oa ob M : Nat} {apart Qi : Key} {Qq QW : Option Nat} {ZO Km : List Nat} {Q7 Qd : UInt8 → T} {mt : Option Y3} {b : T} {y : UInt8}
theorem Qvz (hI : OfI p o mt M) (ho : o ≠ 0) (ha : Wv w (.node aa Jk apart Qq ZO Q7) oa) (hb : Wv w b ob) (hla : (T.node aa Jk apart Qq ZO Q7).er.long ≤ 65535) (hM : ((Q7 y).er.long + 1) + (b.er.long + 1 - ob) < M) (hm : Mt w mt n) :
  Q6 P CS [Q5O p o mt,(T.node aa Jk apart Qq ZO Q7).v,bv y,Cb b ob] w fun r w' => ∃ t' n' e,r = t'.v ∧ Tree w' t' ∧ Mt w' mt n' ∧ Ext (MX mt) w w' ∧ (∀ c,t'.All c → (T.node aa Jk apart Qq ZO Q7).All c ∨ w.heap.size ≤ c) ∧ t'.ZJ ∧ Can e (gI p (Q7 y).er b.er 0 ob) ∧ t'.er = YF apart none (JU Du y e):=by
 refine Q30 ?_
 refine Qz fun sb w1 hsb hS hz1 he1 => ?_
 have hS : QZ w1 sb (Qlz p o mt) Bq:=hS
 refine Qz fun rb w2 hrb hR hz2 he2 => ?_
 have hR : QZ w2 rb [b.v,.int .i64 ob] KV:=hR
 have hS2:=hS.ext he2 fun h => h
 have hd:=Ext.drew (Ext.refl No w2)
 have hE2:=(he1.Q0 he2).Q0 hd
 refine hS2.drew.JH rfl ?_
 refine hR.drew.JH rfl ?_
 have ha2:=ha.Q4 hE2
 refine (FI ha2.tree (b:=y)).mono ?_
 rintro _ w3 ⟨rfl,QE⟩
 have hS3:=hS2.drew.ext QE fun h => h
 refine ⟨J6 (hR.drew.ext QE fun h => h),J6 hS3,?_⟩
 have JD:=hE2.Q0 QE
 have ha3:=ha.Q4 JD
 have hb3:=hb.Q4 JD
 have Dw:=hm.Q4 JD
 have hkl : (Q7 y).er.long ≤ 65535 ∧ (Q7 y).er.long ≤ (T.node aa Jk apart Qq ZO Q7).er.long:=by
  by_cases e : y ∈ dom (ptrs Q7)
  · have:=Vd (a:=aa) (ow:=Jk) (part:=apart) (val:=Qq) (ks:=ZO) e
    omega
  · have : Q7 y = .nil:=T.Ff fun hq => e (Zd.2 hq)
    rw [this]
    exact ⟨Nat.zero_le _,Nat.zero_le _⟩
 have hk3 : Wv w3 (Q7 y) 0:=⟨ha3.tree.2 y,ha.fine.2 y,ha.QR.2 y,by have:=ha.long; omega,Nat.zero_le _⟩
 refine Q6.mono (show Q6 P Jp [Q5O p o mt,Cb (Q7 y) 0,Cb b ob] w3 _ from hI (by omega) hkl.1 hk3 hb3 Dw) ?_
 rintro _ w4 ⟨t1,n1,rfl,hIR⟩
 have hz3:=JD.size
 have Qvg : Ext (MX mt) w w4:=(JD.mono fun _ _ h => h.elim).QI hIR.ext
 have hall : ∀ c,t1.All c → (T.node aa Jk apart Qq ZO Q7).All c ∨ w.heap.size ≤ c:=fun c hc => (hIR.all c hc).imp (fun h => .inr ⟨y,h⟩) fun h => by omega
 by_cases hn : t1 = .nil
 · subst hn
   refine Ka T.nil ?_
   refine Qr rfl ?_
   exact ⟨.nil,n1,.nil,rfl,trivial,hIR.cnt,Qvg,fun c hc => hc.elim,trivial,hIR.can,(Q2c _ _).symm⟩
 · refine Vn hn ?_
   refine Qp rfl ?_
   have hS4:=hS3.ext hIR.ext (Dw.ne hS3 (by decide))
   refine hS4.JH rfl ?_
   show Qs w4 [bv y,t1.v] J5 _
   refine Qz fun kb w5 hkb hK hz5 ZR => ?_
   have hL : LK w5 (.slice (some ⟨kb,0,none⟩) 1 1) [(y,t1)]:=⟨⟨_,hK.sln rfl,fun i p hp => by
    cases i with
    | zero => simp at hp; subst hp; exact ⟨rfl,rfl⟩
    | succ i => simp at hp⟩,fun p hp => by rw [List.mem_singleton.1 hp]; exact hIR.tree.Q4 ZR,fun p hp => by rw [List.mem_singleton.1 hp]; exact hn,List.pairwise_singleton _ _,by simp⟩
   have ha5:=(ha3.YL Dw hIR.ext).Q4 ZR
   have hkn : Q7 y ≠ .nil:=fun e => by
    obtain ⟨k,v,hk⟩:=E.Nj hIR.can.fine (by cases t1 with | nil => exact absurd rfl hn | node => simp [T.er])
    rw [hIR.can.get k] at hk
    obtain ⟨z,hz⟩:=Qbv hk
    rw [e] at hz
    cases hz
   have hyd : y ∈ dom (ptrs Q7):=Zd.2 (T.Q29 hkn)
   have hks : ZO ≠ []:=fun e => by
    have h0 : dom (ptrs Q7) = []:=List.eq_nil_of_length_eq_zero (ha.QR.1.1 e)
    rw [h0] at hyd
    cases hyd
   refine Q6.mono (show Q6 P Vb [Q5O p o mt,(T.node aa Jk apart Qq ZO Q7).v,.bool (none : Option Nat).isSome,.int .u64 (0 : Nat),.slice (some ⟨kb,0,none⟩) 1 1] w5 _ from
    QhV (p:=p) (val:=none) (x:=0) ha5.tree hks ha.fine ha.QR hL (fun q hq => by rw [List.mem_singleton.1 hq]; exact hIR.QR) (fun y h => by cases h) (by omega) ho (hIR.cnt.Q4 ZR) fun q hq => by
     rw [List.mem_singleton.1 hq]
     have h3:=Q3N hIR.can (fun k v Wq => Qbv Wq) hn
     have:=Vd (a:=aa) (ow:=Jk) (part:=apart) (val:=Qq) (ks:=ZO) hyd
     show apart.length + 1 + t1.part.length ≤ _
     omega) ?_
   rintro _ w6 ⟨t',n',rfl,hLR,-⟩
   have Ro:=Qvg.size
   have hz5':=ZR.size
   refine ⟨t',n',t1.er,rfl,hLR.tree,hLR.cnt,(Qvg.Q0 ZR).QI hLR.ext,fun c hc => ?_,hLR.QR,hIR.can,by rw [hLR.er,QlA]⟩
   rcases hLR.all c hc with h | ⟨q,hq,h⟩ | h
   · exact .inl h
   · rw [List.mem_singleton.1 hq] at h
     exact hall c h
   · exact .inr (by omega)
theorem QlW {p oa : Nat} {e : E} (h3 : p ≠ 3) (hp : 1 ≤ p ∧ p ≤ 5) (h : ∀ ap v ks,e = .node ap v ks → oa ≤ ap.length) (k : Key) : gI p e e oa oa k = e.get k:=by
 unfold gI
 cases e with
 | nil => rfl
 | node ap v ks =>
   by_cases hk : ap <+: k
   · obtain ⟨s,rfl⟩:=hk
     rw [Nl (h _ _ _ rfl)]
     have : (W9 oa (E.node ap v ks)).get (ap.drop oa ++ s) = (E.node ap v ks).get (ap ++ s):=by
      show (E.node (ap.drop oa) v ks).get _ = _
      cases s with
      | nil => rw [List.append_nil,List.append_nil,get_nil,get_nil]
      | cons c s => rw [Z8,Z8]
     rw [this]
     exact Qdw h3 hp _
   · rw [J3 hk]; rfl
set_option maxRecDepth 100000 in
theorem QgE (hI : OfI p o mt M) (ho : o ≠ 0) (hp : 1 ≤ p ∧ p ≤ 5) (hla : (T.node aa Jk apart Qq ZO Q7).er.long ≤ 65535) (ha : Wv w (.node aa Jk apart Qq ZO Q7) oa) (hb : Wv w (.node ba KZ Qi QW Km Qd) ob)
  (hM : ((T.node aa Jk apart Qq ZO Q7).er.long + 1 - oa) + ((T.node ba KZ Qi QW Km Qd).er.long + 1 - ob) ≤ M) (hm : Mt w mt n) :
  Q6 P Jp [Q5O p o mt,Cb (.node aa Jk apart Qq ZO Q7) oa,Cb (.node ba KZ Qi QW Km Qd) ob] w fun r w' => ∃ t' n',r = t'.v ∧ IR w w' p (.node aa Jk apart Qq ZO Q7) (.node ba KZ Qi QW Km Qd) oa ob t' mt n n':=by
 have Nh : oa ≤ apart.length:=ha.off
 have QdB : ob ≤ Qi.length:=hb.off
 have hsa:=ha.tree.1.short
 have hsb:=hb.tree.1.short
 have hal : apart.length ≤ (T.node aa Jk apart Qq ZO Q7).er.long:=by show _ ≤ (E.node apart Qq fun c => (Q7 c).er).long; rw [E.Ky]; omega
 have hbl : Qi.length ≤ (T.node ba KZ Qi QW Km Qd).er.long:=by show _ ≤ (E.node Qi QW fun c => (Qd c).er).long; rw [E.Ky]; omega
 refine NF ?_
 refine Qz fun jb w1 hjb hj hz1 he1 => ?_
 have hj : QZ w1 jb (Qlz p o mt) Bq:=hj
 refine Qz fun ea w2 hea hA hz2 he2 => ?_
 have hA : QZ w2 ea [(T.node aa Jk apart Qq ZO Q7).v,.int .i64 oa] KV:=hA
 refine Qz fun eb w3 heb hB hz3 QE => ?_
 have hB : QZ w3 eb [(T.node ba KZ Qi QW Km Qd).v,.int .i64 ob] KV:=hB
 have Po:=(hj.ext he2 fun h => h).ext QE fun h => h
 have hA3:=hA.ext QE fun h => h
 have JD:=(he1.Q0 he2).Q0 QE
 have ha3:=ha.Q4 JD
 have hb3:=hb.Q4 JD
 have Dw:=hm.Q4 JD
 refine xj (fun vs w' => vs = [.bool false] ∧ w' = w3) ?_ ?_
 · refine hA3.ld (v:=(T.node aa Jk apart Qq ZO Q7).v) rfl ?_
   refine Vn (t:=.node aa Jk apart Qq ZO Q7) (by simp) ?_
   refine Qp rfl ?_
   refine hB.ld (v:=(T.node ba KZ Qi QW Km Qd).v) rfl ?_
   refine Vn (t:=.node ba KZ Qi QW Km Qd) (by simp) ?_
   exact ⟨rfl,rfl⟩
 rintro vs g w4 ⟨rfl,rfl⟩
 refine Qp rfl ?_
 obtain ⟨pva,hba,-⟩:=ha3.tree.1.blk
 obtain ⟨pvb,hbb,-⟩:=hb3.tree.1.blk
 refine xj (fun vs w' => ∃ t : Bool,vs = [.bool t] ∧ w' = w4 ∧ (t = true → p ≠ 3 ∧ aa = ba ∧ oa = ob)) ?_ ?_
 · refine hA3.JH rfl ?_
   refine hB.JH rfl ?_
   have key : ∀ t : Bool,(sameAddr ⟨aa,0,none⟩ ⟨ba,0,none⟩).run P w4 = .ok t w4 → (t = true → aa = ba) → Q8f P .eql KV (.tmp 20) (.tmp 21) (.agg #[rp aa,.int .i64 oa]) (.agg #[rp ba,.int .i64 ob]) w4 fun Q74 =>
     Ql (.bool Q74) (QC w4 ((⟨jb,0,none⟩ : Addr).add 0) fun Zh => Ad Zh (.int .i64 3) fun Z7 => ∃ t : Bool,[Z7] = [.bool t] ∧ w4 = w4 ∧ (t = true → p ≠ 3 ∧ aa = ba ∧ oa = ob)) (∃ t : Bool,[Value.bool false] = [.bool t] ∧ w4 = w4 ∧ (t = true → p ≠ 3 ∧ aa = ba ∧ oa = ob)):=fun t ht htt => by
    refine Qiq ht ?_
    by_cases h : (t && decide (oa = ob)) = true
    · rw [h]
      refine Qr rfl ?_
      refine Po.ld (o:=0) (v:=.int .i64 p) rfl ?_
      simp only [Bool.and_eq_true,decide_eq_true_eq] at h
      exact ⟨_,rfl,rfl,fun hs => ⟨fun e => by subst e; exact absurd hs (by decide),htt h.1,h.2⟩⟩
    · rw [show (t && decide (oa = ob)) = false by simpa using h]
      exact Qp rfl ⟨false,rfl,rfl,fun h => by cases h⟩
   by_cases e : aa = ba
   · exact key true (by rw [e]; exact run_sameAddr_same _ _) fun _ => e
   · exact key false (run_sameAddr_other _ (by simp [e]) hba.h hbb.h) fun h => by cases h
 rintro vs g w5 ⟨t,rfl,rfl,ht⟩
 cases t with
 | true =>
   obtain ⟨h3,e,rfl⟩:=ht rfl
   refine Qr rfl ?_
   refine hA3.ld (v:=(T.node aa Jk apart Qq ZO Q7).v) rfl ?_
   have hab:=Tree.inj ha3.tree hb3.tree (by show some (⟨aa,0,none⟩ : Addr) = some ⟨ba,0,none⟩; rw [e])
   have hg : ∀ k,gI p (T.node aa Jk apart Qq ZO Q7).er (T.node ba KZ Qi QW Km Qd).er oa oa k = (T.node aa Jk apart Qq ZO Q7).er.get k:=fun k => by
    rw [← hab]
    exact QlW h3 hp (fun ap v ks h => by
     have h : E.node apart Qq (fun c => (Q7 c).er) = .node ap v ks:=h
     injection h with h1 _ _
     rw [← h1]; exact Nh) k
   exact ⟨_,n,rfl,ha3.tree,Dw,JD.mono fun _ _ h => h.elim,fun c hc => .inl hc,ha.QR,⟨ha.fine,fun k => (hg k).symm⟩,fun _ => ⟨rfl,rfl⟩⟩
 | false =>
   refine Qp rfl ?_
   have hd:=Ext.drew (Ext.refl No w5)
   refine hA3.drew.JH rfl ?_
   refine hB.drew.JH rfl ?_
   refine (Qaw (off:=oa) (ha3.tree.Q4 hd) ha3.off).mono ?_
   rintro pv w6 ⟨hpv,Ke⟩
   have hpv : Bs w6 pv (apart.drop oa):=hpv
   have Q0h:=hd.Q0 Ke
   refine ⟨J6 (hB.ext Q0h fun h => h),?_⟩
   refine (Qaw (off:=ob) (hb3.tree.Q4 Q0h) hb3.off).mono ?_
   rintro qv w7 ⟨Ir,Yy⟩
   have Ir : Bs w7 qv (Qi.drop ob):=Ir
   have Qmz:=hpv.Q4 Yy
   refine (Hl Qmz Ir (by rw [List.length_drop]; omega) (by rw [List.length_drop]; omega)).mono ?_
   rintro _ w8 ⟨rfl,KJ⟩
   have Qbo:=(Q0h.Q0 Yy).Q0 KJ
   have E9:=JD.Q0 Qbo
   have hp8:=Qmz.Q4 KJ
   have hq8:=Ir.Q4 KJ
   have hj8:=Po.ext Qbo fun h => h
   have hA8:=hA3.ext Qbo fun h => h
   have hB8:=hB.ext Qbo fun h => h
   have ha8:=ha.Q4 E9
   have hb8:=hb.Q4 E9
   have Si:=hm.Q4 E9
   have hdl : (apart.drop oa).length = apart.length - oa:=List.length_drop
   have Qq8 : (Qi.drop ob).length = Qi.length - ob:=List.length_drop
   obtain ⟨c,q,r,ha0,hb0,hc0,hdf⟩:=Yf (apart.drop oa) (Qi.drop ob)
   rw [← hc0]
   have OX : (apart.drop oa).length = c.length + q.length:=by rw [ha0,List.length_append]
   have Rb : (Qi.drop ob).length = c.length + r.length:=by rw [hb0,List.length_append]
   have Q42 : ∀ k,apart.drop (oa + k) = (c ++ q).drop k:=fun k => by rw [← ha0,List.drop_drop]
   have Q41 : ∀ k,Qi.drop (ob + k) = (c ++ r).drop k:=fun k => by rw [← hb0,List.drop_drop]
   have hd8:=Ext.drew (Ext.refl No w8)
   have Qjt:=E9.Q0 hd8
   have hs8:=E9.size
   have Qai : ∀ y r',r = y :: r' → (Qi.drop ob)[c.length]? = some y:=fun y r' e => by rw [hb0,e]; simp
   have Qaj : ∀ x q',q = x :: q' → (apart.drop oa)[c.length]? = some x:=fun x q' e => by rw [ha0,e]; simp
   refine xj (fun vs w' => ∃ t : Bool,vs = [.bool t] ∧ w8 = w' ∧ (t = true ↔ q ≠ [] ∧ r ≠ [])) ?_ ?_
   · refine hp8.len ?_
     refine ZF (fun h => ?_) fun h => ⟨false,rfl,rfl,?_⟩
     · refine hq8.len ?_
       refine ⟨_,rfl,rfl,?_⟩
       rw [decide_eq_true_iff]
       constructor
       · intro h2; exact ⟨fun e => by subst e; simp at OX; omega,fun e => by subst e; simp at Rb; omega⟩
       · rintro ⟨-,h2⟩
         have : 0 < r.length:=List.length_pos_iff.2 h2
         omega
     · constructor
       · intro h2; cases h2
       · rintro ⟨h2,-⟩
         have : 0 < q.length:=List.length_pos_iff.2 h2
         omega
   rintro vs g w9 ⟨t,rfl,rfl,ht⟩
   cases t with
   | true =>
     obtain ⟨hq0,hr0⟩:=ht.1 rfl
     obtain ⟨x,q',rfl⟩:=List.exists_cons_of_ne_nil hq0
     obtain ⟨y,r',rfl⟩:=List.exists_cons_of_ne_nil hr0
     refine Qr rfl ?_
     exact ⟨.nil,n,rfl,(IR.none ha.fine Si (Qni Nh (hdf x y q' r' rfl rfl) ha0 hb0)).from' E9⟩
   | false =>
     refine Qp rfl ?_
     refine hq8.len ?_
     cases r with
     | cons y r' =>
       have hq0 : q = []:=by
        cases q with
        | nil => rfl
        | cons x q' => exact absurd (ht.2 ⟨by simp,by simp⟩) (by simp)
       subst hq0
       rw [List.append_nil] at ha0
       have hy:=Qai y r' rfl
       obtain ⟨hyl,hye⟩:=List.getElem?_eq_some_iff.1 hy
       simp at Rb
       refine ZF (fun _ => ?_) fun h => absurd (by omega) h
       refine hj8.drew.JH rfl ?_
       refine hA8.drew.ld (v:=(T.node aa Jk apart Qq ZO Q7).v) rfl ?_
       refine (hq8.Q4 hd8).rdK c.length hyl rfl fun p0 hk0 => ?_
       rw [hye] at hk0 ⊢
       refine hB8.drew.JH rfl ?_
       refine (Qav (a:=.node ba KZ Qi QW Km Qd) (off:=ob) (m:=c.length) (by omega)).mono ?_
       rintro _ Dn ⟨rfl,J9⟩
       have Ym:=hd8.Q0 J9
       have Dq:=E9.Q0 Ym
       refine ⟨hk0 _ (hq8.Q4 Ym),?_,J6 (hj8.ext Ym fun h => h),?_⟩
       · show Dn.cell? ((⟨ea,0,none⟩ : Addr).add 0) = _
         rw [Addr.add_lit,(hA8.ext Ym fun h => h).cell]; rfl
       have Q9p : Wv Dn (.node ba KZ Qi QW Km Qd) (ob + c.length + 1):=⟨(hb.Q4 Dq).tree,hb.fine,hb.QR,hb.long,by show ob + c.length + 1 ≤ Qi.length; omega⟩
       have hky : (Q7 y).er.long + 1 ≤ (T.node aa Jk apart Qq ZO Q7).er.long + 1 - oa:=by
        by_cases e : y ∈ dom (ptrs Q7)
        · have:=Vd (a:=aa) (ow:=Jk) (part:=apart) (val:=Qq) (ks:=ZO) e
          omega
        · have : Q7 y = .nil:=T.Ff fun hq => e (Zd.2 hq)
          rw [this]
          show 0 + 1 ≤ _
          omega
       refine (Qvz (y:=y) hI ho (ha.Q4 Dq) Q9p hla (by omega) (hm.Q4 Dq)).mono ?_
       rintro _ AL ⟨t',n',e,rfl,htr,Q9m,K9,hall,hlf,XE,her⟩
       have hg:=Qvo (p:=p) (oa:=oa) (av:=Qq) (bv':=QW) (ap:=apart) (bp:=Qi) (ak:=fun c => (Q7 c).er) (bk:=fun c => (Qd c).er) (ob':=ob + c.length + 1) Nh (by rw [hb0,ha0]) (by rw [Nat.add_assoc,Q41,← List.drop_drop,List.drop_left]; rfl) XE fun c => ha.fine.2 c
       have QyM:=Dq.size
       refine ⟨t',n',rfl,htr,Q9m,(Dq.mono fun _ _ h => h.elim).QI K9,fun c hc => (hall c hc).imp id fun h => by omega,hlf,by rw [her]; exact hg,fun hk => ?_⟩
       exfalso
       exact Qdc (E.unique ha.fine hg.fine fun k => ((hg.get k).trans (hk k)).symm)
     | nil =>
       rw [List.append_nil] at hb0
       simp at Rb
       refine ZF (fun h => absurd h (by omega)) fun _ => ?_
       refine hp8.len ?_
       cases q with
       | cons x q' =>
         have hx:=Qaj x q' rfl
         obtain ⟨hxl,hxe⟩:=List.getElem?_eq_some_iff.1 hx
         simp at OX
         refine ZF (fun _ => ?_) fun h => absurd (by omega) h
         refine hj8.drew.JH rfl ?_
         refine hA8.drew.JH rfl ?_
         refine hB8.drew.JH rfl ?_
         refine (hp8.Q4 hd8).rdK c.length hxl rfl fun p0 hk0 => ?_
         rw [hxe] at hk0 ⊢
         refine (Qav (a:=.node aa Jk apart Qq ZO Q7) (off:=oa) (m:=c.length) (by omega)).mono ?_
         rintro _ Dn ⟨rfl,J9⟩
         have Ym:=hd8.Q0 J9
         have Dq:=E9.Q0 Ym
         refine ⟨hk0 _ (hp8.Q4 Ym),J6 (hB8.ext Ym fun h => h),J6 (hj8.ext Ym fun h => h),?_⟩
         refine (QjM (c:=x) (off:=ob) (hb.Q4 Dq).tree).mono ?_
         rintro _ AL ⟨rfl,K9⟩
         have Q7z:=Ym.Q0 K9
         have Gf:=E9.Q0 Q7z
         refine ⟨J6 (hj8.ext Q7z fun h => h),?_⟩
         have hkb : (Qd x).er.long + 1 ≤ (T.node ba KZ Qi QW Km Qd).er.long + 1 - ob ∧ (Qd x).er.long ≤ (T.node ba KZ Qi QW Km Qd).er.long:=by
          by_cases e : x ∈ dom (ptrs Qd)
          · have:=Vd (a:=ba) (ow:=KZ) (part:=Qi) (val:=QW) (ks:=Km) e
            omega
          · have : Qd x = .nil:=T.Ff fun hq => e (Zd.2 hq)
            rw [this]
            refine ⟨?_,Nat.zero_le _⟩
            show 0 + 1 ≤ _
            omega
         have Qv8 : Wv AL (.node aa Jk apart Qq ZO Q7) (oa + c.length + 1):=⟨(ha.Q4 Gf).tree,ha.fine,ha.QR,ha.long,by show oa + c.length + 1 ≤ apart.length; omega⟩
         have Q5T : Wv AL (Qd x) 0:=⟨(hb.Q4 Gf).tree.2 x,hb.fine.2 x,hb.QR.2 x,by have:=hb.long; omega,Nat.zero_le _⟩
         refine Q6.mono (show Q6 P Jp [Q5O p o mt,Cb (.node aa Jk apart Qq ZO Q7) (oa + c.length + 1),Cb (Qd x) 0] AL _ from hI (by omega) hla Qv8 Q5T (hm.Q4 Gf)) ?_
         rintro _ Rw ⟨t',n',rfl,hR⟩
         have hg:=Qqp (p:=p) (ap:=apart) (av:=Qq) (ak:=fun c => (Q7 c).er) (bp:=Qi) (bv':=QW) (bk:=fun c => (Qd c).er) (oa':=oa + c.length + 1) (q:=q') (x:=x) Nh (by omega) (by rw [hb0,ha0]) (by rw [Nat.add_assoc,Q42,← List.drop_drop,List.drop_left]; rfl)
         have hR':=hR.from' Gf
         exact ⟨t',n',rfl,hR'.tree,hR'.cnt,hR'.ext,hR'.all,hR'.QR,hR'.can.congr fun k => (hg k).symm,fun hk => hR'.idle fun k => (hg k).symm.trans (hk k)⟩
       | nil =>
         rw [List.append_nil] at ha0
         simp at OX
         refine ZF (fun h => absurd h (by omega)) fun _ => ?_
         refine hj8.JH rfl ?_
         refine hA8.ld (v:=(T.node aa Jk apart Qq ZO Q7).v) rfl ?_
         refine hB8.ld (v:=(T.node ba KZ Qi QW Km Qd).v) rfl ?_
         refine (QnS hI ho hp ha8 hb8 hla (by rw [hb0,ha0]) hM Si).mono ?_
         rintro _ Dn ⟨t',n',rfl,hR⟩
         exact ⟨t',n',rfl,hR.from' E9⟩
theorem Qed {a b : T} (ha : Wv w a oa) (hb : Wv w b ob) (h : a = .nil ∨ b = .nil) (hm : Mt w mt n) : Q6 P Jp [Q5O p o mt,Cb a oa,Cb b ob] w fun r w' => ∃ t' n',r = t'.v ∧ IR w w' p a b oa ob t' mt n n':=by
 refine NF ?_
 refine Qz fun jb w1 hjb hj hz1 he1 => ?_
 refine Qz fun ea w2 hea hA hz2 he2 => ?_
 have hA : QZ w2 ea [a.v,.int .i64 oa] KV:=hA
 refine Qz fun eb w3 heb hB hz3 QE => ?_
 have hB : QZ w3 eb [b.v,.int .i64 ob] KV:=hB
 have hA3:=hA.ext QE fun h => h
 have JD:=(he1.Q0 he2).Q0 QE
 refine xj (fun vs w' => vs = [.bool true] ∧ w' = w3) ?_ ?_
 · refine hA3.ld (v:=a.v) rfl ?_
   cases a with
   | nil =>
     refine Ka T.nil ?_
     exact Qr rfl ⟨rfl,rfl⟩
   | node aa Jk apart Qq ZO Q7 =>
     refine Vn (t:=.node aa Jk apart Qq ZO Q7) (by simp) ?_
     refine Qp rfl ?_
     obtain rfl:=h.resolve_left (by simp)
     refine hB.ld (v:=T.nil.v) rfl ?_
     refine Ka T.nil ?_
     exact ⟨rfl,rfl⟩
 rintro vs g w4 ⟨rfl,rfl⟩
 refine Qr rfl ?_
 refine ⟨.nil,n,rfl,(IR.none ha.fine (hm.Q4 JD) fun k => ?_).from' JD⟩
 unfold gI
 rcases h with rfl | rfl
 · rfl
 · exact Cg
theorem QBI (hp : 1 ≤ p ∧ p ≤ 5) (ho : o ≠ 0) : ∀ M,OfI p o mt M:=by
 intro M
 induction M with
 | zero => intro w a b oa ob n hlt; omega
 | succ M ih =>
   intro w a b oa ob n hlt hla ha hb hm
   cases a with
   | nil => exact Qed ha hb (.inl rfl) hm
   | node aa Jk apart Qq ZO Q7 =>
     cases b with
     | nil => exact Qed ha hb (.inr rfl) hm
     | node ba KZ Qi QW Km Qd => exact QgE ih ho hp hla ha hb (by omega) hm
end
end Go.Proofs.YtbnhggfiembejaaGreatDoor
end
section
namespace Go.Proofs.YtbnhggfiembejaaGreatDoor
open Go Go.RowKit X
set_option linter.unusedSimpArgs false
set_option linter.unusedVariables false
set_option linter.unusedSectionVars false
def Q40 (f : Nat → Nat → Nat) (l m : Kv) : Kv:=l.filterMap fun x => (look m x.1).map fun y => (x.1,f x.2 y)
abbrev Vm (p : Nat) (l m : Kv) : Kv:=Q40 (CF p) l m
theorem XP {p : Nat} (l m : Kv) (k : Key) : look (Vm p l m) k = U8 p (look l k) (look m k):=by
 induction l with
 | nil => rfl
 | cons x r ih =>
   unfold Vm Q40 at ih ⊢
   by_cases e : x.1 = k
   · subst e
     have h1 : look (x :: r) x.1 = some x.2:=by simp [look]
     rw [h1]
     cases hm : look m x.1 with
     | none =>
       rw [List.filterMap_cons_none (by rw [hm]; rfl),ih,hm]
       rw [Cg]; rfl
     | some y =>
       rw [List.filterMap_cons_some (by rw [hm]; rfl)]
       simp [look,U8]
   · have h1 : look (x :: r) k = look r k:=by simp [look,e]
     rw [h1,← ih]
     cases hm : look m x.1 with
     | none => rw [List.filterMap_cons_none (by rw [hm]; rfl)]
     | some y =>
       rw [List.filterMap_cons_some (by rw [hm]; rfl)]
       simp [look,e]
theorem Qg2 {f : Nat → Nat → Nat} {l m : Kv} {q : Key × Nat} (h : q ∈ Q40 f l m) : ∃ x ∈ l,x.1 = q.1:=by
 obtain ⟨x,hx,hq⟩:=List.mem_filterMap.1 h
 cases hm : look m x.1 with
 | none => rw [hm] at hq; cases hq
 | some y => rw [hm] at hq; exact ⟨x,hx,by rw [← Option.some.inj hq]⟩
theorem Q0F (f : Nat → Nat → Nat) (l m : Kv) : (Q40 f l m).length ≤ l.length:=List.length_filterMap_le _ _
theorem OW {f : Nat → Nat → Nat} {l m : Kv} (h : Zp l) : Zp (Q40 f l m):=by
 refine List.Pairwise.filterMap _ (R:=fun a b : Key × Nat => Xr a.1 b.1) (fun a b hab x hx y hy => ?_) h
 have key : ∀ {a x : Key × Nat},(Option.map (fun y => (a.1,f a.2 y)) (look m a.1)) = some x → x.1 = a.1:=fun {a x} hx => by
  cases hm : look m a.1 with
  | none => rw [hm] at hx; cases hx
  | some z => rw [hm] at hx; rw [← Option.some.inj hx]
 rw [key hx,key hy]
 exact hab
theorem Qj0 [Floor] {f : Nat → Nat → Nat} {l m : Kv} (h : Pr l) : Pr (Q40 f l m):=⟨OW h.rises,fun q hq => by
 obtain ⟨x,hx,e⟩:=Qg2 hq
 rw [← e]; exact h.keys x hx,Nat.le_trans (Q0F f l m) h.many⟩
variable [Floor]
section
variable {w : World} {a b : T} {l m : Kv} {o n p : Nat} {mt : Option Y3} {z : Int} {va vb : Value}
structure IfR (w w' : World) (p : Nat) (a : T) (l m : Kv) (t' : T) (mt : Option Y3) (n n' : Nat) : Prop where
 ct : Ct w' t' (Vm p l m)
 cnt : Mt w' mt n'
 ext : Ext (MX mt) w w'
 all : ∀ c,t'.All c → a.All c ∨ w.heap.size ≤ c
 idle : Vm p l m = l → t' = a ∧ n' = n
theorem QvM {p : Nat} (hp : 1 ≤ p ∧ p ≤ 5) (hz : z = p) (ha : Ct w a l) (hl : Pr l) (hb : Ct w b m) (hm : Pr m) (hmt : Mt w mt n) (ho : o ≠ 0) :
  Q6 P GX [.int .i64 z,a.v,b.v,.int .u64 o,mv mt] w fun r w' => ∃ t' n',r = .tuple #[t'.v,.int .i64 0] ∧ IfR w w' p a l m t' mt n n':=by
 refine Qh4 ?_
 refine (Qi4 (z:=z) (a:=0) (b:=0) (by omega) (by omega)).mono ?_
 rintro r w1 ⟨he1,⟨p',h1,h5,hp',rfl⟩ | ⟨hn,rfl⟩⟩
 case inr => exact absurd ⟨by omega,by omega⟩ hn
 obtain rfl : p' = p:=by omega
 refine xj (fun vs w' => vs = [.bool false] ∧ w1 = w') ?_ ?_
 · refine Qp rfl ?_
   exact ⟨by simp; omega,rfl⟩
 rintro vs g w2 ⟨rfl,rfl⟩
 refine Qp rfl ?_
 subst hz
 have hla:=ha.long hl
 have hlb:=hb.long hm
 have ga : Wv w1 a 0:=⟨(ha.Q4 he1).tree,ha.can.fine,ha.QR,by omega,Nat.zero_le _⟩
 have gb : Wv w1 b 0:=⟨(hb.Q4 he1).tree,hb.can.fine,hb.QR,by omega,Nat.zero_le _⟩
 refine Q6.mono (show Q6 P Jp [Q5O p' o mt,Cb a 0,Cb b 0] w1 _ from QBI hp ho _ (Nat.lt_succ_self _) hla ga gb (hmt.Q4 he1)) ?_
 rintro _ w2 ⟨t',n',rfl,hR⟩
 have hR:=hR.from' he1
 have hg : ∀ k,gI p' a.er b.er 0 0 k = look (Vm p' l m) k:=fun k => by
  unfold gI
  rw [Xq,ha.can.get k,XP]
  show U8 p' _ (b.er.get k) = _
  rw [hb.can.get k]
 exact ⟨t',n',rfl,⟨hR.tree,hR.can.congr hg,hR.QR⟩,hR.cnt,hR.ext,hR.all,fun e => hR.idle fun k => by rw [hg,e,ha.can.get k]⟩
theorem Ct.isNil {t : T} (h : Ct w t l) : t = .nil ↔ l = []:=by
 constructor
 · rintro rfl
   cases l with
   | nil => rfl
   | cons x r =>
     have:=h.can.get x.1
     have e : look (x :: r) x.1 = some x.2:=by simp [look]
     rw [e] at this
     cases this
 · rintro rfl
   exact h.nilT
theorem Q6F (ha : Ct w a l) (hl : Pr l) (hb : Ct w b m) (hm : Pr m) (hmt : Mt w none n) : Q6 P U1 [a.v,b.v] w fun r w' => r = .bool (decide (Vm 1 l m = [])) ∧ Ext No w w':=by
 refine Q9I ?_
 refine (QvM (z:=1) (p:=1) (o:=1) (mt:=none) ⟨by omega,by omega⟩ rfl ha hl hb hm hmt (by omega)).mono ?_
 rintro _ w1 ⟨t',n',rfl,hR⟩
 have he : Ext No w w1:=hR.ext
 by_cases e : t' = .nil
 · have e2:=hR.ct.isNil.1 e
   subst e
   exact Ka (w:=w1) (K:=fun v => v = .bool (decide (Vm 1 l m = [])) ∧ Ext No w w1) T.nil ⟨by rw [decide_eq_true e2],he⟩
 · exact Vn (w:=w1) (K:=fun v => v = .bool (decide (Vm 1 l m = [])) ∧ Ext No w w1) e ⟨by rw [decide_eq_false fun h => e (hR.ct.isNil.2 h)],he⟩
end
end Go.Proofs.YtbnhggfiembejaaGreatDoor
end
