import Derived.Test.YtbnhggfiembejaaGreatDoorUni
section
namespace Go.Proofs.YtbnhggfiembejaaGreatDoor
open Go Go.RowKit X
set_option linter.unusedSimpArgs false
set_option linter.unusedVariables false
set_option linter.unusedSectionVars false
variable [Floor]
structure UR (w w' : World) (p : Nat) (a b : T) (oa ob : Nat) (t' : T) (mt : Option Y3) (n n' : Nat) : Prop where
 tree : Tree w' t'
 cnt : Mt w' mt n'
 ext : Ext (MX mt) w w'
 all : ∀ c,t'.All c → a.All c ∨ b.All c ∨ w.heap.size ≤ c
 QR : t'.ZJ
 can : Can t'.er (fun k => Zx p ((W9 oa a.er).get k) ((W9 ob b.er).get k))
 idle : oa = 0 → (∀ k,Zx p (a.er.get k) ((W9 ob b.er).get k) = a.er.get k) → t'.ptr = a.ptr ∧ n' = n
theorem UR.from' {w w1 w2 : World} {p oa ob n n' : Nat} {a b t' : T} {mt : Option Y3} (he : Ext No w w1) (h : UR w1 w2 p a b oa ob t' mt n n') : UR w w2 p a b oa ob t' mt n n' :=
 ⟨h.tree,h.cnt,(he.mono fun _ _ h => h.elim).QI h.ext,fun c hc => (h.all c hc).imp id (Or.imp id fun h => by have:=he.size; omega),h.QR,h.can,h.idle⟩
structure Wv (w : World) (a : T) (oa : Nat) : Prop where
 tree : Tree w a
 fine : a.er.ZV
 QR : a.ZJ
 long : a.er.long ≤ 100000
 off : oa ≤ a.part.length
theorem Wv.Q4 {w w' : World} {a : T} {oa : Nat} (h : Wv w a oa) (e : Ext No w w') : Wv w' a oa:=⟨h.tree.Q4 e,h.fine,h.QR,h.long,h.off⟩
theorem Wv.YL {w w' : World} {a : T} {oa n : Nat} {mt : Option Y3} (h : Wv w a oa) (hm : Mt w mt n) (e : Ext (MX mt) w w') : Wv w' a oa:=⟨h.tree.YL hm e,h.fine,h.QR,h.long,h.off⟩
def OfS (p o : Nat) (mt : Option Y3) (M : Nat) : Prop:=∀ {w : World} {a b : T} {oa ob n : Nat},(a.er.long + 1 - oa) + (b.er.long + 1 - ob) < M → Wv w a oa → Wv w b ob → Mt w mt n →
 Q6 P ZT [Mr p o mt,AA a oa,AA b ob] w fun r w' => ∃ t' n',r = t'.v ∧ UR w w' p a b oa ob t' mt n n'
structure KR (w w' : World) (kid low t2 : T) (mt : Option Y3) (n2 : Nat) : Prop where
 tree : Tree w' t2
 cnt : Mt w' mt n2
 ext : Ext (MX mt) w w'
 all : ∀ c,t2.All c → kid.All c ∨ low.All c ∨ w.heap.size ≤ c
 QR : t2.ZJ
 some : t2 ≠ .nil
section
variable {w : World} {a ow o p n ou jb ub kb fb sb : Nat} {part : Key} {val : Option Nat} {ks : List Nat} {kids : UInt8 → T} {mt : Option Y3} {c : UInt8} {low : T} {v1 v2 : Value} {G : T → Nat → Prop}
theorem Qpt (k : UInt8 → E) (c : UInt8) : JU k c (k c) = k:=by
 funext d
 by_cases h : d = c
 · subst h; rw [JI]
 · rw [ZN _ _ h]
theorem QhT (ht : Tree w (.node a ow part val ks kids)) (hl : (T.node a ow part val ks kids).ZJ) (hks : ks ≠ []) (hm : Mt w mt n) (ho : o ≠ 0) (hou : ou ≤ part.length) (hlow : ∀ x,low.All x → x < w.heap.size)
  (hj : QZ w jb (Ms p o mt) Zy) (hu : QZ w ub [(T.node a ow part val ks kids).v,.int .i64 ou] Qj) (hk : QZ w kb [(kids c).v,.int .i64 0] Qj)
  (hf : QZ w fb [v1,.int .i64 0] Qj ∨ True)
  {K : Value → World → Prop} (hKK : ∀ r w',(∃ t' n' t2 n2,r = t'.v ∧ G t2 n2 ∧ Tree w' t' ∧ Mt w' mt n' ∧ Ext (MX mt) w w' ∧ t'.ZJ ∧ (∀ x,t'.All x → (T.node a ow part val ks kids).All x ∨ low.All x ∨ w.heap.size ≤ x) ∧ t'.er = .node (part.drop ou) val (JU (fun d => (kids d).er) c t2.er) ∧ (ou = 0 → t2.ptr = (kids c).ptr → n2 = n → t'.ptr = some ⟨a,0,none⟩ ∧ n' = n)) → K r w')
  (hof : Q6 P ZT [Mr p o mt,v1,v2] w fun r w' => ∃ t2 n2,r = t2.v ∧ KR w w' (kids c) low t2 mt n2 ∧ G t2 n2) :
  Q6 P ZT [Mr p o mt,v1,v2] w fun Ki JZ =>
   QC JZ ((⟨kb,0,none⟩ : Addr).add 0) fun YY =>
   YV P JZ Ki YY fun YD =>
   Ql YD (Qo JZ ⟨jb,0,none⟩ 4 fun Y9 =>
   Qo JZ ⟨ub,0,none⟩ 2 fun VQ =>
   Q6 P ZC [Y9,VQ] JZ fun r w' => K r w') (Qo JZ ⟨jb,0,none⟩ 4 fun Yo =>
   Qo JZ ⟨ub,0,none⟩ 2 fun Y8 =>
   Q6 P JG [Yo,Y8] JZ fun Y7 Wx =>
   QC Wx ((⟨jb,0,none⟩ : Addr).add 2) fun UD =>
   Q6 P QL [Y7,UD,bv c,Ki] Wx fun _ w' => K Y7 w'):=by
 refine hof.mono ?_
 rintro _ w1 ⟨t2,n2,rfl,hK,hG⟩
 have hj1:=hj.ext hK.ext (hm.ne hj (by decide))
 have hu1:=hu.ext hK.ext (hm.ne hu (by decide))
 have hk1:=hk.ext hK.ext (hm.ne hk (by decide))
 have ht1:=ht.YL hm hK.ext
 have hz1:=hK.ext.size
 refine hk1.ld (v:=(kids c).v) rfl ?_
 obtain ⟨a2,ow2,p2,v2',ks2,Bl,Q5R⟩ : ∃ a ow p v ks k,t2 = .node a ow p v ks k:=by
  cases h : t2 with
  | nil => exact absurd h hK.some
  | node => exact ⟨_,_,_,_,_,_,rfl⟩
 have hp2 : t2.ptr = some ⟨a2,0,none⟩:=by rw [Q5R]; rfl
 have hv2 : t2.v = rp a2:=by show Value.pointer t2.ptr = _; rw [hp2]
 have hall : ∀ x,t2.All x → (T.node a ow part val ks kids).All x ∨ low.All x ∨ w.heap.size ≤ x:=fun x hx => by
  rcases hK.all x hx with h | h
  · exact .inl (.inr ⟨c,h⟩)
  · exact .inr h
 have eqC : t2.ptr = (kids c).ptr → Qo w1 ⟨jb,0,none⟩ 4 fun Y9 => Qo w1 ⟨ub,0,none⟩ 2 fun VQ => Q6 P ZC [Y9,VQ] w1 fun r w' => K r w':=fun e => by
  refine hj1.JH rfl ?_
  refine hu1.JH rfl ?_
  have her:=Tree.inj hK.tree (ht1.2 c) e
  refine (Iz (p:=p) ht1 hK.cnt ho hou).mono ?_
  rintro _ w2 ⟨t',n',rfl,htr,hero,hlf,ha',hm2,-,hz,he2⟩
  refine hKK _ _ ⟨t',n',t2,n2,rfl,hG,htr,hm2,hK.ext.QI he2,hlf hl,fun x hx => (ha' x hx).imp id fun h => .inr (by omega),?_,fun h0 _ hn => ?_⟩
  · rw [hero,her]
    show _ = E.node (part.drop ou) val (JU (fun d => (kids d).er) c ((fun d => (kids d).er) c))
    rw [Qpt]
    rfl
  · obtain ⟨rfl,rfl⟩:=hz h0
    exact ⟨rfl,hn⟩
 have neC : t2.ptr ≠ (kids c).ptr → Qo w1 ⟨jb,0,none⟩ 4 fun Yo => Qo w1 ⟨ub,0,none⟩ 2 fun Y8 => Q6 P JG [Yo,Y8] w1 fun Y7 Wx => QC Wx ⟨jb,2,none⟩ fun UD => Q6 P QL [Y7,UD,bv c,t2.v] Wx fun _ w' => K Y7 w':=fun e => by
  refine hj1.JH rfl ?_
  refine hu1.JH rfl ?_
  refine (QbK (p:=p) ht1 hK.cnt ho hou).mono ?_
  rintro _ w2 ⟨u,Jw,rfl,htr,hiff,hfr,hm2,he2⟩
  have hj2:=hj1.ext he2 (hK.cnt.ne hj1 (by decide))
  refine hj2.ld (v:=.int .u64 o) rfl ?_
  have hF : FN w1 w2 u o (part.drop ou) val Jw kids mt (n2 + 1):=⟨htr,hfr,fun d x hx hn => by have:=hfr x hn; have:=(ht1.2 d).lt hx; omega,hm2,he2⟩
  have ht2:=hK.tree.YL hK.cnt he2
  rw [hv2]
  refine (Q4b hF ho (fun h => hks (hiff.1 h)) hp2 ht2 fun x hx hn => by have:=hfr x hn; have:=hK.tree.lt hx; omega).mono ?_
  rintro _ w3 ⟨Yb,hF3,QmM,QE,hNX⟩
  refine hKK _ _ ⟨.node u o (part.drop ou) val Yb (Zt kids c t2),n2 + 1,t2,n2,rfl,hG,hF3.tree,hF3.cnt,hK.ext.QI hF3.ext,⟨iff_of_false QmM (MU (by rw [hp2]; rfl)),fun d => ?_⟩,fun x hx => ?_,?_,fun _ h _ => absurd h e⟩
  · unfold Zt; split
    · exact hK.QR
    · exact hl.2 d
  · rcases hx with hx | ⟨d,hx⟩
    · exact .inr (.inr (by have:=hF3.fresh x hx; omega))
    · unfold Zt at hx; split at hx
      · exact hall x hx
      · exact .inl (.inr ⟨d,hx⟩)
  · show E.node (part.drop ou) val (fun d => (Zt kids c t2 d).er) = _
    rw [Uf]
 show Ia P w1 (.pointer t2.ptr) (.pointer (kids c).ptr) _
 have hb1 : ∀ a1,(kids c).ptr = some ⟨a1,0,none⟩ → ∃ cs T,QZ w1 a1 cs T:=fun a1 h => by
  have h1:=ht1.2 c
  cases hkc : kids c with
  | nil => rw [hkc] at h; cases h
  | node a3 ow3 p3 v3 ks3 Wo =>
    rw [hkc] at h h1
    obtain rfl : a3 = a1:=by simpa [T.ptr] using h
    obtain ⟨pv,hb,-⟩:=h1.1.blk
    exact ⟨_,_,hb⟩
 have hb2 : ∃ cs T,QZ w1 a2 cs T:=by
  have:=hK.tree
  rw [Q5R] at this
  obtain ⟨pv,hb,-⟩:=this.1.blk
  exact ⟨_,_,hb⟩
 have hpk : (kids c).ptr = none ∨ ∃ a1,(kids c).ptr = some ⟨a1,0,none⟩:=by
  cases kids c with
  | nil => exact .inl rfl
  | node a3 => exact .inr ⟨a3,rfl⟩
 generalize (kids c).ptr = q at eqC neC hb1 hpk ⊢
 rw [hp2] at eqC neC ⊢
 obtain ⟨cs2,T2,hb2⟩:=hb2
 rcases hpk with rfl | ⟨a1,rfl⟩
 · refine Qp rfl ?_
   exact neC (by simp)
 · obtain ⟨cs1,T1,hb1⟩:=hb1 a1 rfl
   show QaG P w1 ⟨a2,0,none⟩ ⟨a1,0,none⟩ _
   by_cases e : a2 = a1
   · subst e
     refine I9 (run_sameAddr_same _ _) ?_
     exact Qr rfl (eqC rfl)
   · refine I9 (run_sameAddr_other _ (by simp [e]) hb2.h hb1.h) ?_
     exact Qp rfl (neC (by simp [e]))
end
end Go.Proofs.YtbnhggfiembejaaGreatDoor
end
section
namespace Go.Proofs.YtbnhggfiembejaaGreatDoor
open Go Go.RowKit X
set_option linter.unusedSimpArgs false
set_option linter.unusedVariables false
set_option linter.unusedSectionVars false
variable [Floor]
theorem Qff {w : World} {b o : Nat} {cs : List Value} {T : TypeId} {v : Value} (h : QZ w b cs T) (hv : cs[o]? = some v) : Zg w (.pointer (some ((⟨b,0,none⟩ : Addr).add o))) v:=by
 show w.cell? ((⟨b,0,none⟩ : Addr).add o) = some v
 rw [Addr.add_lit,h.cell,Nat.zero_add,hv]
theorem X5 {w : World} {b : Nat} {x y : Value} {T : TypeId} (h : QZ w b [x,y] T) : Za w (.pointer (some ⟨b,0,none⟩)) (.agg #[x,y]):=by
 show ∀ i,i < (#[x,y] : Array Value).size → w.cell? ((⟨b,0,none⟩ : Addr).add i) = (#[x,y] : Array Value)[i]?
 intro i hi
 rw [Addr.add_lit,h.cell,Nat.zero_add]
 have : i = 0 ∨ i = 1:=by simp at hi; omega
 rcases this with rfl | rfl <;> rfl
section
variable {w : World} {a ow o p n ou ol : Nat} {part : Key} {val : Option Nat} {ks : List Nat} {kids : UInt8 → T} {mt : Option Y3} {y : UInt8} {low : T} {turned : Bool}
structure DR (w w' : World) (up low : T) (ou ol : Nat) (y : UInt8) (p : Nat) (turned : Bool) (t' : T) (mt : Option Y3) (n n' : Nat) : Prop where
 tree : Tree w' t'
 cnt : Mt w' mt n'
 ext : Ext (MX mt) w w'
 all : ∀ c,t'.All c → up.All c ∨ low.All c ∨ w.heap.size ≤ c
 QR : t'.ZJ
 er : ∃ e2 : E,t'.er = .node (up.part.drop ou) up.val (JU (fun d => (up.kid d).er) y e2) ∧ Can e2 (fun r => if turned then Zx p ((W9 ol low.er).get r) ((up.kid y).er.get r) else Zx p ((up.kid y).er.get r) ((W9 ol low.er).get r))
 idle : turned = false → ou = 0 → (∀ r,Zx p ((up.kid y).er.get r) ((W9 ol low.er).get r) = (up.kid y).er.get r) → t'.ptr = up.ptr ∧ n' = n
theorem Q7d {low : T} {ol : Nat} (h : low ≠ .nil) (hf : low.er.ZV) : ∃ k v,(W9 ol low.er).get k = some v:=by
 refine (XW hf).V8 fun e => ?_
 cases low with
 | nil => exact h rfl
 | node => cases e
theorem QbJ (hup : Wv w (.node a ow part val [] kids) ou) (hlow : Wv w low ol) (hln : low ≠ .nil) (hm : Mt w mt n) (ho : o ≠ 0) :
  Q6 P Yr [Mr p o mt,AA (.node a ow part val [] kids) ou,bv y,AA low ol,.bool turned] w fun r w' => ∃ t' n',r = t'.v ∧ DR w w' (.node a ow part val [] kids) low ou ol y p turned t' mt n n':=by
 have QdH:=Tree.Qdq hup.QR rfl
 subst QdH
 obtain ⟨v0,rfl⟩ : ∃ v0,val = some v0:=by
  have h:=hup.fine.1
  rw [if_pos (by show cnt _ = 0; simp [cnt,VG,T.er,E.opt])] at h
  exact Option.isSome_iff_exists.1 h
 have hv0:=hup.tree.1.v64 v0 rfl
 have hshort:=hup.tree.1.short
 refine EK ?_
 refine Qz fun jb w1 hjb hj hz1 he1 => ?_
 have hj : QZ w1 jb (Ms p o mt) Zy:=hj
 refine Qz fun ub w2 hub hU hz2 he2 => ?_
 have hU : QZ w2 ub [(T.node a ow part (some v0) [] fun _ => .nil).v,.int .i64 ou] Qj:=hU
 refine Qz fun lb w3 hlb hL hz3 QE => ?_
 have hL : QZ w3 lb [low.v,.int .i64 ol] Qj:=hL
 have Po:=(hj.ext he2 fun h => h).ext QE fun h => h
 have hU3:=hU.ext QE fun h => h
 have JD:=(he1.Q0 he2).Q0 QE
 refine hU3.JH rfl ?_
 refine (Gp (off:=ou) (hup.tree.Q4 JD)).mono ?_
 rintro _ w4 ⟨rfl,Zl⟩
 have U9:=JD.Q0 Zl
 refine Qr rfl ?_
 have hd4:=Ext.drew (Ext.refl No w4)
 have Qqj:=U9.Q0 hd4
 have hj4:=(Po.ext Zl fun h => h).drew
 have hU4:=(hU3.ext Zl fun h => h).drew
 have hL4:=(hL.ext Zl fun h => h).drew
 refine hj4.ld (v:=mv mt) rfl ?_
 refine hj4.ld (v:=.int .u64 o) rfl ?_
 refine hU4.JH rfl ?_
 refine (Q0b (off:=ou) (hup.tree.Q4 Qqj) hup.off).mono ?_
 rintro pv w5 ⟨hpv,ZR⟩
 have hpv : Bs w5 pv (part.drop ou):=hpv
 have hj5:=hj4.ext ZR fun h => h
 have hU5:=hU4.ext ZR fun h => h
 have hL5:=hL4.ext ZR fun h => h
 have WX:=Qqj.Q0 ZR
 have hm5:=hm.Q4 WX
 refine ⟨Qff hj5 rfl,Qff hj5 rfl,?_⟩
 refine (Q2D (ow:=o) hm5 hpv (by rw [List.length_drop]; omega)).mono ?_
 rintro _ w6 ⟨u,Jw,rfl,hna,hne,hfr,hm6,Ke⟩
 have hF6 : FN w5 w6 u o (part.drop ou) none Jw (fun _ => .nil) mt (n + 1):=⟨⟨hna,fun _ => trivial⟩,hfr,fun c b h => h.elim,hm6,Ke⟩
 have hj6:=hj5.ext Ke (hm5.ne hj5 (by decide))
 have hU6:=hU5.ext Ke (hm5.ne hU5 (by decide))
 have hL6:=hL5.ext Ke (hm5.ne hL5 (by decide))
 refine hU6.ld (v:=(T.node a ow part (some v0) [] fun _ => .nil).v) rfl ?_
 refine (Cj (((hup.tree.Q4 WX)).YL hm5 Ke)).mono ?_
 rintro _ w7 ⟨rfl,rfl⟩
 refine hj6.ld (v:=.int .u64 o) rfl ?_
 refine (QgO hF6 ho hv0).mono ?_
 rintro _ w8 ⟨hF8,KJ⟩
 have hfu:=hfr u (.inl rfl)
 have hjlt:=hj5.lt
 have hLlt:=hL5.lt
 have hj8:=(hj6.ext KJ (by show ¬ jb = u; omega)).drew
 have hL8:=(hL6.ext KJ (by show ¬ lb = u; omega)).drew
 have hd8:=Ext.drew (Ext.refl No w8)
 have Qjp:=hF8.Q4 hd8
 have E9 : Ext (MX mt) w w8.drew:=(WX.mono fun _ _ h => h.elim).QI Qjp.ext
 refine hj8.ld (v:=.int .u64 o) rfl ?_
 refine hj8.JH rfl ?_
 refine hL8.JH rfl ?_
 refine (Iz (p:=p) (hlow.tree.YL hm E9) Qjp.cnt ho hlow.off).mono ?_
 rintro _ w9 ⟨tl,n9,rfl,htl,QA5,hll,QsD,hm9,-,-,Ym⟩
 have hF9:=Qjp.go Ym hm9
 have hj9:=hj8.ext Ym (Qjp.cnt.ne hj8 (by decide))
 obtain ⟨a2,hpl⟩:=Q3Q hln QA5
 have hvl : tl.v = rp a2:=by show Value.pointer tl.ptr = _; rw [hpl]
 have hz5:=WX.size
 have hdl : ∀ c,tl.All c → ¬ NX u Jw c:=fun c hc hx => by
  have h1:=Qjp.fresh c hx
  have h2:=Qjp.lt hx
  rcases QsD c hc with h | h
  · have:=hlow.tree.lt h; omega
  · omega
 refine ⟨Qff hj9 rfl,?_⟩
 rw [hvl]
 refine (Q4b hF9 ho hne hpl htl hdl).mono ?_
 rintro _ Dn ⟨Yb,Qqi,hne',-,-⟩
 have hz8:=E9.size
 refine ⟨.node u o (part.drop ou) (some v0) Yb (Zt (fun _ => .nil) y tl),n9,rfl,Qqi.tree,Qqi.cnt,(WX.mono fun _ _ h => h.elim).QI Qqi.ext,fun c hc => ?_,⟨iff_of_false hne' (MU (by rw [hpl]; rfl)),fun d => ?_⟩,⟨W9 ol low.er,?_,?_⟩,fun _ _ h => ?_⟩
 · rcases hc with hc | ⟨d,hc⟩
   · exact .inr (.inr (by have:=Qqi.fresh c hc; omega))
   · unfold Zt at hc; split at hc
     · rcases QsD c hc with h | h
       · exact .inr (.inl h)
       · exact .inr (.inr (by omega))
     · exact hc.elim
 · unfold Zt; split
   · exact hll hlow.QR
   · trivial
 · show E.node (part.drop ou) (some v0) (fun d => (Zt (fun _ => .nil) y tl d).er) = _
   rw [Uf,QA5]
   rfl
 · refine ⟨XW hlow.fine,fun r => ?_⟩
   show _ = if turned = true then Zx p ((W9 ol low.er).get r) none else Zx p none ((W9 ol low.er).get r)
   rw [UY]
   split <;> rfl
 · obtain ⟨k,v,Wq⟩:=Q7d (ol:=ol) hln hlow.fine
   have:=h k
   rw [Wq] at this
   cases this
end
end Go.Proofs.YtbnhggfiembejaaGreatDoor
end
section
namespace Go.Proofs.YtbnhggfiembejaaGreatDoor
open Go Go.RowKit X
set_option linter.unusedSimpArgs false
set_option linter.unusedVariables false
set_option linter.unusedSectionVars false
variable [Floor]
section
variable {w : World} {a ow o p n ou ol : Nat} {part : Key} {val : Option Nat} {ks : List Nat} {kids : UInt8 → T} {mt : Option Y3} {y : UInt8} {low : T} {turned : Bool}
set_option maxHeartbeats 1000000 in
theorem QbI {M : Nat} (hI : OfS p o mt M) (hup : Wv w (.node a ow part val ks kids) ou) (hks : ks ≠ []) (hlow : Wv w low ol) (hln : low ≠ .nil) (hm : Mt w mt n) (ho : o ≠ 0) (hM : ((T.node a ow part val ks kids).er.long + 1 - ou) + (low.er.long + 1 - ol) ≤ M) :
  Q6 P Yr [Mr p o mt,AA (.node a ow part val ks kids) ou,bv y,AA low ol,.bool turned] w fun r w' => ∃ t' n',r = t'.v ∧ DR w w' (.node a ow part val ks kids) low ou ol y p turned t' mt n n':=by
 have hkind : (T.node a ow part val ks kids).kind ≠ 1:=by
  show Yx ks (ptrs kids) ≠ 1
  unfold Yx
  rw [if_neg hks]
  intro h
  have:=Nc (BR (ptrs kids))
  rw [h] at this
  revert this; decide
 have hoff : ou ≤ part.length:=hup.off
 have hlongk : (kids y).er.long + 1 + part.length ≤ (T.node a ow part val ks kids).er.long:=by
  have hlong : (T.node a ow part val ks kids).er.long = CZ ((dom (ptrs kids)).map fun c => (kids c).er.long + 1) + part.length:=by
   show (E.node part val fun c => (kids c).er).long = _
   rw [E.Ky,Ec]
  have hcnt : cnt (ptrs kids) ≠ 0:=fun e => hks (hup.QR.1.2 e)
  obtain ⟨c,hc⟩ : ∃ c,c ∈ dom (ptrs kids):=by
   cases h : dom (ptrs kids) with
   | nil => exact absurd (by unfold cnt; rw [h]; rfl) hcnt
   | cons c r => exact ⟨c,by simp⟩
  have h1:=Ay (l:=(dom (ptrs kids)).map fun c => (kids c).er.long + 1) (List.mem_map.2 ⟨c,hc,rfl⟩)
  by_cases hy : y ∈ dom (ptrs kids)
  · have:=Ay (l:=(dom (ptrs kids)).map fun c => (kids c).er.long + 1) (List.mem_map.2 ⟨y,hy,rfl⟩)
    omega
  · have : kids y = .nil:=by
     cases e : kids y with
     | nil => rfl
     | node => exact absurd (Zd.2 (by simp [ptrs,e,T.ptr])) hy
    rw [this]
    show 0 + 1 + part.length ≤ _
    omega
 have QzP : Wv w (kids y) 0:=⟨hup.tree.2 y,hup.fine.2 y,hup.QR.2 y,by have:=hup.long; omega,Nat.zero_le _⟩
 refine EK ?_
 refine Qz fun jb w1 hjb hj hz1 he1 => ?_
 have hj : QZ w1 jb (Ms p o mt) Zy:=hj
 refine Qz fun ub w2 hub hU hz2 he2 => ?_
 have hU : QZ w2 ub [(T.node a ow part val ks kids).v,.int .i64 ou] Qj:=hU
 refine Qz fun lb w3 hlb hL hz3 QE => ?_
 have hL : QZ w3 lb [low.v,.int .i64 ol] Qj:=hL
 have Po:=(hj.ext he2 fun h => h).ext QE fun h => h
 have hU3:=hU.ext QE fun h => h
 have JD:=(he1.Q0 he2).Q0 QE
 refine hU3.JH rfl ?_
 refine (Gp (off:=ou) (hup.tree.Q4 JD)).mono ?_
 rintro _ w4 ⟨rfl,Zl⟩
 have U9:=JD.Q0 Zl
 refine Qp (beq_eq_false_iff_ne.2 (by omega)) ?_
 have hj4:=Po.ext Zl fun h => h
 have hU4:=hU3.ext Zl fun h => h
 have hL4:=hL.ext Zl fun h => h
 refine hU4.JH rfl ?_
 refine (Qo0 (off:=ou) (c:=y) (hup.tree.Q4 U9)).mono ?_
 rintro _ w5 ⟨rfl,ZR⟩
 have WX:=U9.Q0 ZR
 refine Qz fun kb w6 hkb hK6 hz6 Ke => ?_
 have hK6 : QZ w6 kb [.pointer none,.int .i64 0] Qj:=hK6
 refine KD (a:=(kids y).v) (b:=.int .i64 0) hK6 (by kernel_rfl) rfl rfl fun w7 hK7 hz7 Yy => ?_
 have hs5:=WX.size
 have MC:=WX.Q0 Ke
 have BA:=MC.Z0 Yy (by omega)
 have hd:=Ext.drew (Ext.refl No w7)
 have Qvd:=BA.Q0 hd
 have hjb : jb < kb:=by have:=hj4.lt; have:=ZR.size; omega
 have hub : ub < kb:=by have:=hU4.lt; have:=ZR.size; omega
 have hlb : lb < kb:=by have:=hL4.lt; have:=ZR.size; omega
 have hj7:=(((hj4.ext ZR fun h => h).ext Ke fun h => h).ext Yy (by show ¬ jb = kb; omega)).drew
 have hU7:=(((hU4.ext ZR fun h => h).ext Ke fun h => h).ext Yy (by show ¬ ub = kb; omega)).drew
 have hL7:=(((hL4.ext ZR fun h => h).ext Ke fun h => h).ext Yy (by show ¬ lb = kb; omega)).drew
 have Qgf:=hK7.drew
 have hkblt:=Qgf.lt
 refine Qgf.JH rfl ?_
 refine hL7.JH rfl ?_
 have mid : ∀ {w' : World} {fb sb : Nat},Ext No w7.drew w' → QZ w' fb [.pointer none,.int .i64 0] Qj → QZ w' sb [.pointer none,.int .i64 0] Qj → fb ≠ sb → w7.drew.heap.size ≤ fb → w7.drew.heap.size ≤ sb →
   Yn P (storeVar Qj ⟨fb,0,none⟩ (.agg #[(kids y).v,.int .i64 0])) w' fun FB =>
   Za FB (.pointer (some ⟨lb,0,none⟩)) (.agg #[low.v,.int .i64 ol]) ∧ (Yn P (storeVar Qj ⟨sb,0,none⟩ (.agg #[low.v,.int .i64 ol])) FB fun VO =>
   XJ (fun TV =>
   Ql (.bool turned) (Qo VO.drew ⟨lb,0,none⟩ 2 fun WT =>
   Qo VO.drew ⟨kb,0,none⟩ 2 fun K3 =>
   Yn P (storeVar Qj ⟨fb,0,none⟩ WT) VO.drew fun YQ =>
   Za YQ (.pointer (some ⟨kb,0,none⟩)) K3 ∧ (Yn P (storeVar Qj ⟨sb,0,none⟩ K3) YQ fun XB =>
   TV [] XB)) (TV [] VO)) fun Q1l Qnn V6 =>
   Qo V6 ⟨jb,0,none⟩ 4 fun KX =>
   Qo V6 ⟨fb,0,none⟩ 2 fun Yi =>
   Qo V6 ⟨sb,0,none⟩ 2 fun Yh =>
   Q6 P ZT [KX,Yi,Yh] V6 fun Ki JZ =>
   QC JZ ((⟨kb,0,none⟩ : Addr).add 0) fun YY =>
   YV P JZ Ki YY fun YD =>
   Ql YD (Qo JZ ⟨jb,0,none⟩ 4 fun Y9 =>
   Qo JZ ⟨ub,0,none⟩ 2 fun VQ =>
   Q6 P ZC [Y9,VQ] JZ fun r w' => ∃ t' n',r = t'.v ∧ DR w w' (.node a ow part val ks kids) low ou ol y p turned t' mt n n') (Qo JZ ⟨jb,0,none⟩ 4 fun Yo =>
   Qo JZ ⟨ub,0,none⟩ 2 fun Y8 =>
   Q6 P JG [Yo,Y8] JZ fun Y7 Wx =>
   QC Wx ((⟨jb,0,none⟩ : Addr).add 2) fun UD =>
   Q6 P QL [Y7,UD,bv y,Ki] Wx fun _ w' => ∃ t' n',Y7 = t'.v ∧ DR w w' (.node a ow part val ks kids) low ou ol y p turned t' mt n n')):=by
  intro w' fb sb he' hF hS hfs hfge hsge
  refine KD (a:=(kids y).v) (b:=.int .i64 0) hF (by kernel_rfl) rfl rfl fun wa hFa hza hea => ?_
  have hjlt:=hj7.lt
  have hult:=hU7.lt
  have hllt:=hL7.lt
  have hLa:=(hL7.ext he' fun h => h).ext hea (by show ¬ lb = fb; omega)
  have hKa:=(Qgf.ext he' fun h => h).ext hea (by show ¬ kb = fb; omega)
  have hja:=(hj7.ext he' fun h => h).ext hea (by show ¬ jb = fb; omega)
  have hUa:=(hU7.ext he' fun h => h).ext hea (by show ¬ ub = fb; omega)
  have hSa:=hS.ext hea (by show ¬ sb = fb; omega)
  refine ⟨X5 hLa,?_⟩
  refine KD (a:=low.v) (b:=.int .i64 ol) hSa (by kernel_rfl) rfl rfl fun wb hSb hzb heb => ?_
  have hLb:=hLa.ext heb (by show ¬ lb = sb; omega)
  have hKb:=hKa.ext heb (by show ¬ kb = sb; omega)
  have hjb':=hja.ext heb (by show ¬ jb = sb; omega)
  have hUb:=hUa.ext heb (by show ¬ ub = sb; omega)
  have hFb:=hFa.ext heb (by show ¬ fb = sb; omega)
  have hs7:=Qvd.size
  have hEb : Ext No w wb:=((Qvd.Q0 he').Z0 hea (by omega)).Z0 heb (by omega)
  refine xj (fun vs wc => Ext No w wc ∧ QZ wc jb (Ms p o mt) Zy ∧ QZ wc ub [(T.node a ow part val ks kids).v,.int .i64 ou] Qj ∧ QZ wc kb [(kids y).v,.int .i64 0] Qj ∧
   QZ wc fb (if turned then [low.v,.int .i64 ol] else [(kids y).v,.int .i64 0]) Qj ∧ QZ wc sb (if turned then [(kids y).v,.int .i64 0] else [low.v,.int .i64 ol]) Qj) ?_ ?_
  · cases turned with
    | false => exact Qp rfl ⟨hEb,hjb',hUb,hKb,hFb,hSb⟩
    | true =>
      refine Qr rfl ?_
      refine hLb.drew.JH rfl ?_
      refine hKb.drew.JH rfl ?_
      refine KD (a:=low.v) (b:=.int .i64 ol) hFb.drew (by kernel_rfl) rfl rfl fun wc hFc hzc hec => ?_
      have hKc:=hKb.drew.ext hec (by show ¬ kb = fb; omega)
      refine ⟨X5 hKc,?_⟩
      refine KD (a:=(kids y).v) (b:=.int .i64 0) (hSb.drew.ext hec (by show ¬ sb = fb; omega)) (by kernel_rfl) rfl rfl fun we hSe hze hee => ?_
      exact ⟨(hEb.drew.Z0 hec (by omega)).Z0 hee (by omega),(hjb'.drew.ext hec (by show ¬ jb = fb; omega)).ext hee (by show ¬ jb = sb; omega),(hUb.drew.ext hec (by show ¬ ub = fb; omega)).ext hee (by show ¬ ub = sb; omega),hKc.ext hee (by show ¬ kb = sb; omega),hFc.ext hee (by show ¬ fb = sb; omega),hSe⟩
  · rintro vs g wc ⟨hEc,hjc,hUc,hKc,hFc,hSc⟩
    have hsc:=hEc.size
    refine hjc.JH rfl ?_
    obtain ⟨k0,x0,hk0⟩:=Q7d (ol:=ol) hln hlow.fine
    have QmN : ((kids y).er.long + 1 - 0) + (low.er.long + 1 - ol) < M:=by have:=hlow.off; omega
    cases turned with
    | false =>
      refine hFc.JH rfl ?_
      refine hSc.JH rfl ?_
      refine QhT (fb:=fb) (p:=p) (n:=n) (c:=y) (low:=low) (G:=fun t2 n2 => Can t2.er (fun r => Zx p ((kids y).er.get r) ((W9 ol low.er).get r)) ∧ ((∀ r,Zx p ((kids y).er.get r) ((W9 ol low.er).get r) = (kids y).er.get r) → t2.ptr = (kids y).ptr ∧ n2 = n)) (hup.tree.Q4 hEc) hup.QR hks (hm.Q4 hEc) ho hoff (fun x hx => (hlow.tree.Q4 hEc).lt hx) hjc hUc hKc (.inr trivial) ?_ ?_
      · rintro r w' ⟨t',n',t2,n2,hr,⟨XE,hidle⟩,htr,hmt,QuV,hlf,hall,her,hid⟩
        refine ⟨t',n',hr,htr,hmt,(hEc.mono fun _ _ h => h.elim).QI QuV,fun x hx => (hall x hx).imp id (Or.imp id fun h => by omega),hlf,⟨t2.er,her,XE⟩,fun _ h0 hmg => ?_⟩
        obtain ⟨h1,h2⟩:=hidle hmg
        exact hid h0 h1 h2
      · refine (hI QmN (QzP.Q4 hEc) (hlow.Q4 hEc) (hm.Q4 hEc)).mono ?_
        rintro r w' ⟨t2,n2,rfl,hU⟩
        have XE : Can t2.er (fun r => Zx p ((kids y).er.get r) ((W9 ol low.er).get r)):=hU.can.congr fun k => by rw [Xq]
        refine ⟨t2,n2,rfl,⟨hU.tree,hU.cnt,hU.ext,hU.all,hU.QR,fun e => ?_⟩,XE,hU.idle rfl⟩
        have:=XE.get k0
        rw [hk0,e] at this
        have h2:=congrArg Option.isSome this
        rw [XH] at h2
        simp [T.er,E.get] at h2
    | true =>
      refine hFc.JH rfl ?_
      refine hSc.JH rfl ?_
      refine QhT (fb:=fb) (p:=p) (n:=n) (c:=y) (low:=low) (G:=fun t2 n2 => Can t2.er (fun r => Zx p ((W9 ol low.er).get r) ((kids y).er.get r))) (hup.tree.Q4 hEc) hup.QR hks (hm.Q4 hEc) ho hoff (fun x hx => (hlow.tree.Q4 hEc).lt hx) hjc hUc hKc (.inr trivial) ?_ ?_
      · rintro r w' ⟨t',n',t2,n2,hr,XE,htr,hmt,QuV,hlf,hall,her,hid⟩
        exact ⟨t',n',hr,htr,hmt,(hEc.mono fun _ _ h => h.elim).QI QuV,fun x hx => (hall x hx).imp id (Or.imp id fun h => by omega),hlf,⟨t2.er,her,XE⟩,fun h => by cases h⟩
      · refine (hI (by omega) (hlow.Q4 hEc) (QzP.Q4 hEc) (hm.Q4 hEc)).mono ?_
        rintro r w' ⟨t2,n2,rfl,hU⟩
        have XE : Can t2.er (fun r => Zx p ((W9 ol low.er).get r) ((kids y).er.get r)):=hU.can.congr fun k => by rw [Xq]
        refine ⟨t2,n2,rfl,⟨hU.tree,hU.cnt,hU.ext,fun c hc => (hU.all c hc).elim (fun h => .inr (.inl h)) fun h => h.elim .inl fun h => .inr (.inr h),hU.QR,fun e => ?_⟩,XE⟩
        have:=XE.get k0
        rw [hk0,e] at this
        have h2:=congrArg Option.isSome this
        rw [XH] at h2
        simp [T.er,E.get] at h2
 refine ⟨?_,?_⟩
 · refine Qz fun fb w8 hfb hF8 hz8 KJ => ⟨X5 (hL7.ext KJ fun h => h),X5 (Qgf.ext KJ fun h => h),?_⟩
   refine Qz fun sb w9 hsb hS9 hz9 Ym => ⟨X5 ((hL7.ext KJ fun h => h).ext Ym fun h => h),X5 ((Qgf.ext KJ fun h => h).ext Ym fun h => h),?_⟩
   have hs8:=KJ.size
   exact mid (KJ.Q0 Ym) (hF8.ext Ym fun h => h) hS9 (by omega) (by omega) (by omega)
 · refine Qz fun sb w8 hsb hS8 hz8 KJ => ⟨X5 (hL7.ext KJ fun h => h),X5 (Qgf.ext KJ fun h => h),?_⟩
   refine Qz fun fb w9 hfb hF9 hz9 Ym => ⟨X5 ((hL7.ext KJ fun h => h).ext Ym fun h => h),X5 ((Qgf.ext KJ fun h => h).ext Ym fun h => h),?_⟩
   have hs8:=KJ.size
   exact mid (KJ.Q0 Ym) hF9 (hS8.ext Ym fun h => h) (by omega) (by omega) (by omega)
end
end Go.Proofs.YtbnhggfiembejaaGreatDoor
end
section
namespace Go.Proofs.YtbnhggfiembejaaGreatDoor
open Go Go.RowKit X
set_option linter.unusedSimpArgs false
set_option linter.unusedVariables false
set_option linter.unusedSectionVars false
variable [Floor]
section
variable {w : World} {a ow o p n off u : Nat} {part : Key} {val : Option Nat} {ks : List Nat} {kids : UInt8 → T} {mt : Option Y3} {t : T} {x : Value}
theorem Qe5 : Q6 P Jd [Mr p o mt,rp u,AA t off] w fun r w' => r = rp u ∧ Ext No w w':=by
 refine EJ ?_
 refine Qz fun jb w1 hjb hj hz he => ?_
 refine Qz fun eb w2 heb hE hz2 he2 => ?_
 exact Qp rfl ⟨rfl,he.Q0 he2⟩
theorem Qgy : Q6 P Jj [Mr p o mt,rp u,AA t off] w fun r w' => r = rp u ∧ Ext No w w':=by
 refine FJ ?_
 refine Qz fun jb w1 hjb hj hz he => ?_
 refine Qz fun eb w2 heb hE hz2 he2 => ?_
 exact Qp rfl ⟨rfl,he.Q0 he2⟩
theorem Q5i (ht : Tree w (.node a ow part val ks kids)) (hm : Mt w mt n) (ho : o ≠ 0) (hoff : off ≤ part.length) :
  Q6 P Jd [Mr p o mt,.pointer none,AA (.node a ow part val ks kids) off] w fun r w' => ∃ u Jw,r = rp u ∧ FN w w' u o (part.drop off) val Jw kids mt (n + 1) ∧ (Jw = [] ↔ ks = []):=by
 refine EJ ?_
 refine Qz fun jb w1 hjb hj hz he => ?_
 have hj : QZ w1 jb (Ms p o mt) Zy:=hj
 refine Qz fun eb w2 heb hE hz2 he2 => ?_
 have hE : QZ w2 eb [(T.node a ow part val ks kids).v,.int .i64 off] Qj:=hE
 refine Qr rfl ?_
 refine (hj.ext he2 fun h => h).JH rfl ?_
 refine hE.JH rfl ?_
 have Sm:=he.Q0 he2
 have hs:=Sm.size
 refine (QbK (p:=p) (ht.Q4 Sm) (hm.Q4 Sm) ho hoff).mono ?_
 rintro _ w3 ⟨u,Jw,rfl,htr,hiff,hfr,Dw,QE⟩
 exact ⟨u,Jw,rfl,⟨htr,fun b hb => by have:=hfr b hb; omega,fun c b hb hn => by have:=hfr b hn; have:=(ht.2 c).lt hb; omega,Dw,(Sm.mono fun _ _ h => h.elim).QI QE⟩,hiff⟩
theorem Qgz (ht : Tree w t) (hm : Mt w mt n) (ho : o ≠ 0) (hoff : off ≤ t.part.length) :
  Q6 P Jj [Mr p o mt,.pointer none,AA t off] w fun r w' => ∃ t' n',r = t'.v ∧ Tree w' t' ∧ t'.er = W9 off t.er ∧ (t.ZJ → t'.ZJ) ∧ (∀ b,t'.All b → t.All b ∨ w.heap.size ≤ b) ∧ Mt w' mt n' ∧ n' ≤ n + 1 ∧ (off = 0 → t' = t ∧ n' = n) ∧ Ext (MX mt) w w':=by
 refine FJ ?_
 refine Qz fun jb w1 hjb hj hz he => ?_
 have hj : QZ w1 jb (Ms p o mt) Zy:=hj
 refine Qz fun eb w2 heb hE hz2 he2 => ?_
 have hE : QZ w2 eb [t.v,.int .i64 off] Qj:=hE
 refine Qr rfl ?_
 refine (hj.ext he2 fun h => h).JH rfl ?_
 refine hE.JH rfl ?_
 have Sm:=he.Q0 he2
 have hs:=Sm.size
 refine (Iz (p:=p) (ht.Q4 Sm) (hm.Q4 Sm) ho hoff).mono ?_
 rintro _ w3 ⟨t',n',rfl,htr,her,hl,hall,Dw,hle,hz',QE⟩
 exact ⟨t',n',rfl,htr,her,hl,fun b hb => (hall b hb).imp id fun h => by omega,Dw,hle,hz',(Sm.mono fun _ _ h => h.elim).QI QE⟩
end
end Go.Proofs.YtbnhggfiembejaaGreatDoor
end
section
namespace Go.Proofs.YtbnhggfiembejaaGreatDoor
open Go Go.RowKit X
set_option linter.unusedSimpArgs false
set_option linter.unusedVariables false
set_option linter.unusedSectionVars false
theorem Qam {q : Key} {v : Option Nat} {k : UInt8 → E} {y : UInt8} {e : E} (h : (E.node q v k).ZV) (he : e.ZV) (hn : e ≠ .nil) : (E.node q v (JU k y e)).ZV:=by
 obtain ⟨h1,h2,h3⟩:=Dc h
 have hs : e.opt.isSome = true:=by cases e with
  | nil => exact absurd rfl hn
  | node => rfl
 have hc:=Df k y e
 rw [if_pos hs] at hc
 refine Ws (fun h0 => ?_) (fun h0 => ?_) fun c => ?_
 · exact h1 (by rw [h0] at hc; split at hc <;> omega)
 · by_cases h00 : Y2 k = 0
   · have:=h1 h00
     have ho : one v = 1:=by unfold one; rw [if_pos this]
     rw [h00] at hc
     split at hc <;> omega
   · have:=h2 h00
     split at hc <;> omega
 · unfold JU; split
   · exact he
   · exact h3 c
theorem QjJ {p : Nat} {P q' : Key} {y : UInt8} {va vb : Option Nat} {ka kb : UInt8 → E} {e2 : E} (hfa : (E.node P va ka).ZV) (hfb : (E.node q' vb kb).ZV) (h2 : Can e2 fun r => Zx p ((ka y).get r) ((E.node q' vb kb).get r)) :
  Can (E.node P va (JU ka y e2)) fun k => Zx p ((E.node P va ka).get k) ((E.node (P ++ y :: q') vb kb).get k):=by
 have hn : e2 ≠ .nil:=fun e => by
  obtain ⟨k,v,hk⟩:=hfb.V8 (by simp)
  have:=h2.get k
  rw [hk,e] at this
  have h3:=congrArg Option.isSome this
  rw [XH] at h3
  simp [E.get] at h3
 exact ⟨Qam hfa h2.fine hn,fun K => Qdh h2.get K⟩
theorem Qgv {p : Nat} {P q' : Key} {y : UInt8} {va vb : Option Nat} {ka kb : UInt8 → E} {e2 : E} (hfa : (E.node P va ka).ZV) (hfb : (E.node q' vb kb).ZV) (h2 : Can e2 fun r => Zx p ((E.node q' vb kb).get r) ((ka y).get r)) :
  Can (E.node P va (JU ka y e2)) fun k => Zx p ((E.node (P ++ y :: q') vb kb).get k) ((E.node P va ka).get k):=by
 have hn : e2 ≠ .nil:=fun e => by
  obtain ⟨k,v,hk⟩:=hfb.V8 (by simp)
  have:=h2.get k
  rw [hk,e] at this
  have h3:=congrArg Option.isSome this
  rw [XH] at h3
  simp [E.get] at h3
 exact ⟨Qam hfa h2.fine hn,fun K => Qb7 h2.get K⟩
theorem Qnb {Q : Key} {vb : Option Nat} {kb : UInt8 → E} (hf : (E.node Q vb kb).ZV) (y : UInt8) : ∃ K v,(E.node Q vb kb).get K = some v ∧ ∀ p' va ka,(E.node (Q ++ y :: p') va ka).get K = none:=by
 obtain ⟨h1,h2,h3⟩:=Dc hf
 cases vb with
 | some v => exact ⟨Q,v,get_nil,fun p' va ka => Hd⟩
 | none =>
   have h0 : Y2 kb ≠ 0:=fun e => by have:=h1 e; cases this
   have h2' : 2 ≤ Y2 kb + 0:=h2 h0
   obtain ⟨c,d,hc,hd,hcd⟩:=Qhv (l:=dom fun c => (kb c).opt) ((Xl _).imp fun h e => by subst e; exact absurd h (by simp)) h2'
   obtain ⟨z,hz,hzy⟩ : ∃ z,z ∈ (dom fun c => (kb c).opt) ∧ z ≠ y:=by
    by_cases e : c = y
    · exact ⟨d,hd,fun e' => hcd (e.trans e'.symm)⟩
    · exact ⟨c,hc,e⟩
   have hzs:=Zd.1 hz
   obtain ⟨k,v,hk⟩:=(h3 z).V8 fun e => by rw [e] at hzs; cases hzs
   exact ⟨Q ++ z :: k,v,by rw [Z8]; exact hk,fun p' va ka => Vs hzy⟩
theorem Qm1 {p : Nat} {Q p' : Key} {y : UInt8} {va vb : Option Nat} {ka kb : UInt8 → E} (hf : (E.node Q vb kb).ZV) (h : ∀ k,Zx p ((E.node (Q ++ y :: p') va ka).get k) ((E.node Q vb kb).get k) = (E.node (Q ++ y :: p') va ka).get k) : False:=by
 obtain ⟨K,v,h1,h2⟩:=Qnb hf y
 have:=h K
 rw [h1,h2] at this
 cases this
theorem QpN {p : Nat} {q p' q' : Key} {x y : UInt8} {va vb : Option Nat} {ka kb : UInt8 → E} (hxy : x ≠ y) (hf : (E.node (q ++ y :: q') vb kb).ZV) (h : ∀ k,Zx p ((E.node (q ++ x :: p') va ka).get k) ((E.node (q ++ y :: q') vb kb).get k) = (E.node (q ++ x :: p') va ka).get k) : False:=by
 obtain ⟨K,v,hk⟩:=hf.V8 (by simp)
 obtain ⟨r,rfl⟩ : ∃ r,K = q ++ y :: q' ++ r:=by
  by_cases hp : (q ++ y :: q') <+: K
  · obtain ⟨r,rfl⟩:=hp; exact ⟨r,rfl⟩
  · rw [J3 hp] at hk; cases hk
 have:=h (q ++ y :: q' ++ r)
 rw [hk,show q ++ y :: q' ++ r = q ++ y :: (q' ++ r) by simp,Vs (Ne.symm hxy)] at this
 cases this
end Go.Proofs.YtbnhggfiembejaaGreatDoor
end
