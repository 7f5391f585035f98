import Derived.Test.YtbnhggfiembejaaGreatDoorCanon
import Derived.Test.YtbnhggfiembejaaGreatDoorStr
import Derived.Test.YtbnhggfiembejaaGreatDoorSub
namespace Go.Proofs.YtbnhggfiembejaaGreatDoor
open Go Go.RowKit X
set_option linter.unusedSimpArgs false
set_option linter.unusedVariables false
set_option linter.unusedSectionVars false
def T.nodes : T → Key → List (Key × T)
 | .nil,_ => []
 | .node a ow part val ks kids,way => (way ++ part,.node a ow part val ks kids) :: Rf.flatMap fun c => (kids c).nodes (way ++ part ++ [c])
theorem Q7L {α β : Type} {p : α → Bool} {f : α → List β} : ∀ {l : List α},(∀ c,p c = false → f c = []) → (l.filter p).flatMap f = l.flatMap f:=by
 intro l h
 induction l with
 | nil => rfl
 | cons a l ih =>
   rw [List.filter_cons]
   cases hp : p a with
   | true => rw [if_pos rfl,List.flatMap_cons,List.flatMap_cons,ih]
   | false => rw [if_neg (by simp),List.flatMap_cons,ih,h a hp]; rfl
theorem T.GK {a ow : Nat} {part : Key} {val : Option Nat} {ks : List Nat} {kids : UInt8 → T} {way : Key} : (T.node a ow part val ks kids).nodes way = (way ++ part,.node a ow part val ks kids) :: (dom (ptrs kids)).flatMap fun c => (kids c).nodes (way ++ part ++ [c]):=by
 rw [T.nodes]
 unfold dom
 rw [Q7L]
 intro c hc
 cases h : kids c with
 | nil => rfl
 | node => simp [ptrs,h,T.ptr] at hc
variable [Floor]
theorem Bs.new' {w : World} {b : Nat} {k : Key} (h : QZ w b (k.map bv) Qm) : Bs w (.slice (some ⟨b,0,none⟩) k.length k.length) k:=by
 have:=h.sl (o:=0) (n:=k.length) (cap:=k.length) (by simp) (Nat.le_refl _)
 rw [List.drop_zero,List.take_of_length_le (by simp)] at this
 exact Bs.of this
abbrev Qpa:=World → List (Key × T) → (Nat → Prop) → Prop
structure Qpb (w0 : World) (fid : Nat) (cap : Array Value) (I : Qpa) (good : Key → T → Prop) (N : List (Key × T)) : Prop where
 bod : Q4c P fid = true
 ext : ∀ {w w' : World} {s : List (Key × T)} {D X : Nat → Prop},I w s D → Ext X w w' → (∀ b,D b → ¬ X b) → I w' s D
 lt : ∀ {w : World} {s : List (Key × T)} {D : Nat → Prop},I w s D → ∀ b,D b → w0.heap.size ≤ b ∧ b < w.heap.size
 call : ∀ {w : World} {s : List (Key × T)} {D : Nat → Prop} {key : Key} {vk : Value} {t : T},I w s D → Ext No w0 w → Tree w t → good key t → (∃ r,s ++ (key,t) :: r = N) → Bs w vk key →
  Q6 P fid ([vk,t.v] ++ cap.toList) w fun v w' => ∃ D',I w' (s ++ [(key,t)]) D' ∧ (∀ b,D' b → D b ∨ w.heap.size ≤ b) ∧ Ext D w w'
theorem Own.back {w w' : World} {B : Nat} {v v1 : Value} {xs ys : List Value} {n m : Nat} {X : Nat → Prop} (h : Own w B Qm 1 v n xs) (h1 : Own w B Qm 1 v1 (n + m) (xs ++ ys)) (h' : Own w' B Qm 1 v1 (n + m) (xs ++ ys)) (e : Ext X w w') (hx : ∀ b,v.ownBlock = some b → v1.ownBlock ≠ some b → ¬ X b) : Own w' B Qm 1 v n xs:=by
 obtain ⟨hl,hh⟩:=h
 refine ⟨hl,?_⟩
 rcases hh with hn | ⟨g,cap,cur,rfl,hb,hg,hnc,hm,hs,ht⟩
 · exact .inl hn
 · by_cases hv : v1.ownBlock = some g
   · rcases h1.2 with ⟨rfl,-⟩ | ⟨g1,cap1,cur1,rfl,hb1,hg1,hnc1,hm1,hs1,ht1⟩
     · cases hv
     · simp only [Value.ownBlock,Option.some.injEq] at hv
       subst hv
       rcases h'.2 with ⟨h2,-⟩ | ⟨g2,cap2,cur2,hv2,hb2,hg2,hnc2,hm2,hs2,ht2⟩
       · cases h2
       · simp only [Value.slice.injEq,Option.some.injEq,Addr.mk.injEq] at hv2
         obtain ⟨⟨rfl,-⟩,-,rfl⟩:=hv2
         have hcc : cur = cur1:=by
          have:=hg.symm.trans hg1
          simpa using this
         subst hcc
         have hcap : cap = cap1:=by
          have:=hs.symm.trans hs1
          omega
         subst hcap
         refine .inr ⟨g1,cap,cur2,rfl,hb,hg2,hnc,hm,hs2,?_⟩
         have h3:=congrArg (List.take (n * 1)) ht2
         rw [List.take_take,Nat.min_eq_left (by omega),List.take_left' hl] at h3
         exact h3
   · have:=hx g rfl hv
     exact .inr ⟨g,cap,cur,rfl,hb,by rw [e.same g (U4 hg) this]; exact hg,hnc,hm,hs,ht⟩
section
variable {w0 : World} {fid : Nat} {cap : Array Value} {I : Qpa} {good : Key → T → Prop} {N : List (Key × T)} {fb db : Nat} {Tf : TypeId} {B : Nat}
set_option maxRecDepth 100000 in
theorem QvD (hF : Qpb w0 fid cap I good N) (hTf : Qm ≠ Tf) (hB : w0.heap.size ≤ B) : ∀ (t : T) {w : World} {s : List (Key × T)} {D : Nat → Prop} {way : Key} {v : Value},
  Tree w0 t → (∀ x ∈ t.nodes way,good x.1 x.2) → (∃ r,s ++ t.nodes way ++ r = N) → Ext No w0 w → B ≤ w.heap.size → Own w B Qm 1 v way.length (way.map bv) → I w s D → (∀ b,v.ownBlock = some b → ¬ D b) → QZ w fb [.func (.func fid) #[] cap] Tf → QZ w db [.func (.func Wn) #[] #[.pointer (some ⟨fb,0,none⟩),.pointer (some ⟨db,0,none⟩)]] Tf → ¬ D fb → ¬ D db →
  way.length + t.er.long ≤ 1099511627776 →
  Q6 P Wn [v,t.v,.pointer (some ⟨fb,0,none⟩),.pointer (some ⟨db,0,none⟩)] w fun r w' => ∃ D',I w' (s ++ t.nodes way) D' ∧ (∀ b,D' b → D b ∨ w.heap.size ≤ b) ∧ Ext (fun b => v.ownBlock = some b ∨ D b) w w' ∧ Own w' B Qm 1 v way.length (way.map bv):=by
 intro t
 induction t with
 | nil =>
   intro w s D way v _ _ _ _ _ hv hI _ _ _ _ _ _
   refine Ti ?_
   refine Qr rfl ⟨D,?_,fun b h => .inl h,Ext.refl _ _,hv⟩
   rw [T.nodes,List.append_nil]; exact hI
 | node a ow part val ks kids ih =>
   intro w s D way v ht hg hN hE hBw hv hI hvD hfb hdb hfD hdD hlen
   have hlong : (T.node a ow part val ks kids).er.long = CZ ((dom (ptrs kids)).map fun c => (kids c).er.long + 1) + part.length:=by
    show (E.node part val fun c => (kids c).er).long = _
    rw [E.Ky,Ec]
   rw [hlong] at hlen
   rw [T.GK] at hg
   have htw:=ht.Q4 hE
   refine Ti ?_
   refine Qp rfl ?_
   refine (XA htw).mono ?_
   rintro pv w1 ⟨hpv,he1⟩
   have hpv : Bs w1 pv part:=hpv
   have hz1:=he1.size
   refine Vi Uq (hv.Q4 he1) (by omega) hpv (by simp only [List.mem_map]; rintro u ⟨c,-,rfl⟩; rfl) (by omega) (by omega) fun v1 w2 hv1 he2 hback hnew => ?_
   have hz2:=he2.size
   have Qmu : Own w2 B Qm 1 v1 (way ++ part).length ((way ++ part).map bv):=by rw [List.length_append,List.map_append]; exact hv1
   have hvo:=hback w2 (Ext.refl _ _) hv1
   have hE2 : Ext No w0 w2:=(hE.Q0 he1).trans he2 fun b hb h => by have:=(hv.ge h).1; omega
   have hI2 : I w2 s D:=hF.ext (hF.ext hI he1 fun _ _ h => h) he2 fun b hb h => hvD b h hb
   have QuU : QZ w2 fb [.func (.func fid) #[] cap] Tf:=(hfb.ext he1 fun h => h).ext he2 fun h => (hv.Q4 he1).ne (hfb.ext he1 fun h => h) hTf.symm h
   have QAg:=(hdb.ext he1 fun h => h).ext he2 fun h => (hv.Q4 he1).ne (hdb.ext he1 fun h => h) hTf.symm h
   have Qz0 : ∀ b,v1.ownBlock = some b → ¬ D b:=fun b hb hd => by
    rcases hnew b hb with h | h
    · exact hvD b h hd
    · have:=(hF.lt hI b hd).2; omega
   refine QuU.ld (v:=.func (.func fid) #[] cap) rfl ?_
   have hbs : Bs w2 v1 (way ++ part):=Bs.of Qmu.sl
   refine MF ?_
   refine XT hF.bod ?_
   refine Q6.mono (show Q6 P fid ([v1,(T.node a ow part val ks kids).v] ++ cap.toList) w2 _ from hF.call hI2 hE2 (ht.Q4 hE2) (hg _ (List.mem_cons_self ..)) (by obtain ⟨r,hr⟩:=hN; rw [T.GK] at hr; exact ⟨_,by simpa using hr⟩) hbs) ?_
   rintro _ w3 ⟨D1,hI3,hD1,QE⟩
   have hz3:=QE.size
   have hltD:=hF.lt hI
   have JD : Ext No w0 w3:=hE2.trans QE fun b hb h => by have:=(hltD b h).1; omega
   have hv13:=Qmu.ext QE Qz0
   have hfbl:=hfb.lt
   have hdbl:=hdb.lt
   refine (WS (ht.Q4 JD) (i:=0) (by omega)).mono ?_
   rintro _ w4 ⟨rfl,Zl⟩
   have Ro:=Zl.size
   have Qbj : Vx (ptrs (T.node a ow part val ks kids).kid) 0 = .tuple #[nxB (dom (ptrs kids)),nxP (ptrs kids) (dom (ptrs kids))]:=YZ (VI _)
   rw [Qbj]
   refine JN (fun nn vs w' => ∃ (d rest : List UInt8) (D' : Nat → Prop),vs = [nxP (ptrs kids) rest,nxB rest] ∧ nn = rest.length ∧ dom (ptrs kids) = d ++ rest ∧
     I w' (s ++ (way ++ part,.node a ow part val ks kids) :: d.flatMap fun c => (kids c).nodes (way ++ part ++ [c])) D' ∧ (∀ b,D' b → D b ∨ w2.heap.size ≤ b) ∧ Ext No w0 w' ∧ Ext (fun b => v1.ownBlock = some b ∨ D b) w2 w' ∧ Own w' B Qm 1 v1 (way ++ part).length ((way ++ part).map bv)) (dom (ptrs kids)).length
    ⟨[],_,D1,rfl,rfl,rfl,hF.ext hI3 Zl fun _ _ h => h,hD1,JD.Q0 Zl,(QE.mono fun b _ h => .inr h).Q0 Zl,hv13.Q4 Zl⟩ ?_
   rintro nn vs g w5 ⟨d,rest,D5,rfl,rfl,hdr,hI5,hD5,WX,Qjs,Qz2⟩
   have hz5:=Qjs.size
   unfold Mf
   cases rest with
   | nil =>
     rw [List.append_nil] at hdr
     have hn0 : ∀ K : Value → Prop,K (.bool false) → Y1 P w5 (nxP (ptrs kids) []) (.pointer none) K:=fun K k => k
     refine hn0 _ ?_
     refine Qp rfl ?_
     refine ⟨D5,?_,fun b h => (hD5 b h).imp id fun h => by omega,?_,?_⟩
     · rw [T.GK,hdr]; exact hI5
     · refine ((he1.mono fun _ _ h => h.elim).QI (he2.mono fun b _ h => .inl h)).trans Qjs fun b hb h => h.imp (fun h => ?_) id
       rcases hnew b h with h | h
       · exact h
       · omega
     · have Qz1 : Own w5 B Qm 1 v1 (way.length + part.length) (way.map bv ++ part.map bv):=by rw [← List.length_append,← List.map_append]; exact Qz2
       exact Own.back hvo hv1 Qz1 Qjs fun b hb hne h => h.elim hne (hvD b hb)
   | cons c rest =>
     have hcd : c ∈ dom (ptrs kids):=by rw [hdr]; simp
     obtain ⟨ka,hka⟩:=Option.isSome_iff_exists.1 (Zd.1 hcd)
     have hka : (kids c).ptr = some ka:=hka
     have hne : ∀ K : Value → Prop,K (.bool true) → Y1 P w5 (nxP (ptrs kids) (c :: rest)) (.pointer none) K:=fun K k => by
      show Y1 P w5 (.pointer (kids c).ptr) (.pointer none) K
      rw [hka]; exact k
     refine hne _ ?_
     refine Qr rfl ?_
     have hcl:=Ay (l:=(dom (ptrs kids)).map fun c => (kids c).er.long + 1) (List.mem_map.2 ⟨c,hcd,rfl⟩)
     have hfb5:=QuU.ext Qjs fun h => h.elim (fun h => Qmu.ne QuU hTf.symm h) hfD
     have QAf:=QAg.ext Qjs fun h => h.elim (fun h => Qmu.ne QAg hTf.symm h) hdD
     refine QAf.drew.ld (v:=.func (.func Wn) #[] #[.pointer (some ⟨fb,0,none⟩),.pointer (some ⟨db,0,none⟩)]) rfl ?_
     show Qs w5.drew ([c].map bv) Qm _
     refine Qz fun nb w6 hnb Q2u hz6 Ke => ?_
     have Q0h : Ext No w5 w6:=(Ext.refl No w5).drew.Q0 Ke
     have Qv0:=QAf.ext Q0h fun h => h
     have QA4:=hfb5.ext Q0h fun h => h
     refine ⟨by show w6.cell? ⟨db,0,none⟩ = _; rw [Qv0.cell]; rfl,?_⟩
     have hsl : Bs w6 (.slice (some ⟨nb,0,none⟩) 1 1) [c]:=Bs.new' (k:=[c]) Q2u
     have QpX:=Qz2.Q4 Q0h
     have hlw : (way ++ part).length = way.length + part.length:=List.length_append
     refine Vi Uq QpX (by have:=Q0h.size; omega) hsl (by intro u hu; simp at hu; rw [hu]; rfl) (by simp; omega) (by simp; omega) fun v2 w7 hv2 Yy Qv4 Qsq => ?_
     have hz7:=Yy.size
     have hz6':=Q0h.size
     have hv1o:=Qv4 w7 (Ext.refl _ _) hv2
     have QAe:=Qv0.ext Yy fun h => QpX.ne Qv0 hTf.symm h
     have hfb7:=QA4.ext Yy fun h => QpX.ne QA4 hTf.symm h
     refine ⟨by show w7.cell? ⟨db,0,none⟩ = _; rw [QAe.cell]; rfl,?_⟩
     refine MF ?_
     refine XT (by kernel_rfl) ?_
     have QyZ : Own w7 B Qm 1 v2 (way ++ part ++ [c]).length ((way ++ part ++ [c]).map bv):=by rw [List.length_append,List.map_append]; exact hv2
     have Qmt : ∀ b,v1.ownBlock = some b → ¬ D5 b:=fun b hb hd => by
      rcases hD5 b hd with h | h
      · exact Qz0 b hb h
      · have:=(Qmu.ge hb).2; omega
     have QzC:=hF.lt hI5
     have QyX : ∀ b,v2.ownBlock = some b → ¬ D5 b:=fun b hb hd => by
      rcases Qsq b hb with h | h
      · exact Qmt b h hd
      · have:=(QzC b hd).2; omega
     have BA : Ext No w0 w7:=(WX.Q0 Q0h).trans Yy fun b hb h => by have:=(QpX.ge h).1; omega
     have hI7:=hF.ext (hF.ext hI5 Q0h fun _ _ h => h) Yy fun b hb h => Qmt b h hb
     refine Q6.mono (show Q6 P Wn [v2,(kids c).v,.pointer (some ⟨fb,0,none⟩),.pointer (some ⟨db,0,none⟩)] w7 _ from ih c (ht.2 c) (fun x hx => hg x (List.mem_cons_of_mem _ (List.mem_flatMap.2 ⟨c,hcd,hx⟩))) (by obtain ⟨r,hr⟩:=hN; rw [T.GK,hdr] at hr; exact ⟨(rest.flatMap fun c => (kids c).nodes (way ++ part ++ [c])) ++ r,by simpa [List.append_assoc] using hr⟩) BA (by omega) QyZ hI7 QyX hfb7 QAe
      (fun h => by rcases hD5 _ h with h | h; exact hfD h; omega) (fun h => by rcases hD5 _ h with h | h; exact hdD h; omega) (by simp; omega)) ?_
     rintro _ w8 ⟨D8,hI8,hD8,KJ,hv28⟩
     have hz8:=KJ.size
     have E9 : Ext No w0 w8:=BA.trans KJ fun b hb h => by
      rcases h with h | h
      · have:=(QyZ.ge h).1; omega
      · have:=(QzC b h).1; omega
     have QyY : Own w8 B Qm 1 v2 ((way ++ part).length + [c].length) ((way ++ part).map bv ++ [c].map bv):=by rw [← List.length_append,← List.map_append]; exact hv28
     have hv18:=Own.back hv1o hv2 QyY KJ fun b hb hne h => h.elim hne (Qmt b hb)
     have hEx8 : Ext (fun b => v1.ownBlock = some b ∨ D b) w2 w8:=((Qjs.Q0 Q0h).QI (Yy.mono fun b _ h => .inl h)).trans KJ fun b hb h => by
      rcases h with h | h
      · rcases Qsq b h with h | h
        · exact .inl h
        · omega
      · rcases hD5 b h with h | h
        · exact .inr h
        · omega
     have hcb:=MV c
     refine xi (r:=(c.toNat : Int)) (QQ (by omega)) ?_
     refine xi (r:=((c.toNat + 1 : Nat) : Int)) (by rw [QQ (by omega)]; omega) ?_
     refine (WS (ht.Q4 E9) (i:=c.toNat + 1) (by omega)).mono ?_
     rintro r w9 ⟨rfl,Ym⟩
     have hnx : Vx (ptrs (T.node a ow part val ks kids).kid) (c.toNat + 1) = .tuple #[nxB rest,nxP (ptrs kids) rest]:=YZ (UI hdr)
     rw [hnx]
     refine JP rest.length (by simp) ⟨d ++ [c],rest,D8,rfl,rfl,by rw [hdr]; simp,?_,fun b h => ?_,E9.Q0 Ym,hEx8.Q0 Ym,hv18.Q4 Ym⟩
     · have h9:=hF.ext hI8 Ym fun _ _ h => h
       simpa [List.append_assoc] using h9
     · rcases hD8 b h with h | h
       · exact hD5 b h
       · exact .inr (by omega)
end
section
variable {w0 : World} {fid : Nat} {cap : Array Value} {I : Qpa} {good : Key → T → Prop}
set_option maxRecDepth 100000 in
theorem QvC {t : T} (hF : Qpb w0 fid cap I good (t.nodes [])) {w : World} {D : Nat → Prop} (hE : Ext No w0 w) (ht : Tree w0 t) (hg : ∀ x ∈ t.nodes [],good x.1 x.2) (hI : I w [] D) (hlen : t.er.long ≤ 1000000000) :
  Q6 P OT [t.v,.func (.func fid) #[] cap] w fun r w' => ∃ D',I w' (t.nodes []) D' ∧ (∀ b,D' b → D b ∨ w.heap.size ≤ b) ∧ Ext D w w':=by
 refine Qch ?_
 refine Qz fun fb w1 hfb QA3 hz1 he1 => ?_
 refine Qz fun db w2 hdb QAd hz2 he2 => ?_
 refine QAd.st (o:=0) (by simp) rfl fun w3 Qn0 hz3 QE => ?_
 have hs2:=he2.size
 have XK : Ext No w w3:=(he1.Q0 he2).Z0 QE (by omega)
 have QuT:=(QA3.ext he2 fun h => h).ext QE (by show ¬ fb = db; omega)
 have hI3 : I w3 [] D:=hF.ext hI XK fun _ _ h => h
 have hlt:=hF.lt hI
 refine Qn0.ld rfl ?_
 refine MF ?_
 refine XT (by kernel_rfl) ?_
 refine Q6.mono (show Q6 P Wn [.slice none 0 0,t.v,.pointer (some ⟨fb,0,none⟩),.pointer (some ⟨db,0,none⟩)] w3 _ from
  QvD hF (B:=w3.heap.size) (by decide) (by have:=hE.size; have:=XK.size; omega) t ht hg ⟨[],by simp⟩ (hE.Q0 XK) (Nat.le_refl _) (Own.nil w3 _ Qm 1) hI3 (fun b h => by cases h) QuT Qn0 (fun h => by have:=(hlt _ h).2; omega) (fun h => by have:=(hlt _ h).2; have:=he1.size; omega) (by simp; omega)) ?_
 rintro _ w4 ⟨D',hI4,hD4,Zl,-⟩
 refine ⟨D',hI4,fun b h => (hD4 b h).imp id fun h => by have:=XK.size; omega,?_⟩
 exact (XK.mono fun _ _ h => h.elim).QI (Zl.mono fun b _ h => h.elim (fun h => by cases h) id)
end
theorem T.QfI : ∀ {t : T} {way : Key},t.er.ZV → t.ZJ → ∀ x ∈ t.nodes way,x.1.length ≤ way.length + t.er.long ∧ x.2.er.ZV ∧ x.2.ZJ ∧ x.2 ≠ .nil:=by
 intro t
 induction t with
 | nil => intro way _ _ x hx; cases hx
 | node a ow part val ks kids ih =>
   intro way hf hl x hx
   rw [T.GK] at hx
   have hlong : (T.node a ow part val ks kids).er.long = CZ ((dom (ptrs kids)).map fun c => (kids c).er.long + 1) + part.length:=by
    show (E.node part val fun c => (kids c).er).long = _
    rw [E.Ky,Ec]
   rw [hlong]
   rcases List.mem_cons.1 hx with rfl | hx
   · exact ⟨by simp,hf,hl,by simp⟩
   · obtain ⟨c,hc,hx⟩:=List.mem_flatMap.1 hx
     have hcl:=Ay (l:=(dom (ptrs kids)).map fun c => (kids c).er.long + 1) (List.mem_map.2 ⟨c,hc,rfl⟩)
     obtain ⟨h1,h2⟩:=ih c (hf.2 c) (hl.2 c) x hx
     exact ⟨by simp at h1; omega,h2⟩
set_option maxRecDepth 100000 in
theorem QbY {w : World} {t : T} (ht : Tree w t) (hf : t.er.ZV) (hl : t.ZJ) (hlong : t.er.long ≤ 65535) : Q6 P Aw [t.v] w fun r w' => r = .bool true ∧ Ext No w w':=by
 refine Qci ?_
 refine Qz fun qb w1 hqb Qzk hz1 he1 => ?_
 refine Qzk.st (o:=0) (by simp) rfl fun w2 Qg6 hz2 he2 => ?_
 have JX : Ext No w w2:=he1.Z0 he2 (by omega)
 have Qg6 : QZ w2 qb [.bool true] Q8F:=Qg6
 have hF : Qpb w GY #[.pointer (some ⟨qb,0,none⟩)] (fun w' _ D => D = (· = qb) ∧ QZ w' qb [.bool true] Q8F ∧ w.heap.size ≤ qb) (fun key t => key.length ≤ 65535 ∧ t.er.ZV ∧ t.ZJ ∧ t ≠ .nil) (t.nodes []):=by
  refine ⟨by kernel_rfl,fun h e hx => ⟨h.1,h.2.1.ext e (hx qb (by rw [h.1])),h.2.2⟩,fun h b hb => ?_,?_⟩
  · obtain ⟨rfl,h2,h3⟩:=h
    obtain rfl : b = qb:=hb
    exact ⟨h3,h2.lt⟩
  · rintro w3 s D key vk t' ⟨rfl,hb,hge⟩ hE ht' ⟨hkl,hf',hl',hn⟩ - hk
    show Q6 P GY [vk,t'.v,.pointer (some ⟨qb,0,none⟩)] w3 _
    cases t' with
    | nil => exact absurd rfl hn
    | node a ow part val ks kids =>
      refine Q8B ?_
      refine (Cj ht').mono ?_
      rintro _ w4 ⟨rfl,rfl⟩
      refine xj (fun vs w' => vs = [.bool false] ∧ w4 = w') ?_ ?_
      · have may : Ql (.bool val.isSome) (Q6 P UT [vk] w4 fun v w' => Ad v (.int .i64 0) fun b => [b] = [.bool false] ∧ w4 = w') ([Value.bool false] = [.bool false] ∧ w4 = w4):=by
         refine xif (fun _ => ?_) fun _ => ⟨rfl,rfl⟩
         refine (Qi6 hk).mono ?_
         rintro _ w5 ⟨rfl,rfl⟩
         rw [if_pos hkl]
         exact ⟨rfl,rfl⟩
        refine (Hg ht').mono ?_
        rintro _ w5 ⟨rfl,rfl⟩
        refine Q5L (fun h => ?_) fun h => may
        refine (Qog ht'.1).mono ?_
        rintro _ w6 ⟨rfl,rfl⟩
        have hocc : 2 ≤ cnt (ptrs kids) + (if val.isSome then 1 else 0):=by
         have h1:=hf'.1
         have e : cnt (fun c => ((kids c).er).opt) = cnt (ptrs kids):=X.WR fun c => T.WQ (kids c)
         rw [e] at h1
         have hks : ks ≠ []:=fun e => h (by show ((Yx ks (ptrs kids) : Nat) : Int) = 1; unfold Yx; rw [if_pos e]; rfl)
         have hc : cnt (ptrs kids) ≠ 0:=fun e => hks (hl'.1.2 e)
         rw [if_neg hc] at h1
         exact h1
        refine Qp (by simp; omega) ?_
        exact may
      · rintro vs g w5 ⟨rfl,rfl⟩
        exact Qp rfl ⟨_,⟨rfl,hb,hge⟩,fun b h => .inl h,Ext.refl _ _⟩
 refine (QvC hF (w:=w2) (D:=(· = qb)) JX ht (fun x hx => ?_) ⟨rfl,Qg6,by omega⟩ (by omega)).mono ?_
 · obtain ⟨h1,h2⟩:=T.QfI hf hl x hx
   exact ⟨by simp at h1; omega,h2⟩
 · rintro _ w3 ⟨D',⟨rfl,hb,-⟩,-,QE⟩
   refine hb.ld (v:=.bool true) rfl ?_
   exact ⟨rfl,JX.Z0 QE (by omega)⟩
end Go.Proofs.YtbnhggfiembejaaGreatDoor
