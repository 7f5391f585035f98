import Derived.Test.YtbnhggfiembejaaGreatDoorGr
import Derived.Test.YtbnhggfiembejaaGreatDoorSAd
import Derived.Test.YtbnhggfiembejaaGreatDoorRefV
import Derived.Test.YtbnhggfiembejaaGreatDoorG1
section
namespace Go.Proofs.YtbnhggfiembejaaGreatDoor
open Go Go.RowKit X
set_option linter.unusedSimpArgs false
set_option linter.unusedVariables false
set_option linter.unusedSectionVars false
def Yt (both : Bool) : Option Nat → Option Nat → Option Nat
 | none,_ => none
 | some x,none => if both then none else some x
 | some x,some y => if both && decide (x ≠ y) then some x else none
theorem Vf {both : Bool} {y : Option Nat} : Yt both none y = none:=by cases y <;> rfl
theorem Sr {both : Bool} {x : Option Nat} : Yt both x none = if both then none else x:=by cases x <;> cases both <;> rfl
theorem Q7P {both : Bool} {x : Option Nat} : Yt both x x = none:=by cases x <;> simp [Yt]
theorem P6 {both : Bool} {x y : Option Nat} {v : Nat} (h : Yt both x y = some v) : x = some v:=by
 cases x with
 | none => rw [Vf] at h; cases h
 | some x =>
   cases y with
   | none =>
     cases both
     · exact h
     · cases h
   | some y =>
     have h : (if both && decide (x ≠ y) then some x else none) = some v:=h
     split at h
     · exact h
     · cases h
theorem QlX (e : E) : W9 0 e = e:=by cases e <;> rfl
theorem Qap {ap r : Key} {oa : Nat} (h : oa ≤ ap.length) : (ap ++ r).drop oa = ap.drop oa ++ r:=by rw [List.drop_append_of_le_length h]
def gD (both : Bool) (a b : E) (oa ob : Nat) (k : Key) : Option Nat:=Yt both (a.get k) ((W9 ob b).get (k.drop oa))
theorem Qbw {both : Bool} {a b : E} {oa ob : Nat} {k : Key} {v : Nat} (h : gD both a b oa ob k = some v) : ∃ y,a.get k = some y:=⟨v,P6 h⟩
theorem Q1x {both : Bool} {b : E} {oa ob : Nat} {k : Key} : gD both .nil b oa ob k = none:=Vf
theorem Qnk {both : Bool} {a : E} {oa ob : Nat} {k : Key} : gD both a .nil oa ob k = if both then none else a.get k:=Sr
section
variable {both : Bool} {ap bp : Key} {av bv' : Option Nat} {ak bk : UInt8 → E} {oa ob : Nat}
theorem QsK {b : E} {k : Key} (h : ¬ ap <+: k) : gD both (.node ap av ak) b oa ob k = none:=by
 unfold gD
 rw [J3 h]
 exact Vf
theorem Qqq {e : E} (h : ∀ ap v ks,e = .node ap v ks → oa ≤ ap.length) (k : Key) : gD both e e oa oa k = none:=by
 unfold gD
 cases e with
 | nil => exact Vf
 | node ap v ks =>
   by_cases hk : ap <+: k
   · obtain ⟨s,rfl⟩:=hk
     rw [Qap (h _ _ _ rfl)]
     have : (W9 oa (E.node ap v ks)).get (ap.drop oa ++ s) = (E.node ap v ks).get (ap ++ s):=by
      show (E.node (ap.drop oa) v ks).get _ = _
      cases s with
      | nil => rw [List.append_nil,List.append_nil,get_nil,get_nil]
      | cons c s => rw [Z8,Z8]
     rw [this]
     exact Q7P
   · rw [J3 hk]; exact Vf
theorem Qnj {c : Key} {x y : UInt8} {q r : Key} (h : oa ≤ ap.length) (hxy : x ≠ y) (h1 : ap.drop oa = c ++ x :: q) (h2 : bp.drop ob = c ++ y :: r) (k : Key) : gD both (.node ap av ak) (.node bp bv' bk) oa ob k = if both then none else (E.node ap av ak).get k:=by
 unfold gD
 by_cases hk : ap <+: k
 · obtain ⟨s,rfl⟩:=hk
   rw [Qap h,h1]
   show Yt both _ ((E.node (bp.drop ob) bv' bk).get (c ++ x :: q ++ s)) = _
   rw [h2,show c ++ x :: q ++ s = c ++ x :: (q ++ s) by simp,Vs hxy]
   exact Sr
 · rw [J3 hk,Vf]; cases both <;> rfl
theorem Qbz {y : UInt8} {q : Key} (h : oa ≤ ap.length) (h2 : bp.drop ob = ap.drop oa ++ y :: q) : gD both (.node ap av ak) (.node bp bv' bk) oa ob ap = if both then none else av:=by
 unfold gD
 rw [get_nil]
 show Yt both av ((E.node (bp.drop ob) bv' bk).get (ap.drop oa)) = _
 rw [h2,Hd]
 exact Sr
theorem QbA {y : UInt8} {q : Key} {ob' : Nat} (h : oa ≤ ap.length) (h2 : bp.drop ob = ap.drop oa ++ y :: q) (hq : bp.drop ob' = q) (c : UInt8) (s : Key) :
  gD both (.node ap av ak) (.node bp bv' bk) oa ob (ap ++ c :: s) = if c = y then gD both (ak c) (.node bp bv' bk) 0 ob' s else gD both (ak c) .nil 0 0 s:=by
 unfold gD
 rw [Qap h,Z8]
 show Yt both _ ((E.node (bp.drop ob) bv' bk).get (ap.drop oa ++ c :: s)) = _
 rw [h2]
 split
 · rename_i e
   subst e
   rw [Eb,← hq]
   rfl
 · rename_i e
   rw [Vs (fun h => e h)]
   rfl
theorem Qqr {x : UInt8} {q : Key} {oa' : Nat} (h : oa ≤ ap.length) (h' : oa' ≤ ap.length) (h1 : ap.drop oa = bp.drop ob ++ x :: q) (hq : ap.drop oa' = q) (k : Key) : gD both (.node ap av ak) (.node bp bv' bk) oa ob k = gD both (.node ap av ak) (bk x) oa' 0 k:=by
 unfold gD
 by_cases hk : ap <+: k
 · obtain ⟨s,rfl⟩:=hk
   rw [Qap h,Qap h',hq,QlX]
   show Yt both _ ((E.node (bp.drop ob) bv' bk).get (ap.drop oa ++ s)) = _
   rw [h1,show bp.drop ob ++ x :: q ++ s = bp.drop ob ++ x :: (q ++ s) by simp,Z8]
 · rw [J3 hk,Vf,Vf]
theorem Qbx (h1 : bp.drop ob = ap.drop oa) : gD both (.node ap av ak) (.node bp bv' bk) oa ob ap = Yt both av bv':=by
 unfold gD
 rw [get_nil]
 show Yt both av ((E.node (bp.drop ob) bv' bk).get (ap.drop oa)) = _
 rw [h1,get_nil]
theorem Qby (h : oa ≤ ap.length) (h1 : bp.drop ob = ap.drop oa) (c : UInt8) (s : Key) : gD both (.node ap av ak) (.node bp bv' bk) oa ob (ap ++ c :: s) = gD both (ak c) (bk c) 0 0 s:=by
 unfold gD
 rw [Qap h,Z8]
 show Yt both _ ((E.node (bp.drop ob) bv' bk).get (ap.drop oa ++ c :: s)) = _
 rw [h1,Z8,QlX]
 rfl
end
abbrev dP (both : Bool) (m : Kv) (x : Key × Nat) : Bool:=(Yt both (some x.2) (look m x.1)).isSome
def Kb (both : Bool) (l m : Kv) : Kv:=l.filter (dP both m)
theorem Qaq {both : Bool} {x : Nat} {y : Option Nat} : Yt both (some x) y = if (Yt both (some x) y).isSome then some x else none:=by
 cases h : Yt both (some x) y with
 | none => rfl
 | some v => rw [P6 h]; rfl
theorem Qdm {l : Kv} {k : Key} (h : ∀ x ∈ l,x.1 ≠ k) : look l k = none:=by
 induction l with
 | nil => rfl
 | cons x r ih =>
   have h1 : look (x :: r) k = look r k:=by simp [look,h x (by simp)]
   rw [h1]
   exact ih fun y hy => h y (by simp [hy])
theorem X3 {both : Bool} {l m : Kv} (hl : Zp l) (k : Key) : look (Kb both l m) k = Yt both (look l k) (look m k):=by
 induction l with
 | nil => exact Vf.symm
 | cons x r ih =>
   have hc:=List.pairwise_cons.1 hl
   unfold Kb at ih ⊢
   by_cases e : x.1 = k
   · subst e
     have h1 : look (x :: r) x.1 = some x.2:=by simp [look]
     rw [h1]
     cases hm : dP both m x with
     | true =>
       rw [List.filter_cons_of_pos hm,Qaq,show (Yt both (some x.2) (look m x.1)).isSome = true from hm]
       simp [look]
     | false =>
       rw [List.filter_cons_of_neg (by rw [hm]; simp),Qaq,show (Yt both (some x.2) (look m x.1)).isSome = false from hm]
       refine Qdm fun y hy e => ?_
       have:=hc.1 y (List.mem_filter.1 hy).1
       rw [e] at this
       exact absurd this (Ep)
   · have h1 : look (x :: r) k = look r k:=by simp [look,e]
     rw [h1,← ih hc.2]
     cases hm : dP both m x with
     | true => rw [List.filter_cons_of_pos hm]; simp [look,e]
     | false => rw [List.filter_cons_of_neg (by rw [hm]; simp)]
theorem A8 {both : Bool} {l m : Kv} (h : Zp l) : Zp (Kb both l m):=List.Pairwise.filter _ h
theorem YM (both : Bool) (l m : Kv) : (Kb both l m).length ≤ l.length:=List.length_filter_le _ _
theorem Q07 {both : Bool} {l m : Kv} {x : Key × Nat} (h : x ∈ Kb both l m) : x ∈ l:=(List.mem_filter.1 h).1
theorem Bn [Floor] {both : Bool} {l m : Kv} (h : Pr l) : Pr (Kb both l m):=⟨A8 h.rises,fun q hq => h.keys q (Q07 hq),Nat.le_trans (YM both l m) h.many⟩
theorem Qgr (both : Bool) (l m : Kv) (x : Key × Nat) : Kb both (l ++ [x]) m = Kb both l m ++ if (Yt both (some x.2) (look m x.1)).isSome then [x] else []:=by
 unfold Kb
 rw [List.filter_append]
 congr 1
 cases h : dP both m x with
 | true => rw [List.filter_cons_of_pos h,if_pos h]; rfl
 | false => rw [List.filter_cons_of_neg (by rw [h]; simp),if_neg (by rw [show (Yt both (some x.2) (look m x.1)).isSome = false from h]; simp)]; rfl
def Uo (l m : Kv) : Kv:=Kj (Kb false l m ++ Kb false m l)
def Qqy : Option Nat → Option Nat → Option Nat
 | some x,none => some x
 | none,y => y
 | some _,some _ => none
theorem De {l m : Kv} (hl : Zp l) (hm : Zp m) (k : Key) : look (Uo l m) k = Qqy (look l k) (look m k):=by
 unfold Uo
 rw [OJ,Q3V,VE (A8 hm),VE (A8 hl),X3 hl,X3 hm]
 cases look l k <;> cases look m k <;> rfl
theorem Q0K (l m : Kv) : Zp (Uo l m):=C9 _
theorem Q0J {l m : Kv} (hl : Zp l) (hm : Zp m) : Cz 1 (Kb false l m) (Kb false m l) = Uo l m:=(OE _ _ _).ext (Q0K _ _) fun k => by
 rw [WA (A8 hl) (A8 hm),De hl hm,X3 hl,X3 hm]
 cases look l k <;> cases look m k <;> rfl
theorem Q1A [Floor] {l m : Kv} (hl : Pr l) (hm : Pr m) (h : l.length + m.length ≤ 100000) : Pr (Uo l m):=by
 rw [← Q0J hl.rises hm.rises]
 exact Q00 (Bn hl) (Bn hm) (by have:=YM false l m; have:=YM false m l; omega)
end Go.Proofs.YtbnhggfiembejaaGreatDoor
end
section
namespace Go.Proofs.YtbnhggfiembejaaGreatDoor
open Go Go.RowKit X
set_option linter.unusedSimpArgs false
set_option linter.unusedVariables false
set_option linter.unusedSectionVars false
noncomputable abbrev QdW (i : Nat) : Field:=(P.fieldsOf KW).getD i { name:="",type:=0,offset:=0,embedded:=false,tag:="",pkgPath:="",byteOffset:=0 }
theorem QnD : (P.fieldsOf KW).toList = [QdW 0,QdW 1]:=by kernel_rfl
theorem Qvv : (QdW 0).name = "n" ∧ (QdW 0).type = Jz ∧ (QdW 0).offset = 0:=⟨by kernel_rfl,by kernel_rfl,by kernel_rfl⟩
theorem Qvu : (QdW 1).name = "gone" ∧ (QdW 1).type = Ht ∧ (QdW 1).offset = 1:=⟨by kernel_rfl,by kernel_rfl,by kernel_rfl⟩
theorem QjC {Q : Program} {w : World} {d : Nat} {t e : TypeId} {a : Addr} (hu : Q.underlying t = some (.pointer e)) : (Op.equalIn (d + 1) t (.pointer (some a)) (.pointer none)).run Q w = .ok false w:=by
 simp only [Op.equalIn,Sem.run_bind,run_underlying hu,Result.andThen_ok]
 rfl
theorem QjB {w : World} {a b : Nat} {t : Bool} (h : (sameAddr ⟨a,0,none⟩ ⟨b,0,none⟩).run P w = .ok t w) : (Op.equalIn 9999 Jz (.pointer (some ⟨a,0,none⟩)) (.pointer (some ⟨b,0,none⟩))).run P w = .ok t w:=by
 obtain ⟨inf,QmR⟩:=Q7s
 exact Q7N (d:=9998) Ei QmR (by rw [Gj]; decide) h
theorem Qcs {w : World} {a b : Option Addr} {i j : Nat} {x y : Operand} {t : Bool} {K : Bool → Prop} (h : (Op.equalIn 9999 Jz (.pointer a) (.pointer b)).run P w = .ok t w) (k : K (t && decide (i = j))) :
  Q8f P .eql KW x y (.agg #[.pointer a,.int .i64 i]) (.agg #[.pointer b,.int .i64 j]) w K:=by
 refine ⟨⟨t && decide (i = j),run_eqGuard_agg w _ _ _ _ _ _ (by kernel_rfl),?_,k⟩⟩
 show (Op.equalIn (9999 + 1) KW _ _).run P w = _
 rw [run_equalIn_struct w 9999 _ _ _ (by kernel_rfl) (by kernel_rfl),QnD]
 obtain ⟨n0,t0,o0⟩:=Qvv
 obtain ⟨n1,t1,o1⟩:=Qvu
 have e1 : (((i : Nat) : Int) == (j : Int)) = decide (i = j):=by
  by_cases e : i = j
  · subst e; simp
  · rw [decide_eq_false e]; exact beq_eq_false_iff_ne.2 (by omega)
 have hint : (Op.equalIn 9999 Ht (.int .i64 (i : Int)) (.int .i64 (j : Int))).run P w = .ok (decide (i = j)) w:=by
  have:=run_equalIn_int w 9998 Ht .i64 .i64 (i : Int) (j : Int) G7
  rw [e1] at this
  exact this
 refine Qgo (x0:=.pointer a) (y0:=.pointer b) (x1:=.int .i64 (i : Int)) (y1:=.int .i64 (j : Int)) (by rw [n0]; decide) (by rw [n1]; decide) ?_ ?_ ?_ ?_ ?_ ?_
 · rw [t0,o0]; exact Vq Ei Q0c rfl
 · rw [t0,o0]; exact Vq Ei Q0c rfl
 · rw [t0]; exact h
 · rw [t1,o1]; exact Vq G7 Q0d rfl
 · rw [t1,o1]; exact Vq G7 Q0d rfl
 · rw [t1]; exact hint
variable [Floor]
abbrev plV (t : T) (off : Nat) : Value:=.agg #[t.v,.int .i64 off]
abbrev kpV (both : Bool) (o : Nat) (mt : Option Y3) : Value:=.agg #[.bool both,.int .u64 o,mv mt]
abbrev kpC (both : Bool) (o : Nat) (mt : Option Y3) : List Value:=[.bool both,.int .u64 o,mv mt]
section
variable {w w' : World} {a b t : T} {o n oa ob off m M : Nat} {mt : Option Y3} {both : Bool}
theorem QhY (ht : Tree w a) (ho : off ≤ a.part.length) : Q6 P Uj [plV a off] w fun r w' => Bs w' r (a.part.drop off) ∧ Ext No w w':=by
 refine Q34 ?_
 refine Qz fun eb w1 heb hE hz he => ?_
 have hE : QZ w1 eb [a.v,.int .i64 off] KW:=hE
 have hd:=Ext.drew (Ext.refl No w1)
 refine hE.drew.ld (v:=a.v) rfl ?_
 refine hE.drew.ld (v:=.int .i64 off) rfl ?_
 refine (XA ((ht.Q4 he).Q4 hd)).mono ?_
 rintro pv w2 ⟨hpv,he2⟩
 have hE2:=hE.drew.ext he2 fun h => h
 refine ⟨?_,?_⟩
 · show w2.cell? ((⟨eb,0,none⟩ : Addr).add 1) = _
   rw [Addr.add_lit,hE2.cell]; rfl
 · exact hpv.drop off rfl ho fun v' hv' => ⟨hv',(he.Q0 hd).Q0 he2⟩
theorem Sw : Q6 P YI [t.v] w fun r w' => r = plV t 0 ∧ Ext No w w':=by
 refine Qh7 ?_
 refine Qz fun eb w1 heb hE hz he => ?_
 refine KD hE (by kernel_rfl) (by cases t <;> rfl) rfl fun w2 hb2 hz2 he2 => ?_
 exact hb2.JH rfl ⟨rfl,he.Z0 he2 (by omega)⟩
theorem Q7X (ha : Tree w a) (hf : a.er.ZV) (hl : a.ZJ) (hm : Mt w mt n) {g : Key → Option Nat} (hg : ∀ k,g k = if both then none else a.er.get k) : Q6 P VD [kpV both o mt,a.v] w fun r w' => ∃ t' n',r = t'.v ∧ GR w w' a g t' mt n n':=by
 refine Q36 ?_
 refine Qz fun kb w1 hkb hK hz he => ?_
 have hK : QZ w1 kb (kpC both o mt) Cm:=hK
 refine hK.ld (o:=0) (v:=.bool both) rfl ?_
 cases both with
 | true => exact Qr rfl ⟨.nil,n,rfl,(GR.none hf (hm.Q4 he) hg).from' he⟩
 | false => exact Qp rfl ⟨a,n,rfl,(GR.self (ha.Q4 he) hf hl (hm.Q4 he) hg).from' he⟩
def OfD (both : Bool) (o : Nat) (mt : Option Y3) (M : Nat) : Prop:=∀ {w : World} {a b : T} {oa ob n : Nat},(a.er.long + 1 - oa) + (b.er.long + 1 - ob) < M → a.er.long ≤ 65535 → Wv w a oa → Wv w b ob → Mt w mt n →
 Q6 P Jh [kpV both o mt,plV a oa,plV b ob] w fun r w' => ∃ t' n',r = t'.v ∧ GR w w' a (gD both a.er b.er oa ob) t' mt n n'
end
section
variable {w : World} {aa Jk ba KZ o n oa ob M : Nat} {apart Qi : Key} {Qq QW val : Option Nat} {ZO Km : List Nat} {Q7 Qd : UInt8 → T} {mt : Option Y3} {both : Bool} {b : T} {y : UInt8} {v : Value} {l : List (UInt8 × T)} {x : Nat}
theorem QhZ (ht : Tree w (.node aa Jk apart Qq ZO Q7)) (hne : ZO ≠ []) (hf : (T.node aa Jk apart Qq ZO Q7).er.ZV) (hl : (T.node aa Jk apart Qq ZO Q7).ZJ) (hL : LK w v l) (hlf : ∀ p ∈ l,p.2.ZJ) (hx : ∀ y,val = some y → y = x) (Q0f : x < 18446744073709551616) (ho : o ≠ 0) (hm : Mt w mt n)
  (hlen : ∀ p ∈ l,apart.length + 1 + p.2.part.length ≤ 65535) :
  Q6 P XZ [kpV both o mt,(T.node aa Jk apart Qq ZO Q7).v,.bool val.isSome,.int .u64 x,v] w fun r w' => ∃ t' n',r = t'.v ∧ Q3x w w' (.node aa Jk apart Qq ZO Q7) l (YF apart val fun c => (Xi l c).er) o t' mt n n' ∧
   ((Qq = val ∧ cnt (ptrs Q7) = l.length ∧ ∀ p ∈ l,(Q7 p.1).ptr = p.2.ptr) → t' = .node aa Jk apart Qq ZO Q7 ∧ n' = n):=by
 refine Q4D ?_
 refine Qz fun sb w1 hsb hS hz he => ?_
 have hS : QZ w1 sb (kpC both o mt) Cm:=hS
 refine hS.ld (o:=1) (v:=.int .u64 o) rfl ?_
 refine hS.ld (o:=2) (v:=mv mt) rfl ?_
 refine (QgN (ht.Q4 he) hne hf hl (hL.Q4 he) hlf hx Q0f ho (hm.Q4 he) hlen).mono ?_
 rintro _ w2 ⟨t',n',rfl,hR,hidle⟩
 exact ⟨t',n',rfl,hR.from' he,hidle⟩
set_option maxRecDepth 100000 in
theorem Qo3 (hI : OfD both o mt M) (ho : o ≠ 0) (ha : Wv w (.node aa Jk apart Qq ZO Q7) oa) (hb : Wv w b ob) (hbl : ob ≤ b.er.long) (hla : (T.node aa Jk apart Qq ZO Q7).er.long ≤ 65535)
  (hM : ((T.node aa Jk apart Qq ZO Q7).er.long + 1 - oa) + (b.er.long + 1 - ob) ≤ M) (hm : Mt w mt n) {g : Key → Option Nat}
  (hgv : g apart = if both then none else Qq) (hgk : ∀ c s,g (apart ++ c :: s) = if c = y then gD both (Q7 c).er b.er 0 ob s else gD both (Q7 c).er .nil 0 0 s) (hgn : ∀ k,¬ apart <+: k → g k = none) :
  Q6 P Uk [kpV both o mt,(T.node aa Jk apart Qq ZO Q7).v,bv y,plV b ob] w fun r w' => ∃ t' n',r = t'.v ∧ GR w w' (.node aa Jk apart Qq ZO Q7) g t' mt n n':=by
 have hoff : oa ≤ apart.length:=ha.off
 have hva : Qq.getD 0 < 18446744073709551616:=ha.tree.v64
 refine Q37 ?_
 refine Qz fun sb w1 hsb hS hz he1 => ?_
 have hS : QZ w1 sb (kpC both o mt) Cm:=hS
 refine Qz fun pb w2 hpb hP hz2 he2 => ?_
 have hP : QZ w2 pb [b.v,.int .i64 ob] KW:=hP
 have hS2:=hS.ext he2 fun h => h
 have hE2:=he1.Q0 he2
 have ha2:=ha.Q4 hE2
 have hm2:=hm.Q4 hE2
 refine (Cj ha2.tree).mono ?_
 rintro _ w3 ⟨rfl,rfl⟩
 refine (Hg ha2.tree).mono ?_
 rintro _ w4 ⟨rfl,rfl⟩
 by_cases hk : ZO = []
 · refine Qr (by show (((Yx ZO (ptrs Q7) : Nat) : Int) == 1) = true; unfold Yx; rw [if_pos hk]; rfl) ?_
   refine hS2.JH rfl ?_
   refine (Q7X (o:=o) (both:=both) (g:=g) ha2.tree ha.fine ha.QR hm2 fun k => ?_).mono ?_
   · show g k = if both then none else (E.node apart Qq fun c => (Q7 c).er).get k
     by_cases hp : apart <+: k
     · obtain ⟨s,rfl⟩:=hp
       cases s with
       | nil => rw [List.append_nil,hgv,get_nil]
       | cons c s =>
         rw [hgk,Z8,Q02 ha.QR hk c,Q1x,Q1x]
         split <;> cases both <;> rfl
     · rw [hgn k hp,J3 hp]; cases both <;> rfl
   · rintro _ w5 ⟨t',n',rfl,hR⟩
     exact ⟨t',n',rfl,hR.from' hE2⟩
 · refine Qp (beq_eq_false_iff_ne.2 (Q7k hk)) ?_
   refine (WS ha2.tree (i:=0) (by omega)).mono ?_
   rintro _ w7 ⟨rfl,Yy⟩
   rw [show Vx (ptrs (T.node aa Jk apart Qq ZO Q7).kid) 0 = .tuple #[nxB (dom (ptrs Q7)),nxP (ptrs Q7) (dom (ptrs Q7))] from YZ (VI _)]
   have BA:=hE2.Q0 Yy
   have ha7:=ha.Q4 BA
   have hb7:=hb.Q4 BA
   have hS7:=hS2.ext Yy fun h => h
   have hP7:=hP.ext Yy fun h => h
   have hm7:=hm.Q4 BA
   have hfl : Floor.n ≤ w7.heap.size:=hm7.fl
   refine JN (fun nn vs w' => ∃ (d rest : List UInt8) (l : List (UInt8 × T)) (v x0 : Value) (n1 : Nat),vs = [nxP (ptrs Q7) rest,nxB rest,x0,v] ∧ nn = rest.length ∧ dom (ptrs Q7) = d ++ rest ∧ LG w7 w' Q7 (fun c s => g (apart ++ c :: s)) d l v mt n n1) (dom (ptrs Q7)).length
    ⟨[],_,[],_,_,n,rfl,rfl,rfl,LG.nil hm7 (Ext.refl _ _)⟩ ?_
   rintro nn vs g0 w8 ⟨d,rest,l,v,x0,n1,rfl,rfl,hdr,hV⟩
   unfold F6
   have Si:=hV.cnt
   have hz8:=hV.ext.size
   have ha8:=ha7.YL hm7 hV.ext
   have hb8:=hb7.YL hm7 hV.ext
   have hS8:=hS7.ext hV.ext (hm7.ne hS7 (by decide))
   have hP8:=hP7.ext hV.ext (hm7.ne hP7 (by decide))
   have hrise : Eg (d ++ rest):=hdr ▸ Xl _
   have hdl : (dom (ptrs Q7)).length ≤ 256:=BR _
   cases rest with
   | cons c rest =>
     have hcd : c ∈ dom (ptrs Q7):=by rw [hdr]; simp
     obtain ⟨ka,hka⟩:=Option.isSome_iff_exists.1 (Zd.1 hcd)
     have hka : (Q7 c).ptr = some ka:=hka
     have hkn : Q7 c ≠ .nil:=fun e => by rw [e] at hka; cases hka
     have hlt : ∀ c' ∈ d,c'.toNat < c.toNat:=fun c' hc' => (List.pairwise_append.1 hrise).2.2 c' hc' c (by simp)
     have hcn : c ∉ d:=fun h => by have:=hlt c h; omega
     have hlen:=hV.len
     have QuZ : d.length + (rest.length + 1) ≤ 256:=by rw [hdr] at hdl; simpa using hdl
     have hlk:=Vd (a:=aa) (ow:=Jk) (part:=apart) (val:=Qq) (ks:=ZO) hcd
     refine WZ (t:=Q7 c) hkn ?_
     refine Qr rfl ?_
     refine xj (fun vs w' => ∃ (y : Value) (l' : List (UInt8 × T)) (v' : Value) (n2 : Nat),vs = [y,v'] ∧ LG w7 w' Q7 (fun c s => g (apart ++ c :: s)) (d ++ [c]) l' v' mt n n2) ?_ ?_
     · refine Qz fun ob1 w9 hob1 hO hz9 Ym => ?_
       have hO : QZ w9 ob1 [.pointer none,.int .i64 (0 : Nat)] KW:=hO
       refine KD hO (a:=.pointer none) (b:=.int .i64 (0 : Nat)) (by kernel_rfl) rfl rfl fun Dn QAK QyM J9 => ?_
       have QdL : Ext No w8 Dn:=Ym.Z0 J9 (by omega)
       refine xj (fun vs w' => ∃ (b' : T) (ob' : Nat),QZ w' ob1 [b'.v,.int .i64 ob'] KW ∧ Ext No w8 w' ∧ Wv w' b' ob' ∧ (b'.er.long + 1 - ob') ≤ (b.er.long + 1 - ob) ∧ ∀ s,g (apart ++ c :: s) = gD both (Q7 c).er b'.er 0 ob' s) ?_ ?_
       · refine Vu (fun h => ?_) fun h => ?_
         · have h : ((c.toNat : Nat) : Int) = (y.toNat : Nat):=h
           have hcy : c = y:=UInt8.toNat_inj.1 (by omega)
           refine (hP8.ext QdL fun h => h).JH rfl ?_
           refine KD QAK (a:=b.v) (b:=.int .i64 ob) (by kernel_rfl) (by cases b <;> rfl) rfl fun AL Qqh QyL K9 => ?_
           have Q7D : Ext No w8 AL:=QdL.Z0 K9 (by omega)
           exact ⟨b,ob,Qqh,Q7D,hb8.Q4 Q7D,Nat.le_refl _,fun s => by rw [hgk,if_pos hcy]⟩
         · have hcy : c ≠ y:=fun e => h (by rw [e])
           exact ⟨.nil,0,QAK,QdL,⟨trivial,trivial,trivial,Nat.zero_le _,Nat.zero_le _⟩,by show 0 + 1 - 0 ≤ _; omega,fun s => by rw [hgk,if_neg hcy]; rfl⟩
       rintro vs g1 AL ⟨b',ob',Qqh,Q7D,Q5T,hbl',hgs⟩
       have hd11:=Ext.drew (Ext.refl No AL)
       have Qqf:=hS8.ext Q7D fun h => h
       refine Qqf.drew.JH rfl ?_
       refine Qqh.drew.JH rfl ?_
       show Q6 P YI [(Q7 c).v] AL.drew _
       refine (Sw (t:=Q7 c)).mono ?_
       rintro _ Rw ⟨rfl,JX⟩
       have h112:=hd11.Q0 JX
       have Qvj:=Q7D.Q0 h112
       refine ⟨J6 (Qqh.ext h112 fun h => h),J6 (Qqf.ext h112 fun h => h),?_⟩
       have QzS : Wv Rw (Q7 c) 0:=⟨(ha8.tree.Q4 Qvj).2 c,ha.fine.2 c,ha.QR.2 c,by have:=ha.long; omega,Nat.zero_le _⟩
       refine Q6.mono (show Q6 P Jh [kpV both o mt,plV (Q7 c) 0,plV b' ob'] Rw _ from hI (by omega) (by omega) QzS (Q5T.Q4 h112) (Si.Q4 Qvj)) ?_
       rintro _ w13 ⟨t',n2,rfl,hR⟩
       have Re:=(hR.congr hgs).from' Qvj
       by_cases hn : t' = .nil
       · subst hn
         refine Y4 T.nil ?_
         refine Qp rfl ?_
         exact ⟨_,l,v,n2,rfl,hV.skip hcn hkn Re⟩
       · refine WZ hn ?_
         refine Qr rfl ?_
         have QdG:=hV.lo.YL Si Re.ext
         refine LO.push QdG hfl (Nat.le_trans hz8 Re.ext.size) hR.cnt (c:=c) (t:=t') hR.tree (by omega) fun v' w14 hlo QuG _ hex _ => ?_
         exact ⟨_,_,v',n2,rfl,hV.more hcn hlt hn Re hlo QuG (hex w7 _ (hV.ext.QI Re.ext) (Nat.le_refl _))⟩
     rintro vs g1 w9 ⟨y,l',v',n2,rfl,hV9⟩
     have hcb:=MV c
     refine xi (r:=(c.toNat : Int)) (QQ (by omega)) ?_
     refine xi (r:=((c.toNat + 1 : Nat) : Int)) (by rw [QQ (by omega)]; omega) ?_
     have ha9:=ha7.YL hm7 hV9.ext
     refine (WS ha9.tree (i:=c.toNat + 1) (by omega)).mono ?_
     rintro _ Dn ⟨rfl,J9⟩
     rw [show Vx (ptrs (T.node aa Jk apart Qq ZO Q7).kid) (c.toNat + 1) = .tuple #[nxB rest,nxP (ptrs Q7) rest] from YZ (UI hdr)]
     exact JP rest.length (by simp) ⟨d ++ [c],rest,l',v',_,n2,rfl,rfl,by rw [hdr]; simp,hV9.Q4 J9⟩
   | nil =>
     rw [List.append_nil] at hdr
     refine Y4 T.nil ?_
     refine Qp rfl ?_
     have h0 : ∀ c,c ∉ d → ∀ k,g (apart ++ c :: k) = none:=fun c hc k => by
      have hk : Q7 c = .nil:=T.Ff fun hq => hc (by rw [← hdr]; exact Zd.2 hq)
      rw [hgk,hk]
      split <;> exact Q1x
     have hsub : ∀ c k v,g (apart ++ c :: k) = some v → ∃ y,(Q7 c).er.get k = some y:=fun c k v h => by
      rw [hgk] at h
      split at h
      · exact Qbw h
      · exact Qbw h
     have hL:=hV.lk (by rw [← hdr]; exact hdl)
     have fin : ∀ (bx : Bool),bx = (if both then none else Qq).isSome → Q6 P XZ [kpV both o mt,(T.node aa Jk apart Qq ZO Q7).v,.bool bx,.int .u64 (Qq.getD 0),v] w8 fun r w' => ∃ t' n',r = t'.v ∧ GR w w' (.node aa Jk apart Qq ZO Q7) g t' mt n n':=fun bx hbx => by
      subst hbx
      refine (QhZ (both:=both) (val:=if both then none else Qq) ha8.tree hk ha.fine ha.QR hL (fun q hq => (hV.sm q hq).2.1) (fun y hy => by cases both with | true => cases hy | false => have hy : Qq = some y:=hy; rw [hy]; rfl) hva ho Si (hV.lens hdr hsub hla)).mono ?_
      rintro _ w9 ⟨t',n',rfl,hR,hid⟩
      exact ⟨t',n',rfl,(hV.fin hdr h0 hgv (fun c r => rfl) hgn hR hid).from' BA⟩
     refine xj (fun vs w' => ∃ t' n',vs = [t'.v] ∧ GR w w' (.node aa Jk apart Qq ZO Q7) g t' mt n n') ?_ ?_
     · refine hS8.JH rfl ?_
       cases Qq with
       | none =>
         refine Qp rfl ?_
         refine (fin false (by cases both <;> rfl)).mono ?_
         rintro _ w9 ⟨t',n',rfl,hR⟩
         exact ⟨t',n',rfl,hR⟩
       | some z =>
         refine Qr rfl ?_
         refine hS8.ld (o:=0) (v:=.bool both) rfl ?_
         refine (fin (!both) (by cases both <;> rfl)).mono ?_
         rintro _ w9 ⟨t',n',rfl,hR⟩
         exact ⟨t',n',rfl,hR⟩
     · rintro vs g1 w9 ⟨t',n',rfl,hR⟩
       exact ⟨t',n',rfl,hR⟩
end
end Go.Proofs.YtbnhggfiembejaaGreatDoor
end
section
namespace Go.Proofs.YtbnhggfiembejaaGreatDoor
open Go Go.RowKit X
set_option linter.unusedSimpArgs false
set_option linter.unusedVariables false
set_option linter.unusedSectionVars false
variable [Floor]
section
variable {w : World} {aa Jk ba KZ o n oa ob M : Nat} {apart Qi : Key} {Qq QW val : Option Nat} {ZO Km : List Nat} {Q7 Qd : UInt8 → T} {mt : Option Y3} {both : Bool} {b : T} {y : UInt8} {v : Value} {l : List (UInt8 × T)} {x : Nat}
set_option maxRecDepth 100000 in
theorem Qo2 (hI : OfD both o mt M) (ho : o ≠ 0) (ha : Wv w (.node aa Jk apart Qq ZO Q7) oa) (hb : Wv w (.node ba KZ Qi QW Km Qd) ob) (hla : (T.node aa Jk apart Qq ZO Q7).er.long ≤ 65535) (h1 : Qi.drop ob = apart.drop oa)
  (hM : ((T.node aa Jk apart Qq ZO Q7).er.long + 1 - oa) + ((T.node ba KZ Qi QW Km Qd).er.long + 1 - ob) ≤ M) (hm : Mt w mt n) :
  Q6 P CV [kpV both o mt,(T.node aa Jk apart Qq ZO Q7).v,(T.node ba KZ Qi QW Km Qd).v] w fun r w' => ∃ t' n',r = t'.v ∧ GR w w' (.node aa Jk apart Qq ZO Q7) (gD both (T.node aa Jk apart Qq ZO Q7).er (T.node ba KZ Qi QW Km Qd).er oa ob) t' mt n n':=by
 have hoff : oa ≤ apart.length:=ha.off
 have QdB : ob ≤ Qi.length:=hb.off
 have hva : Qq.getD 0 < 18446744073709551616:=ha.tree.v64
 have hgv : gD both (T.node aa Jk apart Qq ZO Q7).er (T.node ba KZ Qi QW Km Qd).er oa ob apart = Yt both Qq QW:=Qbx h1
 have hgk : ∀ c s,gD both (T.node aa Jk apart Qq ZO Q7).er (T.node ba KZ Qi QW Km Qd).er oa ob (apart ++ c :: s) = gD both (Q7 c).er (Qd c).er 0 0 s:=fun c s => Qby hoff h1 c s
 have hgn : ∀ k,¬ apart <+: k → gD both (T.node aa Jk apart Qq ZO Q7).er (T.node ba KZ Qi QW Km Qd).er oa ob k = none:=fun k hk => QsK hk
 refine Q35 ?_
 refine Qz fun sb w1 hsb hS hz he1 => ?_
 have hS : QZ w1 sb (kpC both o mt) Cm:=hS
 refine (Cj (ha.tree.Q4 he1)).mono ?_
 rintro _ w2 ⟨rfl,rfl⟩
 refine (Cj (hb.tree.Q4 he1)).mono ?_
 rintro _ w3 ⟨rfl,rfl⟩
 refine xj (fun vs w' => vs = [.bool (Yt both Qq QW).isSome] ∧ w3 = w') ?_ ?_
 · refine hS.ld (o:=0) (v:=.bool both) rfl ?_
   show Ql (.bool both) (Ql (.bool Qq.isSome) (Ql (.bool QW.isSome) (Ad (.int .u64 (Qq.getD 0 : Nat)) (.int .u64 (QW.getD 0 : Nat)) _) _) _) _
   cases both with
   | true =>
     refine Qr rfl ?_
     cases Qq with
     | none => exact Qp rfl ⟨by rw [Vf]; rfl,rfl⟩
     | some x =>
       refine Qr rfl ?_
       cases QW with
       | none => exact Qp rfl ⟨rfl,rfl⟩
       | some y =>
         refine Qr rfl ?_
         refine ⟨?_,rfl⟩
         show [Value.bool (((x : Nat) : Int) != (y : Nat))] = [.bool (Yt true (some x) (some y)).isSome]
         by_cases e : x = y
         · subst e; simp [Yt]
         · simp [Yt,e]; omega
   | false =>
     refine Qp rfl ?_
     cases Qq with
     | none => exact Qp rfl ⟨by rw [Vf]; rfl,rfl⟩
     | some x =>
       refine Qr rfl ?_
       cases QW with
       | none => exact ⟨rfl,rfl⟩
       | some y => exact ⟨rfl,rfl⟩
 rintro vs g w4 ⟨rfl,rfl⟩
 have ha1:=ha.Q4 he1
 have hb1:=hb.Q4 he1
 have hm1:=hm.Q4 he1
 refine (Hg ha1.tree).mono ?_
 rintro _ w5 ⟨rfl,rfl⟩
 by_cases hk : ZO = []
 · refine Qr (by show (((Yx ZO (ptrs Q7) : Nat) : Int) == 1) = true; unfold Yx; rw [if_pos hk]; rfl) ?_
   cases hd : Yt both Qq QW with
   | none =>
     refine Qp rfl ?_
     refine ⟨.nil,n,rfl,(GR.none ha.fine hm1 fun k => ?_).from' he1⟩
     by_cases hp : apart <+: k
     · obtain ⟨s,rfl⟩:=hp
       cases s with
       | nil => rw [List.append_nil,hgv,hd]
       | cons c s => rw [hgk,Q02 ha.QR hk c,Q1x]
     · exact hgn k hp
   | some z =>
     refine Qr rfl ?_
     refine ⟨_,n,rfl,(GR.self ha1.tree ha.fine ha.QR hm1 fun k => ?_).from' he1⟩
     show _ = (E.node apart Qq fun c => (Q7 c).er).get k
     by_cases hp : apart <+: k
     · obtain ⟨s,rfl⟩:=hp
       cases s with
       | nil => rw [List.append_nil,hgv,get_nil,hd,P6 hd]
       | cons c s => rw [hgk,Z8,Q02 ha.QR hk c,Q1x]; rfl
     · rw [hgn k hp,J3 hp]
 · refine Qp (beq_eq_false_iff_ne.2 (Q7k hk)) ?_
   refine (WS ha1.tree (i:=0) (by omega)).mono ?_
   rintro _ w7 ⟨rfl,Yy⟩
   rw [show Vx (ptrs (T.node aa Jk apart Qq ZO Q7).kid) 0 = .tuple #[nxB (dom (ptrs Q7)),nxP (ptrs Q7) (dom (ptrs Q7))] from YZ (VI _)]
   have BA:=he1.Q0 Yy
   have ha7:=ha.Q4 BA
   have hb7:=hb.Q4 BA
   have hS7:=hS.ext Yy fun h => h
   have hm7:=hm.Q4 BA
   have hfl : Floor.n ≤ w7.heap.size:=hm7.fl
   refine JN (fun nn vs w' => ∃ (d rest : List UInt8) (l : List (UInt8 × T)) (v x0 : Value) (n1 : Nat),vs = [nxP (ptrs Q7) rest,nxB rest,x0,v] ∧ nn = rest.length ∧ dom (ptrs Q7) = d ++ rest ∧ LG w7 w' Q7 (fun c s => gD both (Q7 c).er (Qd c).er 0 0 s) d l v mt n n1) (dom (ptrs Q7)).length
    ⟨[],_,[],_,_,n,rfl,rfl,rfl,LG.nil hm7 (Ext.refl _ _)⟩ ?_
   rintro nn vs g0 w8 ⟨d,rest,l,v,x0,n1,rfl,rfl,hdr,hV⟩
   unfold F5
   have Si:=hV.cnt
   have hz8:=hV.ext.size
   have ha8:=ha7.YL hm7 hV.ext
   have hb8:=hb7.YL hm7 hV.ext
   have hS8:=hS7.ext hV.ext (hm7.ne hS7 (by decide))
   have hrise : Eg (d ++ rest):=hdr ▸ Xl _
   have hdl : (dom (ptrs Q7)).length ≤ 256:=BR _
   cases rest with
   | cons c rest =>
     have hcd : c ∈ dom (ptrs Q7):=by rw [hdr]; simp
     have hkn : Q7 c ≠ .nil:=fun e => by
      have:=Zd.1 hcd
      have : (Q7 c).ptr.isSome = true:=this
      rw [e] at this; cases this
     have hlt : ∀ c' ∈ d,c'.toNat < c.toNat:=fun c' hc' => (List.pairwise_append.1 hrise).2.2 c' hc' c (by simp)
     have hcn : c ∉ d:=fun h => by have:=hlt c h; omega
     have hlen:=hV.len
     have QuZ : d.length + (rest.length + 1) ≤ 256:=by rw [hdr] at hdl; simpa using hdl
     have hlk:=Vd (a:=aa) (ow:=Jk) (part:=apart) (val:=Qq) (ks:=ZO) hcd
     have hbl : Qi.length ≤ (T.node ba KZ Qi QW Km Qd).er.long:=by show _ ≤ (E.node Qi QW fun c => (Qd c).er).long; rw [E.Ky]; omega
     have hbk : (Qd c).er.long + 1 ≤ (T.node ba KZ Qi QW Km Qd).er.long + 1 - ob:=by
      by_cases e : c ∈ dom (ptrs Qd)
      · have:=Vd (a:=ba) (ow:=KZ) (part:=Qi) (val:=QW) (ks:=Km) e
        omega
      · have : Qd c = .nil:=T.Ff fun hq => e (Zd.2 hq)
        rw [this]
        show 0 + 1 ≤ _
        omega
     refine WZ (t:=Q7 c) hkn ?_
     refine Qr rfl ?_
     refine xj (fun vs w' => ∃ (y : Value) (l' : List (UInt8 × T)) (v' : Value) (n2 : Nat),vs = [y,v'] ∧ LG w7 w' Q7 (fun c s => gD both (Q7 c).er (Qd c).er 0 0 s) (d ++ [c]) l' v' mt n n2) ?_ ?_
     · have hd8:=Ext.drew (Ext.refl No w8)
       refine hS8.drew.JH rfl ?_
       show Q6 P YI [(Q7 c).v] w8.drew _
       refine (Sw (t:=Q7 c)).mono ?_
       rintro _ w9 ⟨rfl,Ym⟩
       have h89:=hd8.Q0 Ym
       refine ⟨J6 (hS8.ext h89 fun h => h),?_⟩
       refine (FI (hb8.tree.Q4 h89) (b:=c)).mono ?_
       rintro _ Dn ⟨rfl,J9⟩
       have QdL:=h89.Q0 J9
       refine ⟨J6 (hS8.ext QdL fun h => h),?_⟩
       show Q6 P YI [(Qd c).v] Dn _
       refine (Sw (t:=Qd c)).mono ?_
       rintro _ AL ⟨rfl,K9⟩
       have Q7D:=QdL.Q0 K9
       refine ⟨J6 (hS8.ext Q7D fun h => h),?_⟩
       have QuK : Wv AL (Q7 c) 0:=⟨(ha8.tree.Q4 Q7D).2 c,ha.fine.2 c,ha.QR.2 c,by have:=ha.long; omega,Nat.zero_le _⟩
       have QuJ : Wv AL (Qd c) 0:=⟨(hb8.tree.Q4 Q7D).2 c,hb.fine.2 c,hb.QR.2 c,by have:=hb.long; omega,Nat.zero_le _⟩
       refine Q6.mono (show Q6 P Jh [kpV both o mt,plV (Q7 c) 0,plV (Qd c) 0] AL _ from hI (by omega) (by omega) QuK QuJ (Si.Q4 Q7D)) ?_
       rintro _ w13 ⟨t',n2,rfl,hR⟩
       have Re:=hR.from' Q7D
       by_cases hn : t' = .nil
       · subst hn
         refine Y4 T.nil ?_
         refine Qp rfl ?_
         exact ⟨_,l,v,n2,rfl,hV.skip hcn hkn Re⟩
       · refine WZ hn ?_
         refine Qr rfl ?_
         have QdG:=hV.lo.YL Si Re.ext
         refine LO.push QdG hfl (Nat.le_trans hz8 Re.ext.size) hR.cnt (c:=c) (t:=t') hR.tree (by omega) fun v' w14 hlo QuG _ hex _ => ?_
         exact ⟨_,_,v',n2,rfl,hV.more hcn hlt hn Re hlo QuG (hex w7 _ (hV.ext.QI Re.ext) (Nat.le_refl _))⟩
     rintro vs g1 w9 ⟨y,l',v',n2,rfl,hV9⟩
     have hcb:=MV c
     refine xi (r:=(c.toNat : Int)) (QQ (by omega)) ?_
     refine xi (r:=((c.toNat + 1 : Nat) : Int)) (by rw [QQ (by omega)]; omega) ?_
     have ha9:=ha7.YL hm7 hV9.ext
     refine (WS ha9.tree (i:=c.toNat + 1) (by omega)).mono ?_
     rintro _ Dn ⟨rfl,J9⟩
     rw [show Vx (ptrs (T.node aa Jk apart Qq ZO Q7).kid) (c.toNat + 1) = .tuple #[nxB rest,nxP (ptrs Q7) rest] from YZ (UI hdr)]
     exact JP rest.length (by simp) ⟨d ++ [c],rest,l',v',_,n2,rfl,rfl,by rw [hdr]; simp,hV9.Q4 J9⟩
   | nil =>
     rw [List.append_nil] at hdr
     refine Y4 T.nil ?_
     refine Qp rfl ?_
     have h0 : ∀ c,c ∉ d → ∀ k,gD both (Q7 c).er (Qd c).er 0 0 k = none:=fun c hc k => by
      have hk : Q7 c = .nil:=T.Ff fun hq => hc (by rw [← hdr]; exact Zd.2 hq)
      rw [hk]
      exact Q1x
     have hL:=hV.lk (by rw [← hdr]; exact hdl)
     refine hS8.JH rfl ?_
     refine (QhZ (both:=both) (val:=Yt both Qq QW) ha8.tree hk ha.fine ha.QR hL (fun q hq => (hV.sm q hq).2.1) (fun y hy => by rw [P6 hy]; rfl) hva ho Si (hV.lens hdr (fun c k v h => Qbw h) hla)).mono ?_
     rintro _ w9 ⟨t',n',rfl,hR,hid⟩
     exact ⟨t',n',rfl,(hV.fin hdr h0 hgv hgk hgn hR hid).from' BA⟩
set_option maxRecDepth 100000 in
theorem QgF (hI : OfD both o mt M) (ho : o ≠ 0) (hla : (T.node aa Jk apart Qq ZO Q7).er.long ≤ 65535) (ha : Wv w (.node aa Jk apart Qq ZO Q7) oa) (hb : Wv w (.node ba KZ Qi QW Km Qd) ob)
  (hM : ((T.node aa Jk apart Qq ZO Q7).er.long + 1 - oa) + ((T.node ba KZ Qi QW Km Qd).er.long + 1 - ob) ≤ M) (hm : Mt w mt n) :
  Q6 P Jh [kpV both o mt,plV (.node aa Jk apart Qq ZO Q7) oa,plV (.node ba KZ Qi QW Km Qd) ob] w fun r w' => ∃ t' n',r = t'.v ∧ GR w w' (.node aa Jk apart Qq ZO Q7) (gD both (T.node aa Jk apart Qq ZO Q7).er (T.node ba KZ Qi QW Km Qd).er oa ob) t' mt n n':=by
 have Nh : oa ≤ apart.length:=ha.off
 have QdB : ob ≤ Qi.length:=hb.off
 have hsa:=ha.tree.1.short
 have hsb:=hb.tree.1.short
 have hal : apart.length ≤ (T.node aa Jk apart Qq ZO Q7).er.long:=by show _ ≤ (E.node apart Qq fun c => (Q7 c).er).long; rw [E.Ky]; omega
 have hbl : Qi.length ≤ (T.node ba KZ Qi QW Km Qd).er.long:=by show _ ≤ (E.node Qi QW fun c => (Qd c).er).long; rw [E.Ky]; omega
 refine Te ?_
 refine Qz fun jb w1 hjb hj hz1 he1 => ?_
 have hj : QZ w1 jb (kpC both o mt) Cm:=hj
 refine Qz fun ea w2 hea hA hz2 he2 => ?_
 have hA : QZ w2 ea [(T.node aa Jk apart Qq ZO Q7).v,.int .i64 oa] KW:=hA
 refine Qz fun eb w3 heb hB hz3 QE => ?_
 have hB : QZ w3 eb [(T.node ba KZ Qi QW Km Qd).v,.int .i64 ob] KW:=hB
 have Po:=(hj.ext he2 fun h => h).ext QE fun h => h
 have hA3:=hA.ext QE fun h => h
 have JD:=(he1.Q0 he2).Q0 QE
 have ha3:=ha.Q4 JD
 have hb3:=hb.Q4 JD
 have Dw:=hm.Q4 JD
 obtain ⟨pva,hba,-⟩:=ha3.tree.1.blk
 obtain ⟨pvb,hbb,-⟩:=hb3.tree.1.blk
 refine xj (fun vs w' => ∃ t : Bool,vs = [.bool t] ∧ w' = w3 ∧ (t = true → aa = ba ∧ oa = ob)) ?_ ?_
 · refine hA3.ld (v:=(T.node aa Jk apart Qq ZO Q7).v) rfl ?_
   refine Vn (t:=.node aa Jk apart Qq ZO Q7) (by simp) ?_
   refine Qp rfl ?_
   refine hA3.JH rfl ?_
   refine hB.JH rfl ?_
   have key : ∀ t : Bool,(sameAddr ⟨aa,0,none⟩ ⟨ba,0,none⟩).run P w3 = .ok t w3 → (t = true → aa = ba) → Q8f P .eql KW (.tmp 14) (.tmp 15) (.agg #[rp aa,.int .i64 oa]) (.agg #[rp ba,.int .i64 ob]) w3 fun r => ∃ t : Bool,[Value.bool r] = [.bool t] ∧ w3 = w3 ∧ (t = true → aa = ba ∧ oa = ob):=fun t ht htt => by
    refine Qcs (QjB ht) ⟨_,rfl,rfl,fun h => ?_⟩
    simp only [Bool.and_eq_true,decide_eq_true_eq] at h
    exact ⟨htt h.1,h.2⟩
   by_cases e : aa = ba
   · exact key true (by rw [e]; exact run_sameAddr_same _ _) fun _ => e
   · exact key false (run_sameAddr_other _ (by simp [e]) hba.h hbb.h) fun h => by cases h
 rintro vs g w5 ⟨t,rfl,rfl,ht⟩
 cases t with
 | true =>
   obtain ⟨e,rfl⟩:=ht rfl
   refine Qr rfl ?_
   have hab:=Tree.inj ha3.tree hb3.tree (by show some (⟨aa,0,none⟩ : Addr) = some ⟨ba,0,none⟩; rw [e])
   refine ⟨.nil,n,rfl,(GR.none ha.fine Dw fun k => ?_).from' JD⟩
   rw [← hab]
   exact Qqq (fun ap v ks h => by
    have h : E.node apart Qq (fun c => (Q7 c).er) = .node ap v ks:=h
    injection h with h1 _ _
    rw [← h1]; exact Nh) k
 | false =>
   refine Qp rfl ?_
   refine hB.ld (v:=(T.node ba KZ Qi QW Km Qd).v) rfl ?_
   refine Vn (t:=.node ba KZ Qi QW Km Qd) (by simp) ?_
   refine Qp rfl ?_
   have hd:=Ext.drew (Ext.refl No w5)
   refine hA3.drew.JH rfl ?_
   refine hB.drew.JH rfl ?_
   refine (QhY (off:=oa) (ha3.tree.Q4 hd) ha3.off).mono ?_
   rintro pv w6 ⟨hpv,Ke⟩
   have hpv : Bs w6 pv (apart.drop oa):=hpv
   have Q0h:=hd.Q0 Ke
   refine ⟨J6 (hB.ext Q0h fun h => h),?_⟩
   refine (QhY (off:=ob) (hb3.tree.Q4 Q0h) hb3.off).mono ?_
   rintro qv w7 ⟨Ir,Yy⟩
   have Ir : Bs w7 qv (Qi.drop ob):=Ir
   have Qmz:=hpv.Q4 Yy
   refine (Hl Qmz Ir (by rw [List.length_drop]; omega) (by rw [List.length_drop]; omega)).mono ?_
   rintro _ w8 ⟨rfl,KJ⟩
   have Qbo:=(Q0h.Q0 Yy).Q0 KJ
   have E9:=JD.Q0 Qbo
   have hp8:=Qmz.Q4 KJ
   have hq8:=Ir.Q4 KJ
   have hj8:=Po.ext Qbo fun h => h
   have hA8:=hA3.ext Qbo fun h => h
   have hB8:=hB.ext Qbo fun h => h
   have ha8:=ha.Q4 E9
   have hb8:=hb.Q4 E9
   have Si:=hm.Q4 E9
   have hdl : (apart.drop oa).length = apart.length - oa:=List.length_drop
   have Qq8 : (Qi.drop ob).length = Qi.length - ob:=List.length_drop
   obtain ⟨c,q,r,ha0,hb0,hc0,hdf⟩:=Yf (apart.drop oa) (Qi.drop ob)
   rw [← hc0]
   have OX : (apart.drop oa).length = c.length + q.length:=by rw [ha0,List.length_append]
   have Rb : (Qi.drop ob).length = c.length + r.length:=by rw [hb0,List.length_append]
   have Q42 : ∀ k,apart.drop (oa + k) = (c ++ q).drop k:=fun k => by rw [← ha0,List.drop_drop]
   have Q41 : ∀ k,Qi.drop (ob + k) = (c ++ r).drop k:=fun k => by rw [← hb0,List.drop_drop]
   have hd8:=Ext.drew (Ext.refl No w8)
   have Qjt:=E9.Q0 hd8
   have hs8:=E9.size
   have Qai : ∀ y r',r = y :: r' → (Qi.drop ob)[c.length]? = some y:=fun y r' e => by rw [hb0,e]; simp
   have Qaj : ∀ x q',q = x :: q' → (apart.drop oa)[c.length]? = some x:=fun x q' e => by rw [ha0,e]; simp
   refine xj (fun vs w' => ∃ t : Bool,vs = [.bool t] ∧ w8 = w' ∧ (t = true ↔ q ≠ [] ∧ r ≠ [])) ?_ ?_
   · refine hp8.len ?_
     refine ZF (fun h => ?_) fun h => ⟨false,rfl,rfl,?_⟩
     · refine hq8.len ?_
       refine ⟨_,rfl,rfl,?_⟩
       rw [decide_eq_true_iff]
       constructor
       · intro h2; exact ⟨fun e => by subst e; simp at OX; omega,fun e => by subst e; simp at Rb; omega⟩
       · rintro ⟨-,h2⟩
         have : 0 < r.length:=List.length_pos_iff.2 h2
         omega
     · constructor
       · intro h2; cases h2
       · rintro ⟨h2,-⟩
         have : 0 < q.length:=List.length_pos_iff.2 h2
         omega
   rintro vs g w9 ⟨t,rfl,rfl,ht⟩
   cases t with
   | true =>
     obtain ⟨hq0,hr0⟩:=ht.1 rfl
     obtain ⟨x,q',rfl⟩:=List.exists_cons_of_ne_nil hq0
     obtain ⟨y,r',rfl⟩:=List.exists_cons_of_ne_nil hr0
     refine Qr rfl ?_
     refine hj8.JH rfl ?_
     refine hA8.ld (v:=(T.node aa Jk apart Qq ZO Q7).v) rfl ?_
     refine (Q7X (o:=o) (both:=both) (g:=gD both (T.node aa Jk apart Qq ZO Q7).er (T.node ba KZ Qi QW Km Qd).er oa ob) ha8.tree ha.fine ha.QR Si (Qnj Nh (hdf x y q' r' rfl rfl) ha0 hb0)).mono ?_
     rintro _ Dn ⟨t',n',rfl,hR⟩
     exact ⟨t',n',rfl,hR.from' E9⟩
   | false =>
     refine Qp rfl ?_
     refine hq8.len ?_
     cases r with
     | cons y r' =>
       have hq0 : q = []:=by
        cases q with
        | nil => rfl
        | cons x q' => exact absurd (ht.2 ⟨by simp,by simp⟩) (by simp)
       subst hq0
       rw [List.append_nil] at ha0
       have hy:=Qai y r' rfl
       obtain ⟨hyl,hye⟩:=List.getElem?_eq_some_iff.1 hy
       simp at Rb
       refine ZF (fun _ => ?_) fun h => absurd (by omega) h
       refine hj8.drew.JH rfl ?_
       refine hA8.drew.ld (v:=(T.node aa Jk apart Qq ZO Q7).v) rfl ?_
       refine (hq8.Q4 hd8).rd c.length hyl rfl ?_
       rw [hye]
       refine hB8.drew.ld (v:=(T.node ba KZ Qi QW Km Qd).v) rfl ?_
       refine hB8.drew.ld (v:=.int .i64 ob) rfl ?_
       refine xi (r:=((ob + c.length : Nat) : Int)) (by rw [QQ (by omega)]; omega) ?_
       refine xi (r:=((ob + c.length + 1 : Nat) : Int)) (by rw [QQ (by omega)]; omega) ?_
       have Q9p : Wv w8.drew (.node ba KZ Qi QW Km Qd) (ob + c.length + 1):=⟨(hb.Q4 Qjt).tree,hb.fine,hb.QR,hb.long,by show ob + c.length + 1 ≤ Qi.length; omega⟩
       have h2 : Qi.drop ob = apart.drop oa ++ y :: r':=by rw [hb0,ha0]
       have hqd : Qi.drop (ob + c.length + 1) = r':=by rw [Nat.add_assoc,Q41,← List.drop_drop,List.drop_left]; rfl
       refine Q6.mono (show Q6 P Uk [kpV both o mt,(T.node aa Jk apart Qq ZO Q7).v,bv y,plV (.node ba KZ Qi QW Km Qd) (ob + c.length + 1)] w8.drew _ from
        Qo3 (y:=y) (M:=M) hI ho (ha.Q4 Qjt) Q9p (by omega) hla (by omega) (hm.Q4 Qjt) (Qbz Nh h2) (fun c s => QbA Nh h2 hqd c s) (fun k hk => QsK hk)) ?_
       rintro _ AL ⟨t',n',rfl,hR⟩
       exact ⟨t',n',rfl,hR.from' Qjt⟩
     | nil =>
       rw [List.append_nil] at hb0
       simp at Rb
       refine ZF (fun h => absurd h (by omega)) fun _ => ?_
       refine hp8.len ?_
       cases q with
       | cons x q' =>
         have hx:=Qaj x q' rfl
         obtain ⟨hxl,hxe⟩:=List.getElem?_eq_some_iff.1 hx
         simp at OX
         refine ZF (fun _ => ?_) fun h => absurd (by omega) h
         refine hj8.drew.JH rfl ?_
         refine hA8.drew.ld (v:=(T.node aa Jk apart Qq ZO Q7).v) rfl ?_
         refine hA8.drew.ld (v:=.int .i64 oa) rfl ?_
         refine xi (r:=((oa + c.length : Nat) : Int)) (by rw [QQ (by omega)]; omega) ?_
         refine xi (r:=((oa + c.length + 1 : Nat) : Int)) (by rw [QQ (by omega)]; omega) ?_
         refine hB8.drew.ld (v:=(T.node ba KZ Qi QW Km Qd).v) rfl ?_
         refine (hp8.Q4 hd8).rd c.length hxl rfl ?_
         rw [hxe]
         refine (FI (hb.Q4 Qjt).tree (b:=x)).mono ?_
         rintro _ Dn ⟨rfl,J9⟩
         have Ym:=hd8.Q0 J9
         have Dq:=E9.Q0 Ym
         have hk1 : ∀ {w' : World},Ext No w8 w' → w'.cell? ((⟨ea,0,none⟩ : Addr).add 1) = some (.int .i64 oa):=fun e => by rw [Addr.add_lit,(hA8.ext e fun h => h).cell]; rfl
         have hk0 : ∀ {w' : World},Ext No w8 w' → w'.cell? ((⟨ea,0,none⟩ : Addr).add 0) = some (T.node aa Jk apart Qq ZO Q7).v:=fun e => by rw [Addr.add_lit,(hA8.ext e fun h => h).cell]; rfl
         refine ⟨hk1 Ym,hk0 Ym,J6 (hj8.ext Ym fun h => h),?_⟩
         show Q6 P YI [(Qd x).v] Dn _
         refine (Sw (t:=Qd x)).mono ?_
         rintro _ AL ⟨rfl,K9⟩
         have Q7z:=Ym.Q0 K9
         have Gf:=E9.Q0 Q7z
         refine ⟨hk1 Q7z,hk0 Q7z,J6 (hj8.ext Q7z fun h => h),?_⟩
         have hkb : (Qd x).er.long + 1 ≤ (T.node ba KZ Qi QW Km Qd).er.long + 1 - ob ∧ (Qd x).er.long ≤ (T.node ba KZ Qi QW Km Qd).er.long:=by
          by_cases e : x ∈ dom (ptrs Qd)
          · have:=Vd (a:=ba) (ow:=KZ) (part:=Qi) (val:=QW) (ks:=Km) e
            omega
          · have : Qd x = .nil:=T.Ff fun hq => e (Zd.2 hq)
            rw [this]
            refine ⟨?_,Nat.zero_le _⟩
            show 0 + 1 ≤ _
            omega
         have Qv8 : Wv AL (.node aa Jk apart Qq ZO Q7) (oa + c.length + 1):=⟨(ha.Q4 Gf).tree,ha.fine,ha.QR,ha.long,by show oa + c.length + 1 ≤ apart.length; omega⟩
         have Q5T : Wv AL (Qd x) 0:=⟨(hb.Q4 Gf).tree.2 x,hb.fine.2 x,hb.QR.2 x,by have:=hb.long; omega,Nat.zero_le _⟩
         refine Q6.mono (show Q6 P Jh [kpV both o mt,plV (.node aa Jk apart Qq ZO Q7) (oa + c.length + 1),plV (Qd x) 0] AL _ from hI (by omega) hla Qv8 Q5T (hm.Q4 Gf)) ?_
         rintro _ Rw ⟨t',n',rfl,hR⟩
         refine ⟨t',n',rfl,(hR.congr fun k => ?_).from' Gf⟩
         exact Qqr (both:=both) (ap:=apart) (av:=Qq) (ak:=fun c => (Q7 c).er) (bp:=Qi) (bv':=QW) (bk:=fun c => (Qd c).er) (oa':=oa + c.length + 1) (q:=q') (x:=x) Nh (by omega) (by rw [hb0,ha0]) (by rw [Nat.add_assoc,Q42,← List.drop_drop,List.drop_left]; rfl) k
       | nil =>
         rw [List.append_nil] at ha0
         simp at OX
         refine ZF (fun h => absurd h (by omega)) fun _ => ?_
         refine hj8.JH rfl ?_
         refine hA8.ld (v:=(T.node aa Jk apart Qq ZO Q7).v) rfl ?_
         refine hB8.ld (v:=(T.node ba KZ Qi QW Km Qd).v) rfl ?_
         refine (Qo2 hI ho ha8 hb8 hla (by rw [hb0,ha0]) hM Si).mono ?_
         rintro _ Dn ⟨t',n',rfl,hR⟩
         exact ⟨t',n',rfl,hR.from' E9⟩
theorem Qee {a b : T} (ha : Wv w a oa) (hb : Wv w b ob) (h : a = .nil ∨ b = .nil) (hm : Mt w mt n) : Q6 P Jh [kpV both o mt,plV a oa,plV b ob] w fun r w' => ∃ t' n',r = t'.v ∧ GR w w' a (gD both a.er b.er oa ob) t' mt n n':=by
 refine Te ?_
 refine Qz fun jb w1 hjb hj hz1 he1 => ?_
 have hj : QZ w1 jb (kpC both o mt) Cm:=hj
 refine Qz fun ea w2 hea hA hz2 he2 => ?_
 have hA : QZ w2 ea [a.v,.int .i64 oa] KW:=hA
 refine Qz fun eb w3 heb hB hz3 QE => ?_
 have hB : QZ w3 eb [b.v,.int .i64 ob] KW:=hB
 have Po:=(hj.ext he2 fun h => h).ext QE fun h => h
 have hA3:=hA.ext QE fun h => h
 have JD:=(he1.Q0 he2).Q0 QE
 have Dw:=hm.Q4 JD
 cases a with
 | nil =>
   refine xj (fun vs w' => vs = [.bool true] ∧ w' = w3) ?_ ?_
   · refine hA3.ld (v:=T.nil.v) rfl ?_
     refine Ka T.nil ?_
     exact Qr rfl ⟨rfl,rfl⟩
   rintro vs g w4 ⟨rfl,rfl⟩
   refine Qr rfl ?_
   exact ⟨.nil,n,rfl,(GR.none ha.fine Dw fun k => Q1x).from' JD⟩
 | node aa Jk apart Qq ZO Q7 =>
   obtain rfl:=h.resolve_left (by simp)
   have ha3:=ha.Q4 JD
   refine xj (fun vs w' => vs = [.bool false] ∧ w' = w3) ?_ ?_
   · refine hA3.ld (v:=(T.node aa Jk apart Qq ZO Q7).v) rfl ?_
     refine Vn (t:=.node aa Jk apart Qq ZO Q7) (by simp) ?_
     refine Qp rfl ?_
     refine hA3.JH rfl ?_
     refine hB.JH rfl ?_
     exact Qcs (QjC Ei) ⟨rfl,rfl⟩
   rintro vs g w4 ⟨rfl,rfl⟩
   refine Qp rfl ?_
   refine hB.ld (v:=T.nil.v) rfl ?_
   refine Ka T.nil ?_
   refine Qr rfl ?_
   refine Po.JH rfl ?_
   refine hA3.ld (v:=(T.node aa Jk apart Qq ZO Q7).v) rfl ?_
   refine (Q7X (o:=o) (both:=both) (g:=gD both (T.node aa Jk apart Qq ZO Q7).er T.nil.er oa ob) ha3.tree ha.fine ha.QR Dw fun k => Qnk).mono ?_
   rintro _ Dn ⟨t',n',rfl,hR⟩
   exact ⟨t',n',rfl,hR.from' JD⟩
theorem QBJ (ho : o ≠ 0) : ∀ M,OfD both o mt M:=by
 intro M
 induction M with
 | zero => intro w a b oa ob n hlt; omega
 | succ M ih =>
   intro w a b oa ob n hlt hla ha hb hm
   cases a with
   | nil => exact Qee ha hb (.inl rfl) hm
   | node aa Jk apart Qq ZO Q7 =>
     cases b with
     | nil => exact Qee ha hb (.inr rfl) hm
     | node ba KZ Qi QW Km Qd => exact QgF ih ho hla ha hb (by omega) hm
end
end Go.Proofs.YtbnhggfiembejaaGreatDoor
end
section
namespace Go.Proofs.YtbnhggfiembejaaGreatDoor
open Go Go.RowKit X
set_option linter.unusedSimpArgs false
set_option linter.unusedVariables false
set_option linter.unusedSectionVars false
variable [Floor]
theorem Qip {w : World} {t t' : T} (h : Tree w t) (h' : Tree w t') {K : Value → Prop} (k : K (.bool (decide (t.ptr = t'.ptr)))) : YV P w t.v t'.v K:=by
 show Ia P w (.pointer t.ptr) (.pointer t'.ptr) _
 cases t with
 | nil =>
   cases t' with
   | nil => exact k
   | node => exact k
 | node a ow p v ks kids =>
   cases t' with
   | nil => exact k
   | node a' ow' p' v' ks' Vl =>
     show QaG P w ⟨a,0,none⟩ ⟨a',0,none⟩ _
     obtain ⟨pv1,hb1,-⟩:=h.1.blk
     obtain ⟨pv2,hb2,-⟩:=h'.1.blk
     by_cases e : a = a'
     · subst e
       refine I9 (run_sameAddr_same _ _) ?_
       have : (T.node a ow p v ks kids).ptr = (T.node a ow' p' v' ks' Vl).ptr:=rfl
       rw [decide_eq_true this] at k
       exact k
     · refine I9 (run_sameAddr_other _ (by simp [e]) hb1.h hb2.h) ?_
       have : ¬ (T.node a ow p v ks kids).ptr = (T.node a' ow' p' v' ks' Vl).ptr:=fun h => e (by have h2 : (⟨a,0,none⟩ : Addr) = ⟨a',0,none⟩:=Option.some.inj h; injection h2)
       rw [decide_eq_false this] at k
       exact k
section
variable {w0 w : World} {va vb : Value} {l m : Kv}
theorem Q5e (both : Bool) (l m : Kv) (i : Nat) (hi : i < l.length) : Kb both (l.take (i + 1)) m = Kb both (l.take i) m ++ if (Yt both (some l[i].2) (look m l[i].1)).isSome then [l[i]] else []:=by
 rw [← List.take_append_getElem hi,Qgr]
theorem Q0a (h0 : Ext No w0 w) (ha : Ps w0 va l) (hb : Ps w0 vb m) (hl : l.length ≤ 100000) (hm : m.length ≤ 100000) (hk : ∀ x ∈ m,x.1.length ≤ 65535) :
  Q6 P Ai [va,vb] w fun r w' => SB w0 w.heap.size w' Qx r (Kb false l m) ∧ Ext No w w':=by
 refine Qc7 ?_
 refine JN (fun n vs w' => ∃ (i : Nat) (x1 x2 out : Value),vs = [.int .i64 i,x1,x2,out] ∧ n = l.length - i ∧ i ≤ l.length ∧ SB w0 w.heap.size w' Qx out (Kb false (l.take i) m) ∧ Ext No w w') l.length
  ⟨0,_,_,_,rfl,rfl,by omega,SB.nil _ _ _ _,Ext.refl _ _⟩ ?_
 rintro n vs g w1 ⟨i,x1,x2,out,rfl,rfl,hi,hso,he⟩
 unfold PI
 refine ha.len ?_
 refine ZF (fun hlt => ?_) fun hge => ?_
 · have hil : i < l.length:=by omega
   have h01:=h0.Q0 he
   refine xj (fun vs w' => ∃ x1 x2 out' : Value,vs = [x1,x2,out'] ∧ SB w0 w.heap.size w' Qx out' (Kb false (l.take (i + 1)) m) ∧ Ext No w w') ?_ ?_
   · refine (ha.Q4 h01).key i rfl hil fun kv Wq => ?_
     refine (Qec (hb.Q4 h01) Wq hm hk).mono ?_
     rintro _ w2 ⟨rfl,he2⟩
     have hE2:=he.Q0 he2
     rw [Q5e _ _ _ _ hil]
     cases hlk : look m l[i].1 with
     | some y =>
       refine Qp rfl ?_
       exact ⟨_,_,_,rfl,by simpa [Yt] using hso.Q4 he2,hE2⟩
     | none =>
       refine Qr rfl ?_
       refine ha.rd0 (h0.Q0 hE2) i rfl hil fun kv Wq => ?_
       obtain ⟨ad,cp,rfl⟩:=Wq.slice
       show Qs w2 [.slice ad l[i].1.length cp,u64 l[i].2] Qx _
       refine Qz fun c w4 hc hbl Ro Zl => ?_
       have hsl : Sl w4 (tyQ Qx) (.slice (some ⟨c,0,none⟩) 1 1) 2 1 [.slice ad l[i].1.length cp,u64 l[i].2]:=hbl.sln rfl
       have hle:=YM false (l.take i) m
       have htl : (l.take i).length = i:=by rw [List.length_take]; omega
       have U9:=hE2.Q0 Zl
       refine SB.app (m:=[(l[i].1,l[i].2)]) Mv (hso.Q4 (he2.Q0 Zl)) U9.size hsl (PC.Q24 Wq (ha.get hil)) (by simp at hle ⊢; omega) fun out' w5 Q2t hex => ?_
       exact ⟨_,_,_,rfl,by simpa [Yt] using Q2t,hex w U9 (Nat.le_refl _)⟩
   · rintro vs g w2 ⟨y1,y2,out',rfl,Q5S,he2⟩
     refine xi (r:=((i + 1 : Nat) : Int)) (by rw [QQ (by omega)]; omega) ?_
     exact JP (l.length - (i + 1)) (by omega) ⟨i + 1,_,_,_,rfl,rfl,by omega,Q5S,he2⟩
 · have : i = l.length:=by omega
   subst this
   rw [List.take_length] at hso
   exact ⟨hso,he⟩
theorem Q5j (ha : Ps w va l) (hb : Ps w vb m) (hl : l.length ≤ 100000) (hm : m.length ≤ 100000) (hk : ∀ x ∈ m,x.1.length ≤ 65535) :
  Q6 P Wh [va,vb] w fun r w' => Ps w' r (Kb true l m) ∧ Ext No w w':=by
 refine Q8m ?_
 refine JN (fun n vs w' => ∃ (i : Nat) (x1 x2 out : Value),vs = [.int .i64 i,x1,x2,out] ∧ n = l.length - i ∧ i ≤ l.length ∧ SB w w.heap.size w' Qx out (Kb true (l.take i) m) ∧ Ext No w w') l.length
  ⟨0,_,_,_,rfl,rfl,by omega,SB.nil _ _ _ _,Ext.refl _ _⟩ ?_
 rintro n vs g w1 ⟨i,x1,x2,out,rfl,rfl,hi,hso,he⟩
 unfold IW
 refine ha.len ?_
 refine ZF (fun hlt => ?_) fun hge => ?_
 · have hil : i < l.length:=by omega
   refine xj (fun vs w' => ∃ x1 x2 out' : Value,vs = [x1,x2,out'] ∧ SB w w.heap.size w' Qx out' (Kb true (l.take (i + 1)) m) ∧ Ext No w w') ?_ ?_
   · refine (ha.Q4 he).key i rfl hil fun kv Wq => ?_
     refine (Qec (hb.Q4 he) Wq hm hk).mono ?_
     rintro _ w2 ⟨rfl,he2⟩
     have hE2:=he.Q0 he2
     have hv64:=ha.get hil
     rw [Q5e _ _ _ _ hil]
     refine xj (fun vs w' => vs = [.bool (Yt true (some l[i].2) (look m l[i].1)).isSome] ∧ w2 = w') ?_ ?_
     · cases hlk : look m l[i].1 with
       | none => exact Qp rfl ⟨rfl,rfl⟩
       | some y =>
         refine Qr rfl ?_
         refine (ha.Q4 hE2).val i rfl hil ?_
         refine ⟨?_,rfl⟩
         show [Value.bool (((y : Nat) : Int) != (l[i].2 : Nat))] = [.bool (Yt true (some l[i].2) (some y)).isSome]
         by_cases e : y = l[i].2
         · subst e; simp [Yt]
         · have e2 : ¬ l[i].2 = y:=fun h => e h.symm
           have e3 : ((y : Nat) : Int) ≠ (l[i].2 : Nat):=by omega
           simp [Yt,e2,e3]
     rintro vs g w3 ⟨rfl,rfl⟩
     cases hd : (Yt true (some l[i].2) (look m l[i].1)).isSome with
     | false =>
       refine Qp rfl ?_
       exact ⟨_,_,_,rfl,by simpa using hso.Q4 he2,hE2⟩
     | true =>
       refine Qr rfl ?_
       refine ha.rd0 hE2 i rfl hil fun kv Wq => ?_
       obtain ⟨ad,cp,rfl⟩:=Wq.slice
       show Qs w2 [.slice ad l[i].1.length cp,u64 l[i].2] Qx _
       refine Qz fun c w4 hc hbl Ro Zl => ?_
       have hsl : Sl w4 (tyQ Qx) (.slice (some ⟨c,0,none⟩) 1 1) 2 1 [.slice ad l[i].1.length cp,u64 l[i].2]:=hbl.sln rfl
       have hle:=YM true (l.take i) m
       have htl : (l.take i).length = i:=by rw [List.length_take]; omega
       have U9:=hE2.Q0 Zl
       refine SB.app (m:=[(l[i].1,l[i].2)]) Mv (hso.Q4 (he2.Q0 Zl)) U9.size hsl (PC.Q24 Wq (ha.get hil)) (by simp at hle ⊢; omega) fun out' w5 Q2t hex => ?_
       exact ⟨_,_,_,rfl,by simpa using Q2t,hex w U9 (Nat.le_refl _)⟩
   · rintro vs g w2 ⟨y1,y2,out',rfl,Q5S,he2⟩
     refine xi (r:=((i + 1 : Nat) : Int)) (by rw [QQ (by omega)]; omega) ?_
     exact JP (l.length - (i + 1)) (by omega) ⟨i + 1,_,_,_,rfl,rfl,by omega,Q5S,he2⟩
 · have : i = l.length:=by omega
   subst this
   rw [List.take_length] at hso
   exact ⟨hso.ps he (.inr rfl),he⟩
theorem Qeb (ha : Ps w va l) (hb : Ps w vb m) (hl : l.length ≤ 100000) (hm : m.length ≤ 100000) (hk : ∀ x ∈ l,x.1.length ≤ 65535) (hk' : ∀ x ∈ m,x.1.length ≤ 65535) :
  Q6 P GM [va,vb] w fun r w' => Ps w' r (Uo l m) ∧ Ext No w w':=by
 refine Q8n ?_
 refine (Q0a (Ext.refl No w) ha hb hl hm hk').mono ?_
 rintro v1 w1 ⟨h1,he1⟩
 refine (Q0a he1 hb ha hm hl hk).mono ?_
 rintro v2 w2 ⟨⟨cells,h2,h3⟩,he2⟩
 have hE2:=he1.Q0 he2
 have l1:=YM false l m
 have l2:=YM false m l
 refine SB.app Mv (h1.Q4 he2) hE2.size h2.sl h3 (by omega) fun v3 w3 h4 hex => ?_
 have JD:=hex w hE2 (Nat.le_refl _)
 refine (BB (h4.ps JD (.inr rfl)) (by simp; omega) (fun p hp => ?_)).mono ?_
 · rcases List.mem_append.1 hp with hp | hp
   · exact Nat.le_trans (hk p (Q07 hp)) (by omega)
   · exact Nat.le_trans (hk' p (Q07 hp)) (by omega)
 rintro v4 w4 ⟨hso,Zl⟩
 exact ⟨hso.ps Zl (.inr rfl),JD.Q0 Zl⟩
end
section
variable {w : World} {a b : T} {l m : Kv} {o n : Nat} {mt : Option Y3} {both : Bool}
structure DfR (w w' : World) (both : Bool) (a : T) (l m : Kv) (t' : T) (mt : Option Y3) (n n' : Nat) : Prop where
 ct : Ct w' t' (Kb both l m)
 cnt : Mt w' mt n'
 ext : Ext (MX mt) w w'
 idle : Kb both l m = l → t' = a ∧ n' = n
theorem QhX (ha : Ct w a l) (hl : Pr l) (hb : Ct w b m) (hm : Pr m) (hmt : Mt w mt n) (ho : o ≠ 0) :
  Q6 P Jh [kpV both o mt,plV a 0,plV b 0] w fun r w' => ∃ t' n',r = t'.v ∧ DfR w w' both a l m t' mt n n':=by
 have hla:=ha.long hl
 have hlb:=hb.long hm
 have ga : Wv w a 0:=⟨ha.tree,ha.can.fine,ha.QR,by omega,Nat.zero_le _⟩
 have gb : Wv w b 0:=⟨hb.tree,hb.can.fine,hb.QR,by omega,Nat.zero_le _⟩
 refine (QBJ ho _ (Nat.lt_succ_self _) hla ga gb hmt).mono ?_
 rintro _ w2 ⟨t',n',rfl,hR⟩
 have hg : ∀ k,gD both a.er b.er 0 0 k = look (Kb both l m) k:=fun k => by
  unfold gD
  rw [Xq,ha.can.get k,X3 hl.rises]
  show Yt both _ (b.er.get k) = _
  rw [hb.can.get k]
 exact ⟨t',n',rfl,⟨hR.tree,hR.can.congr hg,hR.QR⟩,hR.cnt,hR.ext,fun e => hR.idle fun k => by rw [hg,e,ha.can.get k]⟩
theorem Qek (ha : Ct w a l) (hl : Pr l) (hb : Ct w b m) (hm : Pr m) (hmt : Mt w mt n) (ho : o ≠ 0) :
  Q6 P Wl [a.v,b.v,.int .u64 o,mv mt] w fun r w' => ∃ t' n',r = .tuple #[t'.v,.int .i64 0] ∧ DfR w w' false a l m t' mt n n':=by
 refine QaH ?_
 refine Vu (fun h => absurd (by omega) ho) fun _ => ?_
 refine (Sw (t:=a)).mono ?_
 rintro _ w1 ⟨rfl,he1⟩
 refine (Sw (t:=b)).mono ?_
 rintro _ w2 ⟨rfl,he2⟩
 have hE:=he1.Q0 he2
 refine Q6.mono (show Q6 P Jh [kpV false o mt,plV a 0,plV b 0] w2 _ from QhX (ha.Q4 hE) hl (hb.Q4 hE) hm (hmt.Q4 hE) ho) ?_
 rintro _ w3 ⟨t',n',rfl,hR⟩
 exact ⟨t',n',rfl,hR.ct,hR.cnt,(hE.mono fun _ _ h => h.elim).QI hR.ext,hR.idle⟩
theorem QqM (ha : Ct w a l) (hl : Pr l) (hb : Ct w b m) (hm : Pr m) (hmt : Mt w mt n) (ho : o ≠ 0) :
  Q6 P VL [a.v,b.v,.int .u64 o,mv mt] w fun r w' => ∃ t' n',r = .tuple #[t'.v,.int .i64 0] ∧ DfR w w' true a l m t' mt n n':=by
 refine Q0P ?_
 refine Vu (fun h => absurd (by omega) ho) fun _ => ?_
 refine (Sw (t:=a)).mono ?_
 rintro _ w1 ⟨rfl,he1⟩
 refine (Sw (t:=b)).mono ?_
 rintro _ w2 ⟨rfl,he2⟩
 have hE:=he1.Q0 he2
 refine Q6.mono (show Q6 P Jh [kpV true o mt,plV a 0,plV b 0] w2 _ from QhX (ha.Q4 hE) hl (hb.Q4 hE) hm (hmt.Q4 hE) ho) ?_
 rintro _ w3 ⟨t',n',rfl,hR⟩
 exact ⟨t',n',rfl,hR.ct,hR.cnt,(hE.mono fun _ _ h => h.elim).QI hR.ext,hR.idle⟩
theorem Qic {x y z : Value} : Q6 P Wl [x,y,.int .u64 (0 : Nat),z] w fun r w' => r = .tuple #[.pointer none,.int .i64 1] ∧ Ext No w w':=by
 refine QaH ?_
 exact Qr rfl ⟨rfl,Ext.refl _ _⟩
theorem QqL {x y z : Value} : Q6 P VL [x,y,.int .u64 (0 : Nat),z] w fun r w' => r = .tuple #[.pointer none,.int .i64 1] ∧ Ext No w w':=by
 refine Q0P ?_
 exact Qr rfl ⟨rfl,Ext.refl _ _⟩
theorem Qr6 {x y z : Value} : Q6 P XO [x,y,.int .u64 (0 : Nat),z] w fun r w' => r = .tuple #[.pointer none,.int .i64 1] ∧ Ext No w w':=by
 refine Q0Q ?_
 refine Qic.mono ?_
 rintro _ w1 ⟨rfl,he⟩
 exact Qr rfl ⟨rfl,he⟩
theorem Qos (ha : Ct w a l) (hl : Pr l) (hb : Ct w b m) (hm : Pr m) (hmt : Mt w mt n) (ho : o ≠ 0) :
  Q6 P XO [a.v,b.v,.int .u64 o,mv mt] w fun r w' => ∃ t' n',r = .tuple #[t'.v,.int .i64 0] ∧ Ct w' t' (Uo l m) ∧ Mt w' mt n' ∧ Ext (MX mt) w w':=by
 refine Q0Q ?_
 refine (Qek ha hl hb hm hmt ho).mono ?_
 rintro _ w1 ⟨t1,n1,rfl,h1⟩
 refine Qp rfl ?_
 refine (Qek (hb.mt hmt h1.ext) hm (ha.mt hmt h1.ext) hl h1.cnt ho).mono ?_
 rintro _ w2 ⟨t2,n2,rfl,h2⟩
 refine (QjX (z:=1) (p:=1) ⟨by omega,by omega⟩ rfl (h1.ct.mt h1.cnt h2.ext) (Bn hl) h2.ct (Bn hm) h2.cnt ho).mono ?_
 rintro _ w3 ⟨t3,n3,rfl,h3⟩
 refine ⟨t3,n3,rfl,?_,h3.cnt,(h1.ext.QI h2.ext).QI h3.ext⟩
 rw [← Q0J hl.rises hm.rises]
 exact h3.ct
theorem Q0E {l m : Kv} (hl : Zp l) : Vm 1 l m = l ↔ Kb false l m = []:=by
 constructor
 · intro h
   rw [List.eq_nil_iff_forall_not_mem]
   intro x hx
   have h1 : (Yt false (some x.2) (look m x.1)).isSome = true:=(List.mem_filter.1 hx).2
   have h2 : look l x.1 = some x.2:=hl.lk (Q07 hx)
   have h3:=congrArg (fun q => look q x.1) h
   simp only [XP] at h3
   rw [h2] at h3
   cases hm : look m x.1 with
   | none => rw [hm] at h3; cases h3
   | some y => rw [hm] at h1; simp [Yt] at h1
 · intro h
   refine (OW hl).ext hl fun k => ?_
   have h3 : look (Kb false l m) k = none:=by rw [h]; rfl
   rw [X3 hl] at h3
   rw [XP]
   cases hk : look l k with
   | none => rfl
   | some x =>
     rw [hk] at h3
     cases hm : look m k with
     | none => rw [hm] at h3; cases h3
     | some y => rfl
theorem Sz (ha : Ct w a l) (hl : Pr l) (hb : Ct w b m) (hm : Pr m) (hmt : Mt w none n) : Q6 P VK [a.v,b.v] w fun r w' => r = .bool (decide (Kb false l m = [])) ∧ Ext No w w':=by
 refine Q9J ?_
 refine (QvM (z:=1) (p:=1) (o:=1) (mt:=none) ⟨by omega,by omega⟩ rfl ha hl hb hm hmt (by omega)).mono ?_
 rintro _ w1 ⟨t',n',rfl,hR⟩
 have he : Ext No w w1:=hR.ext
 have ha1:=ha.Q4 he
 show YV P w1 t'.v a.v fun v => v = .bool (decide (Kb false l m = [])) ∧ Ext No w w1
 refine Qip (t:=t') (t':=a) hR.ct.tree ha1.tree ?_
 refine ⟨?_,he⟩
 congr 1
 refine decide_eq_decide.2 ⟨fun h => ?_,fun h => ?_⟩
 · have h2:=Tree.inj hR.ct.tree ha1.tree h
   rw [← Q0E hl.rises]
   refine (OW hl.rises).ext hl.rises fun k => ?_
   rw [← hR.ct.can.get k,← ha1.can.get k,h2]
 · rw [(hR.idle ((Q0E hl.rises).2 h)).1]
end
end Go.Proofs.YtbnhggfiembejaaGreatDoor
end
