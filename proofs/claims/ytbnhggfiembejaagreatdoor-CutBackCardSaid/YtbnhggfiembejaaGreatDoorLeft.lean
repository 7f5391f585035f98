import Derived.Test.YtbnhggfiembejaaGreatDoorUni
import Derived.Test.YtbnhggfiembejaaGreatDoorConcat
import Derived.Test.YtbnhggfiembejaaGreatDoorDet
section
namespace Go.Proofs.YtbnhggfiembejaaGreatDoor
open Go Go.RowKit X
set_option linter.unusedSimpArgs false
set_option linter.unusedVariables false
set_option linter.unusedSectionVars false
theorem QdQ {α : Type} {p q : α → Bool} (h : ∀ x,p x = true → q x = true) : ∀ {L : List α},(L.filter p).length ≤ (L.filter q).length ∧ ((L.filter p).length = (L.filter q).length → ∀ x ∈ L,q x = true → p x = true):=by
 intro L
 induction L with
 | nil => exact ⟨Nat.le_refl _,fun _ x hx => by cases hx⟩
 | cons a L ih =>
   cases hp : p a with
   | true =>
     rw [List.filter_cons_of_pos hp,List.filter_cons_of_pos (h a hp)]
     refine ⟨by simp; exact ih.1,fun e x hx hq => ?_⟩
     rcases List.mem_cons.1 hx with rfl | hx
     · exact hp
     · exact ih.2 (by simpa using e) x hx hq
   | false =>
     rw [List.filter_cons_of_neg (by simp [hp])]
     cases hq : q a with
     | true =>
       rw [List.filter_cons_of_pos hq]
       refine ⟨by simp; exact Nat.le_succ_of_le ih.1,fun e => ?_⟩
       have:=ih.1
       simp at e
       omega
     | false =>
       rw [List.filter_cons_of_neg (by simp [hq])]
       refine ⟨ih.1,fun e x hx hqx => ?_⟩
       rcases List.mem_cons.1 hx with rfl | hx
       · rw [hq] at hqx; cases hqx
       · exact ih.2 e x hx hqx
def Xi (l : List (UInt8 × T)) (c : UInt8) : T:=match l.find? (fun p => p.1 == c) with | some p => p.2 | none => .nil
def UpK (l : List (UInt8 × T)) : Prop:=l.Pairwise fun p q => p.1.toNat < q.1.toNat
theorem Q01 {l : List (UInt8 × T)} {p : UInt8 × T} (h : ∀ q ∈ l,q.1 ≠ p.1) : Xi (l ++ [p]) = Zt (Xi l) p.1 p.2:=by
 funext c
 unfold Xi Zt
 rw [List.find?_append]
 by_cases e : c = p.1
 · subst e
   have : l.find? (fun q => q.1 == p.1) = none:=List.find?_eq_none.2 fun q hq => by simpa using h q hq
   rw [this]; simp
 · have : [p].find? (fun q => q.1 == c) = none:=List.find?_eq_none.2 fun q hq => by rw [List.mem_singleton.1 hq]; simpa using fun h => e h.symm
   rw [this,if_neg e]; simp
theorem Q25 {l : List (UInt8 × T)} (h : UpK l) {p : UInt8 × T} (hp : p ∈ l) : Xi l p.1 = p.2:=by
 induction l with
 | nil => cases hp
 | cons q r ih =>
   unfold Xi
   have hc:=List.pairwise_cons.1 h
   rcases List.mem_cons.1 hp with rfl | hp
   · rw [List.find?_cons_of_pos (by simp)]
   · have hne : q.1 ≠ p.1:=fun e => by have:=hc.1 p hp; rw [e] at this; omega
     rw [List.find?_cons_of_neg (by simpa using hne)]
     exact ih hc.2 hp
theorem Ca {l : List (UInt8 × T)} {c : UInt8} (h : Xi l c ≠ .nil) : ∃ p ∈ l,p.1 = c ∧ Xi l c = p.2:=by
 unfold Xi at h ⊢
 cases hf : l.find? (fun p => p.1 == c) with
 | none => rw [hf] at h; exact absurd rfl h
 | some p => exact ⟨p,List.mem_of_find?_eq_some hf,by simpa using List.find?_some hf,rfl⟩
theorem T.Q29 {t : T} (h : t ≠ .nil) : t.ptr.isSome = true:=by cases t with
 | nil => exact absurd rfl h
 | node => rfl
theorem T.Ff {t : T} (h : ¬ t.ptr.isSome = true) : t = .nil:=by cases t with
 | nil => rfl
 | node => exact absurd rfl h
theorem QcW {l : List (UInt8 × T)} (h : UpK l) (hn : ∀ p ∈ l,p.2 ≠ .nil) : dom (ptrs (Xi l)) = l.map Prod.fst:=by
 refine QbD (List.pairwise_map.2 h) fun c => ?_
 constructor
 · intro hc
   obtain ⟨p,hp,rfl⟩:=List.mem_map.1 hc
   show (Xi l p.1).ptr.isSome = true
   rw [Q25 h hp]
   exact T.Q29 (hn p hp)
 · intro hc
   have hc : (Xi l c).ptr.isSome = true:=hc
   obtain ⟨p,hp,e,-⟩:=Ca (l:=l) (c:=c) fun e => by rw [e] at hc; cases hc
   exact List.mem_map.2 ⟨p,hp,e⟩
theorem QcX {l : List (UInt8 × T)} (h : UpK l) (hn : ∀ p ∈ l,p.2 ≠ .nil) : cnt (ptrs (Xi l)) = l.length:=by
 show (dom _).length = _
 rw [QcW h hn,List.length_map]
theorem QiF {w : World} [Floor] {l : List (UInt8 × T)} {kids : UInt8 → T} (h : UpK l) (hn : ∀ p ∈ l,p.2 ≠ .nil) (hk : ∀ p ∈ l,(kids p.1).ptr = p.2.ptr) (hc : cnt (ptrs kids) = l.length) (ht : ∀ c,Tree w (kids c)) (ht' : ∀ p ∈ l,Tree w p.2) : (fun c => (Xi l c).er) = fun c => (kids c).er:=by
 funext c
 have key:=(QdQ (p:=fun c => (ptrs (Xi l) c).isSome) (q:=fun c => (ptrs kids c).isSome) (fun x hx => by
  obtain ⟨p,hp,rfl,e⟩:=Ca (l:=l) (c:=x) fun e => by
   have hx : (Xi l x).ptr.isSome = true:=hx
   rw [e] at hx; cases hx
  show (kids p.1).ptr.isSome = true
  rw [hk p hp]
  exact T.Q29 (hn p hp)) (L:=Rf)).2 (by
   show (dom (ptrs (Xi l))).length = (dom (ptrs kids)).length
   rw [QcW h hn,List.length_map]; exact hc.symm)
 by_cases hs : (Xi l c) = .nil
 · have : kids c = .nil:=T.Ff fun hq => by
    have hx : (Xi l c).ptr.isSome = true:=key c (P9 c) hq
    rw [hs] at hx; cases hx
   rw [hs,this]
 · obtain ⟨p,hp,rfl,e⟩:=Ca hs
   rw [e]
   exact Tree.inj (ht' p hp) (ht p.1) (hk p hp).symm
variable [Floor]
structure LK (w : World) (v : Value) (l : List (UInt8 × T)) : Prop where
 row : ∃ cells,Sl w (tyQ J5) v 2 l.length cells ∧ ∀ (i : Nat) (p : UInt8 × T),l[i]? = some p → cells[i * 2]? = some (bv p.1) ∧ cells[i * 2 + 1]? = some p.2.v
 tree : ∀ p ∈ l,Tree w p.2
 some : ∀ p ∈ l,p.2 ≠ .nil
 up : UpK l
 len : l.length ≤ 256
section
variable {w w' : World} {v : Value} {l : List (UInt8 × T)} {mt : Option Y3} {n o : Nat}
theorem X.Sl.Qyd {Q : Nat → TypeId → Prop} {sz nn : Nat} {cells : List Value} {K : Value → Value → Prop} {kd : IntKind} {i : Int} {x : Value} {o : Nat} (h : Sl w Q v sz nn cells) (m : Nat) (hi : i = (m : Int)) (hm : m < nn) (ho : o < sz) (hx : cells[m * sz + o]? = some x)
  (k : ∀ p,(∀ w',Sl w' Q v sz nn cells → Zg w' p x) → K p x) : Zb v (.int kd i) sz fun u => X6 u o fun p => Z6 p fun a => QC w a fun y => K p y:=by
 have key : ∀ w',Sl w' Q v sz nn cells → ∃ a cap,v = .slice (some a) nn cap ∧ w'.cell? ((a.add (m * sz)).add o) = some x:=by
  intro w' h1
  obtain ⟨a,cap,rfl,hc⟩:=Sl.cell h1 hm ho
  exact ⟨a,cap,rfl,by rw [hc,hx]⟩
 obtain ⟨a,cap,rfl,hc⟩:=key w h
 refine ⟨m,hi,hm,⟨_,hc,k _ fun w' h' => ?_⟩⟩
 obtain ⟨a',cap',e,hc'⟩:=key w' h'
 simp only [Value.slice.injEq,Option.some.injEq] at e
 obtain ⟨rfl,-,rfl⟩:=e
 exact hc'
theorem LK.ext {X : Nat → Prop} (h : LK w v l) (e : Ext X w w') (hx : NBT J5 w X) (ht : ∀ p ∈ l,Tree w' p.2) : LK w' v l:=by
 obtain ⟨cells,h1,h2⟩:=h.row
 exact ⟨⟨cells,h1.Q1y e fun b hb hl => by obtain ⟨-,cs,T',h3,h4⟩:=hx b hb hl; exact ⟨cs,T',h3,h4⟩,h2⟩,ht,h.some,h.up,h.len⟩
theorem LK.YL (h : LK w v l) (hm : Mt w mt n) (e : Ext (MX mt) w w') : LK w' v l:=h.ext e (hm.nbt (by decide)) fun p hp => (h.tree p hp).YL hm e
theorem LK.Q4 (h : LK w v l) (e : Ext No w w') : LK w' v l:=h.ext e (NBT.no _ w) fun p hp => (h.tree p hp).Q4 e
theorem Vn {t : T} (h : t ≠ .nil) {K : Value → Prop} (k : K (.bool false)) : YV P w t.v (.pointer none) K:=by
 cases t with
 | nil => exact absurd rfl h
 | node => exact k
theorem Qio {t t' : T} (h : Tree w t) (h' : Tree w t') {K : Value → Prop} (k : K (.bool (!decide (t.ptr = t'.ptr)))) : Y1 P w t.v t'.v K:=by
 show Ia P w (.pointer t.ptr) (.pointer t'.ptr) _
 cases t with
 | nil =>
   cases t' with
   | nil => exact k
   | node => exact k
 | node a ow p v ks kids =>
   cases t' with
   | nil => exact k
   | node a' ow' p' v' ks' Vl =>
     show QaG P w ⟨a,0,none⟩ ⟨a',0,none⟩ _
     obtain ⟨pv1,hb1,-⟩:=h.1.blk
     obtain ⟨pv2,hb2,-⟩:=h'.1.blk
     by_cases e : a = a'
     · subst e
       refine I9 (run_sameAddr_same _ _) ?_
       have : (T.node a ow p v ks kids).ptr = (T.node a ow' p' v' ks' Vl).ptr:=rfl
       rw [decide_eq_true this] at k
       exact k
     · refine I9 (run_sameAddr_other _ (by simp [e]) hb1.h hb2.h) ?_
       have : ¬ (T.node a ow p v ks kids).ptr = (T.node a' ow' p' v' ks' Vl).ptr:=fun h => e (by have h2 : (⟨a,0,none⟩ : Addr) = ⟨a',0,none⟩:=Option.some.inj h; injection h2)
       rw [decide_eq_false this] at k
       exact k
theorem LK.rd (h : LK w v l) (i : Nat) (hi : i < l.length) {K : Addr → World → Prop} (k : ∀ b w',QZ w' b [bv l[i].1,l[i].2.v] J5 → Ext No w w' → w.heap.size ≤ b → K ⟨b,0,none⟩ w') :
  Zb v (.int .i64 i) 2 fun u => Z6 u fun a => Qo w a 2 fun y => Qs w [.int .u8 0,.pointer none] J5 fun b w1 => Yn P (storeVar J5 b y) w1 fun w2 => K b w2:=by
 obtain ⟨cells,h1,h2⟩:=h.row
 obtain ⟨h3,h4⟩:=h2 i l[i] (List.getElem?_eq_getElem hi)
 have h5 : (cells.drop (i * 2)).take 2 = [bv l[i].1,l[i].2.v]:=by
  apply List.ext_getElem?
  intro j
  rw [List.getElem?_take]
  match j with
  | 0 => rw [if_pos (by omega),List.getElem?_drop]; exact h3
  | 1 => rw [if_pos (by omega),List.getElem?_drop]; exact h4
  | j + 2 => rw [if_neg (by omega)]; rfl
 refine h1.rdN i rfl hi ?_
 rw [h5]
 refine Qz fun b w1 hb hblk hz he1 => ?_
 refine JW hblk (by kernel_rfl) (by simp) ?_ fun w2 hb2 hz2 he2 => ?_
 · intro u hu
   simp only [List.mem_cons,List.mem_nil_iff,or_false] at hu
   rcases hu with rfl | rfl
   · rfl
   · rfl
 exact k b w2 (by simpa using hb2) (he1.Z0 he2 (by omega)) (by omega)
theorem Qo1 (h : LK w v l) : Q6 P Sa [v] w fun r w' => r = .int .i64 0 ∧ Ext No w w':=by
 have hll:=h.len
 refine QeW ?_
 refine KN h.row.choose_spec.1 ?_
 refine JN (fun nn vs w' => ∃ (i : Nat) (y1 y2 y3 y4 : Value),vs = [.int .i64 i,y1,y2,y3,y4,.int .i64 0] ∧ nn = l.length - i ∧ i ≤ l.length ∧ Ext No w w') l.length ⟨0,_,_,_,_,rfl,rfl,by omega,Ext.refl _ _⟩ ?_
 rintro nn vs g w1 ⟨i,y1,y2,y3,y4,rfl,rfl,hi,he⟩
 unfold TQ
 refine ZF (fun hlt => ?_) fun hge => ?_
 · have hil : i < l.length:=by omega
   refine xj (fun vs w' => ∃ y1 y2 y3 y4 : Value,vs = [y1,y2,y3,y4,.int .i64 0] ∧ Ext No w w') ?_ ?_
   · refine (h.Q4 he).rd i hil fun b w2 hb he2 _ => ?_
     refine hb.ld (o:=1) (v:=l[i].2.v) rfl ?_
     refine Vn (h.some _ (List.getElem_mem hil)) ?_
     refine Qp rfl ?_
     have hE2:=(he.Q0 he2)
     have hd:=Ext.drew (Ext.refl No w2)
     refine xj (fun vs w' => vs = [.bool false] ∧ w' = w2.drew) ?_ ?_
     · refine ZF (fun h0 => ?_) fun h0 => ⟨rfl,rfl⟩
       refine xi (r:=((i - 1 : Nat) : Int)) (by rw [QQ (by omega)]; omega) ?_
       obtain ⟨cells,h1,h2⟩:=((h.Q4 hE2).Q4 hd).row
       refine h1.rdF (i - 1) rfl (by omega) (by omega) ((h2 (i - 1) l[i - 1] (List.getElem?_eq_getElem (by omega))).1) ?_
       refine hb.drew.ld (o:=0) (v:=bv l[i].1) rfl ?_
       have:=List.pairwise_iff_getElem.1 h.up (i - 1) i (by omega) hil (by omega)
       exact ⟨by simp; omega,rfl⟩
     · rintro vs g w3 ⟨rfl,rfl⟩
       exact Qp rfl ⟨_,_,_,_,rfl,hE2.Q0 hd⟩
   rintro vs g w3 ⟨z1,z2,z3,z4,rfl,JD⟩
   refine xi (r:=((i + 1 : Nat) : Int)) (by rw [QQ (by omega)]; omega) ?_
   exact JP (l.length - (i + 1)) (by omega) ⟨i + 1,_,_,_,_,rfl,rfl,by omega,JD⟩
 · exact ⟨rfl,he⟩
section
variable {a ow : Nat} {part : Key} {v0 val : Option Nat} {ks : List Nat} {kids : UInt8 → T} {x : Nat}
theorem QvE (ht : Tree w (.node a ow part v0 ks kids)) (hne : ks ≠ []) (h : LK w v l) (ho : o ≠ 0) : Q6 P Q3S [(T.node a ow part v0 ks kids).v,v,.int .u64 o] w fun r w' => r = .int .i64 0 ∧ Ext No w w':=by
 refine Qk9 ?_
 refine (Qo1 h).mono ?_
 rintro _ w1 ⟨rfl,he⟩
 refine xj (fun vs w' => vs = [.bool false] ∧ w1 = w') ?_ ?_
 · refine Qp (by simp; omega) ?_
   exact ⟨rfl,rfl⟩
 rintro vs g w2 ⟨rfl,rfl⟩
 refine Qp rfl ?_
 refine Vn (t:=.node a ow part v0 ks kids) (by simp) ?_
 refine Qp rfl ?_
 refine (Hg (ht.Q4 he)).mono ?_
 rintro _ w2 ⟨rfl,rfl⟩
 have : (T.node a ow part v0 ks kids).kind ≠ 1:=by
  show Yx ks (ptrs kids) ≠ 1
  unfold Yx
  rw [if_neg hne]
  unfold Kl
  repeat' split
  all_goals omega
 refine Qp (beq_eq_false_iff_ne.2 (by omega)) ?_
 exact ⟨rfl,he⟩
theorem QqK (ht : Tree w (.node a ow part v0 ks kids)) (h : LK w v l) (hx : ∀ y,val = some y → y = x) : Q6 P Q1t [(T.node a ow part v0 ks kids).v,.bool val.isSome,.int .u64 x,v] w fun r w' => r = .bool (decide (v0 = val ∧ cnt (ptrs kids) = l.length ∧ ∀ p ∈ l,(kids p.1).ptr = p.2.ptr)) ∧ Ext No w w':=by
 have hll:=h.len
 refine Qh8 ?_
 refine (Cj ht).mono ?_
 rintro _ w1 ⟨rfl,rfl⟩
 have hlen : ∀ {A : Prop},(val = v0) → (A ↔ True) → True:=fun _ _ => trivial
 refine xj (fun vs w' => vs = [.bool (!decide (v0 = val ∧ cnt (ptrs kids) = l.length))] ∧ w1 = w') ?_ ?_
 · have cont : v0 = val → Q6 P Ye [(T.node a ow part v0 ks kids).v] w1 fun v1 w2 => Zq v fun v2 => Ad v1 v2 fun v3 => [v3] = [.bool (!decide (v0 = val ∧ cnt (ptrs kids) = l.length))] ∧ w1 = w2:=fun e => by
    refine (Qoi ht).mono ?_
    rintro _ w2 ⟨rfl,rfl⟩
    refine KN h.row.choose_spec.1 ?_
    refine ⟨?_,rfl⟩
    have hc : (v0 = val ∧ cnt (ptrs kids) = l.length) ↔ cnt (ptrs kids) = l.length:=⟨fun h => h.2,fun h => ⟨e,h⟩⟩
    rw [decide_eq_decide.2 hc]
    show [Value.bool (((cnt (ptrs kids) : Nat) : Int) != (l.length : Nat))] = _
    by_cases h0 : cnt (ptrs kids) = l.length
    · rw [decide_eq_true h0,h0]; simp
    · rw [decide_eq_false h0]; simp; omega
   cases v0 with
   | none =>
     cases val with
     | none => exact cont rfl
     | some y =>
       have fin : [Value.bool true] = [Value.bool (!decide ((none : Option Nat) = some y ∧ cnt (ptrs kids) = l.length))] ∧ w1 = w1:=⟨by simp,rfl⟩
       exact fin
   | some z =>
     cases val with
     | none =>
       have fin : [Value.bool true] = [Value.bool (!decide (some z = (none : Option Nat) ∧ cnt (ptrs kids) = l.length))] ∧ w1 = w1:=⟨by simp,rfl⟩
       exact fin
     | some y =>
       obtain rfl:=hx y rfl
       refine Q5L (fun hne => ?_) fun heq => ?_
       · exact ⟨by have : ¬ z = y:=fun e => hne (by rw [e]; rfl)
                   simp [this],rfl⟩
       · have heq : ((z : Nat) : Int) = (y : Nat):=heq
         exact cont (by rw [show z = y by omega])
 rintro vs g w2 ⟨rfl,rfl⟩
 by_cases hc : v0 = val ∧ cnt (ptrs kids) = l.length
 · rw [decide_eq_true hc]
   refine Qp rfl ?_
   refine KN h.row.choose_spec.1 ?_
   refine JN (fun nn vs w' => ∃ (i : Nat) (y : Value),vs = [.int .i64 i,y] ∧ nn = l.length - i ∧ i ≤ l.length ∧ (∀ p ∈ l.take i,(kids p.1).ptr = p.2.ptr) ∧ Ext No w1 w') l.length ⟨0,_,rfl,rfl,by omega,(fun p hp => by simp at hp),Ext.refl _ _⟩ ?_
   rintro nn vs g w2 ⟨i,y,rfl,rfl,hi,hall,he⟩
   unfold Q19
   refine ZF (fun hlt => ?_) fun hge => ?_
   · have hil : i < l.length:=by omega
     refine (h.Q4 he).rd i hil fun b w3 hb QE _ => ?_
     have hd:=Ext.drew (Ext.refl No w3)
     have JD:=(he.Q0 QE).Q0 hd
     refine hb.drew.ld (o:=0) (v:=bv l[i].1) rfl ?_
     refine hb.drew.ld (o:=1) (v:=l[i].2.v) rfl ?_
     refine (FI (ht.Q4 JD) (b:=l[i].1)).mono ?_
     rintro _ w4 ⟨rfl,Zl⟩
     have U9:=JD.Q0 Zl
     refine ⟨?_,?_⟩
     · show w4.cell? ((⟨b,0,none⟩ : Addr).add 1) = _
       rw [Addr.add_lit,(hb.drew.ext Zl fun h => h).cell]; rfl
     refine Qio (t:=kids l[i].1) ((ht.Q4 U9).2 _) (h.tree _ (List.getElem_mem hil) |>.Q4 U9) ?_
     by_cases e : (kids l[i].1).ptr = l[i].2.ptr
     · rw [decide_eq_true e]
       refine Qp rfl ?_
       refine xi (r:=((i + 1 : Nat) : Int)) (by rw [QQ (by omega)]; omega) ?_
       refine JP (l.length - (i + 1)) (by omega) ⟨i + 1,_,rfl,rfl,by omega,fun p hp => ?_,U9⟩
       rw [← List.take_append_getElem hil] at hp
       rcases List.mem_append.1 hp with e1 | e1
       · exact hall p e1
       · rw [List.mem_singleton.1 e1]; exact e
     · rw [decide_eq_false e]
       refine Qr rfl ⟨?_,U9⟩
       rw [decide_eq_false]
       exact fun hq => e (hq.2.2 _ (List.getElem_mem hil))
   · have : i = l.length:=by omega
     subst this
     rw [List.take_length] at hall
     exact ⟨by rw [decide_eq_true ⟨hc.1,hc.2,hall⟩],he⟩
 · rw [decide_eq_false hc]
   refine Qr rfl ⟨?_,Ext.refl _ _⟩
   rw [decide_eq_false]
   exact fun hq => hc ⟨hq.1,hq.2.1⟩
structure Q3x (w w' : World) (t : T) (l : List (UInt8 × T)) (e : E) (o : Nat) (t' : T) (mt : Option Y3) (n n' : Nat) : Prop where
 tree : Tree w' t'
 er : t'.er = e
 QR : t'.ZJ
 own : ∀ q : Nat → Prop,q o → t.OwQ q → (∀ p ∈ l,p.2.OwQ q) → t'.OwQ q
 all : ∀ b,t'.All b → t.All b ∨ (∃ p ∈ l,p.2.All b) ∨ w.heap.size ≤ b
 cnt : Mt w' mt n'
 le : n' ≤ n + 1
 ext : Ext (MX mt) w w'
theorem QbO {w1 : World} {b1 : Nat} {p q : Key} {c : UInt8} {v1 v3 : Value} {K : Value → World → Prop} (hfl : Floor.n ≤ w1.heap.size) (h1 : Bs w1 v1 p) (hb : QZ w1 b1 [bv c] Qm) (h3 : Bs w1 v3 q) (hn : p.length + 1 + q.length ≤ 65535)
  (k : ∀ v' w',Bs w' v' (p ++ c :: q) → Ext No w1 w' → K v' w') :
  Qs w1 [v1,.slice (some ⟨b1,0,none⟩) 1 1,v3] Ji fun ad w2 => Q6 P WN [.slice (some ad) 3 3] w2 K:=by
 refine Qz fun nb w2 hnb hblk hz he => ?_
 refine Q8x ?_
 have hsl : Sl w2 (tyQ Ji) (.slice (some ⟨nb,0,none⟩) 3 3) 1 [p,[c],q].length [v1,.slice (some ⟨b1,0,none⟩) 1 1,v3]:=hblk.sln rfl
 have hz2:=he.size
 refine (Qel (by omega) hsl (fun i hi => ?_) (by simp; omega) (by simp)).mono ?_
 · match i,hi with
   | 0,_ => exact ⟨v1,rfl,h1.Q4 he⟩
   | 1,_ => exact ⟨_,rfl,(Bs.Qyk (k:=[c]) hb).Q4 he⟩
   | 2,_ => exact ⟨v3,rfl,h3.Q4 he⟩
   | n + 3,h => exact absurd h (by simp)
 · rintro r w3 ⟨hr,QE⟩
   refine k r w3 ?_ (he.Q0 QE)
   simpa using hr
theorem T.QiN {a ow : Nat} {part : Key} {v0 : Option Nat} {ks : List Nat} {kids : UInt8 → T} (hf : (T.node a ow part v0 ks kids).er.ZV) (hl : (T.node a ow part v0 ks kids).ZJ) (hne : ks ≠ []) : 2 ≤ Y2 (fun c => (kids c).er) + one v0:=by
 have h1:=hf.1
 have e : cnt (fun c => ((kids c).er).opt) = cnt (ptrs kids):=X.WR fun c => T.WQ (kids c)
 have hc : cnt (ptrs kids) ≠ 0:=fun e => hne (hl.1.2 e)
 have h1 : if cnt (fun c => ((kids c).er).opt) = 0 then v0.isSome = true else 2 ≤ cnt (fun c => ((kids c).er).opt) + one v0:=h1
 rw [if_neg (by rw [e]; exact hc)] at h1
 exact h1
theorem QiG {l : List (UInt8 × T)} (h : UpK l) (hn : ∀ p ∈ l,p.2 ≠ .nil) : Y2 (fun c => (Xi l c).er) = l.length:=by
 have e : cnt (fun c => ((Xi l c).er).opt) = cnt (ptrs (Xi l)):=X.WR fun c => T.WQ _
 show cnt _ = _
 rw [e,QcX h hn]
set_option maxRecDepth 100000 in
theorem QgN (ht : Tree w (.node a ow part v0 ks kids)) (hne : ks ≠ []) (hf : (T.node a ow part v0 ks kids).er.ZV) (hl : (T.node a ow part v0 ks kids).ZJ) (hL : LK w v l) (hlf : ∀ p ∈ l,p.2.ZJ) (hx : ∀ y,val = some y → y = x) (Q0f : x < 18446744073709551616) (ho : o ≠ 0) (hm : Mt w mt n)
  (hlen : ∀ p ∈ l,part.length + 1 + p.2.part.length ≤ 65535) :
  Q6 P BN [(T.node a ow part v0 ks kids).v,.bool val.isSome,.int .u64 x,v,.int .u64 o,mv mt] w fun r w' => ∃ t' n',r = .tuple #[t'.v,.int .i64 0] ∧ Q3x w w' (.node a ow part v0 ks kids) l (YF part val fun c => (Xi l c).er) o t' mt n n' ∧
   ((v0 = val ∧ cnt (ptrs kids) = l.length ∧ ∀ p ∈ l,(kids p.1).ptr = p.2.ptr) → t' = .node a ow part v0 ks kids ∧ n' = n):=by
 have hll:=hL.len
 refine Qh9 ?_
 refine (QvE ht hne hL ho).mono ?_
 rintro _ w1 ⟨rfl,he1⟩
 refine Qp rfl ?_
 refine (QqK (ht.Q4 he1) (hL.Q4 he1) hx).mono ?_
 rintro _ w2 ⟨rfl,he2⟩
 have hE:=he1.Q0 he2
 have ht2:=ht.Q4 hE
 have hL2:=hL.Q4 hE
 have hm2:=hm.Q4 hE
 have hz2:=hE.size
 by_cases hj : v0 = val ∧ cnt (ptrs kids) = l.length ∧ ∀ p ∈ l,(kids p.1).ptr = p.2.ptr
 · rw [decide_eq_true hj]
   refine Qr rfl ?_
   refine ⟨_,n,rfl,⟨ht2,?_,hl,fun q _ h _ => h,fun b h => .inl h,hm2,by omega,hE.mono fun _ _ h => h.elim⟩,fun _ => ⟨rfl,rfl⟩⟩
   show E.node part v0 (fun c => (kids c).er) = YF part val fun c => (Xi l c).er
   rw [QiF hL2.up hL2.some hj.2.2 hj.2.1 ht2.2 hL2.tree,← hj.1]
   exact (Q2d (T.QiN hf hl hne)).symm
 · rw [decide_eq_false hj]
   refine Qp rfl ?_
   cases l with
   | nil =>
     refine xj (fun vs w' => vs = [.bool val.isSome] ∧ w2 = w') ?_ ?_
     · refine KN hL2.row.choose_spec.1 ?_
       exact Qr rfl ⟨rfl,rfl⟩
     rintro vs g w3 ⟨rfl,rfl⟩
     cases val with
     | some y =>
       obtain rfl:=hx y rfl
       refine Qr rfl ?_
       refine (XA ht2).mono ?_
       rintro pv w3 ⟨hpv,QE⟩
       have hpv : Bs w3 pv part:=hpv
       refine (QbU (ow:=o) (hm2.Q4 QE) hpv ht.1.short Q0f).mono ?_
       rintro _ w4 ⟨u,rfl,hna,hfr,hm4,Zl⟩
       have hz3:=QE.size
       refine ⟨.node u o part (some y) [] (fun _ => .nil),n + 1,rfl,⟨⟨hna,fun _ => trivial⟩,rfl,⟨⟨fun _ => (by show cnt (fun _ => none : UInt8 → Option Addr) = 0; simp [cnt,VG]),fun _ => rfl⟩,fun _ => trivial⟩,fun q h _ _ => ⟨h,fun _ => trivial⟩,fun b hb => ?_,hm4,by omega,((hE.Q0 QE).mono fun _ _ h => h.elim).QI Zl⟩,fun hq => absurd hq hj⟩
       rcases hb with (hb | hb) | ⟨c,hb⟩
       · exact .inr (.inr (by rw [hb]; omega))
       · cases hb
       · exact hb.elim
     | none =>
       refine Qp rfl ?_
       refine KN hL2.row.choose_spec.1 ?_
       refine Qr rfl ?_
       refine ⟨.nil,n,rfl,⟨trivial,?_,trivial,fun _ _ _ _ => trivial,fun b hb => hb.elim,hm2,by omega,hE.mono fun _ _ h => h.elim⟩,fun hq => absurd hq hj⟩
       show E.nil = YF part none Du
       unfold YF
       rw [if_pos Iy]
   | cons p r =>
     refine xj (fun vs w' => vs = [.bool false] ∧ w2 = w') ?_ ?_
     · refine KN hL2.row.choose_spec.1 ?_
       exact Qp (by simp; omega) ⟨rfl,rfl⟩
     rintro vs g w3 ⟨rfl,rfl⟩
     refine Qp rfl ?_
     refine KN hL2.row.choose_spec.1 ?_
     refine Qp (by simp; omega) ?_
     have make : ¬ (r = [] ∧ val = none) → Q6 P QD [(T.node a ow part v0 ks kids).v] w2 fun MS Ie =>
       Q6 P VA [mv mt,.int .u64 o,MS] Ie fun Uc MH =>
       XJ (fun QeZ => Ql (.bool val.isSome) (Q6 P Zu [Uc,.int .u64 o,.int .u64 x] MH fun MO Q1V => QeZ [] Q1V) (QeZ [] MH)) fun QtH QBa Q1W =>
       Zq v fun FC =>
       Jn [(.int .i64 0)] Q1W (MB (fun r' w' => ∃ t' n',r' = .tuple #[t'.v,.int .i64 0] ∧ Q3x w w' (.node a ow part v0 ks kids) (p :: r) (YF part val fun c => (Xi (p :: r) c).er) o t' mt n n' ∧
        ((v0 = val ∧ cnt (ptrs kids) = (p :: r).length ∧ ∀ q ∈ p :: r,(kids q.1).ptr = q.2.ptr) → t' = .node a ow part v0 ks kids ∧ n' = n)) v (.int .u64 o) Uc FC):=fun hmk => by
      refine (XA ht2).mono ?_
      rintro pv w3 ⟨hpv,QE⟩
      have hpv : Bs w3 pv part:=hpv
      have hz3:=QE.size
      refine (Q2D (ow:=o) (hm2.Q4 QE) hpv ht.1.short).mono ?_
      rintro _ w4 ⟨u,Jw,rfl,hna,hne4,hfr,hm4,Zl⟩
      have hF4 : FN w3 w4 u o part none Jw (fun _ => .nil) mt (n + 1):=⟨⟨hna,fun _ => trivial⟩,hfr,fun c b h => h.elim,hm4,Zl⟩
      have hL3:=hL2.Q4 QE
      have hL4:=hL3.YL (hm2.Q4 QE) Zl
      have hlt : ∀ q ∈ p :: r,∀ b,q.2.All b → b < w.heap.size:=fun q hq b hb => (hL.tree q hq).lt hb
      have nbt : ∀ {w' : World} {val' : Option Nat} {Yb : List Nat} {Vl : UInt8 → T},FN w3 w' u o part val' Yb Vl mt (n + 1) → NBT J5 w' (NX u Yb):=fun hF b hb hl => by
       obtain ⟨cs,T',h1,h2⟩:=hF.tree.ty (.inl hb)
       exact ⟨hF.tree.fl (.inl hb),cs,T',h1,(show Oth J5 by unfold Oth; decide).nt h2⟩
      have lk : ∀ {w' w'' : World} {val' : Option Nat} {Yb : List Nat} {Vl : UInt8 → T},FN w3 w' u o part val' Yb Vl mt (n + 1) → LK w' v (p :: r) → Ext (NX u Yb) w' w'' → LK w'' v (p :: r):=fun hF h e => h.ext e (nbt hF) fun q hq => (h.tree q hq).ext e (hF.nb fun b hb => hb) fun b hb hx => by
       have:=hF.fresh b hx
       have:=hlt q hq b hb
       omega
      refine xj (fun vs w' => FN w3 w' u o part val Jw (fun _ => .nil) mt (n + 1) ∧ LK w' v (p :: r)) ?_ ?_
      · cases val with
        | none => exact Qp rfl ⟨hF4,hL4⟩
        | some y =>
          obtain rfl:=hx y rfl
          refine Qr rfl ?_
          refine (QgO hF4 ho Q0f).mono ?_
          rintro _ w5 ⟨hF5,ZR⟩
          exact ⟨hF5,lk hF4 hL4 (ZR.mono fun b _ hb => .inl hb)⟩
      rintro vs g w5 ⟨hF5,hL5⟩
      refine KN hL5.row.choose_spec.1 ?_
      refine JN (fun nn vs w' => ∃ (i : Nat) (Yb : List Nat),vs = [.int .i64 i] ∧ nn = (p :: r).length - i ∧ i ≤ (p :: r).length ∧ FN w3 w' u o part val Yb (Xi ((p :: r).take i)) mt (n + 1) ∧ Yb ≠ [] ∧ LK w' v (p :: r)) (p :: r).length
       ⟨0,Jw,rfl,rfl,by omega,hF5,hne4,hL5⟩ ?_
      rintro nn vs g w6 ⟨i,QtW,rfl,rfl,hi,hF6,QdC,hL6⟩
      unfold MB
      refine ZF (fun hlt' => ?_) fun hge => ?_
      · have hil : i < (p :: r).length:=by omega
        refine hL6.rd i hil fun b w7 hb Yy _ => ?_
        refine hb.ld (o:=0) (v:=bv (p :: r)[i].1) rfl ?_
        refine hb.ld (o:=1) (v:=(p :: r)[i].2.v) rfl ?_
        have hF7:=hF6.Q4 Yy
        have hL7:=hL6.Q4 Yy
        have hmem:=List.getElem_mem hil
        obtain ⟨a2,hp2⟩ : ∃ a2,(p :: r)[i].2.ptr = some ⟨a2,0,none⟩:=by
         cases hq : (p :: r)[i].2 with
         | nil => exact absurd hq (hL.some _ hmem)
         | node a2 => exact ⟨a2,rfl⟩
        have hv2 : (p :: r)[i].2.v = rp a2:=by show Value.pointer (p :: r)[i].2.ptr = _; rw [hp2]
        rw [hv2]
        refine (Q4b hF7 ho QdC hp2 (hL7.tree _ hmem) fun b hb hx => ?_).mono ?_
        · have:=hF7.fresh b hx
          have:=hlt _ hmem b hb
          omega
        rintro _ w8 ⟨QtV,hF8,QuB,KJ,-⟩
        refine xi (r:=((i + 1 : Nat) : Int)) (by rw [QQ (by omega)]; omega) ?_
        refine JP ((p :: r).length - (i + 1)) (by omega) ⟨i + 1,QtV,rfl,rfl,by omega,?_,QuB,lk hF7 hL7 KJ⟩
        rw [← List.take_append_getElem hil,Q01 fun q hq e => ?_]
        · exact hF8
        · obtain ⟨k,hk,rfl⟩:=List.getElem_of_mem hq
          rw [List.length_take] at hk
          have:=List.pairwise_iff_getElem.1 hL.up k i (by omega) hil (by omega)
          rw [List.getElem_take] at e
          rw [e] at this
          omega
      · have : i = (p :: r).length:=by omega
        subst this
        rw [List.take_length] at hF6
        have hcn:=QiG hL.up hL.some
        refine ⟨.node u o part val QtW (Xi (p :: r)),n + 1,rfl,⟨hF6.tree,?_,⟨⟨fun h => absurd h QdC,fun h => ?_⟩,fun c => ?_⟩,fun q h1 h2 h3 => ⟨h1,fun c => ?_⟩,fun b hb => ?_,hF6.cnt,by omega,((hE.Q0 QE).mono fun _ _ h => h.elim).QI hF6.ext⟩,fun hq => absurd hq hj⟩
        · show E.node part val (fun c => (Xi (p :: r) c).er) = _
          cases val with
          | some y => rfl
          | none =>
            refine (Q2d ?_).symm
            rw [hcn]
            have : r ≠ []:=fun e => hmk ⟨e,rfl⟩
            cases r with
            | nil => exact absurd rfl this
            | cons => simp only [List.length_cons]; omega
        · exfalso
          have h : cnt (ptrs (Xi (p :: r))) = 0:=h
          rw [QcX hL.up hL.some] at h
          simp at h
        · by_cases e : Xi (p :: r) c = .nil
          · rw [e]; trivial
          · obtain ⟨q,hq,-,e'⟩:=Ca e
            rw [e']; exact hlf q hq
        · by_cases e : Xi (p :: r) c = .nil
          · rw [e]; trivial
          · obtain ⟨q',hq,-,e'⟩:=Ca e
            rw [e']; exact h3 q' hq
        · rcases hb with hb | ⟨c,hb⟩
          · have:=hF6.fresh b hb
            exact .inr (.inr (by omega))
          · by_cases e : Xi (p :: r) c = .nil
            · rw [e] at hb; exact hb.elim
            · obtain ⟨q',hq,-,e'⟩:=Ca e
              rw [e'] at hb
              exact .inr (.inl ⟨q',hq,hb⟩)
     cases r with
     | cons p2 r2 =>
       refine xj (fun vs w' => vs = [.bool false] ∧ w2 = w') ?_ ?_
       · refine KN hL2.row.choose_spec.1 ?_
         exact Qp (by simp; omega) ⟨rfl,rfl⟩
       rintro vs g w3 ⟨rfl,rfl⟩
       refine Qp rfl ?_
       exact make fun h => by cases h.1
     | nil =>
       refine xj (fun vs w' => vs = [.bool (!val.isSome)] ∧ w2 = w') ?_ ?_
       · refine KN hL2.row.choose_spec.1 ?_
         exact Qr rfl ⟨rfl,rfl⟩
       rintro vs g w3 ⟨rfl,rfl⟩
       cases val with
       | some y =>
         refine Qp rfl ?_
         exact make fun h => by cases h.2
       | none =>
         refine Qr rfl ?_
         obtain ⟨c,t1⟩:=p
         obtain ⟨cells,hsl,hce⟩:=id hL2.row
         obtain ⟨hc0,hc1⟩:=hce 0 (c,t1) rfl
         refine hsl.rdF 0 rfl (by simp) (by omega) hc1 ?_
         have hnn : t1 ≠ .nil:=hL.some (c,t1) (by simp)
         have ht1 : Tree w2 t1:=hL2.tree (c,t1) (by simp)
         have hle1 : part.length + 1 + t1.part.length ≤ 65535:=hlen (c,t1) (by simp)
         have QzG : t1.ZJ:=hlf (c,t1) (by simp)
         cases t1 with
         | nil => exact absurd rfl hnn
         | node a1 ow1 p1 v1 H9 Ve =>
           have hle1 : part.length + 1 + p1.length ≤ 65535:=hle1
           refine (QgR (o:=o) ht1.1 hm2).mono ?_
           rintro _ w3 ⟨u,Jw,rfl,hna,hiff,hfr,Dw,QE⟩
           have hz3:=QE.size
           have hd:=Ext.drew (Ext.refl No w3)
           have ht3:=(ht2.YL hm2 QE).Q4 hd
           have QpY:=(ht1.YL hm2 QE).Q4 hd
           have QuR : Floor.n ≤ w3.drew.heap.size:=(Dw.Q4 hd).fl
           have Qdz : Sl w3.drew (tyQ J5) v 2 1 cells:=(hsl.Q1y QE fun b hb hl => by obtain ⟨-,cs,T',h3,h4⟩:=hm2.nbt (T:=J5) (by decide) b hb hl; exact ⟨cs,T',h3,h4⟩).Q4 hd
           refine Qdz.Qyd 0 rfl (by omega) (by omega) hc0 fun q0 hk0 => ?_
           refine Qdz.Qyd 0 rfl (by omega) (by omega) hc1 fun q1 hk1 => ?_
           have fin : ∀ v' w',Bs w' v' (part ++ c :: p1) → Ext No w3.drew w' → Q6 P ZH [rp u,.int .u64 o,v'] w' fun _ w' => ∃ t' n',Value.tuple #[rp u,.int .i64 0] = .tuple #[t'.v,.int .i64 0] ∧ Q3x w w' (.node a ow part v0 ks kids) [(c,.node a1 ow1 p1 v1 H9 Ve)] (YF part none fun d => (Xi [(c,.node a1 ow1 p1 v1 H9 Ve)] d).er) o t' mt n n' ∧
             ((v0 = none ∧ cnt (ptrs kids) = 1 ∧ ∀ q ∈ [(c,T.node a1 ow1 p1 v1 H9 Ve)],(kids q.1).ptr = q.2.ptr) → t' = .node a ow part v0 ks kids ∧ n' = n):=fun v' w' hv e => by
            have hna':=(hna.Q4 hd).Q4 e
            refine (Q1B hna' ho rfl hv (by simp; omega)).mono ?_
            rintro _ w5 ⟨QuD,ZR⟩
            have ht5 : Tree w' (.node u o p1 v1 Jw Ve):=⟨hna',fun d => (QpY.Q4 e).2 d⟩
            have hu:=hfr u (.inl rfl)
            obtain ⟨pv0,hbu,-⟩:=hna'.blk
            refine ⟨.node u o (part ++ c :: p1) v1 Jw Ve,n + 1,rfl,⟨⟨QuD,fun d => (ht5.2 d).ext ZR (ht5.nbX fun b hb => .inl (.inl hb)) fun b hb e' => ?_⟩,?_,⟨hiff.trans QzG.1,QzG.2⟩,fun q h1 _ h3 => ⟨h1,(h3 (c,.node a1 ow1 p1 v1 H9 Ve) (by simp)).2⟩,fun b hb => ?_,((Dw.Q4 hd).Q4 e).ext ZR fun b hb e' => ?_,by omega,?_⟩,fun hq => absurd hq hj⟩
            · have e' : b = u:=e'
              subst e'
              have:=(ht1.2 d).lt hb
              omega
            · show E.node (part ++ c :: p1) v1 (fun d => (Ve d).er) = _
              have h1 : (Xi [(c,T.node a1 ow1 p1 v1 H9 Ve)] c) = .node a1 ow1 p1 v1 H9 Ve:=Q25 (l:=[(c,T.node a1 ow1 p1 v1 H9 Ve)]) (List.pairwise_singleton _ _) (p:=(c,T.node a1 ow1 p1 v1 H9 Ve)) (by simp)
              rw [N7 (c:=c) (by show ((Xi _ c).er.opt).isSome = true; rw [h1]; rfl) fun d hd => ?_]
              · show _ = Q0B part c (Xi _ c).er
                rw [h1]; rfl
              · show (Xi _ d).er = .nil
                have : Xi [(c,T.node a1 ow1 p1 v1 H9 Ve)] d = .nil:=by
                 by_cases e : Xi [(c,T.node a1 ow1 p1 v1 H9 Ve)] d = .nil
                 · exact e
                 · obtain ⟨q,hq,e1,-⟩:=Ca e
                   rw [List.mem_singleton.1 hq] at e1
                   exact absurd e1.symm hd
                rw [this]; rfl
            · rcases hb with hb | hb
              · have:=hfr b hb
                exact .inr (.inr (by omega))
              · exact .inr (.inl ⟨(c,.node a1 ow1 p1 v1 H9 Ve),by simp,.inr hb⟩)
            · have e' : b = u:=e'
              subst e'
              exact ((Dw.Q4 hd).Q4 e).ne hbu (by decide) hb
            · refine ((((hE.mono fun _ _ h => h.elim).QI QE).Q0 hd).Q0 e).trans ZR fun b hb e' => ?_
              have e' : b = u:=e'
              subst e'
              omega
           refine ⟨?_,?_⟩
           · refine (XA ht3).mono ?_
             rintro pv w4 ⟨hpv,Zl⟩
             have hpv : Bs w4 pv part:=hpv
             obtain ⟨ad,cp,rfl⟩:=hpv.slice
             refine ⟨hk1 _ (Qdz.Q4 Zl),hk0 _ (Qdz.Q4 Zl),?_,?_⟩
             · show Qs w4 ([c].map bv) Qm _
               refine Qz fun b1 w5 hb1 Q7C hz5 ZR => ⟨hk1 _ ((Qdz.Q4 Zl).Q4 ZR),?_⟩
               refine (XA (QpY.Q4 (Zl.Q0 ZR))).mono ?_
               rintro qv w6 ⟨Ir,Ke⟩
               have Ir : Bs w6 qv p1:=Ir
               obtain ⟨ad',cp',rfl⟩:=Ir.slice
               have MC:=(Zl.Q0 ZR).Q0 Ke
               exact QbO (Nat.le_trans QuR MC.size) (hpv.Q4 (ZR.Q0 Ke)) (Q7C.ext Ke fun h => h) Ir hle1 fun v' w' hv e => fin v' w' hv (MC.Q0 e)
             · refine (XA (QpY.Q4 Zl)).mono ?_
               rintro qv w5 ⟨Ir,ZR⟩
               have Ir : Bs w5 qv p1:=Ir
               obtain ⟨ad',cp',rfl⟩:=Ir.slice
               refine ⟨hk0 _ ((Qdz.Q4 Zl).Q4 ZR),?_⟩
               show Qs w5 ([c].map bv) Qm _
               refine Qz fun b1 w6 hb1 Q7C hz6 Ke => ?_
               have MC:=(Zl.Q0 ZR).Q0 Ke
               exact QbO (Nat.le_trans QuR MC.size) (hpv.Q4 (ZR.Q0 Ke)) Q7C (Ir.Q4 Ke) hle1 fun v' w' hv e => fin v' w' hv (MC.Q0 e)
           · show Qs w3.drew ([c].map bv) Qm _
             refine Qz fun b1 w4 hb1 Q7C Ro Zl => ⟨hk1 _ (Qdz.Q4 Zl),?_⟩
             refine (XA (ht3.Q4 Zl)).mono ?_
             rintro pv w5 ⟨hpv,ZR⟩
             have hpv : Bs w5 pv part:=hpv
             obtain ⟨ad,cp,rfl⟩:=hpv.slice
             refine ⟨hk1 _ ((Qdz.Q4 Zl).Q4 ZR),?_⟩
             refine (XA (QpY.Q4 (Zl.Q0 ZR))).mono ?_
             rintro qv w6 ⟨Ir,Ke⟩
             have Ir : Bs w6 qv p1:=Ir
             obtain ⟨ad',cp',rfl⟩:=Ir.slice
             have MC:=(Zl.Q0 ZR).Q0 Ke
             exact QbO (Nat.le_trans QuR MC.size) (hpv.Q4 Ke) (Q7C.ext (ZR.Q0 Ke) fun h => h) Ir hle1 fun v' w' hv e => fin v' w' hv (MC.Q0 e)
end
end
end Go.Proofs.YtbnhggfiembejaaGreatDoor
end
section
namespace Go.Proofs.YtbnhggfiembejaaGreatDoor
open Go Go.RowKit X
set_option linter.unusedSimpArgs false
set_option linter.unusedVariables false
set_option linter.unusedSectionVars false
variable [Floor]
def RK (w : World) (v : Value) (l : List (UInt8 × T)) : Prop:=∃ cells,Sl w (tyQ J5) v 2 l.length cells ∧ ∀ (i : Nat) (p : UInt8 × T),l[i]? = some p → cells[i * 2]? = some (bv p.1) ∧ cells[i * 2 + 1]? = some p.2.v
section
variable {w w' : World} {v : Value} {l : List (UInt8 × T)} {o : Nat} {t : T}
theorem RK.Q4 (h : RK w v l) (e : Ext No w w') : RK w' v l:=let ⟨cells,h1,h2⟩:=h; ⟨cells,h1.Q4 e,h2⟩
theorem RK.nil : RK w (.slice none 0 0) []:=⟨[],Sl.nil,fun i p h => by simp at h⟩
theorem RK.rd (h : RK w v l) (i : Nat) (hi : i < l.length) {K : Addr → World → Prop} (k : ∀ b w',QZ w' b [bv l[i].1,l[i].2.v] J5 → Ext No w w' → K ⟨b,0,none⟩ w') :
  Zb v (.int .i64 i) 2 fun u => Z6 u fun a => Qo w a 2 fun y => Qs w [.int .u8 0,.pointer none] J5 fun b w1 => Yn P (storeVar J5 b y) w1 fun w2 => K b w2:=by
 obtain ⟨cells,h1,h2⟩:=h
 obtain ⟨h3,h4⟩:=h2 i l[i] (List.getElem?_eq_getElem hi)
 have h5 : (cells.drop (i * 2)).take 2 = [bv l[i].1,l[i].2.v]:=by
  apply List.ext_getElem?
  intro j
  rw [List.getElem?_take]
  match j with
  | 0 => rw [if_pos (by omega),List.getElem?_drop]; exact h3
  | 1 => rw [if_pos (by omega),List.getElem?_drop]; exact h4
  | j + 2 => rw [if_neg (by omega)]; rfl
 refine h1.rdN i rfl hi ?_
 rw [h5]
 refine Qz fun b w1 hb hblk hz he1 => ?_
 refine JW hblk (by kernel_rfl) (by simp) ?_ fun w2 hb2 hz2 he2 => ?_
 · intro u hu
   simp only [List.mem_cons,List.mem_nil_iff,or_false] at hu
   rcases hu with rfl | rfl
   · rfl
   · rfl
 exact k b w2 (by simpa using hb2) (he1.Z0 he2 (by omega))
end
end Go.Proofs.YtbnhggfiembejaaGreatDoor
end
