import Derived.Test.YtbnhggfiembejaaGreatDoorGr
import Derived.Test.YtbnhggfiembejaaGreatDoorSAc
import Derived.Test.YtbnhggfiembejaaGreatDoorNode
import Derived.Test.YtbnhggfiembejaaGreatDoorList
import Derived.Test.YtbnhggfiembejaaGreatDoorRefV
import Derived.Test.YtbnhggfiembejaaGreatDoorG1
section
section
namespace Go.Proofs.YtbnhggfiembejaaGreatDoor
open Go Go.RowKit X
set_option linter.unusedSimpArgs false
set_option linter.unusedVariables false
set_option linter.unusedSectionVars false
def Q0D (up ahead : Bool) (x : Option Nat) : Option Nat:=if ahead != up then x else none
def gC (up : Bool) (e : E) (k key : Key) : Option Nat:=Q0D up (decide (Xr key k)) (e.get key)
theorem Q7p {up a : Bool} : Q0D up a none = none:=by unfold Q0D; split <;> rfl
theorem Qg1 {up a : Bool} {x : Option Nat} {v : Nat} (h : Q0D up a x = some v) : x = some v:=by
 unfold Q0D at h
 split at h
 · exact h
 · cases h
theorem Qgj {up : Bool} {k key : Key} : gC up .nil k key = none:=Q7p
theorem Qqs {up : Bool} {e : E} {k key : Key} {v : Nat} (h : gC up e k key = some v) : ∃ y,e.get key = some y:=⟨v,Qg1 h⟩
theorem Qbb {k r : Key} : ¬ Xr (k ++ r) k:=by
 intro h
 have h2 : Xr (k ++ r) (k ++ []):=by rw [List.append_nil]; exact h
 rw [D7] at h2
 cases r with
 | nil => exact Ep h2
 | cons c r => exact absurd h2 (by unfold Xr; rw [Gd]; decide)
theorem Qaa {p : Key} {b : UInt8} {r : Key} : Xr p (p ++ b :: r):=by
 have : Xr (p ++ []) (p ++ b :: r):=by rw [D7]; unfold Xr; rw [Q2p]; decide
 rwa [List.append_nil] at this
theorem Q2k {c : Key} {x y : UInt8} {q r : Key} (h : x ≠ y) : Xr (c ++ x :: q) (c ++ y :: r) ↔ x.toNat < y.toNat:=by
 rw [D7]
 constructor
 · intro h1
   rcases Nat.lt_trichotomy x.toNat y.toNat with h2 | h2 | h2
   · exact h2
   · exact absurd (UInt8.toNat_inj.1 h2) h
   · exact absurd h1 (Q2l (Sc h2))
 · exact Sc
section
variable {up : Bool} {ap k : Key} {av : Option Nat} {ak : UInt8 → E}
theorem QhM {key : Key} (h : ¬ ap <+: key) : gC up (.node ap av ak) k key = none:=by
 unfold gC
 rw [J3 h]
 exact Q7p
theorem Qvp {q : Key} (h : ap = k ++ q) (key : Key) : gC up (.node ap av ak) k key = if up then (E.node ap av ak).get key else none:=by
 by_cases hk : ap <+: key
 · obtain ⟨s,rfl⟩:=hk
   have : ¬ Xr (ap ++ s) k:=by rw [h,List.append_assoc]; exact Qbb
   unfold gC Q0D
   rw [decide_eq_false this]
   cases up <;> rfl
 · rw [QhM hk,J3 hk]; cases up <;> rfl
theorem Qqu {c : Key} {x y : UInt8} {q r : Key} (h : ap = c ++ x :: q) (hk : k = c ++ y :: r) (hxy : x ≠ y) (key : Key) : gC up (.node ap av ak) k key = if decide (y.toNat < x.toNat) = up then (E.node ap av ak).get key else none:=by
 have hne : x.toNat ≠ y.toNat:=fun e => hxy (UInt8.toNat_inj.1 e)
 by_cases hp : ap <+: key
 · obtain ⟨s,rfl⟩:=hp
   have e : Xr (ap ++ s) k ↔ x.toNat < y.toNat:=by
    rw [h,hk,List.append_assoc,List.cons_append]
    exact Q2k hxy
   unfold gC Q0D
   rw [decide_eq_decide.2 e]
   by_cases h1 : x.toNat < y.toNat
   · have h2 : ¬ y.toNat < x.toNat:=by omega
     rw [decide_eq_true h1,decide_eq_false h2]
     cases up <;> rfl
   · have h2 : y.toNat < x.toNat:=by omega
     rw [decide_eq_false h1,decide_eq_true h2]
     cases up <;> rfl
 · rw [QhM hp,J3 hp]; split <;> rfl
theorem Qnl {b : UInt8} {r : Key} (hk : k = ap ++ b :: r) : gC up (.node ap av ak) k ap = if up then none else av:=by
 unfold gC Q0D
 rw [get_nil,hk,decide_eq_true Qaa]
 cases up <;> rfl
theorem Qnm {b : UInt8} {r : Key} (hk : k = ap ++ b :: r) (c : UInt8) (s : Key) : gC up (.node ap av ak) k (ap ++ c :: s) = if c = b then gC up (ak c) r s else if decide (b.toNat < c.toNat) = up then (ak c).get s else none:=by
 unfold gC
 rw [Z8,hk,decide_eq_decide.2 (D7 ap)]
 split
 · rename_i e
   subst e
   have : Xr (c :: s) (c :: r) ↔ Xr s r:=D7 [c]
   rw [decide_eq_decide.2 this]
 · rename_i e
   have h2 : Xr (c :: s) (b :: r) ↔ c.toNat < b.toNat:=Q2k (c:=[]) e
   have hne : c.toNat ≠ b.toNat:=fun h => e (UInt8.toNat_inj.1 h)
   have h4 : decide (Xr (c :: s) (b :: r)) = decide (c.toNat < b.toNat):=decide_eq_decide.2 h2
   rw [h4]
   unfold Q0D
   by_cases h1 : c.toNat < b.toNat
   · have h3 : ¬ b.toNat < c.toNat:=by omega
     rw [decide_eq_true h1,decide_eq_false h3]
     cases up <;> rfl
   · have h3 : b.toNat < c.toNat:=by omega
     rw [decide_eq_false h1,decide_eq_true h3]
     cases up <;> rfl
theorem Qqt {b : UInt8} {r : Key} (hk : k = ap ++ b :: r) (h : ∀ c,ak c = .nil) (key : Key) : gC up (.node ap av ak) k key = if up then none else (E.node ap av ak).get key:=by
 by_cases hp : ap <+: key
 · obtain ⟨s,rfl⟩:=hp
   cases s with
   | nil => rw [List.append_nil,Qnl hk,get_nil]
   | cons c s =>
     rw [Qnm hk,Z8,h c]
     split
     · rw [Qgj]; cases up <;> rfl
     · split <;> cases up <;> rfl
 · rw [QhM hp,J3 hp]; cases up <;> rfl
end
def Ja (p : Key → Bool) (l : Kv) : Kv:=l.filter fun x => p x.1
theorem Xy (p : Key → Bool) (l : Kv) (k : Key) : look (Ja p l) k = if p k then look l k else none:=by
 induction l with
 | nil => show none = _; split <;> rfl
 | cons x r ih =>
   unfold Ja at ih ⊢
   by_cases e : x.1 = k
   · subst e
     cases hp : p x.1 with
     | true => rw [List.filter_cons_of_pos (p:=fun x : Key × Nat => p x.1) hp]; simp [look]
     | false => rw [List.filter_cons_of_neg (by rw [hp]; simp),ih,hp]; rfl
   · have h1 : look (x :: r) k = look r k:=by simp [look,e]
     rw [h1,← ih]
     cases hp : p x.1 with
     | true => rw [List.filter_cons_of_pos (p:=fun x : Key × Nat => p x.1) hp]; simp [look,e]
     | false => rw [List.filter_cons_of_neg (by rw [hp]; simp)]
theorem UG {p : Key → Bool} {l : Kv} (h : Zp l) : Zp (Ja p l):=List.Pairwise.filter _ h
theorem WK (p : Key → Bool) (l : Kv) : (Ja p l).length ≤ l.length:=List.length_filter_le _ _
theorem Af {p : Key → Bool} {l : Kv} {x : Key × Nat} (h : x ∈ Ja p l) : x ∈ l ∧ p x.1 = true:=by
 unfold Ja at h
 exact List.mem_filter.1 h
theorem UH [Floor] {p : Key → Bool} {l : Kv} (h : Pr l) : Pr (Ja p l):=⟨UG h.rises,fun q hq => h.keys q (Af hq).1,Nat.le_trans (WK p l) h.many⟩
theorem QfB (p : Key → Bool) (l : Kv) (x : Key × Nat) : Ja p (l ++ [x]) = Ja p l ++ if p x.1 then [x] else []:=by
 unfold Ja
 rw [List.filter_append]
 congr 1
 cases h : p x.1 with
 | true => rw [List.filter_cons_of_pos (p:=fun x : Key × Nat => p x.1) h]; rfl
 | false => rw [List.filter_cons_of_neg (by rw [h]; simp)]; rfl
theorem Cc {p : Key → Bool} {l : Kv} (h : ∀ x ∈ l,p x.1 = true) : Ja p l = l:=List.filter_eq_self.2 h
theorem BF {p : Key → Bool} {l : Kv} : Ja p l = [] ↔ ∀ x ∈ l,p x.1 = false:=by
 unfold Ja
 rw [List.filter_eq_nil_iff]
 simp
theorem QfC (p q : Key → Bool) (l : Kv) : Ja p (Ja q l) = Ja (fun k => p k && q k) l:=by
 unfold Ja
 rw [List.filter_filter]
theorem QiK {p : Key → Bool} {l : Kv} (h : Ja (fun k => !p k) l = []) : Ja p l = l:=Cc fun x hx => by
 have:=BF.1 h x hx
 simpa using this
abbrev Q2z (up : Bool) (k : Key) : Key → Bool:=fun key => decide (Xr key k) != up
abbrev Yz (up : Bool) (k : Key) (l : Kv) : Kv:=Ja (Q2z up k) l
theorem QjH (up : Bool) (k : Key) (l : Kv) (key : Key) : look (Yz up k l) key = Q0D up (decide (Xr key k)) (look l key):=Xy _ _ _
def KM (f t : Key) (op : Bool) : Key → Bool:=fun key => !decide (Xr key f) && (op || decide (Xr key t))
theorem Q3K {l m : Kv} : Zp (l ++ m) ↔ Zp l ∧ Zp m ∧ ∀ x ∈ l,∀ y ∈ m,Xr x.1 y.1:=List.pairwise_append
theorem Q6W {l m : Kv} (h : Zp (l ++ m)) : Cz 1 l m = l ++ m:=by
 obtain ⟨hl,hm,hx⟩:=Q3K.1 h
 refine (OE _ _ _).ext h fun k => ?_
 rw [WA hl hm,← VE h,Q3V,VE hl,VE hm]
 cases e1 : look l k with
 | none => cases look m k <;> rfl
 | some x =>
   cases e2 : look m k with
   | none => rfl
   | some y => exact absurd (hx _ (Ez e1) _ (Ez e2)) Ep
theorem Q75 {l : Kv} (h : Zp l) {k : Key} {p : Key × Nat} (hp : (Yz true k l).head? = some p) : p ∈ l ∧ ¬ Xr p.1 k ∧ ∀ x ∈ l,¬ Xr x.1 k → Xr p.1 x.1 ∨ p = x:=by
 cases hl : Yz true k l with
 | nil => rw [hl] at hp; cases hp
 | cons q r =>
   rw [hl] at hp
   obtain rfl:=Option.some.inj hp
   have hr : Zp (q :: r):=hl ▸ UG h
   have hq : q ∈ Yz true k l:=by rw [hl]; simp
   refine ⟨(Af hq).1,by simpa [Q2z] using (Af hq).2,fun x hx hk => hr.first ?_⟩
   rw [← hl]
   exact List.mem_filter.2 ⟨hx,by simpa [Q2z] using hk⟩
end Go.Proofs.YtbnhggfiembejaaGreatDoor
end
section
namespace Go.Proofs.YtbnhggfiembejaaGreatDoor
open Go Go.RowKit X
set_option linter.unusedSimpArgs false
set_option linter.unusedVariables false
set_option linter.unusedSectionVars false
variable [Floor]
theorem QlQ : Oth Yu:=by unfold Oth; decide
abbrev knV (up : Bool) (o : Nat) (mt : Option Y3) : Value:=.agg #[.bool up,.int .u64 o,mv mt]
abbrev knC (up : Bool) (o : Nat) (mt : Option Y3) : List Value:=[.bool up,.int .u64 o,mv mt]
theorem QpB {w : World} {lb : Nat} {cs : List Value} (hb : QZ w lb cs Yu) (hf : Floor.n ≤ lb) : NB w (· = lb):=fun b hb' _ => by
 have e : b = lb:=hb'
 subst e
 exact ⟨hf,_,_,hb,by decide⟩
theorem Tree.QtY {w w' : World} {t : T} {lb : Nat} {cs : List Value} (ht : Tree w t) (hb : QZ w lb cs Yu) (hf : Floor.n ≤ lb) (e : Ext (· = lb) w w') : Tree w' t :=
 Tree.ext e (QpB hb hf) ht fun b hb' h => by
  have e : b = lb:=h
  subst e
  exact ht.not hb QlQ hb'
theorem LO.QtY {w w' : World} {B lb : Nat} {v : Value} {l : List (UInt8 × T)} {cs : List Value} (h : LO w B v l) (hb : QZ w lb cs Yu) (hf : Floor.n ≤ lb) (e : Ext (· = lb) w w') : LO w' B v l:=by
 obtain ⟨cells,h1,h2⟩:=h.row
 exact ⟨⟨cells,h1.ext e fun b hv he => by
  have e : b = lb:=he
  subst e
  exact Own.Qdr h1 hb (by decide) hv,h2⟩,fun p hp => (h.tree p hp).QtY hb hf e⟩
section
variable {w w' w0 : World} {t a : T} {o n n' n1 n2 lb : Nat} {mt : Option Y3} {up : Bool} {kids : UInt8 → T} {h : UInt8 → Key → Option Nat} {d : List UInt8} {l : List (UInt8 × T)} {v : Value} {c : UInt8} {t' : T}
theorem Q6E (ha : Tree w a) (hf : a.er.ZV) (hl : a.ZJ) (hm : Mt w mt n) {b : Bool} {g : Key → Option Nat} (hg : ∀ k,g k = if b = up then a.er.get k else none) : Q6 P V3 [knV up o mt,a.v,.bool b] w fun r w' => ∃ t',r = t'.v ∧ GR w w' a g t' mt n n:=by
 refine Q4G ?_
 refine Qz fun kb w1 hkb hK hz he => ?_
 have hK : QZ w1 kb (knC up o mt) EM:=hK
 refine hK.ld (o:=0) (v:=.bool up) rfl ?_
 by_cases e : b = up
 · subst e
   have : ∀ {K : Value → Prop},K (.bool true) → Qfg (.bool b) (.bool b) K:=fun k => by cases b <;> exact k
   refine this ?_
   exact Qr rfl ⟨a,rfl,(GR.self (ha.Q4 he) hf hl (hm.Q4 he) fun k => by rw [hg,if_pos rfl]).from' he⟩
 · have : ∀ {K : Value → Prop},K (.bool false) → Qfg (.bool b) (.bool up) K:=fun k => by
    cases b <;> cases up <;> first | exact k | exact absurd rfl e
   refine this ?_
   exact Qp rfl ⟨.nil,rfl,(GR.none hf (hm.Q4 he) fun k => by rw [hg,if_neg e]).from' he⟩
theorem QnZ (hV : LG w0 w kids h d l v mt n n1) (hb : QZ w lb [v] Yu) (hlb : w0.heap.size ≤ lb) (hf : Floor.n ≤ w0.heap.size) (hcd : c ∉ d) (hup : ∀ c' ∈ d,c'.toNat < c.toNat) (hne : kids c ≠ .nil) (hd : d.length < 256) (hR : GR w w' (kids c) (h c) t' mt n1 n2) :
  Q6 P VW [bv c,t'.v,rp lb] w' fun _ w3 => ∃ l' v',LG w0 w3 kids h (d ++ [c]) l' v' mt n n2 ∧ QZ w3 lb [v'] Yu ∧ (∀ b cs T,QZ w' b cs T → b < w0.heap.size → T ≠ J5 → QZ w3 b cs T):=by
 refine Q0t ?_
 have hb':=hb.ext hR.ext (hV.cnt.ne hb (by decide))
 by_cases hn : t' = .nil
 · subst hn
   refine Y4 T.nil ?_
   refine Qp rfl ?_
   exact ⟨l,v,hV.skip hcd hne hR,hb',fun b cs T hb _ _ => hb⟩
 · refine WZ hn ?_
   refine Qr rfl ?_
   refine hb'.ld (v:=v) rfl ?_
   have hlo:=hV.lo.YL hV.cnt hR.ext
   have hz:=hV.ext.size
   have hz2:=hR.ext.size
   have hlen:=hV.len
   refine LO.push hlo hf (by omega) hR.cnt (c:=c) (t:=t') hR.tree (by omega) fun v' w4 QzE hm4 htr hex hbl => ?_
   have hb4:=hbl _ _ _ hb' (by decide)
   have hone : v'.oneCell' = true:=by obtain ⟨cells,h1,-⟩:=QzE.row; exact QpK h1
   refine hb4.st (o:=0) (by simp) hone fun w5 hb5 hz5 ZR => ?_
   have hfl : Floor.n ≤ lb:=by omega
   have he04:=hex w0 _ (hV.ext.QI hR.ext) (Nat.le_refl _)
   have hne : ∀ b,MX mt b → ¬ b = lb:=fun b hx e => by subst e; exact hm4.ne hb4 (by decide) hx
   refine ⟨_,v',hV.more hcd hup hn hR (QzE.QtY hb4 hfl ZR) (hm4.ext ZR fun b hb e => hne b hb e) (he04.trans ZR fun b hb e => by have e : b = lb:=e; omega),by simpa using hb5,fun b cs T hb hlt hT => ?_⟩
   have:=hbl _ _ _ hb hT
   exact this.ext ZR (by show ¬ b = lb; omega)
end
end Go.Proofs.YtbnhggfiembejaaGreatDoor
end
section
namespace Go.Proofs.YtbnhggfiembejaaGreatDoor
open Go Go.RowKit X
set_option linter.unusedSimpArgs false
set_option linter.unusedVariables false
set_option linter.unusedSectionVars false
variable [Floor]
def AtS (up : Bool) (o : Nat) (mt : Option Y3) (t : T) : Prop:=∀ {w : World} {k : Key} {kv : Value} {n : Nat},Tree w t → t.er.ZV → t.ZJ → t.er.long ≤ 65535 → Bs w kv k → k.length ≤ 4611686018427387000 → Mt w mt n →
 Q6 P YJ [knV up o mt,t.v,kv] w fun r w' => ∃ t' n',r = t'.v ∧ GR w w' t (gC up t.er k) t' mt n n' ∧ n' ≤ n + t.steps k
theorem Qki {x y : UInt8} {K : Value → Prop} (k : K (.bool (decide (y.toNat < x.toNat)))) : Rn (bv x) (bv y) K:=by
 have e : decide (((x.toNat : Nat) : Int) > (y.toNat : Nat)) = decide (y.toNat < x.toNat):=decide_eq_decide.2 (by omega)
 show K (.bool (decide (((x.toNat : Nat) : Int) > (y.toNat : Nat))))
 rw [e]; exact k
section
variable {w : World} {a ow o n : Nat} {part r k : Key} {val : Option Nat} {ks : List Nat} {kids : UInt8 → T} {mt : Option Y3} {up : Bool} {y : UInt8} {kv : Value}
set_option maxRecDepth 100000 in
theorem QnY (ih : ∀ c,AtS up o mt (kids c)) (ho : o ≠ 0) (ht : Tree w (.node a ow part val ks kids)) (hf : (T.node a ow part val ks kids).er.ZV) (hl : (T.node a ow part val ks kids).ZJ) (hla : (T.node a ow part val ks kids).er.long ≤ 65535) (hks : ks ≠ []) (hk : Bs w kv (y :: r)) (hkl : r.length ≤ 4611686018427387000) (hm : Mt w mt n) :
  Q6 P Ul [knV up o mt,(T.node a ow part val ks kids).v,kv] w fun q w' => ∃ t' n',q = t'.v ∧ GR w w' (.node a ow part val ks kids) (gC up (T.node a ow part val ks kids).er (part ++ y :: r)) t' mt n n' ∧ n' ≤ n + (kids y).steps r + 1:=by
 have hgv : gC up (T.node a ow part val ks kids).er (part ++ y :: r) part = if up then none else val:=Qnl rfl
 have hgk : ∀ c s,gC up (T.node a ow part val ks kids).er (part ++ y :: r) (part ++ c :: s) = if c = y then gC up (kids c).er r s else if decide (y.toNat < c.toNat) = up then (kids c).er.get s else none:=fun c s => Qnm rfl c s
 have hgn : ∀ k,¬ part <+: k → gC up (T.node a ow part val ks kids).er (part ++ y :: r) k = none:=fun k hk => QhM hk
 have hva : val.getD 0 < 18446744073709551616:=ht.v64
 refine Q38 ?_
 refine Qz fun kb w1 hkb hK hz1 he1 => ?_
 have hK : QZ w1 kb (knC up o mt) EM:=hK
 refine Qz fun lb w2 hlb hL hz2 he2 => ?_
 have hL : QZ w2 lb [.slice none 0 0] Yu:=hL
 have hE2:=he1.Q0 he2
 refine (WS (ht.Q4 hE2) (i:=0) (by omega)).mono ?_
 rintro _ w7 ⟨rfl,Yy⟩
 rw [show Vx (ptrs (T.node a ow part val ks kids).kid) 0 = .tuple #[nxB (dom (ptrs kids)),nxP (ptrs kids) (dom (ptrs kids))] from YZ (VI _)]
 have BA:=hE2.Q0 Yy
 have h17:=he2.Q0 Yy
 have hm1:=hm.Q4 he1
 have hm7:=hm.Q4 BA
 have hfl : Floor.n ≤ w1.heap.size:=hm1.fl
 have ht1:=ht.Q4 he1
 have hk1:=hk.Q4 he1
 refine JN (fun nn vs w' => ∃ (d rest : List UInt8) (l : List (UInt8 × T)) (v : Value) (n1 : Nat),vs = [nxP (ptrs kids) rest,nxB rest] ∧ nn = rest.length ∧ dom (ptrs kids) = d ++ rest ∧ LG w1 w' kids (fun c s => gC up (T.node a ow part val ks kids).er (part ++ y :: r) (part ++ c :: s)) d l v mt n n1 ∧ QZ w' lb [v] Yu ∧ QZ w' kb (knC up o mt) EM ∧ n1 ≤ n + (kids y).steps r ∧ (y ∉ d → n1 = n)) (dom (ptrs kids)).length
  ⟨[],_,[],_,n,rfl,rfl,rfl,LG.nil hm7 (h17.mono fun _ _ h => h.elim),hL.ext Yy fun h => h,hK.ext h17 fun h => h,by omega,fun _ => rfl⟩ ?_
 rintro nn vs g0 w8 ⟨d,rest,l,v,n1,rfl,rfl,hdr,hV,hL8,hK8,hn1,Qzy⟩
 unfold F7
 have Si:=hV.cnt
 have hz8:=hV.ext.size
 have ht8:=ht1.YL hm1 hV.ext
 have hk8:=hk1.ext hV.ext hm1.nb
 have hrise : Eg (d ++ rest):=hdr ▸ Xl _
 have hdl : (dom (ptrs kids)).length ≤ 256:=BR _
 have QzI : w1.heap.size ≤ lb:=by omega
 have QzR : kb < w1.heap.size:=by omega
 cases rest with
 | cons c rest =>
   have hcd : c ∈ dom (ptrs kids):=by rw [hdr]; simp
   have hkn : kids c ≠ .nil:=fun e => by
    have : (kids c).ptr.isSome = true:=Zd.1 hcd
    rw [e] at this; cases this
   have hlt : ∀ c' ∈ d,c'.toNat < c.toNat:=fun c' hc' => (List.pairwise_append.1 hrise).2.2 c' hc' c (by simp)
   have hcn : c ∉ d:=fun h => by have:=hlt c h; omega
   have QuZ : d.length + (rest.length + 1) ≤ 256:=by rw [hdr] at hdl; simpa using hdl
   have hlk:=Vd (a:=a) (ow:=ow) (part:=part) (val:=val) (ks:=ks) hcd
   refine WZ (t:=kids c) hkn ?_
   refine Qr rfl ?_
   have hd8:=Ext.drew (Ext.refl No w8)
   refine xj (fun vs w' => ∃ (l' : List (UInt8 × T)) (v' : Value) (n2 : Nat),LG w1 w' kids (fun c s => gC up (T.node a ow part val ks kids).er (part ++ y :: r) (part ++ c :: s)) (d ++ [c]) l' v' mt n n2 ∧ QZ w' lb [v'] Yu ∧ QZ w' kb (knC up o mt) EM ∧ n2 ≤ n + (kids y).steps r ∧ (y ∉ d ++ [c] → n2 = n)) ?_ ?_
   · refine hk8.rd 0 (by simp) rfl ?_
     refine Vu (fun h => ?_) fun h => ?_
     · have h : ((c.toNat : Nat) : Int) = (y.toNat : Nat):=h
       have hcy : c = y:=UInt8.toNat_inj.1 (by omega)
       subst hcy
       refine hK8.drew.JH rfl ?_
       refine (hk8.Q4 hd8).drop 1 rfl (by simp) fun kv' Q0g => ?_
       refine Q6.mono (show Q6 P YJ [knV up o mt,(kids c).v,kv'] w8.drew _ from ih c ((ht8.Q4 hd8).2 c) (hf.2 c) (hl.2 c) (by omega) Q0g hkl (Si.Q4 hd8)) ?_
       rintro _ w9 ⟨t',n2,rfl,hR,hle⟩
       have hle : n2 ≤ n1 + (kids c).steps r:=hle
       have Re:=(hR.from' hd8).congr (g':=fun s => gC up (T.node a ow part val ks kids).er (part ++ c :: r) (part ++ c :: s)) fun s => by rw [hgk,if_pos rfl]; rfl
       refine MF ?_
       refine XT (by kernel_rfl) ?_
       refine Q6.mono (show Q6 P VW [bv c,t'.v,rp lb] w9 _ from QnZ (h:=fun c' s => gC up (T.node a ow part val ks kids).er (part ++ c :: r) (part ++ c' :: s)) hV hL8 QzI hfl hcn hlt hkn (by omega) Re) ?_
       rintro _ Dn ⟨l',v',hV',hL',hkeep⟩
       have hK9:=hK8.ext Re.ext (Si.ne hK8 (by decide))
       have h0:=Qzy hcn
       exact ⟨l',v',n2,hV',hL',hkeep _ _ _ hK9 QzR (by decide),by omega,fun hn => absurd (by simp) hn⟩
     · have hcy : c ≠ y:=fun e => h (by rw [e]; rfl)
       refine hK8.drew.JH rfl ?_
       refine (hk8.Q4 hd8).rd 0 (by simp) rfl ?_
       refine Qki ?_
       refine (Q6E (a:=kids c) (b:=decide (y.toNat < c.toNat)) ((ht8.Q4 hd8).2 c) (hf.2 c) (hl.2 c) (Si.Q4 hd8) (g:=fun s => gC up (T.node a ow part val ks kids).er (part ++ y :: r) (part ++ c :: s)) fun s => by rw [hgk,if_neg hcy]).mono ?_
       rintro _ w9 ⟨t',rfl,hR⟩
       have Re:=hR.from' hd8
       refine MF ?_
       refine XT (by kernel_rfl) ?_
       refine Q6.mono (show Q6 P VW [bv c,t'.v,rp lb] w9 _ from QnZ (h:=fun c' s => gC up (T.node a ow part val ks kids).er (part ++ y :: r) (part ++ c' :: s)) hV hL8 QzI hfl hcn hlt hkn (by omega) Re) ?_
       rintro _ Dn ⟨l',v',hV',hL',hkeep⟩
       have hK9:=hK8.ext Re.ext (Si.ne hK8 (by decide))
       exact ⟨l',v',n1,hV',hL',hkeep _ _ _ hK9 QzR (by decide),hn1,fun hn => Qzy fun h => hn (by simp [h])⟩
   rintro vs g1 w9 ⟨l',v',n2,hV9,hL9,hK9,hn2,hn2y⟩
   have hcb:=MV c
   refine xi (r:=(c.toNat : Int)) (QQ (by omega)) ?_
   refine xi (r:=((c.toNat + 1 : Nat) : Int)) (by rw [QQ (by omega)]; omega) ?_
   refine (WS (ht1.YL hm1 hV9.ext) (i:=c.toNat + 1) (by omega)).mono ?_
   rintro _ Dn ⟨rfl,J9⟩
   rw [show Vx (ptrs (T.node a ow part val ks kids).kid) (c.toNat + 1) = .tuple #[nxB rest,nxP (ptrs kids) rest] from YZ (UI hdr)]
   exact JP rest.length (by simp) ⟨d ++ [c],rest,l',v',n2,rfl,rfl,by rw [hdr]; simp,hV9.Q4 J9,hL9.ext J9 fun h => h,hK9.ext J9 fun h => h,hn2,hn2y⟩
 | nil =>
   rw [List.append_nil] at hdr
   refine Y4 T.nil ?_
   refine Qp rfl ?_
   have h0 : ∀ c,c ∉ d → ∀ k,gC up (T.node a ow part val ks kids).er (part ++ y :: r) (part ++ c :: k) = none:=fun c hc k => by
    have hk : kids c = .nil:=T.Ff fun hq => hc (by rw [← hdr]; exact Zd.2 hq)
    rw [hgk,hk]
    split
    · exact Qgj
    · split <;> rfl
   have hsub : ∀ c k v,gC up (T.node a ow part val ks kids).er (part ++ y :: r) (part ++ c :: k) = some v → ∃ y,(kids c).er.get k = some y:=fun c k v h => by
    obtain ⟨z,hz⟩:=Qqs h
    have h9 : (T.node a ow part val ks kids).er.get (part ++ c :: k) = (kids c).er.get k:=Z8
    exact ⟨z,by rw [← h9]; exact hz⟩
   have hLk:=hV.lk (by rw [← hdr]; exact hdl)
   refine (Cj ht8).mono ?_
   rintro _ w9 ⟨rfl,rfl⟩
   have fin : ∀ (bx : Bool),bx = (if up then none else val).isSome → Q6 P BN [(T.node a ow part val ks kids).v,.bool bx,.int .u64 (val.getD 0),v,.int .u64 o,mv mt] w9 fun q w' => ∃ t' n',q = .tuple #[t'.v,.int .i64 0] ∧ GR w w' (.node a ow part val ks kids) (gC up (T.node a ow part val ks kids).er (part ++ y :: r)) t' mt n n' ∧ n' ≤ n + (kids y).steps r + 1:=fun bx hbx => by
    subst hbx
    refine (QgN (val:=if up then none else val) ht8 hks hf hl hLk (fun q hq => (hV.sm q hq).2.1) (fun y hy => by cases up with | true => cases hy | false => have hy : val = some y:=hy; rw [hy]; rfl) hva ho Si (hV.lens hdr hsub hla)).mono ?_
    rintro _ Dn ⟨t',n',rfl,hR,hid⟩
    have hle:=hR.le
    exact ⟨t',n',rfl,(hV.fin hdr h0 hgv (fun c r => rfl) hgn hR hid).from' he1,by omega⟩
   refine xj (fun vs w' => ∃ t' n',∃ z : Value,vs = [t'.v,z] ∧ GR w w' (.node a ow part val ks kids) (gC up (T.node a ow part val ks kids).er (part ++ y :: r)) t' mt n n' ∧ n' ≤ n + (kids y).steps r + 1) ?_ ?_
   · cases val with
     | none =>
       refine Qp rfl ?_
       refine hL8.ld (v:=v) rfl ?_
       refine hK8.ld (o:=1) (v:=.int .u64 o) rfl ?_
       refine hK8.ld (o:=2) (v:=mv mt) rfl ?_
       refine (fin false (by cases up <;> rfl)).mono ?_
       rintro _ Dn ⟨t',n',rfl,hR⟩
       exact ⟨t',n',_,rfl,hR⟩
     | some z =>
       refine Qr rfl ?_
       refine hK8.ld (o:=0) (v:=.bool up) rfl ?_
       refine hL8.ld (v:=v) rfl ?_
       refine hK8.ld (o:=1) (v:=.int .u64 o) rfl ?_
       refine hK8.ld (o:=2) (v:=mv mt) rfl ?_
       refine (fin (!up) (by cases up <;> rfl)).mono ?_
       rintro _ Dn ⟨t',n',rfl,hR⟩
       exact ⟨t',n',_,rfl,hR⟩
   · rintro vs g1 Dn ⟨t',n',z,rfl,hR⟩
     exact ⟨t',n',rfl,hR⟩
set_option maxRecDepth 100000 in
theorem QBH (ho : o ≠ 0) : ∀ t : T,AtS up o mt t:=by
 intro t
 induction t with
 | nil =>
   intro w k kv n ht hf hl hla hk hkl hm
   refine Tg ?_
   refine Qz fun kb w1 hkb hK hz1 he1 => ?_
   refine Ka T.nil ?_
   refine Qr rfl ?_
   exact ⟨.nil,n,rfl,(GR.none hf (hm.Q4 he1) fun k => Qgj).from' he1,by omega⟩
 | node a ow part val ks kids ih =>
   intro w k kv n ht hf hl hla hk hkl hm
   have hsa:=ht.1.short
   refine Tg ?_
   refine Qz fun kb w1 hkb hK hz1 he1 => ?_
   have hK : QZ w1 kb (knC up o mt) EM:=hK
   refine Vn (t:=.node a ow part val ks kids) (by simp) ?_
   refine Qp rfl ?_
   refine (XA (ht.Q4 he1)).mono ?_
   rintro pv w2 ⟨hpv,he2⟩
   have hpv : Bs w2 pv part:=hpv
   have hE2:=he1.Q0 he2
   refine (Hl hpv (hk.Q4 hE2) (by omega) (by omega)).mono ?_
   rintro _ w3 ⟨rfl,QE⟩
   have h13:=he2.Q0 QE
   have JD:=hE2.Q0 QE
   have ht3:=ht.Q4 JD
   have hk3:=hk.Q4 JD
   have hp3:=hpv.Q4 QE
   have Dw:=hm.Q4 JD
   have hK3:=hK.ext h13 fun h => h
   obtain ⟨c,q,r,ha0,hb0,hc0,hdf⟩:=Yf part k
   rw [← hc0]
   have OX : part.length = c.length + q.length:=by rw [ha0,List.length_append]
   have Rb : k.length = c.length + r.length:=by rw [hb0,List.length_append]
   refine hk3.len ?_
   cases r with
   | nil =>
     rw [List.append_nil] at hb0
     simp at Rb
     refine Vu (fun _ => ?_) fun h => absurd (by omega) h
     refine hK3.JH rfl ?_
     refine (Q6E (a:=.node a ow part val ks kids) (b:=true) ht3 hf hl Dw (g:=gC up (T.node a ow part val ks kids).er k) fun key => ?_).mono ?_
     · rw [show gC up (T.node a ow part val ks kids).er k key = if up then (E.node part val fun c => (kids c).er).get key else none from Qvp (by rw [ha0,hb0]) key]
       cases up <;> rfl
     rintro _ w4 ⟨t',rfl,hR⟩
     exact ⟨t',n,rfl,hR.from' JD,by omega⟩
   | cons y r' =>
     simp at Rb
     refine Vu (fun h => absurd h (by omega)) fun _ => ?_
     refine hp3.len ?_
     have hy : k[c.length]? = some y:=by rw [hb0]; simp
     obtain ⟨hyl,hye⟩:=List.getElem?_eq_some_iff.1 hy
     cases q with
     | cons x q' =>
       simp at OX
       refine ZF (fun _ => ?_) fun h => absurd (by omega) h
       have hx : part[c.length]? = some x:=by rw [ha0]; simp
       obtain ⟨hxl,hxe⟩:=List.getElem?_eq_some_iff.1 hx
       have hd3:=Ext.drew (Ext.refl No w3)
       refine hK3.drew.JH rfl ?_
       refine (hp3.Q4 hd3).rd c.length hxl rfl ?_
       refine (hk3.Q4 hd3).rd c.length hyl rfl ?_
       rw [hxe,hye]
       refine Qki ?_
       refine (Q6E (a:=.node a ow part val ks kids) (b:=decide (y.toNat < x.toNat)) (ht3.Q4 hd3) hf hl (Dw.Q4 hd3) (g:=gC up (T.node a ow part val ks kids).er k) fun key => Qqu ha0 hb0 (hdf x y q' r' rfl rfl) key).mono ?_
       rintro _ w4 ⟨t',rfl,hR⟩
       exact ⟨t',n,rfl,hR.from' (JD.Q0 hd3),by omega⟩
     | nil =>
       rw [List.append_nil] at ha0
       simp at OX
       subst ha0
       refine ZF (fun h => absurd h (by omega)) fun _ => ?_
       refine (Hg ht3).mono ?_
       rintro _ w4 ⟨rfl,rfl⟩
       by_cases hks : ks = []
       · refine Qr (by show (((Yx ks (ptrs kids) : Nat) : Int) == 1) = true; unfold Yx; rw [if_pos hks]; rfl) ?_
         refine hK3.JH rfl ?_
         refine (Q6E (a:=.node a ow part val ks kids) (b:=false) ht3 hf hl Dw (g:=gC up (T.node a ow part val ks kids).er k) fun key => ?_).mono ?_
         · rw [show gC up (T.node a ow part val ks kids).er k key = if up then none else (E.node part val fun c => (kids c).er).get key from Qqt hb0 (fun c => Q02 hl hks c) key]
           cases up <;> rfl
         rintro _ w5 ⟨t',rfl,hR⟩
         exact ⟨t',n,rfl,hR.from' JD,by omega⟩
       · refine Qp (beq_eq_false_iff_ne.2 (Q7k hks)) ?_
         have hd3:=Ext.drew (Ext.refl No w4)
         refine hK3.drew.JH rfl ?_
         refine (hk3.Q4 hd3).drop part.length rfl (by omega) fun kv' Q0g => ?_
         have hkd : k.drop part.length = y :: r':=by rw [hb0,List.drop_left]
         rw [hkd] at Q0g
         refine Q6.mono (show Q6 P Ul [knV up o mt,(T.node a ow part val ks kids).v,kv'] w4.drew _ from QnY (up:=up) (y:=y) (r:=r') (fun c => ih c) ho (ht3.Q4 hd3) hf hl hla hks Q0g (by omega) (Dw.Q4 hd3)) ?_
         rintro _ w5 ⟨t',n',rfl,hR,hle⟩
         refine ⟨t',n',rfl,?_,?_⟩
         · rw [hb0]; exact hR.from' (JD.Q0 hd3)
         · rw [T.DF,if_pos (by rw [hb0]; exact List.prefix_append _ _),hkd]
           show n' ≤ n + ((kids y).steps r' + 1)
           omega
end
end Go.Proofs.YtbnhggfiembejaaGreatDoor
end
end
section
section
namespace Go.Proofs.YtbnhggfiembejaaGreatDoor
open Go Go.RowKit X
set_option linter.unusedSimpArgs false
set_option linter.unusedVariables false
set_option linter.unusedSectionVars false
def D9 (kids : UInt8 → T) (W : Key) (cs : List UInt8) : Kv:=cs.flatMap fun c => (kids c).er.list (W ++ [c])
theorem Qab {kids : UInt8 → T} {W : Key} : D9 kids W [] = []:=rfl
theorem Q7n {kids : UInt8 → T} {W : Key} {c : UInt8} {cs : List UInt8} : D9 kids W (c :: cs) = (kids c).er.list (W ++ [c]) ++ D9 kids W cs:=List.flatMap_cons
theorem QiY {kids : UInt8 → T} {W : Key} {cs ds : List UInt8} : D9 kids W (cs ++ ds) = D9 kids W cs ++ D9 kids W ds:=List.flatMap_append
theorem Nb {a ow : Nat} {part : Key} {val : Option Nat} {ks : List Nat} {kids : UInt8 → T} {way : Key} : (T.node a ow part val ks kids).er.list way = Q1m (way ++ part) val ++ D9 kids (way ++ part) (dom (ptrs kids)):=by
 show (E.node part val fun c => (kids c).er).list way = _
 rw [E.list]
 have e : dom (fun c => ((kids c).er).opt) = dom (ptrs kids):=X.Q48 fun c => T.WQ (kids c)
 rw [e]
 rfl
theorem Q2g {t : T} (hf : t.er.ZV) (h : t ≠ .nil) (W : Key) : t.er.list W ≠ []:=by
 obtain ⟨k,v,hk⟩:=E.Nj hf (by cases t with | nil => exact absurd rfl h | node => simp [T.er])
 have:=E.Qa9 (e:=t.er) (w:=W) (r:=k)
 intro e
 rw [e,hk] at this
 cases this
theorem Q46 {kids : UInt8 → T} {c : UInt8} (h : c ∈ dom (ptrs kids)) : kids c ≠ .nil:=fun e => by
 have h2 : (kids c).ptr.isSome = true:=Zd.1 h
 rw [e] at h2
 cases h2
theorem Q7m {kids : UInt8 → T} {W : Key} {c : UInt8} {cs : List UInt8} (hf : (kids c).er.ZV) (h : kids c ≠ .nil) : (D9 kids W (c :: cs)).head? = ((kids c).er.list (W ++ [c])).head?:=by
 rw [Q7n]
 cases hl : (kids c).er.list (W ++ [c]) with
 | nil => exact absurd hl (Q2g hf h _)
 | cons x r => rfl
theorem QfY {kids : UInt8 → T} {W : Key} {c : UInt8} {cs : List UInt8} (hf : (kids c).er.ZV) (h : kids c ≠ .nil) : (D9 kids W (cs ++ [c])).getLast? = ((kids c).er.list (W ++ [c])).getLast?:=by
 rw [QiY,Q7n,Qab,List.append_nil]
 rw [List.getLast?_append]
 cases hl : (kids c).er.list (W ++ [c]) with
 | nil => exact absurd hl (Q2g hf h _)
 | cons x r => rw [List.getLast?_cons]; rfl
section
variable {a ow : Nat} {part way : Key} {val : Option Nat} {ks : List Nat} {kids : UInt8 → T}
theorem Qdn {p : Key × Nat} (h : p ∈ (T.node a ow part val ks kids).er.list way) : way ++ part <+: p.1:=by
 rw [Nb] at h
 rcases List.mem_append.1 h with h | h
 · cases val with
   | none => cases h
   | some v => rw [Q1m,List.mem_singleton] at h; rw [h]; exact List.prefix_refl _
 · obtain ⟨c,-,h⟩:=List.mem_flatMap.1 h
   exact (List.prefix_append _ _).trans (E.VF h)
theorem Qm0 (hf : (T.node a ow part val ks kids).er.ZV) (h : val = none) : dom (ptrs kids) ≠ []:=by
 have h1 : if cnt (fun c => ((kids c).er).opt) = 0 then val.isSome = true else 2 ≤ cnt (fun c => ((kids c).er).opt) + one val:=hf.1
 have e0 : cnt (fun c => ((kids c).er).opt) = cnt (ptrs kids):=X.WR fun c => T.WQ (kids c)
 rw [e0,h] at h1
 intro e
 have : cnt (ptrs kids) = 0:=by show (dom _).length = 0; rw [e]; rfl
 rw [if_pos this] at h1
 cases h1
abbrev upL (e : E) (way k : Key) : Kv:=Yz true (way ++ k) (e.list way)
theorem Xm {k key : Key} : Q2z true k key = !decide (Xr key k):=by
 unfold Q2z
 cases decide (Xr key k) <;> rfl
theorem Qhu {k : Key} (h : ∀ s : Key,¬ Xr (part ++ s) k) : upL (T.node a ow part val ks kids).er way k = (T.node a ow part val ks kids).er.list way:=Cc fun x hx => by
 obtain ⟨s,hs⟩:=Qdn hx
 rw [Xm,← hs,List.append_assoc,decide_eq_decide.2 (D7 way),decide_eq_false (h s)]
 rfl
theorem Qlk {k : Key} (h : ∀ s : Key,Xr (part ++ s) k) : upL (T.node a ow part val ks kids).er way k = []:=BF.2 fun x hx => by
 obtain ⟨s,hs⟩:=Qdn hx
 rw [Xm,← hs,List.append_assoc,decide_eq_decide.2 (D7 way),decide_eq_true (h s)]
 rfl
theorem Qgl {α : Type} {b : UInt8} {U : List α} {F G : UInt8 → List α} : ∀ {cs : List UInt8},Eg cs → (∀ c,c.toNat < b.toNat → F c = []) → F b = U → (∀ c,b.toNat < c.toNat → F c = G c) →
  cs.flatMap F = (if b ∈ cs then U else []) ++ (cs.filter fun c => decide (b.toNat + 1 ≤ c.toNat)).flatMap G:=by
 intro cs
 induction cs with
 | nil => intro _ _ _ _; rfl
 | cons c cs ih =>
   intro hr h1 h2 h3
   obtain ⟨hc,hr'⟩:=List.pairwise_cons.1 hr
   rw [List.flatMap_cons,ih hr' h1 h2 h3]
   rcases Nat.lt_trichotomy c.toNat b.toNat with h | h | h
   · rw [h1 c h,List.filter_cons_of_neg (by simp; omega)]
     have : (b ∈ c :: cs) ↔ b ∈ cs:=by
      constructor
      · intro hb
        rcases List.mem_cons.1 hb with rfl | hb
        · omega
        · exact hb
      · exact fun hb => List.mem_cons_of_mem _ hb
     simp [this]
   · have e : c = b:=UInt8.toNat_inj.1 h
     subst e
     have hn : c ∉ cs:=fun hb => by have:=hc c hb; omega
     rw [List.filter_cons_of_neg (by simp),if_neg hn,if_pos (by simp),h2]
     simp
   · have hn : b ∉ cs:=fun hb => by have:=hc b hb; omega
     have hn2 : b ∉ c :: cs:=fun hb => by
      rcases List.mem_cons.1 hb with rfl | hb
      · omega
      · exact hn hb
     rw [List.filter_cons_of_pos (by simp; omega),if_neg hn,if_neg hn2,List.flatMap_cons,h3 c h]
     simp
theorem QfD (p : Key → Bool) (f : UInt8 → Kv) (cs : List UInt8) : Ja p (cs.flatMap f) = cs.flatMap fun c => Ja p (f c):=by
 induction cs with
 | nil => rfl
 | cons c cs ih =>
   rw [List.flatMap_cons,List.flatMap_cons,← ih]
   unfold Ja
   rw [List.filter_append]
theorem Qpv {b : UInt8} {r : Key} : upL (T.node a ow part val ks kids).er way (part ++ b :: r) = upL (kids b).er (way ++ part ++ [b]) r ++ D9 kids (way ++ part) ((dom (ptrs kids)).filter fun c => decide (b.toNat + 1 ≤ c.toNat)):=by
 show Ja _ _ = _
 rw [Nb]
 have h1 : Ja (Q2z true (way ++ (part ++ b :: r))) (Q1m (way ++ part) val) = []:=BF.2 fun x hx => by
  cases val with
  | none => cases hx
  | some v =>
    rw [Q1m,List.mem_singleton] at hx
    rw [hx,Xm,← List.append_assoc,decide_eq_true Qaa]
    rfl
 have h2 : ∀ l m : Kv,∀ p,Ja p (l ++ m) = Ja p l ++ Ja p m:=fun l m p => by unfold Ja; rw [List.filter_append]
 have hk : way ++ (part ++ b :: r) = (way ++ part) ++ b :: r:=by simp
 rw [h2,h1,List.nil_append]
 unfold D9
 rw [QfD,Qgl (b:=b) (U:=upL (kids b).er (way ++ part ++ [b]) r) (G:=fun c => (kids c).er.list (way ++ part ++ [c])) (Xl _)]
 · split
   · rfl
   · rename_i hb
     have : kids b = .nil:=T.Ff fun hq => hb (Zd.2 hq)
     rw [this]
     rfl
 · intro c hc
   refine BF.2 fun x hx => ?_
   obtain ⟨s,hs⟩:=E.VF hx
   have e1 : way ++ part ++ [c] ++ s = (way ++ part) ++ c :: s:=by simp
   rw [Xm,← hs,hk,e1,decide_eq_decide.2 (D7 _),decide_eq_true (Sc hc)]
   rfl
 · show Ja _ _ = Ja _ _
   rw [hk,show way ++ part ++ [b] ++ r = way ++ part ++ b :: r by simp]
 · intro c hc
   refine Cc fun x hx => ?_
   obtain ⟨s,hs⟩:=E.VF hx
   have e1 : way ++ part ++ [c] ++ s = (way ++ part) ++ c :: s:=by simp
   rw [Xm,← hs,hk,e1,decide_eq_decide.2 (D7 _),decide_eq_false (Q2l (Sc hc))]
   rfl
theorem Qb6 (m : UInt8 → Option Addr) (i : Nat) : Wd m i = ((dom m).filter fun c => decide (i ≤ c.toNat)).head?:=by
 unfold Wd
 rw [List.head?_filter]
end
end Go.Proofs.YtbnhggfiembejaaGreatDoor
end
section
namespace Go.Proofs.YtbnhggfiembejaaGreatDoor
open Go Go.RowKit X
set_option linter.unusedSimpArgs false
set_option linter.unusedVariables false
set_option linter.unusedSectionVars false
theorem QnE {α : Type} {m : UInt8 → Option α} {c : UInt8} (hc : (m c).isSome = true) (h : ∀ d : UInt8,c.toNat < d.toNat → m d = none) : (dom m).getLast? = some c:=by
 have hm : c ∈ dom m:=Zd.2 hc
 obtain ⟨x,hx⟩ : ∃ x,(dom m).getLast? = some x:=by
  cases hl : (dom m).getLast? with
  | none => rw [List.getLast?_eq_none_iff] at hl; rw [hl] at hm; cases hm
  | some x => exact ⟨x,rfl⟩
 rw [hx]
 have hxm : x ∈ dom m:=List.mem_of_getLast? hx
 obtain ⟨r,hr⟩ : ∃ r,dom m = r ++ [x]:=by
  rw [List.getLast?_eq_some_iff] at hx
  obtain ⟨r,hr⟩:=hx
  exact ⟨r,hr⟩
 have hrise:=Xl m
 rw [hr] at hm hrise
 rcases List.mem_append.1 hm with hm | hm
 · have h1:=(List.pairwise_append.1 hrise).2.2 c hm x (by simp)
   have h2:=h x h1
   have h3:=Zd.1 hxm
   rw [h2] at h3
   cases h3
 · rw [List.mem_singleton.1 hm]
def MW (m : UInt8 → Option Addr) : Value :=
 match (dom m).getLast? with
 | some c => .tuple #[bv c,.pointer (m c),.bool true]
 | none => .tuple #[.int .u8 0,.pointer none,.bool false]
theorem Q4Y (m : UInt8 → Option Addr) : ∃ x y z,MW m = .tuple #[x,y,z]:=by
 unfold MW
 cases (dom m).getLast? <;> exact ⟨_,_,_,rfl⟩
section
variable {w : World} {rb room : Nat} {l : List (UInt8 × Addr)}
theorem QjW {z : Int} (h : Row w rb room l) (hz : z < 0) : Q6 P UM [rp rb,.int .i64 z] w fun v w' => v = .tuple #[.int .u8 0,.pointer none,.bool false] ∧ Ext No w w':=by
 refine SV ?_
 refine xjd ?_
 refine ZF (fun hn => ?_) fun hn => absurd hz hn
 intro g
 exact Qr rfl ⟨rfl,Ext.refl _ _⟩
theorem QjS (h : Row w rb room l) : Q6 P DL [rp rb,.int .i64 255] w fun v w' => v = MW (Sb l) ∧ Ext No w w':=by
 refine Q4j ?_
 refine xjd ?_
 refine (IB h).mono ?_
 rintro v w' ⟨rfl,rfl⟩ g
 refine ZF (fun hgt => absurd hgt (by omega)) fun hle => ?_
 refine xi (r:=((255 : Nat) : Int)) (by decide) ?_
 rw [Q82 (by omega)]
 refine (Hf h).mono ?_
 rintro v w1 ⟨j,rfl,hat,rfl⟩
 have h16:=h.Q2i
 have hjl : j ≤ l.length:=by have:=hat.le; simpa using this
 have hbs : (dom (Sb l)) = l.map (·.1):=Qb8 h.rise
 have hrise : Eg (l.map (·.1)):=by rw [← hbs]; exact Xl _
 by_cases e : (l.map (·.1))[j]? = some (UInt8.ofNat 255)
 · refine xjd ?_
   rw [decide_eq_true e]
   refine Qp rfl ?_
   intro g
   obtain ⟨hj,hje⟩:=List.getElem?_eq_some_iff.1 e
   have hj' : j < l.length:=by simpa using hj
   have hlast : j + 1 = l.length:=by
    rcases Nat.lt_or_ge (j + 1) l.length with hlt | hge
    · have h2:=hat.hi (j + 1) ((l.map (·.1))[j + 1]'(by simpa using hlt)) (by omega) (List.getElem?_eq_getElem (by simpa using hlt))
      have h3:=List.pairwise_iff_getElem.1 hrise j (j + 1) hj (by simpa using hlt) (by omega)
      rw [hje] at h3
      have h4:=((l.map (·.1))[j + 1]'(by simpa using hlt)).toNat_lt
      have h5 : (UInt8.ofNat 255).toNat = 255:=by decide
      omega
    · omega
   refine (QbQ h.drew (i:=j)).mono ?_
   rintro v w2 ⟨rfl,he⟩
   have hx : Ext No w' w2:=(Ext.refl No w').drew.Q0 he
   rw [List.getElem?_eq_getElem hj']
   refine ⟨?_,hx⟩
   unfold MW
   rw [hbs,List.getLast?_eq_getElem?,List.length_map,show l.length - 1 = j by omega,List.getElem?_map,List.getElem?_eq_getElem hj']
   simp [Q7h h.rise hj']
 · have hj0 : j = l.length:=by
    rcases Nat.lt_or_ge j l.length with hlt | hge
    · exfalso
      have hq : (l.map (·.1))[j]? = some l[j].1:=by rw [List.getElem?_map,List.getElem?_eq_getElem hlt]; rfl
      have h2:=hat.hi j l[j].1 (by omega) hq
      have h4:=(l[j].1).toNat_lt
      have h5 : (UInt8.ofNat 255).toNat = 255:=by decide
      refine e ?_
      rw [hq]
      congr 1
      exact UInt8.toNat_inj.1 (by omega)
    · omega
   refine xjd ?_
   rw [decide_eq_false e]
   refine Qr rfl ?_
   refine xi (r:=(j : Int) - 1) (by rw [QQ (by omega)]) ?_
   intro g
   rcases Nat.eq_zero_or_pos j with h0 | h0
   · refine (QjW h.drew (z:=(j : Int) - 1) (by omega)).mono ?_
     rintro v w2 ⟨rfl,he⟩
     have hx : Ext No w' w2:=(Ext.refl No w').drew.Q0 he
     refine ⟨?_,hx⟩
     have : l = []:=List.eq_nil_of_length_eq_zero (by omega)
     subst this
     unfold MW
     rw [hbs]; rfl
   · rw [show (j : Int) - 1 = ((j - 1 : Nat) : Int) by omega]
     refine (QbQ h.drew (i:=j - 1)).mono ?_
     rintro v w2 ⟨rfl,he⟩
     have hx : Ext No w' w2:=(Ext.refl No w').drew.Q0 he
     have hj' : j - 1 < l.length:=by omega
     rw [List.getElem?_eq_getElem hj']
     refine ⟨?_,hx⟩
     unfold MW
     rw [hbs,List.getLast?_eq_getElem?,List.length_map,show l.length - 1 = j - 1 by omega,List.getElem?_map,List.getElem?_eq_getElem hj']
     simp [Q7h h.rise hj']
end
section
variable {w : World} {bb room n : Nat} {xv fv : Value} {a : UInt8 → Nat} {xs : List (Option Addr)} {fs : List Nat} {m : UInt8 → Option Addr}
set_option maxRecDepth 100000 in
theorem Qk2 (h : VS w bb room n xv fv a xs fs) (hi : Fx room n a xs fs m) : Q6 P CJ [rp bb,.int .i64 255] w fun v w' => v = MW m ∧ Ext No w w':=by
 refine Q2S ?_
 refine xjd ?_
 refine (IC h hi.pos).mono ?_
 rintro v w' ⟨rfl,rfl⟩
 refine Qr rfl ?_
 refine JN (fun nn vs w1 => ∃ (x y : Value),vs = [.int .i64 ((nn : Int) - 1),x,y,.int .u8 0,.pointer none,.bool false] ∧ nn ≤ 256 ∧ (∀ c : UInt8,nn ≤ c.toNat → m c = none) ∧ Ext No w' w1) 256
  ⟨_,_,rfl,by omega,fun c h => by have:=c.toNat_lt; omega,Ext.refl _ _⟩ ?_
 rintro nn vs g w1 ⟨x,y,rfl,h1,h3,he⟩
 unfold EN
 refine ZF (fun hge => ?_) fun hlt => ?_
 · have hn : 1 ≤ nn:=by omega
   obtain ⟨j,rfl⟩ : ∃ j,nn = j + 1:=⟨nn - 1,by omega⟩
   have hj : j < 256:=by omega
   refine xi (r:=(j : Int)) (by rw [show (((j + 1 : Nat) : Int) - 1) = (j : Int) by omega]; exact Rv (by omega)) ?_
   rw [Q82 hj]
   refine (Q7Z (h.Q4 he) hi).mono ?_
   rintro v w2 ⟨rfl,he2⟩
   have ht:=ofNat_toNat hj
   cases hm : m (UInt8.ofNat j) with
   | some x =>
     refine Qr (by simp [Q5V,hm]) ?_
     refine xi (r:=(j : Int)) (by rw [show (((j + 1 : Nat) : Int) - 1) = (j : Int) by omega]; exact Rv (by omega)) ?_
     refine ⟨?_,he.Q0 he2⟩
     have : (dom m).getLast? = some (UInt8.ofNat j):=QnE (by rw [hm]; rfl) fun d hd => h3 d (by omega)
     simp only [MW,this]
     rw [Q82 hj,hm]
   | none =>
     refine Qp (by simp [Q5V,hm]) ?_
     refine xi (r:=((j : Nat) : Int) - 1) (by rw [QQ (by omega)]; omega) ?_
     refine JP j (by omega) ⟨_,_,rfl,by omega,fun c h5 => ?_,he.Q0 he2⟩
     rcases Nat.lt_or_ge j c.toNat with h7 | h7
     · exact h3 c (by omega)
     · have : c = UInt8.ofNat j:=UInt8.toNat_inj.1 (by omega)
       rw [this]; exact hm
 · intro g
   refine ⟨?_,he⟩
   have : dom m = []:=List.eq_nil_iff_forall_not_mem.2 fun c hc => by
    have h1:=Zd.1 hc
    rw [h3 c (by omega)] at h1
    cases h1
   simp [MW,this]
end
section
variable {w : World} {ks : List Nat} {room : Nat} {m : UInt8 → Option Addr}
theorem QfA : MW (fun _ => none) = .tuple #[.int .u8 0,.pointer none,.bool false]:=by
 have : dom (fun _ => none : UInt8 → Option Addr) = []:=VG
 simp [MW,this]
theorem Qr0 (h : Kd w ks room m) : Q6 P DX [Xa ks,.int .i64 255] w fun v w' => v = MW m ∧ Ext No w w':=by
 refine Q4v ?_
 refine (Q2C h).mono ?_
 rintro v w' ⟨rfl,rfl⟩
 rcases h with ⟨rfl,rfl,rfl⟩ | ⟨kb,rb,l,rfl,h1,h2,rfl⟩ | ⟨kb,bb,n,xv,fv,a,xs,fs,rfl,h1,h2,h3⟩
 · exact ⟨QfA.symm,Ext.refl _ _⟩
 · refine Qp rfl ?_
   refine h1.ld (v:=rp rb) rfl ?_
   refine Qr rfl ?_
   refine h1.ld (v:=rp rb) rfl ?_
   refine (QjS h2).mono ?_
   rintro v w1 ⟨rfl,he⟩
   obtain ⟨x,y,z,e⟩:=Q4Y (Sb l)
   rw [e]
   exact ⟨rfl,he⟩
 · refine Qp rfl ?_
   refine h1.ld (v:=.pointer none) rfl ?_
   refine Qp rfl ?_
   refine h1.ld (v:=rp bb) rfl ?_
   refine (Qk2 h2 h3).mono ?_
   rintro v w1 ⟨rfl,he⟩
   obtain ⟨x,y,z,e⟩:=Q4Y m
   rw [e]
   exact ⟨rfl,he⟩
end
variable [Floor]
def Qd4 (m : UInt8 → Option Addr) : Value :=
 match (dom m).getLast? with
 | some c => .tuple #[bv c,.pointer (m c)]
 | none => .tuple #[.int .u8 0,.pointer none]
theorem QvG {w : World} {t : T} (h : Tree w t) (hn : t ≠ .nil) : Q6 P DV [t.v,.int .i64 255] w fun v w' => v = Qd4 (ptrs t.kid) ∧ Ext No w w':=by
 cases t with
 | nil => exact absurd rfl hn
 | node a ow part val ks kids =>
   have h0:=h.1
   obtain ⟨pv,h1,h2⟩:=h0.blk
   refine Q4n ?_
   refine Qp rfl ?_
   refine h1.ld (v:=Xa ks) rfl ?_
   obtain ⟨r,hr,-⟩:=h0.kd.any
   refine (Qr0 hr).mono ?_
   rintro v w' ⟨rfl,he⟩
   have e : (T.node a ow part val ks kids).kid = kids:=rfl
   rw [e]
   unfold MW Qd4
   cases (dom (ptrs kids)).getLast? <;> exact ⟨rfl,he⟩
end Go.Proofs.YtbnhggfiembejaaGreatDoor
end
section
namespace Go.Proofs.YtbnhggfiembejaaGreatDoor
open Go Go.RowKit X
set_option linter.unusedSimpArgs false
set_option linter.unusedVariables false
set_option linter.unusedSectionVars false
variable [Floor]
def AR (w : World) (r : Value) : Option (Key × Nat) → Prop
 | none => r = .tuple #[.agg #[.slice none 0 0,u64 0],.bool false]
 | some p => ∃ kv,r = .tuple #[.agg #[kv,u64 p.2],.bool true] ∧ Bs w kv p.1 ∧ p.2 < 18446744073709551616
theorem AR.two {w : World} {r : Value} {o : Option (Key × Nat)} (h : AR w r o) : ∃ kv x,r = .tuple #[.agg #[kv,u64 x],.bool o.isSome] ∧ kv.oneCell' = true ∧ (∀ p,o = some p → Bs w kv p.1 ∧ x = p.2 ∧ p.2 < 18446744073709551616) ∧ (o = none → kv = .slice none 0 0 ∧ x = 0):=by
 cases o with
 | none => exact ⟨_,0,h,rfl,(fun p h => by cases h),fun _ => ⟨rfl,rfl⟩⟩
 | some p =>
   obtain ⟨kv,rfl,h1,h2⟩:=h
   exact ⟨kv,p.2,rfl,h1.R9,fun q hq => by rw [← Option.some.inj hq]; exact ⟨h1,rfl,h2⟩,fun h => by cases h⟩
theorem AR.of {w : World} {kv : Value} {x : Nat} {o : Option (Key × Nat)} (h1 : ∀ p,o = some p → Bs w kv p.1 ∧ x = p.2 ∧ p.2 < 18446744073709551616) (h2 : o = none → kv = .slice none 0 0 ∧ x = 0) : AR w (.tuple #[.agg #[kv,u64 x],.bool o.isSome]) o:=by
 cases o with
 | none => obtain ⟨rfl,rfl⟩:=h2 rfl; rfl
 | some p => obtain ⟨h3,rfl,h4⟩:=h1 p rfl; exact ⟨kv,rfl,h3,h4⟩
theorem Ag {w : World} {rb : Nat} {cs : List Value} (hb : QZ w rb cs Zk) (hf : Floor.n ≤ rb) : NB w (· = rb):=fun b hb' _ => by
 have e : b = rb:=hb'
 subst e
 exact ⟨hf,_,_,hb,by decide⟩
theorem UF {w : World} {rb : Nat} {x y kv : Value} {z : Nat} {K : Value → World → Prop} (hb : QZ w rb [x,y] Zk) (ha : kv.oneCell' = true) (k : ∀ w',Ext (· = rb) w w' → w'.heap.size = w.heap.size → QZ w' rb [kv,u64 z] Zk → K (.agg #[kv,u64 z]) w') :
  Yn P (storeVar Zk ⟨rb,0,none⟩ (.agg #[kv,u64 z])) w fun w' => Qo w' ⟨rb,0,none⟩ 2 fun v => K v w' :=
 KD hb (by kernel_rfl) ha rfl fun w' h hz he => h.JH rfl (k w' he hz h)
section
variable {w w' w0 : World} {t : T} {way : Key} {v : Value} {B : Nat}
theorem QgB (ht : Tree w t) (hk : Bs w v way) (hf : Floor.n ≤ w.heap.size) : Q6 P GV [t.v,v] w fun r w' => AR w' r (t.val.map fun x => (way,x)) ∧ Ext No w w':=by
 refine QgX ?_
 refine Qz fun rb w1 hrb hR hz1 he1 => ?_
 refine (Cj (ht.Q4 he1)).mono ?_
 rintro _ w2 ⟨rfl,rfl⟩
 have h64:=ht.v64
 cases hv : t.val with
 | none =>
   refine Qr rfl ?_
   refine UF (kv:=.slice none 0 0) (z:=0) hR rfl fun w3 QE hz3 hb3 => ?_
   exact ⟨rfl,he1.Z0 QE (by omega)⟩
 | some x =>
   rw [hv] at h64
   refine Qp rfl ?_
   obtain ⟨ad,cp,rfl⟩:=hk.slice
   refine UF (kv:=.slice ad way.length cp) (z:=x) hR rfl fun w3 QE hz3 hb3 => ?_
   exact ⟨⟨_,rfl,(hk.Q4 he1).ext QE (Ag hR (by omega)),h64⟩,he1.Z0 QE (by omega)⟩
theorem QlN {l m : Key} (h : Own w B Qm 1 v (l.length + m.length) (l.map bv ++ m.map bv)) : Own w B Qm 1 v (l ++ m).length ((l ++ m).map bv):=by
 rw [List.length_append,List.map_append]; exact h
theorem QgC : Q6 P WM [T.nil.v,v] w fun r w' => AR w' r none ∧ Ext No w w':=by
 refine Q2Y ?_
 refine Qz fun rb w1 hrb hR hz1 he1 => ?_
 refine JN (fun nn vs w' => ∃ x0 x1 x2 x3,vs = [T.nil.v,v,x0,x1,x2,x3] ∧ w' = w1) 0 ⟨_,_,_,_,rfl,rfl⟩ ?_
 rintro nn vs g w2 ⟨x0,x1,x2,x3,rfl,rfl⟩
 unfold Fw
 refine Y4 T.nil ?_
 refine Qp rfl ?_
 refine UF (kv:=.slice none 0 0) (z:=0) hR rfl fun w3 QE hz3 hb3 => ?_
 exact ⟨rfl,he1.Z0 QE (by omega)⟩
structure DW (w0 w w' : World) (B : Nat) (v0 v : Value) (way : Key) : Prop where
 ext : Ext (fun b => v0.ownBlock = some b) w w'
 own : Own w' B Qm 1 v way.length (way.map bv)
 new : ∀ b,v.ownBlock = some b → v0.ownBlock = some b ∨ w.heap.size ≤ b
theorem DW.Q4 {w1 w2 : World} {v0 : Value} (h : DW w0 w w1 B v0 v way) (e : Ext No w1 w2) : DW w0 w w2 B v0 v way:=⟨h.ext.Q0 e,h.own.Q4 e,h.new⟩
theorem DW.one {w1 w2 : World} {v0 : Value} {b : Nat} {cs : List Value} {T : TypeId} (h : DW w0 w w1 B v0 v way) (hb : QZ w1 b cs T) (hT : T ≠ Qm) (hw : w.heap.size ≤ b) (e : Ext (· = b) w1 w2) : DW w0 w w2 B v0 v way :=
 ⟨h.ext.trans e fun c hc he => by have e : c = b:=he; omega,h.own.ext e fun c hc he => by
  have e : c = b:=he
  subst e
  exact Own.neK h.own hb hT.symm hc,h.new⟩
theorem DW.app {w1 : World} {v0 x : Value} {m : Key} (h : DW w0 w w1 B v0 v way) (hB : B ≤ w1.heap.size) (hx : Bs w1 x m) (hl : way.length + m.length ≤ 4398046511104) {K : Value → World → Prop}
  (k : ∀ v' w',DW w0 w w' B v0 v' (way ++ m) → Ext (fun b => v.ownBlock = some b) w1 w' → (∀ b,v'.ownBlock = some b → v.ownBlock = some b ∨ w1.heap.size ≤ b) → (∀ w'',Ext (fun b => v'.ownBlock = some b) w' w'' → Own w'' B Qm 1 v' (way ++ m).length ((way ++ m).map bv) → Own w'' B Qm 1 v way.length (way.map bv)) → K v' w') :
  Jv P (Builtin.append_ #[Ji,Ji] Ji #[v,x]) w1 K:=by
 refine Vi Uq h.own hB hx (by simp only [List.mem_map]; rintro u ⟨c,-,rfl⟩; rfl) (by omega) (by omega) fun v1 w2 hv1 he2 hback hnew => ?_
 have hz:=h.ext.size
 refine k v1 w2 ⟨h.ext.trans he2 fun b hb hv => (h.new b hv).imp id (fun h => by omega) |>.elim id fun h => absurd hb (by omega),QlN hv1,fun b hb => ?_⟩ he2 hnew fun w'' e ho => hback w'' e (by rw [List.length_append,List.map_append] at ho; exact ho)
 rcases hnew b hb with h1 | h1
 · exact h.new b h1
 · exact .inr (by omega)
end
end Go.Proofs.YtbnhggfiembejaaGreatDoor
end
section
namespace Go.Proofs.YtbnhggfiembejaaGreatDoor
open Go Go.RowKit X
set_option linter.unusedSimpArgs false
set_option linter.unusedVariables false
set_option linter.unusedSectionVars false
variable [Floor]
section
variable {w w' w0 : World} {t : T} {way : Key} {v v0 : Value} {B : Nat}
theorem DW.e0 (h : DW w0 w w' B v0 v way) (h0 : Ext No w0 w) (hv0 : ∀ b,v0.ownBlock = some b → w0.heap.size ≤ b) : Ext No w0 w':=h0.trans h.ext fun b hb hv => by have:=hv0 b hv; omega
theorem QnF {kids : UInt8 → T} (h : dom (ptrs kids) ≠ []) : ∃ c r,dom (ptrs kids) = c :: r:=List.exists_cons_of_ne_nil h
set_option maxRecDepth 100000 in
theorem QbM (ht : Tree w0 t) (hf : t.er.ZV) (h0 : Ext No w0 w) (hB0 : w0.heap.size ≤ B) (hB : B ≤ w.heap.size) (hfl : Floor.n ≤ B) (hv : Own w B Qm 1 v way.length (way.map bv)) (hlen : way.length + t.er.long ≤ 1099511627776) :
  Q6 P WM [t.v,v] w fun r w' => AR w' r (t.er.list way).head? ∧ Ext (fun b => v.ownBlock = some b) w w' ∧ (t = .nil → Own w' B Qm 1 v way.length (way.map bv)):=by
 by_cases htn : t = .nil
 · subst htn
   refine QgC.mono ?_
   rintro r w' ⟨hr,he⟩
   exact ⟨hr,he.mono fun _ _ h => h.elim,fun _ => hv.Q4 he⟩
 have hvB : ∀ b,v.ownBlock = some b → w0.heap.size ≤ b:=fun b hb => by have:=(hv.ge hb).1; omega
 refine Q2Y ?_
 refine Qz fun rb w1 hrb hR hz1 he1 => ?_
 have hR : QZ w1 rb [.slice none 0 0,u64 0] Zk:=hR
 refine JN (fun nn vs w' => ∃ (t' : T) (G6 : Key) (v' x0 x1 x2 x3 : Value),vs = [t'.v,v',x0,x1,x2,x3] ∧ nn = t'.er.deep ∧ t' ≠ .nil ∧ Tree w0 t' ∧ t'.er.ZV ∧ DW w0 w w' B v v' G6 ∧ QZ w' rb [.slice none 0 0,u64 0] Zk ∧ (t'.er.list G6).head? = (t.er.list way).head? ∧ G6.length + t'.er.long ≤ 1099511627776) t.er.deep
  ⟨t,way,v,_,_,_,_,rfl,rfl,htn,ht,hf,⟨he1.mono fun _ _ h => h.elim,hv.Q4 he1,fun b h => .inl h⟩,hR,rfl,hlen⟩ ?_
 rintro nn vs g w2 ⟨t',G6,v',x0,x1,x2,x3,rfl,rfl,hn,ht',hf',hD,hR2,hhd,hlen'⟩
 unfold Fw
 cases t' with
 | nil => exact absurd rfl hn
 | node a ow part val ks kids =>
   have hz2:=hD.ext.size
   have hE2:=hD.e0 h0 hvB
   have hlong : (T.node a ow part val ks kids).er.long = CZ ((dom (ptrs kids)).map fun c => (kids c).er.long + 1) + part.length:=by
    show (E.node part val fun c => (kids c).er).long = _
    rw [E.Ky,Ec]
   refine WZ (t:=.node a ow part val ks kids) (by simp) ?_
   refine Qr rfl ?_
   refine (XA (ht'.Q4 hE2)).mono ?_
   rintro pv w3 ⟨hpv,QE⟩
   have hpv : Bs w3 pv part:=hpv
   have hz3:=QE.size
   refine (hD.Q4 QE).app (by omega) hpv (by omega) fun v1 w4 hD4 Zl Qsp Qgd => ?_
   have Ro:=Zl.size
   have hR4:=(hR2.ext QE fun h => h).ext Zl fun h => Own.neK (hD.Q4 QE).own (hR2.ext QE fun h => h) (by decide) h
   have U9:=hD4.e0 h0 hvB
   have hbs : Bs w4 v1 (G6 ++ part):=Bs.of hD4.own.sl
   refine (QgB (t:=.node a ow part val ks kids) (ht'.Q4 U9) hbs (by omega)).mono ?_
   rintro r w5 ⟨hr,ZR⟩
   obtain ⟨kv,x,rfl,hone,hsome,hnone⟩:=hr.two
   have hz5:=ZR.size
   refine Qz fun pb w6 hpb hP hz6 Ke => ?_
   refine KD hP (by kernel_rfl) hone rfl fun w7 hP7 hz7 Yy => ?_
   have h57 : Ext No w5 w7:=Ke.Z0 Yy (by omega)
   have h47:=ZR.Q0 h57
   have hR7:=hR4.ext h47 fun h => h
   have hD7:=hD4.Q4 h47
   have hlist : (T.node a ow part val ks kids).er.list G6 = Q1m (G6 ++ part) val ++ D9 kids (G6 ++ part) (dom (ptrs kids)):=Nb
   cases val with
   | some z =>
     obtain ⟨h1,rfl,h3⟩:=hsome (G6 ++ part,z) rfl
     refine Qr rfl ?_
     refine hP7.JH rfl ?_
     refine UF (kv:=kv) (z:=x) hR7 hone fun w8 KJ hz8 hb8 => ?_
     have hz7':=h57.size
     have hD8:=hD7.one hR7 (by decide) (by omega) KJ
     refine ⟨?_,hD8.ext,fun h => absurd h htn⟩
     rw [← hhd,hlist]
     exact ⟨kv,rfl,(h1.Q4 h57).ext KJ (Ag hR7 (by omega)),h3⟩
   | none =>
     refine Qp rfl ?_
     have BA:=U9.Q0 h47
     refine (WS (ht'.Q4 BA) (i:=0) (by omega)).mono ?_
     rintro _ w8 ⟨rfl,KJ⟩
     rw [show Vx (ptrs (T.node a ow part none ks kids).kid) 0 = .tuple #[nxB (dom (ptrs kids)),nxP (ptrs kids) (dom (ptrs kids))] from YZ (VI _)]
     obtain ⟨c,cr,hcr⟩:=QnF (Qm0 hf' rfl)
     rw [hcr]
     have hcd : c ∈ dom (ptrs kids):=by rw [hcr]; simp
     have hcl:=Ay (l:=(dom (ptrs kids)).map fun c => (kids c).er.long + 1) (List.mem_map.2 ⟨c,hcd,rfl⟩)
     show Qs w8 ([c].map bv) Qm _
     refine Qz fun nb w9 hnb Q2u hz9 Ym => ?_
     have h79:=KJ.Q0 Ym
     have hz8:=KJ.size
     have hz7':=h57.size
     have hsl : Bs w9 (.slice (some ⟨nb,0,none⟩) 1 1) [c]:=Bs.new' (k:=[c]) Q2u
     have hR9:=hR7.ext h79 fun h => h
     refine (hD7.Q4 h79).app (by omega) hsl (by simp; omega) fun v2 Dn Qvi J9 _ _ => ?_
     refine JP (kids c).er.deep (E.QdY (kids:=fun c => (kids c).er) c) ⟨kids c,G6 ++ part ++ [c],v2,_,_,_,_,rfl,rfl,Q46 hcd,ht'.2 c,hf'.2 c,Qvi,hR9.ext J9 fun h => Own.neK (hD7.Q4 h79).own hR9 (by decide) h,?_,?_⟩
     · rw [← hhd,hlist,hcr]
       exact (Q7m (hf'.2 c) (Q46 hcd)).symm
     · simp; omega
set_option maxRecDepth 100000 in
theorem QvA (ht : Tree w0 t) (hf : t.er.ZV) (h0 : Ext No w0 w) (hB0 : w0.heap.size ≤ B) (hB : B ≤ w.heap.size) (hfl : Floor.n ≤ B) (hv : Own w B Qm 1 v way.length (way.map bv)) (hlen : way.length + t.er.long ≤ 1099511627776) :
  Q6 P RY [t.v,v] w fun r w' => AR w' r (t.er.list way).getLast? ∧ Ext (fun b => v.ownBlock = some b) w w':=by
 have hvB : ∀ b,v.ownBlock = some b → w0.heap.size ≤ b:=fun b hb => by have:=(hv.ge hb).1; omega
 refine QeP ?_
 refine Qz fun rb w1 hrb hR hz1 he1 => ?_
 have hR : QZ w1 rb [.slice none 0 0,u64 0] Zk:=hR
 refine JN (fun nn vs w' => ∃ (t' : T) (G6 : Key) (v' x0 x1 x2 : Value),vs = [t'.v,v',x0,x1,x2] ∧ nn = t'.er.deep ∧ Tree w0 t' ∧ t'.er.ZV ∧ DW w0 w w' B v v' G6 ∧ QZ w' rb [.slice none 0 0,u64 0] Zk ∧ (t'.er.list G6).getLast? = (t.er.list way).getLast? ∧ G6.length + t'.er.long ≤ 1099511627776) t.er.deep
  ⟨t,way,v,_,_,_,rfl,rfl,ht,hf,⟨he1.mono fun _ _ h => h.elim,hv.Q4 he1,fun b h => .inl h⟩,hR,rfl,hlen⟩ ?_
 rintro nn vs g w2 ⟨t',G6,v',x0,x1,x2,rfl,rfl,ht',hf',hD,hR2,hhd,hlen'⟩
 unfold TG
 have hz2:=hD.ext.size
 cases t' with
 | nil =>
   refine Y4 T.nil ?_
   refine Qp rfl ?_
   refine UF (kv:=.slice none 0 0) (z:=0) hR2 rfl fun w8 KJ hz8 hb8 => ?_
   have hD8:=hD.one hR2 (by decide) (by omega) KJ
   refine ⟨?_,hD8.ext⟩
   rw [← hhd]
   rfl
 | node a ow part val ks kids =>
   have hE2:=hD.e0 h0 hvB
   have hlong : (T.node a ow part val ks kids).er.long = CZ ((dom (ptrs kids)).map fun c => (kids c).er.long + 1) + part.length:=by
    show (E.node part val fun c => (kids c).er).long = _
    rw [E.Ky,Ec]
   refine WZ (t:=.node a ow part val ks kids) (by simp) ?_
   refine Qr rfl ?_
   refine (XA (ht'.Q4 hE2)).mono ?_
   rintro pv w3 ⟨hpv,QE⟩
   have hpv : Bs w3 pv part:=hpv
   have hz3:=QE.size
   refine (hD.Q4 QE).app (by omega) hpv (by omega) fun v1 w4 hD4 Zl Qsp Qgd => ?_
   have Ro:=Zl.size
   have hR4:=(hR2.ext QE fun h => h).ext Zl fun h => Own.neK (hD.Q4 QE).own (hR2.ext QE fun h => h) (by decide) h
   have U9:=hD4.e0 h0 hvB
   have hbs : Bs w4 v1 (G6 ++ part):=Bs.of hD4.own.sl
   have hlist : (T.node a ow part val ks kids).er.list G6 = Q1m (G6 ++ part) val ++ D9 kids (G6 ++ part) (dom (ptrs kids)):=Nb
   refine (Qoi (ht'.Q4 U9)).mono ?_
   rintro _ w4' ⟨rfl,rfl⟩
   refine Vu (fun hc => ?_) fun hc => ?_
   · have hc : ((cnt (ptrs kids) : Nat) : Int) = 0:=hc
     have hdn : dom (ptrs kids) = []:=List.eq_nil_of_length_eq_zero (by show cnt (ptrs kids) = 0; omega)
     refine (QgB (t:=.node a ow part val ks kids) (ht'.Q4 U9) hbs (by omega)).mono ?_
     rintro r w5 ⟨hr,ZR⟩
     obtain ⟨kv,x,rfl,hone,hsome,hnone⟩:=hr.two
     have hz5:=ZR.size
     have hR5:=hR4.ext ZR fun h => h
     have hD5:=hD4.Q4 ZR
     refine UF (kv:=kv) (z:=x) hR5 hone fun w8 KJ hz8 hb8 => ?_
     have hD8:=hD5.one hR5 (by decide) (by omega) KJ
     refine ⟨?_,hD8.ext⟩
     rw [← hhd,hlist,hdn,Qab,List.append_nil]
     have e : (Q1m (G6 ++ part) val).getLast? = (val.map fun x => (G6 ++ part,x)):=by cases val <;> rfl
     rw [e]
     refine AR.of (fun p hp => ?_) hnone
     obtain ⟨h1,h2,h3⟩:=hsome p hp
     exact ⟨h1.ext KJ (Ag hR5 (by omega)),h2,h3⟩
   · have hc : ¬ ((cnt (ptrs kids) : Nat) : Int) = 0:=hc
     have hdn : dom (ptrs kids) ≠ []:=fun e => hc (by show ((List.length (dom (ptrs kids)) : Nat) : Int) = 0; rw [e]; rfl)
     refine (QvG (t:=.node a ow part val ks kids) (ht'.Q4 U9) (by simp)).mono ?_
     rintro _ w8 ⟨rfl,KJ⟩
     obtain ⟨cr,c,hcr⟩ : ∃ cr c,dom (ptrs kids) = cr ++ [c]:=⟨_,_,(List.dropLast_concat_getLast hdn).symm⟩
     have hp2 : Qd4 (ptrs (T.node a ow part val ks kids).kid) = .tuple #[bv c,(kids c).v]:=by
      show Qd4 (ptrs kids) = _
      unfold Qd4
      rw [hcr,List.getLast?_concat]
     rw [hp2]
     have hcd : c ∈ dom (ptrs kids):=by rw [hcr]; simp
     have hcl:=Ay (l:=(dom (ptrs kids)).map fun c => (kids c).er.long + 1) (List.mem_map.2 ⟨c,hcd,rfl⟩)
     show Qs w8 ([c].map bv) Qm _
     refine Qz fun nb w9 hnb Q2u hz9 Ym => ?_
     have h49:=KJ.Q0 Ym
     have hz8:=KJ.size
     have hsl : Bs w9 (.slice (some ⟨nb,0,none⟩) 1 1) [c]:=Bs.new' (k:=[c]) Q2u
     have hR9:=hR4.ext h49 fun h => h
     refine (hD4.Q4 h49).app (by omega) hsl (by simp; omega) fun v2 Dn Qvi J9 _ _ => ?_
     refine JP (kids c).er.deep (E.QdY (kids:=fun c => (kids c).er) c) ⟨kids c,G6 ++ part ++ [c],v2,_,_,_,rfl,rfl,ht'.2 c,hf'.2 c,Qvi,hR9.ext J9 fun h => Own.neK (hD4.Q4 h49).own hR9 (by decide) h,?_,?_⟩
     · rw [← hhd,hlist,hcr]
       have h1:=QfY (W:=G6 ++ part) (cs:=cr) (hf'.2 c) (Q46 hcd)
       rw [List.getLast?_append,h1]
       cases hl : (kids c).er.list (G6 ++ part ++ [c]) with
       | nil => exact absurd hl (Q2g (hf'.2 c) (Q46 hcd) _)
       | cons x r => rw [List.getLast?_cons]; rfl
     · simp; omega
theorem QBM (ht : Tree w t) (hf : t.er.ZV) (hfl : Floor.n ≤ w.heap.size) (hl : t.er.long ≤ 65535) : Q6 P Q1q [t.v] w fun r w' => AR w' r (t.er.list []).head? ∧ Ext No w w':=by
 refine QgY ?_
 refine Qz fun rb w1 hrb hR hz1 he1 => ?_
 have hR : QZ w1 rb [.slice none 0 0,u64 0] Zk:=hR
 refine (QbM (w0:=w) (B:=w1.heap.size) (way:=[]) ht hf he1 he1.size (Nat.le_refl _) (by omega) (Own.nil _ _ _ _) (by simp; omega)).mono ?_
 rintro r w2 ⟨hr,he2,-⟩
 obtain ⟨kv,x,rfl,hone,hsome,hnone⟩:=hr.two
 have he2 : Ext No w1 w2:=he2.mono fun b _ h => by cases h
 have hR2:=hR.ext he2 fun h => h
 refine UF (kv:=kv) (z:=x) hR2 hone fun w8 KJ hz8 hb8 => ?_
 refine ⟨AR.of (fun p hp => ?_) hnone,(he1.Q0 he2).Z0 KJ (by omega)⟩
 obtain ⟨h1,h2,h3⟩:=hsome p hp
 exact ⟨h1.ext KJ (Ag hR2 (by omega)),h2,h3⟩
theorem QBN (ht : Tree w t) (hf : t.er.ZV) (hfl : Floor.n ≤ w.heap.size) (hl : t.er.long ≤ 65535) : Q6 P Q1r [t.v] w fun r w' => AR w' r (t.er.list []).getLast? ∧ Ext No w w':=by
 refine QgZ ?_
 refine Qz fun rb w1 hrb hR hz1 he1 => ?_
 have hR : QZ w1 rb [.slice none 0 0,u64 0] Zk:=hR
 refine (QvA (w0:=w) (B:=w1.heap.size) (way:=[]) ht hf he1 he1.size (Nat.le_refl _) (by omega) (Own.nil _ _ _ _) (by simp; omega)).mono ?_
 rintro r w2 ⟨hr,he2⟩
 obtain ⟨kv,x,rfl,hone,hsome,hnone⟩:=hr.two
 have he2 : Ext No w1 w2:=he2.mono fun b _ h => by cases h
 have hR2:=hR.ext he2 fun h => h
 refine UF (kv:=kv) (z:=x) hR2 hone fun w8 KJ hz8 hb8 => ?_
 refine ⟨AR.of (fun p hp => ?_) hnone,(he1.Q0 he2).Z0 KJ (by omega)⟩
 obtain ⟨h1,h2,h3⟩:=hsome p hp
 exact ⟨h1.ext KJ (Ag hR2 (by omega)),h2,h3⟩
end
end Go.Proofs.YtbnhggfiembejaaGreatDoor
end
end
section
namespace Go.Proofs.YtbnhggfiembejaaGreatDoor
open Go Go.RowKit X
set_option linter.unusedSimpArgs false
set_option linter.unusedVariables false
set_option linter.unusedSectionVars false
variable [Floor]
theorem QqQ {w : World} {t : T} (hn : t ≠ .nil) (h : Tree w t) : Q6 P QD [t.v] w fun v w' => Own w' w.heap.size Qm 1 v t.part.length (t.part.map bv) ∧ Ext No w w':=by
 cases t with
 | nil => exact absurd rfl hn
 | node a ow part val ks kids =>
   have h0:=h.1
   obtain ⟨pv,h1,h2⟩:=h0.blk
   have hs:=h0.short
   refine Ef ?_
   refine Qp rfl ?_
   refine h1.ld (v:=pv) rfl ?_
   refine h2.len ?_
   refine Q7b Uq rfl rfl (Nat.le_refl _) (by omega) (by omega) fun b w1 hb hz hblk he => ?_
   refine (h1.ext he fun h => h).ld (v:=pv) rfl ?_
   refine Q7S Uq hblk (h2.Q4 he) (by rw [Nat.min_self,Q6o]; omega) h2.one fun w2 hb2 hz2 he2 => ?_
   rw [Nat.min_self,List.take_of_length_le (l:=part.map bv) (by simp)] at hb2
   have e : (Kc (QJ (.int .u8 0)) part.length).drop (0 + part.length) = []:=List.drop_eq_nil_of_le (by rw [Q6o]; omega)
   rw [e] at hb2
   have hb3 : QZ w2 b (part.map bv) Qm:=by simpa using hb2
   refine ⟨?_,he.Z0 he2 (by omega)⟩
   show Own w2 w.heap.size Qm 1 _ part.length (part.map bv)
   exact Own.of (by omega) hb3 (Nat.le_refl _) (Nat.le_trans hs (by decide)) (by simp) (by rw [List.take_of_length_le (by simp)]) (by simp)
abbrev Qs8 (t : T) : Value:=.func (.func QP) #[t.v] #[]
abbrev Qmf : Value:=.func (.func WM) #[] #[]
section
variable {w w' w0 : World} {a ow i : Nat} {part way : Key} {val : Option Nat} {ks : List Nat} {kids : UInt8 → T} {v : Value} {B : Nat}
abbrev Q2v (kids : UInt8 → T) (i : Nat) : List UInt8:=(dom (ptrs kids)).filter fun c => decide (i ≤ c.toNat)
set_option maxRecDepth 100000 in
theorem Qeg (ht : Tree w0 (.node a ow part val ks kids)) (hf : (T.node a ow part val ks kids).er.ZV) (h0 : Ext No w0 w) (hB0 : w0.heap.size ≤ B) (hB : B ≤ w.heap.size) (hfl : Floor.n ≤ B) (hv : Own w B Qm 1 v way.length (way.map bv)) (hi : i ≤ 256) (hlw : way.length ≤ 1099511627775) (hlen : ∀ c,kids c ≠ .nil → way.length + (kids c).er.long + 1 < 1099511627776) :
  Q6 P JO [Qs8 (.node a ow part val ks kids),.int .i64 i,v,Qmf] w fun r w' => AR w' r (D9 kids way (Q2v kids i)).head? ∧ Ext (fun b => v.ownBlock = some b) w w' ∧ ((D9 kids way (Q2v kids i)).head? = none → Own w' B Qm 1 v way.length (way.map bv)):=by
 have hvB : ∀ b,v.ownBlock = some b → w0.heap.size ≤ b:=fun b hb => by have:=(hv.ge hb).1; omega
 have hlong : (T.node a ow part val ks kids).er.long = CZ ((dom (ptrs kids)).map fun c => (kids c).er.long + 1) + part.length:=by
  show (E.node part val fun c => (kids c).er).long = _
  rw [E.Ky,Ec]
 refine Q9A ?_
 refine Qz fun rb w1 hrb hR hz1 he1 => ?_
 have hR : QZ w1 rb [.slice none 0 0,u64 0] Zk:=hR
 have hz1':=he1.size
 refine MF ?_
 refine XT (by kernel_rfl) ?_
 refine Q6.mono (show Q6 P QP [(T.node a ow part val ks kids).v,.int .i64 i] w1 _ from WS (ht.Q4 (h0.Q0 he1)) hi) ?_
 rintro _ w2 ⟨rfl,he2⟩
 have h12:=he1.Q0 he2
 have hD : DW w0 w w2 B v v way:=⟨h12.mono fun _ _ h => h.elim,hv.Q4 h12,fun b h => .inl h⟩
 have hR2:=hR.ext he2 fun h => h
 have hz2:=he2.size
 have hn : Wd (ptrs kids) i = (Q2v kids i).head?:=Qb6 _ _
 obtain ⟨x,tk,e,htk,hfk,hlk,hhd,hnn⟩ : ∃ (x : UInt8) (tk : T),Vx (ptrs (T.node a ow part val ks kids).kid) i = .tuple #[bv x,tk.v] ∧ Tree w0 tk ∧ tk.er.ZV ∧ (tk ≠ .nil → way.length + tk.er.long + 1 < 1099511627776) ∧ (D9 kids way (Q2v kids i)).head? = (tk.er.list (way ++ [x])).head? ∧ ((D9 kids way (Q2v kids i)).head? = none → tk = .nil):=by
  cases hl : Q2v kids i with
  | nil =>
    rw [hl] at hn
    refine ⟨0,.nil,?_,trivial,trivial,fun h => absurd rfl h,rfl,fun _ => rfl⟩
    show Vx (ptrs kids) i = _
    unfold Vx
    rw [hn]
    rfl
  | cons c cr =>
    have hcd : c ∈ dom (ptrs kids):=(List.mem_filter.1 (show c ∈ Q2v kids i by rw [hl]; simp)).1
    have hcl:=Ay (l:=(dom (ptrs kids)).map fun c => (kids c).er.long + 1) (List.mem_map.2 ⟨c,hcd,rfl⟩)
    rw [hl] at hn
    have hhd:=Q7m (W:=way) (cs:=cr) (hf.2 c) (Q46 hcd)
    refine ⟨c,kids c,?_,ht.2 c,hf.2 c,hlen c,hhd,fun h => ?_⟩
    · show Vx (ptrs kids) i = _
      unfold Vx
      rw [hn]
      rfl
    · rw [hhd] at h
      cases hq : (kids c).er.list (way ++ [c]) with
      | nil => exact absurd hq (Q2g (hf.2 c) (Q46 hcd) _)
      | cons x r => rw [hq] at h; cases h
 rw [e]
 show Qs w2 ([x].map bv) Qm _
 refine Qz fun nb w3 hnb Q2u hz3 QE => ?_
 have hsl : Bs w3 (.slice (some ⟨nb,0,none⟩) 1 1) [x]:=Bs.new' (k:=[x]) Q2u
 have hR3:=hR2.ext QE fun h => h
 refine (hD.Q4 QE).app (by omega) hsl (by simp; omega) fun v2 w4 hD4 Zl Qsp Qgd => ?_
 have hR4:=hR3.ext Zl fun h => Own.neK (hD.Q4 QE).own hR3 (by decide) h
 have Ro:=Zl.size
 refine MF ?_
 refine XT (by kernel_rfl) ?_
 refine Q6.mono (show Q6 P WM [tk.v,v2] w4 _ from QbM htk hfk (hD4.e0 h0 hvB) hB0 (by omega) hfl hD4.own (by
  by_cases htn : tk = .nil
  · subst htn; simp; show way.length + 1 + 0 ≤ _; omega
  · have:=hlk htn; simp; omega)) ?_
 rintro r w5 ⟨hr,ZR,hown5⟩
 obtain ⟨kv,z,rfl,hone,hsome,hnone⟩:=hr.two
 have hz5:=ZR.size
 have hR5:=hR4.ext ZR fun h => Own.neK hD4.own hR4 (by decide) h
 refine UF (kv:=kv) (z:=z) hR5 hone fun w6 Ke hz6 hb6 => ?_
 have e5 : Ext (fun b => v.ownBlock = some b) w w5:=hD4.ext.trans ZR fun b hb h => by
  rcases hD4.new b h with h | h
  · exact h
  · omega
 refine ⟨?_,e5.trans Ke fun c hc h => by have h : c = rb:=h; omega,fun hn => ?_⟩
 · rw [hhd]
   refine AR.of (fun p hp => ?_) hnone
   obtain ⟨g1,g2,g3⟩:=hsome p hp
   exact ⟨g1.ext Ke (Ag hR5 (by omega)),g2,g3⟩
 · have o5:=hown5 (hnn hn)
   have o5':=Qgd w5 ZR o5
   exact o5'.ext Ke fun c hc h => by
    have h : c = rb:=h
    subst h
    exact Own.neK o5' hR5 (by decide) hc
end
structure UC (w0 w w2 : World) (B : Nat) (v v1 : Value) (way here : Key) (rb kb : Nat) : Prop where
 h02 : Ext No w0 w2
 hB0 : w0.heap.size ≤ B
 hB : B ≤ w.heap.size
 fl : Floor.n ≤ B
 ext : Ext (fun b => v.ownBlock = some b) w w2
 own : Own w2 B Qm 1 v1 here.length (here.map bv)
 new : ∀ b,v1.ownBlock = some b → v.ownBlock = some b ∨ w.heap.size ≤ b
 back : ∀ w'',Ext (fun b => v1.ownBlock = some b) w2 w'' → Own w'' B Qm 1 v1 here.length (here.map bv) → Own w'' B Qm 1 v way.length (way.map bv)
 res : QZ w2 rb [.slice none 0 0,u64 0] Zk
 Qyb : w.heap.size ≤ rb
 kn : QZ w2 kb [.bool false] Bp
structure UP (w2 w' : World) (B : Nat) (v1 v2 : Value) (here : Key) (b : UInt8) (rb kb : Nat) : Prop where
 ext : Ext (fun b => v1.ownBlock = some b) w2 w'
 own : Own w' B Qm 1 v2 (here ++ [b]).length ((here ++ [b]).map bv)
 new : ∀ c,v2.ownBlock = some c → v1.ownBlock = some c ∨ w2.heap.size ≤ c
 back : ∀ w'',Ext (fun c => v2.ownBlock = some c) w' w'' → Own w'' B Qm 1 v2 (here ++ [b]).length ((here ++ [b]).map bv) → Own w'' B Qm 1 v1 here.length (here.map bv)
 res : QZ w' rb [.slice none 0 0,u64 0] Zk
 kn : QZ w' kb [.bool false] Bp
def UpS (t : T) : Prop:=∀ {w0 w : World} {k way : Key} {kv v : Value} {B : Nat},Tree w0 t → t.er.ZV → Bs w0 kv k → k.length ≤ 4611686018427387000 → Ext No w0 w → w0.heap.size ≤ B → B ≤ w.heap.size → Floor.n ≤ B → Own w B Qm 1 v way.length (way.map bv) → (t ≠ .nil → way.length + t.er.long < 1099511627776) →
 Q6 P ZI [.agg #[.bool false],t.v,v,kv] w fun r w' => AR w' r (upL t.er way k).head? ∧ Ext (fun b => v.ownBlock = some b) w w' ∧ ((upL t.er way k).head? = none → Own w' B Qm 1 v way.length (way.map bv))
abbrev KU (w : World) (B : Nat) (v : Value) (way : Key) (o : Option (Key × Nat)) : Value → World → Prop:=fun r w' => AR w' r o ∧ Ext (fun b => v.ownBlock = some b) w w' ∧ (o = none → Own w' B Qm 1 v way.length (way.map bv))
section
variable {w0 w w2 w' : World} {B rb kb pb : Nat} {v v1 v2 kv : Value} {way : Key} {a ow : Nat} {part r : Key} {val : Option Nat} {ks : List Nat} {kids : UInt8 → T} {b : UInt8}
theorem UC.hvB (h : UC w0 w w2 B v v1 way (way ++ part) rb kb) : ∀ c,v1.ownBlock = some c → w0.heap.size ≤ c:=fun c hc => by have:=(h.own.ge hc).1; have:=h.hB0; omega
theorem UC.Q4 {w3 : World} {here : Key} (h : UC w0 w w2 B v v1 way here rb kb) (e : Ext No w2 w3) : UC w0 w w3 B v v1 way here rb kb :=
 ⟨h.h02.Q0 e,h.hB0,h.hB,h.fl,h.ext.Q0 e,h.own.Q4 e,h.new,fun w'' e' ho => h.back w'' ((e.mono fun _ _ h => h.elim).QI e') ho,h.res.ext e fun h => h,h.Qyb,h.kn.ext e fun h => h⟩
theorem UP.Q4 {w'' : World} {here : Key} (h : UP w2 w' B v1 v2 here b rb kb) (e : Ext No w' w'') : UP w2 w'' B v1 v2 here b rb kb :=
 ⟨h.ext.Q0 e,h.own.Q4 e,h.new,fun w3 e3 ho => h.back w3 ((e.mono fun _ _ h => h.elim).QI e3) ho,h.res.ext e fun h => h,h.kn.ext e fun h => h⟩
theorem UC.app (h : UC w0 w w2 B v v1 way (way ++ part) rb kb) (e : Ext No w2 w') {s : Value} (hs : Bs w' s [b]) (hl : (way ++ part).length ≤ 1099511627776) {K : Value → World → Prop}
  (k : ∀ v2 w'',UP w2 w'' B v1 v2 (way ++ part) b rb kb → (∀ c cs,QZ w' c cs Zk → QZ w'' c cs Zk) → K v2 w'') : Jv P (Builtin.append_ #[Ji,Ji] Ji #[v1,s]) w' K:=by
 have hz:=h.ext.size
 have hz':=e.size
 have hB:=h.hB
 have hD : DW w2 w2 w' B v1 v1 (way ++ part):=⟨e.mono fun _ _ h => h.elim,h.own.Q4 e,fun b h => .inl h⟩
 refine hD.app (by omega) hs (by simp at hl ⊢; omega) fun v3 w3 hD3 QE hnew3 Qv3 => ?_
 exact k v3 w3 ⟨hD3.ext,hD3.own,hD3.new,Qv3,(h.res.ext e fun h => h).ext QE fun hh => Own.neK hD.own (h.res.ext e fun h => h) (by decide) hh,(h.kn.ext e fun h => h).ext QE fun hh => Own.neK hD.own (h.kn.ext e fun h => h) (by decide) hh⟩ fun c cs hc => hc.ext QE fun hh => Own.neK hD.own hc (by decide) hh
abbrev TL (w : World) (B : Nat) (v v1 : Value) (way : Key) (t : T) (b : UInt8) (o : Option (Key × Nat)) (rb : Nat) (x y : Value) (pb : Addr) (w5 : World) : Prop :=
 Yn P (storeVar Zk pb x) w5 fun w6 => Ql y (Qo w6 pb 2 fun z => Yn P (storeVar Zk ⟨rb,0,none⟩ z) w6 fun w7 => Qo w7 ⟨rb,0,none⟩ 2 fun q => KU w B v way o (.tuple #[q,.bool true]) w7)
  (Kq .i64 (bv b) fun x1 => ZU x1 (.int .i64 1) fun x2 => Q6 P JO [Qs8 t,x2,v1,Qmf] w6 fun r2 w8 => Qb r2 0 fun z => Qb r2 1 fun q => Yn P (storeVar Zk ⟨rb,0,none⟩ z) w8 fun w9 => Qo w9 ⟨rb,0,none⟩ 2 fun s => KU w B v way o (.tuple #[s,q]) w9)
theorem Qe4 (h : UC w0 w w2 B v v1 way (way ++ part) rb kb) (ht : Tree w0 (.node a ow part val ks kids)) (hf : (T.node a ow part val ks kids).er.ZV) (hlw : (way ++ part).length ≤ 1099511627775) (hlen : ∀ c,kids c ≠ .nil → (way ++ part).length + (kids c).er.long + 1 < 1099511627776)
  (he : Ext (fun c => v1.ownBlock = some c) w2 w') {z : Nat} (hone : kv.oneCell' = true) (hsome : ∀ p,(upL (kids b).er (way ++ part ++ [b]) r).head? = some p → Bs w' kv p.1 ∧ z = p.2 ∧ p.2 < 18446744073709551616) (hnone : (upL (kids b).er (way ++ part ++ [b]) r).head? = none → Own w' B Qm 1 v1 (way ++ part).length ((way ++ part).map bv))
  (hP : QZ w' pb [.slice none 0 0,u64 0] Zk) (hpw : w2.heap.size ≤ pb) (hR : QZ w' rb [.slice none 0 0,u64 0] Zk) :
  TL w B v v1 way (.node a ow part val ks kids) b (upL (T.node a ow part val ks kids).er way (part ++ b :: r)).head? rb (.agg #[kv,u64 z]) (.bool (upL (kids b).er (way ++ part ++ [b]) r).head?.isSome) ⟨pb,0,none⟩ w':=by
 have hz0:=h.ext.size
 have hz1:=he.size
 have hB:=h.hB
 have hfl:=h.fl
 have hresw:=h.Qyb
 have hne : rb ≠ pb:=fun e => by have:=h.res.lt; omega
 have hlist : (upL (T.node a ow part val ks kids).er way (part ++ b :: r)).head? = (upL (kids b).er (way ++ part ++ [b]) r).head?.or (D9 kids (way ++ part) (Q2v kids (b.toNat + 1))).head?:=by
  rw [Qpv,List.head?_append]
 refine KD hP (by kernel_rfl) hone rfl fun w6 hP6 hz6 Ke => ?_
 have hR6:=hR.ext Ke fun e => hne e
 have e06 : Ext (fun c => v1.ownBlock = some c) w2 w6:=he.trans Ke fun c hc e => by have e : c = pb:=e; omega
 have ew6 : Ext (fun c => v.ownBlock = some c) w w6:=h.ext.trans e06 fun c hc hh => (h.new c hh).elim id fun hh => by omega
 have eW : ∀ {w7 : World},Ext (· = rb) w6 w7 → Ext (fun c => v.ownBlock = some c) w w7:=fun e7 => ew6.trans e7 fun c hc e => by have e : c = rb:=e; omega
 cases ho : (upL (kids b).er (way ++ part ++ [b]) r).head? with
 | some p =>
   obtain ⟨g1,rfl,g3⟩:=hsome p ho
   refine Qr rfl ?_
   refine hP6.JH rfl ?_
   refine UF (kv:=kv) (z:=p.2) hR6 hone fun w7 Yy hz7 hb7 => ?_
   refine ⟨?_,eW Yy,fun hn => ?_⟩
   · rw [hlist,ho]
     exact ⟨kv,rfl,(g1.ext Ke (Ag hP (by omega))).ext Yy (Ag hR6 (by omega)),g3⟩
   · rw [hlist,ho] at hn; cases hn
 | none =>
   have o5:=hnone ho
   have o6:=o5.ext Ke fun c hc e => by
    have e : c = pb:=e
    subst e
    exact Own.neK o5 hP (by decide) hc
   refine Qp rfl ?_
   have hcb:=MV b
   refine xi (r:=(b.toNat : Int)) (QQ (by omega)) ?_
   refine xi (r:=((b.toNat + 1 : Nat) : Int)) (by rw [QQ (by omega)]; omega) ?_
   have h06 : Ext No w0 w6:=h.h02.trans e06 fun c hc hh => by have:=h.hvB c hh; omega
   refine (Qeg (i:=b.toNat + 1) ht hf h06 h.hB0 (by omega) h.fl o6 (by omega) (by omega) hlen).mono ?_
   rintro r2 w8 ⟨hr,KJ,Qzq⟩
   obtain ⟨kv2,z2,rfl,Q57,Q1u,Q7u⟩:=hr.two
   have hz8:=KJ.size
   have Re:=hR6.ext KJ fun hh => Own.neK o6 hR6 (by decide) hh
   refine UF (kv:=kv2) (z:=z2) Re Q57 fun w9 Ym hz9 hb9 => ?_
   have e28 : Ext (fun c => v1.ownBlock = some c) w2 w8:=e06.QI KJ
   refine ⟨?_,(h.ext.trans e28 fun c hc hh => (h.new c hh).elim id fun hh => by omega).trans Ym fun c hc e => by have e : c = rb:=e; omega,fun hn => ?_⟩
   · rw [hlist,ho]
     refine AR.of (fun p hp => ?_) Q7u
     obtain ⟨g1,g2,g3⟩:=Q1u p hp
     exact ⟨g1.ext Ym (Ag Re (by omega)),g2,g3⟩
   · rw [hlist,ho] at hn
     have o8:=h.back w8 e28 (Qzq hn)
     exact o8.ext Ym fun c hc e => by
      have e : c = rb:=e
      subst e
      exact Own.neK o8 Re (by decide) hc
theorem Qau (h : UC w0 w w2 B v v1 way (way ++ part) rb kb) (ih : UpS (kids b)) (ht : Tree w0 (.node a ow part val ks kids)) (hf : (T.node a ow part val ks kids).er.ZV) (hlw : (way ++ part).length ≤ 1099511627775) (hlen : ∀ c,kids c ≠ .nil → (way ++ part).length + (kids c).er.long + 1 < 1099511627776)
  (hk : Bs w0 kv r) (hrl : r.length ≤ 4611686018427387000) (hp : UP w2 w' B v1 v2 (way ++ part) b rb kb) :
  Q6 P ZI [.agg #[.bool false],(kids b).v,v2,kv] w' fun q w5 => Qb q 0 fun x => Qb q 1 fun y => Qs w5 [.slice none 0 0,.int .u64 0] Zk fun pb w6 => TL w B v v1 way (.node a ow part val ks kids) b (upL (T.node a ow part val ks kids).er way (part ++ b :: r)).head? rb x y pb w6:=by
 have hz:=h.ext.size
 have hz':=hp.ext.size
 have hB:=h.hB
 have hnv : ∀ c,v1.ownBlock = some c → w0.heap.size ≤ c:=h.hvB
 have h0' : Ext No w0 w':=h.h02.trans hp.ext fun c hc hh => by have:=hnv c hh; omega
 refine Q6.mono (ih (ht.2 b) (hf.2 b) hk hrl h0' h.hB0 (by omega) h.fl hp.own fun hn => by have:=hlen b hn; simp at this ⊢; omega) ?_
 rintro q w5 ⟨hr,ZR,hown5⟩
 obtain ⟨kv',z,rfl,hone,hsome,hnone⟩:=hr.two
 have hz5:=ZR.size
 refine Qz fun pb w6 hpb hP hz6 Ke => ?_
 have e25 : Ext (fun c => v1.ownBlock = some c) w2 w5:=hp.ext.trans ZR fun c hc hh => (hp.new c hh).elim id fun hh => by omega
 refine Qe4 h ht hf hlw hlen (e25.Q0 Ke) hone (fun p hp' => ?_) (fun hn => (hp.back w5 ZR (hown5 hn)).Q4 Ke) hP (by omega) ((hp.res.ext ZR fun hh => Own.neK hp.own hp.res (by decide) hh).ext Ke fun h => h)
 obtain ⟨g1,g2,g3⟩:=hsome p hp'
 exact ⟨g1.Q4 Ke,g2,g3⟩
theorem Ci (h : UC w0 w w2 B v v1 way (way ++ part) rb kb) (ih : UpS (kids b)) (ht : Tree w0 (.node a ow part val ks kids)) (hf : (T.node a ow part val ks kids).er.ZV) (hlw : (way ++ part).length ≤ 1099511627775) (hlen : ∀ c,kids c ≠ .nil → (way ++ part).length + (kids c).er.long + 1 < 1099511627776)
  (hk : Bs w0 kv r) (hrl : r.length ≤ 4611686018427387000) (hp : UP w2 w' B v1 v2 (way ++ part) b rb kb) (hP : QZ w' pb [.slice none 0 0,.int .u64 0] Zk) (hpw : w2.heap.size ≤ pb) :
  Q6 P ZI [.agg #[.bool false],(kids b).v,v2,kv] w' fun q w5 => Qb q 0 fun x => Qb q 1 fun y => TL w B v v1 way (.node a ow part val ks kids) b (upL (T.node a ow part val ks kids).er way (part ++ b :: r)).head? rb x y ⟨pb,0,none⟩ w5:=by
 have hz:=h.ext.size
 have hz':=hp.ext.size
 have hB:=h.hB
 have hnv : ∀ c,v1.ownBlock = some c → w0.heap.size ≤ c:=h.hvB
 have h0' : Ext No w0 w':=h.h02.trans hp.ext fun c hc hh => by have:=hnv c hh; omega
 refine Q6.mono (ih (ht.2 b) (hf.2 b) hk hrl h0' h.hB0 (by omega) h.fl hp.own fun hn => by have:=hlen b hn; simp at this ⊢; omega) ?_
 rintro q w5 ⟨hr,ZR,hown5⟩
 obtain ⟨kv',z,rfl,hone,hsome,hnone⟩:=hr.two
 have hz5:=ZR.size
 have e25 : Ext (fun c => v1.ownBlock = some c) w2 w5:=hp.ext.trans ZR fun c hc hh => (hp.new c hh).elim id fun hh => by omega
 exact Qe4 h ht hf hlw hlen e25 hone hsome (fun hn => hp.back w5 ZR (hown5 hn)) (hP.ext ZR fun hh => Own.neK hp.own hP (by decide) hh) hpw (hp.res.ext ZR fun hh => Own.neK hp.own hp.res (by decide) hh)
end
section
variable {a ow : Nat} {part : Key} {val : Option Nat} {ks : List Nat} {kids : UInt8 → T}
theorem Q7K : Q2v kids 0 = dom (ptrs kids):=List.filter_eq_self.2 fun c _ => by simp
set_option maxRecDepth 100000 in
theorem c_up : ∀ t : T,UpS t:=by
 intro t
 induction t with
 | nil =>
   intro w0 w k way kv v B ht hf hk hkl h0 hB0 hB hfl hv hlen
   refine Nz ?_
   refine Qz fun kb w1 hkb hK hz1 he1 => ?_
   refine Qz fun rb w2 hrb hR hz2 he2 => ?_
   refine Ka T.nil ?_
   refine Qr rfl ?_
   refine UF (kv:=.slice none 0 0) (z:=0) hR rfl fun w3 QE hz3 hb3 => ?_
   have e : Ext No w w3:=(he1.Q0 he2).Z0 QE (by have:=he1.size; omega)
   exact ⟨rfl,e.mono fun _ _ h => h.elim,fun _ => hv.Q4 e⟩
 | node a ow part val ks kids ih =>
   intro w0 w k way kv v B ht hf hk hkl h0 hB0 hB hfl hv hlen'
   have hlen:=hlen' (by simp)
   have hvB : ∀ b,v.ownBlock = some b → w0.heap.size ≤ b:=fun b hb => by have:=(hv.ge hb).1; omega
   have hlong : (T.node a ow part val ks kids).er.long = CZ ((dom (ptrs kids)).map fun c => (kids c).er.long + 1) + part.length:=by
    show (E.node part val fun c => (kids c).er).long = _
    rw [E.Ky,Ec]
   have hsh:=ht.1.short
   refine Nz ?_
   refine Qz fun kb w1 hkb hK hz1 he1 => ?_
   have hK : QZ w1 kb [.bool false] Bp:=hK
   refine Qz fun rb w2 hrb hR hz2 he2 => ?_
   have hR : QZ w2 rb [.slice none 0 0,u64 0] Zk:=hR
   have hzz:=he1.size
   refine Vn (t:=.node a ow part val ks kids) (by simp) ?_
   refine Qp rfl ?_
   have hw2:=he1.Q0 he2
   have h02:=h0.Q0 hw2
   refine (QqQ (t:=.node a ow part val ks kids) (by simp) (ht.Q4 h02)).mono ?_
   rintro pv w3 ⟨hpo,QE⟩
   have hpo : Own w3 w2.heap.size Qm 1 pv part.length (part.map bv):=hpo
   have hpv : Bs w3 pv part:=Bs.of hpo.sl
   have hw3:=hw2.Q0 QE
   have h03:=h0.Q0 hw3
   refine (Hl hpv (hk.Q4 h03) (by omega) (by omega)).mono ?_
   rintro _ w4 ⟨rfl,Zl⟩
   have hw4:=hw3.Q0 Zl
   have h04:=h0.Q0 hw4
   have hp4:=hpv.Q4 Zl
   have hk4:=hk.Q4 h04
   obtain ⟨c,q,r,ha0,hb0,hc0,hdf⟩:=Yf part k
   rw [← hc0]
   have OX : part.length = c.length + q.length:=by rw [ha0,List.length_append]
   have Rb : k.length = c.length + r.length:=by rw [hb0,List.length_append]
   have hR4:=(hR.ext QE fun h => h).ext Zl fun h => h
   have hK4:=((hK.ext he2 fun h => h).ext QE fun h => h).ext Zl fun h => h
   have Ro:=hw4.size
   have hD : DW w0 w w4 B v v way:=⟨hw4.mono fun _ _ h => h.elim,hv.Q4 hw4,fun b h => .inl h⟩
   refine hD.app (by omega) hp4 (by omega) fun v1 w5 hD5 ZR hnew5 Qn9 => ?_
   have hz5:=ZR.size
   have hR5:=hR4.ext ZR fun h => Own.neK hD.own hR4 (by decide) h
   have hK5:=hK4.ext ZR fun h => Own.neK hD.own hK4 (by decide) h
   have h05:=hD5.e0 h0 hvB
   have hd5:=Ext.drew (Ext.refl No w5)
   have hvw:=Qn9 w5 (Ext.refl _ _) hD5.own
   have hpo5:=(hpo.Q4 Zl).ext ZR fun c hc hh => by
    have h1:=(hpo.ge hc).1
    have h2:=(hv.ge hh).2
    have:=hw2.size
    omega
   have hp5 : Bs w5 pv part:=Bs.of hpo5.sl
   have hk5:=hk.Q4 h05
   have hrbw : w.heap.size ≤ rb:=by omega
   have Rc : UC w0 w w5.drew B v v1 way (way ++ part) rb kb:=⟨h05.Q0 hd5,hB0,hB,hfl,hD5.ext.Q0 hd5,hD5.own.Q4 hd5,hD5.new,fun w'' e ho => Qn9 w'' ((hd5.mono fun _ _ h => h.elim).QI e) ho,hR5.ext hd5 fun h => h,hrbw,hK5.ext hd5 fun h => h⟩
   have hKx : ∀ {w'' : World},Ext No w5.drew w'' → QZ w'' kb [.bool false] Bp:=fun e => Rc.kn.ext e fun h => h
   have Q9n : (way ++ part).length ≤ 1099511627775:=by rw [List.length_append]; omega
   have Sj : ∀ c,kids c ≠ .nil → (way ++ part).length + (kids c).er.long + 1 < 1099511627776:=fun c hn => by
    have hcd : c ∈ dom (ptrs kids):=Zd.2 (T.Q29 hn)
    have hcl:=Ay (l:=(dom (ptrs kids)).map fun c => (kids c).er.long + 1) (List.mem_map.2 ⟨c,hcd,rfl⟩)
    rw [List.length_append]
    omega
   have htw : ∀ {w'' : World},Ext No w5.drew w'' → Tree w'' (.node a ow part val ks kids):=fun e => ht.Q4 ((h05.Q0 hd5).Q0 e)
   have stN : ∀ {K : Value → World → Prop} {o : Option (Key × Nat)},(∀ w' ,Ext (fun c => v.ownBlock = some c) w w' → Own w' B Qm 1 v way.length (way.map bv) → K (.agg #[.slice none 0 0,u64 0]) w') → Yn P (storeVar Zk ⟨rb,0,none⟩ (.agg #[.slice none 0 0,u64 0])) w5.drew fun w' => Qo w' ⟨rb,0,none⟩ 2 fun v => K v w':=fun {K o} k => UF (kv:=.slice none 0 0) (z:=0) Rc.res rfl fun w6 Ke hz6 hb6 => by
    refine k w6 (Rc.ext.trans Ke fun c hc e => by have e : c = rb:=e; omega) ?_
    have o5:=hvw.Q4 hd5
    exact o5.ext Ke fun c hc e => by
     have e : c = rb:=e
     subst e
     exact Own.neK o5 Rc.res (by decide) hc
   have QB9:=h05.Q0 hd5
   refine xj (fun vs w' => ∃ t : Bool,vs = [.bool t] ∧ w' = w5.drew ∧ (t = true ↔ ∃ x q' y r',q = x :: q' ∧ r = y :: r' ∧ x.toNat < y.toNat)) ?_ ?_
   · refine hp5.len ?_
     refine ZF (fun h1 => ?_) fun h1 => ⟨false,rfl,rfl,?_⟩
     · refine hk5.len ?_
       refine ZF (fun h2 => ?_) fun h2 => ⟨false,rfl,rfl,?_⟩
       · cases q with
         | nil => simp at OX; omega
         | cons x q' =>
           cases r with
           | nil => simp at Rb; omega
           | cons y r' =>
             have hx : part[c.length]? = some x:=by rw [ha0]; simp
             obtain ⟨hxl,hxe⟩:=List.getElem?_eq_some_iff.1 hx
             have hy : k[c.length]? = some y:=by rw [hb0]; simp
             obtain ⟨hyl,hye⟩:=List.getElem?_eq_some_iff.1 hy
             refine (hp5.Q4 hd5).rd c.length hxl rfl ?_
             refine (hk5.Q4 hd5).rd c.length hyl rfl ?_
             rw [hxe,hye]
             refine ⟨_,rfl,rfl,?_⟩
             rw [decide_eq_true_iff]
             constructor
             · intro h; exact ⟨x,q',y,r',rfl,rfl,by omega⟩
             · rintro ⟨_,_,_,_,e1,e2,h⟩
               injection e1 with e1 _
               injection e2 with e2 _
               subst e1 e2
               omega
       · constructor
         · intro h; cases h
         · rintro ⟨x,q',y,r',rfl,rfl,h⟩
           simp at Rb
           omega
     · constructor
       · intro h; cases h
       · rintro ⟨x,q',y,r',rfl,rfl,h⟩
         simp at OX
         omega
   rintro vs g w5' ⟨t,rfl,rfl,ht5⟩
   cases t with
   | true =>
     obtain ⟨x,q',y,r',rfl,rfl,hxy⟩:=ht5.1 rfl
     refine Qr rfl ?_
     have hno : upL (T.node a ow part val ks kids).er way k = []:=Qlk fun s => by
      rw [ha0,hb0,List.append_assoc,List.cons_append]
      exact (Q2k fun e => by rw [e] at hxy; omega).2 hxy
     refine stN (o:=none) fun w6 e6 o6 => ?_
     rw [hno]
     exact ⟨rfl,e6,fun _ => o6⟩
   | false =>
     refine Qp rfl ?_
     refine (hp5.Q4 hd5).len ?_
     cases q with
     | cons x q' =>
       simp at OX
       refine ZF (fun _ => ?_) fun h => absurd (by omega) h
       have hall : upL (T.node a ow part val ks kids).er way k = (T.node a ow part val ks kids).er.list way:=Qhu fun s => by
        cases r with
        | nil =>
          rw [List.append_nil] at hb0
          rw [ha0,hb0,List.append_assoc]
          exact Qbb
        | cons y r' =>
          rw [ha0,hb0,List.append_assoc,List.cons_append]
          have hne:=hdf x y q' r' rfl rfl
          intro h
          have:=(Q2k hne).1 h
          exact absurd (ht5.2 ⟨x,q',y,r',rfl,rfl,this⟩) (by simp)
       refine (QbM (t:=.node a ow part val ks kids) ht hf QB9 hB0 (by have:=hd5.size; omega) hfl (hvw.Q4 hd5) (by omega)).mono ?_
       rintro r2 w8 ⟨hr,KJ,-⟩
       obtain ⟨kv2,z2,rfl,Q57,Q1u,Q7u⟩:=hr.two
       have hz8:=KJ.size
       have Re:=Rc.res.ext KJ fun hh => Own.neK (hvw.Q4 hd5) Rc.res (by decide) hh
       refine UF (kv:=kv2) (z:=z2) Re Q57 fun w9 Ym hz9 hb9 => ?_
       rw [hall]
       refine ⟨?_,((Rc.ext.QI KJ).trans Ym fun c hc e => by have e : c = rb:=e; omega),fun hn => ?_⟩
       · refine AR.of (fun p hp => ?_) Q7u
         obtain ⟨g1,g2,g3⟩:=Q1u p hp
         exact ⟨g1.ext Ym (Ag Re (by omega)),g2,g3⟩
       · have hne:=Q2g (t:=.node a ow part val ks kids) hf (by simp) way
         cases hq : (T.node a ow part val ks kids).er.list way with
         | nil => exact absurd hq hne
         | cons x r => rw [hq] at hn; cases hn
     | nil =>
       rw [List.append_nil] at ha0
       simp at OX
       subst ha0
       refine ZF (fun h => absurd h (by omega)) fun _ => ?_
       refine (hk5.Q4 hd5).len ?_
       cases r with
       | cons b r' =>
         simp at Rb
         refine ZF (fun _ => ?_) fun h => absurd (by omega) h
         subst hb0
         have hb : (part ++ b :: r')[part.length]? = some b:=by simp
         obtain ⟨hbl,hbe⟩:=List.getElem?_eq_some_iff.1 hb
         refine (hk5.Q4 hd5).rd part.length hbl rfl ?_
         rw [hbe]
         refine (hKx (Ext.refl _ _)).drew.JH rfl ?_
         refine xi (r:=((part.length + 1 : Nat) : Int)) (by rw [QQ (by omega)]; omega) ?_
         refine hk.drop (part.length + 1) rfl (by omega) fun kv' hkr => ?_
         have hkd : (part ++ b :: r').drop (part.length + 1) = r':=by rw [← List.drop_drop,List.drop_left]; rfl
         rw [hkd] at hkr
         have hrl : r'.length ≤ 4611686018427387000:=by omega
         have hdd : Ext No w5.drew w5.drew.drew:=Ext.drew (Ext.refl No w5.drew)
         have Rc:=Rc.Q4 hdd
         have hKx : ∀ {w'' : World},Ext No w5.drew.drew w'' → QZ w'' kb [.bool false] Bp:=fun e => Rc.kn.ext e fun h => h
         have htw : ∀ {w'' : World},Ext No w5.drew.drew w'' → Tree w'' (.node a ow part val ks kids):=fun e => htw (hdd.Q0 e)
         refine ⟨?_,?_,?_⟩
         ·
          refine (FI (t:=.node a ow part val ks kids) (htw (Ext.refl No w5.drew.drew)) (b:=b)).mono ?_
          rintro _ wk1 ⟨rfl,hk1⟩
          have hx1:=((Ext.refl No w5.drew.drew)).Q0 hk1
          refine ⟨J6 (hKx hx1),?_⟩
          refine ⟨?_,?_⟩
          ·
           show Qs wk1 ([b].map bv) Qm _
           refine Qz fun sb2 wk2 hsb2 hsk2 hz2 hk2 => ?_
           have hx2:=(hx1).Q0 hk2
           have hs2 : Bs wk2 (.slice (some ⟨sb2,0,none⟩) 1 1) [b]:=Bs.new' (k:=[b]) hsk2
           refine ⟨J6 (hKx hx2),?_⟩
           refine ⟨?_,?_⟩
           ·
            refine Rc.app (b:=b) (hx2) (hs2) (by omega) fun v3 wk3 hU3 hkp3 => ?_
            refine ⟨J6 hU3.kn,?_⟩
            refine ⟨?_,?_⟩
            ·
             exact Qau Rc (ih b) ht hf Q9n Sj hkr hrl hU3
            ·
             refine Qz fun pb4 wk4 hpb4 hP4 Ro hk4 => ?_
             have hw4 : w5.drew.drew.heap.size ≤ pb4:=by have:=hU3.ext.size; omega
             have hU4:=hU3.Q4 hk4
             refine ⟨J6 hU4.kn,?_⟩
             exact Ci Rc (ih b) ht hf Q9n Sj hkr hrl hU4 (hP4) hw4
           ·
            refine Qz fun pb5 wk5 hpb5 hP5 hz5 hk5 => ?_
            have hx5:=(hx2).Q0 hk5
            have Pn : w5.drew.drew.heap.size ≤ pb5:=by have:=(hx2).size; omega
            refine ⟨J6 (hKx hx5),?_⟩
            refine Rc.app (b:=b) (hx5) ((hs2).Q4 hk5) (by omega) fun v6 wk6 hU6 hkp6 => ?_
            refine ⟨J6 hU6.kn,?_⟩
            exact Ci Rc (ih b) ht hf Q9n Sj hkr hrl hU6 (hkp6 _ _ (hP5)) Pn
          ·
           refine Qz fun pb7 wk7 Qq0 hP7 hz7 hk7 => ?_
           have hx7:=(hx1).Q0 hk7
           have hw7 : w5.drew.drew.heap.size ≤ pb7:=by have:=(hx1).size; omega
           refine ⟨J6 (hKx hx7),?_⟩
           show Qs wk7 ([b].map bv) Qm _
           refine Qz fun sb8 wk8 hsb8 hsk8 hz8 hk8 => ?_
           have hx8:=(hx7).Q0 hk8
           have hs8 : Bs wk8 (.slice (some ⟨sb8,0,none⟩) 1 1) [b]:=Bs.new' (k:=[b]) hsk8
           refine ⟨J6 (hKx hx8),?_⟩
           refine Rc.app (b:=b) (hx8) (hs8) (by omega) fun v9 wk9 hU9 hkp9 => ?_
           refine ⟨J6 hU9.kn,?_⟩
           exact Ci Rc (ih b) ht hf Q9n Sj hkr hrl hU9 (hkp9 _ _ ((hP7).ext hk8 fun h => h)) hw7
         ·
          show Qs w5.drew.drew ([b].map bv) Qm _
          refine Qz fun sb10 wk10 hsb10 Qzc QyM hk10 => ?_
          have Qmo:=((Ext.refl No w5.drew.drew)).Q0 hk10
          have Qum : Bs wk10 (.slice (some ⟨sb10,0,none⟩) 1 1) [b]:=Bs.new' (k:=[b]) Qzc
          refine ⟨J6 (hKx Qmo),?_⟩
          refine ⟨?_,?_⟩
          ·
           refine (FI (t:=.node a ow part val ks kids) (htw Qmo) (b:=b)).mono ?_
           rintro _ wk11 ⟨rfl,QuN⟩
           have QpT:=(Qmo).Q0 QuN
           refine ⟨J6 (hKx QpT),?_⟩
           refine ⟨?_,?_⟩
           ·
            refine Rc.app (b:=b) (QpT) ((Qum).Q4 QuN) (by omega) fun v12 wk12 Qqd hkp12 => ?_
            refine ⟨J6 Qqd.kn,?_⟩
            refine ⟨?_,?_⟩
            ·
             exact Qau Rc (ih b) ht hf Q9n Sj hkr hrl Qqd
            ·
             refine Qz fun pb13 wk13 hpb13 hP13 QyJ hk13 => ?_
             have Qj5 : w5.drew.drew.heap.size ≤ pb13:=by have:=Qqd.ext.size; omega
             have QAF:=Qqd.Q4 hk13
             refine ⟨J6 QAF.kn,?_⟩
             exact Ci Rc (ih b) ht hf Q9n Sj hkr hrl QAF (hP13) Qj5
           ·
            refine Qz fun pb14 wk14 hpb14 hP14 hz14 QzW => ?_
            have QyS:=(QpT).Q0 QzW
            have QpU : w5.drew.drew.heap.size ≤ pb14:=by have:=(QpT).size; omega
            refine ⟨J6 (hKx QyS),?_⟩
            refine Rc.app (b:=b) (QyS) (((Qum).Q4 QuN).Q4 QzW) (by omega) fun v15 wk15 QAE QzO => ?_
            refine ⟨J6 QAE.kn,?_⟩
            exact Ci Rc (ih b) ht hf Q9n Sj hkr hrl QAE (QzO _ _ (hP14)) QpU
          ·
           refine Qz fun pb16 wk16 hpb16 hP16 hz16 Qq4 => ?_
           have hx16:=(Qmo).Q0 Qq4
           have hw16 : w5.drew.drew.heap.size ≤ pb16:=by have:=(Qmo).size; omega
           refine ⟨J6 (hKx hx16),?_⟩
           refine (FI (t:=.node a ow part val ks kids) (htw hx16) (b:=b)).mono ?_
           rintro _ wk17 ⟨rfl,QuM⟩
           have QyR:=(hx16).Q0 QuM
           refine ⟨J6 (hKx QyR),?_⟩
           refine Rc.app (b:=b) (QyR) (((Qum).Q4 Qq4).Q4 QuM) (by omega) fun v18 wk18 QAD QzN => ?_
           refine ⟨J6 QAD.kn,?_⟩
           exact Ci Rc (ih b) ht hf Q9n Sj hkr hrl QAD (QzN _ _ ((hP16).ext QuM fun h => h)) hw16
         ·
          refine Qz fun pb19 wk19 hpb19 QAJ hz19 hk19 => ?_
          have QpS:=((Ext.refl No w5.drew.drew)).Q0 hk19
          have QyT : w5.drew.drew.heap.size ≤ pb19:=by have:=((Ext.refl No w5.drew.drew)).size; omega
          refine ⟨J6 (hKx QpS),?_⟩
          refine ⟨?_,?_⟩
          ·
           refine (FI (t:=.node a ow part val ks kids) (htw QpS) (b:=b)).mono ?_
           rintro _ wk20 ⟨rfl,QzV⟩
           have QyQ:=(QpS).Q0 QzV
           refine ⟨J6 (hKx QyQ),?_⟩
           show Qs wk20 ([b].map bv) Qm _
           refine Qz fun sb21 wk21 hsb21 Qzb hz21 QzU => ?_
           have QyP:=(QyQ).Q0 QzU
           have hs21 : Bs wk21 (.slice (some ⟨sb21,0,none⟩) 1 1) [b]:=Bs.new' (k:=[b]) Qzb
           refine ⟨J6 (hKx QyP),?_⟩
           refine Rc.app (b:=b) (QyP) (hs21) (by omega) fun v22 wk22 QAC QzM => ?_
           refine ⟨J6 QAC.kn,?_⟩
           exact Ci Rc (ih b) ht hf Q9n Sj hkr hrl QAC (QzM _ _ (((QAJ).ext QzV fun h => h).ext QzU fun h => h)) QyT
          ·
           show Qs wk19 ([b].map bv) Qm _
           refine Qz fun sb23 wk23 hsb23 Qza hz23 QzT => ?_
           have Qud:=(QpS).Q0 QzT
           have hs23 : Bs wk23 (.slice (some ⟨sb23,0,none⟩) 1 1) [b]:=Bs.new' (k:=[b]) Qza
           refine ⟨J6 (hKx Qud),?_⟩
           refine (FI (t:=.node a ow part val ks kids) (htw Qud) (b:=b)).mono ?_
           rintro _ wk24 ⟨rfl,QuL⟩
           have hx24:=(Qud).Q0 QuL
           refine ⟨J6 (hKx hx24),?_⟩
           refine Rc.app (b:=b) (hx24) ((hs23).Q4 QuL) (by omega) fun v25 wk25 QAB QzL => ?_
           refine ⟨J6 QAB.kn,?_⟩
           exact Ci Rc (ih b) ht hf Q9n Sj hkr hrl QAB (QzL _ _ (((QAJ).ext QzT fun h => h).ext QuL fun h => h)) QyT
       | nil =>
         rw [List.append_nil] at hb0
         have hb1:=hb0.symm
         subst hb1
         refine ZF (fun h => absurd h (by omega)) fun _ => ?_
         have hall : upL (T.node a ow part val ks kids).er way part = (T.node a ow part val ks kids).er.list way:=Qhu fun s => Qbb
         have hlist : (T.node a ow part val ks kids).er.list way = Q1m (way ++ part) val ++ D9 kids (way ++ part) (dom (ptrs kids)):=Nb
         have hbs : Bs w5.drew v1 (way ++ part):=Bs.of Rc.own.sl
         refine (QgB (t:=.node a ow part val ks kids) (htw (Ext.refl _ _)) hbs (by have:=Rc.ext.size; omega)).mono ?_
         rintro q6 w6 ⟨hr,Ke⟩
         obtain ⟨kv2,z2,rfl,Q57,Q1u,Q7u⟩:=hr.two
         refine Qz fun pb w7 hpb hP hz7 Yy => ?_
         refine KD hP (by kernel_rfl) Q57 rfl fun w8 hP8 hz8 KJ => ?_
         have h68 : Ext No w6 w8:=Yy.Z0 KJ (by omega)
         have h58:=Ke.Q0 h68
         have Re:=Rc.res.ext h58 fun h => h
         have e08:=QB9.Q0 h58
         have ew8:=Rc.ext.Q0 h58
         have hsz:=Rc.ext.size
         have hsz8:=h58.size
         have hK8:=hKx h58
         rw [hall,hlist]
         cases val with
         | some z =>
           obtain ⟨g1,rfl,g3⟩:=Q1u (way ++ part,z) rfl
           refine xj (fun vs w' => vs = [.bool true] ∧ w' = w8) ?_ ?_
           · refine Qr rfl ?_
             refine hK8.ld (o:=0) (v:=.bool false) rfl ?_
             exact ⟨rfl,rfl⟩
           rintro vs g w9 ⟨rfl,rfl⟩
           refine Qr rfl ?_
           refine hP8.JH rfl ?_
           refine UF (kv:=kv2) (z:=z2) Re Q57 fun w9 Ym hz9 hb9 => ?_
           refine ⟨⟨kv2,rfl,(g1.Q4 h68).ext Ym (Ag Re (by omega)),g3⟩,ew8.trans Ym fun c hc e => by have e : c = rb:=e; omega,fun hn => by cases hn⟩
         | none =>
           refine xj (fun vs w' => vs = [.bool false] ∧ w' = w8) ?_ ?_
           · exact Qp rfl ⟨rfl,rfl⟩
           rintro vs g w9 ⟨rfl,rfl⟩
           refine Qp rfl ?_
           have o8:=Rc.own.Q4 h58
           refine (Qeg (i:=0) ht hf e08 hB0 (by omega) hfl o8 (by omega) (by omega) Sj).mono ?_
           rintro q9 Dn ⟨hr9,J9,QmF⟩
           obtain ⟨kv3,z3,rfl,Qzu,Qmv,QmL⟩:=hr9.two
           rw [Q7K] at Qmv QmL QmF
           have hsz10:=J9.size
           have Qvc:=Re.ext J9 fun hh => Own.neK o8 Re (by decide) hh
           rw [Q7K]
           refine UF (kv:=kv3) (z:=z3) Qvc Qzu fun AL K9 QyL Q5T => ?_
           have e58 : Ext (fun c => v1.ownBlock = some c) w5.drew Dn:=(h58.mono fun _ _ h => h.elim).QI J9
           refine ⟨?_,(Rc.ext.trans e58 fun c hc hh => (Rc.new c hh).elim id fun hh => by omega).trans K9 fun c hc e => by have e : c = rb:=e; omega,fun hn => ?_⟩
           · refine AR.of (fun p hp => ?_) QmL
             obtain ⟨g1,g2,g3⟩:=Qmv p hp
             exact ⟨g1.ext K9 (Ag Qvc (by omega)),g2,g3⟩
           · have o10:=Rc.back Dn e58 (QmF hn)
             exact o10.ext K9 fun c hc e => by
              have e : c = rb:=e
              subst e
              exact Own.neK o10 Qvc (by decide) hc
theorem Qow {w : World} {t : T} {k : Key} {kv : Value} (ht : Tree w t) (hf : t.er.ZV) (hfl : Floor.n ≤ w.heap.size) (hl : t.er.long ≤ 65535) (hk : Bs w kv k) (hkl : k.length ≤ 4611686018427387000) : Q6 P RZ [t.v,kv] w fun r w' => AR w' r (upL t.er [] k).head? ∧ Ext No w w':=by
 refine QeQ ?_
 refine Qz fun rb w1 hrb hR hz1 he1 => ?_
 have hR : QZ w1 rb [.slice none 0 0,u64 0] Zk:=hR
 refine Q6.mono (show Q6 P ZI [.agg #[.bool false],t.v,.slice none 0 0,kv] w1 _ from c_up t (w0:=w) (B:=w1.heap.size) (way:=[]) ht hf hk hkl he1 he1.size (Nat.le_refl _) (by omega) (Own.nil _ _ _ _) (fun _ => by simp; omega)) ?_
 rintro r w2 ⟨hr,he2,-⟩
 obtain ⟨kv,x,rfl,hone,hsome,hnone⟩:=hr.two
 have he2 : Ext No w1 w2:=he2.mono fun b _ h => by cases h
 have hR2:=hR.ext he2 fun h => h
 refine UF (kv:=kv) (z:=x) hR2 hone fun w8 KJ hz8 hb8 => ?_
 refine ⟨AR.of (fun p hp => ?_) hnone,(he1.Q0 he2).Z0 KJ (by omega)⟩
 obtain ⟨h1,h2,h3⟩:=hsome p hp
 exact ⟨h1.ext KJ (Ag hR2 (by omega)),h2,h3⟩
end
end Go.Proofs.YtbnhggfiembejaaGreatDoor
end
section
namespace Go.Proofs.YtbnhggfiembejaaGreatDoor
open Go Go.RowKit X
set_option linter.unusedSimpArgs false
set_option linter.unusedVariables false
set_option linter.unusedSectionVars false
theorem Q2q {a b : Key} : (Uv a b ≥ 0) ↔ ¬ Xr a b:=by unfold Xr; omega
theorem QhE {a b : Key} : (Uv a b ≤ 0) ↔ ¬ Xr b a:=by unfold Xr; rw [Qdu a b]; omega
theorem Vg {k key : Key} : Q2z false k key = decide (Xr key k):=by unfold Q2z; cases decide (Xr key k) <;> rfl
theorem RL {p q : Key → Bool} {l : Kv} (h : ∀ x ∈ l,p x.1 = q x.1) : Ja p l = Ja q l:=List.filter_congr h
theorem QcU {f t : Key} {l : Kv} : Yz false t (Yz true f l) = Ja (KM f t false) l:=by
 rw [Yz,Yz,QfC]
 refine RL fun x _ => ?_
 rw [Vg,Xm]
 unfold KM
 cases decide (Xr x.1 t) <;> cases decide (Xr x.1 f) <;> rfl
theorem Qa2 {f t : Key} {l : Kv} : Yz true f l = Ja (KM f t true) l:=by
 refine RL fun x _ => ?_
 rw [Xm]
 unfold KM
 cases decide (Xr x.1 f) <;> rfl
abbrev Fe (f t : Key) (op : Bool) : Key → Bool:=fun k => !KM f t op k
theorem QlP {f t : Key} {l : Kv} : Yz false f l = Ja (Fe f t true) l:=by
 refine RL fun x _ => ?_
 rw [Vg]
 unfold Fe KM
 cases decide (Xr x.1 f) <;> rfl
theorem QpH {f t : Key} {l : Kv} (h : Zp l) : Cz 1 (Yz false f l) (Yz true t l) = Ja (Fe f t false) l:=by
 refine (OE _ _ _).ext (UG h) fun k => ?_
 rw [WA (UG h) (UG h),Xy,Xy,Xy,Vg,Xm]
 unfold Fe KM
 cases decide (Xr k f) <;> cases decide (Xr k t) <;> cases look l k <;> rfl
def Yk (l m : Kv) : Nat:=match l.getLast?,m.head? with
 | some p,some q => if Xr p.1 q.1 then 0 else 12
 | _,_ => 0
theorem Q55 {l m : Kv} (hl : Zp l) (hm : Zp m) (h : Yk l m = 0) : Zp (l ++ m):=by
 refine Q3K.2 ⟨hl,hm,fun x hx y hy => ?_⟩
 cases h1 : l.getLast? with
 | none => rw [List.getLast?_eq_none_iff] at h1; rw [h1] at hx; cases hx
 | some p =>
   cases m with
   | nil => cases hy
   | cons q r =>
     have h2 : Yk l (q :: r) = if Xr p.1 q.1 then 0 else 12:=by unfold Yk; rw [h1]; rfl
     rw [h2] at h
     split at h
     · rename_i hpq
       have k1:=hl.last h1 hx
       have k2:=hm.first hy
       rcases k1 with k1 | rfl <;> rcases k2 with k2 | rfl
       · exact Az k1 (Az hpq k2)
       · exact Az k1 hpq
       · exact Az hpq k2
       · exact hpq
     · cases h
variable [Floor]
section
variable {w : World} {a b : T} {l m : Kv} {o n : Nat} {mt : Option Y3} {k : Key} {kv : Value}
structure CuR (w w' : World) (a : T) (l m : Kv) (t' : T) (mt : Option Y3) (n n' : Nat) : Prop where
 ct : Ct w' t' m
 cnt : Mt w' mt n'
 ext : Ext (MX mt) w w'
 idle : m = l → t' = a ∧ n' = n
theorem QsU {up : Bool} (ha : Ct w a l) (hl : Pr l) (hk : Bs w kv k) (hkl : k.length ≤ 1000000) (hmt : Mt w mt n) (ho : o ≠ 0) :
  Q6 P YJ [knV up o mt,a.v,kv] w fun r w' => ∃ t' n',r = t'.v ∧ CuR w w' a l (Yz up k l) t' mt n n' ∧ n' ≤ n + a.steps k:=by
 refine (QBH ho a ha.tree ha.can.fine ha.QR (ha.long hl) hk (by omega) hmt).mono ?_
 rintro _ w2 ⟨t',n',rfl,hR,hle⟩
 have hg : ∀ key,gC up a.er k key = look (Yz up k l) key:=fun key => by
  rw [QjH]
  unfold gC
  rw [ha.can.get key]
 exact ⟨t',n',rfl,⟨⟨hR.tree,hR.can.congr hg,hR.QR⟩,hR.cnt,hR.ext,fun e => hR.idle fun key => by rw [hg,e,ha.can.get key]⟩,hle⟩
theorem Qr8 (ha : Ct w a l) (hl : Pr l) (hk : Bs w kv k) (hkl : k.length ≤ 1000000) (hmt : Mt w mt n) (ho : o ≠ 0) :
  Q6 P WE [a.v,kv,.int .u64 o,mv mt] w fun r w' => ∃ t' n',r = .tuple #[t'.v,.int .i64 0] ∧ CuR w w' a l (Yz false k l) t' mt n n' ∧ n' ≤ n + a.steps k:=by
 refine Q5n ?_
 refine Vu (fun h => absurd (by omega) ho) fun _ => ?_
 refine Q6.mono (show Q6 P YJ [knV false o mt,a.v,kv] w _ from QsU ha hl hk hkl hmt ho) ?_
 rintro _ w2 ⟨t',n',rfl,hR⟩
 exact ⟨t',n',rfl,hR⟩
theorem Qr4 (ha : Ct w a l) (hl : Pr l) (hk : Bs w kv k) (hkl : k.length ≤ 1000000) (hmt : Mt w mt n) (ho : o ≠ 0) :
  Q6 P UX [a.v,kv,.int .u64 o,mv mt] w fun r w' => ∃ t' n',r = .tuple #[t'.v,.int .i64 0] ∧ CuR w w' a l (Yz true k l) t' mt n n' ∧ n' ≤ n + a.steps k:=by
 refine Q8A ?_
 refine Vu (fun h => absurd (by omega) ho) fun _ => ?_
 refine Q6.mono (show Q6 P YJ [knV true o mt,a.v,kv] w _ from QsU ha hl hk hkl hmt ho) ?_
 rintro _ w2 ⟨t',n',rfl,hR⟩
 exact ⟨t',n',rfl,hR⟩
theorem Qc1 {x y z : Value} : Q6 P WE [x,y,.int .u64 (0 : Nat),z] w fun r w' => r = .tuple #[.pointer none,.int .i64 1] ∧ Ext No w w':=by
 refine Q5n ?_
 exact Qr rfl ⟨rfl,Ext.refl _ _⟩
theorem Qib {x y z : Value} : Q6 P UX [x,y,.int .u64 (0 : Nat),z] w fun r w' => r = .tuple #[.pointer none,.int .i64 1] ∧ Ext No w w':=by
 refine Q8A ?_
 exact Qr rfl ⟨rfl,Ext.refl _ _⟩
theorem QqO {x y z : Value} : Q6 P Cf [x,y,.int .u64 (0 : Nat),z] w fun r w' => r = .tuple #[.pointer none,.pointer none,.int .i64 1] ∧ Ext No w w':=by
 refine Q5m ?_
 refine Qc1.mono ?_
 rintro _ w1 ⟨rfl,he⟩
 exact Qr rfl ⟨rfl,he⟩
theorem QvF (ha : Ct w a l) (hl : Pr l) (hk : Bs w kv k) (hkl : k.length ≤ 1000000) (hmt : Mt w none 0) (ho : o ≠ 0) :
  Q6 P Cf [a.v,kv,.int .u64 o,.pointer none] w fun r w' => ∃ t1 t2,r = .tuple #[t1.v,t2.v,.int .i64 0] ∧ Ct w' t1 (Yz false k l) ∧ Ct w' t2 (Yz true k l) ∧ Ext No w w':=by
 refine Q5m ?_
 refine Q6.mono (show Q6 P WE [a.v,kv,.int .u64 o,mv none] w _ from Qr8 ha hl hk hkl hmt ho) ?_
 rintro _ w1 ⟨t1,n1,rfl,h1,-⟩
 refine Qp rfl ?_
 have he1 : Ext No w w1:=h1.ext
 refine Q6.mono (show Q6 P UX [a.v,kv,.int .u64 o,mv none] w1 _ from Qr4 (ha.Q4 he1) hl (hk.Q4 he1) hkl (hmt.Q4 he1) ho) ?_
 rintro _ w2 ⟨t2,n2,rfl,h2,-⟩
 have he2 : Ext No w1 w2:=h2.ext
 exact ⟨t1,t2,rfl,h1.ct.Q4 he2,h2.ct,he1.Q0 he2⟩
abbrev spV (fv tv : Value) (op : Bool) : Value:=.agg #[fv,tv,.bool op]
section
variable {fv tv : Value} {f t : Key} {op : Bool}
theorem QjY (hk : Bs w kv k) (hf : Bs w fv f) (ht : Bs w tv t) : Q6 P Ml [kv,fv,tv,.bool op] w fun r w' => r = .bool (KM f t op k) ∧ w' = w:=by
 refine Q9F ?_
 refine xj (fun vs w' => vs = [.bool (KM f t op k)] ∧ w' = w) ?_ ?_
 · refine (Qie hk hf).mono ?_
   rintro _ w1 ⟨rfl,rfl⟩
   refine ZF (fun h => ?_) fun h => ?_
   · have h1 : decide (Xr k f) = false:=decide_eq_false (Q2q.1 h)
     cases op with
     | true => exact Qr rfl ⟨by unfold KM; rw [h1]; rfl,rfl⟩
     | false =>
       refine Qp rfl ?_
       refine (Qie hk ht).mono ?_
       rintro _ w2 ⟨rfl,rfl⟩
       exact ⟨by unfold KM; rw [h1]; rfl,rfl⟩
   · have h1 : decide (Xr k f) = true:=decide_eq_true (by
      have h : ¬ (Uv k f ≥ 0):=h
      unfold Xr; omega)
     exact ⟨by unfold KM; rw [h1]; rfl,rfl⟩
 · rintro vs g w1 ⟨rfl,rfl⟩
   exact ⟨rfl,rfl⟩
theorem QvP (hk : Bs w kv k) (hf : Bs w fv f) (ht : Bs w tv t) : Q6 P Gc [spV fv tv op,kv] w fun r w' => r = .bool (KM f t op k) ∧ Ext No w w':=by
 refine Qcj ?_
 refine Qz fun sb w1 hsb hS hz he => ?_
 have hS : QZ w1 sb [fv,tv,.bool op] XR:=hS
 refine hS.ld (o:=0) (v:=fv) rfl ?_
 refine hS.ld (o:=1) (v:=tv) rfl ?_
 refine hS.ld (o:=2) (v:=.bool op) rfl ?_
 refine (QjY (hk.Q4 he) (hf.Q4 he) (ht.Q4 he)).mono ?_
 rintro _ w2 ⟨rfl,rfl⟩
 exact ⟨rfl,he⟩
theorem QnW (hk : Bs w kv k) (hf : Bs w fv f) (ht : Bs w tv t) (hkl : k.length ≤ 1000000) (hfl : f.length ≤ 1000000) : Q6 P Io [spV fv tv op,kv] w fun r w' => r = .bool (KM f t op k) ∧ Ext No w w':=by
 refine QeM ?_
 refine Qz fun sb w1 hsb hS hz he => ?_
 have hS : QZ w1 sb [fv,tv,.bool op] Xc:=hS
 refine xj (fun vs w' => vs = [.bool (KM f t op k)] ∧ Ext No w w') ?_ ?_
 · refine hS.ld (o:=0) (v:=fv) rfl ?_
   refine (Q49 (hf.Q4 he) (hk.Q4 he) (by omega)).mono ?_
   rintro _ w2 ⟨rfl,he2⟩
   have hE2:=he.Q0 he2
   have hS2:=hS.ext he2 fun h => h
   refine ZF (fun h => ?_) fun h => ?_
   · have h1 : decide (Xr k f) = false:=decide_eq_false (QhE.1 h)
     refine hS2.ld (o:=2) (v:=.bool op) rfl ?_
     cases op with
     | true => exact Qr rfl ⟨by unfold KM; rw [h1]; rfl,hE2⟩
     | false =>
       refine Qp rfl ?_
       refine hS2.ld (o:=1) (v:=tv) rfl ?_
       refine (Q49 (hk.Q4 hE2) (ht.Q4 hE2) (by omega)).mono ?_
       rintro _ w3 ⟨rfl,QE⟩
       exact ⟨by unfold KM; rw [h1]; rfl,hE2.Q0 QE⟩
   · have h1 : decide (Xr k f) = true:=decide_eq_true (Decidable.byContradiction fun hn => h (QhE.2 hn))
     exact ⟨by unfold KM; rw [h1]; rfl,hE2⟩
 · rintro vs g w2 ⟨rfl,he2⟩
   exact ⟨rfl,he2⟩
theorem Qoo (ha : Ct w a l) (hl : Pr l) (hf : Bs w fv f) (ht : Bs w tv t) (hfl : f.length ≤ 1000000) (htl : t.length ≤ 1000000) (hmt : Mt w mt n) (ho : o ≠ 0) :
  Q6 P E8 [a.v,spV fv tv op,.int .u64 o,mv mt] w fun r w' => ∃ t' n',r = .tuple #[t'.v,.int .i64 0] ∧ CuR w w' a l (Ja (KM f t op) l) t' mt n n':=by
 refine Q8y ?_
 refine Qz fun sb w1 hsb hS hz he => ?_
 have hS : QZ w1 sb [fv,tv,.bool op] XR:=hS
 refine hS.ld (o:=0) (v:=fv) rfl ?_
 refine (Qr4 (ha.Q4 he) hl (hf.Q4 he) hfl (hmt.Q4 he) ho).mono ?_
 rintro _ w2 ⟨t1,n1,rfl,h1,-⟩
 have Qzz:=hmt.Q4 he
 have hS2:=hS.ext h1.ext (Qzz.ne hS (by decide))
 refine xj (fun vs w' => vs = [.bool op] ∧ w2 = w') ?_ ?_
 · refine Qp rfl ?_
   refine hS2.ld (o:=2) (v:=.bool op) rfl ?_
   exact ⟨rfl,rfl⟩
 rintro vs g w3 ⟨rfl,rfl⟩
 have hx : Ext (MX mt) w w2:=(he.mono fun _ _ h => h.elim).QI h1.ext
 cases op with
 | true =>
   refine Qr rfl ⟨t1,n1,rfl,?_,h1.cnt,hx,?_⟩
   · rw [← Qa2 (t:=t)]; exact h1.ct
   · rw [← Qa2 (t:=t)]; exact h1.idle
 | false =>
   refine Qp rfl ?_
   refine hS2.ld (o:=1) (v:=tv) rfl ?_
   refine (Qr8 h1.ct (UH hl) ((ht.Q4 he).ext h1.ext Qzz.nb) htl h1.cnt ho).mono ?_
   rintro _ w3 ⟨t2,n2,rfl,h2,-⟩
   refine ⟨t2,n2,rfl,?_,h2.cnt,hx.QI h2.ext,fun e => ?_⟩
   · rw [← QcU]; exact h2.ct
   · have e1 : Yz true f l = l:=Cc fun x hx => by
      rw [← e] at hx
      have h3:=(Af hx).2
      unfold KM at h3
      rw [Xm]
      cases hd : decide (Xr x.1 f) with
      | true => rw [hd] at h3; cases h3
      | false => rfl
     obtain ⟨rfl,rfl⟩:=h1.idle e1
     rw [← QcU] at e
     obtain ⟨rfl,rfl⟩:=h2.idle (e.trans e1.symm)
     exact ⟨rfl,rfl⟩
theorem Qon {x z : Value} : Q6 P E8 [x,spV fv tv op,.int .u64 (0 : Nat),z] w fun r w' => r = .tuple #[.pointer none,.int .i64 1] ∧ Ext No w w':=by
 refine Q8y ?_
 refine Qz fun sb w1 hsb hS hz he => ?_
 have hS : QZ w1 sb [fv,tv,.bool op] XR:=hS
 refine hS.ld (o:=0) (v:=fv) rfl ?_
 refine Qib.mono ?_
 rintro _ w2 ⟨rfl,he2⟩
 refine xj (fun vs w' => vs = [.bool true] ∧ w2 = w') ?_ ?_
 · exact Qr rfl ⟨rfl,rfl⟩
 rintro vs g w3 ⟨rfl,rfl⟩
 exact Qr rfl ⟨rfl,he.Q0 he2⟩
theorem Qpu {l : Kv} (ha : Ct w a l) (hl : Zp l) (k : Key) : upL a.er [] k = Yz true k l:=by
 show Yz true ([] ++ k) (a.er.list []) = _
 rw [ha.can.list hl]; rfl
theorem Qa3 {l : Kv} (hl : Zp l) (h : (Yz true f l).head? = none ∨ ∃ p,(Yz true f l).head? = some p ∧ KM f t op p.1 = false) : Ja (Fe f t op) l = l:=Cc fun x hx => by
 cases hs : KM f t op x.1 with
 | false => show (!KM f t op x.1) = true; rw [hs]; rfl
 | true =>
   exfalso
   have hxf : ¬ Xr x.1 f:=by
    unfold KM at hs
    simp at hs
    exact hs.1
   have hm : x ∈ Yz true f l:=List.mem_filter.2 ⟨hx,by simpa [Q2z] using hxf⟩
   rcases h with h | ⟨p,hp,hn⟩
   · rw [List.head?_eq_none_iff] at h; rw [h] at hm; cases hm
   · obtain ⟨-,h2,h3⟩:=Q75 hl hp
     have hq : Xr p.1 x.1 ∨ p = x:=h3 x hx hxf
     unfold KM at hs hn
     rw [decide_eq_false h2] at hn
     simp at hs hn
     rcases hq with hq | rfl
     · rcases hs.2 with e | e
       · rw [hn.1] at e; cases e
       · exact hn.2 (Az hq e)
     · rcases hs.2 with e | e
       · rw [hn.1] at e; cases e
       · exact hn.2 e
theorem QgQ (ha : Ct w a l) (hl : Pr l) (hf : Bs w fv f) (ht : Bs w tv t) (hfl : f.length ≤ 1000000) (htl : t.length ≤ 1000000) (hmt : Mt w mt n) (ho : o ≠ 0) :
  Q6 P Gl [a.v,spV fv tv op,.int .u64 o,mv mt] w fun r w' => ∃ t' n',r = .tuple #[t'.v,.int .i64 0] ∧ CuR w w' a l (Ja (Fe f t op) l) t' mt n n':=by
 have QA2:=hmt.fl
 refine QaI ?_
 refine Qz fun sb w1 hsb hS hz he1 => ?_
 have hS : QZ w1 sb [fv,tv,.bool op] XR:=hS
 have hz1:=he1.size
 refine hS.ld (o:=0) (v:=fv) rfl ?_
 refine (Qow (ha.Q4 he1).tree ha.can.fine (by omega) (ha.long hl) (hf.Q4 he1) (by omega)).mono ?_
 rintro r w2 ⟨hr,he2⟩
 rw [Qpu ha hl.rises] at hr
 obtain ⟨kv,x,rfl,hone,hsome,hnone⟩:=hr.two
 have hS2:=hS.ext he2 fun h => h
 refine Qz fun pb w3 hpb hP hz3 QE => ?_
 refine KD hP (by kernel_rfl) hone rfl fun w4 hP4 Ro Zl => ?_
 have h24 : Ext No w2 w4:=QE.Z0 Zl (by omega)
 have h14:=he2.Q0 h24
 have h04:=he1.Q0 h14
 have hS4:=hS2.ext h24 fun h => h
 refine xj (fun vs w' => ∃ b : Bool,vs = [.bool b] ∧ Ext No w4 w' ∧ (b = true → Ja (Fe f t op) l = l) ∧ (b = false → Ja (Fe f t op) l ≠ l)) ?_ ?_
 · refine Q5L (fun _ => ?_) fun h => absurd (by omega) ho
   cases hh : (Yz true f l).head? with
   | none =>
     refine Qr rfl ?_
     exact ⟨true,rfl,Ext.refl _ _,fun _ => Qa3 hl.rises (.inl hh),fun h => by cases h⟩
   | some p =>
     obtain ⟨g1,rfl,g3⟩:=hsome p hh
     refine Qp rfl ?_
     refine hS4.JH rfl ?_
     refine hP4.ld (o:=0) (v:=kv) rfl ?_
     refine Q6.mono (show Q6 P Gc [spV fv tv op,kv] w4 _ from QvP (g1.Q4 h24) (hf.Q4 h04) (ht.Q4 h04)) ?_
     rintro _ w5 ⟨rfl,ZR⟩
     refine ⟨_,rfl,ZR,fun h => Qa3 hl.rises (.inr ⟨p,hh,by simpa using h⟩),fun h e => ?_⟩
     have hsp : KM f t op p.1 = true:=by simpa using h
     obtain ⟨h1,-,-⟩:=Q75 hl.rises hh
     rw [← e] at h1
     have h2:=(Af h1).2
     have h3 : (!KM f t op p.1) = true:=h2
     rw [hsp] at h3
     cases h3
 rintro vs g w5 ⟨b,rfl,ZR,hb1,hb2⟩
 have h05:=h04.Q0 ZR
 have hm5:=hmt.Q4 h05
 have ha5:=ha.Q4 h05
 cases b with
 | true =>
   refine Qr rfl ⟨a,n,rfl,?_,hm5,h05.mono fun _ _ h => h.elim,fun _ => ⟨rfl,rfl⟩⟩
   rw [hb1 rfl]; exact ha5
 | false =>
   refine Qp rfl ?_
   have hS5:=hS4.ext ZR fun h => h
   refine hS5.ld (o:=0) (v:=fv) rfl ?_
   refine (Qr8 ha5 hl (hf.Q4 h05) hfl hm5 ho).mono ?_
   rintro _ w6 ⟨t1,n1,rfl,h1,-⟩
   have hS6:=hS5.ext h1.ext (hm5.ne hS5 (by decide))
   have hx6 : Ext (MX mt) w w6:=(h05.mono fun _ _ h => h.elim).QI h1.ext
   refine xj (fun vs w' => vs = [.bool op] ∧ w6 = w') ?_ ?_
   · refine Qp rfl ?_
     refine hS6.ld (o:=2) (v:=.bool op) rfl ?_
     exact ⟨rfl,rfl⟩
   rintro vs g w7 ⟨rfl,rfl⟩
   cases op with
   | true =>
     refine Qr rfl ⟨t1,n1,rfl,?_,h1.cnt,hx6,fun e => absurd e (hb2 rfl)⟩
     rw [← QlP (t:=t)]; exact h1.ct
   | false =>
     refine Qp rfl ?_
     refine hS6.ld (o:=1) (v:=tv) rfl ?_
     refine (Qr4 (ha5.mt hm5 h1.ext) hl ((ht.Q4 h05).ext h1.ext hm5.nb) htl h1.cnt ho).mono ?_
     rintro _ w7 ⟨t2,n2,rfl,h2,-⟩
     refine (QjX (z:=1) (p:=1) ⟨by omega,by omega⟩ rfl (h1.ct.mt h1.cnt h2.ext) (UH hl) h2.ct (UH hl) h2.cnt ho).mono ?_
     rintro _ w8 ⟨t3,n3,rfl,h3⟩
     refine ⟨t3,n3,rfl,?_,h3.cnt,(hx6.QI h2.ext).QI h3.ext,fun e => absurd e (hb2 rfl)⟩
     rw [← QpH hl.rises]; exact h3.ct
theorem QjZ {z : Value} (ha : Ct w a l) (hl : Pr l) (hf : Bs w fv f) (hfl : f.length ≤ 1000000) (QA2 : Floor.n ≤ w.heap.size) : Q6 P Gl [a.v,spV fv tv op,.int .u64 (0 : Nat),z] w fun r w' => r = .tuple #[.pointer none,.int .i64 1] ∧ Ext No w w':=by
 refine QaI ?_
 refine Qz fun sb w1 hsb hS hz he1 => ?_
 have hS : QZ w1 sb [fv,tv,.bool op] XR:=hS
 have hz1:=he1.size
 refine hS.ld (o:=0) (v:=fv) rfl ?_
 refine (Qow (ha.Q4 he1).tree ha.can.fine (by omega) (ha.long hl) (hf.Q4 he1) (by omega)).mono ?_
 rintro r w2 ⟨hr,he2⟩
 obtain ⟨kv,x,rfl,hone,hsome,hnone⟩:=hr.two
 refine Qz fun pb w3 hpb hP hz3 QE => ?_
 refine KD hP (by kernel_rfl) hone rfl fun w4 hP4 Ro Zl => ?_
 have h24 : Ext No w2 w4:=QE.Z0 Zl (by omega)
 have h04:=(he1.Q0 he2).Q0 h24
 have hS4:=(hS.ext he2 fun h => h).ext h24 fun h => h
 refine xj (fun vs w' => vs = [.bool false] ∧ w4 = w') ?_ ?_
 · exact Qp rfl ⟨rfl,rfl⟩
 rintro vs g w5 ⟨rfl,rfl⟩
 refine Qp rfl ?_
 refine hS4.ld (o:=0) (v:=fv) rfl ?_
 refine Qc1.mono ?_
 rintro _ w6 ⟨rfl,Ke⟩
 refine xj (fun vs w' => vs = [.bool true] ∧ w6 = w') ?_ ?_
 · exact Qr rfl ⟨rfl,rfl⟩
 rintro vs g w7 ⟨rfl,rfl⟩
 exact Qr rfl ⟨rfl,h04.Q0 Ke⟩
end
theorem Qr2 {x y z : Value} : Q6 P BO [x,y,.int .u64 (0 : Nat),z] w fun r w' => r = .tuple #[.pointer none,.int .i64 1] ∧ Ext No w w':=by
 refine Q8z ?_
 exact Qr rfl ⟨rfl,Ext.refl _ _⟩
structure JoR (w w' : World) (a : T) (l m : Kv) (t' : T) (mt : Option Y3) (n n' : Nat) : Prop where
 ct : Yk l m = 0 → Ct w' t' (l ++ m)
 cnt : Mt w' mt n'
 ext : Ext (MX mt) w w'
 bad : Yk l m ≠ 0 → t' = .nil
 idle : m = [] → t'.v = a.v ∧ n' = n
theorem Qr3 (ha : Ct w a l) (hl : Pr l) (hb : Ct w b m) (hm : Pr m) (hmt : Mt w mt n) (ho : o ≠ 0) :
  Q6 P BO [a.v,b.v,.int .u64 o,mv mt] w fun r w' => ∃ t' n',r = .tuple #[t'.v,.int .i64 (Yk l m : Nat)] ∧ JoR w w' a l m t' mt n n':=by
 have QA2:=hmt.fl
 refine Q8z ?_
 refine Vu (fun h => absurd (by omega) ho) fun _ => ?_
 refine (QBN ha.tree ha.can.fine (by omega) (ha.long hl)).mono ?_
 rintro r w1 ⟨hr,he1⟩
 rw [ha.can.list hl.rises] at hr
 obtain ⟨kv1,x1,rfl,Qzv,Qul,hnone1⟩:=hr.two
 have hz1:=he1.size
 refine Qz fun pb w2 hpb hP hz2 he2 => ?_
 refine KD hP (by kernel_rfl) Qzv rfl fun w3 hP3 hz3 QE => ?_
 have h13 : Ext No w1 w3:=he2.Z0 QE (by omega)
 have h03:=he1.Q0 h13
 have hz03:=h03.size
 refine (QBM (hb.Q4 h03).tree hb.can.fine (by omega) (hb.long hm)).mono ?_
 rintro r w4 ⟨hr2,Zl⟩
 rw [hb.can.list hm.rises] at hr2
 obtain ⟨kv2,x2,rfl,Q57,Q1u,Q7u⟩:=hr2.two
 refine Qz fun qb w5 hqb hQ hz5 ZR => ?_
 refine KD hQ (by kernel_rfl) Q57 rfl fun w6 hQ6 hz6 Ke => ?_
 have h46 : Ext No w4 w6:=ZR.Z0 Ke (by omega)
 have h36:=Zl.Q0 h46
 have h16:=h13.Q0 h36
 have h06:=he1.Q0 h16
 have hP6:=hP3.ext h36 fun h => h
 refine xj (fun vs w' => vs = [.bool (decide (Yk l m ≠ 0))] ∧ w6 = w') ?_ ?_
 · cases hh : l.getLast? with
   | none =>
     have e : Yk l m = 0:=by unfold Yk; rw [hh]
     refine Qp rfl ⟨by rw [e]; rfl,rfl⟩
   | some p =>
     refine Qr rfl ?_
     cases hh2 : m.head? with
     | none =>
       have e : Yk l m = 0:=by unfold Yk; rw [hh,hh2]
       exact Qp rfl ⟨by rw [e]; rfl,rfl⟩
     | some q =>
       obtain ⟨g1,rfl,g3⟩:=Qul p hh
       obtain ⟨k1,rfl,k3⟩:=Q1u q hh2
       refine Qr rfl ?_
       refine hP6.ld (o:=0) (v:=kv1) rfl ?_
       refine hQ6.ld (o:=0) (v:=kv2) rfl ?_
       refine (Qie (g1.Q4 h16) (k1.Q4 h46)).mono ?_
       rintro _ w7 ⟨rfl,rfl⟩
       have e : Yk l m = if Xr p.1 q.1 then 0 else 12:=by unfold Yk; rw [hh,hh2]
       refine ⟨?_,rfl⟩
       show [Value.bool (decide (Uv p.1 q.1 ≥ 0))] = _
       rw [e]
       by_cases hk : Xr p.1 q.1
       · rw [if_pos hk,decide_eq_false fun h => Q2q.1 h hk]; rfl
       · rw [if_neg hk,decide_eq_true (Q2q.2 hk)]; rfl
 rintro vs g w7 ⟨rfl,rfl⟩
 have hm6:=hmt.Q4 h06
 have hE : Yk l m = 0 ∨ Yk l m = 12:=by
  unfold Yk
  split
  · split
    · exact .inl rfl
    · exact .inr rfl
  · exact .inl rfl
 refine ZF (fun h => ?_) fun h => ?_
 · have e12 : Yk l m = 12:=hE.resolve_left h
   rw [e12]
   refine ⟨.nil,n,rfl,⟨(fun e => by rw [e12] at e; cases e),hm6,h06.mono fun _ _ h => h.elim,fun _ => rfl,fun e => ?_⟩⟩
   subst e
   exfalso
   have : Yk l [] = 0:=by
    unfold Yk
    cases l.getLast? <;> rfl
   omega
 · have e0 : Yk l m = 0:=Decidable.byContradiction h
   rw [e0]
   have hr:=Q55 hl.rises hm.rises e0
   refine (QjX (z:=1) (p:=1) ⟨by omega,by omega⟩ rfl (ha.Q4 h06) hl (hb.Q4 h06) hm hm6 ho).mono ?_
   rintro _ w8 ⟨t3,n3,rfl,h3⟩
   refine ⟨t3,n3,rfl,⟨fun _ => ?_,h3.cnt,(h06.mono fun _ _ h => h.elim).QI h3.ext,fun h => absurd e0 h,fun e => h3.idle ?_⟩⟩
   · rw [← Q6W hr]; exact h3.ct
   · subst e
     rw [Q6W hr,List.append_nil]
end
end Go.Proofs.YtbnhggfiembejaaGreatDoor
end
