import Derived.Test.YtbnhggfiembejaaGreatDoorEng
import Derived.Lib.Bytealg
section
namespace Go.Proofs.YtbnhggfiembejaaGreatDoor.X
open Go
set_option linter.unusedSimpArgs false
set_option linter.unusedVariables false
def Rf : List UInt8:=(List.range 256).map UInt8.ofNat
theorem P9 (c : UInt8) : c ∈ Rf:=by
 unfold Rf
 rw [List.mem_map]
 exact ⟨c.toNat,List.mem_range.2 c.toNat_lt,by simp⟩
theorem P8 : Rf.Pairwise (fun a b => a.toNat < b.toNat):=by
 unfold Rf
 rw [List.pairwise_map]
 refine List.Pairwise.imp_of_mem ?_ (List.pairwise_lt_range (n:=256))
 intro a b ha hb h
 rw [List.mem_range] at ha hb
 have e : ∀ n,n < 256 → (UInt8.ofNat n).toNat = n:=fun n hn => by simp; omega
 rw [e a ha,e b hb]
 exact h
def Eg (l : List UInt8) : Prop:=l.Pairwise (fun a b => a.toNat < b.toNat)
theorem Eg.nodup {l : List UInt8} (h : Eg l) : l.Nodup:=List.Pairwise.imp (fun h e => by subst e; omega) h
theorem Eg.ext {l m : List UInt8} (hl : Eg l) (hm : Eg m) (h : ∀ c,c ∈ l ↔ c ∈ m) : l = m:=by
 induction l generalizing m with
 | nil =>
   cases m with
   | nil => rfl
   | cons x r => exact absurd ((h x).2 (by simp)) (by simp)
 | cons a r ih =>
   cases m with
   | nil => exact absurd ((h a).1 (by simp)) (by simp)
   | cons b s =>
     obtain ⟨ha,hr⟩:=List.pairwise_cons.1 hl
     obtain ⟨hb,hs⟩:=List.pairwise_cons.1 hm
     have hab : a = b:=by
      have h1:=(h a).1 (by simp)
      have h2:=(h b).2 (by simp)
      simp only [List.mem_cons] at h1 h2
      rcases h1 with h1 | h1
      · exact h1
      · rcases h2 with h2 | h2
        · exact h2.symm
        · have:=hb a h1; have:=ha b h2; omega
     subst hab
     congr 1
     refine ih hr hs fun c => ?_
     have:=h c
     simp only [List.mem_cons] at this
     constructor
     · intro hc
       rcases this.1 (.inr hc) with e | e
       · subst e; have:=ha c hc; omega
       · exact e
     · intro hc
       rcases this.2 (.inr hc) with e | e
       · subst e; have:=hb c hc; omega
       · exact e
section
variable {α : Type}
def dom (m : UInt8 → Option α) : List UInt8:=Rf.filter fun c => (m c).isSome
def cnt (m : UInt8 → Option α) : Nat:=(dom m).length
theorem Zd {m : UInt8 → Option α} {c : UInt8} : c ∈ dom m ↔ (m c).isSome:=by simp [dom,P9]
theorem Xl (m : UInt8 → Option α) : Eg (dom m):=List.Pairwise.filter _ P8
theorem QbD {m : UInt8 → Option α} {l : List UInt8} (h : Eg l) (hl : ∀ c,c ∈ l ↔ (m c).isSome) : dom m = l:=(Xl m).ext h fun c => Zd.trans (hl c).symm
theorem VG : dom (fun _ => none : UInt8 → Option α) = []:=QbD List.Pairwise.nil (by simp)
def upd (m : UInt8 → Option α) (b : UInt8) (x : Option α) : UInt8 → Option α:=fun c => if c = b then x else m c
theorem upd_same (m : UInt8 → Option α) (b : UInt8) (x : Option α) : upd m b x b = x:=by simp [upd]
theorem C8 (m : UInt8 → Option α) {b c : UInt8} (x : Option α) (h : c ≠ b) : upd m b x c = m c:=by simp [upd,h]
theorem Qli (m : UInt8 → Option α) (b : UInt8) : upd m b (m b) = m:=by
 funext c; unfold upd; split
 · subst_vars; rfl
 · rfl
theorem Qgt {l : List UInt8} (hl : l.Nodup) {b : UInt8} (hb : b ∈ l) (p q : UInt8 → Bool) (h : ∀ c,c ≠ b → p c = q c) : l.countP p + (if q b then 1 else 0) = l.countP q + (if p b then 1 else 0):=by
 induction l with
 | nil => simp at hb
 | cons a r ih =>
   obtain ⟨ha,hr⟩:=List.nodup_cons.1 hl
   by_cases e : a = b
   · subst e
     have : r.countP p = r.countP q:=List.countP_congr fun c hc => by rw [h c (fun e => ha (e ▸ hc))]
     simp only [List.countP_cons,this]
     omega
   · have hb' : b ∈ r:=by
      rcases List.mem_cons.1 hb with h | h
      · exact absurd h.symm e
      · exact h
     have:=ih hr hb'
     simp only [List.countP_cons,h a e]
     omega
theorem QbH (m : UInt8 → Option α) : cnt m = Rf.countP fun c => (m c).isSome:=by simp [cnt,dom,List.countP_eq_length_filter]
theorem Q09 (m : UInt8 → Option α) (b : UInt8) (x : Option α) : cnt (upd m b x) + (if (m b).isSome then 1 else 0) = cnt m + (if x.isSome then 1 else 0):=by
 rw [QbH,QbH]
 have:=Qgt (Eg.nodup P8) (P9 b) (fun c => (upd m b x c).isSome) (fun c => (m c).isSome) (fun c hc => by rw [C8 m x hc])
 simp only [upd_same] at this
 exact this
theorem BR (m : UInt8 → Option α) : cnt m ≤ 256:=by
 unfold cnt dom
 refine Nat.le_trans (List.length_filter_le _ _) ?_
 simp [Rf]
theorem P7 {m : UInt8 → Option α} {c : UInt8} (h : (m c).isSome) : 0 < cnt m:=List.length_pos_of_mem (Zd.2 h)
theorem QnJ {m : UInt8 → Option α} (h : cnt m = 256) (c : UInt8) : (m c).isSome:=by
 by_cases hc : (m c).isSome
 · exact hc
 · exfalso
   have h1 : cnt m < Rf.length:=by
    unfold cnt dom
    rcases Nat.lt_or_ge (Rf.filter fun c => (m c).isSome).length Rf.length with h | h
    · exact h
    · have:=List.length_filter_eq_length_iff.1 (Nat.le_antisymm (List.length_filter_le _ _) h) c (P9 c)
      exact absurd this hc
   simp [Rf] at h1
   omega
theorem Qe2 {m : UInt8 → Option α} (h : cnt m = 0) (c : UInt8) : m c = none:=by
 cases hc : m c with
 | none => rfl
 | some x => exact absurd (P7 (m:=m) (c:=c) (by simp [hc])) (by omega)
def Wd (m : UInt8 → Option α) (i : Nat) : Option UInt8:=(dom m).find? fun c => decide (i ≤ c.toNat)
theorem Q52 {m : UInt8 → Option α} {i : Nat} {d r : List UInt8} (h : dom m = d ++ r) (hd : ∀ c ∈ d,c.toNat < i) (hr : ∀ c ∈ r,i ≤ c.toNat) : Wd m i = r.head?:=by
 unfold Wd
 rw [h,List.find?_append,List.find?_eq_none.2 (fun c hc => by have:=hd c hc; simp; omega)]
 cases r with
 | nil => rfl
 | cons a r => simp [hr a (by simp)]
theorem BG {m : UInt8 → Option α} {i : Nat} : Wd m i = none ↔ ∀ c,i ≤ c.toNat → m c = none:=by
 unfold Wd
 rw [List.find?_eq_none]
 constructor
 · intro h c hc
   cases hm : m c with
   | none => rfl
   | some x => exact absurd (h c (Zd.2 (by simp [hm]))) (by simpa using hc)
 · intro h c hc
   simp only [decide_eq_true_eq]
   intro hi
   have:=h c hi
   have:=Zd.1 hc
   simp_all
theorem OM {m : UInt8 → Option α} {i : Nat} {c : UInt8} : Wd m i = some c ↔ ((m c).isSome ∧ i ≤ c.toNat ∧ ∀ d,i ≤ d.toNat → d.toNat < c.toNat → m d = none):=by
 constructor
 · intro h
   have h1:=List.find?_some h
   have h2:=List.mem_of_find?_eq_some h
   refine ⟨Zd.1 h2,by simpa using h1,fun d hi hd => ?_⟩
   obtain ⟨hp,as,bs,he,hn⟩:=List.find?_eq_some_iff_append.1 h
   cases hm : m d with
   | none => rfl
   | some x =>
     exfalso
     have hd' : d ∈ dom m:=Zd.2 (by simp [hm])
     rw [he] at hd'
     have hr:=Xl m
     rw [he] at hr
     obtain ⟨_,h5,_⟩:=List.pairwise_append.1 hr
     rcases List.mem_append.1 hd' with h6 | h6
     · have:=hn d h6
       simp at this
       omega
     · rcases List.mem_cons.1 h6 with h7 | h7
       · subst h7; omega
       · have:=(List.pairwise_cons.1 h5).1 d h7; omega
 · rintro ⟨h1,h2,h3⟩
   cases hn : Wd m i with
   | none => have:=BG.1 hn c h2; simp [this] at h1
   | some d =>
     obtain ⟨hp,as,bs,he,hb⟩:=List.find?_eq_some_iff_append.1 hn
     have h5 : d ∈ dom m:=by rw [he]; simp
     have hid : i ≤ d.toNat:=by simpa using hp
     congr 1
     rcases Nat.lt_trichotomy d.toNat c.toNat with h | h | h
     · have:=h3 d hid h
       have:=Zd.1 h5
       simp_all
     · exact UInt8.toNat_inj.1 h
     · exfalso
       have hc : c ∈ dom m:=Zd.2 h1
       have hr:=Xl m
       rw [he] at hc hr
       obtain ⟨_,h5,_⟩:=List.pairwise_append.1 hr
       rcases List.mem_append.1 hc with h6 | h6
       · have:=hb c h6; simp at this; omega
       · rcases List.mem_cons.1 h6 with h7 | h7
         · subst h7; omega
         · have:=(List.pairwise_cons.1 h5).1 c h7; omega
theorem VI (m : UInt8 → Option α) : Wd m 0 = (dom m).head?:=Q52 (d:=[]) rfl (by simp) (by simp)
theorem UI {m : UInt8 → Option α} {d r : List UInt8} {c : UInt8} (h : dom m = d ++ c :: r) : Wd m (c.toNat + 1) = r.head?:=by
 have hr:=Xl m
 rw [h] at hr
 obtain ⟨h1,h2,h3⟩:=List.pairwise_append.1 hr
 refine Q52 (d:=d ++ [c]) (r:=r) (by simp [h]) (fun x hx => ?_) fun x hx => ?_
 · rcases List.mem_append.1 hx with hx | hx
   · have:=h3 x hx c (by simp); omega
   · simp at hx; subst hx; omega
 · have:=(List.pairwise_cons.1 h2).1 x hx; omega
end
def Kl (n : Nat) : Nat:=if n ≤ 4 then 4 else if n ≤ 16 then 16 else if n ≤ 48 then 48 else if n ≤ 256 then 256 else 0
theorem Qmj {n : Nat} (h : n ≤ 256) : n ≤ Kl n:=by unfold Kl; repeat' split
                                                   all_goals omega
end Go.Proofs.YtbnhggfiembejaaGreatDoor.X
end
section
namespace Go.Proofs.YtbnhggfiembejaaGreatDoor
open Go X
set_option linter.unusedSimpArgs false
set_option linter.unusedVariables false
abbrev Key:=List UInt8
inductive E where
 | nil : E
 | node (part : Key) (val : Option Nat) (kids : UInt8 → E) : E
inductive T where
 | nil : T
 | node (a ow : Nat) (part : Key) (val : Option Nat) (ks : List Nat) (kids : UInt8 → T) : T
def E.opt : E → Option Unit
 | .nil => none
 | .node .. => some ()
def T.ptr : T → Option Addr
 | .nil => none
 | .node a .. => some ⟨a,0,none⟩
def T.er : T → E
 | .nil => .nil
 | .node _ _ part val _ kids => .node part val fun c => (kids c).er
theorem T.WQ (t : T) : t.er.opt.isSome = t.ptr.isSome:=by cases t <;> rfl
theorem X.Q48 {α β : Type} {m : UInt8 → Option α} {m' : UInt8 → Option β} (h : ∀ c,(m c).isSome = (m' c).isSome) : dom m = dom m':=by
 unfold dom
 exact List.filter_congr fun c _ => h c
theorem X.WR {α β : Type} {m : UInt8 → Option α} {m' : UInt8 → Option β} (h : ∀ c,(m c).isSome = (m' c).isSome) : cnt m = cnt m':=by unfold cnt; rw [Q48 h]
def E.get : E → Key → Option Nat
 | .nil,_ => none
 | .node part val kids,k => if part <+: k then (match k.drop part.length with | [] => val | c :: r => (kids c).get r) else none
def T.get (t : T) (k : Key) : Option Nat:=t.er.get k
def one (val : Option Nat) : Nat:=if val.isSome then 1 else 0
def E.ZV : E → Prop
 | .nil => True
 | .node _ val kids => (if cnt (fun c => (kids c).opt) = 0 then val.isSome = true else 2 ≤ cnt (fun c => (kids c).opt) + one val) ∧ ∀ c,(kids c).ZV
def T.ZJ : T → Prop
 | .nil => True
 | .node _ _ _ _ ks kids => (ks = [] ↔ cnt (fun c => (kids c).ptr) = 0) ∧ ∀ c,(kids c).ZJ
def T.ZV (t : T) : Prop:=t.er.ZV ∧ t.ZJ
theorem E.VX (part : Key) (val : Option Nat) (kids : UInt8 → E) (r : Key) : (E.node part val kids).get (part ++ r) = match r with | [] => val | c :: s => (kids c).get s:=by
 rw [E.get,if_pos (List.prefix_append _ _),List.drop_left]
 cases r <;> rfl
theorem E.Q6z {part : Key} {val : Option Nat} {kids : UInt8 → E} {k : Key} {v : Nat} (h : (E.node part val kids).get k = some v) : part <+: k:=by
 rw [E.get] at h
 split at h
 · assumption
 · cases h
theorem E.ZV.V8 : ∀ {e : E},e.ZV → e ≠ .nil → ∃ k v,e.get k = some v:=by
 intro e
 induction e with
 | nil => intro _ h; exact absurd rfl h
 | node part val kids ih =>
   intro hf _
   obtain ⟨h1,h2⟩:=hf
   cases hv : val with
   | some v => exact ⟨part,v,by have:=E.VX part (some v) kids []; simpa using this⟩
   | none =>
     subst hv
     split at h1
     · cases h1
     · rename_i hc
       have : ∃ c,(kids c).opt.isSome:=by
        rcases List.exists_mem_of_length_pos (l:=dom fun c => (kids c).opt) (by unfold cnt at hc; omega) with ⟨c,hc'⟩
        exact ⟨c,Zd.1 hc'⟩
       obtain ⟨c,hc'⟩:=this
       obtain ⟨k,v,hk⟩:=ih c (h2 c) (fun e => by rw [e] at hc'; cases hc')
       exact ⟨part ++ c :: k,v,by rw [E.VX]; exact hk⟩
theorem Qhv {l : List UInt8} (hl : l.Nodup) (h : 2 ≤ l.length) : ∃ c d,c ∈ l ∧ d ∈ l ∧ c ≠ d:=by
 match l with
 | [] => simp at h
 | [a] => simp at h
 | a :: b :: r => exact ⟨a,b,by simp,by simp,fun e => by subst e; simp at hl⟩
theorem Qd5 {p q : Key} {c d : UInt8} {r s : Key} (hne : c ≠ d) (h1 : p <+: q ++ c :: r) (h2 : p <+: q ++ d :: s) : p <+: q:=by
 rcases Nat.lt_or_ge q.length p.length with h | h
 · exfalso
   obtain ⟨x,hx⟩:=h1
   obtain ⟨y,hy⟩:=h2
   have e1 : p[q.length]? = some c:=by
    have:=congrArg (·[q.length]?) hx
    simp only [List.getElem?_append_left h,List.getElem?_append_right (Nat.le_refl _),Nat.sub_self] at this
    simpa using this
   have e2 : p[q.length]? = some d:=by
    have:=congrArg (·[q.length]?) hy
    simp only [List.getElem?_append_left h,List.getElem?_append_right (Nat.le_refl _),Nat.sub_self] at this
    simpa using this
   rw [e1] at e2
   exact hne (by simpa using e2)
 · exact List.prefix_of_prefix_length_le h1 (List.prefix_append _ _) h
theorem E.ZV.longest {part : Key} {val : Option Nat} {kids : UInt8 → E} (hf : (E.node part val kids).ZV) {p : Key} (h : ∀ k v,(E.node part val kids).get k = some v → p <+: k) : p <+: part:=by
 obtain ⟨h1,h2⟩:=hf
 cases hv : val with
 | some v =>
   subst hv
   exact h part v (by have:=E.VX part (some v) kids []; simpa using this)
 | none =>
   subst hv
   split at h1
   · cases h1
   · obtain ⟨c,d,hc,hd,hne⟩:=Qhv (Xl fun c => (kids c).opt).nodup (by simpa [one,cnt] using h1)
     have key : ∀ c,c ∈ dom (fun c => (kids c).opt) → ∃ r v,(E.node part none kids).get (part ++ c :: r) = some v:=by
      intro c hc
      obtain ⟨k,v,hk⟩:=(h2 c).V8 (fun e => by have:=Zd.1 hc; rw [e] at this; cases this)
      exact ⟨k,v,by rw [E.VX]; exact hk⟩
     obtain ⟨r,v,hr⟩:=key c hc
     obtain ⟨s,u,hs⟩:=key d hd
     exact Qd5 hne (h _ _ hr) (h _ _ hs)
theorem E.unique : ∀ {e e' : E},e.ZV → e'.ZV → (∀ k,e.get k = e'.get k) → e = e':=by
 intro e
 induction e with
 | nil =>
   intro e' _ hf h
   cases e' with
   | nil => rfl
   | node part val kids =>
     obtain ⟨k,v,hk⟩:=hf.V8 (by simp)
     rw [← h k] at hk
     cases hk
 | node part val kids ih =>
   intro e' hf hf' h
   cases e' with
   | nil =>
     obtain ⟨k,v,hk⟩:=hf.V8 (by simp)
     rw [h k] at hk
     cases hk
   | node part' val' Vl =>
     have hp : part = part':=by
      have h1 : part <+: part':=hf'.longest fun k v hk => E.Q6z (by rw [h]; exact hk)
      have h2 : part' <+: part:=hf.longest fun k v hk => E.Q6z (by rw [← h]; exact hk)
      exact h1.eq_of_length (Nat.le_antisymm h1.length_le h2.length_le)
     subst hp
     have hv : val = val':=by
      have:=h (part ++ [])
      rw [E.VX,E.VX] at this
      exact this
     subst hv
     congr 1
     funext c
     refine ih c (hf.2 c) (hf'.2 c) fun k => ?_
     have:=h (part ++ c :: k)
     rw [E.VX,E.VX] at this
     exact this
end Go.Proofs.YtbnhggfiembejaaGreatDoor
end
section
namespace Go.Proofs.YtbnhggfiembejaaGreatDoor
open Go X
set_option linter.unusedSimpArgs false
set_option linter.unusedVariables false
def common : Key → Key → Nat
 | a :: x,b :: y => if a = b then common x y + 1 else 0
 | _,_ => 0
theorem Ed : ∀ (a b : Key),common a b ≤ a.length ∧ common a b ≤ b.length:=by
 intro a
 induction a with
 | nil => intro b; simp [common]
 | cons x r ih => intro b; cases b with
   | nil => simp [common]
   | cons y s => simp only [common]; split <;> simp [ih s]
theorem Su {a b : Key} {n : Nat} (h : ∀ i,i < n → a[i]? = b[i]?) (ha : n ≤ a.length) (hb : n ≤ b.length) (hs : a[n]? ≠ b[n]? ∨ n = a.length ∨ n = b.length) : common a b = n:=by
 induction a generalizing b n with
 | nil => simp at ha; subst ha; simp [common]
 | cons x r ih =>
   cases b with
   | nil => simp at hb; subst hb; simp [common]
   | cons y s =>
     cases n with
     | zero => simp at hs; simp [common,hs]
     | succ n =>
       have h0:=h 0 (by omega)
       simp at h0
       subst h0
       simp only [common,if_true]
       rw [ih (n:=n) (fun i hi => by have:=h (i + 1) (by omega); simpa using this) (by simpa using ha) (by simpa using hb) (by simpa using hs)]
theorem Yf : ∀ (a b : Key),∃ p q r,a = p ++ q ∧ b = p ++ r ∧ p.length = common a b ∧ (∀ x y q' r',q = x :: q' → r = y :: r' → x ≠ y):=by
 intro a
 induction a with
 | nil => intro b; exact ⟨[],[],b,rfl,rfl,by simp [common],fun x y q' r' h => by cases h⟩
 | cons x r ih =>
   intro b
   cases b with
   | nil => exact ⟨[],x :: r,[],rfl,rfl,by simp [common],fun x y q' r' _ h => by cases h⟩
   | cons y s =>
     by_cases h : x = y
     · subst h
       obtain ⟨p,q,r',h1,h2,h3,h4⟩:=ih s
       exact ⟨x :: p,q,r',by rw [h1]; rfl,by rw [h2]; rfl,by simp [common,h3],h4⟩
     · exact ⟨[],x :: r,y :: s,rfl,rfl,by simp [common,h],fun a b q' r' h1 h2 => by cases h1; cases h2; exact h⟩
theorem Q7T (p q r : Key) (h : ∀ x y q' r',q = x :: q' → r = y :: r' → x ≠ y) : common (p ++ q) (p ++ r) = p.length:=by
 induction p with
 | nil =>
   cases q with
   | nil => simp [common]
   | cons x q' => cases r with
     | nil => simp [common]
     | cons y r' => simp [common,h x y q' r' rfl rfl]
 | cons a p ih => simp [common,ih]
def JU (kids : UInt8 → E) (b : UInt8) (e : E) : UInt8 → E:=fun c => if c = b then e else kids c
def Du : UInt8 → E:=fun _ => .nil
theorem JI (kids : UInt8 → E) (b : UInt8) (e : E) : JU kids b e b = e:=by simp [JU]
theorem ZN (kids : UInt8 → E) {b c : UInt8} (e : E) (h : c ≠ b) : JU kids b e c = kids c:=by simp [JU,h]
theorem Qlj (kids : UInt8 → E) (b : UInt8) (e : E) : (fun c => (JU kids b e c).opt) = upd (fun c => (kids c).opt) b e.opt:=by
 funext c; unfold JU upd; split <;> rfl
theorem QpO : (fun c => (Du c).opt) = fun _ => none:=rfl
abbrev Y2 (kids : UInt8 → E) : Nat:=cnt fun c => (kids c).opt
theorem Df (kids : UInt8 → E) (b : UInt8) (e : E) : Y2 (JU kids b e) + (if (kids b).opt.isSome then 1 else 0) = Y2 kids + (if e.opt.isSome then 1 else 0):=by
 unfold Y2
 rw [Qlj]
 exact Q09 _ _ _
theorem Iy : Y2 Du = 0:=by unfold Y2; rw [QpO]; simp [cnt,VG]
def Qfq (part : Key) (val : Option Nat) (kids : UInt8 → E) (k : Key) (v : Nat) : E :=
 let p:=part.take (common part k)
 match part.drop (common part k),k.drop (common part k) with
 | x :: q,[] => .node p (some v) (JU Du x (.node q val kids))
 | x :: q,y :: r => .node p none (JU (JU Du x (.node q val kids)) y (.node r (some v) Du))
 | [],_ => .nil
def G8 : E → Key → Nat → E
 | .nil,k,v => .node k (some v) Du
 | .node part val kids,k,v =>
   if common part k = part.length then
    (match k.drop part.length with
    | [] => .node part (some v) kids
    | c :: r => .node part val (JU kids c (G8 (kids c) r v)))
   else Qfq part val kids k v
theorem J3 {part : Key} {val : Option Nat} {kids : UInt8 → E} {k : Key} (h : ¬ part <+: k) : (E.node part val kids).get k = none:=by rw [E.get,if_neg h]
theorem get_nil {part : Key} {val : Option Nat} {kids : UInt8 → E} : (E.node part val kids).get part = val:=by
 have:=E.VX part val kids []
 simpa using this
theorem Z8 {part : Key} {val : Option Nat} {kids : UInt8 → E} {c : UInt8} {r : Key} : (E.node part val kids).get (part ++ c :: r) = (kids c).get r:=E.VX part val kids (c :: r)
theorem Hd {p : Key} {x : UInt8} {q : Key} {val : Option Nat} {kids : UInt8 → E} : (E.node (p ++ x :: q) val kids).get p = none:=J3 fun h => by have:=h.length_le; simp at this; omega
theorem Vs {p q s : Key} {x y : UInt8} {val : Option Nat} {kids : UInt8 → E} (h : y ≠ x) : (E.node (p ++ x :: q) val kids).get (p ++ y :: s) = none:=J3 fun hp => by
 rw [List.prefix_append_right_inj,List.cons_prefix_cons] at hp
 exact h hp.1.symm
theorem Eb {p q s : Key} {x : UInt8} {val : Option Nat} {kids : UInt8 → E} : (E.node (p ++ x :: q) val kids).get (p ++ x :: s) = (E.node q val kids).get s:=by
 by_cases h : q <+: s
 · obtain ⟨t,rfl⟩:=h
   rw [show p ++ x :: (q ++ t) = (p ++ x :: q) ++ t by simp,E.VX,E.VX]
 · rw [J3 h,J3]
   intro hp
   rw [List.prefix_append_right_inj,List.cons_prefix_cons] at hp
   exact h hp.2
theorem Qa6 {e : E} {k : Key} {v : Nat} : (G8 e k v).opt.isSome = true:=by
 cases e with
 | nil => rfl
 | node part val kids =>
   unfold G8
   split
   · split <;> rfl
   · rename_i h
     unfold Qfq
     split <;> try rfl
     rename_i h1
     have:=Ed part k
     have h2:=congrArg List.length h1
     simp at h2
     omega
theorem RI {p r : Key} {val : Option Nat} {kids : UInt8 → E} {v : Nat} : G8 (.node p val kids) (p ++ r) v = (match r with | [] => .node p (some v) kids | c :: r => .node p val (JU kids c (G8 (kids c) r v))):=by
 have : common p (p ++ r) = p.length:=by
  have:=Q7T p [] r (fun _ _ _ _ h => by cases h)
  simpa using this
 rw [G8,if_pos this,List.drop_left]
 cases r <;> rfl
theorem OL {p q r : Key} {x : UInt8} {val : Option Nat} {kids : UInt8 → E} {v : Nat} (h : ∀ y r',r = y :: r' → x ≠ y) : G8 (.node (p ++ x :: q) val kids) (p ++ r) v =
  (match r with | [] => .node p (some v) (JU Du x (.node q val kids)) | y :: r => .node p none (JU (JU Du x (.node q val kids)) y (.node r (some v) Du))):=by
 have : common (p ++ x :: q) (p ++ r) = p.length:=Q7T p (x :: q) r (fun a y q' r' h1 h2 => by cases h1; exact h y r' h2)
 rw [G8,if_neg (by rw [this]; simp),Qfq,this,List.take_left,List.drop_left,List.drop_left]
 cases r <;> rfl
theorem Qd2 : ∀ {e : E} {k : Key} {v : Nat} {k' : Key},(G8 e k v).get k' = if k' = k then some v else e.get k':=by
 intro e
 induction e with
 | nil =>
   intro k v k'
   show (E.node k (some v) Du).get k' = _
   by_cases h : k <+: k'
   · obtain ⟨r,rfl⟩:=h
     cases r with
     | nil => rw [List.append_nil,if_pos rfl,get_nil]
     | cons c r => rw [Z8,if_neg (by simp)]; rfl
   · rw [J3 h,if_neg (fun e => h (by rw [e]; exact List.prefix_refl _))]; rfl
 | node part val kids ih =>
   intro k v k'
   obtain ⟨p,q,r,rfl,rfl,-,hne⟩:=Yf part k
   cases q with
   | nil =>
     rw [List.append_nil,RI]
     cases r with
     | nil =>
       rw [List.append_nil]
       by_cases h : p <+: k'
       · obtain ⟨s,rfl⟩:=h
         cases s with
         | nil => rw [List.append_nil,if_pos rfl,get_nil]
         | cons c s => rw [Z8,if_neg (by simp),Z8]
       · rw [J3 h,if_neg (fun e => h (by rw [e]; exact List.prefix_refl _)),J3 h]
     | cons y r =>
       by_cases h : p <+: k'
       · obtain ⟨s,rfl⟩:=h
         cases s with
         | nil => rw [List.append_nil,get_nil,if_neg (by simp),get_nil]
         | cons c s =>
           rw [Z8,Z8]
           by_cases e : c = y
           · subst e
             rw [JI,ih]
             by_cases e2 : s = r
             · subst e2; rw [if_pos rfl,if_pos rfl]
             · rw [if_neg e2,if_neg (by simpa using e2)]
           · rw [ZN _ _ e,if_neg (fun h => e (by simp at h; exact h.1))]
       · rw [J3 h,if_neg (fun e => h (by rw [e]; exact List.prefix_append _ _)),J3 h]
   | cons x q =>
     have hx : ∀ y r',r = y :: r' → x ≠ y:=fun y r' h => hne x y q r' rfl h
     rw [OL hx]
     by_cases h : p <+: k'
     · obtain ⟨s,rfl⟩:=h
       cases r with
       | nil =>
         rw [List.append_nil]
         cases s with
         | nil => rw [List.append_nil,if_pos rfl,get_nil]
         | cons c s =>
           rw [Z8,if_neg (by simp)]
           by_cases e : c = x
           · subst e; rw [JI,Eb]
           · rw [ZN _ _ e,Vs e]; rfl
       | cons y r =>
         have hxy:=hx y r rfl
         cases s with
         | nil => rw [List.append_nil,get_nil,if_neg (by simp),Hd]
         | cons c s =>
           rw [Z8]
           by_cases e : c = y
           · subst e
             rw [JI,Vs (Ne.symm hxy)]
             by_cases e2 : r <+: s
             · obtain ⟨t,rfl⟩:=e2
               cases t with
               | nil => rw [List.append_nil,get_nil,if_pos rfl]
               | cons z t => rw [Z8,if_neg (by simp)]; rfl
             · rw [J3 e2,if_neg]
               intro h
               simp at h
               exact e2 (by rw [h]; exact List.prefix_refl _)
           · rw [ZN _ _ e,if_neg (fun h => e (by simp at h; exact h.1))]
             by_cases e3 : c = x
             · subst e3; rw [JI,Eb]
             · rw [ZN _ _ e3,Vs e3]; rfl
     · have h' : ¬ (p ++ x :: q) <+: k':=fun hp => h ((List.prefix_append _ _).trans hp)
       rw [J3 h',if_neg (fun e => h (by rw [e]; exact List.prefix_append _ _))]
       cases r <;> exact J3 h
theorem Qdd (c : UInt8) : (Du c).ZV:=trivial
theorem TZ {kids : UInt8 → E} {b : UInt8} {e : E} (h : ∀ c,(kids c).ZV) (he : e.ZV) : ∀ c,(JU kids b e c).ZV:=fun c => by
 unfold JU; split
 · exact he
 · exact h c
theorem Ws {part : Key} {val : Option Nat} {kids : UInt8 → E} (h : Y2 kids = 0 → val.isSome = true) (h2 : Y2 kids ≠ 0 → 2 ≤ Y2 kids + one val) (h3 : ∀ c,(kids c).ZV) : (E.node part val kids).ZV:=by
 refine ⟨?_,h3⟩
 split
 · rename_i e; exact h e
 · rename_i e; exact h2 e
theorem Dc {part : Key} {val : Option Nat} {kids : UInt8 → E} (h : (E.node part val kids).ZV) : (Y2 kids = 0 → val.isSome = true) ∧ (Y2 kids ≠ 0 → 2 ≤ Y2 kids + one val) ∧ ∀ c,(kids c).ZV:=by
 obtain ⟨h1,h2⟩:=h
 refine ⟨fun e => ?_,fun e => ?_,h2⟩
 · rw [if_pos e] at h1; exact h1
 · rw [if_neg e] at h1; exact h1
theorem Qal {part part' : Key} {val : Option Nat} {kids : UInt8 → E} (h : (E.node part val kids).ZV) : (E.node part' val kids).ZV:=h
theorem Q43 {part : Key} {v : Nat} : (E.node part (some v) Du).ZV:=Ws (fun _ => rfl) (fun h => absurd Iy h) Qdd
theorem Qa7 : ∀ {e : E} {k : Key} {v : Nat},e.ZV → (G8 e k v).ZV:=by
 intro e
 induction e with
 | nil => intro k v _; exact Q43
 | node part val kids ih =>
   intro k v hf
   obtain ⟨h1,h2,h3⟩:=Dc hf
   obtain ⟨p,q,r,rfl,rfl,-,hne⟩:=Yf part k
   cases q with
   | nil =>
     rw [List.append_nil,RI]
     cases r with
     | nil =>
       show (E.node p (some v) kids).ZV
       refine Ws (fun _ => rfl) (fun h => ?_) h3
       show 2 ≤ Y2 kids + 1
       have : 0 < Y2 kids:=Nat.pos_of_ne_zero h
       omega
     | cons y r =>
       have hc:=Df kids y (G8 (kids y) r v)
       rw [Qa6] at hc
       simp only [if_true] at hc
       show (E.node p val (JU kids y (G8 (kids y) r v))).ZV
       refine Ws (fun h => ?_) (fun h => ?_) (TZ h3 (ih y (h3 y)))
       · split at hc
         · rename_i hy
           have hpos : 0 < Y2 kids:=P7 hy
           have h0 : Y2 (JU kids y (G8 (kids y) r v)) = 0:=h
           rw [h0] at hc
           omega
         · have h0 : Y2 (JU kids y (G8 (kids y) r v)) = 0:=h
           rw [h0] at hc
           omega
       · by_cases e : Y2 kids = 0
         · have:=h1 e
           simp [one,this]
           omega
         · have:=h2 e
           split at hc <;> omega
   | cons x q =>
     have hx : ∀ y r',r = y :: r' → x ≠ y:=fun y r' h => hne x y q r' rfl h
     rw [OL hx]
     have c1 : Y2 (JU Du x (.node q val kids)) = 1:=by
      have:=Df Du x (.node q val kids)
      rw [Iy] at this
      exact this
     have f1 : ∀ c,(JU Du x (.node q val kids) c).ZV:=TZ Qdd (Qal hf)
     cases r with
     | nil => exact Ws (fun _ => rfl) (fun _ => by rw [c1]; exact Nat.le_refl 2) f1
     | cons y r =>
       have c2 : Y2 (JU (JU Du x (.node q val kids)) y (.node r (some v) Du)) = 2:=by
        have:=Df (JU Du x (.node q val kids)) y (.node r (some v) Du)
        rw [ZN _ _ (Ne.symm (hx y r rfl)),c1] at this
        exact this
       show (E.node p none (JU (JU Du x (.node q val kids)) y (.node r (some v) Du))).ZV
       refine Ws (fun h => ?_) (fun _ => ?_) (TZ f1 Q43)
       · rw [c2] at h; cases h
       · rw [c2]; decide
end Go.Proofs.YtbnhggfiembejaaGreatDoor
end
section
section
namespace Go.Proofs.YtbnhggfiembejaaGreatDoor
open Go X
set_option linter.unusedSimpArgs false
set_option linter.unusedVariables false
abbrev Uv : Key → Key → Int:=Lib.compareBytes
theorem Wp (a b : UInt8) (x y : Key) : Uv (a :: x) (b :: y) = if a < b then -1 else if b < a then 1 else Uv x y:=by
 show Lib.compareBytes _ _ = _
 rw [Lib.compareBytes]
theorem Q2p (b : UInt8) (y : Key) : Uv [] (b :: y) = -1:=rfl
theorem Gd (b : UInt8) (y : Key) : Uv (b :: y) [] = 1:=rfl
theorem Q3Z : ∀ a : Key,Uv a a = 0:=by
 intro a
 induction a with
 | nil => rfl
 | cons x r ih => rw [Wp,if_neg (UInt8.lt_irrefl x),if_neg (UInt8.lt_irrefl x),ih]
theorem Qbf : ∀ {a b : Key},Uv a b = 0 → a = b:=by
 intro a
 induction a with
 | nil => intro b h; cases b with
   | nil => rfl
   | cons y s => rw [Q2p] at h; cases h
 | cons x r ih => intro b h; cases b with
   | nil => rw [Gd] at h; cases h
   | cons y s =>
     rw [Wp] at h
     split at h
     · cases h
     · split at h
       · cases h
       · rename_i h1 h2
         rw [ih h,UInt8.le_antisymm (UInt8.not_lt.1 h2) (UInt8.not_lt.1 h1)]
theorem QiZ {a b : Key} : Uv a b = 0 ↔ a = b:=⟨Qbf,fun h => h ▸ Q3Z a⟩
theorem Qmk : ∀ (a b : Key),Uv a b = -1 ∨ Uv a b = 0 ∨ Uv a b = 1:=by
 intro a
 induction a with
 | nil => intro b; cases b with
   | nil => exact .inr (.inl rfl)
   | cons y s => exact .inl rfl
 | cons x r ih => intro b; cases b with
   | nil => exact .inr (.inr rfl)
   | cons y s =>
     rw [Wp]
     split
     · exact .inl rfl
     · split
       · exact .inr (.inr rfl)
       · exact ih s
theorem Qdu : ∀ (a b : Key),Uv b a = - Uv a b:=by
 intro a
 induction a with
 | nil => intro b; cases b <;> rfl
 | cons x r ih => intro b; cases b with
   | nil => rfl
   | cons y s =>
     rw [Wp,Wp]
     by_cases h1 : x < y
     · rw [if_pos h1,if_neg (UInt8.lt_asymm h1),if_pos h1]; rfl
     · by_cases h2 : y < x
       · rw [if_pos h2,if_neg h1,if_pos h2]
       · rw [if_neg h1,if_neg h2,if_neg h2,if_neg h1,ih]
theorem Q7q : ∀ {a b c : Key},Uv a b < 0 → Uv b c < 0 → Uv a c < 0:=by
 intro a
 induction a with
 | nil => intro b c h1 h2; cases c with
   | nil => cases b with
     | nil => exact absurd h1 (by decide)
     | cons => rw [Gd] at h2; exact absurd h2 (by decide)
   | cons => rw [Q2p]; decide
 | cons x r ih => intro b c h1 h2; cases b with
   | nil => rw [Gd] at h1; exact absurd h1 (by decide)
   | cons y s => cases c with
     | nil => rw [Gd] at h2; exact absurd h2 (by decide)
     | cons z t =>
       rw [Wp] at h1 h2 ⊢
       by_cases a1 : x < y
       · by_cases a2 : y < z
         · rw [if_pos (UInt8.lt_trans a1 a2)]; decide
         · by_cases a3 : z < y
           · rw [if_neg a2,if_pos a3] at h2; exact absurd h2 (by decide)
           · have : y = z:=UInt8.le_antisymm (UInt8.not_lt.1 a3) (UInt8.not_lt.1 a2)
             subst this
             rw [if_pos a1]; decide
       · by_cases a3 : y < x
         · rw [if_neg a1,if_pos a3] at h1; exact absurd h1 (by decide)
         · have : x = y:=UInt8.le_antisymm (UInt8.not_lt.1 a3) (UInt8.not_lt.1 a1)
           subst this
           rw [if_neg a1,if_neg a1] at h1
           by_cases a2 : x < z
           · rw [if_pos a2]; decide
           · by_cases a4 : z < x
             · rw [if_neg a2,if_pos a4] at h2; exact absurd h2 (by decide)
             · rw [if_neg a2,if_neg a4] at h2 ⊢
               exact ih h1 h2
theorem Sd (p a b : Key) : Uv (p ++ a) (p ++ b) = Uv a b:=by
 induction p with
 | nil => rfl
 | cons x p ih => rw [List.cons_append,List.cons_append,Wp,if_neg (UInt8.lt_irrefl x),if_neg (UInt8.lt_irrefl x),ih]
def Xr (a b : Key) : Prop:=Uv a b < 0
instance (a b : Key) : Decidable (Xr a b):=inferInstanceAs (Decidable (Uv a b < 0))
theorem Ep {a : Key} : ¬ Xr a a:=by unfold Xr; rw [Q3Z]; decide
theorem Q2l {a b : Key} (h : Xr a b) : ¬ Xr b a:=fun h' => Ep (Q7q h h')
theorem Qmh {a b : Key} (h : Xr a b) : a ≠ b:=fun e => Ep (e ▸ h)
theorem Qba (a b : Key) : Xr a b ∨ a = b ∨ Xr b a:=by
 unfold Xr
 rw [Qdu a b]
 rcases Qmk a b with h | h | h
 · left; omega
 · right; left; exact Qbf h
 · right; right; omega
theorem Az {a b c : Key} (h : Xr a b) (k : Xr b c) : Xr a c:=Q7q h k
abbrev Kv:=List (Key × Nat)
def Zp (l : Kv) : Prop:=l.Pairwise fun a b => Xr a.1 b.1
def look : Kv → Key → Option Nat
 | [],_ => none
 | p :: r,k => if p.1 = k then some p.2 else look r k
theorem H5 (l m : Kv) (k : Key) : look (l ++ m) k = (look l k).or (look m k):=by
 induction l with
 | nil => simp [look]
 | cons p r ih =>
   rw [List.cons_append,look,look]
   split
   · rfl
   · exact ih
theorem KQ {l : Kv} {k : Key} : look l k = none ↔ ∀ p ∈ l,p.1 ≠ k:=by
 induction l with
 | nil => simp [look]
 | cons p r ih =>
   rw [look]
   split
   · rename_i h; simp [h]
   · rename_i h
     rw [ih]
     simp [h]
theorem Ez {l : Kv} {k : Key} {v : Nat} (h : look l k = some v) : (k,v) ∈ l:=by
 induction l with
 | nil => cases h
 | cons p r ih =>
   rw [look] at h
   split at h
   · rename_i e
     cases h
     rw [← e]
     exact List.mem_cons_self
   · exact List.mem_cons_of_mem _ (ih h)
theorem Zp.lk {l : Kv} (h : Zp l) {k : Key} {v : Nat} (hm : (k,v) ∈ l) : look l k = some v:=by
 induction l with
 | nil => cases hm
 | cons p r ih =>
   obtain ⟨h1,h2⟩:=List.pairwise_cons.1 h
   rw [look]
   rcases List.mem_cons.1 hm with e | e
   · subst e; rw [if_pos rfl]
   · rw [if_neg (Qmh (h1 _ e)),ih h2 e]
theorem Zp.ext {l m : Kv} (hl : Zp l) (hm : Zp m) (h : ∀ k,look l k = look m k) : l = m:=by
 have key : ∀ {l m : Kv},Zp l → Zp m → (∀ k,look l k = look m k) → ∀ p ∈ l,p ∈ m:=fun {l m} hl hm h p hp => by
  have:=hl.lk (k:=p.1) (v:=p.2) hp
  rw [h] at this
  exact Ez this
 have k1:=key hl hm h
 have k2:=key hm hl fun k => (h k).symm
 clear h key
 induction l generalizing m with
 | nil =>
   cases m with
   | nil => rfl
   | cons q s => exact absurd (k2 q (by simp)) (by simp)
 | cons p r ih =>
   cases m with
   | nil => exact absurd (k1 p (by simp)) (by simp)
   | cons q s =>
     obtain ⟨h1,h2⟩:=List.pairwise_cons.1 hl
     obtain ⟨h3,h4⟩:=List.pairwise_cons.1 hm
     have e : p = q:=by
      rcases List.mem_cons.1 (k1 p (by simp)) with e | e
      · exact e
      · rcases List.mem_cons.1 (k2 q (by simp)) with e' | e'
        · exact e'.symm
        · exact absurd (h1 q e') (Q2l (h3 p e))
     subst e
     congr 1
     refine ih h2 h4 (fun x hx => ?_) fun x hx => ?_
     · rcases List.mem_cons.1 (k1 x (by simp [hx])) with e | e
       · subst e; exact absurd (h1 x hx) Ep
       · exact e
     · rcases List.mem_cons.1 (k2 x (by simp [hx])) with e | e
       · subst e; exact absurd (h3 x hx) Ep
       · exact e
def EB : Kv → Key → Nat → Kv
 | [],k,v => [(k,v)]
 | p :: r,k,v => if Xr p.1 k then p :: EB r k v else if p.1 = k then (k,v) :: r else (k,v) :: p :: r
theorem Qad {l : Kv} (hl : Zp l) (k : Key) (v : Nat) (k' : Key) : look (EB l k v) k' = if k' = k then some v else look l k':=by
 induction l with
 | nil =>
   show (if k = k' then some v else none) = _
   by_cases e : k' = k
   · rw [if_pos e,if_pos e.symm]
   · rw [if_neg e,if_neg (Ne.symm e)]; rfl
 | cons p r ih =>
   obtain ⟨h1,h2⟩:=List.pairwise_cons.1 hl
   rw [EB]
   split
   · rename_i hlt
     rw [look,look,ih h2]
     by_cases e : p.1 = k'
     · rw [if_pos e,if_pos e,if_neg (fun e' => Qmh hlt (e.trans e'))]
     · rw [if_neg e,if_neg e]
   · split
     · rename_i hn e
       rw [look,look]
       by_cases e' : k' = k
       · rw [if_pos e',if_pos e'.symm]
       · rw [if_neg e',if_neg (Ne.symm e'),if_neg (by rw [e]; exact Ne.symm e')]
     · rw [look]
       by_cases e' : k' = k
       · rw [if_pos e',if_pos e'.symm]
       · rw [if_neg e',if_neg (Ne.symm e')]
theorem Qdx {l : Kv} {k : Key} {v : Nat} {p : Key × Nat} (h : p ∈ EB l k v) : p = (k,v) ∨ p ∈ l:=by
 induction l with
 | nil => exact .inl (by simpa [EB] using h)
 | cons q r ih =>
   rw [EB] at h
   split at h
   · rcases List.mem_cons.1 h with e | e
     · exact .inr (by rw [e]; exact List.mem_cons_self)
     · exact (ih e).elim .inl fun h => .inr (List.mem_cons_of_mem _ h)
   · split at h
     · rcases List.mem_cons.1 h with e | e
       · exact .inl e
       · exact .inr (List.mem_cons_of_mem _ e)
     · rcases List.mem_cons.1 h with e | e
       · exact .inl e
       · exact .inr e
theorem Q7r {l : Kv} (hl : Zp l) (k : Key) (v : Nat) : Zp (EB l k v):=by
 induction l with
 | nil => exact List.pairwise_singleton _ _
 | cons p r ih =>
   obtain ⟨h1,h2⟩:=List.pairwise_cons.1 hl
   rw [EB]
   split
   · rename_i hlt
     refine List.pairwise_cons.2 ⟨fun q hq => ?_,ih h2⟩
     rcases Qdx hq with e | e
     · rw [e]; exact hlt
     · exact h1 q e
   · split
     · rename_i hn e
       exact List.pairwise_cons.2 ⟨fun q hq => by rw [← e]; exact h1 q hq,h2⟩
     · rename_i hn hne
       have hk : Xr k p.1:=by
        rcases Qba p.1 k with h | h | h
        · exact absurd h hn
        · exact absurd h hne
        · exact h
       refine List.pairwise_cons.2 ⟨fun q hq => ?_,hl⟩
       rcases List.mem_cons.1 hq with e | e
       · rw [e]; exact hk
       · exact Az hk (h1 q e)
def Kj (l : Kv) : Kv:=l.foldl (fun s p => EB s p.1 p.2) []
theorem Q1n (l : Kv) (p : Key × Nat) : Kj (l ++ [p]) = EB (Kj l) p.1 p.2:=by simp [Kj]
theorem C9 (l : Kv) : Zp (Kj l):=by
 unfold Kj
 have : ∀ (l : Kv) (s : Kv),Zp s → Zp (l.foldl (fun s p => EB s p.1 p.2) s):=by
  intro l
  induction l with
  | nil => intro s h; exact h
  | cons p r ih => intro s h; exact ih _ (Q7r h _ _)
 exact this l [] List.Pairwise.nil
def N9 (l : Kv) (k : Key) : Option Nat:=look l.reverse k
theorem Q7g (l : Kv) (p : Key × Nat) (k : Key) : N9 (l ++ [p]) k = if p.1 = k then some p.2 else N9 l k:=by
 unfold N9
 rw [List.reverse_append]
 rfl
theorem OJ (l : Kv) (k : Key) : look (Kj l) k = N9 l k:=by
 have key : ∀ n (l : Kv),l.length = n → look (Kj l) k = N9 l k:=by
  intro n
  induction n with
  | zero => intro l h; rw [List.eq_nil_of_length_eq_zero h]; rfl
  | succ n ih =>
    intro l h
    obtain ⟨m,p,rfl⟩ : ∃ m p,l = m ++ [p]:=⟨l.dropLast,l.getLast (fun e => by rw [e] at h; cases h),(List.dropLast_concat_getLast _).symm⟩
    rw [Q1n,Qad (C9 m),Q7g,ih m (by simpa using h)]
    by_cases e : k = p.1
    · rw [if_pos e,if_pos e.symm]
    · rw [if_neg e,if_neg (Ne.symm e)]
 exact key _ l rfl
theorem VE {l : Kv} (h : Zp l) (k : Key) : N9 l k = look l k:=by
 cases e : look l k with
 | none =>
   have:=KQ.1 e
   exact KQ.2 fun p hp => this p (List.mem_reverse.1 hp)
 | some v =>
   have hm:=Ez e
   cases e' : N9 l k with
   | none => exact absurd rfl (KQ.1 e' (k,v) (List.mem_reverse.2 hm))
   | some u =>
     have hm' : (k,u) ∈ l:=List.mem_reverse.1 (Ez e')
     rw [h.lk hm'] at e
     exact e
theorem Qly {l : Kv} (h : Zp l) : Kj l = l:=(C9 l).ext h fun k => by rw [OJ,VE h]
theorem Qj2 (l : Kv) (h : Zp l) (k : Key) (v : Nat) : EB l k v = Kj (l ++ [(k,v)]):=by rw [Q1n,Qly h]
theorem Sg (l : Kv) (k : Key) (v : Nat) : (EB l k v).length ≤ l.length + 1:=by
 induction l with
 | nil => simp [EB]
 | cons p r ih =>
   rw [EB]
   split
   · simp only [List.length_cons]; omega
   · split <;> simp
theorem Yd (l : Kv) : (Kj l).length ≤ l.length:=by
 unfold Kj
 have : ∀ (l : Kv) (s : Kv),(l.foldl (fun s p => EB s p.1 p.2) s).length ≤ s.length + l.length:=by
  intro l
  induction l with
  | nil => intro s; simp
  | cons p r ih =>
    intro s
    have:=ih (EB s p.1 p.2)
    have h2:=Sg s p.1 p.2
    simp only [List.foldl_cons,List.length_cons]
    omega
 have:=this l []
 simpa using this
theorem Qa4 {l : Kv} {p : Key × Nat} (h : p ∈ Kj l) : p ∈ l:=by
 have:=(C9 l).lk (k:=p.1) (v:=p.2) h
 rw [OJ] at this
 exact List.mem_reverse.1 (Ez this)
structure Can (e : E) (g : Key → Option Nat) : Prop where
 fine : e.ZV
 get : ∀ k,e.get k = g k
theorem Can.uniq {e e' : E} {g : Key → Option Nat} (h : Can e g) (h' : Can e' g) : e = e':=E.unique h.fine h'.fine fun k => (h.get k).trans (h'.get k).symm
theorem Can.congr {e : E} {g g' : Key → Option Nat} (h : Can e g) (hg : ∀ k,g k = g' k) : Can e g':=⟨h.fine,fun k => (h.get k).trans (hg k)⟩
theorem Can.nil : Can .nil (fun _ => none):=⟨trivial,fun _ => rfl⟩
theorem Can.put {e : E} {g : Key → Option Nat} (h : Can e g) (k : Key) (v : Nat) : Can (G8 e k v) fun k' => if k' = k then some v else g k' :=
 ⟨Qa7 h.fine,fun k' => by rw [Qd2,h.get]⟩
def E.size : E → Nat
 | .nil => 0
 | .node _ _ kids => (Rf.map fun c => (kids c).size).sum + 1
def CZ : List Nat → Nat
 | [] => 0
 | n :: r => max n (CZ r)
theorem Ay {l : List Nat} {n : Nat} (h : n ∈ l) : n ≤ CZ l:=by
 induction l with
 | nil => cases h
 | cons a r ih =>
   rw [CZ]
   rcases List.mem_cons.1 h with e | e
   · subst e; omega
   · have:=ih e; omega
theorem Qdi {l : List Nat} {n : Nat} (h : ∀ m ∈ l,m ≤ n) : CZ l ≤ n:=by
 induction l with
 | nil => exact Nat.zero_le n
 | cons a r ih =>
   have h1:=h a (by simp)
   have h2:=ih fun m hm => h m (by simp [hm])
   rw [CZ]
   omega
def E.long : E → Nat
 | .nil => 0
 | .node part _ kids => CZ (Rf.map fun c => if (kids c).opt.isSome then (kids c).long + 1 else 0) + part.length
end Go.Proofs.YtbnhggfiembejaaGreatDoor
end
section
namespace Go.Proofs.YtbnhggfiembejaaGreatDoor
open Go X
set_option linter.unusedSimpArgs false
set_option linter.unusedVariables false
theorem E.RN {e : E} (h : e.opt = none) : e = .nil:=by cases e with
 | nil => rfl
 | node => cases h
theorem E.BQ {e : E} : e.opt.isSome = true ↔ e ≠ .nil:=by cases e <;> simp [E.opt]
theorem Np {kids : UInt8 → E} (h : Y2 kids = 0) : kids = Du:=by
 funext c
 exact E.RN (Qe2 h c)
theorem QbG {α : Type} {m : UInt8 → Option α} (h : cnt m = 1) {c d : UInt8} (hc : (m c).isSome) (hd : (m d).isSome) : c = d:=by
 have h1:=Zd.2 hc
 have h2:=Zd.2 hd
 unfold cnt at h
 match hl : dom m,h with
 | [a],_ =>
   rw [hl] at h1 h2
   simp at h1 h2
   rw [h1,h2]
theorem QqD {α : Type} {m : UInt8 → Option α} {c d : UInt8} (hc : (m c).isSome) (hd : (m d).isSome) (hne : c ≠ d) : 2 ≤ cnt m:=by
 have h1:=P7 hc
 by_cases h : cnt m = 1
 · exact absurd (QbG h hc hd) hne
 · omega
def Q7J (kids : UInt8 → E) : UInt8:=(Wd (fun c => (kids c).opt) 0).getD 0
def Q0B (part : Key) (c : UInt8) : E → E
 | .nil => .nil
 | .node p v ks => .node (part ++ c :: p) v ks
def YF (part : Key) (val : Option Nat) (kids : UInt8 → E) : E :=
 match val with
 | some v => .node part (some v) kids
 | none => if Y2 kids = 0 then .nil else if Y2 kids = 1 then Q0B part (Q7J kids) (kids (Q7J kids)) else .node part none kids
theorem Qak {kids : UInt8 → E} (h : Y2 kids ≠ 0) : (kids (Q7J kids)).opt.isSome = true:=by
 unfold Q7J
 cases e : Wd (fun c => (kids c).opt) 0 with
 | none =>
   exfalso
   apply h
   have : kids = Du:=funext fun c => E.RN (BG.1 e c (Nat.zero_le _))
   rw [this]; exact Iy
 | some c => exact (OM.1 e).1
theorem QiU {part : Key} {c : UInt8} {e : E} {kids : UInt8 → E} (h1 : kids c = e) (h2 : ∀ d,d ≠ c → kids d = .nil) (k : Key) : (Q0B part c e).get k = (E.node part none kids).get k:=by
 subst h1
 by_cases hp : part <+: k
 · obtain ⟨s,rfl⟩:=hp
   cases s with
   | nil =>
     rw [List.append_nil,get_nil]
     cases hk : kids c with
     | nil => rfl
     | node p v ks => exact Hd
   | cons d s =>
     rw [Z8]
     by_cases e : d = c
     · subst e
       cases hk : kids d with
       | nil => rfl
       | node p v ks => exact Eb
     · rw [h2 d e]
       cases hk : kids c with
       | nil => rfl
       | node p v ks => exact Vs e
 · rw [J3 hp]
   cases hk : kids c with
   | nil => rfl
   | node p v ks => exact J3 fun h => hp ((List.prefix_append _ _).trans h)
theorem QfR {part : Key} {c : UInt8} {e : E} (h : e.ZV) : (Q0B part c e).ZV:=by
 cases e with
 | nil => trivial
 | node => exact h
theorem Ce {part : Key} {val : Option Nat} {kids : UInt8 → E} (k : Key) : (YF part val kids).get k = (E.node part val kids).get k:=by
 unfold YF
 cases val with
 | some v => rfl
 | none =>
   show (if Y2 kids = 0 then E.nil else if Y2 kids = 1 then Q0B part (Q7J kids) (kids (Q7J kids)) else .node part none kids).get k = _
   split
   · rename_i h
     rw [Np h]
     by_cases hp : part <+: k
     · obtain ⟨s,rfl⟩:=hp
       cases s with
       | nil => rw [List.append_nil,get_nil]; rfl
       | cons c s => rw [Z8]; rfl
     · rw [J3 hp]; rfl
   · split
     · rename_i h0 h1
       have hs:=Qak h0
       refine QiU rfl (fun d hd => ?_) k
       refine Classical.byContradiction fun hn => hd ?_
       exact QbG h1 (E.BQ.2 hn) hs
     · rfl
theorem GJ {part : Key} {val : Option Nat} {kids : UInt8 → E} (h : ∀ c,(kids c).ZV) : (YF part val kids).ZV:=by
 unfold YF
 cases val with
 | some v =>
   refine Ws (fun _ => rfl) (fun h => ?_) h
   show 2 ≤ Y2 kids + 1
   omega
 | none =>
   show (if Y2 kids = 0 then E.nil else if Y2 kids = 1 then Q0B part (Q7J kids) (kids (Q7J kids)) else .node part none kids).ZV
   split
   · trivial
   · split
     · exact QfR (h _)
     · refine Ws (fun h => by omega) (fun h => ?_) h
       show 2 ≤ Y2 kids + 0
       omega
theorem Q2d {part : Key} {val : Option Nat} {kids : UInt8 → E} (h : 2 ≤ Y2 kids + one val) : YF part val kids = .node part val kids:=by
 unfold YF
 cases val with
 | some v => rfl
 | none =>
   have h : 2 ≤ Y2 kids + 0:=h
   show (if Y2 kids = 0 then E.nil else _) = _
   rw [if_neg (by omega),if_neg (by omega)]
theorem N7 {part : Key} {kids : UInt8 → E} {c : UInt8} (h1 : (kids c).opt.isSome = true) (h2 : ∀ d,d ≠ c → kids d = .nil) : YF part none kids = Q0B part c (kids c):=by
 have hc : Y2 kids = 1:=by
  have:=Df Du c (kids c)
  rw [Iy,h1] at this
  have e : JU Du c (kids c) = kids:=by
   funext d
   by_cases e : d = c
   · subst e; rw [JI]
   · rw [ZN _ _ e,h2 d e]; rfl
  rw [e] at this
  simpa [Du,E.opt] using this
 have hf : Q7J kids = c:=QbG hc (Qak (by omega)) h1
 unfold YF
 show (if Y2 kids = 0 then E.nil else if Y2 kids = 1 then Q0B part (Q7J kids) (kids (Q7J kids)) else .node part none kids) = _
 rw [if_neg (by omega),if_pos hc,hf]
def Nn : E → Key → E
 | .nil,_ => .nil
 | .node part val kids,k => if part <+: k then (match k.drop part.length with
   | [] => YF part none kids
   | c :: r => YF part val (JU kids c (Nn (kids c) r))) else .node part val kids
theorem Q2y {part r : Key} {val : Option Nat} {kids : UInt8 → E} : Nn (.node part val kids) (part ++ r) = match r with
  | [] => YF part none kids
  | c :: r => YF part val (JU kids c (Nn (kids c) r)):=by
 rw [Nn,if_pos (List.prefix_append _ _),List.drop_left]
 cases r <;> rfl
theorem QhP {part k : Key} {val : Option Nat} {kids : UInt8 → E} (h : ¬ part <+: k) : Nn (.node part val kids) k = .node part val kids:=by rw [Nn,if_neg h]
theorem QhL {part : Key} {val val' : Option Nat} {kids Vl : UInt8 → E} {k : Key} (h1 : k = part → val = val') (h2 : ∀ c r,k = part ++ c :: r → (kids c).get r = (Vl c).get r) : (E.node part val kids).get k = (E.node part val' Vl).get k:=by
 by_cases hp : part <+: k
 · obtain ⟨s,rfl⟩:=hp
   cases s with
   | nil => rw [List.append_nil] at *; rw [get_nil,get_nil,h1 rfl]
   | cons c s => rw [Z8,Z8,h2 c s rfl]
 · rw [J3 hp,J3 hp]
theorem Q7R : ∀ {e : E} {k k' : Key},(Nn e k).get k' = if k' = k then none else e.get k':=by
 intro e
 induction e with
 | nil => intro k k'; split <;> rfl
 | node part val kids ih =>
   intro k k'
   by_cases hp : part <+: k
   · obtain ⟨s,rfl⟩:=hp
     rw [Q2y]
     cases s with
     | nil =>
       show (YF part none kids).get k' = _
       rw [Ce,List.append_nil]
       split
       · rename_i e; rw [e,get_nil]
       · rename_i e; exact QhL (fun h => absurd h e) fun _ _ _ => rfl
     | cons c s =>
       show (YF part val (JU kids c (Nn (kids c) s))).get k' = _
       rw [Ce]
       by_cases e : k' = part ++ c :: s
       · rw [if_pos e,e,Z8,JI,ih,if_pos rfl]
       · rw [if_neg e]
         refine QhL (fun _ => rfl) fun d r hd => ?_
         by_cases e2 : d = c
         · subst e2
           rw [JI,ih,if_neg]
           intro e3; apply e; rw [hd,e3]
         · rw [ZN _ _ e2]
   · rw [QhP hp]
     split
     · rename_i e; rw [e,J3 hp]
     · rfl
theorem Qar : ∀ {e : E} {k : Key},e.ZV → (Nn e k).ZV:=by
 intro e
 induction e with
 | nil => intro k h; exact h
 | node part val kids ih =>
   intro k h
   obtain ⟨h1,h2,h3⟩:=Dc h
   by_cases hp : part <+: k
   · obtain ⟨s,rfl⟩:=hp
     rw [Q2y]
     cases s with
     | nil => exact GJ h3
     | cons c s => exact GJ (TZ h3 (ih c (h3 c)))
   · rw [QhP hp]; exact h
theorem Can.del {e : E} {g : Key → Option Nat} (h : Can e g) (k : Key) : Can (Nn e k) fun k' => if k' = k then none else g k' :=
 ⟨Qar h.fine,fun k' => by rw [Q7R,h.get]⟩
theorem QiL {p q a b : Key} {val : Option Nat} {kids : UInt8 → E} (k : Key) : (E.node (a ++ p) val kids).get k = if a <+: k then (E.node p val kids).get (k.drop a.length) else none:=by
 split
 · rename_i h
   obtain ⟨s,rfl⟩:=h
   rw [List.drop_left]
   by_cases hp : p <+: s
   · obtain ⟨r,rfl⟩:=hp
     rw [← List.append_assoc,E.VX,E.VX]
   · rw [J3 hp,J3 fun h => hp ((List.prefix_append_right_inj _).1 h)]
 · rename_i h
   exact J3 fun h' => h ((List.prefix_append _ _).trans h')
end Go.Proofs.YtbnhggfiembejaaGreatDoor
end
section
namespace Go.Proofs.YtbnhggfiembejaaGreatDoor
open Go X
set_option linter.unusedSimpArgs false
set_option linter.unusedVariables false
theorem QlB : ∀ {p a x z : Key},Uv (p ++ a) x ≤ 0 → Uv x (p ++ z) ≤ 0 → p <+: x:=by
 intro p
 induction p with
 | nil => intro a x z _ _; exact List.nil_prefix
 | cons c p ih =>
   intro a x z h1 h2
   cases x with
   | nil => exact absurd h1 (by show ¬ ((1 : Int) ≤ 0); decide)
   | cons d x =>
     rw [List.cons_append,Wp] at h1 h2
     have hcd : ¬ d < c:=fun h => by
      rw [if_neg (UInt8.lt_asymm h),if_pos h] at h1
      exact absurd h1 (by decide)
     have hdc : ¬ c < d:=fun h => by
      rw [if_neg (UInt8.lt_asymm h),if_pos h] at h2
      exact absurd h2 (by decide)
     have e : c = d:=UInt8.le_antisymm (UInt8.not_lt.1 hcd) (UInt8.not_lt.1 hdc)
     subst e
     rw [if_neg hcd,if_neg hcd] at h1 h2
     exact List.cons_prefix_cons.2 ⟨rfl,ih h1 h2⟩
theorem Qmi {a b : Key} (h : Xr a b ∨ a = b) : Uv a b ≤ 0:=by
 rcases h with h | h
 · exact Int.le_of_lt h
 · rw [h,Q3Z]; decide
theorem Zp.first {l : Kv} {a : Key × Nat} (h : Zp (a :: l)) {x : Key × Nat} (hx : x ∈ a :: l) : Xr a.1 x.1 ∨ a = x:=by
 rcases List.mem_cons.1 hx with e | e
 · exact .inr e.symm
 · exact .inl ((List.pairwise_cons.1 h).1 x e)
theorem Zp.last {l : Kv} (h : Zp l) {z : Key × Nat} (hz : l.getLast? = some z) {x : Key × Nat} (hx : x ∈ l) : Xr x.1 z.1 ∨ x = z:=by
 obtain ⟨m,rfl⟩:=List.getLast?_eq_some_iff.1 hz
 rcases List.mem_append.1 hx with e | e
 · exact .inl ((List.pairwise_append.1 h).2.2 x e z (by simp))
 · exact .inr (by simpa using e)
theorem Zp.common {l : Kv} {a z : Key × Nat} (h : Zp (a :: l)) (hz : (a :: l).getLast? = some z) {p : Key} (ha : p <+: a.1) (hp : p <+: z.1) : ∀ x ∈ a :: l,p <+: x.1:=by
 intro x hx
 obtain ⟨a',ha'⟩:=ha
 obtain ⟨z',hz'⟩:=hp
 refine QlB (a:=a') (z:=z') ?_ ?_
 · rw [ha']; exact Qmi ((h.first hx).imp id fun e => by rw [e])
 · rw [hz']; exact Qmi ((h.last hz hx).imp id fun e => by rw [e])
def JE (n : Nat) (k : Key) : UInt8:=k.getD n 0
theorem JY (q : Key) (c : UInt8) (r : Key) : JE q.length (q ++ c :: r) = c:=by simp [JE,List.getD]
def Eh (q : Key) (l : Kv) : Prop:=∀ x ∈ l,∃ c r,x.1 = q ++ c :: r
theorem Eh.of {q : Key} {l : Kv} (h : ∀ x ∈ l,q <+: x.1) (hn : ∀ x ∈ l,x.1 ≠ q) : Eh q l:=fun x hx => by
 obtain ⟨s,hs⟩:=h x hx
 cases s with
 | nil => exact absurd (by simpa using hs.symm) (hn x hx)
 | cons c r => exact ⟨c,r,hs.symm⟩
theorem QiR {q : Key} {l : Kv} {b c : UInt8} {r : Key} (h : ∀ x ∈ l,JE q.length x.1 = b) (hc : c ≠ b) : look l (q ++ c :: r) = none:=by
 refine KQ.2 fun x hx e => hc ?_
 have:=h x hx
 rw [e,JY] at this
 exact this
theorem Q7f {q : Key} {l : Kv} {c : UInt8} {r : Key} (h : ∀ x ∈ l,JE q.length x.1 ≠ c) : look l (q ++ c :: r) = none:=by
 refine KQ.2 fun x hx e => h x hx ?_
 rw [e,JY]
theorem Qu7 {q : Key} {l : Kv} (h : Eh q l) : look l q = none:=by
 refine KQ.2 fun x hx e => ?_
 obtain ⟨c,r,hr⟩:=h x hx
 rw [hr] at e
 have:=congrArg List.length e
 simp at this
theorem Qc2 {q : Key} {x y : Key} {c d : UInt8} {r s : Key} (hx : x = q ++ c :: r) (hy : y = q ++ d :: s) (h : Xr x y) : c ≤ d:=by
 subst hx; subst hy
 unfold Xr at h
 rw [Sd,Wp] at h
 refine UInt8.not_lt.1 fun hd => ?_
 rw [if_neg (UInt8.lt_asymm hd),if_pos hd] at h
 exact absurd h (by decide)
theorem Zp.groups {q : Key} {l : Kv} (h : Zp l) (hl : Eh q l) {n : Nat} {b : UInt8} (hb : ∀ x ∈ l.take n,JE q.length x.1 = b) (hn : 0 < n) (hs : ∀ y,l[n]? = some y → JE q.length y.1 ≠ b) : ∀ y ∈ l.drop n,JE q.length y.1 ≠ b:=by
 intro y hy
 rcases Nat.lt_or_ge n l.length with hlt | hge
 · cases l with
   | nil => simp at hy
   | cons a m =>
     have ha : a ∈ (a :: m).take n:=by
      cases n with
      | zero => omega
      | succ n => simp
     have hba:=hb a ha
     have hz : (a :: m)[n]? = some (a :: m)[n]:=List.getElem?_eq_getElem hlt
     have hzb:=hs _ hz
     have hzm : (a :: m)[n] ∈ a :: m:=List.getElem_mem hlt
     have hd : (a :: m).drop n = (a :: m)[n] :: (a :: m).drop (n + 1):=(List.drop_eq_getElem_cons hlt)
     have hr : Zp ((a :: m).drop n):=List.Pairwise.sublist (List.drop_sublist n _) h
     obtain ⟨c0,r0,e0⟩:=hl a (by simp)
     obtain ⟨c1,r1,e1⟩:=hl _ hzm
     obtain ⟨c2,r2,e2⟩:=hl y (List.mem_of_mem_drop hy)
     have haz : Xr a.1 (a :: m)[n].1:=by
      have:=(List.pairwise_cons.1 h).1 ((a :: m)[n]) (by
       cases n with
       | zero => omega
       | succ n => simp)
      exact this
     have hzy : Xr (a :: m)[n].1 y.1 ∨ (a :: m)[n] = y:=by
      rw [hd] at hr hy
      exact hr.first hy
     have k0 : b = c0:=by rw [← hba,e0,JY]
     have k1 : JE q.length (a :: m)[n].1 = c1:=by rw [e1,JY]
     have k2 : JE q.length y.1 = c2:=by rw [e2,JY]
     rw [k2,k0]
     rw [k1,k0] at hzb
     have h1:=Qc2 e0 e1 haz
     rcases hzy with hzy | hzy
     · have h2:=Qc2 e1 e2 hzy
       intro e
       subst e
       exact hzb (UInt8.le_antisymm h2 h1)
     · have : c1 = c2:=by rw [← k1,← k2,hzy]
       rw [← this]; exact hzb
 · rw [List.drop_eq_nil_of_le hge] at hy; cases hy
theorem Can.leaf {k : Key} {v : Nat} {g : Key → Option Nat} (h : ∀ r,g r = if r = k then some v else none) : Can (.node k (some v) Du) g :=
 ⟨Q43,fun r => by
  rw [h]
  by_cases e : r = k
  · subst e; rw [if_pos rfl,get_nil]
  · rw [if_neg e]
    by_cases hp : k <+: r
    · obtain ⟨s,rfl⟩:=hp
      cases s with
      | nil => simp at e
      | cons c s => rw [Z8]; rfl
    · exact J3 hp⟩
theorem Can.node {part : Key} {val : Option Nat} {kids : UInt8 → E} {g : Key → Option Nat} (hk : ∀ c,Can (kids c) fun r => g (part ++ c :: r)) (hv : val = g part) (ho : ∀ k,¬ part <+: k → g k = none) (h2 : 2 ≤ Y2 kids + one val) : Can (.node part val kids) g:=by
 refine ⟨Ws (fun h => ?_) (fun _ => h2) fun c => (hk c).fine,fun k => ?_⟩
 · rw [h] at h2
   unfold one at h2
   split at h2
   · assumption
   · omega
 · by_cases hp : part <+: k
   · obtain ⟨s,rfl⟩:=hp
     cases s with
     | nil => rw [List.append_nil,get_nil,hv]
     | cons c s => rw [Z8,(hk c).get]
   · rw [J3 hp,ho k hp]
theorem Can.some {e : E} {g : Key → Option Nat} (h : Can e g) {k : Key} (hk : (g k).isSome) : e.opt.isSome:=by
 refine E.BQ.2 fun e' => ?_
 subst e'
 rw [← h.get] at hk
 cases hk
theorem Can.none {e : E} {g : Key → Option Nat} (h : Can e g) (hk : ∀ k,g k = none) : e = .nil:=by
 refine Classical.byContradiction fun e' => ?_
 obtain ⟨k,v,hv⟩:=h.fine.V8 e'
 rw [h.get,hk] at hv
 cases hv
theorem Can.groups {part q : Key} {l done : Kv} {val : Option Nat} {kids : UInt8 → E} {p : Key} (hq : q = p ++ part) (hk : ∀ c,Can (kids c) fun r => look done (q ++ c :: r))
  (hd : ∀ c r,look done (q ++ c :: r) = look l (q ++ c :: r)) (hv : val = look l q) (hb : ∀ x ∈ l,q <+: x.1)
  (h2 : ∃ x ∈ l,∃ c r,x.1 = q ++ c :: r ∧ (val.isSome ∨ ∃ y ∈ l,∃ d s,y.1 = q ++ d :: s ∧ c ≠ d)) : Can (.node part val kids) fun r => look l (p ++ r):=by
 subst hq
 have hsome : ∀ x ∈ l,∀ c r,x.1 = (p ++ part) ++ c :: r → (kids c).opt.isSome:=fun x hx c r e => by
  refine (hk c).some (k:=r) ?_
  show (look done ((p ++ part) ++ c :: r)).isSome = true
  rw [hd]
  cases h : look l ((p ++ part) ++ c :: r) with
  | none => exact absurd e (KQ.1 h x hx)
  | some => rfl
 refine Can.node (fun c => ?_) (by rw [hv]) (fun k hn => ?_) ?_
 · refine (hk c).congr fun r => ?_
   rw [hd,List.append_assoc]
 · refine KQ.2 fun x hx e => hn ?_
   obtain ⟨s,hs⟩:=hb x hx
   rw [e,List.append_assoc] at hs
   exact ⟨s,List.append_cancel_left hs⟩
 · obtain ⟨x,hx,c,r,e,h | ⟨y,hy,d,s,e',hne⟩⟩:=h2
   · have h0:=P7 (m:=fun c => (kids c).opt) (hsome x hx c r e)
     unfold one
     rw [if_pos h]
     show 2 ≤ cnt _ + 1
     omega
   · have:=QqD (m:=fun c => (kids c).opt) (hsome x hx c r e) (hsome y hy d s e') hne
     show 2 ≤ cnt _ + one val
     omega
theorem Can.group {q : Key} {done g : Kv} {kids : UInt8 → E} {b : UInt8} {e : E} (hk : ∀ c,Can (kids c) fun r => look done (q ++ c :: r)) (he : Can e fun r => look g (q ++ b :: r))
  (hd : ∀ x ∈ done,JE q.length x.1 ≠ b) (hg : ∀ x ∈ g,JE q.length x.1 = b) : ∀ c,Can (JU kids b e c) fun r => look (done ++ g) (q ++ c :: r):=by
 intro c
 by_cases h : c = b
 · subst h
   rw [JI]
   refine he.congr fun r => ?_
   rw [H5,Q7f hd]; rfl
 · rw [ZN _ _ h]
   refine (hk c).congr fun r => ?_
   rw [H5,QiR hg h]
   cases look done (q ++ c :: r) <;> rfl
end Go.Proofs.YtbnhggfiembejaaGreatDoor
end
section
namespace Go.Proofs.YtbnhggfiembejaaGreatDoor
open Go X
set_option linter.unusedSimpArgs false
set_option linter.unusedVariables false
def Qe0 : Nat → Nat → List UInt8
 | 0,n => [UInt8.ofNat (48 + n)]
 | f + 1,n => if n < 10 then [UInt8.ofNat (48 + n)] else Qe0 f (n / 10) ++ [UInt8.ofNat (48 + n % 10)]
theorem QjG : ∀ {f g n : Nat},n ≤ f → n ≤ g → Qe0 f n = Qe0 g n:=by
 intro f
 induction f with
 | zero =>
   intro g n h1 h2
   have : n = 0:=by omega
   subst this
   cases g <;> rfl
 | succ f ih =>
   intro g n h1 h2
   cases g with
   | zero =>
     have : n = 0:=by omega
     subst this
     rfl
   | succ g =>
     rw [Qe0,Qe0]
     split
     · rfl
     · rw [ih (g:=g) (by omega) (by omega)]
def Xb (n : Nat) : List UInt8:=Qe0 n n
theorem Xz {n : Nat} (h : n < 10) : Xb n = [UInt8.ofNat (48 + n)]:=by
 unfold Xb
 cases n with
 | zero => rfl
 | succ n => rw [Qe0,if_pos h]
theorem EF {n : Nat} (h : ¬ n < 10) : Xb n = Xb (n / 10) ++ [UInt8.ofNat (48 + n % 10)]:=by
 unfold Xb
 cases n with
 | zero => exact absurd (by omega) h
 | succ n => rw [Qe0,if_neg h,QjG (g:=(n + 1) / 10) (by omega) (Nat.le_refl _)]
def Q9o (n : Nat) : UInt8:=if n < 10 then UInt8.ofNat (48 + n) else UInt8.ofNat (87 + n)
def Bb (c : UInt8) : List UInt8:=[Q9o (c.toNat / 16),Q9o (c.toNat % 16)]
def Da (k : Key) : List UInt8:=k.flatMap Bb
theorem ED (k : Key) : (Da k).length = 2 * k.length:=by
 unfold Da
 induction k with
 | nil => rfl
 | cons c r ih => rw [List.flatMap_cons,List.length_append,ih]; simp [Bb]; omega
def Ew : Option Nat → List UInt8
 | none => []
 | some v => 61 :: Xb v
def E.shape : E → List UInt8
 | .nil => [46]
 | .node part val kids => if Y2 kids = 0 then 76 :: (Da part ++ Ew val) else
   Xb (Kl (Y2 kids)) ++ 60 :: (Da part ++ (Ew val ++ (((dom fun c => (kids c).opt).flatMap fun c => 58 :: (Bb c ++ (kids c).shape)) ++ [62])))
end Go.Proofs.YtbnhggfiembejaaGreatDoor
end
section
namespace Go.Proofs.YtbnhggfiembejaaGreatDoor
open Go X
set_option linter.unusedSimpArgs false
set_option linter.unusedVariables false
theorem BS {k : Key} {n : Nat} (h : n < k.length) : k[n] = JE n k:=by simp [JE,List.getD,List.getElem?_eq_getElem h]
theorem Eh.lt {q : Key} {l : Kv} (h : Eh q l) {x : Key × Nat} (hx : x ∈ l) : q.length < x.1.length:=by
 obtain ⟨c,r,e⟩:=h x hx
 rw [e]; simp
theorem Iw (a b : Key) : a.take (common a b) <+: b:=by
 obtain ⟨p,q,r,h1,h2,h3,-⟩:=Yf a b
 rw [← h3]
 conv => lhs; rw [h1]
 conv => rhs; rw [h2]
 rw [List.take_left]
 exact List.prefix_append _ _
theorem Qat {a b : Key} (h1 : common a b < a.length) (h2 : common a b < b.length) : JE (common a b) a ≠ JE (common a b) b:=by
 obtain ⟨p,q,r,e1,e2,e3,e4⟩:=Yf a b
 rw [← e3] at h1 h2 ⊢
 rw [e1] at h1 ⊢
 rw [e2] at h2 ⊢
 cases q with
 | nil => simp at h1
 | cons x q => cases r with
   | nil => simp at h2
   | cons y r => rw [JY,JY]; exact e4 x y q r rfl rfl
theorem QcT {q k : Key} (h : q <+: k) (hl : q.length < k.length) : ∃ r,k = q ++ JE q.length k :: r:=by
 obtain ⟨s,rfl⟩:=h
 cases s with
 | nil => simp at hl
 | cons c r => exact ⟨r,by rw [JY]⟩
theorem Q47 {p a b : Key} (h1 : p <+: a) (h2 : p <+: b) : p.length ≤ common a b:=by
 obtain ⟨s,rfl⟩:=h1
 obtain ⟨t,rfl⟩:=h2
 induction p with
 | nil => simp
 | cons c p ih => simp only [List.cons_append,common,if_true,List.length_cons]; omega
theorem Q5h : ∀ (a b : Key),common a b = common b a:=by
 intro a
 induction a with
 | nil => intro b; cases b <;> rfl
 | cons x r ih => intro b; cases b with
   | nil => rfl
   | cons y s =>
     simp only [common]
     by_cases h : x = y
     · rw [if_pos h,if_pos h.symm,ih]
     · rw [if_neg h,if_neg (Ne.symm h)]
theorem MZ {a b : Key} : (a.take (common a b)).length = common a b:=by
 rw [List.length_take]; have:=Ed a b; omega
structure Parts (L : Kv) (x : Key × Nat) (q : Key) (L' : Kv) (val : Option Nat) : Prop where
 all : ∀ u ∈ L,q <+: u.1
 long : Eh q L'
 vl : val = look L q
 get : ∀ c r,look L' (q ++ c :: r) = look L (q ++ c :: r)
 two : ∃ u ∈ L,∃ c r,u.1 = q ++ c :: r ∧ (val.isSome ∨ ∃ y ∈ L,∃ d s,y.1 = q ++ d :: s ∧ c ≠ d)
theorem Parts.of {x : Key × Nat} {l : Kv} {q : Key} (hr : Zp (x :: l)) (hne : l ≠ []) (hall : ∀ u ∈ x :: l,q <+: u.1) (hmax : q.length = x.1.length ∨ ∃ u ∈ x :: l,q.length < u.1.length ∧ JE q.length u.1 ≠ JE q.length x.1) :
  Parts (x :: l) x q (if x.1.length = q.length then l else x :: l) (if x.1.length = q.length then some x.2 else none):=by
 have hq : ∀ u ∈ x :: l,u.1 = q → u = x:=fun u hu e => by
  rcases hr.first hu with h | h
  · exfalso
    obtain ⟨s,hs⟩:=hall x (by simp)
    rw [e,← hs] at h
    unfold Xr at h
    have : Uv (q ++ s) (q ++ []) < 0:=by rw [List.append_nil]; exact h
    rw [Sd] at this
    cases s with
    | nil => exact absurd this (by decide)
    | cons c s => rw [Gd] at this; exact absurd this (by decide)
  · exact h.symm
 by_cases e : x.1.length = q.length
 · rw [if_pos e,if_pos e]
   have hxq : x.1 = q:=((hall x (by simp)).eq_of_length e.symm).symm
   have hl : Eh q l:=Eh.of (fun u hu => hall u (by simp [hu])) fun u hu h => by
    have:=hq u (by simp [hu]) h
    subst this
    exact Ep ((List.pairwise_cons.1 hr).1 u hu)
   obtain ⟨u,m,rfl⟩:=List.exists_cons_of_ne_nil hne
   obtain ⟨c,r,hcr⟩:=hl u (by simp)
   refine ⟨hall,hl,by rw [look,if_pos hxq],fun c r => ?_,u,by simp,c,r,hcr,.inl rfl⟩
   show look (u :: m) (q ++ c :: r) = if x.1 = q ++ c :: r then some x.2 else look (u :: m) (q ++ c :: r)
   rw [if_neg]
   intro h
   rw [hxq] at h
   have:=congrArg List.length h
   simp at this
 · rw [if_neg e,if_neg e]
   have hxl : q.length < x.1.length:=by have:=(hall x (by simp)).length_le; omega
   have hl : Eh q (x :: l):=Eh.of hall fun u hu h => by
    have:=hq u hu h
    subst this
    rw [h] at e; exact e rfl
   rcases hmax with h | ⟨u,hu,h1,h2⟩
   · exact absurd h.symm e
   · obtain ⟨c,r,hc⟩:=hl x (by simp)
     obtain ⟨d,s,hd⟩:=hl u hu
     refine ⟨hall,hl,(Qu7 hl).symm,fun _ _ => rfl,x,by simp,c,r,hc,.inr ⟨u,hu,d,s,hd,fun e => h2 ?_⟩⟩
     rw [hc,hd,JY,JY,e]
theorem Parts.ends {x z : Key × Nat} {l : Kv} (hr : Zp (x :: l)) (hne : l ≠ []) (hz : (x :: l).getLast? = some z) :
  Parts (x :: l) x (x.1.take (common x.1 z.1)) (if x.1.length = (x.1.take (common x.1 z.1)).length then l else x :: l) (if x.1.length = (x.1.take (common x.1 z.1)).length then some x.2 else none):=by
 have hp : x.1.take (common x.1 z.1) <+: x.1:=List.take_prefix _ _
 have hzm : z ∈ x :: l:=List.mem_of_getLast? hz
 have hcl:=Ed x.1 z.1
 refine Parts.of hr hne (hr.common hz hp (Iw _ _)) ?_
 rw [MZ]
 by_cases e : common x.1 z.1 = x.1.length
 · exact .inl e
 · right
   have hzl : common x.1 z.1 < z.1.length:=by
    refine Classical.byContradiction fun hn => ?_
    have hz2 : common x.1 z.1 = z.1.length:=by omega
    have h1 : z.1 <+: x.1:=by
     have:=Iw z.1 x.1
     rw [Q5h,hz2,List.take_length] at this
     exact this
    obtain ⟨s,hs⟩:=h1
    have hxz : Xr x.1 z.1:=by
     rcases hr.first hzm with h | h
     · exact h
     · exfalso
       obtain ⟨u,m,rfl⟩:=List.exists_cons_of_ne_nil hne
       have:=hr.last hz (x:=u) (by simp)
       have hxu:=(List.pairwise_cons.1 hr).1 u (by simp)
       rcases this with h' | h'
       · rw [← h] at h'; exact Q2l hxu h'
       · rw [h',← h] at hxu; exact Ep hxu
    rw [← hs] at hxz
    have : Uv (z.1 ++ s) (z.1 ++ []) < 0:=by rw [List.append_nil]; exact hxz
    rw [Sd] at this
    cases s with
    | nil => exact absurd this (by decide)
    | cons c s => rw [Gd] at this; exact absurd this (by decide)
   exact ⟨z,hzm,hzl,(Qat (by omega) hzl).symm⟩
end Go.Proofs.YtbnhggfiembejaaGreatDoor
end
section
namespace Go.Proofs.YtbnhggfiembejaaGreatDoor
open Go X
set_option linter.unusedSimpArgs false
set_option linter.unusedVariables false
def Q1m (k : Key) : Option Nat → Kv
 | none => []
 | some v => [(k,v)]
def E.list : E → Key → Kv
 | .nil,_ => []
 | .node part val kids,w => Q1m (w ++ part) val ++ (dom fun c => (kids c).opt).flatMap fun c => (kids c).list (w ++ part ++ [c])
theorem E.VF : ∀ {e : E} {w : Key} {p : Key × Nat},p ∈ e.list w → w <+: p.1:=by
 intro e
 induction e with
 | nil => intro w p h; cases h
 | node part val kids ih =>
   intro w p h
   rw [E.list,List.mem_append,List.mem_flatMap] at h
   rcases h with h | ⟨c,hc,h⟩
   · cases val with
     | none => cases h
     | some v => rw [Q1m,List.mem_singleton] at h; rw [h]; exact List.prefix_append _ _
   · have:=ih c h
     rw [List.append_assoc] at this
     exact (List.prefix_append _ _).trans this
theorem E.Qa9 : ∀ {e : E} {w r : Key},look (e.list w) (w ++ r) = e.get r:=by
 intro e
 induction e with
 | nil => intro w r; rfl
 | node part val kids ih =>
   intro w r
   rw [E.list,H5]
   have hf : ∀ (l : List UInt8) (c : UInt8) (s : Key),look (l.flatMap fun c => (kids c).list (w ++ part ++ [c])) (w ++ part ++ c :: s) = if c ∈ l then (kids c).get s else none:=by
    intro l c s
    induction l with
    | nil => rfl
    | cons a l ihl =>
      rw [List.flatMap_cons,H5,ihl]
      by_cases e : a = c
      · subst e
        have:=ih a (w:=w ++ part ++ [a]) (r:=s)
        rw [List.append_assoc _ [a]] at this
        rw [show w ++ part ++ a :: s = w ++ part ++ ([a] ++ s) by rfl,this]
        simp only [List.mem_cons,true_or,if_true]
        cases (kids a).get s <;> simp
      · have : look ((kids a).list (w ++ part ++ [a])) (w ++ part ++ c :: s) = none:=KQ.2 fun p hp e' => by
         have h1:=E.VF hp
         rw [e',List.prefix_append_right_inj] at h1
         obtain ⟨x,hx⟩:=h1
         simp at hx
         exact e hx.1
        rw [this]
        simp only [List.mem_cons]
        by_cases hc : c ∈ l
        · rw [if_pos hc,if_pos (.inr hc)]; rfl
        · rw [if_neg hc,if_neg (fun h => h.elim (fun h => e h.symm) hc)]; rfl
   by_cases hp : part <+: r
   · obtain ⟨s,rfl⟩:=hp
     cases s with
     | nil =>
       rw [List.append_nil,get_nil]
       have : look ((dom fun c => (kids c).opt).flatMap fun c => (kids c).list (w ++ part ++ [c])) (w ++ part) = none:=KQ.2 fun p hp e => by
        obtain ⟨c,-,h⟩:=List.mem_flatMap.1 hp
        have:=(E.VF h).length_le
        rw [e] at this
        simp at this
        omega
       rw [this]
       cases val with
       | none => rfl
       | some v => show (if w ++ part = w ++ part then some v else none).or none = _; rw [if_pos rfl]; rfl
     | cons c s =>
       rw [Z8,← List.append_assoc,hf]
       have h0 : look (Q1m (w ++ part) val) (w ++ part ++ c :: s) = none:=by
        cases val with
        | none => rfl
        | some v =>
          show (if w ++ part = w ++ part ++ c :: s then some v else none) = none
          rw [if_neg]
          intro h
          have:=congrArg List.length h
          simp at this
       rw [h0]
       by_cases hc : c ∈ dom fun c => (kids c).opt
       · rw [if_pos hc]; rfl
       · rw [if_neg hc]
         have : kids c = .nil:=E.RN (by
          cases h : (kids c).opt with
          | none => rfl
          | some => exact absurd (Zd.2 (by rw [h]; rfl)) hc)
         rw [this]; rfl
   · rw [J3 hp]
     have h1 : ∀ p ∈ Q1m (w ++ part) val ++ (dom fun c => (kids c).opt).flatMap fun c => (kids c).list (w ++ part ++ [c]),w ++ part <+: p.1:=fun p hp => by
      rcases List.mem_append.1 hp with h | h
      · cases val with
        | none => cases h
        | some v => rw [Q1m,List.mem_singleton] at h; rw [h]; exact List.prefix_refl _
      · obtain ⟨c,-,h⟩:=List.mem_flatMap.1 h
        exact (List.prefix_append _ _).trans (E.VF h)
     rw [← H5]
     refine KQ.2 fun p hp' e => hp ?_
     have:=h1 p hp'
     rw [e,List.prefix_append_right_inj] at this
     exact this
theorem D7 (p : Key) {a b : Key} : Xr (p ++ a) (p ++ b) ↔ Xr a b:=by unfold Xr; rw [Sd]
theorem Sc {c d : UInt8} {a b : Key} (h : c.toNat < d.toNat) : Xr (c :: a) (d :: b):=by
 unfold Xr
 rw [Wp,if_pos (UInt8.lt_iff_toNat_lt.2 h)]; decide
theorem E.QfQ : ∀ {e : E} {w : Key},Zp (e.list w):=by
 intro e
 induction e with
 | nil => intro w; exact List.Pairwise.nil
 | node part val kids ih =>
   intro w
   rw [E.list]
   refine List.pairwise_append.2 ⟨?_,?_,?_⟩
   · cases val with
     | none => exact List.Pairwise.nil
     | some v => exact List.pairwise_singleton _ _
   · have key : ∀ l : List UInt8,Eg l → Zp (l.flatMap fun c => (kids c).list (w ++ part ++ [c])):=by
      intro l
      induction l with
      | nil => intro _; exact List.Pairwise.nil
      | cons a l ihl =>
        intro hl
        obtain ⟨h1,h2⟩:=List.pairwise_cons.1 hl
        rw [List.flatMap_cons]
        refine List.pairwise_append.2 ⟨ih a,ihl h2,fun x hx y hy => ?_⟩
        obtain ⟨d,hd,hy⟩:=List.mem_flatMap.1 hy
        obtain ⟨r,hr⟩:=E.VF hx
        obtain ⟨s,hs⟩:=E.VF hy
        rw [← hr,← hs]
        have e1 : w ++ part ++ [a] ++ r = (w ++ part) ++ (a :: r):=by simp
        have e2 : w ++ part ++ [d] ++ s = (w ++ part) ++ (d :: s):=by simp
        rw [e1,e2]
        exact (D7 _).2 (Sc (h1 d hd))
     exact key _ (Xl _)
   · intro x hx y hy
     cases val with
     | none => cases hx
     | some v =>
       rw [Q1m,List.mem_singleton] at hx
       obtain ⟨d,hd,hy⟩:=List.mem_flatMap.1 hy
       obtain ⟨s,hs⟩:=E.VF hy
       rw [hx,← hs]
       have e1 : w ++ part ++ [d] ++ s = (w ++ part) ++ (d :: s):=by simp
       have e2 : (w ++ part,v).1 = (w ++ part) ++ []:=by simp
       rw [e1,e2]
       refine (D7 _).2 ?_
       unfold Xr
       rw [Q2p]; decide
theorem Can.list {e : E} {l : Kv} (h : Can e (look l)) (hr : Zp l) : e.list [] = l :=
 E.QfQ.ext hr fun k => by
  have:=E.Qa9 (e:=e) (w:=[]) (r:=k)
  rw [List.nil_append] at this
  rw [this,h.get]
theorem Qfp (p : UInt8 → Bool) (f : UInt8 → Nat) (l : List UInt8) (h : ∀ c,p c = false → f c = 0) : (l.map f).sum = ((l.filter p).map f).sum:=by
 induction l with
 | nil => rfl
 | cons a r ih =>
   rw [List.map_cons,List.sum_cons,ih,List.filter_cons]
   split
   · rw [List.map_cons,List.sum_cons]
   · rename_i hh
     rw [h a (by simpa using hh)]; omega
theorem E.Gj (part : Key) (val : Option Nat) (kids : UInt8 → E) : (E.node part val kids).size = ((dom fun c => (kids c).opt).map fun c => (kids c).size).sum + 1:=by
 have h : ∀ c,(fun c => (kids c).opt.isSome) c = false → (fun c => (kids c).size) c = 0:=fun c hc => by
  have hc : (kids c).opt.isSome = false:=hc
  have : kids c = .nil:=E.RN (by simpa using hc)
  show (kids c).size = 0
  rw [this]; rfl
 have h2:=Qfp (fun c => (kids c).opt.isSome) (fun c => (kids c).size) Rf h
 rw [E.size,h2]
 unfold dom
 exact Eq.refl _
theorem Qfo {l : List UInt8} {f g : UInt8 → Nat} (h : ∀ c ∈ l,f c + 1 ≤ 2 * g c) : (l.map f).sum + l.length ≤ 2 * (l.map g).sum:=by
 induction l with
 | nil => simp
 | cons a r ih =>
   have h1:=h a (by simp)
   have h2:=ih fun c hc => h c (by simp [hc])
   simp only [List.map_cons,List.sum_cons,List.length_cons]
   omega
theorem E.size_le : ∀ {e : E} {w : Key},e.ZV → e ≠ .nil → e.size + 1 ≤ 2 * (e.list w).length:=by
 intro e
 induction e with
 | nil => intro w _ h; exact absurd rfl h
 | node part val kids ih =>
   intro w hf _
   obtain ⟨h1,h2,h3⟩:=Dc hf
   rw [E.Gj,E.list,List.length_append,List.length_flatMap]
   have hs:=Qfo (l:=dom fun c => (kids c).opt) (f:=fun c => (kids c).size) (g:=fun c => ((kids c).list (w ++ part ++ [c])).length) fun c hc => ih c (h3 c) (E.BQ.1 (Zd.1 hc))
   have hl : (Q1m (w ++ part) val).length = one val:=by cases val <;> rfl
   rw [hl]
   by_cases hc : Y2 kids = 0
   · have:=h1 hc
     have h0 : (dom fun c => (kids c).opt).length = 0:=hc
     have hd : (dom fun c => (kids c).opt) = []:=List.eq_nil_of_length_eq_zero h0
     rw [hd]
     simp [one,this]
   · have h2:=h2 hc
     have h0 : (dom fun c => (kids c).opt).length = Y2 kids:=rfl
     omega
theorem Can.size {e : E} {l : Kv} (h : Can e (look l)) (hr : Zp l) : e.size ≤ 2 * l.length:=by
 by_cases h0 : e = .nil
 · subst h0; exact Nat.zero_le _
 · have:=E.size_le (w:=[]) h.fine h0
   rw [h.list hr] at this
   omega
def E.Within (n : Nat) : E → Prop
 | .nil => True
 | .node part val kids => part.length ≤ n ∧ (∀ v,val = some v → v < 18446744073709551616) ∧ ∀ c,(kids c).Within n
theorem Qas (n : Nat) (h : n < 18446744073709551616) : (Xb n).length ≤ 20:=by
 have key : ∀ d n,n < 10 ^ (d + 1) → (Xb n).length ≤ d + 1:=by
  intro d
  induction d with
  | zero => intro n h; rw [Xz (by simpa using h)]; simp
  | succ d ih =>
    intro n h
    by_cases e : n < 10
    · rw [Xz e]; simp
    · rw [EF e,List.length_append]
      have:=ih (n / 10) (by rw [Nat.div_lt_iff_lt_mul (by omega)]; rw [Nat.pow_succ] at h; exact h)
      simp; omega
 exact key 19 n (by omega)
theorem QiX (n : Nat) : Kl n ≤ 256:=by
 unfold Kl
 split
 · omega
 · split
   · omega
   · split
     · omega
     · split
       · omega
       · omega
theorem E.QiE {n : Nat} : ∀ {e : E},e.Within n → e ≠ .nil → e.shape.length + 3 ≤ e.size * (2 * n + 60):=by
 intro e
 induction e with
 | nil => intro _ h; exact absurd rfl h
 | node part val kids ih =>
   rintro ⟨h1,h2,h3⟩ _
   have hv : (Ew val).length ≤ 21:=by
    cases val with
    | none => simp [Ew]
    | some v =>
      have:=Qas v (h2 v rfl)
      simp [Ew]; omega
   have hx:=ED part
   have hk:=Qas (Kl (Y2 kids)) (by have:=QiX (Y2 kids); omega)
   have hs : ∀ l : List UInt8,(∀ c ∈ l,(kids c).opt.isSome) → (l.flatMap fun c => 58 :: (Bb c ++ (kids c).shape)).length ≤ (l.map fun c => (kids c).size).sum * (2 * n + 60):=by
    intro l
    induction l with
    | nil => intro _; simp
    | cons a l ihl =>
      intro hl
      have i1:=ihl fun c hc => hl c (by simp [hc])
      have i2:=ih a (h3 a) (E.BQ.1 (hl a (by simp)))
      have hb : (Bb a).length = 2:=rfl
      rw [List.flatMap_cons,List.length_append,List.map_cons,List.sum_cons,Nat.add_mul,List.length_cons,List.length_append,hb]
      omega
   rw [E.shape,E.Gj]
   have hd:=hs (dom fun c => (kids c).opt) fun c hc => Zd.1 hc
   generalize hS : ((dom fun c => (kids c).opt).map fun c => (kids c).size).sum = S at hd ⊢
   rw [Nat.add_mul]
   split
   · simp only [List.length_cons,List.length_append]
     omega
   · simp only [List.length_cons,List.length_append,List.length_nil]
     omega
theorem E.Q1o {n m : Nat} {e : E} (h : e.Within n) (hm : e.size ≤ m) : e.shape.length ≤ m * (2 * n + 60) + 1:=by
 cases e with
 | nil => simp [E.shape]
 | node part val kids =>
   have h1:=E.QiE h (by simp)
   have:=Nat.mul_le_mul_right (2 * n + 60) hm
   omega
def QjK (l : Kv) : E:=l.foldl (fun e p => G8 e p.1 p.2) .nil
theorem QnL (l : Kv) : Can (QjK l) (N9 l):=by
 have key : ∀ n (l : Kv),l.length = n → Can (QjK l) (N9 l):=by
  intro n
  induction n with
  | zero => intro l h; rw [List.eq_nil_of_length_eq_zero h]; exact Can.nil
  | succ n ih =>
    intro l h
    obtain ⟨m,p,rfl⟩ : ∃ m p,l = m ++ [p]:=⟨l.dropLast,l.getLast (fun e => by rw [e] at h; cases h),(List.dropLast_concat_getLast _).symm⟩
    have h1:=(ih m (by simpa using h)).put p.1 p.2
    have h2 : QjK (m ++ [p]) = G8 (QjK m) p.1 p.2:=by simp [QjK]
    rw [h2]
    refine h1.congr fun k => ?_
    rw [Q7g]
    by_cases e : k = p.1
    · rw [if_pos e,if_pos e.symm]
    · rw [if_neg e,if_neg (Ne.symm e)]
 exact key _ l rfl
theorem Can.closed {e : E} {l : Kv} (h : Can e (look l)) (hr : Zp l) : e = QjK l:=h.uniq ((QnL l).congr fun k => VE hr k)
end Go.Proofs.YtbnhggfiembejaaGreatDoor
end
section
namespace Go.Proofs.YtbnhggfiembejaaGreatDoor
open Go X
set_option linter.unusedSimpArgs false
set_option linter.unusedVariables false
end Go.Proofs.YtbnhggfiembejaaGreatDoor
end
end
