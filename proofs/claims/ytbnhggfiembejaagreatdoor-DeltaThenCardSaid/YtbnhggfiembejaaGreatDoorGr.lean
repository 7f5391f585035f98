import Derived.Test.YtbnhggfiembejaaGreatDoorInt
import Derived.Test.YtbnhggfiembejaaGreatDoorSAd
import Derived.Test.YtbnhggfiembejaaGreatDoorRefV
import Derived.Test.YtbnhggfiembejaaGreatDoorG1
section
namespace Go.Proofs.YtbnhggfiembejaaGreatDoor
open Go Go.RowKit X
set_option linter.unusedSimpArgs false
set_option linter.unusedVariables false
set_option linter.unusedSectionVars false
variable [Floor]
structure GR (w w' : World) (a : T) (g : Key → Option Nat) (t' : T) (mt : Option Y3) (n n' : Nat) : Prop where
 tree : Tree w' t'
 cnt : Mt w' mt n'
 ext : Ext (MX mt) w w'
 all : ∀ c,t'.All c → a.All c ∨ w.heap.size ≤ c
 QR : t'.ZJ
 can : Can t'.er g
 idle : (∀ k,g k = a.er.get k) → t' = a ∧ n' = n
section
variable {w w' w0 : World} {a t' : T} {g g' : Key → Option Nat} {mt : Option Y3} {n n' : Nat}
theorem GR.from' (h : GR w w' a g t' mt n n') (e : Ext No w0 w) : GR w0 w' a g t' mt n n' :=
 ⟨h.tree,h.cnt,(e.mono fun _ _ h => h.elim).QI h.ext,fun c hc => (h.all c hc).imp id fun h => by have:=e.size; omega,h.QR,h.can,h.idle⟩
theorem GR.congr (h : GR w w' a g t' mt n n') (e : ∀ k,g' k = g k) : GR w w' a g' t' mt n n' :=
 ⟨h.tree,h.cnt,h.ext,h.all,h.QR,h.can.congr fun k => (e k).symm,fun hk => h.idle fun k => (e k).symm.trans (hk k)⟩
theorem GR.none (hf : a.er.ZV) (hm : Mt w mt n) (h : ∀ k,g k = none) : GR w w a g .nil mt n n :=
 ⟨trivial,hm,Ext.refl _ _,fun c hc => hc.elim,trivial,Can.nil.congr fun k => (h k).symm,fun hk => by
  refine ⟨?_,rfl⟩
  cases a with
  | nil => rfl
  | node =>
    obtain ⟨k,v,Wq⟩:=E.Nj hf (by simp [T.er])
    have:=hk k
    rw [h k,Wq] at this
    cases this⟩
theorem GR.self (ht : Tree w a) (hf : a.er.ZV) (hl : a.ZJ) (hm : Mt w mt n) (h : ∀ k,g k = a.er.get k) : GR w w a g a mt n n :=
 ⟨ht,hm,Ext.refl _ _,fun c hc => .inl hc,hl,⟨hf,fun k => (h k).symm⟩,fun _ => ⟨rfl,rfl⟩⟩
end
structure LG (w0 w' : World) (kids : UInt8 → T) (h : UInt8 → Key → Option Nat) (d : List UInt8) (l : List (UInt8 × T)) (v : Value) (mt : Option Y3) (n n1 : Nat) : Prop where
 lo : LO w' w0.heap.size v l
 sm : ∀ q ∈ l,q.2 ≠ .nil ∧ q.2.ZJ ∧ q.1 ∈ d ∧ ∀ b,q.2.All b → (kids q.1).All b ∨ w0.heap.size ≤ b
 up : UpK l
 len : l.length ≤ d.length
 can : ∀ c ∈ d,Can (Xi l c).er (h c)
 idle : (∀ c ∈ d,∀ k,h c k = (kids c).er.get k) → l = d.map (fun c => (c,kids c)) ∧ n1 = n
 cnt : Mt w' mt n1
 ext : Ext (MX mt) w0 w'
section
variable {w w0 w' w9 : World} {n n1 n2 : Nat} {kids : UInt8 → T} {h : UInt8 → Key → Option Nat} {d rest : List UInt8} {l : List (UInt8 × T)} {v : Value} {mt : Option Y3} {c : UInt8} {t' : T}
theorem LG.nil (hm : Mt w mt n) (e : Ext (MX mt) w0 w) : LG w0 w kids h [] [] (.slice none 0 0) mt n n :=
 ⟨⟨[],Own.nil _ _ _ _,fun i p h => by simp at h⟩,fun p h => by cases h⟩ |> fun hl => ⟨hl,(fun q h => by cases h),List.Pairwise.nil,Nat.le_refl _,(fun c h => by cases h),fun _ => ⟨rfl,rfl⟩,hm,e⟩
theorem LG.Q4 (hV : LG w0 w kids h d l v mt n n1) (e : Ext No w w') : LG w0 w' kids h d l v mt n n1 :=
 ⟨hV.lo.Q4 e,hV.sm,hV.up,hV.len,hV.can,hV.idle,hV.cnt.Q4 e,hV.ext.Q0 e⟩
theorem LG.skip (hV : LG w0 w kids h d l v mt n n1) (hcd : c ∉ d) (hne : kids c ≠ .nil) (hR : GR w w' (kids c) (h c) .nil mt n1 n2) : LG w0 w' kids h (d ++ [c]) l v mt n n2:=by
 refine ⟨hV.lo.YL hV.cnt hR.ext,fun q hq => ⟨(hV.sm q hq).1,(hV.sm q hq).2.1,List.mem_append_left _ (hV.sm q hq).2.2.1,(hV.sm q hq).2.2.2⟩,hV.up,by simp; have:=hV.len; omega,fun c' hc' => ?_,fun hi => ?_,hR.cnt,hV.ext.QI hR.ext⟩
 · rcases List.mem_append.1 hc' with hc' | hc'
   · exact hV.can c' hc'
   · obtain rfl:=List.mem_singleton.1 hc'
     rw [Q6m fun q hq e => hcd (by have:=(hV.sm q hq).2.2.1; rw [e] at this; exact this)]
     exact hR.can
 · exact absurd (hR.idle fun k => hi c (by simp) k).1.symm hne
theorem LG.more {v' : Value} (hV : LG w0 w kids h d l v mt n n1) (hcd : c ∉ d) (hup : ∀ c' ∈ d,c'.toNat < c.toNat) (hn : t' ≠ .nil) (hR : GR w w9 (kids c) (h c) t' mt n1 n2) (hlo : LO w' w0.heap.size v' (l ++ [(c,t')])) (hm : Mt w' mt n2) (he : Ext (MX mt) w0 w') : LG w0 w' kids h (d ++ [c]) (l ++ [(c,t')]) v' mt n n2:=by
 have hno : ∀ q ∈ l,q.1 ≠ c:=fun q hq e => hcd (e ▸ (hV.sm q hq).2.2.1)
 have hz:=hV.ext.size
 refine ⟨hlo,fun q hq => ?_,?_,by simp; exact hV.len,fun c' hc' => ?_,fun hi => ?_,hm,he⟩
 · rcases List.mem_append.1 hq with hq | hq
   · exact ⟨(hV.sm q hq).1,(hV.sm q hq).2.1,List.mem_append_left _ (hV.sm q hq).2.2.1,(hV.sm q hq).2.2.2⟩
   · obtain rfl:=List.mem_singleton.1 hq
     exact ⟨hn,hR.QR,by simp,fun b hb => (hR.all b hb).imp id fun h => by omega⟩
 · refine List.pairwise_append.2 ⟨hV.up,List.pairwise_singleton _ _,fun q hq r hr => ?_⟩
   rw [List.mem_singleton.1 hr]
   exact hup _ (hV.sm q hq).2.2.1
 · rw [Q01 hno]
   show Can (Zt (Xi l) c t' c').er _
   rcases List.mem_append.1 hc' with hc' | hc'
   · rw [WJ _ _ (fun e : c' = c => hcd (by rw [← e]; exact hc'))]
     exact hV.can c' hc'
   · obtain rfl:=List.mem_singleton.1 hc'
     rw [Vo]
     exact hR.can
 · obtain ⟨h1,h2⟩:=hR.idle fun k => hi c (by simp) k
   obtain ⟨h3,h4⟩:=hV.idle fun c' hc' => hi c' (List.mem_append_left _ hc')
   rw [List.map_append,← h3,h1]
   exact ⟨rfl,h2.trans h4⟩
theorem LG.all (hV : LG w0 w kids h d l v mt n n1) (h0 : ∀ c,c ∉ d → ∀ k,h c k = none) (c : UInt8) : Can (Xi l c).er (h c):=by
 by_cases e : c ∈ d
 · exact hV.can c e
 · rw [Q6m fun q hq e' => e (by have:=(hV.sm q hq).2.2.1; rw [e'] at this; exact this)]
   exact Can.nil.congr fun k => (h0 c e k).symm
theorem LG.lk (hV : LG w0 w kids h d l v mt n n1) (hd : d.length ≤ 256) : LK w v l:=hV.lo.lk (fun q hq => (hV.sm q hq).1) hV.up (by have:=hV.len; omega)
end
section
variable {w w0 w8 w9 : World} {n n1 n' a ow o : Nat} {part : Key} {v0 val : Option Nat} {ks : List Nat} {kids : UInt8 → T} {h : UInt8 → Key → Option Nat} {d : List UInt8} {l : List (UInt8 × T)} {v : Value} {mt : Option Y3} {t' : T} {g : Key → Option Nat}
theorem QnK {QsS : UInt8 → E} (hk : ∀ c,Can (QsS c) (h c)) (hv : g part = val) (hc : ∀ c r,g (part ++ c :: r) = h c r) (ho : ∀ k,¬ part <+: k → g k = none) : Can (YF part val QsS) g:=by
 refine ⟨GJ fun c => (hk c).fine,fun k => ?_⟩
 rw [Ce]
 by_cases hk' : part <+: k
 · obtain ⟨s,rfl⟩:=hk'
   cases s with
   | nil => rw [List.append_nil,get_nil,hv]
   | cons c s => rw [Z8,hc,(hk c).get s]
 · rw [J3 hk',ho k hk']
theorem LG.fin (hV : LG w0 w8 kids h d l v mt n n1) (hdr : dom (ptrs kids) = d) (h0 : ∀ c,c ∉ d → ∀ k,h c k = none) (hv : g part = val) (hc : ∀ c r,g (part ++ c :: r) = h c r) (hno : ∀ k,¬ part <+: k → g k = none)
  (hR : Q3x w8 w9 (.node a ow part v0 ks kids) l (YF part val fun c => (Xi l c).er) o t' mt n1 n') (hid : (v0 = val ∧ X.cnt (ptrs kids) = l.length ∧ ∀ p ∈ l,(kids p.1).ptr = p.2.ptr) → t' = .node a ow part v0 ks kids ∧ n' = n1) :
  GR w0 w9 (.node a ow part v0 ks kids) g t' mt n n':=by
 have hz:=hV.ext.size
 refine ⟨hR.tree,hR.cnt,hV.ext.QI hR.ext,fun c hc => ?_,hR.QR,by rw [hR.er]; exact QnK (hV.all h0) hv hc hno,fun hk => ?_⟩
 · rcases hR.all c hc with h | ⟨q,hq,h⟩ | h
   · exact .inl h
   · exact ((hV.sm q hq).2.2.2 c h).imp (fun h => .inr ⟨_,h⟩) fun h => h
   · exact .inr (by omega)
 · have h2 : v0 = val:=by
    have h4 : (T.node a ow part v0 ks kids).er.get part = v0:=get_nil
    rw [← h4,← hk part,hv]
   obtain ⟨h5,h6⟩:=hV.idle fun c _ k => by
    have h9 : (T.node a ow part v0 ks kids).er.get (part ++ c :: k) = (kids c).er.get k:=Z8
    rw [← h9,← hk,hc]
   obtain ⟨h10,h11⟩:=hid ⟨h2,by rw [h5,List.length_map,← hdr]; rfl,fun q hq => by
    rw [h5] at hq
    obtain ⟨c,-,rfl⟩:=List.mem_map.1 hq
    rfl⟩
   exact ⟨h10,h11.trans h6⟩
end
section
variable {aa Jk : Nat} {apart : Key} {Qq : Option Nat} {ZO : List Nat} {Q7 : UInt8 → T}
end
def SB (w0 : World) (B : Nat) (w : World) (T : TypeId) (v : Value) (l : Kv) : Prop:=∃ cells,Own w B T 2 v l.length cells ∧ PC w0 l cells
section
variable {w0 w w' : World} {B : Nat} {T : TypeId} {v : Value} {l : Kv}
theorem SB.nil (w0 : World) (B : Nat) (w : World) (T : TypeId) : SB w0 B w T (.slice none 0 0) []:=⟨[],Own.nil w _ T 2,PC.nil w0⟩
theorem SB.Q4 (h : SB w0 B w T v l) (he : Ext No w w') : SB w0 B w' T v l:=let ⟨cells,h1,h2⟩:=h; ⟨cells,h1.Q4 he,h2⟩
theorem SB.ps (h : SB w0 B w T v l) (he : Ext No w0 w) (hT : PT T) : Ps w v l:=let ⟨cells,h1,h2⟩:=h; PsO.ps ⟨cells,h1,h2.Q4 he⟩ hT
theorem SB.app {K : Value → World → Prop} {t ty : TypeId} {x : Value} {m : Kv} {ys : List Value} {Q : Nat → TypeId → Prop} (hT : EI P t T 2 32 (.agg #[.slice none 0 0,.int .u64 0])) (h : SB w0 B w T v l) (hB : B ≤ w.heap.size) (hx : Sl w Q x 2 m.length ys) (hm : PC w0 m ys) (hn : l.length + m.length ≤ 1099511627776)
  (k : ∀ v' w',SB w0 B w' T v' (l ++ m) → (∀ wa : World,Ext No wa w → wa.heap.size ≤ B → Ext No wa w') → K v' w') : Jv P (Builtin.append_ #[t,t] ty #[v,x]) w K:=by
 obtain ⟨cells,h1,h2⟩:=h
 refine Vi hT h1 hB hx hm.one (by omega) (by omega) fun v' w' ho hE _ hb => k v' w' ⟨_,?_,h2.app hm⟩ fun wa e hs => e.own h1 hs hE
 rw [List.length_append]; exact ho
end
end Go.Proofs.YtbnhggfiembejaaGreatDoor
end
section
section
namespace Go.Proofs.YtbnhggfiembejaaGreatDoor
open Go Go.RowKit X
set_option linter.unusedSimpArgs false
set_option linter.unusedVariables false
set_option linter.unusedSectionVars false
section
variable {both : Bool} {ap bp : Key} {av bv' : Option Nat} {ak bk : UInt8 → E} {oa ob : Nat}
end
end Go.Proofs.YtbnhggfiembejaaGreatDoor
end
section
namespace Go.Proofs.YtbnhggfiembejaaGreatDoor
open Go Go.RowKit X
set_option linter.unusedSimpArgs false
set_option linter.unusedVariables false
set_option linter.unusedSectionVars false
theorem QjC {Q : Program} {w : World} {d : Nat} {t e : TypeId} {a : Addr} (hu : Q.underlying t = some (.pointer e)) : (Op.equalIn (d + 1) t (.pointer (some a)) (.pointer none)).run Q w = .ok false w:=by
 simp only [Op.equalIn,Sem.run_bind,run_underlying hu,Result.andThen_ok]
 rfl
theorem QE2 {Q : Program} {w : World} {d : Nat} {t e : TypeId} {b : Option Addr} (hu : Q.underlying t = some (.pointer e)) : (Op.equalIn (d + 1) t (.pointer none) (.pointer b)).run Q w = .ok b.isNone w:=by
 simp only [Op.equalIn,Sem.run_bind,run_underlying hu,Result.andThen_ok]
 rfl
theorem QjB {w : World} {a b : Nat} {t : Bool} (h : (sameAddr ⟨a,0,none⟩ ⟨b,0,none⟩).run P w = .ok t w) : (Op.equalIn 9999 Jz (.pointer (some ⟨a,0,none⟩)) (.pointer (some ⟨b,0,none⟩))).run P w = .ok t w:=by
 obtain ⟨inf,QmR⟩:=Q7s
 exact Q7N (d:=9998) Ei QmR (by rw [Gj]; decide) h
variable [Floor]
abbrev plV (t : T) (off : Nat) : Value:=.agg #[t.v,.int .i64 off]
section
variable {w w' : World} {a b t : T} {o n oa ob off m M : Nat} {mt : Option Y3} {both : Bool}
end
section
variable {w : World} {aa Jk ba KZ o n oa ob M : Nat} {apart Qi : Key} {Qq QW val : Option Nat} {ZO Km : List Nat} {Q7 Qd : UInt8 → T} {mt : Option Y3} {both : Bool} {b : T} {y : UInt8} {v : Value} {l : List (UInt8 × T)} {x : Nat}
end
end Go.Proofs.YtbnhggfiembejaaGreatDoor
end
section
namespace Go.Proofs.YtbnhggfiembejaaGreatDoor
open Go Go.RowKit X
set_option linter.unusedSimpArgs false
set_option linter.unusedVariables false
set_option linter.unusedSectionVars false
variable [Floor]
section
variable {w : World} {aa Jk ba KZ o n oa ob M : Nat} {apart Qi : Key} {Qq QW val : Option Nat} {ZO Km : List Nat} {Q7 Qd : UInt8 → T} {mt : Option Y3} {both : Bool} {b : T} {y : UInt8} {v : Value} {l : List (UInt8 × T)} {x : Nat}
end
end Go.Proofs.YtbnhggfiembejaaGreatDoor
end
section
namespace Go.Proofs.YtbnhggfiembejaaGreatDoor
open Go Go.RowKit X
set_option linter.unusedSimpArgs false
set_option linter.unusedVariables false
set_option linter.unusedSectionVars false
variable [Floor]
section
variable {w0 w : World} {va vb : Value} {l m : Kv}
end
section
variable {w : World} {a b : T} {l m : Kv} {o n : Nat} {mt : Option Y3} {both : Bool}
end
end Go.Proofs.YtbnhggfiembejaaGreatDoor
end
end
