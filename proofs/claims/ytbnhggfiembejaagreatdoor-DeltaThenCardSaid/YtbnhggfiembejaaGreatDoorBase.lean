import Derived.Test.YtbnhggfiembejaaGreatDoorCanon
import Derived.Test.YtbnhggfiembejaaGreatDoorStr
import Derived.Test.YtbnhggfiembejaaGreatDoorRefK
import Derived.Test.YtbnhggfiembejaaGreatDoorMap
import Derived.Test.YtbnhggfiembejaaGreatDoorLong
namespace Go.Proofs.YtbnhggfiembejaaGreatDoor
open Go Go.RowKit X
set_option linter.unusedSimpArgs false
set_option linter.unusedVariables false
set_option linter.unusedSectionVars false
variable [Floor]
theorem Tree.within {w : World} : ∀ {t : T},Tree w t → t.er.Within 65535:=by
 intro t
 induction t with
 | nil => intro _; trivial
 | node a ow part val ks kids ih =>
   rintro ⟨h1,h2⟩
   exact ⟨h1.short,h1.v64,fun c => ih c (h2 c)⟩
theorem Tree.Vw {w : World} {t : T} {l : Kv} (ht : Tree w t) (h : Can t.er (look l)) (hr : Zp l) (hl : l.length ≤ 100000) : t.er.shape.length ≤ 70368744177664:=by
 have h1:=E.Q1o ht.within (h.size hr)
 omega
theorem RC.within {w : World} {Q : Nat → Prop} : ∀ {e : E} {cs : List Value},RC w Q e cs → e.Within 65535:=by
 intro e
 induction e with
 | nil => intro cs _; trivial
 | node part val kids ih =>
   rintro cs ⟨vp,vb,vk,cells,h1,h2,h3,h4,h5,h6,h7⟩
   refine ⟨h6,h7,fun c => ?_⟩
   by_cases hc : c ∈ dom fun c => (kids c).opt
   · obtain ⟨i,hi,hic⟩:=List.mem_iff_getElem.1 hc
     exact ih c (h5 i c (by rw [List.getElem?_eq_getElem hi,hic]))
   · have : kids c = .nil:=E.RN (by
      cases h : (kids c).opt with
      | none => rfl
      | some => exact absurd (Zd.2 (by rw [h]; rfl)) hc)
     rw [this]; trivial
structure Lw (w : World) : Prop where
 fl : Floor.n ≤ w.heap.size
 tab : Tab w
 tfl : QH < Floor.n
theorem Lw.Q4 {w w' : World} (h : Lw w) (e : Ext No w w') : Lw w':=⟨Nat.le_trans h.fl e.size,h.tab.Q4 e,h.tfl⟩
theorem Lw.ext {w w' : World} {X : Nat → Prop} (h : Lw w) (e : Ext X w w') (hx : ∀ b,X b → Floor.n ≤ b) : Lw w':=⟨Nat.le_trans h.fl e.size,h.tab.ext e fun hb => by have:=hx _ hb; have:=h.tfl; omega,h.tfl⟩
theorem Lw.mt {w w' : World} {mt : Option Y3} {k : Nat} (h : Lw w) (hm : Mt w mt k) (e : Ext (MX mt) w w') : Lw w':=h.ext e fun b hb => hm.flX hb
theorem Lw.Ra {w : World} {k : Nat} (h : Lw w) : Mt w none k:=Mt.none h.fl
structure Pr (l : Kv) : Prop where
 rises : Zp l
 keys : ∀ p ∈ l,p.1.length ≤ 65535
 many : l.length ≤ 100000
structure Ct (w : World) (t : T) (l : Kv) : Prop where
 tree : Tree w t
 can : Can t.er (look l)
 QR : t.ZJ
theorem Ct.Q4 {w w' : World} {t : T} {l : Kv} (h : Ct w t l) (e : Ext No w w') : Ct w' t l:=⟨h.tree.Q4 e,h.can,h.QR⟩
theorem Ct.mt {w w' : World} {t : T} {l : Kv} {mt : Option Y3} {k : Nat} (h : Ct w t l) (hm : Mt w mt k) (e : Ext (MX mt) w w') : Ct w' t l:=⟨h.tree.YL hm e,h.can,h.QR⟩
theorem Ct.long {w : World} {t : T} {l : Kv} (h : Ct w t l) (hp : Pr l) : t.er.long ≤ 65535:=by
 rw [h.can.long hp.rises]
 refine Qdi fun m hm => ?_
 obtain ⟨p,hpp,rfl⟩:=List.mem_map.1 hm
 exact hp.keys p hpp
end Go.Proofs.YtbnhggfiembejaaGreatDoor
