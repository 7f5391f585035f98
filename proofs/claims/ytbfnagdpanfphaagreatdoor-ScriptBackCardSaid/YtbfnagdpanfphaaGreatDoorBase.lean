/-  for the laws: the world in which a law runs, and what trees and pairs may be in it.  -/
import Derived.Test.YtbfnagdpanfphaaGreatDoorCanon
import Derived.Test.YtbfnagdpanfphaaGreatDoorStr
import Derived.Test.YtbfnagdpanfphaaGreatDoorRefK
import Derived.Test.YtbfnagdpanfphaaGreatDoorMap
import Derived.Test.YtbfnagdpanfphaaGreatDoorLong
namespace Go.Proofs.YtbfnagdpanfphaaGreatDoor
open Go Go.RowKit X
set_option linter.unusedSimpArgs false
set_option linter.unusedVariables false
set_option linter.unusedSectionVars false
variable [Floor]
theorem Tree.within {w : World} : ∀ {t : T}, Tree w t → t.er.Within 65535 := by
  intro t
  induction t with
  | nil => intro _; trivial
  | node a ow part val ks kids ih =>
    rintro ⟨h1, h2⟩
    exact ⟨h1.short, h1.v64, fun c => ih c (h2 c)⟩
/-- what a canonical tree's shape takes -/
theorem Tree.shapeLen {w : World} {t : T} {l : Kv} (ht : Tree w t) (h : Can t.er (look l)) (hr : Rises l) (hl : l.length ≤ 100000) : t.er.shape.length ≤ 70368744177664 := by
  have h1 := E.shape_len' ht.within (h.size hr)
  omega
/-- the world of a law: the floor, and the table of the tens -/
structure Lw (w : World) : Prop where
  fl : Floor.n ≤ w.heap.size
  tab : Tab w
  tfl : g_istrconv_uint64pow10 < Floor.n
theorem Lw.extN {w w' : World} (h : Lw w) (e : Ext No w w') : Lw w' := ⟨Nat.le_trans h.fl e.size, h.tab.extN e, h.tfl⟩
theorem Lw.ext {w w' : World} {X : Nat → Prop} (h : Lw w) (e : Ext X w w') (hx : ∀ b, X b → Floor.n ≤ b) : Lw w' := ⟨Nat.le_trans h.fl e.size, h.tab.ext e fun hb => by have := hx _ hb; have := h.tfl; omega, h.tfl⟩
theorem Lw.mt {w w' : World} {mt : Option Mtr} {k : Nat} (h : Lw w) (hm : Mt w mt k) (e : Ext (MX mt) w w') : Lw w' := h.ext e fun b hb => hm.flX hb
theorem Lw.mt0 {w : World} {k : Nat} (h : Lw w) : Mt w none k := Mt.none h.fl
/-- pairs that a law works on -/
structure Pr (l : Kv) : Prop where
  rises : Rises l
  keys : ∀ p ∈ l, p.1.length ≤ 65535
  many : l.length ≤ 100000
/-- a canonical tree of pairs, in a world -/
structure Ct (w : World) (t : T) (l : Kv) : Prop where
  tree : Tree w t
  can : Can t.er (look l)
  leafy : t.Leafy
theorem Ct.extN {w w' : World} {t : T} {l : Kv} (h : Ct w t l) (e : Ext No w w') : Ct w' t l := ⟨h.tree.extN e, h.can, h.leafy⟩
theorem Ct.mt {w w' : World} {t : T} {l : Kv} {mt : Option Mtr} {k : Nat} (h : Ct w t l) (hm : Mt w mt k) (e : Ext (MX mt) w w') : Ct w' t l := ⟨h.tree.extM hm e, h.can, h.leafy⟩
theorem Ct.long {w : World} {t : T} {l : Kv} (h : Ct w t l) (hp : Pr l) : t.er.long ≤ 65535 := by
  rw [h.can.long hp.rises]
  refine maxL_le' fun m hm => ?_
  obtain ⟨p, hpp, rfl⟩ := List.mem_map.1 hm
  exact hp.keys p hpp
end Go.Proofs.YtbfnagdpanfphaaGreatDoor
