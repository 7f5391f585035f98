/-  sub: parts of trees, and trees under bytes.  -/
import Derived.Test.YtbfnagdpanfphaaGreatDoorNode
import Derived.Test.YtbfnagdpanfphaaGreatDoorMap
import Derived.Test.YtbfnagdpanfphaaGreatDoorStr
import Derived.Test.YtbfnagdpanfphaaGreatDoorCanon
import Derived.Test.YtbfnagdpanfphaaGreatDoorLong
import Derived.Test.YtbfnagdpanfphaaGreatDoorPut
section
namespace Go.Proofs.YtbfnagdpanfphaaGreatDoor
open Go Go.RowKit X
set_option linter.unusedSimpArgs false
set_option linter.unusedVariables false
set_option linter.unusedSectionVars false
variable [Floor]
section
variable {w : World} {mt : Option Mtr} {n o : Nat}
end
end Go.Proofs.YtbfnagdpanfphaaGreatDoor
end
section
namespace Go.Proofs.YtbfnagdpanfphaaGreatDoor
open Go Go.RowKit X
set_option linter.unusedSimpArgs false
set_option linter.unusedVariables false
set_option linter.unusedSectionVars false
/-- where all keys that begin with p stand -/
def Seek (t : T) (p : Key) (u : T) (way : Key) : Prop := (u = .nil ∧ way = [] ∧ ∀ r, t.get (p ++ r) = none) ∨
  (u ≠ .nil ∧ way <+: p ∧ p <+: way ++ u.part ∧ (∀ r, t.get (way ++ r) = u.get r) ∧ (way = [] → u = t) ∧ (t.Leafy → u.Leafy) ∧ (t.er.Fine → u.er.Fine) ∧ ((∀ b, u.All b → t.All b) ∧ ∀ q, t.OwQ q → u.OwQ q) ∧ (way ≠ [] → t.er.Fine → ∃ k v, t.get k = some v ∧ ¬ way <+: k))
/-- a canonical node has a key that goes not down by one byte -/
theorem other_key {part : Key} {val : Option Nat} {kids : UInt8 → E} (hf : (E.node part val kids).Fine) {c : UInt8} (hc : (kids c).opt.isSome) : ∃ k v, (E.node part val kids).get k = some v ∧ ¬ (part ++ [c]) <+: k := by
  obtain ⟨h1, h2, h3⟩ := fine_of hf
  cases val with
  | some v => exact ⟨part, v, get_nil, fun h => by have := h.length_le; simp at this; omega⟩
  | none =>
    have hpos : 0 < cntE kids := cnt_pos (m := fun c => (kids c).opt) hc
    have h2 : 2 ≤ cntE kids + 0 := h2 (by omega)
    obtain ⟨a, b, ha, hb, hab⟩ := two_mem (dom_rise fun c => (kids c).opt).nodup h2
    have key : ∀ d, d ∈ dom (fun c => (kids c).opt) → d ≠ c → ∃ k v, (E.node part none kids).get k = some v ∧ ¬ (part ++ [c]) <+: k := fun d hd hdc => by
      obtain ⟨k, v, hk⟩ := (h3 d).some_key (E.isSome_iff.1 (dom_mem.1 hd))
      refine ⟨part ++ d :: k, v, by rw [get_cons, hk], fun h => ?_⟩
      rw [List.prefix_append_right_inj, List.cons_prefix_cons] at h
      exact hdc h.1.symm
    by_cases e : a = c
    · exact key b hb fun e' => hab (by rw [e, e'])
    · exact key a ha e
theorem T.get_app {a ow : Nat} {part : Key} {val : Option Nat} {ks : List Nat} {kids : UInt8 → T} (r : Key) : (T.node a ow part val ks kids).get (part ++ r) = match r with | [] => val | c :: s => (kids c).get s := E.get_app part val (fun c => (kids c).er) r
theorem T.get_no {a ow : Nat} {part : Key} {val : Option Nat} {ks : List Nat} {kids : UInt8 → T} {k : Key} (h : ¬ part <+: k) : (T.node a ow part val ks kids).get k = none := Go.Proofs.YtbfnagdpanfphaaGreatDoor.get_no (kids := fun c => (kids c).er) h
variable [Floor]
section
variable {w : World} {mt : Option Mtr} {n o : Nat} {t : T} {vp : Value} {p : Key}
theorem Bs.room (h : Bs w vp p) (m : Nat) (hm : m ≤ p.length) {K : Value → Prop} {kd kd' : IntKind} {i j : Int} (hi : i = (m : Int)) (hj : j = (m : Int)) (k : ∀ v', Bs w v' (p.take m) → (∃ ad, v' = .slice ad (p.take m).length (p.take m).length) → K v') : xCutS 1 vp none (some (.int kd i)) (some (.int kd' j)) K := by
  obtain ⟨a, cap, rfl, hc, hs⟩ := Sl.cut (l := 0) (h := m) h (Nat.zero_le _) hm
  have h1 := hs m (Nat.le_refl _) (by omega)
  have hl : (p.take m).length = m := by rw [List.length_take]; omega
  refine ⟨0, m, m, ⟨hj, by omega⟩, ⟨hi, Nat.le_refl _⟩, rfl, ?_⟩
  refine k _ ?_ ⟨_, by rw [hl]; rfl⟩
  unfold Bs
  rw [hl, List.map_take]
  simpa using h1
theorem app_bytes {ad : Option Addr} {x : Value} {xs ys : Key} {ty : TypeId} {K : Value → World → Prop} (hv : Bs w (.slice ad xs.length xs.length) xs) (hx : Bs w x ys) (hn : xs.length + ys.length ≤ 140737488355328) (k : ∀ v' w', Bs w' v' (xs ++ ys) → Ext No w w' → K v' w') :
    XRun P (Builtin.append_ #[T_s_uint8, T_s_uint8] ty #[.slice ad xs.length xs.length, x]) w K :=
  app_full (T0 := QT T_uint8) ei_u8 hv (fun b => .inl rfl) hx (by omega) (by omega) fun v' w' h he => k v' w' (by unfold Bs; rw [List.length_append, List.map_append]; exact h) he
/-- what 'Sub' and 'Strip' make -/
structure SubR (w w' : World) (t t' : T) (mt : Option Mtr) (n n' o : Nat) : Prop where
  tree : Tree w' t'
  leafy : t.Leafy → t'.Leafy
  cnt : Mt w' mt n'
  ge : n ≤ n'
  le : n' ≤ n + 1
  ext : Ext (MX mt) w w'
  all : ∀ q : Nat → Prop, (∀ b, t.All b → q b) → (∀ b, w.heap.size ≤ b → q b) → ∀ b, t'.All b → q b
  own : ∀ q : Nat → Prop, q o → t.OwQ q → t'.OwQ q
end
end Go.Proofs.YtbfnagdpanfphaaGreatDoor
end
section
namespace Go.Proofs.YtbfnagdpanfphaaGreatDoor
open Go Go.RowKit X
set_option linter.unusedSimpArgs false
set_option linter.unusedVariables false
set_option linter.unusedSectionVars false
variable [Floor]
section
variable {w : World} {mt : Option Mtr} {n o : Nat} {t : T} {vp : Value} {p : Key}
end
end Go.Proofs.YtbfnagdpanfphaaGreatDoor
end
