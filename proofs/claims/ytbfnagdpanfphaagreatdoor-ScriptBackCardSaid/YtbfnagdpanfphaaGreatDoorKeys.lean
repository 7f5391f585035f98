/-  keys: what the functions of layer 1 answer.  -/
import Derived.Test.YtbfnagdpanfphaaGreatDoorLib
import Derived.Test.YtbfnagdpanfphaaGreatDoorMap
import Derived.Lib.Bytes
import Derived.Lib.BytesEntry
import Derived.Lib.LazyBuf
import Derived.Test.YtbfnagdpanfphaaGreatDoorSA
section
namespace Go.Proofs.YtbfnagdpanfphaaGreatDoor
open Go Go.RowKit X
set_option linter.unusedSimpArgs false
set_option linter.unusedVariables false
set_option linter.unusedSectionVars false

abbrev bv (c : UInt8) : Value := .int .u8 c.toNat
abbrev str (l : List UInt8) : Value := .string ⟨l.toArray⟩
theorem toList_mk (l : List UInt8) : (ByteArray.mk l.toArray).toList = l := by
  have h1 := Lib.strOfNums_toList (l.map fun b => (b.toNat : Int))
  rw [Lib.Lz.strOfNums_map] at h1
  rw [h1]
  unfold Lib.bytesOf
  rw [List.map_map]
  conv => rhs; rw [← List.map_id l]
  apply List.map_congr_left
  intro c _
  simp
theorem ei_u8 : EI P T_s_uint8 T_uint8 1 1 (.int .u8 0) := ⟨by kernel_rfl, by kernel_rfl, by rfl, by omega⟩
theorem t_u8 : P.underlying T_uint8 = some (.int .u8) := by kernel_rfl
theorem t_str : P.underlying T_string = some .string := by kernel_rfl
/-- how many blocks there are ahead of the whole run: none of them is written -/
class Floor where
  n : Nat
variable [Floor]
/-- in a block of elements of a type, or in one that was there -/
def QT (T : TypeId) : Nat → TypeId → Prop := fun b t => t = T ∨ b < Floor.n
/-- what is written is new, and no block of a type -/
def NBT (T : TypeId) (w : World) (X : Nat → Prop) : Prop := ∀ b, X b → b < w.heap.size → Floor.n ≤ b ∧ ∃ cs T', Blk w b cs T' ∧ T' ≠ T
/-- what is written is no bytes -/
abbrev NB (w : World) (X : Nat → Prop) : Prop := NBT T_uint8 w X
theorem NBT.no (T : TypeId) (w : World) : NBT T w No := fun _ h => h.elim
theorem NB.no (w : World) : NB w No := NBT.no _ w
theorem NBT.or {T : TypeId} {w : World} {X Y : Nat → Prop} (h : NBT T w X) (k : NBT T w Y) : NBT T w (fun b => X b ∨ Y b) := fun b hb hl => hb.elim (fun hb => h b hb hl) fun hb => k b hb hl
theorem X.Sl.extQ {T : TypeId} {X : Nat → Prop} {w w' : World} {v : Value} {sz n : Nat} {cells : List Value} (h : Sl w (QT T) v sz n cells) (e : Ext X w w') (hx : NBT T w X) : Sl w' (QT T) v sz n cells :=
  h.ext1 e fun b hX hb => by
    obtain ⟨h1, cs, T', h2, h3⟩ := hx b hX hb
    refine ⟨cs, T', h2, fun hq => ?_⟩
    rcases hq with hq | hq
    · exact h3 hq
    · omega
/-- v is a slice of these bytes -/
def Bs (w : World) (v : Value) (bs : List UInt8) : Prop := Sl w (QT T_uint8) v 1 bs.length (bs.map bv)
theorem Bs.ext {X : Nat → Prop} {w w' : World} {v : Value} {bs : List UInt8} (h : Bs w v bs) (e : Ext X w w') (hx : NB w X) : Bs w' v bs := Sl.extQ h e hx
theorem Bs.of {w : World} {v : Value} {bs : List UInt8} (h : Sl w (tyQ T_uint8) v 1 bs.length (bs.map bv)) : Bs w v bs := Sl.weak h fun _ _ h => .inl h
theorem Bs.extN {w w' : World} {v : Value} {bs : List UInt8} (h : Bs w v bs) (e : Ext No w w') : Bs w' v bs := Sl.extN h e
theorem Bs.rd {w : World} {v : Value} {bs : List UInt8} {K : Value → Prop} {kd : IntKind} {i : Int} (h : Bs w v bs) (m : Nat) (hm : m < bs.length) (hi : i = (m : Int)) (k : K (bv (bs[m]))) :
    xIxS v (.int kd i) 1 fun u => xAt u fun a => XLd w a K := Sl.rd1 h m hi hm (by simp [hm]) k

/-! ### bytes -/
theorem Bs.one {w : World} {v : Value} {bs : List UInt8} (_ : Bs w v bs) : ∀ u ∈ bs.map bv, u.oneCell' = true := by
  intro u hu
  obtain ⟨c, -, rfl⟩ := List.mem_map.1 hu
  rfl
theorem Bs.nil (w : World) : Bs w (.slice none 0 0) [] := Sl.nil
theorem Bs.len {w : World} {v : Value} {bs : List UInt8} {K : Value → Prop} (h : Bs w v bs) (k : K (.int .i64 bs.length)) : xLen v K := xLen_sl h k
theorem Bs.slice {w : World} {v : Value} {bs : List UInt8} (h : Bs w v bs) : ∃ a cap, v = .slice a bs.length cap := let ⟨a, cap, e, _⟩ := h; ⟨a, cap, e⟩
/-- the length that a slice value tells -/
theorem Bs.conv {w : World} {v : Value} {bs : List UInt8} {K : Value → World → Prop} {s d : TypeId} (hs : s = T_s_uint8) (hd : d = T_string) (h : Bs w v bs) (k : K (str bs) w) : XRun P (convert s d v) w K := by
  subst hs; subst hd
  exact conv_str ei_u8.u t_u8 t_str h k
theorem Bs.drop {w : World} {v : Value} {bs : List UInt8} {K : Value → Prop} {kd : IntKind} {i : Int} (h : Bs w v bs) (l : Nat) (hi : i = (l : Int)) (hl : l ≤ bs.length) (k : ∀ v', Bs w v' (bs.drop l) → K v') : xCutS 1 v (some (.int kd i)) none none K :=
  Sl.cutL h l hi hl fun v' hv => k v' (by
    unfold Bs
    rw [List.length_drop, List.map_drop]
    simpa using hv)
theorem Bs.take {w : World} {v : Value} {bs : List UInt8} {K : Value → Prop} {kd : IntKind} {i : Int} (h : Bs w v bs) (l : Nat) (hi : i = (l : Int)) (hl : l ≤ bs.length) (k : ∀ v', Bs w v' (bs.take l) → K v') : xCutS 1 v none (some (.int kd i)) none K :=
  Sl.cutH h l hi hl fun v' hv => k v' (by
    unfold Bs
    rw [List.length_take, Nat.min_eq_left hl, List.map_take]
    simpa using hv)
theorem Bs.part {w : World} {v : Value} {bs : List UInt8} {K : Value → Prop} {kd kd' : IntKind} {i j : Int} (h : Bs w v bs) (l m : Nat) (hi : i = (l : Int)) (hj : j = (m : Int)) (hl : l ≤ m) (hm : m ≤ bs.length) (k : ∀ v', Bs w v' ((bs.drop l).take (m - l)) → K v') :
    xCutS 1 v (some (.int kd i)) (some (.int kd' j)) none K :=
  Sl.cutB h l m hi hj hl hm fun v' hv => k v' (by
    unfold Bs
    rw [List.length_take, List.length_drop, Nat.min_eq_left (by omega), List.map_take, List.map_drop]
    simpa using hv)

theorem c_May {w : World} {va : Value} {a : List UInt8} (ha : Bs w va a) : Ret P n_keys_May [va] w fun v w' => v = .int .i64 (if a.length ≤ 65535 then 0 else 8) ∧ w' = w := by
  refine W_keys_May ?_
  refine ha.len ?_
  refine xifD (fun h => ⟨?_, rfl⟩) fun h => ⟨?_, rfl⟩
  · rw [if_neg (by omega)]
  · rw [if_pos (by omega)]
theorem bytesOf_run {w : World} {va : Value} {a : List UInt8} (ha : Bs w va a) : (Extern.Bytes.bytesOf va).run P w = .ok ⟨a.toArray⟩ w := by
  have ha' := ha
  obtain ⟨ad, cap, rfl, hl, hc, hx⟩ := ha
  cases ad with
  | none =>
    have : a = [] := List.eq_nil_of_length_eq_zero (by have : cap = 0 := hx; omega)
    subst this
    rfl
  | some ad =>
    have := Lib.run_loadBytesX (P := P) w (a.map fun c => (c.toNat : Int)) ad .empty (fun j x hj => by
      refine Sl.cells_at (v := .pointer none) ha' j _ ?_
      simp only [List.getElem?_map] at hj ⊢
      cases h : a[j]? with
      | none => simp [h] at hj
      | some c => simp [h] at hj ⊢; exact hj)
    simp only [List.length_map] at this
    show (Extern.Bytes.loadBytes ad a.length .empty).run P w = _
    rw [this]
    congr 2
    simp [Lib.bytesOf, List.map_map, Function.comp_def]
/-- the copy of bytes: none of none; else what the call itself made -/
theorem c_Clone {w : World} {va : Value} {a : List UInt8} (ha : Bs w va a) (la : a.length ≤ 140737488355328) : Ret P n_bytes_Clone [va] w fun v w' => Bs w' v a ∧ Ext No w w' := by
  refine W_bytes_Clone ?_
  obtain ⟨ad, cap, rfl⟩ := ha.slice
  cases ad with
  | none =>
    have : a = [] := by
      obtain ⟨ad, cap', h, hl, hc, hx⟩ := ha
      simp only [Value.slice.injEq] at h
      obtain ⟨rfl, -, rfl⟩ := h
      exact List.eq_nil_of_length_eq_zero (by have : cap = 0 := hx; omega)
    subst this
    exact ⟨Bs.nil _, Ext.refl _ _⟩
  | some ad =>
    refine xnew fun b w1 hb hblk hsz he => ?_
    refine app_own ei_u8 (B := w.heap.size) (n := 0) (xs := []) (m := a.length) ⟨rfl, .inr ⟨b, 0, _, rfl, by omega, hblk.h, by omega, by decide, rfl, rfl⟩⟩ (by omega) (ha.extN he) ha.one (by omega) (by omega) fun v' w' ho h1 _ _ => ?_
    have := ho.sl
    refine ⟨Bs.of (by simpa using this), he.trans1 (b := b) (h1.mono fun c _ h => ?_) (by omega)⟩
    simp only [Value.ownBlock, Option.some.injEq] at h
    exact h.symm
end Go.Proofs.YtbfnagdpanfphaaGreatDoor
end
section
namespace Go.Proofs.YtbfnagdpanfphaaGreatDoor
open Go Go.RowKit X
set_option linter.unusedSimpArgs false
set_option linter.unusedVariables false
set_option linter.unusedSectionVars false
variable [Floor]

/-- where a meter stands: its block, what else is in the block, the block's type (a meter, or a world) -/
structure Mtr where
  b : Nat
  rest : List Value
  ty : TypeId
abbrev mtr (b : Nat) : Mtr := ⟨b, [], T_meter_Meter⟩
instance : Coe Nat Mtr := ⟨mtr⟩
abbrev NoM (T : TypeId) : Prop := T ≠ T_meter_Meter ∧ T ≠ T_tree_World
/-- a meter, or none -/
def mv (mt : Option Mtr) : Value := .pointer (mt.map fun m => ⟨m.b, 0, none⟩)
/-- it has counted k (as far as 64 bits go) -/
structure Mt (w : World) (mt : Option Mtr) (k : Nat) : Prop where
  fl : Floor.n ≤ w.heap.size
  at_ : ∀ m, mt = some m → Floor.n ≤ m.b ∧ (m.ty = T_meter_Meter ∨ m.ty = T_tree_World) ∧ Blk w m.b (.int .i64 (IntKind.i64.wrap k) :: m.rest) m.ty
/-- the meter's own block -/
def MX : Option Mtr → Nat → Prop
  | none, _ => False
  | some m, b => m.b = b
theorem MX.get {mt : Option Mtr} {b : Nat} (h : MX mt b) : ∃ m, mt = some m ∧ m.b = b := by
  cases mt with
  | none => exact h.elim
  | some m => exact ⟨m, rfl, h⟩
theorem Mt.none {w : World} {k : Nat} (h : Floor.n ≤ w.heap.size) : Mt w none k := ⟨h, fun _ h => by cases h⟩
theorem Mt.blk {w : World} {m : Mtr} {k : Nat} (h : Mt w (some m) k) : Blk w m.b (.int .i64 (IntKind.i64.wrap k) :: m.rest) m.ty := (h.at_ m rfl).2.2
theorem Mt.flX {w : World} {mt : Option Mtr} {k b : Nat} (h : Mt w mt k) (hb : MX mt b) : Floor.n ≤ b := by
  obtain ⟨m, rfl, rfl⟩ := hb.get
  exact (h.at_ m rfl).1
theorem MX.none : MX none = No := by funext b; rfl
theorem Mt.ext {X : Nat → Prop} {w w' : World} {mt : Option Mtr} {k : Nat} (h : Mt w mt k) (e : Ext X w w') (hx : ∀ b, MX mt b → ¬ X b) : Mt w' mt k :=
  ⟨Nat.le_trans h.fl e.size, fun m hm => ⟨(h.at_ m hm).1, (h.at_ m hm).2.1, (h.at_ m hm).2.2.ext e (hx m.b (by subst hm; rfl))⟩⟩
theorem Mt.extN {w w' : World} {mt : Option Mtr} {k : Nat} (h : Mt w mt k) (e : Ext No w w') : Mt w' mt k := h.ext e fun _ _ h => h
/-- a block of another type is not the meter's -/
theorem Mt.ne {w : World} {mt : Option Mtr} {k b : Nat} {cs : List Value} {T : TypeId} (h : Mt w mt k) (hb : Blk w b cs T) (ht : NoM T) : ¬ MX mt b := by
  intro e
  obtain ⟨m, rfl, rfl⟩ := e.get
  have e := (hb.inj h.blk).2
  rcases (h.at_ m rfl).2.1 with h1 | h1
  · exact ht.1 (e.trans h1)
  · exact ht.2 (e.trans h1)
theorem Mt.nbt {T : TypeId} {w : World} {mt : Option Mtr} {k : Nat} (h : Mt w mt k) (ht : NoM T) : NBT T w (MX mt) := fun b hb _ => by
  obtain ⟨m, rfl, rfl⟩ := hb.get
  refine ⟨(h.at_ m rfl).1, _, _, h.blk, fun e => ?_⟩
  rcases (h.at_ m rfl).2.1 with h1 | h1
  · exact ht.1 (e.symm.trans h1)
  · exact ht.2 (e.symm.trans h1)
theorem Mt.nb {w : World} {mt : Option Mtr} {k : Nat} (h : Mt w mt k) : NB w (MX mt) := h.nbt (by decide)
theorem Bs.mt {w w' : World} {v : Value} {bs : List UInt8} {mt : Option Mtr} {k : Nat} (h : Bs w v bs) (e : Ext (MX mt) w w') (hm : Mt w mt k) : Bs w' v bs := h.ext e hm.nb

theorem wrap_wrap (a b : Int) : IntKind.i64.wrap (IntKind.i64.wrap a + b) = IntKind.i64.wrap (a + b) := by
  simp only [IntKind.wrap_i64]
  omega
end Go.Proofs.YtbfnagdpanfphaaGreatDoor
end
