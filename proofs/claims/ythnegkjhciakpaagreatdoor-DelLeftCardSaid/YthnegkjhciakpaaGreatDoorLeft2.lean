/-  del.Left: what it refuses.  -/
import Derived.Test.YthnegkjhciakpaaGreatDoorLeft
namespace Go.Proofs.YthnegkjhciakpaaGreatDoor
open Go Go.RowKit X
set_option linter.unusedSimpArgs false
set_option linter.unusedVariables false
set_option linter.unusedSectionVars false
variable [Floor]
/-- a row of kids, whatever they are -/
def RK (w : World) (v : Value) (l : List (UInt8 × T)) : Prop := ∃ cells, Sl w (tyQ T_del_Kid) v 2 l.length cells ∧ ∀ (i : Nat) (p : UInt8 × T), l[i]? = some p → cells[i * 2]? = some (bv p.1) ∧ cells[i * 2 + 1]? = some p.2.v
theorem upK_iff {l : List (UInt8 × T)} : UpK l ↔ ∀ i (h : i + 1 < l.length), l[i].1.toNat < l[i + 1].1.toNat := by
  constructor
  · intro h i hi
    exact List.pairwise_iff_getElem.1 h i (i + 1) (by omega) hi (by omega)
  · intro h
    refine List.pairwise_iff_getElem.2 fun i j hi hj hij => ?_
    induction j with
    | zero => omega
    | succ j ih =>
      by_cases e : i = j
      · subst e; exact h i hj
      · have h1 := ih (by omega) (by omega)
        have h2 := h j hj
        omega
section
variable {w w' : World} {v : Value} {l : List (UInt8 × T)} {o : Nat} {t : T}
theorem RK.extN (h : RK w v l) (e : Ext No w w') : RK w' v l := let ⟨cells, h1, h2⟩ := h; ⟨cells, h1.extN e, h2⟩
theorem RK.nil : RK w (.slice none 0 0) [] := ⟨[], Sl.nil, fun i p h => by simp at h⟩
theorem RK.rd (h : RK w v l) (i : Nat) (hi : i < l.length) {K : Addr → World → Prop} (k : ∀ b w', Blk w' b [bv l[i].1, l[i].2.v] T_del_Kid → Ext No w w' → K ⟨b, 0, none⟩ w') :
    xIxS v (.int .i64 i) 2 fun u => xAt u fun a => XLdN w a 2 fun y => XNew w [.int .u8 0, .pointer none] T_del_Kid fun b w1 => XDo P (storeVar T_del_Kid b y) w1 fun w2 => K b w2 := by
  obtain ⟨cells, h1, h2⟩ := h
  obtain ⟨h3, h4⟩ := h2 i l[i] (List.getElem?_eq_getElem hi)
  have h5 : (cells.drop (i * 2)).take 2 = [bv l[i].1, l[i].2.v] := by
    apply List.ext_getElem?
    intro j
    rw [List.getElem?_take]
    match j with
    | 0 => rw [if_pos (by omega), List.getElem?_drop]; exact h3
    | 1 => rw [if_pos (by omega), List.getElem?_drop]; exact h4
    | j + 2 => rw [if_neg (by omega)]; rfl
  refine h1.rdN i rfl hi ?_
  rw [h5]
  refine xnew fun b w1 hb hblk hz he1 => ?_
  refine xstoreVar hblk (by kernel_rfl) (by simp) ?_ fun w2 hb2 hz2 he2 => ?_
  · intro u hu
    simp only [List.mem_cons, List.mem_nil_iff, or_false] at hu
    rcases hu with rfl | rfl
    · rfl
    · rfl
  exact k b w2 (by simpa using hb2) (he1.trans1 he2 (by omega))
theorem xpeq_any {t : T} {K : Value → Prop} (h1 : t = .nil → K (.bool true)) (h2 : t ≠ .nil → K (.bool false)) : xPEq P w t.v (.pointer none) K := by
  cases t with
  | nil => exact h1 rfl
  | node => exact h2 (by simp)
/-- what check says -/
def ChkR (l : List (UInt8 × T)) (e : Nat) : Prop := (e = 1 ∧ ∃ p ∈ l, p.2 = .nil) ∨ (e = 12 ∧ (∀ p ∈ l, p.2 ≠ .nil) ∧ ¬ UpK l) ∨ (e = 0 ∧ (∀ p ∈ l, p.2 ≠ .nil) ∧ UpK l)
theorem c_chk (h : RK w v l) (hl : l.length ≤ 1000) : Ret P n_del_check [v] w fun r w' => ∃ e, r = .int .i64 (e : Nat) ∧ ChkR l e ∧ Ext No w w' := by
  refine W_del_check ?_
  refine xLen_sl h.choose_spec.1 ?_
  refine xloop (fun nn vs w' => ∃ (i e : Nat) (y1 y2 y3 y4 : Value), vs = [.int .i64 i, y1, y2, y3, y4, .int .i64 (e : Nat)] ∧ nn = l.length - i ∧ i ≤ l.length ∧ (∀ p ∈ l.take i, p.2 ≠ .nil) ∧
      ((e = 0 ∧ ∀ m (hm : m + 1 < l.length), m + 1 < i → l[m].1.toNat < l[m + 1].1.toNat) ∨ (e = 12 ∧ ∃ m, ∃ hm : m + 1 < l.length, ¬ l[m].1.toNat < l[m + 1].1.toNat)) ∧ Ext No w w') l.length
    ⟨0, 0, _, _, _, _, rfl, rfl, by omega, (fun p hp => by simp at hp), .inl ⟨rfl, fun m hm h => by omega⟩, Ext.refl _ _⟩ ?_
  rintro nn vs g w1 ⟨i, e, y1, y2, y3, y4, rfl, rfl, hi, hall, hup, he⟩
  unfold S_del_check_l1
  refine xifD (fun hlt => ?_) fun hge => ?_
  · have hil : i < l.length := by omega
    refine xj (fun vs w' => ∃ (e' : Nat) (y1 y2 y3 y4 : Value), vs = [y1, y2, y3, y4, .int .i64 (e' : Nat)] ∧ l[i].2 ≠ .nil ∧
      ((e' = 0 ∧ ∀ m (hm : m + 1 < l.length), m + 1 < i + 1 → l[m].1.toNat < l[m + 1].1.toNat) ∨ (e' = 12 ∧ ∃ m, ∃ hm : m + 1 < l.length, ¬ l[m].1.toNat < l[m + 1].1.toNat)) ∧ Ext No w w') ?_ ?_
    · refine (h.extN he).rd i hil fun b w2 hb he2 => ?_
      refine hb.ld (o := 1) (v := l[i].2.v) rfl ?_
      have hE2 := he.transN he2
      refine xpeq_any (fun hn => ?_) fun hn => ?_
      · exact xifT rfl ⟨1, rfl, .inl ⟨rfl, l[i], List.getElem_mem hil, hn⟩, hE2⟩
      refine xifF rfl ?_
      have hd := Ext.drew (Ext.refl No w2)
      refine xj (fun vs w' => ∃ q : Bool, vs = [.bool q] ∧ (q = true → ∃ m, ∃ hm : m + 1 < l.length, ¬ l[m].1.toNat < l[m + 1].1.toNat) ∧ (q = false → ∀ hm : i - 1 + 1 < l.length, 0 < i → l[i - 1].1.toNat < l[i - 1 + 1].1.toNat) ∧ w' = w2.drew) ?_ ?_
      · refine xifD (fun h0 => ?_) fun h0 => ⟨false, rfl, (fun h => by cases h), fun _ hm hi0 => absurd hi0 (by omega), rfl⟩
        refine xi (r := ((i - 1 : Nat) : Int)) (by rw [wrapI (by omega)]; omega) ?_
        obtain ⟨cells, h1, h2⟩ := (h.extN hE2).extN hd
        refine h1.rdF (i - 1) rfl (by omega) (by omega) ((h2 (i - 1) l[i - 1] (List.getElem?_eq_getElem (by omega))).1) ?_
        refine hb.drew.ld (o := 0) (v := bv l[i].1) rfl ?_
        have hidx : i - 1 + 1 = i := by omega
        have hget : ∀ hm : i - 1 + 1 < l.length, l[i - 1 + 1] = l[i] := fun hm => by simp only [hidx]
        refine ⟨_, rfl, fun hq => ⟨i - 1, by omega, ?_⟩, fun hq hm _ => ?_, rfl⟩
        · rw [hget]
          have := of_decide_eq_true hq
          omega
        · rw [hget]
          have := of_decide_eq_false hq
          omega
      · rintro vs g w3 ⟨q, rfl, hq1, hq2, rfl⟩
        cases q with
        | true => exact xifT rfl ⟨12, _, _, _, _, rfl, hn, .inr ⟨rfl, hq1 rfl⟩, hE2.transN hd⟩
        | false =>
          refine xifF rfl ⟨e, _, _, _, _, rfl, hn, ?_, hE2.transN hd⟩
          rcases hup with ⟨h0, h1⟩ | h1
          · refine .inl ⟨h0, fun m hm hmi => ?_⟩
            by_cases e' : m + 1 = i
            · subst e'
              exact hq2 rfl hm (by omega)
            · exact h1 m hm (by omega)
          · exact .inr h1
    rintro vs g w3 ⟨e', z1, z2, z3, z4, rfl, hn, hup', hE3⟩
    refine xi (r := ((i + 1 : Nat) : Int)) (by rw [wrapI (by omega)]; omega) ?_
    refine xnext (l.length - (i + 1)) (by omega) ⟨i + 1, e', _, _, _, _, rfl, rfl, by omega, fun p hp => ?_, hup', hE3⟩
    rw [← List.take_append_getElem hil] at hp
    rcases List.mem_append.1 hp with hp | hp
    · exact hall p hp
    · rw [List.mem_singleton.1 hp]; exact hn
  · have : i = l.length := by omega
    subst this
    rw [List.take_length] at hall
    refine ⟨e, rfl, ?_, he⟩
    rcases hup with ⟨h0, h1⟩ | ⟨h0, m, hm, h1⟩
    · exact .inr (.inr ⟨h0, hall, upK_iff.2 fun i hi => h1 i hi (by omega)⟩)
    · exact .inr (.inl ⟨h0, hall, fun h => h1 (upK_iff.1 h m hm)⟩)
/-- what is refused, and why -/
def Why (t : T) (l : List (UInt8 × T)) (o e : Nat) : Prop := (e = 1 ∧ (o = 0 ∨ ∃ p ∈ l, p.2 = .nil)) ∨ (e = 2 ∧ o ≠ 0 ∧ (∀ p ∈ l, p.2 ≠ .nil) ∧ t = .nil) ∨
  (e = 9 ∧ o ≠ 0 ∧ (∀ p ∈ l, p.2 ≠ .nil) ∧ t ≠ .nil ∧ t.kind = 1) ∨ (e = 12 ∧ o ≠ 0 ∧ (∀ p ∈ l, p.2 ≠ .nil) ∧ t ≠ .nil ∧ t.kind ≠ 1 ∧ ¬ UpK l) ∨ (e = 0 ∧ o ≠ 0 ∧ (∀ p ∈ l, p.2 ≠ .nil) ∧ t ≠ .nil ∧ t.kind ≠ 1 ∧ UpK l)
theorem c_mayW (ht : Tree w t) (h : RK w v l) (hl : l.length ≤ 1000) : Ret P n_del_may [t.v, v, .int .u64 o] w fun r w' => ∃ e, r = .int .i64 (e : Nat) ∧ Why t l o e ∧ Ext No w w' := by
  refine W_del_may ?_
  refine (c_chk h hl).mono ?_
  rintro _ w1 ⟨e, rfl, hc, he⟩
  refine xj (fun vs w' => ∃ q : Bool, vs = [.bool q] ∧ (q = true ↔ o = 0 ∨ e = 1) ∧ w1 = w') ?_ ?_
  · refine xifE (fun h0 => ⟨true, rfl, ⟨fun _ => .inl (by omega), fun _ => rfl⟩, rfl⟩) fun h0 => ?_
    refine ⟨_, rfl, ?_, rfl⟩
    rw [beq_iff_eq]
    constructor
    · intro h; exact .inr (by omega)
    · rintro (h | h)
      · exact absurd (by omega) h0
      · omega
  rintro vs g w2 ⟨q, rfl, hq, rfl⟩
  cases q with
  | true =>
    refine xifT rfl ⟨1, rfl, .inl ⟨rfl, ?_⟩, he⟩
    rcases hq.1 rfl with h0 | h0
    · exact .inl h0
    · rcases hc with ⟨-, h1⟩ | ⟨h1, -⟩ | ⟨h1, -⟩
      · exact .inr h1
      · omega
      · omega
  | false =>
    have hno : ¬ (o = 0 ∨ e = 1) := fun h => by have := hq.2 h; cases this
    have hn : ∀ p ∈ l, p.2 ≠ .nil := by
      rcases hc with ⟨h1, -⟩ | ⟨-, h1, -⟩ | ⟨-, h1, -⟩
      · exact absurd (.inr h1) hno
      · exact h1
      · exact h1
    refine xifF rfl ?_
    refine xpeq_any (fun hn' => ?_) fun hn' => ?_
    · exact xifT rfl ⟨2, rfl, .inr (.inl ⟨rfl, by omega, hn, hn'⟩), he⟩
    refine xifF rfl ?_
    refine (c_Kind (ht.extN he)).mono ?_
    rintro _ w3 ⟨rfl, rfl⟩
    refine xifE (fun h1 => ⟨9, rfl, .inr (.inr (.inl ⟨rfl, by omega, hn, hn', by omega⟩)), he⟩) fun h1 => ⟨e, rfl, ?_, he⟩
    rcases hc with ⟨h1, -⟩ | ⟨h2, -, h3⟩ | ⟨h2, -, h3⟩
    · exact absurd (.inr h1) hno
    · exact .inr (.inr (.inr (.inl ⟨h2, by omega, hn, hn', by omega, h3⟩)))
    · exact .inr (.inr (.inr (.inr ⟨h2, by omega, hn, hn', by omega, h3⟩)))
theorem c_LeftNo {b x m : Value} (ht : Tree w t) (h : RK w v l) (hl : l.length ≤ 1000) (hno : ¬ Why t l o 0) : Ret P n_del_Left [t.v, b, x, v, .int .u64 o, m] w fun r w' => ∃ e, r = .tuple #[.pointer none, .int .i64 (e : Nat)] ∧ Why t l o e ∧ Ext No w w' := by
  refine W_del_Left ?_
  refine (c_mayW ht h hl).mono ?_
  rintro _ w1 ⟨e, rfl, hw, he⟩
  have : e ≠ 0 := fun h => hno (h ▸ hw)
  refine xifN (fun _ => ⟨e, rfl, hw, he⟩) fun h => absurd (by omega) this
end
end Go.Proofs.YthnegkjhciakpaaGreatDoor
