/-  pairs in memory: a row that the call itself made is written.  -/
import Derived.Test.YtbleadagnpckbaaGreatDoorPs
import Derived.Test.YtbleadagnpckbaaGreatDoorNode
namespace Go.Proofs.YtbleadagnpckbaaGreatDoor
open Go Go.RowKit X
set_option linter.unusedSimpArgs false
set_option linter.unusedVariables false
set_option linter.unusedSectionVars false
section
variable {P : Program} {w : World} {B : Nat} {e : TypeId} {sz n : Nat} {v : Value} {xs : List Value}
/-- a slice of the call's own with an element has a block -/
theorem Own.blk (h : Own w B e sz v n xs) (hn : 0 < n) : ∃ g cap cur, v = .slice (some ⟨g, 0, none⟩) n cap ∧ B ≤ g ∧ Blk w g cur e ∧ n ≤ cap ∧ cap ≤ maxLen ∧ cur.length = cap * sz ∧ cur.take (n * sz) = xs := by
  rcases h.2 with ⟨-, h0⟩ | ⟨g, cap, cur, rfl, h1, h2, h3, h4, h5, h6⟩
  · omega
  · exact ⟨g, cap, cur.toList, rfl, h1, ⟨h2⟩, h3, h4, by simpa using h5, h6⟩
theorem Own.of {g cap : Nat} {cur : List Value} (h1 : B ≤ g) (h2 : Blk w g cur e) (h3 : n ≤ cap) (h4 : cap ≤ maxLen) (h5 : cur.length = cap * sz) (h6 : cur.take (n * sz) = xs) (h7 : xs.length = n * sz) : Own w B e sz (.slice (some ⟨g, 0, none⟩) n cap) n xs :=
  ⟨h7, .inr ⟨g, cap, cur.toArray, rfl, h1, h2.h, h3, h4, by simpa using h5, by simpa using h6⟩⟩
/-- a cell of an element is written -/
theorem Own.st {K : World → Prop} {kd : IntKind} {i : Int} {x : Value} (h : Own w B e sz v n xs) (m o : Nat) (hi : i = (m : Int)) (hm : m < n) (ho : o < sz) (hx : x.oneCell' = true)
    (k : ∀ w1, Own w1 B e sz v n (xs.set (m * sz + o) x) → w1.heap.size = w.heap.size → Ext (fun b => v.ownBlock = some b) w w1 → K w1) :
    xIxS v (.int kd i) sz fun u => xFld u o fun p => xAt p fun a => XSt w a x K := by
  obtain ⟨g, cap, cur, rfl, h1, h2, h3, h4, h5, h6⟩ := Own.blk h (Nat.lt_of_le_of_lt (Nat.zero_le m) hm)
  have hle : (m + 1) * sz ≤ n * sz := Nat.mul_le_mul_right sz hm
  rw [Nat.succ_mul] at hle
  have hle2 : n * sz ≤ cap * sz := Nat.mul_le_mul_right sz h3
  refine ⟨m, hi, hm, ?_⟩
  show XSt w (((⟨g, 0, none⟩ : Addr).add (m * sz)).add o) x K
  rw [Addr.add_lit, Addr.add_lit, Nat.zero_add]
  refine h2.st (by omega) hx fun w1 hb1 hz1 he1 => k w1 (Own.of h1 hb1 h3 h4 (by simp [h5]) ?_ (by simp [h.1])) hz1 (he1.mono fun b _ e => by rw [e]; rfl)
  rw [List.take_set, h6]
/-- a whole element is written -/
theorem Own.stN {K : World → Prop} {kd : IntKind} {i : Int} {t : TypeId} {vs : List Value} (h : Own w B e sz v n xs) (m : Nat) (hi : i = (m : Int)) (hm : m < n) (hv : vs.length = sz) (ht : (P.info? t).map (·.size) = some vs.length) (hx : ∀ x ∈ vs, x.oneCell' = true)
    (k : ∀ w1, Own w1 B e sz v n (xs.take (m * sz) ++ vs ++ xs.drop (m * sz + sz)) → w1.heap.size = w.heap.size → Ext (fun b => v.ownBlock = some b) w w1 → K w1) :
    xIxS v (.int kd i) sz fun u => xAt u fun a => XDo P (storeVar t a (.agg vs.toArray)) w K := by
  obtain ⟨g, cap, cur, rfl, h1, h2, h3, h4, h5, h6⟩ := Own.blk h (Nat.lt_of_le_of_lt (Nat.zero_le m) hm)
  have hle : (m + 1) * sz ≤ n * sz := Nat.mul_le_mul_right sz hm
  rw [Nat.succ_mul] at hle
  have hle2 : n * sz ≤ cap * sz := Nat.mul_le_mul_right sz h3
  have hxl := h.1
  refine ⟨m, hi, hm, ?_⟩
  show XDo P (storeVar t ((⟨g, 0, none⟩ : Addr).add (m * sz)) _) w K
  rw [Addr.add_lit, Nat.zero_add]
  refine xstoreVar h2 ht (by omega) hx fun w1 hb1 hz1 he1 => k w1 (Own.of h1 hb1 h3 h4 (by simp; omega) ?_ (by simp; omega)) hz1 (he1.mono fun b _ e => by rw [e]; rfl)
  subst h6
  rw [hv]
  apply List.ext_getElem?
  intro i
  have hl1 : (cur.take (m * sz)).length = m * sz := by simp; omega
  have hl2 : ((cur.take (n * sz)).take (m * sz)).length = m * sz := by simp; omega
  rw [List.getElem?_take]
  rcases Nat.lt_or_ge i (m * sz) with c1 | c1
  · rw [if_pos (by omega), List.append_assoc, List.append_assoc, List.getElem?_append_left (by omega), List.getElem?_append_left (by omega), List.getElem?_take, if_pos c1, List.getElem?_take, if_pos c1, List.getElem?_take, if_pos (by omega)]
  · rcases Nat.lt_or_ge i (m * sz + sz) with c2 | c2
    · have e3 : ∀ (A D : List Value), A.length = m * sz → (A ++ vs ++ D)[i]? = vs[i - m * sz]? := fun A D hA => by
        rw [List.getElem?_append_left (by simp; omega), List.getElem?_append_right (by omega), hA]
      rw [if_pos (by omega), e3 _ _ hl1, e3 _ _ hl2]
    · have e3 : ∀ (A D : List Value), A.length = m * sz → (A ++ vs ++ D)[i]? = D[i - (m * sz + sz)]? := fun A D hA => by
        rw [List.getElem?_append_right (by simp; omega), List.length_append, hA, hv]
      rw [e3 _ _ hl1, e3 _ _ hl2, List.getElem?_drop, List.getElem?_drop, List.getElem?_take, show m * sz + sz + (i - (m * sz + sz)) = i by omega]
end
variable [Floor]
/-- a row of pairs that the call itself made; its keys lie in the world w0 from which it began -/
def SO (w0 w : World) (T : TypeId) (v : Value) (l : Kv) : Prop := ∃ cells, Own w w0.heap.size T 2 v l.length cells ∧ PC w0 l cells
section
variable {w0 w : World} {T : TypeId} {v : Value} {l : Kv}
theorem SO.nil (w0 w : World) (T : TypeId) : SO w0 w T (.slice none 0 0) [] := ⟨[], Own.nil w _ T 2, PC.nil w0⟩
theorem SO.pso (h : SO w0 w T v l) (he : Ext No w0 w) : PsO w w0.heap.size T v l := let ⟨cells, h1, h2⟩ := h; ⟨cells, h1, h2.extN he⟩
theorem SO.ps (h : SO w0 w T v l) (he : Ext No w0 w) (hT : PT T) : Ps w v l := (h.pso he).ps hT
theorem SO.extN {w' : World} (h : SO w0 w T v l) (he : Ext No w w') : SO w0 w' T v l := let ⟨cells, h1, h2⟩ := h; ⟨cells, h1.extN he, h2⟩
theorem SO.ext {w' : World} {X : Nat → Prop} (h : SO w0 w T v l) (he : Ext X w w') (hx : ∀ b, v.ownBlock = some b → ¬ X b) : SO w0 w' T v l := let ⟨cells, h1, h2⟩ := h; ⟨cells, h1.ext he hx, h2⟩
theorem SO.own (h : SO w0 w T v l) (he : Ext No w0 w) {w' : World} (k : Ext (fun b => v.ownBlock = some b) w w') : Ext No w0 w' := let ⟨cells, h1, h2⟩ := h; he.own h1 (Nat.le_refl _) k
/-- a value is written -/
theorem SO.stV {K : World → Prop} {kd : IntKind} {i : Int} {n : Nat} (h : SO w0 w T v l) (m : Nat) (hi : i = (m : Int)) (hm : m < l.length) (hn : n < 18446744073709551616)
    (k : ∀ w1, SO w0 w1 T v (l.set m (l[m].1, n)) → Ext (fun b => v.ownBlock = some b) w w1 → K w1) : xIxS v (.int kd i) 2 fun u => xFld u 1 fun p => xAt p fun a => XSt w a (u64 n) K := by
  obtain ⟨cells, h1, h2⟩ := h
  refine Own.st h1 m 1 hi hm (by omega) rfl fun w1 ho hz he => k w1 ⟨_, ?_, h2.setV (List.getElem?_eq_getElem hm) hn⟩ he
  rw [List.length_set]; exact ho
/-- a key is written -/
theorem SO.stK {K : World → Prop} {kd : IntKind} {i : Int} {q : Key} {kv : Value} (h : SO w0 w T v l) (m : Nat) (hi : i = (m : Int)) (hm : m < l.length) (hk : Bs w0 kv q)
    (k : ∀ w1, SO w0 w1 T v (l.set m (q, l[m].2)) → Ext (fun b => v.ownBlock = some b) w w1 → K w1) : xIxS v (.int kd i) 2 fun u => xFld u 0 fun p => xAt p fun a => XSt w a kv K := by
  obtain ⟨cells, h1, h2⟩ := h
  refine Own.st h1 m 0 hi hm (by omega) hk.one1 fun w1 ho hz he => k w1 ⟨_, ?_, h2.setK (List.getElem?_eq_getElem hm) hk⟩ he
  rw [List.length_set]; exact ho
theorem set_two {cs : List Value} {m : Nat} {x y : Value} (h : m * 2 + 2 ≤ cs.length) : cs.take (m * 2) ++ [x, y] ++ cs.drop (m * 2 + 2) = (cs.set (m * 2) x).set (m * 2 + 1) y := by
  rw [List.set_eq_take_append_cons_drop, if_pos (by simp; omega), List.take_set, List.drop_set_of_lt (by omega), List.set_eq_take_append_cons_drop, if_pos (by simp; omega)]
  simp only [List.take_take, List.drop_take]
  rw [show min (m * 2) (m * 2 + 1) = m * 2 by omega, show m * 2 + 1 - (m * 2 + 1) = 0 by omega]
  simp
/-- a pair is written -/
theorem SO.stP {K : World → Prop} {kd : IntKind} {i : Int} {q : Key} {n : Nat} {kv : Value} {t : TypeId} (h : SO w0 w T v l) (m : Nat) (hi : i = (m : Int)) (hm : m < l.length) (hk : Bs w0 kv q) (hn : n < 18446744073709551616) (ht : (P.info? t).map (·.size) = some 2)
    (k : ∀ w1, SO w0 w1 T v (l.set m (q, n)) → Ext (fun b => v.ownBlock = some b) w w1 → K w1) : xIxS v (.int kd i) 2 fun u => xAt u fun a => XDo P (storeVar t a (.agg #[kv, u64 n])) w K := by
  obtain ⟨cells, h1, h2⟩ := h
  refine Own.stN h1 (vs := [kv, u64 n]) m hi hm rfl ht (fun x hx => by simp only [List.mem_cons, List.mem_nil_iff, or_false] at hx; exact hx.elim (fun e => e ▸ hk.one1) fun e => e ▸ rfl) fun w1 ho hz he => k w1 ⟨_, ?_, h2.set (i := m) hk hn⟩ he
  rw [List.length_set]
  rw [set_two (by rw [h2.len]; omega)] at ho
  exact ho
/-- pairs are appended -/
theorem SO.app {K : Value → World → Prop} {t ty : TypeId} {x : Value} {m : Kv} {ys : List Value} {Q : Nat → TypeId → Prop} (hT : EI P t T 2 32 (.agg #[.slice none 0 0, .int .u64 0])) (h : SO w0 w T v l) (he : Ext No w0 w) (hx : Sl w Q x 2 m.length ys) (hm : PC w0 m ys) (hn : l.length + m.length ≤ 1099511627776)
    (k : ∀ v' w', SO w0 w' T v' (l ++ m) → Ext No w0 w' → (∀ b, v'.ownBlock = some b → v.ownBlock = some b ∨ w.heap.size ≤ b) → Ext (fun b => v.ownBlock = some b) w w' → K v' w') : XRun P (Builtin.append_ #[t, t] ty #[v, x]) w K := by
  obtain ⟨cells, h1, h2⟩ := h
  refine app_own hT h1 he.size hx hm.one (by omega) (by omega) fun v' w' ho hE _ hb => k v' w' ⟨_, ?_, h2.app hm⟩ (he.own h1 (Nat.le_refl _) hE) hb hE
  rw [List.length_append]; exact ho
end
end Go.Proofs.YtbleadagnpckbaaGreatDoor
