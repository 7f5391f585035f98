/-  scripts: what an operation is, its line and its words: the plain part, and the forms.  -/
import Derived.Test.YtbfnagdpanfphaaGreatDoorSs
import Derived.Test.YtbfnagdpanfphaaGreatDoorCs
import Derived.Test.YtbfnagdpanfphaaGreatDoorSAlaw36
section
namespace Go.Proofs.YtbfnagdpanfphaaGreatDoor
open Go Go.RowKit X
set_option linter.unusedSimpArgs false
set_option linter.unusedVariables false
set_option linter.unusedSectionVars false
def formsL : List (List UInt8) := [[101, 109, 112, 116, 121], [102, 114, 111, 109, 32, 112], [112, 117, 116, 32, 97, 107, 118], [100, 101, 108, 32, 97, 107], [103, 101, 116, 32, 97, 107], [108, 101, 110, 32, 97], [108, 105, 115, 116, 32, 97], [110, 101, 97, 114, 32, 97, 110, 107], [112, 97, 114, 116, 32, 97, 110, 107], [101, 100, 105, 116, 32, 97], [119, 114, 105, 116, 101, 32, 97, 107, 118], [101, 114, 97, 115, 101, 32, 97, 107], [108, 111, 97, 100, 32, 97, 112], [102, 114, 101, 101, 122, 101, 32, 97], [111, 112, 101, 110, 32, 97, 107, 116], [109, 111, 118, 101, 32, 97, 110, 107], [97, 116, 32, 97], [115, 99, 97, 110, 32, 97, 107, 116, 110, 102], [117, 110, 105, 111, 110, 32, 97, 98, 110], [105, 110, 116, 101, 114, 32, 97, 98, 110], [100, 105, 102, 102, 32, 97, 98, 110], [99, 117, 116, 32, 97, 107, 116, 110], [115, 112, 108, 105, 116, 32, 97, 107], [115, 97, 109, 101, 32, 97, 98], [100, 101, 108, 116, 97, 32, 97, 98], [97, 112, 112, 108, 121, 32, 97, 99], [101, 110, 99, 111, 100, 101, 32, 97], [100, 101, 99, 111, 100, 101, 32, 120], [115, 104, 97, 112, 101, 32, 97], [107, 105, 110, 100, 32, 97], [100, 114, 111, 112, 32, 97], [99, 111, 117, 110, 116, 32, 97, 107, 116]]
def namesL : List (List UInt8) := [[101, 109, 112, 116, 121], [102, 114, 111, 109], [112, 117, 116], [100, 101, 108], [103, 101, 116], [108, 101, 110], [108, 105, 115, 116], [110, 101, 97, 114], [112, 97, 114, 116], [101, 100, 105, 116], [119, 114, 105, 116, 101], [101, 114, 97, 115, 101], [108, 111, 97, 100], [102, 114, 101, 101, 122, 101], [111, 112, 101, 110], [109, 111, 118, 101], [97, 116], [115, 99, 97, 110], [117, 110, 105, 111, 110], [105, 110, 116, 101, 114], [100, 105, 102, 102], [99, 117, 116], [115, 112, 108, 105, 116], [115, 97, 109, 101], [100, 101, 108, 116, 97], [97, 112, 112, 108, 121], [101, 110, 99, 111, 100, 101], [100, 101, 99, 111, 100, 101], [115, 104, 97, 112, 101], [107, 105, 110, 100], [100, 114, 111, 112], [99, 111, 117, 110, 116]]
def signsL : List (List UInt8) := [[], [112], [97, 107, 118], [97, 107], [97, 107], [97], [97], [97, 110, 107], [97, 110, 107], [97], [97, 107, 118], [97, 107], [97, 112], [97], [97, 107, 116], [97, 110, 107], [97], [97, 107, 116, 110, 102], [97, 98, 110], [97, 98, 110], [97, 98, 110], [97, 107, 116, 110], [97, 107], [97, 98], [97, 98], [97, 99], [97], [120], [97], [97], [97], [97, 107, 116]]
def inK (n : Int) : Bool := decide (1 ≤ n) && decide (n ≤ 32)
def nameK (n : Int) : List UInt8 := if inK n then namesL.getD (n - 1).toNat [] else []
def signsK (n : Int) : List UInt8 := if inK n then signsL.getD (n - 1).toNat [] else []
theorem forms_at : ∀ i : Fin 32, formsL[i.1]? = some (if signsL.getD i.1 [] = [] then namesL.getD i.1 [] else namesL.getD i.1 [] ++ 32 :: signsL.getD i.1 []) ∧ (32 : UInt8) ∉ namesL.getD i.1 [] ∧ (namesL.getD i.1 []).length ≤ 10 ∧ (signsL.getD i.1 []).length ≤ 5 ∧ namesL.getD i.1 [] ≠ [] ∧ namesL[i.1]? = some (namesL.getD i.1 []) ∧ signsL[i.1]? = some (signsL.getD i.1 []) := by decide +kernel
theorem names_inj : ∀ i j : Fin 32, namesL.getD i.1 [] = namesL.getD j.1 [] → i = j := by decide +kernel
theorem signs_small : ∀ i : Fin 32, ∀ c ∈ signsL.getD i.1 [], c.toNat < 128 ∧ c ∈ ([97, 98, 110, 107, 116, 118, 102, 112, 99, 120] : List UInt8) := by decide +kernel
theorem signs_nodup : ∀ i : Fin 32, (signsL.getD i.1 []).Nodup := by decide +kernel
theorem inK_fin {n : Int} (h : inK n = true) : ∃ i : Fin 32, n = ((i.1 + 1 : Nat) : Int) := by
  unfold inK at h
  simp at h
  exact ⟨⟨(n - 1).toNat, by omega⟩, by show n = (((n - 1).toNat + 1 : Nat) : Int); omega⟩
theorem nameK_at (i : Fin 32) : nameK ((i.1 + 1 : Nat) : Int) = namesL.getD i.1 [] := by
  unfold nameK inK
  rw [if_pos (by have := i.2; simp; omega)]
  congr 1
  omega
theorem signsK_at (i : Fin 32) : signsK ((i.1 + 1 : Nat) : Int) = signsL.getD i.1 [] := by
  unfold signsK inK
  rw [if_pos (by have := i.2; simp; omega)]
  congr 1
  omega
theorem nameK_nil {n : Int} : nameK n = [] ↔ inK n = false := by
  constructor
  · intro h
    cases e : inK n
    · rfl
    · obtain ⟨i, rfl⟩ := inK_fin e
      rw [nameK_at] at h
      exact absurd h (forms_at i).2.2.2.2.1
  · intro h
    unfold nameK
    rw [h]; rfl
theorem signsK_out {n : Int} (h : inK n = false) : signsK n = [] := by unfold signsK; rw [h]; rfl
theorem nameK_len (n : Int) : (nameK n).length ≤ 10 := by
  cases e : inK n
  · rw [nameK_nil.2 e]; simp
  · obtain ⟨i, rfl⟩ := inK_fin e
    rw [nameK_at]; exact (forms_at i).2.2.1
theorem signsK_len (n : Int) : (signsK n).length ≤ 5 := by
  cases e : inK n
  · rw [signsK_out e]; simp
  · obtain ⟨i, rfl⟩ := inK_fin e
    rw [signsK_at]; exact (forms_at i).2.2.2.1
theorem signsK_small {n : Int} {c : UInt8} (h : c ∈ signsK n) : c.toNat < 128 ∧ c ∈ ([97, 98, 110, 107, 116, 118, 102, 112, 99, 120] : List UInt8) := by
  cases e : inK n
  · rw [signsK_out e] at h; cases h
  · obtain ⟨i, rfl⟩ := inK_fin e
    rw [signsK_at] at h; exact signs_small i c h
/-! ### words -/
def numK (n : Int) : List UInt8 := if n < 0 then 45 :: decK (-n).toNat else decK n.toNat
def tellN (n : Int) : List UInt8 × Nat := if 999999999 < n ∨ n < -999999999 then ([], 8) else (numK n, 0)
def keyW (k : Key) : List UInt8 := if k = [] then [45] else hexK k
def tellK (k : Key) : List UInt8 × Nat := if 65535 < k.length then ([], 8) else (keyW k, 0)
def pairW (p : Key × Nat) : List UInt8 := keyW p.1 ++ (61 :: decK p.2)
def tellPs (l : Kv) : List UInt8 := if l = [] then [45] else joinC 44 (l.map pairW)
def chgE (c : Chg) : Nat := if c.kind < 1 ∨ 3 < c.kind then 9 else if c.kind = 1 ∧ c.was ≠ 0 ∨ c.kind = 2 ∧ c.is ≠ 0 then 3 else 0
def chgW (c : Chg) : List UInt8 := if c.kind = 1 then 43 :: (keyW c.key ++ (61 :: decK c.is)) else if c.kind = 2 then 45 :: (keyW c.key ++ (61 :: decK c.was)) else 126 :: (keyW c.key ++ (61 :: (decK c.was ++ (62 :: decK c.is))))
def chsE : List Chg → Nat
  | [] => 0
  | c :: r => if chgE c = 0 then chsE r else chgE c
def tellCs (l : List Chg) : List UInt8 × Nat := if chsE l = 0 then (if l = [] then [45] else joinC 44 (l.map chgW), 0) else ([], chsE l)
theorem chsE_at {l : List Chg} {i : Nat} (hi : i < l.length) (h : ∀ c ∈ l.take i, chgE c = 0) (h1 : chgE l[i] ≠ 0) : chsE l = chgE l[i] := by
  induction l generalizing i with
  | nil => simp at hi
  | cons c r ih =>
    cases i with
    | zero => exact if_neg h1
    | succ i =>
      rw [chsE, if_pos (h c (by simp))]
      exact ih (by simpa using hi) (fun x hx => h x (by simp [hx])) h1
theorem chsE_all {l : List Chg} (h : ∀ c ∈ l, chgE c = 0) : chsE l = 0 := by
  induction l with
  | nil => rfl
  | cons c r ih => rw [chsE, if_pos (h c (by simp))]; exact ih fun x hx => h x (by simp [hx])
theorem chsE_zero {l : List Chg} (h : chsE l = 0) : ∀ c ∈ l, chgE c = 0 := by
  induction l with
  | nil => simp
  | cons c r ih =>
    rw [chsE] at h
    split at h
    · rename_i h1
      intro x hx
      rcases List.mem_cons.1 hx with rfl | hx
      · exact h1
      · exact ih h x hx
    · rename_i h1; exact absurd h h1
/-- an operation -/
structure OpV where
  do_ : Int
  a : Int
  b : Int
  key : Key
  to : Key
  opn : Bool
  val : Nat
  n : Int
  falls : Bool
  prs : Kv
  chg : List Chg
  bytes : Key
def OpV.zero : OpV := ⟨0, 0, 0, [], [], false, 0, 0, false, [], [], []⟩
def tellW (o : OpV) (s : UInt8) : List UInt8 × Nat :=
  if s = 97 then tellN o.a else if s = 98 then tellN o.b else if s = 110 then tellN o.n else if s = 107 then tellK o.key
  else if s = 116 then (if o.opn then ([42], 0) else tellK o.to) else if s = 118 then (decK o.val, 0)
  else if s = 102 then (if o.falls then [100, 111, 119, 110] else [117, 112], 0) else if s = 112 then (tellPs o.prs, 0) else if s = 99 then tellCs o.chg
  else tellK o.bytes
def wsE (o : OpV) : List UInt8 → Nat
  | [] => 0
  | s :: r => if (tellW o s).2 = 0 then wsE o r else (tellW o s).2
def lineK (o : OpV) : List UInt8 := joinC 32 (nameK o.do_ :: (signsK o.do_).map fun s => (tellW o s).1)
def textK (o : OpV) : List UInt8 × Nat := if nameK o.do_ = [] then ([], 1) else if wsE o (signsK o.do_) = 0 then (lineK o, 0) else ([], wsE o (signsK o.do_))
theorem wsE_at {o : OpV} {l : List UInt8} {i : Nat} (hi : i < l.length) (h : ∀ c ∈ l.take i, (tellW o c).2 = 0) (h1 : (tellW o l[i]).2 ≠ 0) : wsE o l = (tellW o l[i]).2 := by
  induction l generalizing i with
  | nil => simp at hi
  | cons c r ih =>
    cases i with
    | zero => exact if_neg h1
    | succ i =>
      rw [wsE, if_pos (h c (by simp))]
      exact ih (by simpa using hi) (fun x hx => h x (by simp [hx])) h1
theorem wsE_all {o : OpV} {l : List UInt8} (h : ∀ c ∈ l, (tellW o c).2 = 0) : wsE o l = 0 := by
  induction l with
  | nil => rfl
  | cons c r ih => rw [wsE, if_pos (h c (by simp))]; exact ih fun x hx => h x (by simp [hx])
/-- what is kept of an operation by its form -/
def bareK (o : OpV) : OpV :=
  let l := signsK o.do_
  if nameK o.do_ = [] then .zero else
  { do_ := o.do_
    a := if 97 ∈ l then o.a else 0
    b := if 98 ∈ l then o.b else 0
    key := if 107 ∈ l then o.key else []
    to := if 116 ∈ l ∧ o.opn = false then o.to else []
    opn := if 116 ∈ l then o.opn else false
    val := if 118 ∈ l then o.val else 0
    n := if 110 ∈ l then o.n else 0
    falls := if 102 ∈ l then o.falls else false
    prs := if 112 ∈ l then o.prs else []
    chg := if 99 ∈ l then o.chg else []
    bytes := if 120 ∈ l then o.bytes else [] }
abbrev I64 (x : Int) : Prop := -9223372036854775808 ≤ x ∧ x ≤ 9223372036854775807
/-- not too much -/
structure OpV.Near (o : OpV) : Prop where
  do_ : I64 o.do_
  a : I64 o.a
  b : I64 o.b
  n : I64 o.n
  val : o.val < 18446744073709551616
  key : o.key.length ≤ 66000
  to : o.to.length ≤ 66000
  bytes : o.bytes.length ≤ 66000
  prs : o.prs.length ≤ 60
  chg : o.chg.length ≤ 60
  pk : ∀ p ∈ o.prs, p.1.length ≤ 300
  ck : ∀ c ∈ o.chg, c.key.length ≤ 300
  kinds : ∀ c ∈ o.chg, I64 c.kind
  v64 : ∀ p ∈ o.prs, p.2 < 18446744073709551616
  c64 : ∀ c ∈ o.chg, c.ok
theorem keyW_len {k : Key} {n : Nat} (h : k.length ≤ n) : (keyW k).length ≤ 2 * n + 1 := by
  unfold keyW
  split
  · simp
  · rw [hexK_length]; omega
theorem pairW_len {p : Key × Nat} (h : p.1.length ≤ 300) (h1 : p.2 < 18446744073709551616) : (pairW p).length ≤ 700 := by
  unfold pairW
  have := keyW_len h
  have := decK_len' p.2 h1
  simp; omega
theorem chgW_len {c : Chg} (h : c.key.length ≤ 300) (h1 : c.ok) : (chgW c).length ≤ 700 := by
  unfold chgW
  have := keyW_len h
  have := decK_len' c.was h1.1
  have := decK_len' c.is h1.2
  split
  · simp; omega
  · split
    · simp; omega
    · simp; omega
theorem joinC_len {c : UInt8} {n : Nat} : ∀ {ps : List (List UInt8)}, (∀ p ∈ ps, p.length ≤ n) → (joinC c ps).length ≤ ps.length * (n + 1)
  | [], _ => by simp [joinC]
  | [p], h => by have := h p (by simp); simp [joinC]; omega
  | p :: q :: r, h => by
    have h1 := joinC_len (c := c) (ps := q :: r) fun x hx => h x (List.mem_cons_of_mem _ hx)
    have h2 := h p (by simp)
    rw [joinC, List.length_append, List.length_cons, show (p :: q :: r).length = (q :: r).length + 1 from rfl, Nat.succ_mul]
    omega
theorem tellPs_len {l : Kv} (h : l.length ≤ 60) (hk : ∀ p ∈ l, p.1.length ≤ 300) (hv : ∀ p ∈ l, p.2 < 18446744073709551616) : (tellPs l).length ≤ 50000 := by
  unfold tellPs
  split
  · simp
  · have := joinC_len (c := 44) (n := 700) (ps := l.map pairW) fun p hp => by
      obtain ⟨q, hq, rfl⟩ := List.mem_map.1 hp
      exact pairW_len (hk q hq) (hv q hq)
    rw [List.length_map] at this
    omega
theorem tellCs_len {l : List Chg} (h : l.length ≤ 60) (hk : ∀ c ∈ l, c.key.length ≤ 300) (hv : ∀ c ∈ l, c.ok) : (tellCs l).1.length ≤ 50000 := by
  unfold tellCs
  split
  · split
    · simp
    · have := joinC_len (c := 44) (n := 700) (ps := l.map chgW) fun p hp => by
        obtain ⟨q, hq, rfl⟩ := List.mem_map.1 hp
        exact chgW_len (hk q hq) (hv q hq)
      rw [List.length_map] at this
      show (joinC 44 (l.map chgW)).length ≤ _
      omega
  · simp
theorem numK_len {n : Int} (h : I64 n) : (numK n).length ≤ 21 := by
  unfold numK
  split
  · have := decK_len' (-n).toNat (by omega); simp; omega
  · have := decK_len' n.toNat (by omega); omega
theorem tellN_len {n : Int} (h : I64 n) : (tellN n).1.length ≤ 21 := by
  unfold tellN
  split
  · simp
  · exact numK_len h
theorem tellK_len {k : Key} (h : k.length ≤ 66000) : (tellK k).1.length ≤ 132001 := by
  unfold tellK
  split
  · simp
  · exact keyW_len h
theorem tellW_len {o : OpV} (h : o.Near) (s : UInt8) : (tellW o s).1.length ≤ 140000 := by
  unfold tellW
  have h1 := tellN_len h.a
  have h2 := tellN_len h.b
  have h3 := tellN_len h.n
  have h4 := tellK_len h.key
  have h5 := tellK_len h.to
  have h6 := tellK_len h.bytes
  have h7 := decK_len' o.val h.val
  have h8 := tellPs_len h.prs h.pk h.v64
  have h9 := tellCs_len h.chg h.ck h.c64
  repeat' split
  all_goals first | omega | (simp; done) | (simp; omega)
theorem lineK_len {o : OpV} (h : o.Near) : (lineK o).length ≤ 1000000 := by
  have := joinC_len (c := 32) (n := 140000) (ps := nameK o.do_ :: (signsK o.do_).map fun s => (tellW o s).1) fun p hp => by
    rcases List.mem_cons.1 hp with rfl | hp
    · have := nameK_len o.do_; omega
    · obtain ⟨s, -, rfl⟩ := List.mem_map.1 hp
      exact tellW_len h s
  have h1 := signsK_len o.do_
  rw [List.length_cons, List.length_map] at this
  unfold lineK
  omega
variable [Floor]
/-- the cells of an operation -/
def OpC (w : World) (o : OpV) (cs : List Value) : Prop := ∃ kv tv pv cv bv', cs = [.int .i64 o.do_, .int .i64 o.a, .int .i64 o.b, kv, tv, .bool o.opn, u64 o.val, .int .i64 o.n, .bool o.falls, pv, cv, bv'] ∧
  Bs w kv o.key ∧ Bs w tv o.to ∧ Ps w pv o.prs ∧ Cs w cv o.chg ∧ Bs w bv' o.bytes
section
variable {w w' : World} {o : OpV} {cs : List Value}
theorem OpC.extN (h : OpC w o cs) (e : Ext No w w') : OpC w' o cs := by
  obtain ⟨kv, tv, pv, cv, bv', rfl, h1, h2, h3, h4, h5⟩ := h
  exact ⟨_, _, _, _, _, rfl, h1.extN e, h2.extN e, h3.extN e, h4.extN e, h5.extN e⟩
theorem OpC.len (h : OpC w o cs) : cs.length = 12 := by
  obtain ⟨kv, tv, pv, cv, bv', rfl, -⟩ := h; rfl
theorem OpC.one (h : OpC w o cs) : ∀ v ∈ cs, v.oneCell' = true := by
  obtain ⟨kv, tv, pv, cv, bv', rfl, h1, h2, h3, h4, h5⟩ := h
  intro v hv
  simp only [List.mem_cons, List.mem_nil_iff, or_false] at hv
  rcases hv with rfl | rfl | rfl | rfl | rfl | rfl | rfl | rfl | rfl | rfl | rfl | rfl
  all_goals first | rfl | exact h1.one1 | exact h2.one1 | exact h3.one1 | exact h4.one1 | exact h5.one1
theorem OpC.zero (w : World) : OpC w .zero [.int .i64 0, .int .i64 0, .int .i64 0, .slice none 0 0, .slice none 0 0, .bool false, .int .u64 0, .int .i64 0, .bool false, .slice none 0 0, .slice none 0 0, .slice none 0 0] :=
  ⟨_, _, _, _, _, rfl, Bs.nil w, Bs.nil w, Ps.nil w, Cs.nil w, Bs.nil w⟩
/-- a whole struct of twelve cells is stored -/
theorem store12 {t T : TypeId} {g : Nat} {cur : List Value} {K : World → Prop} (hg : Blk w g cur T) (hc : cur.length = 12) (hi : (P.info? t).map (·.size) = some 12) (hl : cs.length = 12) (h1 : ∀ v ∈ cs, v.oneCell' = true)
    (k : ∀ w', Blk w' g cs T → w'.heap.size = w.heap.size → Ext (· = g) w w' → K w') : XDo P (storeVar t ⟨g, 0, none⟩ (.agg cs.toArray)) w K := by
  refine xstoreVar (vs := cs) hg (by rw [hl]; exact hi) (by omega) h1 fun w' hb hz he => k w' ?_ hz he
  have e : cur.take 0 ++ cs ++ cur.drop (0 + cs.length) = cs := by
    rw [List.take_zero, List.nil_append, List.drop_eq_nil_of_le (by omega), List.append_nil]
  rw [e] at hb
  exact hb
/-! ### forms -/
theorem c_forms : Ret P n_script_forms [] w fun r w' => ∃ b, r = .slice (some ⟨b, 0, none⟩) 32 32 ∧ Blk w' b (formsL.map str) T_string ∧ Ext No w w' := by
  refine W_script_forms ?_
  show XNew w (formsL.map str) T_string _
  refine xnew fun b w1 hb hblk hz he => ?_
  exact ⟨b, rfl, hblk, he⟩
theorem ss32 {b : Nat} {l : List (List UInt8)} (h : Blk w b (l.map str) T_string) (hl : l.length = 32) : Ss w (.slice (some ⟨b, 0, none⟩) 32 32) l := by
  have := h.sl (o := 0) (n := 32) (cap := 32) (by simp [hl]) (Nat.le_refl _)
  rw [List.drop_zero, List.take_of_length_le (by simp [hl])] at this
  unfold Ss
  rw [hl]
  exact this
theorem c_form {n : Int} : Ret P n_script_form [.int .i64 n] w fun r w' => r = .tuple #[str (nameK n), str (signsK n)] ∧ Ext No w w' := by
  refine W_script_form ?_
  refine c_forms.mono ?_
  rintro r w1 ⟨b, rfl, hblk, he⟩
  have hs := ss32 hblk rfl
  refine xj (fun vs w' => vs = [.bool (!inK n)] ∧ w' = w1) ?_ ?_
  · refine xifD (fun h => ⟨?c1, rfl⟩) fun h => ⟨?c2, rfl⟩
    case c1 => unfold inK; rw [decide_eq_false (p := 1 ≤ n) (by omega)]; rfl
    · unfold inK; rw [decide_eq_true (p := 1 ≤ n) (by omega)]
      show [Value.bool (decide (n > 32))] = _
      by_cases e : n ≤ 32
      · rw [decide_eq_true e, decide_eq_false (by omega)]; rfl
      · rw [decide_eq_false e, decide_eq_true (by omega)]; rfl
  rintro vs g w2 ⟨rfl, rfl⟩
  cases e : inK n
  · refine xifT rfl ⟨?_, he⟩
    rw [nameK_nil.2 e, signsK_out e]
  · refine xifF rfl ?_
    obtain ⟨i, rfl⟩ := inK_fin e
    obtain ⟨h1, h2, h3, h4, -⟩ := forms_at i
    have hi := i.2
    refine xi (r := (i.1 : Int)) (by rw [wrapI (by omega)]; omega) ?_
    have hil : i.1 < formsL.length := hi
    refine hs.rd i.1 hil rfl ?_
    rw [List.getElem?_eq_getElem hil] at h1
    rw [Option.some.inj h1, nameK_at, signsK_at]
    split
    · rename_i h5
      refine (c_Cut0 h2).mono ?_
      rintro r w3 ⟨rfl, he3⟩
      exact ⟨by rw [h5], he.transN he3⟩
    · refine (c_Cut1 h2 (by omega)).mono ?_
      rintro r w3 ⟨rfl, he3⟩
      exact ⟨rfl, he.transN he3⟩
theorem c_Name {n : Int} : Ret P n_script_Name [.int .i64 n] w fun r w' => r = str (nameK n) ∧ Ext No w w' := by
  refine W_script_Name ?_
  refine c_form.mono ?_
  rintro r w1 ⟨rfl, he⟩
  exact ⟨rfl, he⟩
theorem c_rName {n : Int} : Ret P n_ref36_Name [.int .i64 n] w fun r w' => r = str (nameK n) ∧ Ext No w w' := by
  refine W_ref36_Name ?_
  show XNew w (namesL.map str) T_string _
  refine xnew fun b w1 hb hblk hz he => ?_
  have hs := ss32 hblk rfl
  refine xj (fun vs w' => vs = [.bool (!inK n)] ∧ w' = w1) ?_ ?_
  · refine xifD (fun h => ⟨?c1, rfl⟩) fun h => ⟨?c2, rfl⟩
    case c1 => unfold inK; rw [decide_eq_false (p := 1 ≤ n) (by omega)]; rfl
    · unfold inK; rw [decide_eq_true (p := 1 ≤ n) (by omega)]
      show [Value.bool (decide (n > 32))] = _
      by_cases e : n ≤ 32
      · rw [decide_eq_true e, decide_eq_false (by omega)]; rfl
      · rw [decide_eq_false e, decide_eq_true (by omega)]; rfl
  rintro vs g w2 ⟨rfl, rfl⟩
  cases e : inK n
  · refine xifT rfl ⟨?_, he⟩
    rw [nameK_nil.2 e]
  · refine xifF rfl ?_
    obtain ⟨i, rfl⟩ := inK_fin e
    obtain ⟨-, -, -, -, -, h1, -⟩ := forms_at i
    have hi := i.2
    refine xi (r := (i.1 : Int)) (by rw [wrapI (by omega)]; omega) ?_
    have hil : i.1 < namesL.length := hi
    refine hs.rd i.1 hil rfl ?_
    rw [List.getElem?_eq_getElem hil] at h1
    rw [Option.some.inj h1, nameK_at]
    exact ⟨rfl, he⟩
theorem c_rForm {n : Int} : Ret P n_ref36_Form [.int .i64 n] w fun r w' => r = str (signsK n) ∧ Ext No w w' := by
  refine W_ref36_Form ?_
  show XNew w (signsL.map str) T_string _
  refine xnew fun b w1 hb hblk hz he => ?_
  have hs := ss32 hblk rfl
  refine xj (fun vs w' => vs = [.bool (!inK n)] ∧ w' = w1) ?_ ?_
  · refine xifD (fun h => ⟨?c1, rfl⟩) fun h => ⟨?c2, rfl⟩
    case c1 => unfold inK; rw [decide_eq_false (p := 1 ≤ n) (by omega)]; rfl
    · unfold inK; rw [decide_eq_true (p := 1 ≤ n) (by omega)]
      show [Value.bool (decide (n > 32))] = _
      by_cases e : n ≤ 32
      · rw [decide_eq_true e, decide_eq_false (by omega)]; rfl
      · rw [decide_eq_false e, decide_eq_true (by omega)]; rfl
  rintro vs g w2 ⟨rfl, rfl⟩
  cases e : inK n
  · refine xifT rfl ⟨?_, he⟩
    rw [signsK_out e]
  · refine xifF rfl ?_
    obtain ⟨i, rfl⟩ := inK_fin e
    obtain ⟨-, -, -, -, -, -, h1⟩ := forms_at i
    have hi := i.2
    refine xi (r := (i.1 : Int)) (by rw [wrapI (by omega)]; omega) ?_
    have hil : i.1 < signsL.length := hi
    refine hs.rd i.1 hil rfl ?_
    rw [List.getElem?_eq_getElem hil] at h1
    rw [Option.some.inj h1, signsK_at]
    exact ⟨rfl, he⟩
end
end Go.Proofs.YtbfnagdpanfphaaGreatDoor
end
