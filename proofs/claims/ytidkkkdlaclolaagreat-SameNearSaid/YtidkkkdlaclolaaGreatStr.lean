/-  texts: the Builder; a key as a text.  -/
import Derived.Test.YtidkkkdlaclolaaGreatKeys
import Derived.Test.YtidkkkdlaclolaaGreatMap
import Derived.Lib.Builder
import Derived.Lib.UnsafeStr
import Derived.Lib.AppendStr
import Derived.Test.YtidkkkdlaclolaaGreatRow
import Derived.Test.YtidkkkdlaclolaaGreatNode
section
namespace Go.Proofs.YtidkkkdlaclolaaGreat
open Go Go.RowKit X
set_option linter.unusedSimpArgs false
set_option linter.unusedVariables false
set_option linter.unusedSectionVars false
theorem strCells_str (l : List UInt8) : Lib.strCells ⟨l.toArray⟩ = l.map bv := rfl
section
variable {w : World} {B b : Nat} {bs : List UInt8}
theorem X.Blk.st1 {o : Nat} {cs cs' : List Value} {T : TypeId} {v : Value} {K : World → Prop} (h : Blk w b cs T) (ho : o < cs.length) (hv : v.oneCell' = true) (hc : cs.set o v = cs')
    (k : ∀ w1, Blk w1 b cs' T → w1.heap.size = w.heap.size → Ext (· = b) w w1 → K w1) : XSt w ⟨b, o, none⟩ v K := h.st ho hv fun w1 h1 => k w1 (hc ▸ h1)
theorem Own.one1 {e : TypeId} {sz n : Nat} {v : Value} {xs : List Value} (h : Own w B e sz v n xs) : v.oneCell' = true := by
  rcases h.2 with ⟨rfl, -⟩ | ⟨g, cap, cur, rfl, -⟩ <;> rfl
end
end Go.Proofs.YtidkkkdlaclolaaGreat
end
section
section
namespace Go.Proofs.YtidkkkdlaclolaaGreat
open Go Go.RowKit X
set_option linter.unusedSimpArgs false
set_option linter.unusedVariables false
set_option linter.unusedSectionVars false
theorem str_cat (l m : List UInt8) : (ByteArray.mk l.toArray ++ ByteArray.mk m.toArray) = ⟨(l ++ m).toArray⟩ := by
  apply ByteArray.ext
  simp
theorem str_size (l : List UInt8) : (ByteArray.mk l.toArray).size = l.length := by simp [ByteArray.size]
theorem xcat {l m : List UInt8} {K : Value → Prop} (h : l.length + m.length ≤ 9223372036854775807) (k : K (str (l ++ m))) : xSCat (str l) (str m) K :=
  ⟨by rw [str_size, str_size]; omega, by rw [str_cat]; exact k⟩
theorem xlens {l : List UInt8} {K : Value → Prop} (k : K (.int .i64 l.length)) : xLenS (str l) K := by
  show K (.int .i64 (ByteArray.mk l.toArray).size)
  rw [str_size]; exact k
theorem xseq {l m : List UInt8} {K : Value → Prop} (k : K (.bool (decide (l = m)))) : xSEq (str l) (str m) K := by
  show K (.bool ((ByteArray.mk l.toArray).toList == (ByteArray.mk m.toArray).toList))
  rw [toList_mk, toList_mk]
  have : (l == m) = decide (l = m) := by
    by_cases e : l = m <;> simp [e]
  rw [this]; exact k
theorem xsne {l m : List UInt8} {K : Value → Prop} (k : K (.bool (!decide (l = m)))) : xSNe (str l) (str m) K := by
  show K (.bool !((ByteArray.mk l.toArray).toList == (ByteArray.mk m.toArray).toList))
  rw [toList_mk, toList_mk]
  have : (l == m) = decide (l = m) := by
    by_cases e : l = m <;> simp [e]
  rw [this]; exact k
/-- a byte of a closed string -/
theorem xixstr {s : ByteArray} {kd : IntKind} {i : Int} {K : Value → Prop} (n : Nat) (c : UInt8) (hi : i = (n : Int)) (hs : s[n]? = some c) (k : K (bv c)) : xIxStr (.string s) (.int kd i) K := ⟨n, c, hi, hs, k⟩
theorem hex_at : ∀ n : Fin 16, (ByteArray.mk #[48, 49, 50, 51, 52, 53, 54, 55, 56, 57, 97, 98, 99, 100, 101, 102])[n.1]? = some (hexD n.1) := by decide +kernel
theorem hex_cut : ∀ n : Fin 16, (ByteArray.mk #[48, 49, 50, 51, 52, 53, 54, 55, 56, 57, 97, 98, 99, 100, 101, 102]).extract n.1 (n.1 + 1) = ⟨[hexD n.1].toArray⟩ := by decide +kernel
theorem dig_cut : ∀ n : Fin 10, (ByteArray.mk #[48, 49, 50, 51, 52, 53, 54, 55, 56, 57]).extract n.1 (n.1 + 1) = ⟨[UInt8.ofNat (48 + n.1)].toArray⟩ := by decide +kernel
theorem and15 : ∀ n : Fin 256, IntKind.u8.wrap ((BitVec.ofInt IntKind.u8.bits (n.1 : Int) &&& BitVec.ofInt IntKind.u8.bits 15).toNat : Int) = ((n.1 % 16 : Nat) : Int) := by decide +kernel
theorem fdiv_nat (a b : Nat) : (a : Int).fdiv (b : Int) = ((a / b : Nat) : Int) := by
  rw [Int.fdiv_eq_ediv_of_nonneg _ (by omega)]; rfl
theorem tdiv_nat (a b : Nat) : (a : Int).tdiv (b : Int) = ((a / b : Nat) : Int) := rfl
theorem tmod_nat (a b : Nat) : (a : Int).tmod (b : Int) = ((a % b : Nat) : Int) := rfl
theorem u8_lt (c : UInt8) : c.toNat < 256 := c.toNat_lt
section
variable {w : World}
/-- x / n, of numbers that fit -/
theorem xquo {kd : IntKind} {a b : Nat} {K : Value → Prop} (hb : b ≠ 0) (hw : kd.wrap ((a / b : Nat) : Int) = ((a / b : Nat) : Int)) (k : K (.int kd ((a / b : Nat) : Int))) : xQuo (.int kd (a : Int)) (.int kd (b : Int)) K := by
  have h1 : isNought (b : Int) = false := by unfold isNought; simp; omega
  unfold xQuo xInts
  have h2 : sameKind kd kd = true := by unfold sameKind; simp
  simp only [h2, h1]
  exact ⟨by rw [tdiv_nat, hw]; exact k⟩
theorem xrem {kd : IntKind} {a b : Nat} {K : Value → Prop} (hb : b ≠ 0) (k : K (.int kd ((a % b : Nat) : Int))) : xRem (.int kd (a : Int)) (.int kd (b : Int)) K := by
  have h1 : isNought (b : Int) = false := by unfold isNought; simp; omega
  unfold xRem xInts
  have h2 : sameKind kd kd = true := by unfold sameKind; simp
  simp only [h2, h1]
  exact ⟨by rw [tmod_nat]; exact k⟩
theorem xshr {kd kd' : IntKind} {a b : Nat} {K : Value → Prop} (k : K (.int kd ((a / 2 ^ min b kd.bits : Nat) : Int))) : xShr (.int kd (a : Int)) (.int kd' (b : Int)) K := by
  have h1 : isNeg (b : Int) = false := by unfold isNeg; simp
  unfold xShr
  simp only [h1]
  refine ⟨?_⟩
  have : (2 : Int) ^ min ((b : Int)).toNat kd.bits = ((2 ^ min b kd.bits : Nat) : Int) := by simp
  rw [this, fdiv_nat]
  exact k
theorem wrapU32 {n : Nat} (h : n < 4294967296) : IntKind.u32.wrap (n : Int) = (n : Int) := by
  have := IntKind.wrap_u32 (n : Int)
  omega
end
theorem hexK_snoc {k : Key} {i : Nat} (h : i < k.length) : hexK (k.take (i + 1)) = hexK (k.take i) ++ hexB k[i] := by
  rw [← List.take_append_getElem h]
  unfold hexK
  rw [List.flatMap_append]
  congr 1
variable [Floor]
section
variable {w : World} {v : Value} {k : Key}
theorem decK_len (n : Nat) (h : n < 18446744073709551616) : (decK n).length ≤ 20 := by
  have key : ∀ d n, n < 10 ^ (d + 1) → (decK n).length ≤ d + 1 := by
    intro d
    induction d with
    | zero => intro n h; rw [decK_small (by simpa using h)]; simp
    | succ d ih =>
      intro n h
      by_cases e : n < 10
      · rw [decK_small e]; simp
      · rw [decK_big e, List.length_append]
        have := ih (n / 10) (by rw [Nat.div_lt_iff_lt_mul (by omega)]; rw [Nat.pow_succ] at h; exact h)
        simp; omega
  exact key 19 n (by omega)
end
end Go.Proofs.YtidkkkdlaclolaaGreat
end
section
namespace Go.Proofs.YtidkkkdlaclolaaGreat
open Go Go.RowKit X
set_option linter.unusedSimpArgs false
set_option linter.unusedVariables false
set_option linter.unusedSectionVars false
theorem len8 : ∀ n : Fin 256, n.1 ≠ 0 → (ByteArray.mk #[0, 1, 2, 2, 3, 3, 3, 3, 4, 4, 4, 4, 4, 4, 4, 4, 5, 5, 5, 5, 5, 5, 5, 5, 5, 5, 5, 5, 5, 5, 5, 5, 6, 6, 6, 6, 6, 6, 6, 6, 6, 6, 6, 6, 6, 6, 6, 6, 6, 6, 6, 6, 6, 6, 6, 6, 6, 6, 6, 6, 6, 6, 6, 6, 7, 7, 7, 7, 7, 7, 7, 7, 7, 7, 7, 7, 7, 7, 7, 7, 7, 7, 7, 7, 7, 7, 7, 7, 7, 7, 7, 7, 7, 7, 7, 7, 7, 7, 7, 7, 7, 7, 7, 7, 7, 7, 7, 7, 7, 7, 7, 7, 7, 7, 7, 7, 7, 7, 7, 7, 7, 7, 7, 7, 7, 7, 7, 7, 8, 8, 8, 8, 8, 8, 8, 8, 8, 8, 8, 8, 8, 8, 8, 8, 8, 8, 8, 8, 8, 8, 8, 8, 8, 8, 8, 8, 8, 8, 8, 8, 8, 8, 8, 8, 8, 8, 8, 8, 8, 8, 8, 8, 8, 8, 8, 8, 8, 8, 8, 8, 8, 8, 8, 8, 8, 8, 8, 8, 8, 8, 8, 8, 8, 8, 8, 8, 8, 8, 8, 8, 8, 8, 8, 8, 8, 8, 8, 8, 8, 8, 8, 8, 8, 8, 8, 8, 8, 8, 8, 8, 8, 8, 8, 8, 8, 8, 8, 8, 8, 8, 8, 8, 8, 8, 8, 8, 8, 8, 8, 8, 8, 8, 8, 8, 8, 8, 8, 8, 8, 8, 8, 8, 8, 8, 8, 8])[n.1]? = some (UInt8.ofNat (n.1.log2 + 1)) := by decide +kernel
theorem log2_div {u s : Nat} (h : u / 2 ^ s ≠ 0) : u.log2 = (u / 2 ^ s).log2 + s := by
  have hu : u ≠ 0 := fun e => h (by rw [e]; simp)
  obtain ⟨h1, h2⟩ := (Nat.log2_eq_iff h).1 rfl
  have hp : 0 < 2 ^ s := Nat.pow_pos (by omega)
  rw [Nat.log2_eq_iff hu]
  constructor
  · rw [Nat.pow_add]
    exact Nat.le_trans (Nat.mul_le_mul_right _ h1) (Nat.div_mul_le_self u (2 ^ s))
  · rw [show (u / 2 ^ s).log2 + s + 1 = (u / 2 ^ s).log2 + 1 + s by omega, Nat.pow_add]
    rwa [Nat.div_lt_iff_lt_mul hp] at h2
theorem tens : ∀ l : Fin 64, ((l.1 + 1) * 78913 / 2 ^ 18 = 0 ∨ 10 ^ ((l.1 + 1) * 78913 / 2 ^ 18 - 1) ≤ 2 ^ l.1) ∧ 2 ^ (l.1 + 1) ≤ 10 ^ ((l.1 + 1) * 78913 / 2 ^ 18 + 1) ∧ (l.1 + 1) * 78913 / 2 ^ 18 < 20 := by decide +kernel
theorem decK_length : ∀ {d u : Nat}, (d = 0 ∨ 10 ^ d ≤ u) → u < 10 ^ (d + 1) → (decK u).length = d + 1 := by
  intro d
  induction d with
  | zero => intro u _ h; rw [decK_small (by simpa using h)]; rfl
  | succ d ih =>
    intro u h1 h2
    have h1 : 10 ^ (d + 1) ≤ u := h1.resolve_left (by omega)
    have hp : 0 < 10 ^ d := Nat.pow_pos (by omega)
    rw [Nat.pow_succ] at h1 h2
    have h2' : u / 10 < 10 ^ (d + 1) := by rwa [Nat.div_lt_iff_lt_mul (by omega)]
    have h3 : ¬ u < 10 := by omega
    rw [decK_big h3, List.length_append, ih (.inr ((Nat.le_div_iff_mul_le (by omega)).2 h1)) h2']
    rfl
/-- the last n digits -/
def padK : Nat → Nat → List UInt8
  | 0, _ => []
  | n + 1, u => padK n (u / 10) ++ [UInt8.ofNat (48 + u % 10)]
theorem padK_length (n u : Nat) : (padK n u).length = n := by
  induction n generalizing u with
  | zero => rfl
  | succ n ih => simp [padK, ih]
theorem padK_cons (n u : Nat) : padK (n + 1) u = UInt8.ofNat (48 + u / 10 ^ n % 10) :: padK n u := by
  induction n generalizing u with
  | zero => simp [padK]
  | succ n ih =>
    rw [padK, ih, padK, Nat.div_div_eq_div_mul, Nat.pow_succ, Nat.mul_comm 10]
    rfl
theorem padK_dec {n u : Nat} (h : (decK u).length = n) : padK n u = decK u := by
  induction n generalizing u with
  | zero =>
    exact (List.eq_nil_of_length_eq_zero h).symm
  | succ n ih =>
    by_cases e : u < 10
    · rw [decK_small e] at h ⊢
      have : n = 0 := by simpa using h.symm
      subst this
      rw [padK, padK, Nat.mod_eq_of_lt e]; rfl
    · rw [decK_big e] at h ⊢
      rw [padK, ih (by simpa using h)]
theorem smalls : ∀ n : Fin 100, (ByteArray.mk #[48, 48, 48, 49, 48, 50, 48, 51, 48, 52, 48, 53, 48, 54, 48, 55, 48, 56, 48, 57, 49, 48, 49, 49, 49, 50, 49, 51, 49, 52, 49, 53, 49, 54, 49, 55, 49, 56, 49, 57, 50, 48, 50, 49, 50, 50, 50, 51, 50, 52, 50, 53, 50, 54, 50, 55, 50, 56, 50, 57, 51, 48, 51, 49, 51, 50, 51, 51, 51, 52, 51, 53, 51, 54, 51, 55, 51, 56, 51, 57, 52, 48, 52, 49, 52, 50, 52, 51, 52, 52, 52, 53, 52, 54, 52, 55, 52, 56, 52, 57, 53, 48, 53, 49, 53, 50, 53, 51, 53, 52, 53, 53, 53, 54, 53, 55, 53, 56, 53, 57, 54, 48, 54, 49, 54, 50, 54, 51, 54, 52, 54, 53, 54, 54, 54, 55, 54, 56, 54, 57, 55, 48, 55, 49, 55, 50, 55, 51, 55, 52, 55, 53, 55, 54, 55, 55, 55, 56, 55, 57, 56, 48, 56, 49, 56, 50, 56, 51, 56, 52, 56, 53, 56, 54, 56, 55, 56, 56, 56, 57, 57, 48, 57, 49, 57, 50, 57, 51, 57, 52, 57, 53, 57, 54, 57, 55, 57, 56, 57, 57])[2 * n.1]? = some (UInt8.ofNat (48 + n.1 / 10)) ∧ (ByteArray.mk #[48, 48, 48, 49, 48, 50, 48, 51, 48, 52, 48, 53, 48, 54, 48, 55, 48, 56, 48, 57, 49, 48, 49, 49, 49, 50, 49, 51, 49, 52, 49, 53, 49, 54, 49, 55, 49, 56, 49, 57, 50, 48, 50, 49, 50, 50, 50, 51, 50, 52, 50, 53, 50, 54, 50, 55, 50, 56, 50, 57, 51, 48, 51, 49, 51, 50, 51, 51, 51, 52, 51, 53, 51, 54, 51, 55, 51, 56, 51, 57, 52, 48, 52, 49, 52, 50, 52, 51, 52, 52, 52, 53, 52, 54, 52, 55, 52, 56, 52, 57, 53, 48, 53, 49, 53, 50, 53, 51, 53, 52, 53, 53, 53, 54, 53, 55, 53, 56, 53, 57, 54, 48, 54, 49, 54, 50, 54, 51, 54, 52, 54, 53, 54, 54, 54, 55, 54, 56, 54, 57, 55, 48, 55, 49, 55, 50, 55, 51, 55, 52, 55, 53, 55, 54, 55, 55, 55, 56, 55, 57, 56, 48, 56, 49, 56, 50, 56, 51, 56, 52, 56, 53, 56, 54, 56, 55, 56, 56, 56, 57, 57, 48, 57, 49, 57, 50, 57, 51, 57, 52, 57, 53, 57, 54, 57, 55, 57, 56, 57, 57])[2 * n.1 + 1]? = some (UInt8.ofNat (48 + n.1 % 10)) := by decide +kernel
theorem smalls_cut : ∀ n : Fin 100, (ByteArray.mk #[48, 48, 48, 49, 48, 50, 48, 51, 48, 52, 48, 53, 48, 54, 48, 55, 48, 56, 48, 57, 49, 48, 49, 49, 49, 50, 49, 51, 49, 52, 49, 53, 49, 54, 49, 55, 49, 56, 49, 57, 50, 48, 50, 49, 50, 50, 50, 51, 50, 52, 50, 53, 50, 54, 50, 55, 50, 56, 50, 57, 51, 48, 51, 49, 51, 50, 51, 51, 51, 52, 51, 53, 51, 54, 51, 55, 51, 56, 51, 57, 52, 48, 52, 49, 52, 50, 52, 51, 52, 52, 52, 53, 52, 54, 52, 55, 52, 56, 52, 57, 53, 48, 53, 49, 53, 50, 53, 51, 53, 52, 53, 53, 53, 54, 53, 55, 53, 56, 53, 57, 54, 48, 54, 49, 54, 50, 54, 51, 54, 52, 54, 53, 54, 54, 54, 55, 54, 56, 54, 57, 55, 48, 55, 49, 55, 50, 55, 51, 55, 52, 55, 53, 55, 54, 55, 55, 55, 56, 55, 57, 56, 48, 56, 49, 56, 50, 56, 51, 56, 52, 56, 53, 56, 54, 56, 55, 56, 56, 56, 57, 57, 48, 57, 49, 57, 50, 57, 51, 57, 52, 57, 53, 57, 54, 57, 55, 57, 56, 57, 57]).extract (2 * n.1) (2 * n.1 + 2) = ⟨[UInt8.ofNat (48 + n.1 / 10), UInt8.ofNat (48 + n.1 % 10)].toArray⟩ := by decide +kernel
theorem one_cut : ∀ n : Fin 10, (ByteArray.mk #[48, 49, 50, 51, 52, 53, 54, 55, 56, 57, 97, 98, 99, 100, 101, 102, 103, 104, 105, 106, 107, 108, 109, 110, 111, 112, 113, 114, 115, 116, 117, 118, 119, 120, 121, 122]).extract n.1 (n.1 + 1) = ⟨[UInt8.ofNat (48 + n.1)].toArray⟩ := by decide +kernel
section
variable {w : World}
end
end Go.Proofs.YtidkkkdlaclolaaGreat
end
section
namespace Go.Proofs.YtidkkkdlaclolaaGreat
open Go Go.RowKit X
set_option linter.unusedSimpArgs false
set_option linter.unusedVariables false
set_option linter.unusedSectionVars false
section
variable {w : World} {g o n u : Nat} {cells : List Value} {T : TypeId}
variable [Floor]
end
end Go.Proofs.YtidkkkdlaclolaaGreat
end
end
section
namespace Go.Proofs.YtidkkkdlaclolaaGreat
open Go Go.RowKit X
set_option linter.unusedSimpArgs false
set_option linter.unusedVariables false
set_option linter.unusedSectionVars false
theorem dom_er (kids : UInt8 → T) : (dom fun c => (kids c).er.opt) = dom (ptrs kids) := cnt_congr fun c => T.er_opt (kids c)
theorem cntE_er (kids : UInt8 → T) : cntE (fun c => (kids c).er) = cnt (ptrs kids) := by
  show (dom fun c => (kids c).er.opt).length = _
  rw [dom_er]; rfl
/-- what 'Next' tells, by the bytes that are still to come -/
abbrev nxP (m : UInt8 → Option Addr) : List UInt8 → Value
  | [] => .pointer none
  | c :: _ => .pointer (m c)
abbrev nxB : List UInt8 → Value
  | [] => .int .u8 0
  | c :: _ => bv c
theorem next2_of {m : UInt8 → Option Addr} {i : Nat} {l : List UInt8} (h : nextB m i = l.head?) : next2 m i = .tuple #[nxB l, nxP m l] := by
  unfold next2
  rw [h]
  cases l <;> rfl
theorem X.Ext.big {w0 w w' : World} {B : Nat} (h : Ext No w0 w) (hB : w0.heap.size ≤ B) (e : Ext (B ≤ ·) w w') : Ext No w0 w' := h.trans e fun b hb hx => absurd (show B ≤ b from hx) (by omega)
theorem T.shape_node {a ow : Nat} {part : Key} {val : Option Nat} {ks : List Nat} {kids : UInt8 → T} : (T.node a ow part val ks kids).er.shape = if cnt (ptrs kids) = 0 then 76 :: (hexK part ++ valS val) else
      decK (kindN (cnt (ptrs kids))) ++ 60 :: (hexK part ++ (valS val ++ (((dom (ptrs kids)).flatMap fun c => 58 :: (hexB c ++ (kids c).er.shape)) ++ [62]))) := by
  show E.shape (.node part val fun c => (kids c).er) = _
  rw [E.shape, cntE_er, dom_er]
theorem kindN_pos (n : Nat) (h : n ≤ 256) : 4 ≤ kindN n ∧ kindN n ≤ 256 := by
  unfold kindN
  repeat' split
  all_goals omega
variable [Floor]
section
variable {w0 : World} {B b : Nat}
end
end Go.Proofs.YtidkkkdlaclolaaGreat
end
