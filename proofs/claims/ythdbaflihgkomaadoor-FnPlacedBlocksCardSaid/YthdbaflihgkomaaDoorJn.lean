/- strings.Join over a slice that reads as texts; the decimals as texts. -/
import Derived.Test.YthdbaflihgkomaaDoorDf
import Derived.Test.YthdbaflihgkomaaDoorShJ
namespace Go.Proofs.YthdbaflihgkomaaDoor
open Go.RowKit Go.Shelf

theorem extraJ : Builder.Extra Tryd.prog Tryd.lays156_ren where
  sizeBuilder := by kernel_rfl
  liesBuilder := by kernel_rfl
  t5 := Tryd.underlying5
  a5 := Tryd.isAgg5
  z5 := Tryd.sizeOf5
  v5 := Tryd.zeroValue5
  infoByte := by kernel_rfl
  cellsByte := by kernel_rfl
  sizeByte := by kernel_rfl
  neB5 := by decide
/-- Texts with a separator. -/
def jnT (ss : List ByteArray) (sep : ByteArray) : ByteArray := ⟨(Go.Lib.join (ss.map (·.data.toList)) sep.data.toList).toArray⟩
theorem bytes_ext {a b : ByteArray} (h : a.data.toList = b.data.toList) : a = b := by
  cases a; cases b
  simp only at h
  congr 1
  exact Array.toList_inj.1 h
theorem bytes_app (a b : ByteArray) : (a ++ b).data.toList = a.data.toList ++ b.data.toList := by simp
theorem bytes_assoc (a b c : ByteArray) : (a ++ b) ++ c = a ++ (b ++ c) := bytes_ext (by simp only [bytes_app, List.append_assoc])
theorem bytes_size (a : ByteArray) : a.size = a.data.toList.length := (Array.length_toList ..).symm
theorem jnT_data (ss : List ByteArray) (sep : ByteArray) : (jnT ss sep).data.toList = Go.Lib.join (ss.map (·.data.toList)) sep.data.toList := by simp [jnT]
theorem jnT_nil (sep : ByteArray) : jnT [] sep = ⟨#[]⟩ := rfl
theorem jnT_one (s sep : ByteArray) : jnT [s] sep = s := bytes_ext (by rw [jnT_data]; exact Go.Lib.join_one _ _)
theorem jnT_snoc (ss : List ByteArray) (s sep : ByteArray) (h : ss ≠ []) : jnT (ss ++ [s]) sep = jnT ss sep ++ (sep ++ s) := by
  apply bytes_ext
  rw [bytes_app, bytes_app, jnT_data, jnT_data]
  cases ss with
  | nil => exact absurd rfl h
  | cons a r =>
    rw [List.cons_append, List.map_cons, List.map_cons, Go.Lib.join_cons, Go.Lib.join_cons]
    simp [Go.Lib.joinTail, List.append_assoc]
theorem jnT_two (a b sep : ByteArray) : jnT [a, b] sep = a ++ (sep ++ b) := by
  have := jnT_snoc [a] b sep (by simp)
  rw [jnT_one] at this
  exact this
theorem jnT_size (ss : List ByteArray) (sep : ByteArray) (M : Nat) (h : ∀ s ∈ ss, s.size ≤ M) : (jnT ss sep).size ≤ ss.length * (sep.size + M) := by
  have hl : Go.Lib.lens (ss.map (·.data.toList)) ≤ ss.length * M := by
    clear sep
    induction ss with
    | nil => simp [Go.Lib.lens]
    | cons a r ih =>
      have h1 := ih (fun s hs => h s (List.mem_cons_of_mem _ hs))
      have h2 := h a List.mem_cons_self
      rw [bytes_size] at h2
      simp only [Go.Lib.lens, List.map_cons, List.sum_cons, List.length_cons, Nat.succ_mul] at h1 ⊢
      omega
  rw [bytes_size, jnT_data]
  cases ss with
  | nil => simp [Go.Lib.join_nil]
  | cons a r =>
    rw [List.map_cons] at hl ⊢
    rw [Go.Lib.join_length, List.length_map, ← bytes_size sep, List.length_cons, Nat.mul_add, Nat.succ_mul, Nat.mul_comm sep.size]
    rw [List.length_cons] at hl
    omega
theorem joinS_any (A : Option Addr) (n c : Nat) (ss : List ByteArray) (sep : ByteArray) (w : World) (h : Rd w 1 A n c (txs ss)) (hn : n ≤ 1000000) (hb : (jnT ss sep).size ≤ 140737488355328) :
    Calls Tryd.prog 32 #[.slice A n c, .string sep] w fun e w' => e = .returned (.string (jnT ss sep)) ∧ Below w.heap.size w w' := by
  have hl := h.tlen
  subst hl
  rcases Nat.eq_zero_or_pos ss.length with h0 | h0
  · have e0 : ss = [] := List.eq_nil_of_length_eq_zero h0
    subst e0
    exact (Any.strings_Join_none Tryd.lays156 extraJ A c sep w).mono fun e w' ⟨he, hw⟩ => ⟨he, hw ▸ Below.refl _ _⟩
  obtain ⟨b, o, hA, hlt, hc⟩ := h.at0 (by rw [txs_len]; omega)
  subst hA
  rw [bytes_size, jnT_data] at hb
  exact Any.strings_Join Tryd.lays156 extraJ b o c ss sep w (fun j x hx => by rw [hc j (by rw [txs_len]; exact (List.getElem?_eq_some_iff.1 hx).1), txs_get, hx]; rfl) hlt (by omega) h.cap hb
/-- The decimal of z. -/
def dk (z : Int) : ByteArray := ⟨(Go.Lib.decDigits z.toNat).toArray⟩
theorem dk_size {z : Int} (h : z ≤ 100000) : (dk z).size ≤ 6 := by
  have e : (dk z).size = (Go.Lib.decDigits z.toNat).length := by simp [dk, ByteArray.size]
  rw [e]
  have h1 : ∀ (f : Nat) (k : Nat), k < 10 ^ (f + 1) → (Go.Lib.decDigits k).length ≤ f + 1 := by
    intro f
    induction f with
    | zero => intro k hk; rw [Go.Lib.decDigits_one (by simpa using hk)]; simp
    | succ f ih =>
      intro k hk
      by_cases h10 : k < 10
      · rw [Go.Lib.decDigits_one h10]; simp
      · have h2 : Go.Lib.decDigits k = Go.Lib.decDigits (k / 10) ++ [UInt8.ofNat (48 + k % 10)] := by rw [Go.Lib.decDigits, dif_neg h10]
        have h3 := ih (k / 10) (by rw [Nat.pow_succ] at hk; omega)
        rw [h2, List.length_append, List.length_singleton]
        omega
  exact h1 5 _ (by omega)
theorem decS_any (z : Int) (w : World) (h0 : 1 ≤ z) (h1 : z ≤ 100000) :
    Calls Tryd.prog 27 #[.int .i64 z] w fun e w' => e = .returned (.string (dk z)) ∧ Below w.heap.size w w' := by
  have := l01Dec_any z.toNat w (by omega) (by omega)
  rw [show ((z.toNat : Nat) : Int) = z by omega] at this
  exact this
theorem decI_any (z : Int) (w : World) (h0 : 1 ≤ z) (h1 : z ≤ 100000) (B : Nat) (ht : PowT B w) :
    Calls Tryd.prog 30 #[.int .i64 z] w fun e w' => e = .returned (.string (dk z)) ∧ Below w.heap.size w w' := by
  have := decimal_any z.toNat w (by omega) B ht
  rw [show ((z.toNat : Nat) : Int) = z by omega] at this
  exact this
end Go.Proofs.YthdbaflihgkomaaDoor
