/-
  Layer 6 (ring), plain: what a buffer that is written round and round holds.
-/
import Derived.Test.YtkpgfobgfjmllaaMem
namespace Go.Proofs.Ytkpgfobgfjmllaa

theorem splice_get {α : Type} (L : List α) (off : Nat) (cs : List α) (h : off + cs.length ≤ L.length) (i : Nat) :
    (splice L off cs)[i]? = if off ≤ i ∧ i < off + cs.length then cs[i - off]? else L[i]? := by
  unfold splice
  rw [List.getElem?_append, List.getElem?_append]
  have hl : (L.take off).length = off := by simp; omega
  rw [hl]
  by_cases h1 : i < off
  · rw [if_pos h1, if_neg (by omega), List.getElem?_take, if_pos h1]
  · rw [if_neg h1]
    by_cases h2 : i - off < cs.length
    · rw [if_pos h2, if_pos (by omega)]
    · rw [if_neg h2, if_neg (by omega), List.getElem?_drop]
      congr 1; omega

/-- the last n bytes of l stand in buf, each at its place -/
def Holds (n : Nat) (buf l : List UInt8) : Prop := ∀ j, j < l.length → l.length ≤ j + n → buf[j % n]? = l[j]?

def putBuf (n : Nat) (buf : List UInt8) (at_ : Nat) (bs : List UInt8) : List UInt8 :=
  let at1 := (at_ + (bs.length - n)) % n
  let b1 := bs.drop (bs.length - n)
  let k := min (n - at1) b1.length
  splice (splice buf at1 (b1.take k)) 0 (b1.drop k)

theorem putBuf_holds {n : Nat} {buf l : List UInt8} (bs : List UInt8) (hn : 0 < n) (hb : buf.length = n) (h : Holds n buf l) : Holds n (putBuf n buf (l.length % n) bs) (l ++ bs) := by
  intro j hj hjn
  unfold putBuf
  simp only []
  generalize ho : bs.length - n = o
  generalize hat : (l.length % n + o) % n = at1
  have hat1 : at1 < n := by rw [← hat]; exact Nat.mod_lt _ hn
  have hat2 : (l.length + o) % n = at1 := by rw [← hat, Nat.mod_add_mod]
  have hb1 : (bs.drop o).length = bs.length - o := by simp
  generalize hbb : bs.drop o = b1 at *
  have hb1n : b1.length ≤ n := by omega
  generalize hk : min (n - at1) b1.length = k
  have hl1 : (splice buf at1 (b1.take k)).length = n := by rw [length_splice _ _ _ (by simp; omega)]; exact hb
  have hjm : j % n < n := Nat.mod_lt _ hn
  rw [splice_get _ _ _ (by simp; omega), splice_get _ _ _ (by simp; omega)]
  simp only [List.length_take, List.length_drop, List.length_append] at *
  -- the byte is one of those that came, or one that stood there
  by_cases hnew : l.length + o ≤ j
  · obtain ⟨i, rfl⟩ : ∃ i, j = l.length + o + i := ⟨j - (l.length + o), by omega⟩
    have hi : i < b1.length := by omega
    have hmod : (l.length + o + i) % n = if at1 + i < n then at1 + i else at1 + i - n := by
      rw [Nat.add_mod, hat2, Nat.mod_eq_of_lt (show i < n by omega)]
      split
      · exact Nat.mod_eq_of_lt ‹_›
      · rw [Nat.mod_eq_sub_mod (by omega), Nat.mod_eq_of_lt (by omega)]
    have hr : (l ++ bs)[l.length + o + i]? = b1[i]? := by
      rw [List.getElem?_append_right (by omega), ← hbb, List.getElem?_drop]
      congr 1; omega
    rw [hr, hmod]
    by_cases hs : at1 + i < n
    · rw [if_pos hs, if_neg (by omega), if_pos (by omega), List.getElem?_take, if_pos (by omega)]
      congr 1; omega
    · rw [if_neg hs, if_pos (by omega), List.getElem?_drop]
      congr 1; omega
  · have ho0 : o = 0 ∨ n ≤ bs.length := by omega
    have hjl : j < l.length := by omega
    have ho1 : o = 0 := by omega
    subst ho1
    have hr : (l ++ bs)[j]? = l[j]? := by rw [List.getElem?_append_left hjl]
    have := h j hjl (by omega)
    rw [hr, ← this]
    -- its place is not written
    have hd : ∃ d, d < n ∧ l.length = j + 1 + d := ⟨l.length - j - 1, by omega, by omega⟩
    obtain ⟨d, hd1, hd2⟩ := hd
    have hbl : b1.length = bs.length := by omega
    have hmod : j % n = if d + 1 ≤ at1 then at1 - (d + 1) else at1 + n - (d + 1) := by
      have e : (j % n + (d + 1)) % n = at1 := by rw [← hat2, hd2, Nat.mod_add_mod]; congr 1; omega
      generalize j % n = r at *
      by_cases hr1 : r + (d + 1) < n
      · rw [Nat.mod_eq_of_lt hr1] at e; split <;> omega
      · by_cases hr2 : r + (d + 1) - n < n
        · rw [Nat.mod_eq_sub_mod (by omega), Nat.mod_eq_of_lt hr2] at e; split <;> omega
        · omega
    have hroom : bs.length + (d + 1) ≤ n := by omega
    rw [hmod]
    split
    · rw [if_neg (by omega), if_neg (by omega)]
    · rw [if_neg (by omega), if_neg (by omega)]

theorem putBuf_length {n : Nat} {buf : List UInt8} {at_ : Nat} (bs : List UInt8) (hn : 0 < n) (hb : buf.length = n) : (putBuf n buf at_ bs).length = n := by
  unfold putBuf
  simp only []
  have hat1 : (at_ + (bs.length - n)) % n < n := Nat.mod_lt _ hn
  rw [length_splice, length_splice]
  · exact hb
  · simp; omega
  · rw [length_splice]
    · simp; omega
    · simp; omega

/-- the byte that stands d ahead of the next place -/
theorem holds_back {n : Nat} {buf l : List UInt8} (h : Holds n buf l) {d : Nat} (h1 : 1 ≤ d) (h2 : d ≤ l.length) (h3 : d ≤ n) :
    buf[if d ≤ l.length % n then l.length % n - d else l.length % n + n - d]? = l[l.length - d]? := by
  have := h (l.length - d) (by omega) (by omega)
  rw [← this]
  congr 1
  have hn : 0 < n := by omega
  have e : ((l.length - d) % n + d) % n = l.length % n := by rw [Nat.mod_add_mod]; congr 1; omega
  have hlt := Nat.mod_lt (l.length - d) hn
  generalize (l.length - d) % n = r at *
  generalize l.length % n = a at *
  by_cases hr1 : r + d < n
  · rw [Nat.mod_eq_of_lt hr1] at e; split <;> omega
  · rw [Nat.mod_eq_sub_mod (by omega), Nat.mod_eq_of_lt (by omega)] at e; split <;> omega

/-- n bytes copied from so far ahead -/
def copyN (d : Nat) : Nat → List UInt8 → List UInt8
  | 0, l => l
  | k + 1, l => copyN d k (l ++ [l.getD (l.length - d) 0])
def copied (d k : Nat) (l : List UInt8) : List UInt8 := (copyN d k l).drop l.length

theorem holds_get {n : Nat} {buf l : List UInt8} (h : Holds n buf l) (hn : 0 < n) {j a i : Nat} (hj : j < l.length) (hjn : l.length ≤ j + n) (ha : l.length % n = a) (hi : i < n)
    (e : a + n = i + (l.length - j) ∨ a = i + (l.length - j)) : buf[i]? = l[j]? := by
  rw [← h j hj hjn]
  congr 1
  have e1 : (j % n + (l.length - j)) % n = a := by rw [Nat.mod_add_mod, ← ha]; congr 1; omega
  have hjm : j % n < n := Nat.mod_lt _ hn
  generalize j % n = r at *
  generalize hd : l.length - j = d at *
  have hd0 : 0 < d := by omega
  have hdn : d ≤ n := by omega
  have han : a < n := by rw [← ha]; exact Nat.mod_lt _ hn
  by_cases hr : r + d < n
  · rw [Nat.mod_eq_of_lt hr] at e1; omega
  · by_cases hr2 : r + d < n + n
    · rw [Nat.mod_eq_sub_mod (by omega), Nat.mod_eq_of_lt (by omega)] at e1; omega
    · omega

theorem last_wrap {n : Nat} {buf l : List UInt8} (h : Holds n buf l) (hb : buf.length = n) {a k lo : Nat} (ha : l.length % n = a) (hk : k ≤ n) (hkl : k ≤ l.length) (han : a < n) (hak : a < k) (hlo : lo + k = a + n) :
    buf.drop lo ++ buf.take a = l.drop (l.length - k) := by
  apply List.ext_getElem?
  intro i
  rw [List.getElem?_append, List.getElem?_drop, List.getElem?_take, List.getElem?_drop]
  simp only [List.length_drop, hb]
  by_cases h1 : i < n - lo
  · rw [if_pos h1]
    exact holds_get h (by omega) (by omega) (by omega) ha (by omega) (.inl (by omega))
  · rw [if_neg h1]
    by_cases h2 : i - (n - lo) < a
    · rw [if_pos h2]
      exact holds_get h (by omega) (by omega) (by omega) ha (by omega) (.inr (by omega))
    · rw [if_neg h2, List.getElem?_eq_none (by omega)]

theorem last_flat {n : Nat} {buf l : List UInt8} (h : Holds n buf l) (hb : buf.length = n) {a k : Nat} (ha : l.length % n = a) (hkl : k ≤ l.length) (han : a < n) (hak : k ≤ a) :
    (buf.take a).drop (a - k) = l.drop (l.length - k) := by
  apply List.ext_getElem?
  intro i
  rw [List.getElem?_drop, List.getElem?_take, List.getElem?_drop]
  by_cases h1 : a - k + i < a
  · rw [if_pos h1]
    exact holds_get h (by omega) (by omega) (by omega) ha (by omega) (.inr (by omega))
  · rw [if_neg h1, List.getElem?_eq_none (by omega)]

end Go.Proofs.Ytkpgfobgfjmllaa
