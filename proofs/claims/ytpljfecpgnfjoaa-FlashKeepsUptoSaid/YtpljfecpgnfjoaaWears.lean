/-
  Layer 21: what a device's log and its pages' wear tell, in plain words.
-/
import Derived.Test.YtpljfecpgnfjoaaFlash12
namespace Go.Proofs.Ytpljfecpgnfjoaa

/-- how often a page is erased by a log -/
def cnt (l : List (Int × Int × Int)) (k : Spot) : Nat := l.countP fun e => decide (e = (1, k.1, k.2))
theorem cnt_snoc (l : List (Int × Int × Int)) (e : Int × Int × Int) (k : Spot) : cnt (l ++ [e]) k = cnt l k + if e = (1, k.1, k.2) then 1 else 0 := by
  unfold cnt; rw [List.countP_append, List.countP_singleton]; simp

structure WInv (D : Dev) (P : Nat) (lim : Int) (n : Nat) : Prop where
  pages : D.pages = P
  limit : D.limit = lim
  wear : ∀ k, D.wear k = (cnt D.log k : Int)
  most : ∀ k, D.wear k ≤ lim
  len : D.log.length ≤ n
  good : ∀ e ∈ D.log, (e.2.1 = 0 ∨ e.2.1 = 1 ∨ e.2.1 = 2) ∧ 0 ≤ e.2.2 ∧ e.2.2 < (D.many e.2.1 : Int)

theorem Dev.many_area {D : Dev} {a q : Int} (h0 : 0 ≤ q) (h : q < (D.many a : Int)) : a = 0 ∨ a = 1 ∨ a = 2 := by
  unfold Dev.many at h
  split at h
  · omega
  · split at h
    · omega
    · simp at h; omega
theorem Dev.pageE_ok {D : Dev} {k : Spot} (h : D.pageE k.1 k.2 = 0) : (k.1 = 0 ∨ k.1 = 1 ∨ k.1 = 2) ∧ 0 ≤ k.2 ∧ k.2 < (D.many k.1 : Int) := by
  unfold Dev.pageE at h
  split at h
  · cases h
  · split at h
    · rename_i h1; exact ⟨Dev.many_area h1.1 h1.2, h1.1, h1.2⟩
    · cases h
theorem Dev.operate_all (D : Dev) (kind : Int) (k : Spot) (x : List UInt8 × Bool) : (D.operate kind k x).1.pages = D.pages ∧ (D.operate kind k x).1.limit = D.limit ∧ (D.operate kind k x).1.wear = D.wear ∧ (D.operate kind k x).1.log = D.log ++ [(kind, k.1, k.2)] := by
  unfold Dev.operate; split <;> exact ⟨rfl, rfl, rfl, rfl⟩
theorem WInv.more {D : Dev} {P : Nat} {lim : Int} {n m : Nat} (h : WInv D P lim n) (hm : n ≤ m) : WInv D P lim m := { h with len := Nat.le_trans h.len hm }
theorem Dev.many_pages {D D' : Dev} (h : D'.pages = D.pages) (a : Int) : D'.many a = D.many a := by unfold Dev.many; rw [h]
theorem WInv.erase {D : Dev} {P : Nat} {lim : Int} {n : Nat} (h : WInv D P lim n) (h1 : 1 ≤ lim) (k : Spot) : WInv (D.erase k).1 P lim (n + 1) := by
  unfold Dev.erase
  split
  · exact h.more (by omega)
  · rename_i hp
    split
    · exact h.more (by omega)
    · rename_i hw
      obtain ⟨a1, a2, a3, a4⟩ := Dev.operate_all ({ D with wear := upd D.wear k (D.wear k + 1) } : Dev) 1 k (List.replicate D.page 255, true)
      have hlt : D.wear k < lim := by have := h.limit; omega
      have hpg := Dev.pageE_ok (D := D) (k := k) (by simpa using hp)
      refine ⟨a1.trans h.pages, a2.trans h.limit, fun k' => ?_, fun k' => ?_, ?_, fun e he => ?_⟩
      · rw [a3, a4, cnt_snoc]
        simp only [upd]
        have := h.wear k'
        by_cases hk : k = k'
        · subst hk; simp; omega
        · have hne : ¬ ((1 : Int), k.1, k.2) = (1, k'.1, k'.2) := fun h => hk (Prod.ext (by injection h with _ h; injection h) (by injection h with _ h; injection h))
          simp only [hk, if_false, hne]; omega
      · rw [a3]
        simp only [upd]
        by_cases hk : k = k'
        · subst hk; simp; omega
        · simp only [hk, if_false]; exact h.most k'
      · rw [a4]; have := h.len; simp; omega
      · rw [a4] at he
        rw [Dev.many_pages (D := D) a1]
        rcases List.mem_append.1 he with he | he
        · exact h.good e he
        · simp at he; subst he; exact hpg
theorem WInv.program {D : Dev} {P : Nat} {lim : Int} {n : Nat} (h : WInv D P lim n) (k : Spot) (bs : List UInt8) : WInv (D.program k bs).1 P lim (n + 1) := by
  unfold Dev.program
  split
  · exact h.more (by omega)
  · rename_i hp
    split
    · exact h.more (by omega)
    · split
      · exact h.more (by omega)
      · obtain ⟨a1, a2, a3, a4⟩ := Dev.operate_all D 2 k (over bs (List.replicate D.page 255), false)
        have hpg := Dev.pageE_ok (D := D) (k := k) (by simpa using hp)
        refine ⟨a1.trans h.pages, a2.trans h.limit, fun k' => ?_, fun k' => ?_, ?_, fun e he => ?_⟩
        · rw [a3, a4, cnt_snoc, if_neg (by simp)]; simpa using h.wear k'
        · rw [a3]; exact h.most k'
        · rw [a4]; have := h.len; simp; omega
        · rw [a4] at he
          rw [Dev.many_pages (D := D) a1]
          rcases List.mem_append.1 he with he | he
          · exact h.good e he
          · simp at he; subst he; exact hpg
theorem WInv.cut {D : Dev} {P : Nat} {lim : Int} {n : Nat} (h : WInv D P lim n) (m : Int) (bs : List UInt8) : WInv (D.cutAt m bs).1 P lim (n + 1) := by
  unfold Dev.cutAt
  split
  · exact h.more (by omega)
  · split
    · exact h.more (by omega)
    · exact ⟨h.pages, h.limit, h.wear, h.most, Nat.le_succ_of_le h.len, h.good⟩
theorem WInv.power {D : Dev} {P : Nat} {lim : Int} {n : Nat} (h : WInv D P lim n) : WInv { D with off := false } P lim (n + 1) := ⟨h.pages, h.limit, h.wear, h.most, Nat.le_succ_of_le h.len, h.good⟩
theorem Dev.operate_err (D : Dev) (kind : Int) (k : Spot) (x : List UInt8 × Bool) : (D.operate kind k x).2 = 213 ∨ (D.operate kind k x).2 = 0 := by
  unfold Dev.operate; split <;> simp
/-- what is worn out is worn to the limit -/
theorem WInv.worn {D : Dev} {P : Nat} {lim : Int} {n : Nat} (h : WInv D P lim n) (h2 : lim ≤ 1099511627776) {k : Spot} (he : (D.erase k).2 = 214) : (D.erase k).1 = D ∧ D.wearE k = (lim, 0) := by
  unfold Dev.erase at he ⊢
  split at he
  · exfalso
    simp only at he
    unfold Dev.pageE at he
    split at he
    · omega
    · split at he <;> omega
  · rename_i hp
    rw [if_neg hp]
    split at he
    · rename_i hw
      rw [if_pos hw]
      have hpg := Dev.pageE_ok (D := D) (k := k) (by simpa using hp)
      have hl := h.limit
      have hm := h.most k
      refine ⟨rfl, ?_⟩
      unfold Dev.wearE
      rw [if_pos hpg.2]
      have : D.wear k = lim := by omega
      rw [this]
    · exfalso
      have := Dev.operate_err ({ D with wear := upd D.wear k (D.wear k + 1) } : Dev) 1 k (List.replicate D.page 255, true)
      omega
theorem WInv.fresh (page pages : Nat) (active : Int) (f0 f1 : List UInt8) (lim : Int) (h : 0 ≤ lim) : WInv ({ Dev.fresh page pages active f0 f1 with limit := lim } : Dev) pages lim 0 :=
  ⟨rfl, rfl, fun _ => rfl, fun _ => h, Nat.le_refl _, fun e he => by cases he⟩

/-- how often a log erases the page of a number -/
def cntI (l : List (Int × Int × Int)) (i : Nat) : Nat := l.countP fun e => decide (e.1 = 1 ∧ e.2.1 * 4096 + e.2.2 = (i : Int))
theorem cntI_le (l : List (Int × Int × Int)) (i : Nat) : cntI l i ≤ l.length := List.countP_le_length
theorem cntI_step {l : List (Int × Int × Int)} {j : Nat} {e : Int × Int × Int} (h : l[j]? = some e) (i : Nat) : cntI (l.take (j + 1)) i = cntI (l.take j) i + if e.1 = 1 ∧ e.2.1 * 4096 + e.2.2 = (i : Int) then 1 else 0 := by
  unfold cntI
  rw [List.take_add_one, h, List.countP_append]
  simp [List.countP_singleton]
theorem cntI_cnt {l : List (Int × Int × Int)} (hg : ∀ e ∈ l, (e.2.1 = 0 ∨ e.2.1 = 1 ∨ e.2.1 = 2) ∧ 0 ≤ e.2.2 ∧ e.2.2 < 4096) (a q : Nat) (_ : a < 3) (hq : q < 4096) : cntI l (a * 4096 + q) = cnt l ((a : Int), (q : Int)) := by
  unfold cntI cnt
  refine List.countP_congr fun e he => ?_
  obtain ⟨h1, h2, h3⟩ := hg e he
  obtain ⟨x, y, z⟩ := e
  simp only [decide_eq_true_eq, Prod.mk.injEq] at *
  constructor
  · rintro ⟨e1, e2⟩; exact ⟨e1, by omega, by omega⟩
  · rintro ⟨e1, e2, e3⟩; exact ⟨e1, by omega⟩
end Go.Proofs.Ytpljfecpgnfjoaa
