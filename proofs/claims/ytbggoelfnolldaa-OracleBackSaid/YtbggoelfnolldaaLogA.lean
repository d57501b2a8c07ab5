/- THE WALK of the log's Ask. A log fits. -/
import Derived.Test.YtbggoelfnolldaaWalkG
namespace Go.Proofs.Ytbggoelfnolldaa
open Go.RowKit
set_option linter.unusedVariables false

/-- A log in memory: its events, and how many were read. -/
structure Lc (t : TypeId) (w : World) (D : Nat → Prop) (s : Nat) (l : List (Int × Int)) (k : Nat) (A : Option Addr) (c : Nat) : Prop where
  blk : Blk w s t #[.slice A l.length c, .int .i64 k]
  rd : Rd w D A (evs l)
  le : k ≤ l.length
def Lg (t : TypeId) (w : World) (D : Nat → Prop) (s : Nat) (l : List (Int × Int)) (k : Nat) : Prop := ∃ A c, Lc t w D s l k A c
theorem Lg.only {t : TypeId} {w w' : World} {D S : Nat → Prop} {s : Nat} {l : List (Int × Int)} {k : Nat} (h : Lg t w D s l k) (ho : Only S w w') (hs : ¬ S s) (hS : ∀ b, D b → ¬ S b) : Lg t w' D s l k := by
  obtain ⟨A, c, h⟩ := h
  exact ⟨A, c, h.blk.only ho hs, h.rd.only ho hS, h.le⟩
theorem Lg.alloc {t : TypeId} {w : World} {D : Nat → Prop} {s : Nat} {l : List (Int × Int)} {k : Nat} (h : Lg t w D s l k) (o : Obj) : Lg t (w.alloc o) D s l k :=
  h.only ((Only.refl (fun _ => False) w).alloc o) (fun h => h) (fun _ _ h => h)
theorem Lg.next {t : TypeId} {w : World} {D : Nat → Prop} {s : Nat} {l : List (Int × Int)} {k : Nat} (h : Lg t w D s l k) (hD : ¬ D s) (hk : k < l.length) : Lg t (w.setCell ⟨s, 1, none⟩ (.int .i64 ((k : Int) + 1))) D s l (k + 1) := by
  obtain ⟨A, c, h⟩ := h
  refine ⟨A, c, ?_, h.rd.only (S := fun b => b = s) ((Only.refl (fun b => b = s) w).setCell (p := ⟨s, 1, none⟩) (.inl rfl) _) (fun b hb e => hD (e ▸ hb)), hk⟩
  exact h.blk.set_ 1 (.int .i64 ((k : Int) + 1))

/-- What a log answers. -/
def lans (l : List (Int × Int)) (k : Nat) (kd n : Int) : Int × Int :=
  if n < 1 then (0, 1) else if k < l.length then (if (l.getD k (0, 0)).1 = kd ∧ 0 ≤ (l.getD k (0, 0)).2 ∧ (l.getD k (0, 0)).2 < n then ((l.getD k (0, 0)).2, 0) else (0, 16)) else (0, 17)
/-- How many were read then. -/
def lrest (l : List (Int × Int)) (k : Nat) (kd n : Int) : Nat := if (lans l k kd n).2 = 0 then k + 1 else k

def LogPost (w : World) (D : Nat → Prop) (s : Nat) (r : Int × Int) (l : List (Int × Int)) (k : Nat) (e : Ending) (w' : World) : Prop :=
  e = .returned (.tuple #[.int .i64 r.1, .int .i64 r.2]) ∧ Lg 67 w' D s l k ∧ Only (fun b => b = s) w w'
theorem logPost_of {w w1 : World} {D : Nat → Prop} {s : Nat} {r : Int × Int} {x y : Int} {l : List (Int × Int)} {k k' : Nat} (hr : r = (x, y)) (hk : k' = k) (h : Lg 67 w1 D s l k) (ho : Only (fun b => b = s) w w1) :
    LogPost w D s r l k' (.returned (.tuple #[.int .i64 x, .int .i64 y])) w1 := by
  subst hr; subst hk
  exact ⟨rfl, h, ho⟩

set_option maxRecDepth 100000 in
set_option maxHeartbeats 1600000 in
theorem log_any (w : World) (D : Nat → Prop) (s : Nat) (l : List (Int × Int)) (k : Nat) (kd n : Int) (h : Lg 67 w D s l k) (hDs : ¬ D s) (hb : l.length ≤ 10000) :
    Calls Try.prog 17 #[.pointer (some ⟨s, 0, none⟩), .int .i64 kd, .int .i64 n] w (LogPost w D s (lans l k kd n) l (lrest l k kd n)) := by
  by_cases hlt : n < 1
  · have hr : lans l k kd n = (0, 1) := by simp [lans, hlt]
    have HF := Lib.hid (logPost_of (k' := lrest l k kd n) hr (by simp [lrest, hr]) h (Only.refl (fun b => b = s) w))
    clear h hr
    go_enter Try.func17, Try.ntmps17
    go_wp2
    go_ret2
    exact HF.out
  · have hh := h
    obtain ⟨A, c, hl⟩ := hh
    have h0 := hl.blk.cell 0
    have h1 := hl.blk.cell 1
    simp at h0 h1
    have hle := hl.le
    have hsl := hl.blk.lt
    by_cases hk : k < l.length
    · obtain ⟨b, off, rfl, hd, hbl, hc⟩ := hl.rd (by rw [evs_len]; omega)
      have c1 := hc _ _ (evs_at hk).1
      have c2 := hc _ _ (evs_at hk).2
      rw [← Nat.add_assoc] at c2
      have hr : lans l k kd n = if (l.getD k (0, 0)).1 = kd ∧ 0 ≤ (l.getD k (0, 0)).2 ∧ (l.getD k (0, 0)).2 < n then ((l.getD k (0, 0)).2, 0) else (0, 16) := by simp only [lans, if_neg hlt, if_pos hk]
      have HW := Lib.hid (fun (W : World) (ho : Only (fun _ => False) w W) => (⟨h.only ho (fun h => h) (fun _ _ h => h), (h.only ho (fun h => h) (fun _ _ h => h)).next hDs hk, ho.mono (fun _ h => h.elim),
        (ho.mono (S' := fun b => b = s) (fun _ h => h.elim)).setCell (p := ⟨s, 1, none⟩) (.inl rfl) (.int .i64 ((k : Int) + 1)), by have := (hl.blk.only ho (fun h => h)).cell 1; simpa using this, (hl.blk.only ho (fun h => h)).frozen 1⟩ :
        Lg 67 W D s l k ∧ Lg 67 (W.setCell ⟨s, 1, none⟩ (.int .i64 ((k : Int) + 1))) D s l (k + 1) ∧ Only (fun b => b = s) w W ∧ Only (fun b => b = s) w (W.setCell ⟨s, 1, none⟩ (.int .i64 ((k : Int) + 1))) ∧ W.cell? ⟨s, 1, none⟩ = some (.int .i64 k) ∧ W.frozen? ⟨s, 1, none⟩ = false))
      have HR : Hid (lrest l k kd n = if (lans l k kd n).2 = 0 then k + 1 else k) := Lib.hid rfl
      generalize (l.getD k (0, 0)).1 = ek at *
      generalize (l.getD k (0, 0)).2 = ex at *
      generalize lrest l k kd n = k' at *
      generalize lans l k kd n = r at *
      have h0a : ∀ q o, ((w.drewN q).alloc o).cell? ⟨s, 0, none⟩ = some (.slice (some ⟨b, off, none⟩) l.length c) := fun q o => (World.cell?_alloc_lt w _ _ hsl).trans h0
      have h1a : ∀ q o, ((w.drewN q).alloc o).cell? ⟨s, 1, none⟩ = some (.int .i64 k) := fun q o => (World.cell?_alloc_lt w _ _ hsl).trans h1
      have c1a : ∀ q o, ((w.drewN q).alloc o).cell? ⟨b, off + k * 2, none⟩ = some (.int .i64 ek) := fun q o => (World.cell?_alloc_lt w _ _ hbl).trans c1
      have c2a : ∀ q o, ((w.drewN q).alloc o).cell? ⟨b, off + k * 2 + 1, none⟩ = some (.int .i64 ex) := fun q o => (World.cell?_alloc_lt w _ _ hbl).trans c2
      have n0a : ∀ q x y, ((w.drewN q).alloc (.cells #[x, y] 64)).cell? ⟨w.heap.size, 0, none⟩ = some x := fun q x y => (Blk.new (w.drewN q) 64 #[x, y]).cell 0
      have n1a : ∀ q x y, ((w.drewN q).alloc (.cells #[x, y] 64)).cell? ⟨w.heap.size, 1, none⟩ = some y := fun q x y => (Blk.new (w.drewN q) 64 #[x, y]).cell 1
      have f0a : ∀ q x y, ((w.drewN q).alloc (.cells #[x, y] 64)).frozen? ⟨w.heap.size, 0, none⟩ = false := fun q x y => (Blk.new (w.drewN q) 64 #[x, y]).frozen 0
      have f1a : ∀ q x y, ((w.drewN q).alloc (.cells #[x, y] 64)).frozen? ⟨w.heap.size, 1, none⟩ = false := fun q x y => (Blk.new (w.drewN q) 64 #[x, y]).frozen 1
      have hb2 : (k : Int) + 1 ≤ 10000 := by omega
      have hns : s ≠ w.heap.size := by omega
      have i1 : (0 : Int) ≤ (k : Int) := by omega
      have i2 : (k : Int) < (l.length : Int) := by omega
      have i3 : ((k : Int) == (l.length : Int)) = false := by simp; omega
      have HR0 := Lib.hid hr
      clear h hl hc hr hd
      generalize l.length = m at *
      go_enter Try.func17, Try.ntmps17
      go_wp2_with fail
      go_quiet (fail)
      go_wp2_with fail
      go_region
      have h8 : Only (fun _ => False) w ((((w.drewN (nq + 1)).alloc (.cells #[.int .i64 0, .int .i64 0] 64)).setCell ⟨w.heap.size, 0, none⟩ (.int .i64 ek)).setCell ⟨w.heap.size, 1, none⟩ (.int .i64 ex)) :=
        ((((Only.refl _ _).drewN _).alloc _).setCell (.inr (Nat.le_refl _)) _).setCell (.inr (Nat.le_refl _)) _
      have hb8 := ((Blk.new (w.drewN (nq + 1)) 64 #[.int .i64 0, .int .i64 0]).set_ 0 (.int .i64 ek)).set_ 1 (.int .i64 ex)
      rw [show (w.drewN (nq + 1)).heap.size = w.heap.size from rfl] at hb8
      generalize ((((w.drewN (nq + 1)).alloc (.cells #[.int .i64 0, .int .i64 0] 64)).setCell ⟨w.heap.size, 0, none⟩ (.int .i64 ek)).setCell ⟨w.heap.size, 1, none⟩ (.int .i64 ex)) = W8 at *
      have e0 := hb8.cell 0
      have e1 := hb8.cell 1
      simp at e0 e1
      obtain ⟨l8, l9, o8, o9, e2, e3⟩ := HW.out W8 h8
      have HL := Lib.hid l8
      have HN := Lib.hid l9
      have HA := Lib.hid o8
      have HA2 := Lib.hid o9
      clear l8 l9 o8 o9 h8 hb8 HW h0a h1a c1a c2a n0a n1a f0a f1a h0 h1 c1 c2
      by_cases g1 : ek = kd
      · subst g1
        by_cases g2 : 0 ≤ ex
        · by_cases g3 : ex < n
          · have HR1 : Hid (r = (ex, 0)) := Lib.hid (by rw [HR0.out, if_pos ⟨rfl, g2, g3⟩])
            have HR2 : Hid (k' = k + 1) := Lib.hid (by rw [HR.out, HR1.out]; rfl)
            go_wp2_with fail
            go_ret2
            exact logPost_of HR1.out HR2.out HN.out HA2.out
          · have HR1 : Hid (r = (0, 16)) := Lib.hid (by rw [HR0.out, if_neg (fun h => g3 h.2.2)])
            have HR2 : Hid (k' = k) := Lib.hid (by rw [HR.out, HR1.out]; rfl)
            go_wp2_with fail
            go_ret2
            exact logPost_of HR1.out HR2.out HL.out HA.out
        · have HR1 : Hid (r = (0, 16)) := Lib.hid (by rw [HR0.out, if_neg (fun h => g2 h.2.1)])
          have HR2 : Hid (k' = k) := Lib.hid (by rw [HR.out, HR1.out]; rfl)
          go_wp2_with fail
          go_ret2
          exact logPost_of HR1.out HR2.out HL.out HA.out
      · have HR1 : Hid (r = (0, 16)) := Lib.hid (by rw [HR0.out, if_neg (fun h => g1 h.1)])
        have HR2 : Hid (k' = k) := Lib.hid (by rw [HR.out, HR1.out]; rfl)
        go_wp2_with fail
        go_ret2
        exact logPost_of HR1.out HR2.out HL.out HA.out
    · have hke : k = l.length := by omega
      have hr : lans l k kd n = (0, 17) := by simp [lans, hlt, hk]
      have HF := Lib.hid (fun q => logPost_of (k' := lrest l k kd n) hr (by simp [lrest, hr]) (h.only ((Only.refl (fun _ => False) w).drewN q) (fun h => h) (fun _ _ h => h)) ((Only.refl (fun b => b = s) w).drewN q))
      have i3 : ((k : Int) == (l.length : Int)) = true := by simp [hke]
      clear h hl hr
      generalize l.length = m at *
      go_enter Try.func17, Try.ntmps17
      go_wp2_with fail
      go_quiet (fail)
      go_wp2_with fail
      go_ret2
      exact HF.out _
end Go.Proofs.Ytbggoelfnolldaa
