/- THE WALK of the reference's log's Ask. -/
import Derived.Test.YtbggoelfnolldaaLogA
namespace Go.Proofs.Ytbggoelfnolldaa
open Go.RowKit
set_option linter.unusedVariables false

def RLogPost (w : World) (D : Nat → Prop) (s : Nat) (r : Int × Int) (l : List (Int × Int)) (k : Nat) (e : Ending) (w' : World) : Prop :=
  e = .returned (.agg #[.int .i64 r.1, .int .i64 r.2]) ∧ Lg 55 w' D s l k ∧ Only (fun b => b = s) w w'
theorem rlogPost_of {w w1 : World} {D : Nat → Prop} {s : Nat} {r : Int × Int} {x y : Int} {l : List (Int × Int)} {k k' : Nat} (hr : r = (x, y)) (hk : k' = k) (h : Lg 55 w1 D s l k ∧ Only (fun b => b = s) w w1) :
    RLogPost w D s r l k' (.returned (.agg #[.int .i64 x, .int .i64 y])) w1 := by
  subst hr; subst hk
  exact ⟨rfl, h⟩

/-- The result's variable is written, in a world in which nothing old has turned. -/
theorem rlog_quiet {w W : World} {D : Nat → Prop} {s : Nat} {l : List (Int × Int)} {k : Nat} (h : Lg 55 w D s l k) (hDs : ¬ D s) (ho : Only (fun _ => False) w W) (x y : Value) :
    Lg 55 ((W.setCell ⟨w.heap.size, 0, none⟩ x).setCell ⟨w.heap.size, 1, none⟩ y) D s l k ∧ Only (fun b => b = s) w ((W.setCell ⟨w.heap.size, 0, none⟩ x).setCell ⟨w.heap.size, 1, none⟩ y) := by
  have h2 : Only (fun _ => False) w ((W.setCell ⟨w.heap.size, 0, none⟩ x).setCell ⟨w.heap.size, 1, none⟩ y) := (ho.setCell (.inr (Nat.le_refl _)) _).setCell (.inr (Nat.le_refl _)) _
  exact ⟨h.only h2 (fun h => h) (fun _ _ h => h), h2.mono (fun _ h => h.elim)⟩
theorem rlog_next {w W : World} {D : Nat → Prop} {s : Nat} {l : List (Int × Int)} {k : Nat} (h : Lg 55 w D s l k) (hDs : ∀ b, D b → b < s) (hk : k < l.length) (hs : s < w.heap.size) (ho : Only (fun _ => False) w W) (x y : Value) :
    Lg 55 (((W.setCell ⟨s, 1, none⟩ (.int .i64 ((k : Int) + 1))).setCell ⟨w.heap.size, 0, none⟩ x).setCell ⟨w.heap.size, 1, none⟩ y) D s l (k + 1) ∧ Only (fun b => b = s) w (((W.setCell ⟨s, 1, none⟩ (.int .i64 ((k : Int) + 1))).setCell ⟨w.heap.size, 0, none⟩ x).setCell ⟨w.heap.size, 1, none⟩ y) := by
  have h1 := (h.only ho (fun h => h) (fun _ _ h => h)).next (fun h => Nat.lt_irrefl _ (hDs s h)) hk
  have o1 : Only (fun b => b = s) w (W.setCell ⟨s, 1, none⟩ (.int .i64 ((k : Int) + 1))) := (ho.mono (S' := fun b => b = s) (fun _ h => h.elim)).setCell (p := ⟨s, 1, none⟩) (.inl rfl) _
  generalize W.setCell ⟨s, 1, none⟩ (.int .i64 ((k : Int) + 1)) = W1 at *
  have o2 : Only (fun b => b = w.heap.size) W1 ((W1.setCell ⟨w.heap.size, 0, none⟩ x).setCell ⟨w.heap.size, 1, none⟩ y) :=
    ((Only.refl (fun b => b = w.heap.size) W1).setCell (p := ⟨w.heap.size, 0, none⟩) (.inl rfl) x).setCell (p := ⟨w.heap.size, 1, none⟩) (.inl rfl) y
  exact ⟨h1.only o2 (by omega) (fun b hb e => by have := hDs b hb; omega), o1.trans o2 (fun i hi e => by omega)⟩

set_option maxRecDepth 100000 in
set_option maxHeartbeats 1600000 in
theorem rlog_any (w : World) (D : Nat → Prop) (s : Nat) (l : List (Int × Int)) (k : Nat) (kd n : Int) (h : Lg 55 w D s l k) (hDs : ∀ b, D b → b < s) (hb : l.length ≤ 10000) :
    Calls Try.prog 23 #[.pointer (some ⟨s, 0, none⟩), .int .i64 kd, .int .i64 n] w (RLogPost w D s (lans l k kd n) l (lrest l k kd n)) := by
  have hD : ¬ D s := fun h => Nat.lt_irrefl _ (hDs s h)
  have hmem : ∀ (q : Nat) o, Only (fun _ => False) w (((w.alloc o).drewN q)) := fun q o => ((Only.refl _ _).alloc _).drewN _
  by_cases hlt : n < 1
  · have hr : lans l k kd n = (0, 1) := by simp [lans, hlt]
    have HF := Lib.hid (fun o => rlogPost_of (w := w) (D := D) (s := s) (w1 := w.alloc o) (k' := lrest l k kd n) hr (by simp [lrest, hr]) ⟨h.alloc o, (Only.refl (fun b => b = s) w).alloc o⟩)
    clear h hr hmem
    go_enter Try.func23, Try.ntmps23
    go_wp2
    exact bodyPost_ret (v := .agg #[.int .i64 0, .int .i64 1]) (by simp [results, Try.results23, go_sem]) rfl (HF.out _)
  · have hh := h
    obtain ⟨A, c, hl⟩ := hh
    have h0 := hl.blk.cell 0
    have h1 := hl.blk.cell 1
    simp at h0 h1
    have hle := hl.le
    have hsl := hl.blk.lt
    have h0b : ∀ o, (w.alloc o).cell? ⟨s, 0, none⟩ = some (.slice A l.length c) := fun o => (World.cell?_alloc_lt w _ _ hsl).trans h0
    have h1b : ∀ o, (w.alloc o).cell? ⟨s, 1, none⟩ = some (.int .i64 k) := fun o => (World.cell?_alloc_lt w _ _ hsl).trans h1
    by_cases hk : k < l.length
    · obtain ⟨b, off, rfl, hd, hbl, hc⟩ := hl.rd (by rw [evs_len]; omega)
      have c1 := hc _ _ (evs_at hk).1
      have c2 := hc _ _ (evs_at hk).2
      rw [← Nat.add_assoc] at c2
      have hr : lans l k kd n = if (l.getD k (0, 0)).1 = kd ∧ 0 ≤ (l.getD k (0, 0)).2 ∧ (l.getD k (0, 0)).2 < n then ((l.getD k (0, 0)).2, 0) else (0, 16) := by simp only [lans, if_neg hlt, if_pos hk]
      have HQ := Lib.hid (fun W (ho : Only (fun _ => False) w W) x y => rlog_quiet h hD ho x y)
      have HN := Lib.hid (fun W (ho : Only (fun _ => False) w W) x y => rlog_next h hDs hk hsl ho x y)
      have HB := Lib.hid hl.blk
      have HR : Hid (lrest l k kd n = if (lans l k kd n).2 = 0 then k + 1 else k) := Lib.hid rfl
      generalize (l.getD k (0, 0)).1 = ek at *
      generalize (l.getD k (0, 0)).2 = ex at *
      generalize lrest l k kd n = k' at *
      generalize lans l k kd n = r at *
      have hq : ∀ q o o', Only (fun _ => False) w (((w.alloc o).drewN q).alloc o') := fun q o o' => (((Only.refl _ _).alloc _).drewN _).alloc _
      have h0a : ∀ q o o', (((w.alloc o).drewN q).alloc o').cell? ⟨s, 0, none⟩ = some (.slice (some ⟨b, off, none⟩) l.length c) := fun q o o' => (World.cell?_of_block ((hq q o o').block s hsl (fun h => h))).trans h0
      have h1a : ∀ q o o', (((w.alloc o).drewN q).alloc o').cell? ⟨s, 1, none⟩ = some (.int .i64 k) := fun q o o' => (World.cell?_of_block ((hq q o o').block s hsl (fun h => h))).trans h1
      have c1a : ∀ q o o', (((w.alloc o).drewN q).alloc o').cell? ⟨b, off + k * 2, none⟩ = some (.int .i64 ek) := fun q o o' => (World.cell?_of_block ((hq q o o').block b hbl (fun h => h))).trans c1
      have c2a : ∀ q o o', (((w.alloc o).drewN q).alloc o').cell? ⟨b, off + k * 2 + 1, none⟩ = some (.int .i64 ex) := fun q o o' => (World.cell?_of_block ((hq q o o').block b hbl (fun h => h))).trans c2
      have c1b : ∀ o, (w.alloc o).cell? ⟨b, off + k * 2, none⟩ = some (.int .i64 ek) := fun o => (World.cell?_alloc_lt w _ _ hbl).trans c1
      have c2b : ∀ o, (w.alloc o).cell? ⟨b, off + k * 2 + 1, none⟩ = some (.int .i64 ex) := fun o => (World.cell?_alloc_lt w _ _ hbl).trans c2
      have hsz : ∀ (q : Nat) o, ((w.alloc o).drewN q).heap.size = w.heap.size + 1 := fun q o => World.size_alloc w o
      have NB : ∀ q o x y, Blk (((w.alloc o).drewN q).alloc (.cells #[x, y] 64)) (w.heap.size + 1) 64 #[x, y] := fun q o x y => by
        have := Blk.new ((w.alloc o).drewN q) 64 #[x, y]
        rw [hsz] at this
        exact this
      have n0a : ∀ q o x y, (((w.alloc o).drewN q).alloc (.cells #[x, y] 64)).cell? ⟨w.heap.size + 1, 0, none⟩ = some x := fun q o x y => (NB q o x y).cell 0
      have n1a : ∀ q o x y, (((w.alloc o).drewN q).alloc (.cells #[x, y] 64)).cell? ⟨w.heap.size + 1, 1, none⟩ = some y := fun q o x y => (NB q o x y).cell 1
      have f0a : ∀ q o x y, (((w.alloc o).drewN q).alloc (.cells #[x, y] 64)).frozen? ⟨w.heap.size + 1, 0, none⟩ = false := fun q o x y => (NB q o x y).frozen 0
      have f1a : ∀ q o x y, (((w.alloc o).drewN q).alloc (.cells #[x, y] 64)).frozen? ⟨w.heap.size + 1, 1, none⟩ = false := fun q o x y => (NB q o x y).frozen 1
      have hb2 : (k : Int) + 1 ≤ 10000 := by omega
      have i1 : (0 : Int) ≤ (k : Int) := by omega
      have i2 : (k : Int) < (l.length : Int) := by omega
      have i3 : decide ((l.length : Int) ≤ (k : Int)) = false := by simp; omega
      have HR0 := Lib.hid hr
      have HNB := Lib.hid NB
      have hhs : w.heap.size ≠ s := by omega
      have hhs2 : w.heap.size + 1 ≠ s := by omega
      clear h hl hc hr hd hq hmem NB
      generalize l.length = m at *
      go_enter Try.func23, Try.ntmps23
      go_wp2_with fail
      go_quiet (fail)
      go_wp2_with fail
      go_region
      have h8 : Only (fun _ => False) w (((w.alloc (.cells #[.int .i64 0, .int .i64 0] 37)).drewN (nq + 1)).alloc (.cells #[.int .i64 ek, .int .i64 ex] 64)) :=
        ((((Only.refl _ _).alloc _).drewN _).alloc _)
      have hb8 := HNB.out (nq + 1) (.cells #[.int .i64 0, .int .i64 0] 37) (.int .i64 ek) (.int .i64 ex)
      have hbr := (((Blk.new w 37 #[.int .i64 0, .int .i64 0]).drewN (nq + 1)).alloc (.cells #[.int .i64 ek, .int .i64 ex] 64))
      generalize (((w.alloc (.cells #[.int .i64 0, .int .i64 0] 37)).drewN (nq + 1)).alloc (.cells #[.int .i64 ek, .int .i64 ex] 64)) = W8 at *
      have e0 := hb8.cell 0
      have e1 := hb8.cell 1
      simp at e0 e1
      have hbs := HB.out.only h8 (fun h => h)
      have e2 := hbs.cell 1
      have e3 := hbs.frozen 1
      simp at e2
      have t0 := hbr.cell 0
      have t1 := hbr.cell 1
      have t2 := hbr.frozen 0
      have t3 := hbr.frozen 1
      simp at t0 t1
      have t4 := fun x y => ((hbr.set_ 0 x).set_ 1 y).cell 0
      have t5 := fun x y => ((hbr.set_ 0 x).set_ 1 y).cell 1
      simp at t4 t5
      have hb9 := hb8.far (p := ⟨s, 1, none⟩) hhs2 (.int .i64 ((k : Int) + 1))
      have e4 := hb9.cell 1
      simp at e4
      have hbr9 := hbr.far (p := ⟨s, 1, none⟩) hhs (.int .i64 ((k : Int) + 1))
      have t6 := hbr9.cell 0
      have t7 := hbr9.cell 1
      have t8 := hbr9.frozen 0
      have t9 := hbr9.frozen 1
      simp at t6 t7
      have ta := fun x y => ((hbr9.set_ 0 x).set_ 1 y).cell 0
      have tb := fun x y => ((hbr9.set_ 0 x).set_ 1 y).cell 1
      simp at ta tb
      have HQ8 := Lib.hid (HQ.out W8 h8)
      have HN8 := Lib.hid (HN.out W8 h8)
      clear HQ HN HB HNB h8 hb8 hbr hbs hb9 hbr9 h0a h1a c1a c2a n0a n1a f0a f1a h0b h1b c1b c2b h0 h1 c1 c2 hsz
      by_cases g1 : ek = kd
      · subst g1
        by_cases g2 : 0 ≤ ex
        · by_cases g3 : ex < n
          · have HR1 : Hid (r = (ex, 0)) := Lib.hid (by rw [HR0.out, if_pos ⟨rfl, g2, g3⟩])
            have HR2 : Hid (k' = k + 1) := Lib.hid (by rw [HR.out, HR1.out]; rfl)
            clear t4 t5 t0 t1 t2 t3
            go_wp2_with fail
            exact bodyPost_ret (v := .agg #[.int .i64 ex, .int .i64 0]) (by simp [results, Try.results23, go_sem, ta, tb]) rfl (rlogPost_of HR1.out HR2.out (HN8.out _ _))
          · have HR1 : Hid (r = (0, 16)) := Lib.hid (by rw [HR0.out, if_neg (fun h => g3 h.2.2)])
            have HR2 : Hid (k' = k) := Lib.hid (by rw [HR.out, HR1.out]; rfl)
            clear ta tb t6 t7 t8 t9 e4
            go_wp2_with fail
            exact bodyPost_ret (v := .agg #[.int .i64 0, .int .i64 16]) (by simp [results, Try.results23, go_sem, t4, t5]) rfl (rlogPost_of HR1.out HR2.out (HQ8.out _ _))
        · have HR1 : Hid (r = (0, 16)) := Lib.hid (by rw [HR0.out, if_neg (fun h => g2 h.2.1)])
          have HR2 : Hid (k' = k) := Lib.hid (by rw [HR.out, HR1.out]; rfl)
          clear ta tb t6 t7 t8 t9 e4
          go_wp2_with fail
          exact bodyPost_ret (v := .agg #[.int .i64 0, .int .i64 16]) (by simp [results, Try.results23, go_sem, t4, t5]) rfl (rlogPost_of HR1.out HR2.out (HQ8.out _ _))
      · have HR1 : Hid (r = (0, 16)) := Lib.hid (by rw [HR0.out, if_neg (fun h => g1 h.1)])
        have HR2 : Hid (k' = k) := Lib.hid (by rw [HR.out, HR1.out]; rfl)
        clear ta tb t6 t7 t8 t9 e4
        go_wp2_with fail
        exact bodyPost_ret (v := .agg #[.int .i64 0, .int .i64 16]) (by simp [results, Try.results23, go_sem, t4, t5]) rfl (rlogPost_of HR1.out HR2.out (HQ8.out _ _))
    · have hke : k = l.length := by omega
      have hr : lans l k kd n = (0, 17) := by simp [lans, hlt, hk]
      have HF := Lib.hid (fun q => rlogPost_of (k' := lrest l k kd n) hr (by simp [lrest, hr]) (rlog_quiet h hD (hmem q (.cells #[.int .i64 0, .int .i64 0] 37)) (.int .i64 0) (.int .i64 17)))
      have i3 : decide ((l.length : Int) ≤ (k : Int)) = true := by simp [hke]
      have B := fun q => (Blk.new w 37 #[.int .i64 0, .int .i64 0]).drewN q
      have b0 := fun q => (B q).cell 0
      have b1 := fun q => (B q).cell 1
      have b2 := fun q => (B q).frozen 0
      have b3 := fun q => (B q).frozen 1
      have b4 := fun q => (((B q).set_ 0 (.int .i64 0)).set_ 1 (.int .i64 17)).cell 0
      have b5 := fun q => (((B q).set_ 0 (.int .i64 0)).set_ 1 (.int .i64 17)).cell 1
      simp at b0 b1 b4 b5
      clear h hl hr B hmem
      generalize l.length = m at *
      go_enter Try.func23, Try.ntmps23
      go_wp2_with fail
      go_quiet (fail)
      go_wp2_with fail
      exact bodyPost_ret (v := .agg #[.int .i64 0, .int .i64 17]) (by simp [results, Try.results23, go_sem, b4, b5]) rfl (HF.out _)
end Go.Proofs.Ytbggoelfnolldaa
