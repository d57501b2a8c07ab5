/- THE WALK of room. At most 10000 are there. -/
import Derived.Test.YtopablmgadkppaaWalkA
import Derived.Test.YtopablmgadkppaaWords
namespace Go.Proofs.Ytopablmgadkppaa
open Go.RowKit
set_option linter.unusedVariables false

abbrev El : Type := ByteArray
abbrev V (x : El) : Value := .string x
abbrev zero : Value := .string ⟨#[]⟩
def vals (xs : List El) : List Value := xs.map V
theorem vals_len (xs : List El) : (vals xs).length = xs.length := by simp [vals]
theorem vals_at {xs : List El} {i : Nat} (h : i < xs.length) : (vals xs)[i]? = some (V (xs[i])) := by simp [vals, h]

theorem el_info : (Try.prog.info? 9).map (fun i => (i.zero, i.size, i.bytes)) = some (some zero, 1, 16) := by kernel_rfl

/-- The cells of a new ring. -/
def zeros (n : Nat) : Array Value := madeCells (zero).cells (n * 1)
theorem zeros_size (n : Nat) : (zeros n).size = n := by simp [zeros, size_madeCells]

theorem run_new (n : Nat) (hn : n ≤ 100000) (W : World) :
    (Instr.makeSlice 25 (.int .i64 (n : Int)) (.int .i64 (n : Int))).run Try.prog W = .ok (.slice (some ⟨W.heap.size, 0, none⟩) n n) (W.alloc (.cells (zeros n) 9)) := by
  obtain ⟨i0, hi, hz0, hz1, hz2⟩ := info_parts el_info
  have hr := run_make (P := Try.prog) W 25 9 i0 zero Try.underlying25 hi hz0 .i64 .i64 n n (by omega) (by omega) (by rw [hz2]; omega) (by omega)
  simp only [Int.toNat_natCast, hz1] at hr
  exact hr

/-- The end of room: the new ring laid into the struct. -/
theorem room_end {w wr : World} {g : Nat} {cb : Option Nat} {cur new : Array Value} {L fr n N : Nat} {xs : List El} (hd : Dq 27 9 w g cb cur L fr n) (hx : Has cur L fr (vals xs)) (hn : xs.length = n) (hnN : n < N) (hN : N ≤ 100000)
    (honly : Only (fun _ => False) w wr) (hnew : Blk wr w.heap.size 9 new) (hsz : new.size = N) (hpre : ∀ i, i < n → new[i]? = cur[(fr + i) % L]?) :
    let w' := (wr.setCell ⟨g, 0, none⟩ (.slice (some ⟨w.heap.size, 0, none⟩) N N)).setCell ⟨g, 1, none⟩ (.int .i64 0)
    ∃ cb' cur' L' fr', Dq 27 9 w' g cb' cur' L' fr' n ∧ Has cur' L' fr' (vals xs) ∧ n < L' ∧ Only (· = g) w w' ∧ (cb' = cb ∨ ∃ b, cb' = some b ∧ w.heap.size ≤ b) := by
  intro w'
  have hg := hd.blk.lt
  have hb1 := (hd.blk.only honly (fun h => h)).set_ 0 (.slice (some ⟨w.heap.size, 0, none⟩) N N)
  have hb2 := hb1.set_ 1 (.int .i64 0)
  have hne : w.heap.size ≠ g := by omega
  refine ⟨some w.heap.size, new, N, 0, ⟨hb2, fun b hb => ?_, hsz, fun h => (nomatch h), by omega, by omega, hN⟩,
    hx.moved (by rw [vals_len]; omega) (fun i hi => hpre i (by rw [vals_len] at hi; omega)), hnN, ?_, .inr ⟨_, rfl, Nat.le_refl _⟩⟩
  · cases hb
    exact ⟨hne, (hnew.far (p := ⟨g, 0, none⟩) hne _).far (p := ⟨g, 1, none⟩) hne _⟩
  · have ho : Only (fun x => x = g) w wr := honly.mono (fun i h => h.elim)
    exact (ho.setCell (p := ⟨g, 0, none⟩) (.inl rfl) _).setCell (p := ⟨g, 1, none⟩) (.inl rfl) _

def RoomPost (w : World) (g : Nat) (cb : Option Nat) (n : Nat) (xs : List El) (e : Ending) (w' : World) : Prop :=
  e = .returned (.tuple #[]) ∧ ∃ cb' cur' L' fr', Dq 27 9 w' g cb' cur' L' fr' n ∧ Has cur' L' fr' (vals xs) ∧ n < L' ∧ Only (· = g) w w' ∧ (cb' = cb ∨ ∃ b, cb' = some b ∧ w.heap.size ≤ b)

section
variable (w : World) (g : Nat) (cb : Option Nat) (cur : Array Value) (L fr n : Nat) (xs : List El)

set_option maxHeartbeats 400000 in
theorem room_not (hd : Dq 27 9 w g cb cur L fr n) (hx : Has cur L fr (vals xs)) (hlt : n < L) :
    Calls Try.prog 26 #[.pointer (some ⟨g, 0, none⟩)] w (RoomPost w g cb n xs) := by
  have hfin : ∀ k, RoomPost w g cb n xs (.returned (.tuple #[])) (w.drewN k) := fun k =>
    ⟨rfl, cb, cur, L, fr, ⟨hd.blk, hd.row, hd.size, hd.none_, hd.nle, hd.fle, hd.big⟩, hx, hlt, (Only.refl _ _).drewN _, .inl rfl⟩
  have HF := Lib.hid hfin
  have h0 := hd.blk.cell 0
  have h2 := hd.blk.cell 2
  simp only [List.getElem?_toArray, List.getElem?_cons_zero, List.getElem?_cons_succ] at h0 h2
  have hi : (n : Int) < (L : Int) := by omega
  clear hfin hd hx
  go_enter Try.func26, Try.ntmps26
  go_wp2_with fail
  go_quiet (fail)
  go_wp2
  exact bodyPost_ret (results_none rfl _ _ _) rfl (HF.out _)

set_option maxHeartbeats 800000 in
theorem room_full (hd : Dq 27 9 w g cb cur L fr n) (hx : Has cur L fr (vals xs)) (hn : xs.length = n) (hb : n ≤ 10000) (hlt : n = L) :
    Calls Try.prog 26 #[.pointer (some ⟨g, 0, none⟩)] w (RoomPost w g cb n xs) := by
  subst hlt
  have h0 := hd.blk.cell 0
  have h1 := hd.blk.cell 1
  have h2 := hd.blk.cell 2
  simp only [List.getElem?_toArray, List.getElem?_cons_zero, List.getElem?_cons_succ] at h0 h1 h2
  obtain ⟨N, hN⟩ : ∃ N : Nat, N = max 4 (2 * n) := ⟨_, rfl⟩
  have hN1 : n < N := by omega
  have hN2 : N ≤ 100000 := by omega
  have hmk := run_new N hN2
  have HD := Lib.hid hd
  have HX := Lib.hid hx
  obtain ⟨A, hAe⟩ : ∃ A, (cb.map fun b => (⟨b, 0, none⟩ : Addr)) = A := ⟨_, rfl⟩
  rw [hAe] at h0
  have hAt : ∀ k, k < n → ∃ b, A = some ⟨b, 0, none⟩ ∧ b ≠ g ∧ Blk w b 9 cur ∧ cur[(fr + k) % n]? = some (V (xs.getD k default)) ∧ (fr + k) % n < n ∧ fr < n := fun k hk => by
    cases hcb : cb with
    | none => have := hd.none_ hcb; omega
    | some b =>
      obtain ⟨r1, r2⟩ := hd.row b hcb
      have hlt : (fr + k) % n < n := Nat.mod_lt _ (by omega)
      have h3 := hx k (by rw [vals_len]; omega)
      rw [vals_at (by omega)] at h3
      refine ⟨b, by rw [← hAe, hcb]; rfl, r1, r2, ?_, hlt, ?_⟩
      · rw [h3]; simp [List.getD, show k < xs.length by omega]
      · rcases hd.fle with h | h <;> omega
  have HAt := Lib.hid hAt
  have hw := hd.blk.lt
  have h2a : ∀ q, ((w.drewN q).alloc (.cells (zeros N) 9)).cell? ⟨g, 2, none⟩ = some (.int .i64 (n : Int)) := fun q => (World.cell?_alloc_lt (w.drewN q) _ _ hw).trans h2
  clear hd hx hAt hAe
  by_cases hq : 2 * n ≤ 4
  case' pos => rw [show (N : Int) = 4 by omega] at hmk
  case' neg => rw [show (N : Int) = 2 * (n : Int) by omega] at hmk
  all_goals
    clear hN
    go_enter Try.func26, Try.ntmps26
    go_wp2_with fail
    go_quiet (fail)
    go_wp2
    go_loopw [25] (fun i wr => ∃ k : Nat, k ≤ n ∧ i = .int .i64 k ∧ ∃ new : Array Value, Blk wr w.heap.size 9 new ∧ new.size = N ∧ Hid (∀ i, i < k → new[i]? = cur[(fr + i) % n]?) ∧ Only (fun _ => False) w wr) (fun i _ => n - (intOf i).toNat)
    case atStart => exact ⟨0, by omega, rfl, zeros N, Blk.new (w.drewN nq) 9 (zeros N), zeros_size N, fun i hi => by omega, ((Only.refl _ _).drewN _).alloc _⟩
    case round =>
      obtain ⟨k, hk, rfl, new, hnew, hsz, hpre, honly⟩ := hrel
      by_cases hlt : k < n
      · go_wp2_with fail
        obtain ⟨b, rfl, hbg, hblk, hcur, hp, hfr⟩ := HAt.out k hlt
        have c0 : wr.cell? ⟨g, 0, none⟩ = some (.slice (some ⟨b, 0, none⟩) n n) := (World.cell?_of_block (honly.block g hw (fun h => h))).trans h0
        have c1 : wr.cell? ⟨g, 1, none⟩ = some (.int .i64 (fr : Int)) := (World.cell?_of_block (honly.block g hw (fun h => h))).trans h1
        obtain ⟨p, hpe⟩ : ∃ p, (fr + k) % n = p := ⟨_, rfl⟩
        rw [hpe] at hcur hp
        have c2 : wr.cell? ⟨b, p, none⟩ = some (V (xs.getD k default)) := ((World.cell?_of_block (honly.block b hblk.lt (fun h => h))).trans (hblk.cell p)).trans hcur
        have c3 : ∃ u, wr.cell? ⟨w.heap.size, k, none⟩ = some u := ⟨_, (hnew.cell k).trans (Array.getElem?_eq_getElem (by rw [hsz]; omega))⟩
        obtain ⟨u, c3⟩ := c3
        have c4 := hnew.frozen k
        have KP := Lib.hid (fun W h0 h1 => place_any g (some ⟨b, 0, none⟩) n fr k p W (by omega) (by omega) (by omega) hpe h0 h1)
        have HCU := Lib.hid hcur
        have HPE := Lib.hid hpe
        generalize xs.getD k default = x at *
        clear hpe hcur
        have n1 : w.heap.size ≠ g := by omega
        have n2 : w.heap.size ≠ b := by have := hblk.lt; omega
        have i1 : (0 : Int) ≤ (k : Int) := by omega
        have i2 : (k : Int) < (N : Int) := by omega
        have i3 : (0 : Int) ≤ (p : Int) := by omega
        have i4 : (p : Int) < (n : Int) := by omega
        go_wp2_with fail
        go_region_held3 (fun w' => w'.cell? ⟨g, 0, none⟩ = some (.slice (some ⟨b, 0, none⟩) n n) ∧ w'.cell? ⟨g, 1, none⟩ = some (.int .i64 (fr : Int)) ∧ w'.cell? ⟨b, p, none⟩ = some (V x)) (go_keep)
          (first | (go_at_call 27; refine (KP.out _ ?_ ?_).mono ?_; (simp [*]); (simp [*]); rintro e w' ⟨rfl, nq2, rfl⟩))
        have hsz1 : k < new.size := by rw [hsz]; omega
        have hnew' := (hnew.drewN (1 + nq2)).set_ k (V x)
        have honly' : Only (fun _ => False) w ((wr.drewN (1 + nq2)).setCell ⟨w.heap.size, k, none⟩ (V x)) := (honly.drewN _).setCell (p := ⟨w.heap.size, k, none⟩) (.inr (Nat.le_refl _)) _
        have hpre' : Hid (∀ i, i < k + 1 → (new.setIfInBounds k (V x))[i]? = cur[(fr + i) % n]?) := fun i hi => by
          rcases Nat.lt_succ_iff_lt_or_eq.1 hi with h | rfl
          · rw [Array.getElem?_setIfInBounds_ne (by omega)]; exact hpre.out i h
          · rw [Array.getElem?_setIfInBounds_self, if_pos hsz1, HPE.out, HCU.out]
        clear hnew honly hpre c0 c1 c2 c3
        go_wp2
        go_roundw
        case rel => exact ⟨k + 1, by omega, by go_num, _, hnew', by rw [Array.size_setIfInBounds]; exact hsz, hpre', honly'⟩
        case measure => simp [intOf]; omega
      · obtain rfl : k = n := by omega
        have c0 : wr.cell? ⟨g, 0, none⟩ = some (.slice A k k) := (World.cell?_of_block (honly.block g hw (fun h => h))).trans h0
        have c1 : wr.cell? ⟨g, 1, none⟩ = some (.int .i64 (fr : Int)) := (World.cell?_of_block (honly.block g hw (fun h => h))).trans h1
        have hg2 := HD.out.blk.only honly (fun h => h)
        have f0 := hg2.frozen 0
        have f1 := hg2.frozen 1
        go_wp2
        exact bodyPost_end (results_none rfl _ _ _) rfl ⟨rfl, room_end HD.out HX.out hn hN1 hN2 honly hnew hsz hpre.out⟩

theorem room_any (hd : Dq 27 9 w g cb cur L fr n) (hx : Has cur L fr (vals xs)) (hn : xs.length = n) (hb : n ≤ 10000) :
    Calls Try.prog 26 #[.pointer (some ⟨g, 0, none⟩)] w (RoomPost w g cb n xs) := by
  by_cases h : n < L
  · exact room_not w g cb cur L fr n xs hd hx h
  · exact room_full w g cb cur L fr n xs hd hx hn hb (by have := hd.nle; omega)
end
end Go.Proofs.Ytopablmgadkppaa
