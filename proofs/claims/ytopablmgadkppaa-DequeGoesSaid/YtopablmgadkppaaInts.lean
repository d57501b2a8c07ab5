/- THE WALKS of the Deque of ints: as those of the Deque of strings, other numbers (printed by deque_ints.py). At most 10000 are there. -/
import Derived.Test.YtopablmgadkppaaWalkG
namespace Go.Proofs.Ytopablmgadkppaa.Ints
open Go.RowKit
set_option linter.unusedVariables false

def PlacePost (w : World) (p : Nat) (e : Ending) (w' : World) : Prop := e = .returned (.int .i64 p) ∧ ∃ n, w' = w.drewN n

set_option maxHeartbeats 400000 in
theorem place_any (g : Nat) (A : Option Addr) (L from_ i p : Nat) (w : World)
    (hL : 0 < L) (hb : from_ + i ≤ 4611686018427387904) (hL2 : L ≤ 4611686018427387904) (hp : (from_ + i) % L = p)
    (h0 : w.cell? ⟨g, 0, none⟩ = some (.slice A L L)) (h1 : w.cell? ⟨g, 1, none⟩ = some (.int .i64 (from_ : Int))) :
    Calls Try.prog 30 #[.pointer (some ⟨g, 0, none⟩), .int .i64 (i : Int)] w (PlacePost w p) := by
  have hpi : ((from_ : Int) + (i : Int)) % (L : Int) = (p : Int) := by subst hp; simp
  have HP := Lib.hid hpi
  clear hp hpi
  have hLz : ((L : Int) == 0) = false := by simp; omega
  have hL1 : (1 : Int) ≤ (L : Int) := by omega
  have hs0 : (0 : Int) ≤ (from_ : Int) + (i : Int) := by omega
  have hwr : IntKind.i64.wrap ((from_ : Int) + (i : Int)) = (from_ : Int) + (i : Int) := IntWalk.i64_in _ (by omega)
  go_enter Try.func30, Try.ntmps30
  go_wp2_with fail
  go_quiet (fail)
  go_wp2
  go_ret
  exact ⟨congrArg (fun x => Ending.returned (.int .i64 x)) HP.out, _, rfl⟩

abbrev El : Type := Int
abbrev V (x : El) : Value := .int .i64 x
abbrev zero : Value := .int .i64 0
def vals (xs : List El) : List Value := xs.map V
theorem vals_len (xs : List El) : (vals xs).length = xs.length := by simp [vals]
theorem vals_at {xs : List El} {i : Nat} (h : i < xs.length) : (vals xs)[i]? = some (V (xs[i])) := by simp [vals, h]

theorem el_info : (Try.prog.info? 3).map (fun i => (i.zero, i.size, i.bytes)) = some (some zero, 1, 8) := by kernel_rfl

/-- The cells of a new ring. -/
def zeros (n : Nat) : Array Value := madeCells (zero).cells (n * 1)
theorem zeros_size (n : Nat) : (zeros n).size = n := by simp [zeros, size_madeCells]

theorem run_new (n : Nat) (hn : n ≤ 100000) (W : World) :
    (Instr.makeSlice 49 (.int .i64 (n : Int)) (.int .i64 (n : Int))).run Try.prog W = .ok (.slice (some ⟨W.heap.size, 0, none⟩) n n) (W.alloc (.cells (zeros n) 3)) := by
  obtain ⟨i0, hi, hz0, hz1, hz2⟩ := info_parts el_info
  have hr := run_make (P := Try.prog) W 49 3 i0 zero Try.underlying49 hi hz0 .i64 .i64 n n (by omega) (by omega) (by rw [hz2]; omega) (by omega)
  simp only [Int.toNat_natCast, hz1] at hr
  exact hr

/-- The end of room: the new ring laid into the struct. -/
theorem room_end {w wr : World} {g : Nat} {cb : Option Nat} {cur new : Array Value} {L fr n N : Nat} {xs : List El} (hd : Dq 51 3 w g cb cur L fr n) (hx : Has cur L fr (vals xs)) (hn : xs.length = n) (hnN : n < N) (hN : N ≤ 100000)
    (honly : Only (fun _ => False) w wr) (hnew : Blk wr w.heap.size 3 new) (hsz : new.size = N) (hpre : ∀ i, i < n → new[i]? = cur[(fr + i) % L]?) :
    let w' := (wr.setCell ⟨g, 0, none⟩ (.slice (some ⟨w.heap.size, 0, none⟩) N N)).setCell ⟨g, 1, none⟩ (.int .i64 0)
    ∃ cb' cur' L' fr', Dq 51 3 w' g cb' cur' L' fr' n ∧ Has cur' L' fr' (vals xs) ∧ n < L' ∧ Only (· = g) w w' ∧ (cb' = cb ∨ ∃ b, cb' = some b ∧ w.heap.size ≤ b) := by
  intro w'
  have hg := hd.blk.lt
  have hb1 := (hd.blk.only honly (fun h => h)).set_ 0 (.slice (some ⟨w.heap.size, 0, none⟩) N N)
  have hb2 := hb1.set_ 1 (.int .i64 0)
  have hne : w.heap.size ≠ g := by omega
  refine ⟨some w.heap.size, new, N, 0, ⟨hb2, fun b hb => ?_, hsz, fun h => (nomatch h), by omega, by omega, hN⟩,
    hx.moved (by rw [vals_len]; omega) (fun i hi => hpre i (by rw [vals_len] at hi; omega)), hnN, ?_, .inr ⟨_, rfl, Nat.le_refl _⟩⟩
  · cases hb
    exact ⟨hne, (hnew.far (p := ⟨g, 0, none⟩) hne _).far (p := ⟨g, 1, none⟩) hne _⟩
  · have ho : Only (fun x => x = g) w wr := honly.mono (fun i h => h.elim)
    exact (ho.setCell (p := ⟨g, 0, none⟩) (.inl rfl) _).setCell (p := ⟨g, 1, none⟩) (.inl rfl) _

def RoomPost (w : World) (g : Nat) (cb : Option Nat) (n : Nat) (xs : List El) (e : Ending) (w' : World) : Prop :=
  e = .returned (.tuple #[]) ∧ ∃ cb' cur' L' fr', Dq 51 3 w' g cb' cur' L' fr' n ∧ Has cur' L' fr' (vals xs) ∧ n < L' ∧ Only (· = g) w w' ∧ (cb' = cb ∨ ∃ b, cb' = some b ∧ w.heap.size ≤ b)

section
variable (w : World) (g : Nat) (cb : Option Nat) (cur : Array Value) (L fr n : Nat) (xs : List El)

set_option maxHeartbeats 400000 in
theorem room_not (hd : Dq 51 3 w g cb cur L fr n) (hx : Has cur L fr (vals xs)) (hlt : n < L) :
    Calls Try.prog 29 #[.pointer (some ⟨g, 0, none⟩)] w (RoomPost w g cb n xs) := by
  have hfin : ∀ k, RoomPost w g cb n xs (.returned (.tuple #[])) (w.drewN k) := fun k =>
    ⟨rfl, cb, cur, L, fr, ⟨hd.blk, hd.row, hd.size, hd.none_, hd.nle, hd.fle, hd.big⟩, hx, hlt, (Only.refl _ _).drewN _, .inl rfl⟩
  have HF := Lib.hid hfin
  have h0 := hd.blk.cell 0
  have h2 := hd.blk.cell 2
  simp only [List.getElem?_toArray, List.getElem?_cons_zero, List.getElem?_cons_succ] at h0 h2
  have hi : (n : Int) < (L : Int) := by omega
  clear hfin hd hx
  go_enter Try.func29, Try.ntmps29
  go_wp2_with fail
  go_quiet (fail)
  go_wp2
  exact bodyPost_ret (results_none rfl _ _ _) rfl (HF.out _)

set_option maxHeartbeats 800000 in
theorem room_full (hd : Dq 51 3 w g cb cur L fr n) (hx : Has cur L fr (vals xs)) (hn : xs.length = n) (hb : n ≤ 10000) (hlt : n = L) :
    Calls Try.prog 29 #[.pointer (some ⟨g, 0, none⟩)] w (RoomPost w g cb n xs) := by
  subst hlt
  have h0 := hd.blk.cell 0
  have h1 := hd.blk.cell 1
  have h2 := hd.blk.cell 2
  simp only [List.getElem?_toArray, List.getElem?_cons_zero, List.getElem?_cons_succ] at h0 h1 h2
  obtain ⟨N, hN⟩ : ∃ N : Nat, N = max 4 (2 * n) := ⟨_, rfl⟩
  have hN1 : n < N := by omega
  have hN2 : N ≤ 100000 := by omega
  have hmk := run_new N hN2
  have HD := Lib.hid hd
  have HX := Lib.hid hx
  obtain ⟨A, hAe⟩ : ∃ A, (cb.map fun b => (⟨b, 0, none⟩ : Addr)) = A := ⟨_, rfl⟩
  rw [hAe] at h0
  have hAt : ∀ k, k < n → ∃ b, A = some ⟨b, 0, none⟩ ∧ b ≠ g ∧ Blk w b 3 cur ∧ cur[(fr + k) % n]? = some (V (xs.getD k default)) ∧ (fr + k) % n < n ∧ fr < n := fun k hk => by
    cases hcb : cb with
    | none => have := hd.none_ hcb; omega
    | some b =>
      obtain ⟨r1, r2⟩ := hd.row b hcb
      have hlt : (fr + k) % n < n := Nat.mod_lt _ (by omega)
      have h3 := hx k (by rw [vals_len]; omega)
      rw [vals_at (by omega)] at h3
      refine ⟨b, by rw [← hAe, hcb]; rfl, r1, r2, ?_, hlt, ?_⟩
      · rw [h3]; simp [List.getD, show k < xs.length by omega]
      · rcases hd.fle with h | h <;> omega
  have HAt := Lib.hid hAt
  have hw := hd.blk.lt
  have h2a : ∀ q, ((w.drewN q).alloc (.cells (zeros N) 3)).cell? ⟨g, 2, none⟩ = some (.int .i64 (n : Int)) := fun q => (World.cell?_alloc_lt (w.drewN q) _ _ hw).trans h2
  clear hd hx hAt hAe
  by_cases hq : 2 * n ≤ 4
  case' pos => rw [show (N : Int) = 4 by omega] at hmk
  case' neg => rw [show (N : Int) = 2 * (n : Int) by omega] at hmk
  all_goals
    clear hN
    go_enter Try.func29, Try.ntmps29
    go_wp2_with fail
    go_quiet (fail)
    go_wp2
    go_loopw [25] (fun i wr => ∃ k : Nat, k ≤ n ∧ i = .int .i64 k ∧ ∃ new : Array Value, Blk wr w.heap.size 3 new ∧ new.size = N ∧ Hid (∀ i, i < k → new[i]? = cur[(fr + i) % n]?) ∧ Only (fun _ => False) w wr) (fun i _ => n - (intOf i).toNat)
    case atStart => exact ⟨0, by omega, rfl, zeros N, Blk.new (w.drewN nq) 3 (zeros N), zeros_size N, fun i hi => by omega, ((Only.refl _ _).drewN _).alloc _⟩
    case round =>
      obtain ⟨k, hk, rfl, new, hnew, hsz, hpre, honly⟩ := hrel
      by_cases hlt : k < n
      · go_wp2_with fail
        obtain ⟨b, rfl, hbg, hblk, hcur, hp, hfr⟩ := HAt.out k hlt
        have c0 : wr.cell? ⟨g, 0, none⟩ = some (.slice (some ⟨b, 0, none⟩) n n) := (World.cell?_of_block (honly.block g hw (fun h => h))).trans h0
        have c1 : wr.cell? ⟨g, 1, none⟩ = some (.int .i64 (fr : Int)) := (World.cell?_of_block (honly.block g hw (fun h => h))).trans h1
        obtain ⟨p, hpe⟩ : ∃ p, (fr + k) % n = p := ⟨_, rfl⟩
        rw [hpe] at hcur hp
        have c2 : wr.cell? ⟨b, p, none⟩ = some (V (xs.getD k default)) := ((World.cell?_of_block (honly.block b hblk.lt (fun h => h))).trans (hblk.cell p)).trans hcur
        have c3 : ∃ u, wr.cell? ⟨w.heap.size, k, none⟩ = some u := ⟨_, (hnew.cell k).trans (Array.getElem?_eq_getElem (by rw [hsz]; omega))⟩
        obtain ⟨u, c3⟩ := c3
        have c4 := hnew.frozen k
        have KP := Lib.hid (fun W h0 h1 => place_any g (some ⟨b, 0, none⟩) n fr k p W (by omega) (by omega) (by omega) hpe h0 h1)
        have HCU := Lib.hid hcur
        have HPE := Lib.hid hpe
        generalize xs.getD k default = x at *
        clear hpe hcur
        have n1 : w.heap.size ≠ g := by omega
        have n2 : w.heap.size ≠ b := by have := hblk.lt; omega
        have i1 : (0 : Int) ≤ (k : Int) := by omega
        have i2 : (k : Int) < (N : Int) := by omega
        have i3 : (0 : Int) ≤ (p : Int) := by omega
        have i4 : (p : Int) < (n : Int) := by omega
        go_wp2_with fail
        go_region_held3 (fun w' => w'.cell? ⟨g, 0, none⟩ = some (.slice (some ⟨b, 0, none⟩) n n) ∧ w'.cell? ⟨g, 1, none⟩ = some (.int .i64 (fr : Int)) ∧ w'.cell? ⟨b, p, none⟩ = some (V x)) (go_keep)
          (first | (go_at_call 30; refine (KP.out _ ?_ ?_).mono ?_; (simp [*]); (simp [*]); rintro e w' ⟨rfl, nq2, rfl⟩))
        have hsz1 : k < new.size := by rw [hsz]; omega
        have hnew' := (hnew.drewN (1 + nq2)).set_ k (V x)
        have honly' : Only (fun _ => False) w ((wr.drewN (1 + nq2)).setCell ⟨w.heap.size, k, none⟩ (V x)) := (honly.drewN _).setCell (p := ⟨w.heap.size, k, none⟩) (.inr (Nat.le_refl _)) _
        have hpre' : Hid (∀ i, i < k + 1 → (new.setIfInBounds k (V x))[i]? = cur[(fr + i) % n]?) := fun i hi => by
          rcases Nat.lt_succ_iff_lt_or_eq.1 hi with h | rfl
          · rw [Array.getElem?_setIfInBounds_ne (by omega)]; exact hpre.out i h
          · rw [Array.getElem?_setIfInBounds_self, if_pos hsz1, HPE.out, HCU.out]
        clear hnew honly hpre c0 c1 c2 c3
        go_wp2
        go_roundw
        case rel => exact ⟨k + 1, by omega, by go_num, _, hnew', by rw [Array.size_setIfInBounds]; exact hsz, hpre', honly'⟩
        case measure => simp [intOf]; omega
      · obtain rfl : k = n := by omega
        have c0 : wr.cell? ⟨g, 0, none⟩ = some (.slice A k k) := (World.cell?_of_block (honly.block g hw (fun h => h))).trans h0
        have c1 : wr.cell? ⟨g, 1, none⟩ = some (.int .i64 (fr : Int)) := (World.cell?_of_block (honly.block g hw (fun h => h))).trans h1
        have hg2 := HD.out.blk.only honly (fun h => h)
        have f0 := hg2.frozen 0
        have f1 := hg2.frozen 1
        go_wp2
        exact bodyPost_end (results_none rfl _ _ _) rfl ⟨rfl, room_end HD.out HX.out hn hN1 hN2 honly hnew hsz hpre.out⟩

theorem room_any (hd : Dq 51 3 w g cb cur L fr n) (hx : Has cur L fr (vals xs)) (hn : xs.length = n) (hb : n ≤ 10000) :
    Calls Try.prog 29 #[.pointer (some ⟨g, 0, none⟩)] w (RoomPost w g cb n xs) := by
  by_cases h : n < L
  · exact room_not w g cb cur L fr n xs hd hx h
  · exact room_full w g cb cur L fr n xs hd hx hn hb (by have := hd.nle; omega)
end

theorem place_q (g : Nat) (A : Option Addr) (L from_ i p : Nat) (w : World)
    (hL : 0 < L) (hb : from_ + i ≤ 4611686018427387904) (hL2 : L ≤ 4611686018427387904) (hp : (from_ + i) % L = p)
    (h0 : w.cell? ⟨g, 0, none⟩ = some (.slice A L L)) (h1 : w.cell? ⟨g, 1, none⟩ = some (.int .i64 (from_ : Int))) :
    Calls Try.prog 30 #[.pointer (some ⟨g, 0, none⟩), .int .i64 (i : Int)] w fun e w' => e = .returned (.int .i64 p) ∧ ∃ n, w' = w.drewN n :=
  place_any g A L from_ i p w hL hb hL2 hp h0 h1

def RetPost (w : World) (v : Value) (e : Ending) (w' : World) : Prop := e = .returned v ∧ w = w'

set_option maxHeartbeats 400000 in
theorem len_any (w : World) (g n : Nat) (h2 : w.cell? ⟨g, 2, none⟩ = some (.int .i64 (n : Int))) :
    Calls Try.prog 25 #[.pointer (some ⟨g, 0, none⟩)] w (RetPost w (.int .i64 (n : Int))) := by
  go_enter Try.func25, Try.ntmps25
  go_wp2
  go_ret
  exact ⟨rfl, rfl⟩

def AtPost (w : World) (v : Value) (ok : Bool) (e : Ending) (w' : World) : Prop := e = .returned (.tuple #[v, .bool ok]) ∧ ∃ k, w' = w.drewN k

section
variable (w : World) (g : Nat) (cb : Option Nat) (cur : Array Value) (L fr n : Nat) (xs : List El)

set_option maxHeartbeats 400000 in
theorem at_out (hd : Dq 51 3 w g cb cur L fr n) (hb : n ≤ 10000) (i : Int) (hi : i < 0 ∨ (n : Int) ≤ i) :
    Calls Try.prog 31 #[.pointer (some ⟨g, 0, none⟩), .int .i64 i] w (AtPost w zero false) := by
  have h2 := hd.blk.cell 2
  simp only [List.getElem?_toArray, List.getElem?_cons_zero, List.getElem?_cons_succ] at h2
  have KL := Lib.hid (len_any w g n h2)
  clear hd
  by_cases h0 : i < 0
  · clear hi
    go_enter Try.func31, Try.ntmps31
    go_wp2_with fail
    go_ret2
    exact ⟨rfl, 0, rfl⟩
  · have h1 : (n : Int) ≤ i := by omega
    clear hi
    go_enter Try.func31, Try.ntmps31
    go_wp2_with fail
    with_reducible (refine Calls.mono KL.out ?_)
    rintro e w1 hp
    obtain ⟨rfl, rfl⟩ := hp
    go_wp2_with fail
    go_ret2
    exact ⟨rfl, 0, rfl⟩

set_option maxHeartbeats 800000 in
theorem at_in (hd : Dq 51 3 w g cb cur L fr n) (hx : Has cur L fr (vals xs)) (hn : xs.length = n) (hb : n ≤ 10000) (i : Nat) (hi : i < n) :
    Calls Try.prog 31 #[.pointer (some ⟨g, 0, none⟩), .int .i64 (i : Int)] w (AtPost w (V (xs.getD i default)) true) := by
  have h0 := hd.blk.cell 0
  have h1 := hd.blk.cell 1
  have h2 := hd.blk.cell 2
  simp only [List.getElem?_toArray, List.getElem?_cons_zero, List.getElem?_cons_succ] at h0 h1 h2
  have hnL := hd.nle
  have hbig := hd.big
  obtain ⟨b, rfl, r1, r2⟩ : ∃ b, cb = some b ∧ b ≠ g ∧ Blk w b 3 cur := by
    cases cb with
    | none => have := hd.none_ rfl; omega
    | some b => exact ⟨b, rfl, hd.row b rfl⟩
  simp only [Option.map_some] at h0
  have hfr : fr < L := by rcases hd.fle with h | h <;> omega
  obtain ⟨p, hpe⟩ : ∃ p, (fr + i) % L = p := ⟨_, rfl⟩
  have hp : p < L := by rw [← hpe]; exact Nat.mod_lt _ (by omega)
  have h3 := hx i (by rw [vals_len]; omega)
  rw [vals_at (by omega), hpe] at h3
  have c2 : w.cell? ⟨b, p, none⟩ = some (V (xs.getD i default)) := by
    rw [r2.cell, h3]; simp [List.getD, show i < xs.length by omega]
  have KL := Lib.hid (len_any w g n h2)
  have KP := Lib.hid (fun W h0 h1 => place_q g (some ⟨b, 0, none⟩) L fr i p W (by omega) (by omega) (by omega) hpe h0 h1)
  generalize xs.getD i default = x at *
  have i1 : (0 : Int) ≤ (i : Int) := by omega
  have i2 : (i : Int) < (n : Int) := by omega
  have i3 : (0 : Int) ≤ (p : Int) := by omega
  have i4 : (p : Int) < (L : Int) := by omega
  clear hd hx hn h3 hpe r2 r1 h2
  go_enter Try.func31, Try.ntmps31
  go_wp2_with fail
  with_reducible (refine Calls.mono KL.out ?_)
  rintro e w1 hp
  obtain ⟨rfl, rfl⟩ := hp
  go_wp2_with fail
  go_quiet ((go_at_call 30; exact Calls.quiet_of (KP.out _ h0 h1)))
  go_wp2
  go_ret2
  exact ⟨rfl, _, rfl⟩
end

/-- What the Deque at g reads as, somewhere. -/
def Deq (w : World) (g : Nat) (cb : Option Nat) (xs : List El) : Prop := ∃ cur L fr, Dq 51 3 w g cb cur L fr xs.length ∧ Has cur L fr (vals xs)

def Lands (w : World) (g : Nat) (cb : Option Nat) (xs : List El) (w' : World) : Prop :=
  ∃ cb', Deq w' g cb' xs ∧ Only (Its g cb) w w' ∧ (cb' = cb ∨ ∃ b, cb' = some b ∧ w.heap.size ≤ b)

def PushPost (w : World) (g : Nat) (cb : Option Nat) (xs : List El) (e : Ending) (w' : World) : Prop := e = .returned (.tuple #[]) ∧ Lands w g cb xs w'

theorem vals_append (xs ys : List El) : vals (xs ++ ys) = vals xs ++ vals ys := by simp [vals]

theorem push_end {w w1 : World} {g b k : Nat} {cb : Option Nat} {cur : Array Value} {L fr n p : Nat} {xs : List El} {x : El} (hd : Dq 51 3 w1 g (some b) cur L fr n) (hx : Has cur L fr (vals xs)) (hn : xs.length = n) (hlt : n < L)
    (honly : Only (· = g) w w1) (hcb : some b = cb ∨ ∃ b', some b = some b' ∧ w.heap.size ≤ b') (hp : (fr + n) % L = p) :
    Lands w g cb (xs ++ [x]) (((w1.drewN k).setCell ⟨b, p, none⟩ (V x)).setCell ⟨g, 2, none⟩ (.int .i64 ((n : Int) + 1))) := by
  obtain ⟨hne, hrow⟩ := hd.row b rfl
  subst hp
  have hg : Blk (((w1.drewN k).setCell ⟨b, (fr + n) % L, none⟩ (V x)).setCell ⟨g, 2, none⟩ (.int .i64 ((n : Int) + 1))) g 51 _ := ((hd.blk.drewN k).far (p := ⟨b, (fr + n) % L, none⟩) (Ne.symm hne) _).set_ 2 _
  have hb : Blk (((w1.drewN k).setCell ⟨b, (fr + n) % L, none⟩ (V x)).setCell ⟨g, 2, none⟩ (.int .i64 ((n : Int) + 1))) b 3 _ := ((hrow.drewN k).set_ ((fr + n) % L) (V x)).far (p := ⟨g, 2, none⟩) hne _
  refine ⟨some b, ⟨cur.setIfInBounds ((fr + n) % L) (V x), L, fr, ⟨?_, fun b' hb' => ?_, ?_, fun h => (nomatch h), ?_, hd.fle, hd.big⟩, ?_⟩, ?_, hcb⟩
  · have e : ((xs ++ [x]).length : Int) = (n : Int) + 1 := by simp [hn]
    rw [e]; exact hg
  · cases hb'; exact ⟨hne, hb⟩
  · rw [Array.size_setIfInBounds]; exact hd.size
  · rw [List.length_append, hn]; simp; omega
  · rw [vals_append]
    have := hx.push hd.size (by rw [vals_len]; omega) (V x)
    rw [vals_len, hn] at this
    exact this
  · have ho : Only (Its g cb) w w1 := honly.mono (fun i h => .inl h)
    have hbS : Its g cb b ∨ w.heap.size ≤ b := by
      rcases hcb with h | ⟨b', h, h'⟩
      · exact .inl (.inr h.symm)
      · cases h; exact .inr h'
    exact ((ho.drewN k).setCell (p := ⟨b, (fr + n) % L, none⟩) hbS _).setCell (p := ⟨g, 2, none⟩) (.inl (.inl rfl)) _

section
variable (w : World) (g : Nat) (cb : Option Nat) (xs : List El)

set_option maxHeartbeats 800000 in
theorem push_any (hd0 : Deq w g cb xs) (hb : xs.length ≤ 10000) (x : El) :
    Calls Try.prog 21 #[.pointer (some ⟨g, 0, none⟩), V x] w (PushPost w g cb (xs ++ [x])) := by
  obtain ⟨cur0, L0, fr0, hd, hx⟩ := hd0
  have KR := Lib.hid (room_any w g cb cur0 L0 fr0 xs.length xs hd hx rfl hb)
  clear hd hx
  generalize hN : xs.length = n at *
  have HN := Lib.hid hN
  clear hN
  go_enter Try.func21, Try.ntmps21
  go_wp2_with fail
  with_reducible (refine Calls.mono KR.out ?_)
  rintro e w1 hp
  obtain ⟨rfl, cb', cur, L, fr, hd, hx, hlt, honly, hcb⟩ := hp
  obtain ⟨b, rfl⟩ : ∃ b, cb' = some b := by
    cases cb' with
    | none => have := hd.none_ rfl; omega
    | some b => exact ⟨b, rfl⟩
  have h0 := hd.blk.cell 0
  have h1 := hd.blk.cell 1
  have h2 := hd.blk.cell 2
  simp only [List.getElem?_toArray, List.getElem?_cons_zero, List.getElem?_cons_succ, Option.map_some] at h0 h1 h2
  obtain ⟨hne, hrow⟩ := hd.row b rfl
  obtain ⟨p, hpe⟩ : ∃ p, (fr + n) % L = p := ⟨_, rfl⟩
  have hp : p < L := by rw [← hpe]; exact Nat.mod_lt _ (by omega)
  have c3 : ∃ u, w1.cell? ⟨b, p, none⟩ = some u := ⟨_, (hrow.cell p).trans (Array.getElem?_eq_getElem (by rw [hd.size]; exact hp))⟩
  obtain ⟨u, c3⟩ := c3
  have f3 := hrow.frozen p
  have f2 := hd.blk.frozen 2
  have hbig := hd.big
  have hfr : fr < L := by rcases hd.fle with h | h <;> omega
  have KP := Lib.hid (fun W h0 h1 => place_q g (some ⟨b, 0, none⟩) L fr n p W (by omega) (by omega) (by omega) hpe h0 h1)
  have HE := Lib.hid (fun k => push_end (k := k) (x := x) hd hx HN.out hlt honly hcb hpe)
  have i3 : (0 : Int) ≤ (p : Int) := by omega
  have i4 : (p : Int) < (L : Int) := by omega
  clear hd hx hrow honly hcb hpe
  go_wp2_with fail
  go_region_held3 (fun w' => w'.cell? ⟨g, 0, none⟩ = some (.slice (some ⟨b, 0, none⟩) L L) ∧ w'.cell? ⟨g, 1, none⟩ = some (.int .i64 (fr : Int)) ∧ w'.cell? ⟨g, 2, none⟩ = some (.int .i64 (n : Int))) (go_keep)
    (first | (go_at_call 30; refine (KP.out _ ?_ ?_).mono ?_; (simp [*]); (simp [*]); rintro e w' ⟨rfl, nq2, rfl⟩))
  go_wp2
  exact bodyPost_end (results_none rfl _ _ _) rfl ⟨rfl, HE.out _⟩
end

/-- The end of Shove. -/
theorem shove_end {w w1 : World} {g b k q p : Nat} {cb : Option Nat} {cur : Array Value} {L fr n : Nat} {xs : List El} {x : El} (hd : Dq 51 3 w1 g (some b) cur L fr n) (hx : Has cur L fr (vals xs)) (hn : xs.length = n) (hlt : n < L)
    (honly : Only (· = g) w w1) (hcb : some b = cb ∨ ∃ b', some b = some b' ∧ w.heap.size ≤ b') (hp : (fr + (L - 1)) % L = p) :
    Lands w g cb (x :: xs) (((((w1.drewN k).setCell ⟨g, 1, none⟩ (.int .i64 (p : Int))).drewN q).setCell ⟨b, p, none⟩ (V x)).setCell ⟨g, 2, none⟩ (.int .i64 ((n : Int) + 1))) := by
  obtain ⟨hne, hrow⟩ := hd.row b rfl
  subst hp
  have hpl : (fr + (L - 1)) % L < L := Nat.mod_lt _ (by omega)
  have hg := ((((hd.blk.drewN k).set_ 1 (.int .i64 (((fr + (L - 1)) % L : Nat) : Int))).drewN q).far (p := ⟨b, (fr + (L - 1)) % L, none⟩) (Ne.symm hne) (V x)).set_ 2 (.int .i64 ((n : Int) + 1))
  have hb := ((((hrow.drewN k).far (p := ⟨g, 1, none⟩) hne (.int .i64 (((fr + (L - 1)) % L : Nat) : Int))).drewN q).set_ ((fr + (L - 1)) % L) (V x)).far (p := ⟨g, 2, none⟩) hne (.int .i64 ((n : Int) + 1))
  refine ⟨some b, ⟨cur.setIfInBounds ((fr + (L - 1)) % L) (V x), L, (fr + (L - 1)) % L, ⟨?_, fun b' hb' => ?_, ?_, fun h => (nomatch h), ?_, .inl hpl, hd.big⟩, ?_⟩, ?_, hcb⟩
  · have e : ((x :: xs).length : Int) = (n : Int) + 1 := by simp [hn]
    rw [e]; exact hg
  · cases hb'; exact ⟨hne, hb⟩
  · rw [Array.size_setIfInBounds]; exact hd.size
  · rw [List.length_cons, hn]; omega
  · exact hx.shove hd.size (by rw [vals_len]; omega) (V x)
  · have ho : Only (Its g cb) w w1 := honly.mono (fun i h => .inl h)
    have hbS : Its g cb b ∨ w.heap.size ≤ b := by
      rcases hcb with h | ⟨b', h, h'⟩
      · exact .inl (.inr h.symm)
      · cases h; exact .inr h'
    exact ((((ho.drewN k).setCell (p := ⟨g, 1, none⟩) (.inl (.inl rfl)) _).drewN q).setCell (p := ⟨b, (fr + (L - 1)) % L, none⟩) hbS _).setCell (p := ⟨g, 2, none⟩) (.inl (.inl rfl)) _

section
variable (w : World) (g : Nat) (cb : Option Nat) (xs : List El)

set_option maxHeartbeats 800000 in
theorem shove_any (hd0 : Deq w g cb xs) (hb : xs.length ≤ 10000) (x : El) :
    Calls Try.prog 22 #[.pointer (some ⟨g, 0, none⟩), V x] w (PushPost w g cb (x :: xs)) := by
  obtain ⟨cur0, L0, fr0, hd, hx⟩ := hd0
  have KR := Lib.hid (room_any w g cb cur0 L0 fr0 xs.length xs hd hx rfl hb)
  clear hd hx
  generalize hN : xs.length = n at *
  have HN := Lib.hid hN
  clear hN
  go_enter Try.func22, Try.ntmps22
  go_wp2_with fail
  with_reducible (refine Calls.mono KR.out ?_)
  rintro e w1 hp
  obtain ⟨rfl, cb', cur, L, fr, hd, hx, hlt, honly, hcb⟩ := hp
  obtain ⟨b, rfl⟩ : ∃ b, cb' = some b := by
    cases cb' with
    | none => have := hd.none_ rfl; omega
    | some b => exact ⟨b, rfl⟩
  have h0 := hd.blk.cell 0
  have h1 := hd.blk.cell 1
  have h2 := hd.blk.cell 2
  simp only [List.getElem?_toArray, List.getElem?_cons_zero, List.getElem?_cons_succ, Option.map_some] at h0 h1 h2
  obtain ⟨hne, hrow⟩ := hd.row b rfl
  obtain ⟨p, hpe⟩ : ∃ p, (fr + (L - 1)) % L = p := ⟨_, rfl⟩
  have hp : p < L := by rw [← hpe]; exact Nat.mod_lt _ (by omega)
  have c3 : ∃ u, w1.cell? ⟨b, p, none⟩ = some u := ⟨_, (hrow.cell p).trans (Array.getElem?_eq_getElem (by rw [hd.size]; exact hp))⟩
  obtain ⟨u, c3⟩ := c3
  have f3 := hrow.frozen p
  have f2 := hd.blk.frozen 2
  have f1 := hd.blk.frozen 1
  have hbig := hd.big
  have hfr : fr < L := by rcases hd.fle with h | h <;> omega
  have KP := Lib.hid (fun W h0 h1 => place_q g (some ⟨b, 0, none⟩) L fr (L - 1) p W (by omega) (by omega) (by omega) hpe h0 h1)
  rw [show ((L - 1 : Nat) : Int) = (L : Int) - 1 by omega] at KP
  have i3 : (0 : Int) ≤ (p : Int) := by omega
  have i4 : (p : Int) < (L : Int) := by omega
  have HD := Lib.hid hd
  have HX := Lib.hid hx
  have HO := Lib.hid honly
  have HC := Lib.hid hcb
  have HP := Lib.hid hpe
  have hgl := hd.blk.lt
  clear hd hx hrow honly hcb hpe
  go_wp2_with fail
  with_reducible (refine Calls.mono (KP.out _ h0 h1) ?_)
  rintro e w2 hp2
  obtain ⟨rfl, nq, rfl⟩ := hp2
  go_wp2_with fail
  have HE := Lib.hid (fun q => shove_end (k := nq) (q := q) (x := x) HD.out HX.out HN.out hlt HO.out HC.out HP.out)
  have hg := ((HD.out.blk.drewN nq).set_ 1 (.int .i64 (p : Int)))
  have hr := (((HD.out.row b rfl).2.drewN nq).far (p := ⟨g, 1, none⟩) hne (.int .i64 (p : Int)))
  have hsz := HD.out.size
  generalize (w1.drewN nq).setCell ⟨g, 1, none⟩ (.int .i64 (p : Int)) = w2 at *
  clear h0 h1 h2 c3 f3 f2 f1 KP
  have h0 := hg.cell 0
  have h1 := hg.cell 1
  have h2 := hg.cell 2
  have f2 := hg.frozen 2
  have f3 := hr.frozen p
  have c3 := hr.cell p
  rw [Array.getElem?_eq_getElem (by rw [hsz]; exact hp)] at c3
  generalize cur[p]'(by rw [hsz]; exact hp) = u at *
  simp at h0 h1 h2
  clear hg hr hsz
  go_region_held3 (fun w' => w'.cell? ⟨g, 0, none⟩ = some (.slice (some ⟨b, 0, none⟩) L L) ∧ w'.cell? ⟨g, 1, none⟩ = some (.int .i64 (p : Int)) ∧ w'.cell? ⟨g, 2, none⟩ = some (.int .i64 (n : Int))) (go_keep) (fail)
  go_wp2
  exact bodyPost_end (results_none rfl _ _ _) rfl ⟨rfl, HE.out _⟩
end

def TakePost (w : World) (g : Nat) (cb : Option Nat) (v : Value) (ok : Bool) (xs : List El) (e : Ending) (w' : World) : Prop :=
  e = .returned (.tuple #[v, .bool ok]) ∧ Lands w g cb xs w'

theorem lands_drew {w : World} {g : Nat} {cb : Option Nat} {xs : List El} (h : Deq w g cb xs) (k : Nat) : Lands w g cb xs (w.drewN k) := by
  obtain ⟨cur, L, fr, hd, hx⟩ := h
  exact ⟨cb, ⟨cur, L, fr, hd.only ((Only.refl (fun _ => False) _).drewN k) (fun h => h) (fun _ _ h => h), hx⟩, (Only.refl _ _).drewN k, .inl rfl⟩

/-- The end of Pop. -/
theorem pop_end {w : World} {g b j k q p : Nat} {cur : Array Value} {L fr n : Nat} {xs : List El} {x : El} (hd : Dq 51 3 w g (some b) cur L fr n) (hx : Has cur L fr (vals (x :: xs))) (hn : (x :: xs).length = n)
    (hp : (fr + 1) % L = p) :
    Lands w g (some b) xs ((((((w.drewN j).setCell ⟨b, fr, none⟩ zero).drewN k).setCell ⟨g, 1, none⟩ (.int .i64 (p : Int))).drewN q).setCell ⟨g, 2, none⟩ (.int .i64 ((n : Int) - 1))) := by
  obtain ⟨hne, hrow⟩ := hd.row b rfl
  have hnL := hd.nle
  rw [List.length_cons] at hn
  have hfr : fr < L := by rcases hd.fle with h | h <;> omega
  subst hp
  have hpl : (fr + 1) % L < L := Nat.mod_lt _ (by omega)
  have hg := (((((hd.blk.drewN j).far (p := ⟨b, fr, none⟩) (Ne.symm hne) zero).drewN k).set_ 1 (.int .i64 (((fr + 1) % L : Nat) : Int))).drewN q).set_ 2 (.int .i64 ((n : Int) - 1))
  have hb := (((((hrow.drewN j).set_ fr zero).drewN k).far (p := ⟨g, 1, none⟩) hne (.int .i64 (((fr + 1) % L : Nat) : Int))).drewN q).far (p := ⟨g, 2, none⟩) hne (.int .i64 ((n : Int) - 1))
  refine ⟨some b, ⟨cur.setIfInBounds fr zero, L, (fr + 1) % L, ⟨?_, fun b' hb' => ?_, ?_, fun h => (nomatch h), ?_, .inl hpl, hd.big⟩, ?_⟩, ?_, .inl rfl⟩
  · have e : (xs.length : Int) = (n : Int) - 1 := by omega
    rw [e]; exact hg
  · cases hb'; exact ⟨hne, hb⟩
  · rw [Array.size_setIfInBounds]; exact hd.size
  · omega
  · exact Has.pop (x := V x) (xs := vals xs) hx hfr (by rw [vals_len]; omega) zero
  · exact (((((Only.refl (Its g (some b)) w).drewN j).setCell (p := ⟨b, fr, none⟩) (.inl (.inr rfl)) _).drewN k).setCell (p := ⟨g, 1, none⟩) (.inl (.inl rfl)) _ |>.drewN q).setCell (p := ⟨g, 2, none⟩) (.inl (.inl rfl)) _

section
variable (w : World) (g : Nat) (cb : Option Nat) (xs : List El)

set_option maxHeartbeats 800000 in
theorem pop_none (hd0 : Deq w g cb []) :
    Calls Try.prog 23 #[.pointer (some ⟨g, 0, none⟩)] w (TakePost w g cb zero false []) := by
  have hL := Lib.hid (lands_drew hd0)
  obtain ⟨cur, L, fr, hd, hx⟩ := hd0
  have KA := Lib.hid (at_out w g cb cur L fr 0 hd (by omega) 0 (.inr (by omega)))
  clear hd hx
  go_enter Try.func23, Try.ntmps23
  go_wp2_with fail
  with_reducible (refine Calls.mono KA.out ?_)
  rintro e w1 hp
  obtain ⟨rfl, k, rfl⟩ := hp
  go_wp2_with fail
  go_ret2
  exact ⟨rfl, hL.out k⟩

set_option maxHeartbeats 800000 in
theorem pop_some (x : El) (hd0 : Deq w g cb (x :: xs)) (hb : xs.length < 10000) :
    Calls Try.prog 23 #[.pointer (some ⟨g, 0, none⟩)] w (TakePost w g cb (V x) true xs) := by
  obtain ⟨cur, L, fr, hd, hx⟩ := hd0
  have hnL := hd.nle
  rw [List.length_cons] at hnL
  obtain ⟨b, rfl⟩ : ∃ b, cb = some b := by
    cases cb with
    | none => have := hd.none_ rfl; omega
    | some b => exact ⟨b, rfl⟩
  have hn1 : (x :: xs).length = xs.length + 1 := List.length_cons
  rw [hn1] at hd
  have KA := Lib.hid (at_in w g (some b) cur L fr (xs.length + 1) (x :: xs) hd hx hn1 (by omega) 0 (by omega))
  rw [show (x :: xs).getD 0 default = x from rfl] at KA
  have hfr : fr < L := by rcases hd.fle with h | h <;> omega
  have hbig := hd.big
  obtain ⟨p, hpe⟩ : ∃ p, (fr + 1) % L = p := ⟨_, rfl⟩
  obtain ⟨n, hn⟩ : ∃ n, xs.length + 1 = n := ⟨_, rfl⟩
  rw [hn] at hd hn1 hnL
  have HE := Lib.hid (fun j k q => pop_end (j := j) (k := k) (q := q) hd hx hn1 hpe)
  have KP := Lib.hid (fun W h0 h1 => place_q g (some ⟨b, 0, none⟩) L fr 1 p W (by omega) (by omega) (by omega) hpe h0 h1)
  rw [show ((1 : Nat) : Int) = 1 from rfl] at KP
  rw [show ((0 : Nat) : Int) = 0 from rfl] at KA
  obtain ⟨hne, hrow⟩ := hd.row b rfl
  have hblk := hd.blk
  have hsz := hd.size
  have hnb : 1 ≤ n ∧ n ≤ 10000 := by omega
  clear hd hx hn1 hpe hn
  obtain ⟨hnb1, hnb2⟩ := hnb
  have i3 : (0 : Int) ≤ (fr : Int) := by omega
  have i4 : (fr : Int) < (L : Int) := by omega
  go_enter Try.func23, Try.ntmps23
  go_wp2_with fail
  with_reducible (refine Calls.mono KA.out ?_)
  rintro e w1 hp
  obtain ⟨rfl, j, rfl⟩ := hp
  have h0 := (hblk.drewN j).cell 0
  have h1 := (hblk.drewN j).cell 1
  have h2 := (hblk.drewN j).cell 2
  have c3 := (hrow.drewN j).cell fr
  have f3 := (hrow.drewN j).frozen fr
  rw [Array.getElem?_eq_getElem (by rw [hsz]; exact hfr)] at c3
  generalize cur[fr]'(by rw [hsz]; exact hfr) = u at *
  simp at h0 h1 h2 c3 f3
  go_wp2_with fail
  go_region_held3 (fun w' => w'.cell? ⟨g, 0, none⟩ = some (.slice (some ⟨b, 0, none⟩) L L) ∧ w'.cell? ⟨g, 1, none⟩ = some (.int .i64 (fr : Int))) (go_keep) (fail)
  go_wp2_with fail
  have HE2 := Lib.hid (fun k q => HE.out (j + 1) k q)
  have hg := ((hblk.drewN (j + 1)).far (p := ⟨b, fr, none⟩) (Ne.symm hne) zero)
  generalize (w.drewN (j + 1)).setCell ⟨b, fr, none⟩ zero = w2 at *
  clear h0 h1 h2 c3 f3 HE KA
  have h0 := hg.cell 0
  have h1 := hg.cell 1
  have h2 := hg.cell 2
  have f1 := hg.frozen 1
  have f2 := hg.frozen 2
  simp at h0 h1 h2
  with_reducible (refine Calls.mono (KP.out _ h0 h1) ?_)
  rintro e w3 hp2
  obtain ⟨rfl, k, rfl⟩ := hp2
  go_wp2
  go_ret2
  exact ⟨rfl, HE2.out _ 0⟩
end

/-- The end of Drop. -/
theorem drop_end {w : World} {g b j k p : Nat} {cur : Array Value} {L fr n : Nat} {xs : List El} {x : El} (hd : Dq 51 3 w g (some b) cur L fr n) (hx : Has cur L fr (vals (xs ++ [x]))) (hn : xs.length + 1 = n)
    (hp : (fr + xs.length) % L = p) :
    Lands w g (some b) xs ((((w.drewN j).setCell ⟨g, 2, none⟩ (.int .i64 ((n : Int) - 1))).drewN k).setCell ⟨b, p, none⟩ zero) := by
  obtain ⟨hne, hrow⟩ := hd.row b rfl
  have hnL := hd.nle
  have hfr : fr < L := by rcases hd.fle with h | h <;> omega
  subst hp
  have hpl : (fr + xs.length) % L < L := Nat.mod_lt _ (by omega)
  have hg := (((hd.blk.drewN j).set_ 2 (.int .i64 ((n : Int) - 1))).drewN k).far (p := ⟨b, (fr + xs.length) % L, none⟩) (Ne.symm hne) zero
  have hb := (((hrow.drewN j).far (p := ⟨g, 2, none⟩) hne (.int .i64 ((n : Int) - 1))).drewN k).set_ ((fr + xs.length) % L) zero
  refine ⟨some b, ⟨cur.setIfInBounds ((fr + xs.length) % L) zero, L, fr, ⟨?_, fun b' hb' => ?_, ?_, fun h => (nomatch h), ?_, .inl hfr, hd.big⟩, ?_⟩, ?_, .inl rfl⟩
  · have e : (xs.length : Int) = (n : Int) - 1 := by omega
    rw [e]; exact hg
  · cases hb'; exact ⟨hne, hb⟩
  · rw [Array.size_setIfInBounds]; exact hd.size
  · omega
  · rw [vals_append] at hx
    have := Has.drop (x := V x) (xs := vals xs) hx (by rw [vals_len]; omega) zero
    rw [vals_len] at this
    exact this
  · exact ((((Only.refl (Its g (some b)) w).drewN j).setCell (p := ⟨g, 2, none⟩) (.inl (.inl rfl)) _).drewN k).setCell (p := ⟨b, (fr + xs.length) % L, none⟩) (.inl (.inr rfl)) _

section
variable (w : World) (g : Nat) (cb : Option Nat) (xs : List El)

set_option maxHeartbeats 800000 in
theorem drop_none (hd0 : Deq w g cb []) :
    Calls Try.prog 24 #[.pointer (some ⟨g, 0, none⟩)] w (TakePost w g cb zero false []) := by
  have hL := Lib.hid (lands_drew hd0)
  obtain ⟨cur, L, fr, hd, hx⟩ := hd0
  have KA := Lib.hid (at_out w g cb cur L fr 0 hd (by omega) (-1) (.inl (by omega)))
  have KN := Lib.hid (len_any w g 0 (by have h2 := hd.blk.cell 2; simpa using h2))
  rw [show ((0 : Nat) : Int) = 0 from rfl] at KN
  clear hd hx
  go_enter Try.func24, Try.ntmps24
  go_wp2_with fail
  with_reducible (refine Calls.mono KN.out ?_)
  rintro e w1 hp
  obtain ⟨rfl, rfl⟩ := hp
  go_wp2_with fail
  with_reducible (refine Calls.mono KA.out ?_)
  rintro e w1 hp
  obtain ⟨rfl, k, rfl⟩ := hp
  go_wp2_with fail
  go_ret2
  exact ⟨rfl, hL.out k⟩

set_option maxHeartbeats 800000 in
theorem drop_some (x : El) (hd0 : Deq w g cb (xs ++ [x])) (hb : xs.length < 10000) :
    Calls Try.prog 24 #[.pointer (some ⟨g, 0, none⟩)] w (TakePost w g cb (V x) true xs) := by
  obtain ⟨cur, L, fr, hd, hx⟩ := hd0
  have hn1 : (xs ++ [x]).length = xs.length + 1 := by simp
  rw [hn1] at hd
  have hnL := hd.nle
  obtain ⟨b, rfl⟩ : ∃ b, cb = some b := by
    cases cb with
    | none => have := hd.none_ rfl; omega
    | some b => exact ⟨b, rfl⟩
  have KA := Lib.hid (at_in w g (some b) cur L fr (xs.length + 1) (xs ++ [x]) hd hx hn1 (by omega) xs.length (by omega))
  rw [show (xs ++ [x]).getD xs.length default = x by simp] at KA
  have hfr : fr < L := by rcases hd.fle with h | h <;> omega
  have hbig := hd.big
  obtain ⟨p, hpe⟩ : ∃ p, (fr + xs.length) % L = p := ⟨_, rfl⟩
  have hpl : p < L := by rw [← hpe]; exact Nat.mod_lt _ (by omega)
  obtain ⟨n, hn⟩ : ∃ n, xs.length + 1 = n := ⟨_, rfl⟩
  have HE := Lib.hid (fun j k => drop_end (j := j) (k := k) (hn ▸ hd) hx hn hpe)
  have KP := Lib.hid (fun W h0 h1 => place_q g (some ⟨b, 0, none⟩) L fr xs.length p W (by omega) (by omega) (by omega) hpe h0 h1)
  rw [hn] at hd hn1 hnL
  rw [show ((xs.length : Nat) : Int) = (n : Int) - 1 by omega] at KA KP
  obtain ⟨hne, hrow⟩ := hd.row b rfl
  have hblk := hd.blk
  have hsz := hd.size
  have KN := Lib.hid (len_any w g n (by have h2 := hd.blk.cell 2; simpa using h2))
  have hnb : 1 ≤ n ∧ n ≤ 10000 := by omega
  clear hd hx hn1 hpe hn
  obtain ⟨hnb1, hnb2⟩ := hnb
  have i3 : (0 : Int) ≤ (p : Int) := by omega
  have i4 : (p : Int) < (L : Int) := by omega
  go_enter Try.func24, Try.ntmps24
  go_wp2_with fail
  with_reducible (refine Calls.mono KN.out ?_)
  rintro e w1 hp
  obtain ⟨rfl, rfl⟩ := hp
  go_wp2_with fail
  with_reducible (refine Calls.mono KA.out ?_)
  rintro e w1 hp
  obtain ⟨rfl, j, rfl⟩ := hp
  have h2 := (hblk.drewN j).cell 2
  have f2 := (hblk.drewN j).frozen 2
  simp at h2 f2
  go_wp2_with fail
  have HE2 := Lib.hid (fun k => HE.out j k)
  have hg := ((hblk.drewN j).set_ 2 (.int .i64 ((n : Int) - 1)))
  have hr := ((hrow.drewN j).far (p := ⟨g, 2, none⟩) hne (.int .i64 ((n : Int) - 1)))
  generalize (w.drewN j).setCell ⟨g, 2, none⟩ (.int .i64 ((n : Int) - 1)) = w2 at *
  clear h2 f2 HE KA KN
  have h0 := hg.cell 0
  have h1 := hg.cell 1
  have h2 := hg.cell 2
  have c3 := hr.cell p
  have f3 := hr.frozen p
  rw [Array.getElem?_eq_getElem (by rw [hsz]; exact hpl)] at c3
  generalize cur[p]'(by rw [hsz]; exact hpl) = u at *
  simp at h0 h1 h2 c3 f3
  go_region_held3 (fun w' => w'.cell? ⟨g, 0, none⟩ = some (.slice (some ⟨b, 0, none⟩) L L) ∧ w'.cell? ⟨g, 1, none⟩ = some (.int .i64 (fr : Int)) ∧ w'.cell? ⟨g, 2, none⟩ = some (.int .i64 ((n : Int) - 1))) (go_keep)
    (first | (go_at_call 30; refine (KP.out _ ?_ ?_).mono ?_; (simp [*]); (simp [*]); rintro e w' ⟨rfl, nq2, rfl⟩))
  go_wp2
  go_ret2
  exact ⟨rfl, HE2.out _⟩
end

end Go.Proofs.Ytopablmgadkppaa.Ints
