/- THE STATE of OracleBack's first loop: a tape over a script, and a list of ints. -/
import Derived.Test.YtbggoelfnolldaaBackLaw
namespace Go.Proofs.Ytbggoelfnolldaa
open Go.RowKit
set_option linter.unusedVariables false

theorem Vec.ne_vec {w : World} {e e' : TypeId} {size n cap size' n' cap' : Nat} {A A' : Option Addr} {xs xs' : List Value} (h : Vec w e size A n cap xs) (h' : Vec w e' size' A' n' cap' xs') (hne : e ≠ e') (b : Nat) (hb : In A b) : ¬ In A' b := by
  cases A with
  | none => cases hb
  | some a =>
    obtain ⟨b1, off, cur, rfl, hk, _⟩ := h.at_ a rfl
    cases hb
    exact h'.ne_ hk (Ne.symm hne)

structure BKC (B : Nat) (w0 : World) (s1 tp N0 : Nat) (D1 : Nat → Prop) (xa : List Int) (ea : List (Int × Int)) (gl : List Int) (w : World) (AE : Option Addr) (cE : Nat) (AG : Option Addr) (cG : Nat) : Prop where
  t : Tp w tp (.iface 27 (.pointer (some ⟨s1, 0, none⟩))) ea AE cE
  a : Script 63 w D1 s1 xa
  g : Vec w 3 1 AG gl.length cG (ints gl)
  bel : Below B w0 w
  size : N0 ≤ w.heap.size
  inE : ∀ b, In AE b → N0 ≤ b
  inG : ∀ b, In AG b → N0 ≤ b

section
variable {B : Nat} {w0 w w' : World} {s1 tp N0 : Nat} {D1 : Nat → Prop} {xa : List Int} {ea : List (Int × Int)} {gl : List Int} {AE AG : Option Addr} {cE cG : Nat}
theorem BKC.quiet (h : BKC B w0 s1 tp N0 D1 xa ea gl w AE cE AG cG) (hB : B ≤ N0) (ho : Only (fun _ => False) w w') : BKC B w0 s1 tp N0 D1 xa ea gl w' AE cE AG cG :=
  ⟨h.t.only ho (fun h => h) (fun _ _ h => h), h.a.only ho (fun h => h) (fun _ _ h => h), h.g.only ho (fun _ _ h => h), h.bel.trans (ho.below (Nat.le_trans hB h.size) (fun i h => h.elim)), Nat.le_trans h.size ho.size, h.inE, h.inG⟩

/-- The tape is asked. -/
theorem BKC.tape (h : BKC B w0 s1 tp N0 D1 xa ea gl w AE cE AG cG) (p1 : B ≤ s1) (p2 : s1 < tp) (p3 : tp < N0) (pd : ∀ b, D1 b → b < s1) (kd n : Int) (hn : In64 n) (hb : xa.length ≤ 10000) (hev : ea.length ≤ 10000) :
    Calls Try.prog 11 #[.pointer (some ⟨tp, 0, none⟩), .int .i64 kd, .int .i64 n] w fun e w' => e = .returned (.tuple #[.int .i64 (ans xa n).1, .int .i64 (ans xa n).2]) ∧
      ∃ AE' cE', BKC B w0 s1 tp N0 D1 (rest xa n) (noted ea kd (ans xa n)) gl w' AE' cE' AG cG := by
  have hz := h.size
  refine (tape_any w D1 tp s1 xa ea AE cE kd n h.t hn h.a pd (fun hd => by have := pd _ hd; omega) (fun b hb hd => by have := pd b hd; have := h.inE b hb; omega) hb hev).mono fun e w' hw => ?_
  obtain ⟨he, hs, ⟨⟨A', c', ht, hA'⟩, ho⟩⟩ := hw
  refine ⟨he, A', c', ht, hs, h.g.only ho ?_, h.bel.trans (ho.below (by omega) ?_), Nat.le_trans h.size ho.size, ?_, h.inG⟩
  · rintro b hb (e | e | e)
    · have := h.inG b hb; omega
    · have := h.inG b hb; omega
    · exact h.t.vec.ne_vec h.g (by decide) b e hb
  · rintro b (e | e | e)
    · omega
    · omega
    · have := h.inE _ e; omega
  · intro b hb
    rcases hA' b hb with e | e
    · exact h.inE b e
    · omega
/-- An answer is kept. -/
theorem BKC.app (h : BKC B w0 s1 tp N0 D1 xa ea gl w AE cE AG cG) (p1 : B ≤ s1) (p2 : s1 < tp) (p3 : tp < N0) (pd : ∀ b, D1 b → b < s1) {o : Obj} {A' : Addr} {c' : Nat} {x : Int}
    (hv : Vec w' 3 1 (some A') (gl.length + 1) c' (ints gl ++ [.int .i64 x])) (ho : Only (In AG) (w.alloc o) w') (hA : some A' = AG ∨ ∃ g, A' = ⟨g, 0, none⟩ ∧ (w.alloc o).heap.size ≤ g) :
    BKC B w0 s1 tp N0 D1 xa ea (gl ++ [x]) w' AE cE (some A') c' := by
  have h1 := h.quiet (by omega) ((Only.refl (fun _ => False) w).alloc o)
  have hz := h.size
  have hz1 := h1.size
  refine ⟨h1.t.only ho (fun e => by have := h.inG _ e; omega) (fun b hb => h1.t.vec.ne_vec h1.g (by decide) b hb), h1.a.only ho (fun e => by have := h.inG _ e; omega) (fun b hb e => by have := h.inG _ e; have := pd b hb; omega), ?_,
    h1.bel.trans (ho.below (by omega) (fun b e => by have := h.inG _ e; omega)), Nat.le_trans hz1 ho.size, h.inE, ?_⟩
  · rw [List.length_append, show ints (gl ++ [x]) = ints gl ++ [.int .i64 x] by simp [ints]]
    exact hv
  · intro b hb
    rcases hA with e | ⟨g, rfl, hg⟩
    · exact h.inG b (e ▸ hb)
    · cases hb
      rw [World.size_alloc] at hg
      show N0 ≤ g
      omega

/-- The state of the second loop: a log over what was noted, the answers kept. -/
structure BC2 (w0 : World) (s2 : Nat) (D2 : Nat → Prop) (gl : List Int) (ev : List (Int × Int)) (AG : Option Addr) (cG : Nat) (p : Nat) (w : World) : Prop where
  lg : Lg 67 w D2 s2 ev p
  g : Vec w 3 1 AG gl.length cG (ints gl)
  bel : Below w0.heap.size w0 w
  big : w0.heap.size ≤ s2
  lt : s2 < w.heap.size
  low : ∀ b, In AG b → b < s2
  d : ∀ b, D2 b → b < s2
theorem BC2.quiet {s2 : Nat} {D2 : Nat → Prop} {ev : List (Int × Int)} {p : Nat} (h : BC2 w0 s2 D2 gl ev AG cG p w) (ho : Only (fun _ => False) w w') : BC2 w0 s2 D2 gl ev AG cG p w' :=
  ⟨h.lg.only ho (fun h => h) (fun _ _ h => h), h.g.only ho (fun _ _ h => h), h.bel.trans (ho.below (by have := h.big; have := h.lt; omega) (fun i h => h.elim)), h.big, Nat.lt_of_lt_of_le h.lt ho.size, h.low, h.d⟩
/-- The log is asked. -/
theorem BC2.ask {s2 : Nat} {D2 : Nat → Prop} {ev : List (Int × Int)} {p : Nat} (h : BC2 w0 s2 D2 gl ev AG cG p w) (kd n : Int) (hb : ev.length ≤ 10000) {r : Int × Int} {q : Nat} (hr : lans ev p kd n = r ∧ lrest ev p kd n = q) :
    Calls Try.prog 17 #[.pointer (some ⟨s2, 0, none⟩), .int .i64 kd, .int .i64 n] w fun e w' => e = .returned (.tuple #[.int .i64 r.1, .int .i64 r.2]) ∧ BC2 w0 s2 D2 gl ev AG cG q w' := by
  refine (log_any w D2 s2 ev p kd n h.lg (fun e => Nat.lt_irrefl _ (h.d _ e)) hb).mono fun e w' hw => ?_
  obtain ⟨he, hs, ho⟩ := hw
  rw [hr.1] at he
  rw [hr.2] at hs
  exact ⟨he, hs, h.g.only ho (fun b hb e => by have := h.low b hb; omega), h.bel.trans (ho.below (by have := h.big; have := h.lt; omega) (fun i e => by have := h.big; omega)), h.big, Nat.lt_of_lt_of_le h.lt ho.size, h.low, h.d⟩
/-- An answer that was kept. -/
theorem BC2.cell {s2 : Nat} {D2 : Nat → Prop} {ev : List (Int × Int)} {p : Nat} (h : BC2 w0 s2 D2 gl ev AG cG p w) {k : Nat} (hk : k < gl.length) : ∃ b off, AG = some ⟨b, off, none⟩ ∧ ∀ w' q, BC2 w0 s2 D2 gl ev AG cG q w' → w'.cell? ⟨b, off + k, none⟩ = some (.int .i64 (gl.getD k 0)) := by
  obtain ⟨b, off, rfl, hb, hc⟩ := h.g.cell (by omega)
  refine ⟨b, off, rfl, fun w' q h' => ?_⟩
  obtain ⟨b', off', e, hb', hc'⟩ := h'.g.cell (by omega)
  cases e
  exact hc' k _ (by simp [ints, List.getD, hk])
theorem bc2_init {w8 w9 : World} {s2 : Nat} (h : BKC w0.heap.size w0 s1 tp N0 D1 xa ea gl w AE cE AG cG) (hB : w0.heap.size ≤ N0) (b8 : Below w.heap.size w w8) (h1 : w8.heap.size ≤ s2) (h2 : s2 < w9.heap.size)
    (l9 : Lg 67 w9 (fun b => w8.heap.size ≤ b ∧ b < s2) s2 ea 0) (b9 : Below w8.heap.size w8 w9) : BC2 w0 s2 (fun b => w8.heap.size ≤ b ∧ b < s2) gl ea AG cG 0 w9 := by
  have hz := h.size
  have h8 := b8.size
  have o8 : Only (fun _ => False) w w8 := Only.of_below b8 _
  have o9 : Only (fun _ => False) w8 w9 := Only.of_below b9 _
  have q := (h.quiet hB o8).quiet hB o9
  exact ⟨l9, q.g, q.bel, by omega, h2, fun b hb => by have := h.g.lt b hb; omega, fun b hb => hb.2⟩
end
end Go.Proofs.Ytbggoelfnolldaa
