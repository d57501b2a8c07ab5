/- THE STATE of OracleScripts: a tape over a script, a script, the reference's oracle over a script, side by side. -/
import Derived.Test.YtbggoelfnolldaaWalkF
import Derived.Test.YtbggoelfnolldaaWalkG
namespace Go.Proofs.Ytbggoelfnolldaa
open Go.RowKit
set_option linter.unusedVariables false

/-- Where the blocks lie, in the order in which they were made. -/
structure Places (B s1 tp s2 rs ro N0 : Nat) (D1 D2 : Nat → Prop) : Prop where
  a : B ≤ s1
  b : s1 < tp
  c : tp < s2
  d : s2 < rs
  e : rs < ro
  f : ro < N0
  d1 : ∀ b, D1 b → b < s1
  d2 : ∀ b, D2 b → tp < b ∧ b < s2

structure OSC (B : Nat) (w0 : World) (s1 tp s2 rs ro N0 : Nat) (D1 D2 : Nat → Prop) (xa xb xr : List Int) (ea er : List (Int × Int)) (w : World) (AE : Option Addr) (cE : Nat) (AR : Option Addr) (cR : Nat) : Prop where
  t : Tp w tp (.iface 27 (.pointer (some ⟨s1, 0, none⟩))) ea AE cE
  a : Script 63 w D1 s1 xa
  b : Script 63 w D2 s2 xb
  r : Script 41 w (fun b => b < B) rs xr
  o : Ro w ro (some ⟨rs, 0, none⟩) none er AR cR
  bel : Below B w0 w
  size : N0 ≤ w.heap.size
  inE : ∀ b, In AE b → N0 ≤ b
  inR : ∀ b, In AR b → N0 ≤ b ∧ ¬ In AE b
def OS (B : Nat) (w0 : World) (s1 tp s2 rs ro N0 : Nat) (D1 D2 : Nat → Prop) (xa xb xr : List Int) (ea er : List (Int × Int)) (w : World) : Prop := ∃ AE cE AR cR, OSC B w0 s1 tp s2 rs ro N0 D1 D2 xa xb xr ea er w AE cE AR cR

section
variable {B : Nat} {w0 w w' : World} {s1 tp s2 rs ro N0 : Nat} {D1 D2 : Nat → Prop} {xa xb xr : List Int} {ea er : List (Int × Int)}
theorem OS.quiet (h : OS B w0 s1 tp s2 rs ro N0 D1 D2 xa xb xr ea er w) (P : Places B s1 tp s2 rs ro N0 D1 D2) (ho : Only (fun _ => False) w w') : OS B w0 s1 tp s2 rs ro N0 D1 D2 xa xb xr ea er w' := by
  obtain ⟨AE, cE, AR, cR, h⟩ := h
  have := P.a; have := P.b; have := P.c; have := P.d; have := P.e; have := P.f; have := h.size
  exact ⟨AE, cE, AR, cR, h.t.only ho (fun h => h) (fun _ _ h => h), h.a.only ho (fun h => h) (fun _ _ h => h), h.b.only ho (fun h => h) (fun _ _ h => h), h.r.only ho (fun h => h) (fun _ _ h => h), h.o.only ho (fun h => h) (fun _ _ h => h),
    h.bel.trans (ho.below (by omega) (fun i h => h.elim)), Nat.le_trans h.size ho.size, h.inE, h.inR⟩

/-- The tape is asked. -/
theorem OS.tape (h : OS B w0 s1 tp s2 rs ro N0 D1 D2 xa xb xr ea er w) (P : Places B s1 tp s2 rs ro N0 D1 D2) (kd n : Int) (hn : In64 n) (hb : xa.length ≤ 10000) (hev : ea.length ≤ 10000) :
    Calls Try.prog 11 #[.pointer (some ⟨tp, 0, none⟩), .int .i64 kd, .int .i64 n] w fun e w' => e = .returned (.tuple #[.int .i64 (ans xa n).1, .int .i64 (ans xa n).2]) ∧
      OS B w0 s1 tp s2 rs ro N0 D1 D2 (rest xa n) xb xr (noted ea kd (ans xa n)) er w' := by
  obtain ⟨AE, cE, AR, cR, h⟩ := h
  have pa := P.a; have pb := P.b; have pc := P.c; have pd := P.d; have pe := P.e; have pf := P.f; have hz := h.size
  refine (tape_any w D1 tp s1 xa ea AE cE kd n h.t hn h.a P.d1 (fun hd => by have := P.d1 _ hd; omega) (fun b hb hd => by have := P.d1 b hd; have := h.inE b hb; omega) hb hev).mono fun e w' hw => ?_
  obtain ⟨he, hs, ⟨⟨A', c', ht, hA'⟩, ho⟩⟩ := hw
  refine ⟨he, A', c', AR, cR, ht, hs, h.b.only ho ?_ ?_, h.r.only ho ?_ ?_, h.o.only ho ?_ ?_, h.bel.trans (ho.below (by omega) ?_), Nat.le_trans h.size ho.size, ?_, ?_⟩
  · rintro (e | e | e)
    · omega
    · omega
    · have := h.inE _ e; omega
  · rintro b hb (e | e | e)
    · have := P.d2 b hb; omega
    · have := P.d2 b hb; omega
    · have := P.d2 b hb; have := h.inE _ e; omega
  · rintro (e | e | e)
    · omega
    · omega
    · have := h.inE _ e; omega
  · rintro b hb (e | e | e)
    · omega
    · omega
    · have := h.inE _ e; omega
  · rintro (e | e | e)
    · omega
    · omega
    · have := h.inE _ e; omega
  · rintro b hb (e | e | e)
    · have := (h.inR b hb).1; omega
    · have := (h.inR b hb).1; omega
    · exact (h.inR b hb).2 e
  · rintro b (e | e | e)
    · omega
    · omega
    · have := h.inE _ e; omega
  · intro b hb
    rcases hA' b hb with e | e
    · exact h.inE b e
    · omega
  · intro b hb
    refine ⟨(h.inR b hb).1, fun e => ?_⟩
    rcases hA' b e with e | e
    · exact (h.inR b hb).2 e
    · have := h.o.vec.lt b hb; omega

/-- The script is asked. -/
theorem OS.script (h : OS B w0 s1 tp s2 rs ro N0 D1 D2 xa xb xr ea er w) (P : Places B s1 tp s2 rs ro N0 D1 D2) (kd n : Int) (hn : In64 n) (hb : xb.length ≤ 10000) :
    Calls Try.prog 12 #[.pointer (some ⟨s2, 0, none⟩), .int .i64 kd, .int .i64 n] w fun e w' => e = .returned (.tuple #[.int .i64 (ans xb n).1, .int .i64 (ans xb n).2]) ∧
      OS B w0 s1 tp s2 rs ro N0 D1 D2 xa (rest xb n) xr ea er w' := by
  obtain ⟨AE, cE, AR, cR, h⟩ := h
  have pa := P.a; have pb := P.b; have pc := P.c; have pd := P.d; have pe := P.e; have pf := P.f; have hz := h.size
  refine (ask_any w D2 s2 xb kd n h.b (fun hd => by have := P.d2 _ hd; omega) hn hb).mono fun e w' hw => ?_
  obtain ⟨he, hs, ho⟩ := hw
  exact ⟨he, AE, cE, AR, cR, h.t.only ho (by omega) (fun b hb e => by have := h.inE b hb; omega), h.a.only ho (by omega) (fun b hb e => by have := P.d1 b hb; omega), hs, h.r.only ho (by omega) (fun b hb e => by omega),
    h.o.only ho (by omega) (fun b hb e => by have := (h.inR b hb).1; omega), h.bel.trans (ho.below (by omega) (fun i e => by omega)), Nat.le_trans h.size ho.size, h.inE, h.inR⟩

/-- The reference's oracle is asked. -/
theorem OS.ref (h : OS B w0 s1 tp s2 rs ro N0 D1 D2 xa xb xr ea er w) (P : Places B s1 tp s2 rs ro N0 D1 D2) (kd n : Int) (hn : In64 n) (hb : xr.length ≤ 10000) (hev : er.length ≤ 10000) :
    Calls Try.prog 13 #[.pointer (some ⟨ro, 0, none⟩), .int .i64 kd, .int .i64 n] w fun e w' => e = .returned (.agg #[.int .i64 (ans xr n).1, .int .i64 (ans xr n).2]) ∧
      OS B w0 s1 tp s2 rs ro N0 D1 D2 xa xb (rest xr n) ea (noted er kd (ans xr n)) w' ∧ ∀ g cs, Blk w g 37 cs → N0 ≤ g → Blk w' g 37 cs := by
  obtain ⟨AE, cE, AR, cR, h⟩ := h
  have pa := P.a; have pb := P.b; have pc := P.c; have pd := P.d; have pe := P.e; have pf := P.f; have hz := h.size
  refine (ro_any w (fun b => b < B) ro rs xr er AR cR kd n h.o hn h.r (fun b hb => by omega) (by omega) (fun b hb hd => by have := (h.inR b hb).1; omega) hb hev).mono fun e w' hw => ?_
  obtain ⟨he, hs, ⟨⟨A', c', ht, hA'⟩, ho⟩⟩ := hw
  refine ⟨he, ⟨AE, cE, A', c', h.t.only ho ?_ ?_, h.a.only ho ?_ ?_, h.b.only ho ?_ ?_, hs, ht, h.bel.trans (ho.below (by omega) ?_), Nat.le_trans h.size ho.size, h.inE, ?_⟩, ?_⟩
  · rintro (e | e | e)
    · omega
    · omega
    · have := (h.inR _ e).1; omega
  · rintro b hb (e | e | e)
    · have := h.inE b hb; omega
    · have := h.inE b hb; omega
    · exact (h.inR b e).2 hb
  · rintro (e | e | e)
    · omega
    · omega
    · have := (h.inR _ e).1; omega
  · rintro b hb (e | e | e)
    · have := P.d1 b hb; omega
    · have := P.d1 b hb; omega
    · have := P.d1 b hb; have := (h.inR _ e).1; omega
  · rintro (e | e | e)
    · omega
    · omega
    · have := (h.inR _ e).1; omega
  · rintro b hb (e | e | e)
    · have := P.d2 b hb; omega
    · have := P.d2 b hb; omega
    · have := P.d2 b hb; have := (h.inR _ e).1; omega
  · rintro b (e | e | e)
    · omega
    · omega
    · have := (h.inR _ e).1; omega
  · intro b hb
    rcases hA' b hb with e | e
    · exact h.inR b e
    · exact ⟨by omega, fun e' => by have := h.t.vec.lt b e'; omega⟩
  · intro g cs hg hN
    refine hg.only ho ?_
    rintro (e | e | e)
    · omega
    · omega
    · exact h.o.vec.ne_ hg (by decide) e
/-- A variable of the answer's type is written. -/
theorem OS.var (h : OS B w0 s1 tp s2 rs ro N0 D1 D2 xa xb xr ea er w) (P : Places B s1 tp s2 rs ro N0 D1 D2) {g : Nat} {cs : Array Value} (hg : Blk w g 37 cs) (hN : N0 ≤ g) (ho : Only (fun b => b = g) w w') :
    OS B w0 s1 tp s2 rs ro N0 D1 D2 xa xb xr ea er w' := by
  obtain ⟨AE, cE, AR, cR, h⟩ := h
  have pa := P.a; have pb := P.b; have pc := P.c; have pd := P.d; have pe := P.e; have pf := P.f; have hz := h.size
  exact ⟨AE, cE, AR, cR, h.t.only ho (by omega) (fun b hb e => h.t.vec.ne_ hg (by decide) (e ▸ hb)), h.a.only ho (by omega) (fun b hb e => by have := P.d1 b hb; omega), h.b.only ho (by omega) (fun b hb e => by have := P.d2 b hb; omega),
    h.r.only ho (by omega) (fun b hb e => by omega), h.o.only ho (by omega) (fun b hb e => h.o.vec.ne_ hg (by decide) (e ▸ hb)), h.bel.trans (ho.below (by omega) (fun i e => by omega)), Nat.le_trans h.size ho.size, h.inE, h.inR⟩
theorem OS.size (h : OS B w0 s1 tp s2 rs ro N0 D1 D2 xa xb xr ea er w) : N0 ≤ w.heap.size := by
  obtain ⟨_, _, _, _, h⟩ := h; exact h.size
/-- What is left, of the script and of the reference's. -/
theorem OS.left (h : OS B w0 s1 tp s2 rs ro N0 D1 D2 xa xb xr ea er w) :
    Calls Try.prog 14 #[.pointer (some ⟨s2, 0, none⟩)] w (fun e w' => e = .returned (.int .i64 xb.length) ∧ w = w') ∧ (∃ A c, w.cell? ⟨rs, 0, none⟩ = some (.slice A xr.length c)) ∧ w.cell? ⟨ro, 0, none⟩ = some (.pointer (some ⟨rs, 0, none⟩)) := by
  obtain ⟨AE, cE, AR, cR, h⟩ := h
  have h0 := h.o.blk.cell 0
  obtain ⟨A, c, h1⟩ := h.r
  have h2 := h1.blk.cell 0
  exact ⟨left_any w _ s2 xb h.b, ⟨A, c, h2⟩, h0⟩
end
end Go.Proofs.Ytbggoelfnolldaa
