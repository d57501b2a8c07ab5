/- THE STATE of OracleLogs: a tape over a log, the reference's oracle over a log, side by side. -/
import Derived.Test.YtbggoelfnolldaaLogC
import Derived.Test.YtbggoelfnolldaaLogE
namespace Go.Proofs.Ytbggoelfnolldaa
open Go.RowKit
set_option linter.unusedVariables false

/-- Where the blocks lie, in the order in which they were made. -/
structure PlacesL (B s1 tp rs ro N0 : Nat) (D1 : Nat → Prop) : Prop where
  a : B ≤ s1
  b : s1 < tp
  c : tp < rs
  e : rs < ro
  f : ro < N0
  d1 : ∀ b, D1 b → b < s1

structure OSCL (B : Nat) (w0 : World) (s1 tp rs ro N0 : Nat) (D1 : Nat → Prop) (l : List (Int × Int)) (ka kr : Nat) (ea er : List (Int × Int)) (w : World) (AE : Option Addr) (cE : Nat) (AR : Option Addr) (cR : Nat) : Prop where
  t : Tp w tp (.iface 50 (.pointer (some ⟨s1, 0, none⟩))) ea AE cE
  a : Lg 67 w D1 s1 l ka
  r : Lg 55 w (fun b => b < B) rs l kr
  o : Ro w ro none (some ⟨rs, 0, none⟩) er AR cR
  bel : Below B w0 w
  size : N0 ≤ w.heap.size
  inE : ∀ b, In AE b → N0 ≤ b
  inR : ∀ b, In AR b → N0 ≤ b ∧ ¬ In AE b
def OSL (B : Nat) (w0 : World) (s1 tp rs ro N0 : Nat) (D1 : Nat → Prop) (l : List (Int × Int)) (ka kr : Nat) (ea er : List (Int × Int)) (w : World) : Prop := ∃ AE cE AR cR, OSCL B w0 s1 tp rs ro N0 D1 l ka kr ea er w AE cE AR cR

section
variable {B : Nat} {w0 w w' : World} {s1 tp rs ro N0 : Nat} {D1 : Nat → Prop} {l : List (Int × Int)} {ka kr : Nat} {ea er : List (Int × Int)}
theorem OSL.quiet (h : OSL B w0 s1 tp rs ro N0 D1 l ka kr ea er w) (P : PlacesL B s1 tp rs ro N0 D1) (ho : Only (fun _ => False) w w') : OSL B w0 s1 tp rs ro N0 D1 l ka kr ea er w' := by
  obtain ⟨AE, cE, AR, cR, h⟩ := h
  have := P.a; have := P.b; have := P.c; have := P.e; have := P.f; have := h.size
  exact ⟨AE, cE, AR, cR, h.t.only ho (fun h => h) (fun _ _ h => h), h.a.only ho (fun h => h) (fun _ _ h => h), h.r.only ho (fun h => h) (fun _ _ h => h), h.o.only ho (fun h => h) (fun _ _ h => h),
    h.bel.trans (ho.below (by omega) (fun i h => h.elim)), Nat.le_trans h.size ho.size, h.inE, h.inR⟩

/-- The tape is asked. -/
theorem OSL.tape (h : OSL B w0 s1 tp rs ro N0 D1 l ka kr ea er w) (P : PlacesL B s1 tp rs ro N0 D1) (kd n : Int) (hn : In64 n) (hb : l.length ≤ 10000) (hev : ea.length ≤ 10000) :
    Calls Try.prog 11 #[.pointer (some ⟨tp, 0, none⟩), .int .i64 kd, .int .i64 n] w fun e w' => e = .returned (.tuple #[.int .i64 (lans l ka kd n).1, .int .i64 (lans l ka kd n).2]) ∧
      OSL B w0 s1 tp rs ro N0 D1 l (lrest l ka kd n) kr (noted ea kd (lans l ka kd n)) er w' := by
  obtain ⟨AE, cE, AR, cR, h⟩ := h
  have pa := P.a; have pb := P.b; have pc := P.c; have pe := P.e; have pf := P.f; have hz := h.size
  refine (tapel_any w D1 tp s1 l ka ea AE cE kd n h.t hn h.a (fun hd => Nat.lt_irrefl _ (P.d1 _ hd)) (fun hd => by have := P.d1 _ hd; omega) (fun b hb hd => by have := P.d1 b hd; have := h.inE b hb; omega) hb hev).mono fun e w' hw => ?_
  obtain ⟨he, hs, ⟨⟨A', c', ht, hA'⟩, ho⟩⟩ := hw
  refine ⟨he, A', c', AR, cR, ht, hs, h.r.only ho ?_ ?_, h.o.only ho ?_ ?_, h.bel.trans (ho.below (by omega) ?_), Nat.le_trans h.size ho.size, ?_, ?_⟩
  · rintro (e | e | e)
    · omega
    · omega
    · have := h.inE _ e; omega
  · rintro b hb (e | e | e)
    · omega
    · omega
    · have := h.inE _ e; omega
  · rintro (e | e | e)
    · omega
    · omega
    · have := h.inE _ e; omega
  · rintro b hb (e | e | e)
    · have := (h.inR b hb).1; omega
    · have := (h.inR b hb).1; omega
    · exact (h.inR b hb).2 e
  · rintro b (e | e | e)
    · omega
    · omega
    · have := h.inE _ e; omega
  · intro b hb
    rcases hA' b hb with e | e
    · exact h.inE b e
    · omega
  · intro b hb
    refine ⟨(h.inR b hb).1, fun e => ?_⟩
    rcases hA' b e with e | e
    · exact (h.inR b hb).2 e
    · have := h.o.vec.lt b hb; omega

/-- The reference's oracle is asked. -/
theorem OSL.ref (h : OSL B w0 s1 tp rs ro N0 D1 l ka kr ea er w) (P : PlacesL B s1 tp rs ro N0 D1) (kd n : Int) (hn : In64 n) (hb : l.length ≤ 10000) (hev : er.length ≤ 10000) :
    Calls Try.prog 13 #[.pointer (some ⟨ro, 0, none⟩), .int .i64 kd, .int .i64 n] w fun e w' => e = .returned (.agg #[.int .i64 (lans l kr kd n).1, .int .i64 (lans l kr kd n).2]) ∧
      OSL B w0 s1 tp rs ro N0 D1 l ka (lrest l kr kd n) ea (noted er kd (lans l kr kd n)) w' ∧ ∀ g cs, Blk w g 37 cs → N0 ≤ g → Blk w' g 37 cs := by
  obtain ⟨AE, cE, AR, cR, h⟩ := h
  have pa := P.a; have pb := P.b; have pc := P.c; have pe := P.e; have pf := P.f; have hz := h.size
  refine (rol_any w (fun b => b < B) ro rs l kr er AR cR kd n h.o hn h.r (fun b hb => by omega) (by omega) (fun b hb hd => by have := (h.inR b hb).1; omega) hb hev).mono fun e w' hw => ?_
  obtain ⟨he, hs, ⟨⟨A', c', ht, hA'⟩, ho⟩⟩ := hw
  refine ⟨he, ⟨AE, cE, A', c', h.t.only ho ?_ ?_, h.a.only ho ?_ ?_, hs, ht, h.bel.trans (ho.below (by omega) ?_), Nat.le_trans h.size ho.size, h.inE, ?_⟩, ?_⟩
  · rintro (e | e | e)
    · omega
    · omega
    · have := (h.inR _ e).1; omega
  · rintro b hb (e | e | e)
    · have := h.inE b hb; omega
    · have := h.inE b hb; omega
    · exact (h.inR b e).2 hb
  · rintro (e | e | e)
    · omega
    · omega
    · have := (h.inR _ e).1; omega
  · rintro b hb (e | e | e)
    · have := P.d1 b hb; omega
    · have := P.d1 b hb; omega
    · have := P.d1 b hb; have := (h.inR _ e).1; omega
  · rintro b (e | e | e)
    · omega
    · omega
    · have := (h.inR _ e).1; omega
  · intro b hb
    rcases hA' b hb with e | e
    · exact h.inR b e
    · exact ⟨by omega, fun e' => by have := h.t.vec.lt b e'; omega⟩
  · intro g cs hg hN
    refine hg.only ho ?_
    rintro (e | e | e)
    · omega
    · omega
    · exact h.o.vec.ne_ hg (by decide) e
/-- A variable of the answer's type is written. -/
theorem OSL.var (h : OSL B w0 s1 tp rs ro N0 D1 l ka kr ea er w) (P : PlacesL B s1 tp rs ro N0 D1) {g : Nat} {cs : Array Value} (hg : Blk w g 37 cs) (hN : N0 ≤ g) (ho : Only (fun b => b = g) w w') :
    OSL B w0 s1 tp rs ro N0 D1 l ka kr ea er w' := by
  obtain ⟨AE, cE, AR, cR, h⟩ := h
  have pa := P.a; have pb := P.b; have pc := P.c; have pe := P.e; have pf := P.f; have hz := h.size
  exact ⟨AE, cE, AR, cR, h.t.only ho (by omega) (fun b hb e => h.t.vec.ne_ hg (by decide) (e ▸ hb)), h.a.only ho (by omega) (fun b hb e => by have := P.d1 b hb; omega),
    h.r.only ho (by omega) (fun b hb e => by omega), h.o.only ho (by omega) (fun b hb e => h.o.vec.ne_ hg (by decide) (e ▸ hb)), h.bel.trans (ho.below (by omega) (fun i e => by omega)), Nat.le_trans h.size ho.size, h.inE, h.inR⟩
theorem OSL.size (h : OSL B w0 s1 tp rs ro N0 D1 l ka kr ea er w) : N0 ≤ w.heap.size := by
  obtain ⟨_, _, _, _, h⟩ := h; exact h.size
/-- How many were read, of the log and of the reference's. -/
theorem OSL.read (h : OSL B w0 s1 tp rs ro N0 D1 l ka kr ea er w) :
    Calls Try.prog 18 #[.pointer (some ⟨s1, 0, none⟩)] w (fun e w' => e = .returned (.int .i64 (ka : Int)) ∧ w = w') ∧ w.cell? ⟨rs, 1, none⟩ = some (.int .i64 kr) ∧ w.cell? ⟨ro, 1, none⟩ = some (.pointer (some ⟨rs, 0, none⟩)) := by
  obtain ⟨AE, cE, AR, cR, h⟩ := h
  have h0 := h.o.blk.cell 1
  obtain ⟨A, c, h1⟩ := h.r
  have h2 := h1.blk.cell 1
  exact ⟨read_any w _ s1 l ka h.a, h2, h0⟩
end
end Go.Proofs.Ytbggoelfnolldaa
