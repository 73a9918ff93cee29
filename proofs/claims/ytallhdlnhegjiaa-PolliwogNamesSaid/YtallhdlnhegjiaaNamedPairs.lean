/- What pairs computes over the closure of Named: all numbers of the runs, each once. Conditions: the list's cells are the pairs of a set whose numbers lie from 0 on, below 64. -/
import Derived.Test.YtallhdlnhegjiaaNamedKit
import Derived.BigQuiet
import Derived.Deep.QuietTactic
import Derived.Deep.RegionHeld3
namespace Go.Proofs.Ytallhdlnhegjiaa.Gaps
open Go.ChangeShapes Go.WideShapes Go.ChangeAt Go.RowKit Go.Lib Go.Maps Spans
set_option linter.unusedVariables false

/-- the numbers that the pairs of a set name, from r on -/
def named (r : Int) (L : List Sp) : List Int := (nums L).map fun y => (r + y) % 16777216
theorem named_take (r : Int) (L : List Sp) (k : Nat) (h : k < L.length) : named r (L.take (k + 1)) = named r (L.take k) ++ run_ ((r + L[k].1) % 16777216) (L[k].2 - L[k].1).toNat := by
  unfold named
  rw [nums_take L k h, List.map_append]
  congr 1
  unfold numsOf run_
  rw [List.map_map]
  apply List.map_congr_left
  intro i hi
  simp only [Function.comp]
  omega
theorem to_run {r a b : Int} (h0 : 0 ≤ a) (h1 : a < b) (h2 : b ≤ 64) : ((r + b) % 16777216 - (r + a) % 16777216) % 16777216 = b - a := by omega
/-- what a pair's two cells hold -/
def IsPairs (w : World) (B : Nat) (A : Option Addr) (r : Int) (L : List Sp) : Prop := ∀ k (h : k < L.length), ∃ g, A = some ⟨g, 0, none⟩ ∧ g < B ∧ w.cell? ⟨g, k * 2, none⟩ = some (.int .u32 ((r + L[k].1) % 16777216)) ∧ w.cell? ⟨g, k * 2 + 1, none⟩ = some (.int .u32 ((r + L[k].2) % 16777216))
theorem named_length (r : Int) (L : List Sp) : (named r L).length = (nums L).length := by unfold named; simp

theorem fresh_run {r : Int} {L : List Sp} (hn : Norm L) (hin : ∀ x, In x L → 0 ≤ x ∧ x < 64) {k : Nat} (h : k < L.length) : ∀ x ∈ run_ ((r + L[k].1) % 16777216) (L[k].2 - L[k].1).toNat, x ∉ named r (L.take k) := by
  intro x hx hm
  obtain ⟨i, hi, rfl⟩ := mem_run.1 hx
  unfold named at hm
  rw [List.mem_map] at hm
  obtain ⟨y, hy, e⟩ := hm
  obtain ⟨p, hp, h1, h2⟩ := mem_nums.1 hy
  have hy64 := hin y ⟨p, List.mem_of_mem_take hp, h1, h2⟩
  have hz64 := hin (L[k].1 + (i : Int)) ⟨L[k], List.getElem_mem h, by omega, by omega⟩
  obtain ⟨j, hj, rfl⟩ := List.mem_iff_getElem.1 hp
  rw [List.getElem_take] at h1 h2
  rw [List.length_take] at hj
  have := List.pairwise_iff_getElem.1 hn.2 j k (by omega) h (by omega)
  omega
theorem Seen.drew {w : World} {B bo bs bm nn : Nat} {v : Value} {xs : List Int} {D : DataW Unit} (h : Seen w B bo bs bm nn v xs D) : Seen w.drew B bo bs bm nn v xs D := ⟨h.out, h.box, h.row.drew, h.map.drew, h.bo_, h.bs_, h.bm_⟩
theorem named_some (r : Int) (L : List Sp) (k : Nat) : (named r (L.take k)).length ≤ (nums L).length := by
  rw [named_length]
  have : nums L = nums (L.take k) ++ nums (L.drop k) := by
    unfold nums
    rw [← List.flatMap_append, List.take_append_drop]
  rw [this, List.length_append]
  omega

set_option maxHeartbeats 4000000 in
set_option maxRecDepth 20000 in
theorem pairs_any (r : Int) (L : List Sp) (hn : Norm L) (hin : ∀ x, In x L → 0 ≤ x ∧ x < 64) (A : Option Addr) (c B bo bs bm : Nat) (v : Value) (w : World) (hA : IsPairs w B A r L) (h : Seen w B bo bs bm 0 v [] (.map [])) :
    Calls Try.prog 68 #[.slice A (L.length * 2) c, .func (.func 69) #[] #[.pointer (some ⟨bo, 0, none⟩), .pointer (some ⟨bs, 0, none⟩)]] w fun e w' => e = .returned (.tuple #[]) ∧ ∃ v' D', Seen w' B bo bs bm (named r L).length v' (named r L) D' ∧ Below B w w' := by
  have hfew := norm_few L 0 64 hn (by omega) hin
  have hl : (L.length : Int) ≤ 64 := by omega
  have HA := Lib.hid hA
  have H := Lib.hid h
  have HN := Lib.hid hn
  have HIN := Lib.hid hin
  have HFW := Lib.hid hfew
  clear hA h hn hin hfew
  go_enter Try.func68, Try.ntmps68
  go_wp2_with fail
  go_loopw [4] (fun i wr => ∃ (k : Nat) (v' : Value) (D' : DataW Unit), k ≤ L.length ∧ i = .int .i64 ((k * 2 : Nat) : Int) ∧ Seen wr B bo bs bm (named r (L.take k)).length v' (named r (L.take k)) D' ∧ (∀ x, Maps.has D' (.int .u32 x) = true ↔ x ∈ named r (L.take k)) ∧ Below B w wr)
    (fun i _ => L.length - (intOf i / 2).toNat)
  case atStart => exact ⟨0, v, .map [], by omega, rfl, by simpa [named, nums] using H.out, fun x => by simp [named, nums, Maps.has], Below.refl _ _⟩
  case round =>
    obtain ⟨k, v', D', hk, rfl, hS, hD, hb⟩ := hrel
    have HS := Lib.hid hS
    have HD := Lib.hid hD
    have HB := Lib.hid hb
    by_cases hlt : k < L.length
    · obtain ⟨g, rfl, hg, c0, c1⟩ := HA.out k hlt
      rw [← hb.cell (show g < B from hg)] at c0 c1
      have hlt' : k * 2 + 1 < L.length * 2 := by omega
      have hlt2 : k * 2 < L.length * 2 := by omega
      generalize hLL : L.length * 2 = len at hlt' hlt2 ⊢
      have HLL := Lib.hid hLL
      generalize hkk : k * 2 = kk at hlt' hlt2 c0 c1 ⊢
      have HKK := Lib.hid hkk
      have hkb : (kk : Int) ≤ 200 := by omega
      have hlb : (len : Int) ≤ 200 := by omega
      have hI1 : (kk : Int) + 1 < (len : Int) := by omega
      have hI2 : (0 : Int) ≤ (kk : Int) := by omega
      have hI3 : (kk : Int) < (len : Int) := by omega
      have hI4 : (0 : Int) ≤ (kk : Int) + 1 := by omega
      have hw : IntKind.i64.wrap ((kk : Int) + 1) = (kk : Int) + 1 := by simp [IntKind.wrap, IntKind.bits, IntKind.signed]; omega
      clear hLL hkk
      clear hS hD hb
      go_wp2_with fail
      go_region_held3 (fun w' => w'.cell? ⟨g, kk, none⟩ = some (.int .u32 ((r + L[k].1) % 16777216)) ∧ w'.cell? ⟨g, kk + 1, none⟩ = some (.int .u32 ((r + L[k].2) % 16777216)))
        (exact ⟨c0, c1⟩)
        (first | (go_at_call 22; refine (Seq.to_any _ _ _).mono ?_; rintro e w2 ⟨rfl, rfl⟩))
      have hp := HN.out.1 L[k] (List.getElem_mem hlt)
      have hp1 := HIN.out L[k].1 ⟨L[k], List.getElem_mem hlt, Int.le_refl _, hp⟩
      have hp2 := HIN.out (L[k].2 - 1) ⟨L[k], List.getElem_mem hlt, by omega, by omega⟩
      obtain ⟨d, hd⟩ : ∃ d : Nat, (d : Int) = L[k].2 - L[k].1 := ⟨(L[k].2 - L[k].1).toNat, by omega⟩
      have hto : (r + L[k].2 - (r + L[k].1)) % 16777216 = (d : Int) := by omega
      rw [hto]
      have hd64 : (d : Int) ≤ 64 := by omega
      have HDN := Lib.hid hd
      clear hto hd
      go_wp2_with (go_at_call 20; refine (Seq.low_any _ _).mono ?_; rintro e w2 ⟨rfl, rfl⟩)
      have hdn : (L[k].2 - L[k].1).toNat = d := by have := HDN.out; omega
      have hlen := named_some r L k
      have hlen2 := HFW.out.1
      have hfr : ∀ x ∈ run_ ((r + L[k].1) % 16777216) d, Maps.has D' (.int .u32 x) = false := fun x hx => by
        rw [← hdn] at hx
        have h1 := fresh_run HN.out HIN.out hlt x hx
        cases e : Maps.has D' (.int .u32 x) with
        | false => rfl
        | true => exact absurd ((HD.out x).1 e) h1
      have HT := Lib.hid (named_take r L k hlt)
      have HDD := Lib.hid hdn
      clear hdn c0 c1
      refine (closure_any _ d B bo bs bm _ _ _ D' wr.drew HS.out.drew (by omega) (by omega) hfr).mono ?_
      rintro e w3 ⟨rfl, v3, D3, hS3, hD3, hb3⟩
      have HS3 := Lib.hid hS3
      have HD3 := Lib.hid hD3
      have HB3 := Lib.hid (HB.out.drew.trans hb3)
      clear hS3 hD3 hb3 hfr hlen hlen2
      go_wp2_with fail
      go_roundw
      case rel =>
        have hTT := HT.out
        rw [HDD.out] at hTT
        refine ⟨k + 1, v3, D3, by omega, ?_, ?_, ?_, HB3.out⟩
        · have := HKK.out
          rw [show (k + 1) * 2 = kk + 2 from by omega]
          go_num
        · rw [hTT]
          have h1 := HS3.out
          have h2 : (named r (L.take k) ++ run_ ((r + L[k].1) % 16777216) d).length = (named r (L.take k)).length + d := by rw [List.length_append]; unfold run_; simp
          rw [h2]
          exact h1
        · intro x
          rw [hTT, HD3.out x, HD.out x, List.mem_append]
      case measure =>
        have := HKK.out
        simp [intOf]
        omega
    · obtain rfl : k = L.length := by omega
      have hlb : ((L.length * 2 : Nat) : Int) ≤ 200 := by omega
      generalize hLL : L.length * 2 = len at hlb ⊢
      clear hLL hS hD hb
      go_wp2_with fail
      go_end0
      have h1 := HS.out
      rw [List.take_length] at h1
      exact ⟨rfl, _, D', h1, HB.out⟩
end Go.Proofs.Ytallhdlnhegjiaa.Gaps
