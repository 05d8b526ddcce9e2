/- The document's Part: of runs that are part of others. -/
import Derived.Test.YtnbdnnbeiohmgaaLgOf
import Derived.Maps.OwnOps
namespace Go.Proofs.Ytnbdnnbeiohmgaa
open Go.RowKit Go.Shelf

set_option maxRecDepth 100000 in
set_option maxHeartbeats 8000000 in
theorem part_ref (va vb : Value) (la lb : List R3) (w : World) (ha : Runs w va la) (hb : Runs w vb lb) (hra : ∀ r, r ∈ la → 0 ≤ r.1 ∧ r.1 < 256 ∧ 0 ≤ r.2.1 ∧ r.2.2 ≤ 256) (hrb : ∀ r, r ∈ lb → 0 ≤ r.1 ∧ r.1 < 256 ∧ 0 ≤ r.2.1 ∧ r.2.2 ≤ 256) (hla : la.length ≤ 8192) (hlb : lb.length ≤ 8192)
    (hsub : ∀ p q, hasL la p q = true → hasL lb p q = true) :
    Calls Try.prog 34 #[va, vb] w fun e w' => e = .returned (.bool true) ∧ Below w.heap.size w w' := by
  have hOf := of_ref vb lb w hb hrb hlb
  obtain ⟨A, c, rfl, -, h2, h3⟩ := ha
  unfold maxLen at h2
  obtain ⟨n, hn⟩ : ∃ n, la.length = n := ⟨_, rfl⟩
  rw [hn] at h3 hla ⊢
  have HOf := Lib.hid hOf
  have H3 := Lib.hid h3
  have HR := Lib.hid hra
  have HN := Lib.hid hn
  have HSub := Lib.hid hsub
  clear h3 hra hn hOf hb hrb hlb hsub
  go_enter Try.func34, Try.ntmps34
  go_wp2_with fail
  refine HOf.out.mono ?_
  rintro e w1 ⟨⟨Mb, N, rfl, hS, hMb⟩, hb1⟩
  obtain ⟨B, hB⟩ : ∃ B, w.heap.size = B := ⟨_, rfl⟩
  rw [hB] at hb1 hMb
  go_wp2_with fail
  go_loopw [6] (fun i wr => ∃ k : Nat, k ≤ n ∧ i = .int .i64 k ∧ SetC wr Mb N (hasL lb) ∧ Below B w wr) (fun i _ => n - (intOf i).toNat)
  case atStart => exact ⟨0, Nat.zero_le _, rfl, hS, hb1⟩
  case round =>
    obtain ⟨k, hk, rfl, hS, hb⟩ := hrel
    clear hb1
    by_cases hlt : k < n
    · obtain ⟨⟨y, f, t⟩, hx⟩ : ∃ x, la[k]? = some x := ⟨_, List.getElem?_eq_getElem (by rw [HN.out]; exact hlt)⟩
      have hmem := List.mem_of_getElem? hx
      have hrr := HR.out _ hmem
      dsimp only at hrr
      obtain ⟨b, off, rfl, hbl, hcs⟩ := H3.out (by omega)
      have m0 := (hb.cell (p := ⟨b, off + k * 3, none⟩) (by show b < B; omega)).trans (hcs k 0 _ _ hx rfl)
      have m1 := (hb.cell (p := ⟨b, off + k * 3 + 1, none⟩) (by show b < B; omega)).trans (hcs k 1 _ _ hx rfl)
      have m2 := (hb.cell (p := ⟨b, off + k * 3 + 2, none⟩) (by show b < B; omega)).trans (hcs k 2 _ _ hx rfl)
      have hkn : (k : Int) < (n : Int) := by omega
      have hall : ∀ x, f ≤ x → x < t → hasL lb x y = true := fun x h1 h2 => HSub.out x y (by
        unfold hasL
        rw [List.any_eq_true]
        exact ⟨(y, f, t), hmem, by rw [hasR_iff]; exact ⟨rfl, h1, h2⟩⟩)
      have HAll := Lib.hid hall
      clear hcs hx hmem hall
      go_wp2_with fail
      go_loopw [7] (fun i wq => ∃ x : Int, i = .int .i64 x ∧ f ≤ x ∧ (f < x → x ≤ t) ∧ SetC wq Mb N (hasL lb) ∧ Below B w wq ∧ wq.cell? ⟨b, off + k * 3, none⟩ = some (.int .i64 y) ∧ wq.cell? ⟨b, off + k * 3 + 2, none⟩ = some (.int .i64 t)) (fun i _ => (256 - intOf i).toNat)
      case atStart => exact ⟨f, rfl, Int.le_refl _, fun h => by omega, hS, hb, m0, m2⟩
      case round =>
        obtain ⟨x, rfl, hx1, hx2, hSq, hbq, d0, d2⟩ := hrel
        clear hS hb m0 m1 m2
        by_cases hxt : x < t
        · have ix : isI64 x := isI64_of (by omega)
          have iy : isI64 y := isI64_of (by omega)
          have hv := HAll.out x hx1 hxt
          go_wp2_with (at_lookup; refine wpList_lookup_setC _ rfl _ _ 140 rfl setT Mb N (hasL lb) rfl hSq x y rfl ix iy ?_; rw [hv])
          go_roundw
          case rel => exact ⟨x + 1, by go_num, by omega, fun _ => by omega, hSq, hbq, d0, d2⟩
          case measure => simp [intOf]; omega
        · go_wp2_with fail
          go_roundw
          case rel => exact ⟨k + 1, by omega, by go_num, hSq, hbq⟩
          case measure => simp [intOf]; omega
    · go_wp2_with fail
      go_ret
      exact ⟨rfl, by first | exact hb | (rw [hB]; exact hb)⟩
end Go.Proofs.Ytnbdnnbeiohmgaa
