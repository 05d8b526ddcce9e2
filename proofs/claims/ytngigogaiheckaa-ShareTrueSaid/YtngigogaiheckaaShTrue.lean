/- share: ShareTrue: what is shown was stated, and not taken back; none that counts is trusted more; others just if there are. -/
import Derived.Test.YtngigogaiheckaaShLaw
import Derived.Deep.CutRange
namespace Go.Proofs.Ytngigogaiheckaa
open Go.RowKit Go.Shelf Go.Lib Go.Maps

theorem less_cmp : ∀ a b : List UInt8, Op.bytesLess a b = decide (compareBytes a b < 0)
  | [], [] => rfl
  | [], _ :: _ => rfl
  | _ :: _, [] => rfl
  | x :: a, y :: b => by
    unfold Op.bytesLess compareBytes
    by_cases h1 : x < y
    · simp [h1]
    · by_cases h2 : y < x
      · have h3 : ¬ x = y := fun e => by rw [e] at h2; exact UInt8.lt_irrefl _ h2
        simp [h1, h2, h3]
      · simp only [h1, h2, if_false]
        have e : x = y := UInt8.le_antisymm (UInt8.not_lt.1 h2) (UInt8.not_lt.1 h1)
        simp [e, less_cmp a b]
theorem leq_no {a b : ByteArray} (h : compareBytes b.data.toList a.data.toList < 0) : Op.bytesLess a.toList b.toList = false ∧ (a.toList == b.toList) = false := by
  rw [toList_data, toList_data, less_cmp]
  have h1 := cb_neg a.data.toList b.data.toList
  refine ⟨by rw [decide_eq_false_iff_not]; omega, ?_⟩
  rw [beq_eq_false_iff_ne]
  intro e
  rw [e, cb_self] at h
  omega
def statedB (said a : List Sd) (x : Sd) (k : Nat) : Bool := (said.take k).any fun s => decide (s.n ≤ (kn a s.c : Int)) && decide (s = x)
def othersB (said a : List Sd) (x : Sd) (k : Nat) : Bool := (said.take k).any fun s => decide (s.n ≤ (kn a s.c : Int)) && (!backS said a s && decide (s.key = x.key) && !decide (s.val = x.val))
def backB (said a : List Sd) (s : Sd) (j : Nat) : Bool := (said.take j).any fun t => decide (t.c = s.c) && decide (t.back = s.n) && decide (t.n ≤ (kn a s.c : Int))
theorem any_take {α : Type} {p : α → Bool} {l : List α} {k : Nat} {x : α} (h : l[k]? = some x) : (l.take (k + 1)).any p = ((l.take k).any p || p x) := by
  rw [List.take_add_one, h]
  simp
theorem statedB_succ {said a : List Sd} {x s : Sd} {k : Nat} (h : said[k]? = some s) : statedB said a x (k + 1) = (statedB said a x k || (decide (s.n ≤ (kn a s.c : Int)) && decide (s = x))) := any_take h
theorem othersB_succ {said a : List Sd} {x s : Sd} {k : Nat} (h : said[k]? = some s) : othersB said a x (k + 1) = (othersB said a x k || (decide (s.n ≤ (kn a s.c : Int)) && (!backS said a s && decide (s.key = x.key) && !decide (s.val = x.val)))) := any_take h
theorem backB_succ {said a : List Sd} {s t : Sd} {j : Nat} (h : said[j]? = some t) : backB said a s (j + 1) = (backB said a s j || (decide (t.c = s.c) && decide (t.back = s.n) && decide (t.n ≤ (kn a s.c : Int)))) := any_take h
theorem backB_all {said a : List Sd} {s : Sd} {n : Nat} (h : said.length = n) : backB said a s n = backS said a s := by
  unfold backB backS
  rw [List.take_of_length_le (by omega)]
theorem pair_at {α : Type} {R : α → α → Prop} {l : List α} (h : l.Pairwise R) {i j : Nat} {a b : α} (ha : l[i]? = some a) (hb : l[j]? = some b) (hij : i < j) : R a b := by
  obtain ⟨h1, rfl⟩ := List.getElem?_eq_some_iff.1 ha
  obtain ⟨h2, rfl⟩ := List.getElem?_eq_some_iff.1 hb
  exact List.pairwise_iff_getElem.1 h i j h1 h2 hij
/-- the loop over what was said -/
def SaidRel (said a : List Sd) (x : Sd) (ns : Nat) (wk : World) (v9 v10 v11 : Value) (wy : World) : Prop := ∃ k : Nat, k ≤ ns ∧ v11 = .int .i64 k ∧ v9 = .bool (statedB said a x k) ∧ v10 = .bool (othersB said a x k) ∧ Below wk.heap.size wk wy
def BackRel (said a : List Sd) (s : Sd) (ns Y : Nat) (wk : World) (v13 v14 : Value) (wy : World) : Prop := ∃ j : Nat, j ≤ ns ∧ v14 = .int .i64 j ∧ v13 = .bool (backB said a s j) ∧ Below wk.heap.size wk wy ∧ BoxS wy Y s
def Keeps (wk : World) (Y : Nat) (s : Sd) (b : Bool) (v : Value) (wx : World) : Prop := v = .bool b ∧ Below wk.heap.size wk wx ∧ BoxS wx Y s

set_option maxRecDepth 100000 in
set_option maxHeartbeats 16000000 in
theorem true_sh (v : Value) (l : List Tk) (w : World) (h : Lst 11 encT w v l) (hbt : ∀ t, t ∈ l → t.who < 256 ∧ t.frm < 256 ∧ t.many < 256) :
    Calls Try.prog 4 #[v] w fun e w' => e = .returned (.bool true) ∧ Below w.heap.size w w' := by
  have hlong := long_sh v l w h
  go_enter Try.func4, Try.ntmps4
  go_wp2_with fail
  refine hlong.mono ?_
  rintro e w1 ⟨⟨b, rfl, hb60⟩, hb1⟩
  cases b with
  | true =>
    go_wp2_with fail
    refine (awake_sh w1).mono ?_
    rintro e w2 ⟨rfl, hb2⟩
    go_wp2_with fail
    go_ret
    exact ⟨rfl, hb1.trans (hb2.mono hb1.size)⟩
  | false =>
    have hlen := hb60 rfl
    have hwd := world_sh v l w1 (h.below hb1) (by omega) hbt
    clear h hbt hb60 hlong
    go_wp2_with fail
    refine hwd.mono ?_
    rintro e w2 ⟨ps, F, vp, vs, rfl, hW⟩
    clear hwd
    have hinv := Inv.run (l := l) Inv.none
    obtain ⟨Wc, hWc⟩ : ∃ W, Wd.none.run l = W := ⟨_, rfl⟩
    rw [hWc] at hinv hW
    clear hWc
    have hl2 := hinv.lenA 2
    have hll := hinv.len
    have hnums := hinv.nums
    have huq := hinv.uq
    have hsub := hinv.sub 2
    obtain ⟨gp, cp, rfl, hgp1, hgp2⟩ := hW.pics.form (by omega)
    obtain ⟨ns, hns⟩ : ∃ n, Wc.said.length = n := ⟨_, rfl⟩
    obtain ⟨S9, c9, rfl⟩ := rowSlice hW.said
    have hnsb : ns ≤ 60 := by omega
    have hp2 := hW.ptr (i := 2) (by omega)
    have hkn := hW.known (i := 2) (by omega) (by omega)
    have hsh : ∀ W', Below w2.heap.size w2 W' → Calls Try.prog 16 #[.pointer (some ⟨ps 2, 0, none⟩)] W' fun e w' => ∃ v out, e = .returned v ∧ w'.ownsRow W'.heap.size 44 8 v out.length (flatE encW out) ∧ Shows (seen (Wc.ar 2)) out ∧ Below W'.heap.size W' w' := fun W' hW' =>
      showAll_sh W' ((hW.on hW').pic 2 (by omega)) (by omega) (fun s hs => SdOK.of (hinv.oks 2 s hs))
    have hsaid := hW.said
    rw [hns] at hsaid ⊢
    have hoks := fun s hs => SdOK.of (hinv.ok s hs)
    obtain ⟨said, hsd⟩ : ∃ L, Wc.said = L := ⟨_, rfl⟩
    obtain ⟨a2, ha2⟩ : ∃ L, Wc.ar 2 = L := ⟨_, rfl⟩
    have hW1 := hW.below
    rw [hsd] at hnums huq hsub hsaid hoks hns
    rw [ha2] at hkn hsh hsub
    have HKN := Lib.hid hkn
    have HSH := Lib.hid hsh
    have HSAID := Lib.hid hsaid
    have HNU := Lib.hid hnums
    have HUQ := Lib.hid huq
    have HSUB := Lib.hid hsub
    have HOK := Lib.hid hoks
    have HNS := Lib.hid hns
    have HB1 := Lib.hid (hb1.trans (hW1.mono hb1.size))
    clear hW hinv hnums huq hsub hkn hsh hsaid hoks hns hsd ha2 hl2 hll hW1 hb1
    go_wp2_with fail
    refine HKN.out.mono ?_
    rintro e w3 ⟨v6, rfl, hv6, -, hb3⟩
    have hp3 := (hb3.cell (p := ⟨gp, 2, none⟩) hgp2).trans hp2
    obtain ⟨gk, ck, rfl, -, hgk⟩ := hv6.form (by omega)
    have HC3 := Lib.hid (fun k hk => rowAt hv6 (encV_get (knF a2) (c := k) hk))
    have HB3 := Lib.hid hb3
    have HSZ := Lib.hid hb3.size
    have hsc := HSH.out w3 hb3
    have HSC := Lib.hid hsc
    clear hsc hv6 hb3 hp2 HKN HSH
    go_wp2_with fail
    refine HSC.out.mono ?_
    rintro e wk ⟨v7, out, rfl, hv7, hshow, hbk⟩
    obtain ⟨X9, cx, rfl⟩ := rowSlice hv7
    obtain ⟨nx, hnx⟩ : ∃ n, out.length = n := ⟨_, rfl⟩
    rw [hnx] at hv7 ⊢
    have hnxb : nx ≤ 9223372036854775807 := by
      have h1 := (Lst_of_own encW_len hv7 hnx.symm)
      obtain ⟨_, _, e, h2, h3, -⟩ := h1
      injection e with _ e2 _
      unfold maxLen at h3
      omega
    have HB := Lib.hid (HB3.out.trans (hbk.mono HSZ.out))
    have HGK : Hid (gk < wk.heap.size) := Lib.hid (Nat.lt_of_lt_of_le hgk hbk.size)
    have HC : Hid (∀ k, k < 8 → wk.cell? ⟨gk, k, none⟩ = some (.int .i64 (knF a2 k))) := Lib.hid fun k hk => (hbk.cell (p := ⟨gk, k, none⟩) hgk).trans (HC3.out k hk)
    have HSA : Hid (∀ k s, said[k]? = some s → ∃ b9, S9 = some ⟨b9, 0, none⟩ ∧ b9 < wk.heap.size ∧ ∀ i u, (encSd s)[i]? = some u → wk.cell? ⟨b9, k * 7 + i, none⟩ = some u) := Lib.hid fun k s hs => by
      have hr := ownsBelow HSAID.out (HB3.out.trans (hbk.mono HSZ.out))
      have hk : k < said.length := (List.getElem?_eq_some_iff.1 hs).1
      rw [HNS.out] at hk
      obtain ⟨b9, cap9, e9, -, hb9⟩ := hr.form (by omega)
      injection e9 with e9
      refine ⟨b9, e9, hb9, fun i u hu => ?_⟩
      have h1 := hr.cells (g := b9) (by rw [e9]; rfl) _ _ (flatE_get encSd_len said k i _ _ hs hu)
      rwa [add_pl, Nat.zero_add] at h1
    have HXA : Hid (∀ k x, out[k]? = some x → ∃ b9, X9 = some ⟨b9, 0, none⟩ ∧ b9 < wk.heap.size ∧ ∀ i u, (encW x)[i]? = some u → wk.cell? ⟨b9, k * 8 + i, none⟩ = some u) := Lib.hid fun k s hs => by
      have hk : k < out.length := (List.getElem?_eq_some_iff.1 hs).1
      rw [hnx] at hk
      obtain ⟨b9, cap9, e9, -, hb9⟩ := hv7.form (by omega)
      injection e9 with e9
      refine ⟨b9, e9, hb9, fun i u hu => ?_⟩
      have h1 := hv7.cells (g := b9) (by rw [e9]; rfl) _ _ (flatE_get encW_len out k i _ _ hs hu)
      rwa [add_pl, Nat.zero_add] at h1
    have HNX := Lib.hid hnx
    have HSW := Lib.hid hshow
    clear hv7 hshow hbk hnx HC3 HB3 HSAID HSC hgk hp3 hgp2 hgp1 HSZ
    go_wp2_with fail
    go_loopw [8] (fun i wr => ∃ k : Nat, k ≤ nx ∧ i = .int .i64 k ∧ Below wk.heap.size wk wr) (fun i _ => nx - (intOf i).toNat)
    case atStart => exact ⟨0, Nat.zero_le _, rfl, Below.refl _ _⟩
    case round =>
      obtain ⟨i, hi, rfl, hbr⟩ := hrel
      by_cases hlt : i < nx
      · obtain ⟨⟨⟨xc, xn, xkey, xval, xtime, xtrust, xback⟩, xo⟩, hx⟩ : ∃ x, out[i]? = some x := ⟨_, List.getElem?_eq_getElem (by rw [HNX.out]; exact hlt)⟩
        obtain ⟨gx, rfl, hgx, hcx⟩ := HXA.out i _ hx
        have X0 := hcx 0 _ rfl
        have X1 := hcx 1 _ rfl
        have X2 := hcx 2 _ rfl
        have X3 := hcx 3 _ rfl
        have X4 := hcx 4 _ rfl
        have X5 := hcx 5 _ rfl
        have X6 := hcx 6 _ rfl
        have X7 := hcx 7 _ rfl
        simp only [Nat.add_zero] at X0
        have HX := Lib.hid hx
        have HXS : Hid (∀ W', Below wk.heap.size wk W' → W'.cell? ⟨gx, i * 8, none⟩ = some (.int .i64 xc) ∧ W'.cell? ⟨gx, i * 8 + 1, none⟩ = some (.int .i64 xn) ∧ W'.cell? ⟨gx, i * 8 + 2, none⟩ = some (.string xkey) ∧ W'.cell? ⟨gx, i * 8 + 3, none⟩ = some (.string xval) ∧ W'.cell? ⟨gx, i * 8 + 4, none⟩ = some (.int .i64 xtime) ∧ W'.cell? ⟨gx, i * 8 + 5, none⟩ = some (.int .i64 xtrust) ∧ W'.cell? ⟨gx, i * 8 + 6, none⟩ = some (.int .i64 xback) ∧ W'.cell? ⟨gx, i * 8 + 7, none⟩ = some (.int .i64 xo)) := Lib.hid fun W' hW' =>
          ⟨(hW'.cell (p := ⟨gx, i * 8, none⟩) hgx).trans X0, (hW'.cell (p := ⟨gx, i * 8 + 1, none⟩) hgx).trans X1, (hW'.cell (p := ⟨gx, i * 8 + 2, none⟩) hgx).trans X2, (hW'.cell (p := ⟨gx, i * 8 + 3, none⟩) hgx).trans X3, (hW'.cell (p := ⟨gx, i * 8 + 4, none⟩) hgx).trans X4, (hW'.cell (p := ⟨gx, i * 8 + 5, none⟩) hgx).trans X5, (hW'.cell (p := ⟨gx, i * 8 + 6, none⟩) hgx).trans X6, (hW'.cell (p := ⟨gx, i * 8 + 7, none⟩) hgx).trans X7⟩
        have hi1 : (i : Int) < nx := by omega
        have hi0 : (0 : Int) ≤ i := by omega
        have hwi : IntKind.i64.wrap ((i : Int) + 1) = i + 1 := wrapK _ (by omega) (by omega)
        have HBR := Lib.hid hbr
        clear X0 X1 X2 X3 X4 X5 X6 X7 hcx hx hbr
        go_upto_region 13 with fail
        go_cut [60] from 37 to 205 (fun v wx => v = .bool false ∧ Below wk.heap.size wk wx)
        case first => as_aux_lemma =>
          by_cases h0 : 0 < i
          · have g0 : ((0 : Int) < i) = True := by simp only [eq_iff_iff, iff_true]; omega
            obtain ⟨j, hj⟩ : ∃ j, i = j + 1 := ⟨i - 1, by omega⟩
            obtain ⟨y, hy⟩ : ∃ y, out[j]? = some y := ⟨_, List.getElem?_eq_getElem (by rw [HNX.out]; omega)⟩
            obtain ⟨gy, hgy, hgy2, hcy⟩ := HXA.out j _ hy
            cases hgy
            have hlq := leq_no (pair_at HSW.out.sorted hy HX.out (by omega))
            obtain ⟨⟨yc, yn, ykey, yval, ytime, ytrust, yback⟩, yo⟩ := y
            dsimp only at hlq
            obtain ⟨l1, l2⟩ := hlq
            have Y2 := (HBR.out.cell (p := ⟨gx, j * 8 + 2, none⟩) hgx).trans (hcy 2 _ rfl)
            have x2 := (HXS.out wr HBR.out).2.2.1
            have hwj : IntKind.i64.wrap ((i : Int) - 1) = (j : Int) := by rw [wrapK _ (by omega) (by omega)]; omega
            have hj0 : (0 : Int) ≤ j := by omega
            have hj1 : (j : Int) < nx := by omega
            clear hj hcy hy hgy2
            go_quiet (fail)
            go_wp2_with fail
            go_meet
            exact ⟨rfl, belowDrewN HBR.out nq⟩
          · have g0 : ((0 : Int) < i) = False := by simp only [eq_iff_iff, iff_false]; omega
            go_quiet (fail)
            go_wp2_with fail
            go_meet
            exact ⟨rfl, belowDrewN HBR.out nq⟩
        case rest =>
          obtain ⟨rfl, hbc⟩ := hcut
          clear HBR
          obtain ⟨wz, hwz⟩ : ∃ W, W = wc := ⟨_, rfl⟩
          subst hwz
          go_wp2_with fail
          go_loopw [9, 10, 11] (fun v9 v10 v11 wy => SaidRel said a2 ⟨xc, xn, xkey, xval, xtime, xtrust, xback⟩ ns wk v9 v10 v11 wy) (fun _ _ v11 _ => ns - (intOf v11).toNat)
          case atStart => exact ⟨0, Nat.zero_le _, rfl, rfl, rfl, hbc⟩
          case round =>
            obtain ⟨k, hk, rfl, rfl, rfl, hby⟩ := hrel
            by_cases hlk : k < ns
            · obtain ⟨s, hs⟩ : ∃ s, said[k]? = some s := ⟨_, List.getElem?_eq_getElem (by rw [HNS.out]; exact hlk)⟩
              obtain ⟨b9, rfl, hb9, hcs⟩ := HSA.out k s hs
              have hok := HOK.out s (List.mem_of_getElem? hs)
              obtain ⟨c0, hc0⟩ : ∃ c0 : Nat, s.c = ((c0 + 1 : Nat) : Int) := ⟨(s.c - 1).toNat, by have := hok.c; omega⟩
              have hc8 : c0 < 8 := by have := hok.c; omega
              have hkn : (kn a2 s.c : Nat) = knF a2 c0 := by rw [hc0]; rfl
              have hst1 := statedB_succ (a := a2) (x := ⟨xc, xn, xkey, xval, xtime, xtrust, xback⟩) hs
              have hst2 := othersB_succ (a := a2) (x := ⟨xc, xn, xkey, xval, xtime, xtrust, xback⟩) hs
              have hbs := backB_all (a := a2) (s := s) HNS.out
              have hbad := fun hn => true_bad HNU.out HUQ.out HSUB.out HSW.out (List.mem_of_getElem? HX.out) (List.mem_of_getElem? hs) hn
              have hsn := hok.n
              obtain ⟨sc, sn, skey, sval, stime, strust, sback⟩ := s
              dsimp only at hc0 hkn hst1 hst2 hbad hsn
              rw [hkn] at hst1 hst2 hbad
              have hbk1 := fun j t (ht : said[j]? = some t) => backB_succ (a := a2) (s := ⟨sc, sn, skey, sval, stime, strust, sback⟩) ht
              dsimp only at hbk1
              rw [hkn] at hbk1
              obtain ⟨kf, hkf⟩ : ∃ n, knF a2 c0 = n := ⟨_, rfl⟩
              rw [hkf] at hst1 hst2 hbad hbk1
              have S0 := (hby.cell (p := ⟨b9, k * 7 + 0, none⟩) hb9).trans (hcs 0 _ rfl)
              have S1 := (hby.cell (p := ⟨b9, k * 7 + 1, none⟩) hb9).trans (hcs 1 _ rfl)
              have S2 := (hby.cell (p := ⟨b9, k * 7 + 2, none⟩) hb9).trans (hcs 2 _ rfl)
              have S3 := (hby.cell (p := ⟨b9, k * 7 + 3, none⟩) hb9).trans (hcs 3 _ rfl)
              have S4 := (hby.cell (p := ⟨b9, k * 7 + 4, none⟩) hb9).trans (hcs 4 _ rfl)
              have S5 := (hby.cell (p := ⟨b9, k * 7 + 5, none⟩) hb9).trans (hcs 5 _ rfl)
              have S6 := (hby.cell (p := ⟨b9, k * 7 + 6, none⟩) hb9).trans (hcs 6 _ rfl)
              simp only [Nat.add_zero] at S0
              have hk1 : (k : Int) < ns := by omega
              have hk0 : (0 : Int) ≤ k := by omega
              have hwk : IntKind.i64.wrap ((k : Int) + 1) = k + 1 := wrapK _ (by omega) (by omega)
              have hwc : IntKind.i64.wrap (sc - 1) = (c0 : Int) := by rw [wrapK _ (by omega) (by omega)]; omega
              have hc1 : (c0 : Int) < 8 := by omega
              have hc00 : (0 : Int) ≤ c0 := by omega
              have hb9y : b9 < wr.heap.size := Nat.lt_of_lt_of_le hb9 hby.size
              have hba := (Below.refl wr.heap.size wr).alloc (Nat.le_refl _) (.cells #[.int .i64 sc, .int .i64 sn, .string skey, .string sval, .int .i64 stime, .int .i64 strust, .int .i64 sback] 38)
              have hbB := hby.trans (hba.mono hby.size)
              have hbox : BoxS (wr.alloc (.cells #[.int .i64 sc, .int .i64 sn, .string skey, .string sval, .int .i64 stime, .int .i64 strust, .int .i64 sback] 38)) wr.heap.size ⟨sc, sn, skey, sval, stime, strust, sback⟩ := heap_alloc_new wr _
              have hbad2 : sn ≤ (kf : Int) → (backS said a2 ⟨sc, sn, skey, sval, stime, strust, sback⟩ = true → decide ((⟨sc, sn, skey, sval, stime, strust, sback⟩ : Sd) = ⟨xc, xn, xkey, xval, xtime, xtrust, xback⟩) = false) ∧ (backS said a2 ⟨sc, sn, skey, sval, stime, strust, sback⟩ = false → skey = xkey → ¬ xtrust < strust) := fun hn => by
                have h1 := hbad hn
                refine ⟨fun h2 => ?_, fun h2 h3 => ?_⟩
                · rw [h2] at h1
                  simp only [Bool.true_and, Bool.or_eq_false_iff] at h1
                  exact h1.1
                · rw [h2, h3] at h1
                  simpa using h1
              have HST1 := Lib.hid hst1
              have HST2 := Lib.hid hst2
              have HBS := Lib.hid hbs
              have HBAD := Lib.hid hbad2
              have HBK1 := Lib.hid hbk1
              have HS := Lib.hid hs
              have hz0 : (wr.alloc (.cells #[.int .i64 sc, .int .i64 sn, .string skey, .string sval, .int .i64 stime, .int .i64 strust, .int .i64 sback] 38)).cell? ⟨gk, c0, none⟩ = some (.int .i64 kf) := by
                have h1 := (hbB.cell (p := ⟨gk, c0, none⟩) HGK.out).trans (HC.out c0 hc8)
                rwa [hkf] at h1
              have HKF : Hid (∀ W', Below wk.heap.size wk W' → W'.cell? ⟨gk, c0, none⟩ = some (.int .i64 kf)) := Lib.hid fun W' hW' => by
                have h1 := (hW'.cell (p := ⟨gk, c0, none⟩) HGK.out).trans (HC.out c0 hc8)
                rwa [hkf] at h1
              clear hst1 hst2 hbs hbad hbad2 hbk1 hc0 hkn hs hok hcs hsn hba hkf
              go_upto_region 20 with fail
              obtain ⟨Y, hY⟩ : ∃ Y, wr.heap.size = Y := ⟨_, rfl⟩
              obtain ⟨wB, hwB⟩ : ∃ W, wr.alloc (.cells #[.int .i64 sc, .int .i64 sn, .string skey, .string sval, .int .i64 stime, .int .i64 strust, .int .i64 sback] 38) = W := ⟨_, rfl⟩
              rw [hwB] at hbox hbB hz0 ⊢
              rw [hY] at hbox ⊢
              clear hwB hY S0 S1 S2 S3 S4 S5 S6 hb9y hby
              obtain ⟨x0, x1, x2, x3, x4, x5, x6, x7⟩ := HXS.out wB hbB
              obtain ⟨q0, q1, q2, q3, q4, q5, q6⟩ := hbox.cells
              dsimp only at q0 q1 q2 q3 q4 q5 q6
              obtain ⟨st, hst⟩ : ∃ b, statedB said a2 ⟨xc, xn, xkey, xval, xtime, xtrust, xback⟩ k = b := ⟨_, rfl⟩
              obtain ⟨ot, hot⟩ : ∃ b, othersB said a2 ⟨xc, xn, xkey, xval, xtime, xtrust, xback⟩ k = b := ⟨_, rfl⟩
              have hST1 := HST1.out
              have hST2 := HST2.out
              rw [hst] at hST1 ⊢
              rw [hot] at hST2 ⊢
              have HA1 := Lib.hid hST1
              have HA2 := Lib.hid hST2
              clear hst hot hST1 hST2 HST1 HST2
              by_cases hn : sn ≤ (kf : Int)
              · have hnn : ((kf : Int) < sn) = False := by simp only [eq_iff_iff, iff_false]; omega
                have HN := Lib.hid hn
                clear hn
                go_quiet (fail)
                go_upto_region 21 with fail
                have hbB := belowDrewN hbB nq
                have hboxN : BoxS (wB.drewN nq) Y ⟨sc, sn, skey, sval, stime, strust, sback⟩ := hbox
                clear hbox x0 x1 x2 x3 x4 x5 x6 x7 q0 q1 q2 q3 q4 q5 q6 hz0 hnn
                generalize wB.drewN nq = wD at hbB hboxN ⊢
                obtain ⟨x0, x1, x2, x3, x4, x5, x6, x7⟩ := HXS.out wD hbB
                obtain ⟨q0, q1, q2, q3, q4, q5, q6⟩ := hboxN.cells
                dsimp only at q0 q1 q2 q3 q4 q5 q6
                have heq := fun W => eq_sd ⟨sc, sn, skey, sval, stime, strust, sback⟩ ⟨xc, xn, xkey, xval, xtime, xtrust, xback⟩ W
                unfold valSd at heq
                dsimp only at heq
                obtain ⟨bq, hbq⟩ : ∃ b, decide ((⟨sc, sn, skey, sval, stime, strust, sback⟩ : Sd) = ⟨xc, xn, xkey, xval, xtime, xtrust, xback⟩) = b := ⟨_, rfl⟩
                rw [hbq] at heq
                have HBQ := Lib.hid hbq
                have HEQ := Lib.hid heq
                have HBB := Lib.hid hbB
                have HBX := Lib.hid hboxN
                clear hbq hbB hboxN
                go_cut [9] from 61 to 193 (fun v wx => Keeps wk Y ⟨sc, sn, skey, sval, stime, strust, sback⟩ (st || bq) v wx)
                case first => as_aux_lemma =>
                  cases st
                  all_goals
                    go_quiet (fail)
                    go_wp2_with fail
                    go_meet
                    exact ⟨by simp, belowDrewN HBB.out nq, HBX.out⟩
                case rest =>
                  obtain ⟨rfl, hbB, hbox⟩ := hcut
                  clear heq HBB HBX x0 x1 x2 x3 x4 x5 x6 x7 q0 q1 q2 q3 q4 q5 q6
                  obtain ⟨wz, hwz⟩ : ∃ W, W = wc := ⟨_, rfl⟩
                  subst hwz
                  go_wp2_with fail
                  go_loopw [13, 14] (fun v13 v14 wy => BackRel said a2 ⟨sc, sn, skey, sval, stime, strust, sback⟩ ns Y wk v13 v14 wy) (fun _ v14 _ => ns - (intOf v14).toNat)
                  case atStart => exact ⟨0, Nat.zero_le _, rfl, rfl, hbB, hbox⟩
                  case round => as_aux_lemma =>
                    obtain ⟨j, hj, rfl, rfl, hbj, hboxj⟩ := hrel
                    by_cases hlj : j < ns
                    · obtain ⟨t, ht⟩ : ∃ t, said[j]? = some t := ⟨_, List.getElem?_eq_getElem (by rw [HNS.out]; exact hlj)⟩
                      obtain ⟨b9', h9, -, hct⟩ := HSA.out j t ht
                      cases h9
                      have hbk := HBK1.out j t ht
                      obtain ⟨bb, hbb⟩ : ∃ b, backB said a2 ⟨sc, sn, skey, sval, stime, strust, sback⟩ j = b := ⟨_, rfl⟩
                      rw [hbb] at hbk ⊢
                      obtain ⟨tc, tn, tkey, tval, ttime, ttrust, tback⟩ := t
                      dsimp only at hbk
                      have T0 := (hbj.cell (p := ⟨b9, j * 7 + 0, none⟩) hb9).trans (hct 0 _ rfl)
                      have T1 := (hbj.cell (p := ⟨b9, j * 7 + 1, none⟩) hb9).trans (hct 1 _ rfl)
                      have T6 := (hbj.cell (p := ⟨b9, j * 7 + 6, none⟩) hb9).trans (hct 6 _ rfl)
                      simp only [Nat.add_zero] at T0
                      have hz0 := HKF.out _ hbj
                      obtain ⟨q0, q1, -, -, -, -, -⟩ := hboxj.cells
                      dsimp only at q0 q1
                      have hj1 : (j : Int) < ns := by omega
                      have hj0 : (0 : Int) ≤ j := by omega
                      have hwj : IntKind.i64.wrap ((j : Int) + 1) = j + 1 := wrapK _ (by omega) (by omega)
                      have HBJ := Lib.hid hbj
                      have HBX := Lib.hid hboxj
                      have HBK := Lib.hid hbk
                      clear hbb hct ht hbj hboxj hbk
                      go_upto_region 26 with fail
                      cases bb
                      · have hcmp : ∀ a b : Int, ((a == b) = decide (a = b)) := fun a b => by rw [Bool.eq_iff_iff, beq_iff_eq, decide_eq_true_eq]
                        have h1 := hcmp tc sc
                        have h2 := hcmp tback sn
                        obtain ⟨d1, hd1⟩ : ∃ d, decide (tc = sc) = d := ⟨_, rfl⟩
                        obtain ⟨d2, hd2⟩ : ∃ d, decide (tback = sn) = d := ⟨_, rfl⟩
                        obtain ⟨d3, hd3⟩ : ∃ d, decide (tn ≤ (kf : Int)) = d := ⟨_, rfl⟩
                        have hbk := HBK.out
                        rw [hd1, hd2, hd3, Bool.false_or] at hbk
                        rw [hd1] at h1
                        rw [hd2] at h2
                        have HBK2 := Lib.hid hbk
                        clear hbk hcmp HBK
                        cases d1
                        · go_quiet (fail)
                          go_wp2_with fail
                          go_roundw
                          case rel => exact ⟨j + 1, by omega, by go_num, by rw [HBK2.out]; rfl, belowDrewN HBJ.out nq, HBX.out⟩
                          case measure => simp [intOf]; omega
                        · cases d2
                          · go_quiet (fail)
                            go_wp2_with fail
                            go_roundw
                            case rel => exact ⟨j + 1, by omega, by go_num, by rw [HBK2.out]; rfl, belowDrewN HBJ.out nq, HBX.out⟩
                            case measure => simp [intOf]; omega
                          · cases d3
                            · have hd4 : (tn ≤ (kf : Int)) = False := by simpa using hd3
                              go_quiet (fail)
                              go_wp2_with fail
                              go_roundw
                              case rel => exact ⟨j + 1, by omega, by go_num, by rw [HBK2.out]; rfl, belowDrewN HBJ.out nq, HBX.out⟩
                              case measure => simp [intOf]; omega
                            · have hd4 : (tn ≤ (kf : Int)) = True := by simpa using hd3
                              go_quiet (fail)
                              go_wp2_with fail
                              go_roundw
                              case rel => exact ⟨j + 1, by omega, by go_num, by rw [HBK2.out]; rfl, belowDrewN HBJ.out nq, HBX.out⟩
                              case measure => simp [intOf]; omega
                      · go_quiet (fail)
                        go_wp2_with fail
                        go_roundw
                        case rel => exact ⟨j + 1, by omega, by go_num, by rw [HBK.out, Bool.true_or], belowDrewN HBJ.out nq, HBX.out⟩
                        case measure => simp [intOf]; omega
                    · obtain rfl : j = ns := by omega
                      have hjj : ((j : Int) < j) = False := by simp
                      rw [HBS.out]
                      obtain ⟨bk, hbk⟩ : ∃ b, backS said a2 ⟨sc, sn, skey, sval, stime, strust, sback⟩ = b := ⟨_, rfl⟩
                      have hbad := HBAD.out HN.out
                      have hA2 := HA2.out
                      rw [hbk] at hbad hA2 ⊢
                      have HBD := Lib.hid hbad
                      have HA2' := Lib.hid hA2
                      have HBJ := Lib.hid hbj
                      have HBX := Lib.hid hboxj
                      obtain ⟨wy, hwy⟩ : ∃ W, W = wr := ⟨_, rfl⟩
                      subst hwy
                      obtain ⟨s9, hs9⟩ : ∃ b, (st || bq) = b := ⟨_, rfl⟩
                      rw [hs9]
                      have HS9 := Lib.hid hs9
                      clear hbad hA2 hbk HBAD HA2 HBS HBK1 hbj hboxj hs9
                      go_upto_region 27 with fail
                      go_cut [166] from 61 to 193 (fun v wx => Keeps wk Y ⟨sc, sn, skey, sval, stime, strust, sback⟩ false v wx)
                      case first => as_aux_lemma =>
                        obtain ⟨x0, x1, x2, x3, x4, x5, x6, x7⟩ := HXS.out _ HBJ.out
                        obtain ⟨q0, q1, q2, q3, q4, q5, q6⟩ := HBX.out.cells
                        dsimp only at q0 q1 q2 q3 q4 q5 q6
                        cases bk
                        · by_cases hk : skey = xkey
                          · have htr := (HBD.out.2 rfl) hk
                            have ht1 : (xtrust < strust) = False := by simpa using htr
                            have hk1 : (skey.toList == xkey.toList) = true := by rw [beq_iff_eq, hk]
                            have hk2 : decide (skey = xkey) = true := by simp [hk]
                            clear hk htr
                            go_quiet (fail)
                            go_wp2_with fail
                            go_meet
                            exact ⟨rfl, belowDrewN HBJ.out nq, HBX.out⟩
                          · have hk1 : (skey.toList == xkey.toList) = false := by rw [beq_eq_false_iff_ne]; intro e; exact hk ((toList_eq_iff _ _).1 e)
                            have hk2 : decide (skey = xkey) = false := by simp [hk]
                            clear hk
                            go_quiet (fail)
                            go_wp2_with fail
                            go_meet
                            exact ⟨rfl, belowDrewN HBJ.out nq, HBX.out⟩
                        · have hb := HBD.out.1 rfl
                          rw [HBQ.out] at hb
                          subst hb
                          have heq := HEQ.out
                          go_quiet (fail)
                          go_wp2_with fail
                          go_meet
                          exact ⟨rfl, belowDrewN HBJ.out nq, HBX.out⟩
                      case rest => as_aux_lemma =>
                        obtain ⟨rfl, hbB, hbox⟩ := hcut
                        clear HBJ HBX
                        obtain ⟨x0, x1, x2, x3, x4, x5, x6, x7⟩ := HXS.out _ hbB
                        obtain ⟨q0, q1, q2, q3, q4, q5, q6⟩ := hbox.cells
                        dsimp only at q0 q1 q2 q3 q4 q5 q6
                        have HBJ := Lib.hid hbB
                        have hA2 := HA2'.out
                        rw [decide_eq_true HN.out, Bool.true_and] at hA2
                        have hA1 := HA1.out
                        rw [decide_eq_true HN.out, Bool.true_and, HBQ.out, HS9.out] at hA1
                        obtain ⟨d1, hd1⟩ : ∃ d, decide (skey = xkey) = d := ⟨_, rfl⟩
                        obtain ⟨d2, hd2⟩ : ∃ d, decide (sval = xval) = d := ⟨_, rfl⟩
                        have h1 : (skey.toList == xkey.toList) = d1 := by rw [← hd1, Bool.eq_iff_iff, beq_iff_eq, decide_eq_true_eq, toList_eq_iff]
                        have h2 : (sval.toList == xval.toList) = d2 := by rw [← hd2, Bool.eq_iff_iff, beq_iff_eq, decide_eq_true_eq, toList_eq_iff]
                        rw [hd1, hd2] at hA2
                        have HF2 := Lib.hid hA2
                        have HF1 := Lib.hid hA1
                        clear hA1 hA2 hbB hbox HA2' HA1 HBD HBQ
                        go_upto_region 29 with fail
                        cases ot
                        · cases bk
                          · cases d1
                            · go_quiet (fail)
                              go_wp2_with fail
                              go_roundw
                              case rel => exact ⟨k + 1, by omega, by go_num, by rw [HF1.out], by rw [HF2.out]; rfl, belowDrewN HBJ.out nq⟩
                              case measure => simp [intOf]; omega
                            · cases d2
                              all_goals
                                go_quiet (fail)
                                go_wp2_with fail
                                go_roundw
                                case rel => exact ⟨k + 1, by omega, by go_num, by rw [HF1.out], by rw [HF2.out]; rfl, belowDrewN HBJ.out nq⟩
                                case measure => simp [intOf]; omega
                          · go_quiet (fail)
                            go_wp2_with fail
                            go_roundw
                            case rel => exact ⟨k + 1, by omega, by go_num, by rw [HF1.out], by rw [HF2.out]; rfl, belowDrewN HBJ.out nq⟩
                            case measure => simp [intOf]; omega
                        · go_quiet (fail)
                          go_wp2_with fail
                          go_roundw
                          case rel => exact ⟨k + 1, by omega, by go_num, by rw [HF1.out], by rw [HF2.out, Bool.true_or], belowDrewN HBJ.out nq⟩
                          case measure => simp [intOf]; omega
              · have hnn : ((kf : Int) < sn) = True := by simp only [eq_iff_iff, iff_true]; omega
                have HN := Lib.hid hn
                have HBB := Lib.hid hbB
                clear hn hbB hbox
                go_quiet (fail)
                go_wp2_with fail
                go_roundw
                case rel => exact ⟨k + 1, by omega, by go_num, by rw [HA1.out, decide_eq_false HN.out, Bool.false_and, Bool.or_false], by rw [HA2.out, decide_eq_false HN.out, Bool.false_and, Bool.or_false], belowDrewN HBB.out nq⟩
                case measure => simp [intOf]; omega
            · obtain rfl : k = ns := by omega
              have hkk : ((k : Int) < k) = False := by simp
              have hx := HX.out
              have hmem := List.mem_of_getElem? hx
              have hs1 : statedB said a2 ⟨xc, xn, xkey, xval, xtime, xtrust, xback⟩ k = true := by
                have h1 := true_stated HNU.out HUQ.out HSUB.out HSW.out hmem
                unfold statedB
                rw [List.take_of_length_le (by rw [HNS.out]; exact Nat.le_refl _), List.any_eq_true]
                exact ⟨_, h1.1, by rw [decide_eq_true h1.2, decide_eq_true rfl]; rfl⟩
              have hs2 : othersB said a2 ⟨xc, xn, xkey, xval, xtime, xtrust, xback⟩ k = decide (0 < xo) := by
                have h1 := true_others HNU.out HUQ.out HSUB.out HSW.out hmem
                unfold othersB
                rw [List.take_of_length_le (by rw [HNS.out]; exact Nat.le_refl _)]
                exact h1
              rw [hs1, hs2]
              obtain ⟨x0, x1, x2, x3, x4, x5, x6, x7⟩ := HXS.out _ hby
              have HBY := Lib.hid hby
              clear hs1 hs2 hx hmem hby
              by_cases ho : 0 < xo
              · have ho1 : decide (0 < xo) = true := decide_eq_true ho
                rw [ho1]
                clear ho1
                go_wp2_with fail
                go_roundw
                case rel => exact ⟨i + 1, by omega, by go_num, HBY.out⟩
                case measure => simp [intOf]; omega
              · have ho1 : decide (0 < xo) = false := decide_eq_false ho
                have ho2 : (0 < xo) = False := by simpa using ho
                rw [ho1]
                clear ho1 ho
                go_wp2_with fail
                go_roundw
                case rel => exact ⟨i + 1, by omega, by go_num, HBY.out⟩
                case measure => simp [intOf]; omega
      · obtain rfl : i = nx := by omega
        have HBR := Lib.hid hbr
        clear hbr
        have hkk : ((i : Int) < i) = False := by simp
        go_wp2_with fail
        refine (awake_sh wr).mono ?_
        rintro e wz ⟨rfl, hbz⟩
        go_wp2_with fail
        go_ret
        have hb1 := HB1.out.trans (HB.out.mono HB1.out.size)
        have hb2 := hb1.trans (HBR.out.mono hb1.size)
        exact ⟨rfl, hb2.trans (hbz.mono hb2.size)⟩
end Go.Proofs.Ytngigogaiheckaa
