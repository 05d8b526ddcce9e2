/- share: world. -/
import Derived.Test.YtngigogaiheckaaShWd
namespace Go.Proofs.Ytngigogaiheckaa
open Go.RowKit Go.Shelf Go.Lib Go.Maps

theorem belowExt {F : Nat → Prop} {W W' : World} {n : Nat} (h : Ext F W W') (hF : ∀ b, F b → n ≤ b) (hn : n ≤ W.heap.size) : Below n W W' :=
  ⟨h.os, h.tape, h.output, h.size, fun k hk => h.block k (by omega) (fun hf => by have := hF k hf; omega)⟩
theorem ext7 (w : World) (Y : Nat) (a0 a1 a2 a3 a4 a5 a6 : Value) : Ext (fun b => b = Y) w (((((((w.setCell ⟨Y, 0, none⟩ a0).setCell ⟨Y, 1, none⟩ a1).setCell ⟨Y, 2, none⟩ a2).setCell ⟨Y, 3, none⟩ a3).setCell ⟨Y, 4, none⟩ a4).setCell ⟨Y, 5, none⟩ a5).setCell ⟨Y, 6, none⟩ a6) := by
  have e : ∀ (W : World) (k : Nat) (u : Value), Ext (fun b => b = Y) w W → Ext (fun b => b = Y) w (W.setCell ⟨Y, k, none⟩ u) := fun W k u h => h.setCell (.inl rfl) u
  exact e _ _ _ (e _ _ _ (e _ _ _ (e _ _ _ (e _ _ _ (e _ _ _ (e _ _ _ (Ext.refl _ w)))))))
/-- a block that is nobody's turns -/
theorem WdAt.same {w wr wx : World} {n : Nat} {W : Wd} {ps : Nat → Nat} {F : Nat → Nat → Prop} {vp vs : Value} {X : Nat} (h : WdAt w wr n W ps F vp vs) (hE : Ext (fun b => b = X) wr wx) (hX : w.heap.size ≤ X) (h1 : ∀ i, i < n → ¬ F i X) (h2 : vp.ownBlock ≠ some X) (h3 : vs.ownBlock ≠ some X) : WdAt w wx n W ps F vp vs :=
  ⟨fun i hi => (h.pic i hi).ext hE fun b hb e => h1 i hi (by rw [← e]; exact hb), fun i b hi hf => ⟨(h.lo i b hi hf).1, Nat.lt_of_lt_of_le (h.lo i b hi hf).2 hE.size⟩, h.dis, rowOff h.pics hE fun b e => by rw [e]; exact h2, rowOff h.said hE fun b e => by rw [e]; exact h3, h.offp, h.offs, h.ne, h.below.trans (belowExt hE (fun b e => by rw [e]; exact hX) h.below.size)⟩
theorem step_say {W : Wd} {t : Tk} {i : Nat} {s : Sd} (hsay : t.say = true) (hw : t.who % 3 = i) (hs : sayOf ((i + 1 : Nat) : Int) (W.ar i) t.sd = s) (hb : saidB s = true) : W.step t = ⟨up W.ar i (W.ar i ++ [s]), W.said ++ [s]⟩ := by
  unfold Wd.step
  rw [hw, hs, if_pos hsay, if_pos hb]
theorem step_no {W : Wd} {t : Tk} {i : Nat} {s : Sd} (hsay : t.say = true) (hw : t.who % 3 = i) (hs : sayOf ((i + 1 : Nat) : Int) (W.ar i) t.sd = s) (hb : saidB s = false) : W.step t = W := by
  unfold Wd.step
  rw [hw, hs, if_pos hsay, if_neg (by rw [hb]; simp)]
theorem step_take {W : Wd} {t : Tk} {i : Nat} (hsay : t.say = false) (hw : t.who % 3 = i) : W.step t = ⟨up W.ar i (W.ar i ++ fresh (W.ar i) (heard W.said t)), W.said⟩ := by
  unfold Wd.step
  rw [hw, if_neg (by rw [hsay]; simp)]
def heardN (said : List Sd) (t : Tk) : Nat := if said.length = 0 then 0 else t.many % 6
theorem heard_len (said : List Sd) (t : Tk) : (heard said t).length = heardN said t := by
  unfold heard heardN
  split <;> simp
theorem heard_get {said : List Sd} {t : Tk} {j : Nat} (h : j < heardN said t) : (heard said t)[j]? = said[(t.frm + 7 * j) % said.length]? := by
  unfold heardN at h
  unfold heard
  split at h
  · omega
  · rename_i h0
    rw [if_neg h0]
    have h1 : (t.frm + 7 * j) % said.length < said.length := Nat.mod_lt _ (by omega)
    simp [h, List.getElem?_eq_getElem h1]
theorem infoPt : (Try.prog.info? 30).map (fun i => (i.zero, i.size, i.bytes)) = some (some (.pointer none), 1, 8) := by kernel_rfl
set_option maxRecDepth 100000 in
set_option maxHeartbeats 4000000 in
theorem world_sh (v : Value) (l : List Tk) (w : World) (h : Lst 11 encT w v l) (hlen : l.length ≤ 120) (hbt : ∀ t, t ∈ l → t.who < 256 ∧ t.frm < 256 ∧ t.many < 256) :
    Calls Try.prog 10 #[v] w fun e w' => ∃ ps F vp vs, e = .returned (.tuple #[vp, vs, .bool true]) ∧ WdAt w w' 3 (Wd.none.run l) ps F vp vs := by
  obtain ⟨A, ca, rfl, hl1, hm, -⟩ := id h
  have HA := Lib.hid h
  have HBT := Lib.hid hbt
  clear h hm hbt
  obtain ⟨na, hna⟩ : ∃ n, l.length = n := ⟨_, rfl⟩
  have HNA := Lib.hid hna
  rw [hna] at hl1 hlen ⊢
  clear hna
  obtain ⟨i1, hi1, hy0, hy1, hy2⟩ := info_parts infoPt
  obtain ⟨i2, hi2, hz0, hz1, hz2⟩ := info_parts infoS
  go_enter Try.func10, Try.ntmps10
  go_wp2_with fail
  go_loopw [5, 6] (fun vp i wr => ∃ (k : Nat) (ps : Nat → Nat) (F : Nat → Nat → Prop), k ≤ 3 ∧ i = .int .i64 ((k : Int) + 1) ∧ WdAt w wr k Wd.none ps F vp (.slice none 0 0)) (fun _ i _ => 4 - (intOf i).toNat)
  case atStart => exact ⟨0, _, _, by omega, rfl, WdAt.start w⟩
  case round =>
    obtain ⟨k, ps, F, hk, rfl, hW⟩ := hrel
    by_cases hk3 : k < 3
    · have hle : ((k : Int) + 1 ≤ 3) = True := by simp only [eq_iff_iff, iff_true]; omega
      have hnew := new_sh ((k : Int) + 1) (by unfold inB; simp; omega) wr
      have HW := Lib.hid hW
      have HNW := Lib.hid hnew
      clear hnew hW
      have hwk : IntKind.i64.wrap ((k : Int) + 1 + 1) = k + 1 + 1 := wrapK _ (by omega) (by omega)
      go_wp2_with fail
      refine HNW.out.mono ?_
      rintro e w3 ⟨p, rfl, hp, hb3⟩
      have hrow := ownsBelow HW.out.pics hb3
      have hws := HW.out.below.size
      have hbs := hb3.size
      have hns : (ptrs ps k).length = k := ptrs_len ps k
      go_wp2_with (at_builtin; go_loud (refine wpList_append_lies _ rfl _ _ _ rfl w.heap.size 30 i1 _ 1 8 Try.underlying25 hi1 hy0 hy1 hy2 rfl (by omega) u5 k (ptrs ps k) rfl (hrow.alloc _) ⟨w3.heap.size, 0, none⟩ 1 1 [.pointer (some ⟨p, 0, none⟩)] rfl rfl (newsLit (cs := #[.pointer (some ⟨p, 0, none⟩)]) rfl) (by simp [Value.oneCell']) (by omega) (by unfold maxLen; omega) (by omega) (by simp; omega) (w3.heap.size + 1) (by simp) ?_); intro gg cap5 w12 hown12 hgrow12 hat12 hlt12)
      go_roundw
      case rel =>
        exact ⟨k + 1, _, _, by omega, by go_num, HW.out.add rfl (by rw [show ((k + 1 : Nat) : Int) = k + 1 by omega]; exact hp) hb3 rfl hown12 hgrow12 hat12⟩
      case measure => simp [intOf]; omega
    · obtain rfl : k = 3 := by omega
      rw [show ((3 : Nat) : Int) + 1 = 4 from rfl]
      have HW := Lib.hid hW
      clear hW
      have HPS := Lib.hid HW.out.pics
      obtain ⟨gp, cp, rfl, hgp1, hgp2⟩ := HW.out.pics.form (by omega)
      go_wp2_with fail
      go_loopw [9, 10] (fun vs i wr => ∃ (k : Nat) (F : Nat → Nat → Prop), k ≤ na ∧ i = .int .i64 k ∧ WdAt w wr 3 (Wd.none.run (l.take k)) ps F (.slice (some ⟨gp, 0, none⟩) 3 cp) vs) (fun _ i _ => na - (intOf i).toNat)
      case atStart => exact ⟨0, _, Nat.zero_le _, rfl, HW.out⟩
      case round =>
        obtain ⟨k, F, hk, rfl, hW⟩ := hrel
        by_cases hlt : k < na
        · have h1 := HNA.out
          obtain ⟨x, hx⟩ : ∃ x, l[k]? = some x := ⟨_, List.getElem?_eq_getElem (by omega)⟩
          obtain ⟨b1, o1, rfl, hb1, hc1⟩ := HA.out.at (by omega)
          have cc := fun i u h => (hW.below.cell (p := ⟨b1, o1 + k * 11 + i, none⟩) hb1).trans (hc1 k i x u hx h)
          have x0 := cc 0 _ rfl
          have x1 := cc 1 _ rfl
          have x2 := cc 2 _ rfl
          have x3 := cc 3 _ rfl
          have x4 := cc 4 _ rfl
          have x5 := cc 5 _ rfl
          have x6 := cc 6 _ rfl
          have x7 := cc 7 _ rfl
          have x8 := cc 8 _ rfl
          have x9 := cc 9 _ rfl
          have x10 := cc 10 _ rfl
          simp only [Nat.add_zero] at x0
          have hrun := Wd.run_take (W := Wd.none) hx
          have hinv := Inv.run (l := l.take k) Inv.none
          have hbt := HBT.out x (List.mem_of_getElem? hx)
          have hk1 : (k : Int) < na := by omega
          have hk0 : (0 : Int) ≤ k := by omega
          have hwk : IntKind.i64.wrap ((k : Int) + 1) = k + 1 := wrapK _ (by omega) (by omega)
          clear hc1 cc
          obtain ⟨iw, hiw⟩ : ∃ i, x.who % 3 = i := ⟨_, rfl⟩
          have hi3 : iw < 3 := by omega
          have hmod : (x.who : Int) % 3 = iw := by omega
          have hiw3 : (iw : Int) < 3 := by omega
          have hiw0 : (0 : Int) ≤ iw := by omega
          have cp0 := hW.pics.cells (g := gp) rfl iw _ (ptrs_get ps hi3)
          rw [add_pl, Nat.zero_add] at cp0
          have HWD := Lib.hid hW
          obtain ⟨Wc, hWc⟩ : ∃ W, Wd.none.run (l.take k) = W := ⟨_, rfl⟩
          rw [hWc] at HWD hrun hinv
          have HIN := Lib.hid hinv
          have HRUN := Lib.hid hrun
          have hinl : (l.take k).length = k := by simp; omega
          have hbw := hW.below
          have hwb := hbw.size
          clear hW hinv hrun
          go_upto_region 14 with fail
          rw [hmod]
          cases hsay : x.say with
          | true =>
            rw [hsay] at x3
            obtain ⟨s, hs⟩ : ∃ s, sayOf ((iw + 1 : Nat) : Int) (Wc.ar iw) x.sd = s := ⟨_, rfl⟩
            obtain ⟨sr, er, Wn, hcase, hcall⟩ : ∃ (sr : Sd) (er : Int) (Wn : Wd), ((saidB s = true ∧ sr = s ∧ er = 0 ∧ Wn = ⟨up Wc.ar iw (Wc.ar iw ++ [s]), Wc.said⟩) ∨ (saidB s = false ∧ er = 2 ∧ Wn = Wc)) ∧
                ∀ W', Below wr.heap.size wr W' → Calls Try.prog 26 #[.pointer (some ⟨ps iw, 0, none⟩), .string x.sd.key, .string x.sd.val, .int .i64 x.sd.time, .int .i64 x.sd.trust, .int .i64 x.sd.back] W' fun e w' => e = .returned (.tuple #[valSd sr, .int .i64 er]) ∧ (∃ F', WdAt w w' 3 Wn ps F' (.slice (some ⟨gp, 0, none⟩) 3 cp) u9 ∧ ∀ i b, i < 3 → F' i b → b < wr.heap.size ∨ W'.heap.size ≤ b) ∧ Below w.heap.size wr w' ∧ (∀ b, wr.heap.size ≤ b → b < W'.heap.size → w'.heap[b]? = W'.heap[b]?) := by
              have hl := HIN.out.lenA iw
              have hl2 := HIN.out.len
              cases hsb : saidB s with
              | true =>
                refine ⟨s, 0, _, .inl ⟨rfl, rfl, rfl, rfl⟩, fun W' hW' => ?_⟩
                have hw := HWD.out.on hW'
                refine (say_sh W' (hw.pic iw hi3) (fun b hf => (hw.lo iw b hi3 hf).2) (by omega) (HIN.out.numsA iw) (by omega) x.sd).mono ?_
                rw [hs]
                rintro e w' (⟨h1, rfl, h2, h3⟩ | ⟨h1, -, -⟩)
                · refine ⟨rfl, ⟨_, hw.turn hi3 h2 h3, fun i b hi hf => ?_⟩, (hW'.mono hwb).trans (belowExt h3 (fun b hf => (hw.lo iw b hi3 hf).1) (by have := hW'.size; omega)), fun b hb1 hb2 => h3.block b hb2 (fun hf => by have := (HWD.out.lo iw b hi3 hf).2; omega)⟩
                  by_cases e : i = iw
                  · simp only [if_pos e] at hf
                    rcases hf with hf | hf
                    · exact .inl (HWD.out.lo iw b hi3 hf).2
                    · exact .inr hf.1
                  · simp only [if_neg e] at hf
                    exact .inl (HWD.out.lo i b hi hf).2
                · rw [hsb] at h1
                  cases h1
              | false =>
                refine ⟨noSd, 2, Wc, .inr ⟨rfl, rfl, rfl⟩, fun W' hW' => ?_⟩
                have hw := HWD.out.on hW'
                refine (say_sh W' (hw.pic iw hi3) (fun b hf => (hw.lo iw b hi3 hf).2) (by omega) (HIN.out.numsA iw) (by omega) x.sd).mono ?_
                rw [hs]
                rintro e w' (⟨h1, -, -, -⟩ | ⟨h1, rfl, h2⟩)
                · rw [hsb] at h1
                  cases h1
                · exact ⟨rfl, ⟨F, hw.on h2, fun i b hi hf => .inl (HWD.out.lo i b hi hf).2⟩, (hW'.mono hwb).trans (h2.mono (by have := hW'.size; omega)), fun b hb1 hb2 => h2.block b hb2⟩
            have z6 : wr.cell? ⟨b1, o1 + k * 11 + 4 + 2, none⟩ = some (.string x.sd.key) := x6
            have z7 : wr.cell? ⟨b1, o1 + k * 11 + 4 + 3, none⟩ = some (.string x.sd.val) := x7
            have z8 : wr.cell? ⟨b1, o1 + k * 11 + 4 + 4, none⟩ = some (.int .i64 x.sd.time) := x8
            have z9 : wr.cell? ⟨b1, o1 + k * 11 + 4 + 5, none⟩ = some (.int .i64 x.sd.trust) := x9
            have z10 : wr.cell? ⟨b1, o1 + k * 11 + 4 + 6, none⟩ = some (.int .i64 x.sd.back) := x10
            have hb1r : b1 < wr.heap.size := by omega
            have HS : Hid (∀ W' : World, W'.heap[b1]? = wr.heap[b1]? → (W'.cell? ⟨b1, o1 + k * 11 + 4 + 2, none⟩ = some (.string x.sd.key) ∧ W'.cell? ⟨b1, o1 + k * 11 + 4 + 3, none⟩ = some (.string x.sd.val) ∧ W'.cell? ⟨b1, o1 + k * 11 + 4 + 4, none⟩ = some (.int .i64 x.sd.time) ∧ W'.cell? ⟨b1, o1 + k * 11 + 4 + 5, none⟩ = some (.int .i64 x.sd.trust) ∧ W'.cell? ⟨b1, o1 + k * 11 + 4 + 6, none⟩ = some (.int .i64 x.sd.back))) := Lib.hid fun W' hW' => ⟨(World.cell?_of_block hW').trans z6, (World.cell?_of_block hW').trans z7, (World.cell?_of_block hW').trans z8, (World.cell?_of_block hW').trans z9, (World.cell?_of_block hW').trans z10⟩
            obtain ⟨sc, sn, skey, sval, stime, strust, sback⟩ := sr
            dsimp only [valSd] at hcall
            have HC := Lib.hid hcall
            clear hcall
            have HR1 := Lib.hid (belowDrew (Below.refl wr.heap.size wr))
            have HRB := Lib.hid (belowDrew ((Below.refl wr.heap.size wr).alloc (Nat.le_refl _) (.cells #[.int .i64 0, .int .i64 0, .string ⟨#[]⟩, .string ⟨#[]⟩, .int .i64 0, .int .i64 0, .int .i64 0] 38)))
            have hr0 : wr.heap[b1]? = wr.heap[b1]? := rfl
            have hr1 : wr.drew.heap[b1]? = wr.heap[b1]? := rfl
            have hrb : (wr.alloc (.cells #[.int .i64 0, .int .i64 0, .string ⟨#[]⟩, .string ⟨#[]⟩, .int .i64 0, .int .i64 0, .int .i64 0] 38)).drew.heap[b1]? = wr.heap[b1]? := HRB.out.block b1 hb1r
            have hrz : (wr.alloc (.cells #[.int .i64 0, .int .i64 0, .string ⟨#[]⟩, .string ⟨#[]⟩, .int .i64 0, .int .i64 0, .int .i64 0] 38)).drew.heap[wr.heap.size]? = some (.cells #[.int .i64 0, .int .i64 0, .string ⟨#[]⟩, .string ⟨#[]⟩, .int .i64 0, .int .i64 0, .int .i64 0] 38 (0, 0)) := heap_alloc_new wr _
            have hrs : (wr.alloc (.cells #[.int .i64 0, .int .i64 0, .string ⟨#[]⟩, .string ⟨#[]⟩, .int .i64 0, .int .i64 0, .int .i64 0] 38)).drew.heap.size = wr.heap.size + 1 := size_alloc' wr _
            have hneR : b1 ≠ wr.heap.size := by omega
            go_upto_region 15 with fail
            go_cut [12, 13] from 58 to 92 (fun s12 s13 wx => s13 = .int .i64 er ∧ ∃ X F', s12 = .pointer (some ⟨X, 0, none⟩) ∧ BoxS wx X ⟨sc, sn, skey, sval, stime, strust, sback⟩ ∧ WdAt w wx 3 Wn ps F' (.slice (some ⟨gp, 0, none⟩) 3 cp) u9)
            case first =>
              go_region_held3 (fun W' => W'.cell? ⟨b1, o1 + k * 11 + 4 + 2, none⟩ = some (.string x.sd.key) ∧ W'.cell? ⟨b1, o1 + k * 11 + 4 + 3, none⟩ = some (.string x.sd.val) ∧ W'.cell? ⟨b1, o1 + k * 11 + 4 + 4, none⟩ = some (.int .i64 x.sd.time) ∧ W'.cell? ⟨b1, o1 + k * 11 + 4 + 5, none⟩ = some (.int .i64 x.sd.trust) ∧ W'.cell? ⟨b1, o1 + k * 11 + 4 + 6, none⟩ = some (.int .i64 x.sd.back))
                (first | with_reducible exact HS.out _ hr0 | with_reducible exact HS.out _ hr1 | with_reducible exact HS.out _ hrb | with_reducible exact HS.out _ hA | with_reducible exact HS.out _ ((Below.heap_alloc w5 _ _ h5l).trans hA) | with_reducible exact HS.out _ ((other7 w5 hneR _ _ _ _ _ _ _).trans hA) | trace_state)
                (first | (go_at_call 26; (with_reducible refine (HC.out _ HR1.out).mono ?_); rintro e w5 ⟨rfl, ⟨F', hF', -⟩, hbA, -⟩; have hA : w5.heap[b1]? = wr.heap[b1]? := hbA.block b1 hb1; have h5l : b1 < w5.heap.size := Nat.lt_of_lt_of_le hb1r hbA.size) | (go_at_call 26; (with_reducible refine (HC.out _ HRB.out).mono ?_); rintro e w5 ⟨rfl, ⟨F', hF', hFb⟩, hbA, hnewb⟩; have hA : w5.heap[b1]? = wr.heap[b1]? := hbA.block b1 hb1; have hzw := (hnewb wr.heap.size (Nat.le_refl _) (by rw [hrs]; omega)).trans hrz; have d0 := zcell0 hzw; have d1 := zcell1 hzw; have d2 := zcell2 hzw; have d3 := zcell3 hzw; have d4 := zcell4 hzw; have d5 := zcell5 hzw; have d6 := zcell6 hzw; have e0 := zfro hzw 0; have e1 := zfro hzw 1; have e2 := zfro hzw 2; have e3 := zfro hzw 3; have e4 := zfro hzw 4; have e5 := zfro hzw 5; have e6 := zfro hzw 6))
              all_goals
                go_wp2_with fail
                go_meet
                first
                  | (refine ⟨by with_reducible rfl, w5.heap.size, F', by with_reducible rfl, ?_, ?_⟩
                     · exact heap_alloc_new w5 _
                     · exact hF'.on ((Below.refl _ _).alloc (Nat.le_refl _) _))
                  | (refine ⟨by with_reducible rfl, wr.heap.size, F', by with_reducible rfl, ?_, ?_⟩
                     · exact block7 hzw _ _ _ _ _ _ _
                     · exact hF'.same (ext7 w5 _ _ _ _ _ _ _ _) hwb (fun i hi hf => by have := hFb i _ hi hf; omega) (fun e => by have := (ownBlock_lt HWD.out.pics e).2; omega) (fun e => by have := (ownBlock_lt HWD.out.said e).2; omega))
            case rest =>
              obtain ⟨rfl, X, F', rfl, hbX, hWn⟩ := hcut
              have hrunk := HRUN.out
              have hll := HIN.out.len
              rcases hcase with ⟨hsb, hse, rfl, rfl⟩ | ⟨hsb, rfl, rfl⟩
              · rw [step_say hsay hiw hs hsb] at hrunk
                obtain ⟨q0, q1, q2, q3, q4, q5, q6⟩ := hbX.cells
                dsimp only at q0 q1 q2 q3 q4 q5 q6
                have hsr := hWn.said
                dsimp only at hsr
                have hwc := hWn.below.size
                go_wp2_with (at_builtin; go_loud (refine wpList_append_lies _ rfl _ _ _ rfl w.heap.size 38 i2 _ 7 72 Try.underlying26 hi2 hz0 hz1 hz2 rfl (by omega) u9 Wc.said.length (flatE encSd Wc.said) rfl (hsr.alloc _) ⟨wc.heap.size, 0, none⟩ 1 1 (encSd ⟨sc, sn, skey, sval, stime, strust, sback⟩) rfl rfl (seven_new wc ⟨sc, sn, skey, sval, stime, strust, sback⟩ _) (by simp [encSd, Value.oneCell']) (by omega) (by unfold maxLen; omega) (by omega) (by simp; omega) (wc.heap.size + 1) (by simp) ?_); intro gg cap5 w12 hown12 hgrow12 hat12 hlt12)
                go_roundw
                case rel =>
                  refine ⟨k + 1, F', by omega, by go_num, ?_⟩
                  rw [hrunk, ← hse]
                  have := hWn.push (s := ⟨sc, sn, skey, sval, stime, strust, sback⟩) hown12 hgrow12 hat12
                  rw [← hse] at this
                  exact this
                case measure => simp [intOf]; omega
              · rw [step_no hsay hiw hs hsb] at hrunk
                go_wp2_with fail
                go_roundw
                case rel =>
                  refine ⟨k + 1, F', by omega, by go_num, ?_⟩
                  rw [hrunk]
                  exact hWn
                case measure => simp [intOf]; omega
          | false =>
            rw [hsay] at x3
            have hll := HIN.out.len
            obtain ⟨mh, hmh⟩ : ∃ m, heardN Wc.said x = m := ⟨_, rfl⟩
            have hmh5 : mh ≤ 5 := by rw [← hmh]; unfold heardN; split <;> omega
            have hH := heard_len Wc.said x
            rw [hmh] at hH
            obtain ⟨ns, hns⟩ : ∃ n, Wc.said.length = n := ⟨_, rfl⟩
            obtain ⟨S9, c9, rfl⟩ := rowSlice HWD.out.said
            rw [hns] at hll ⊢
            obtain ⟨m6, hm6⟩ : ∃ m, x.many % 6 = m := ⟨_, rfl⟩
            have hmod6 : (x.many : Int) % 6 = m6 := by omega
            have hmh2 : mh = if ns = 0 then 0 else m6 := by rw [← hmh]; unfold heardN; rw [hns, hm6]
            obtain ⟨wo, hwo⟩ : ∃ W, W = wr := ⟨_, rfl⟩
            subst hwo
            have hla := HIN.out.lenA iw
            have hrunk := HRUN.out
            rw [step_take hsay hiw] at hrunk
            have HTK : Hid (∀ W' vh, Below wo.heap.size wo W' → Lst 7 encSd W' vh (heard Wc.said x) → Calls Try.prog 14 #[.pointer (some ⟨ps iw, 0, none⟩), vh] W' fun e w' => (∃ nn : Nat, e = .returned (.tuple #[.int .i64 nn, .int .i64 0])) ∧ ∃ F', WdAt w w' 3 (Wd.none.run (l.take (k + 1))) ps F' (.slice (some ⟨gp, 0, none⟩) 3 cp) (.slice S9 ns c9)) := Lib.hid fun W' vh hW' hvh => by
              have hw := HWD.out.on hW'
              have hlh : (heard Wc.said x).length ≤ 5 := by rw [hH]; exact hmh5
              refine (take_sh W' (hw.pic iw hi3) (fun b hf => (hw.lo iw b hi3 hf).2) vh _ hvh (HIN.out.numsA iw) (fun s hs => HIN.out.ok s (heard_sub hs)) (fun s hs t ht he => HIN.out.uq s (heard_sub hs) t (ht.elim (HIN.out.sub iw t) heard_sub) he) (by omega)).mono ?_
              rintro e w' ⟨rfl, h2, h3⟩
              rw [hrunk, ← hns]
              exact ⟨⟨_, rfl⟩, _, hw.turn hi3 h2 h3⟩
            go_wp2_with fail
            go_loopw [14, 15] (fun vh i wy => ∃ j : Nat, j ≤ mh ∧ i = .int .i64 j ∧ wy.ownsRow wo.heap.size 38 7 vh j (flatE encSd ((heard Wc.said x).take j)) ∧ Below wo.heap.size wo wy) (fun _ i _ => mh - (intOf i).toNat)
            case atStart => exact ⟨0, Nat.zero_le _, rfl, World.ownsRow_nil _ _ _ _, Below.refl _ _⟩
            case round =>
              obtain ⟨j, hj, rfl, hrow, hby⟩ := hrel
              have hbys := hby.size
              have x1 := (hby.cell (p := ⟨b1, o1 + k * 11 + 1, none⟩) (by show b1 < _; omega)).trans x1
              have x2 := (hby.cell (p := ⟨b1, o1 + k * 11 + 2, none⟩) (by show b1 < _; omega)).trans x2
              by_cases hjm : j < mh
              · have hns0 : ns ≠ 0 := by
                  intro e
                  rw [if_pos e] at hmh2
                  omega
                rw [if_neg hns0] at hmh2
                have hj6 : (j : Int) < m6 := by omega
                have hn0 : (0 : Int) < ns := by omega
                obtain ⟨idx, hidx⟩ : ∃ i, (x.frm + 7 * j) % ns = i := ⟨_, rfl⟩
                have hidl : idx < ns := by rw [← hidx]; exact Nat.mod_lt _ (by omega)
                obtain ⟨s, hs⟩ : ∃ s, Wc.said[idx]? = some s := ⟨_, List.getElem?_eq_getElem (by rw [hns]; exact hidl)⟩
                have hhs : (heard Wc.said x)[j]? = some s := by
                  rw [heard_get (by rw [hmh]; exact hjm), hns, hidx]
                  exact hs
                have hstep := take_succ' hhs
                obtain ⟨b9, cap9, e9, -, hb9⟩ := HWD.out.said.form (by omega)
                cases e9
                have hc9 := HWD.out.said.cells (g := b9) rfl
                have hk9 : ∀ (i : Nat) (u : Value), (encSd s)[i]? = some u → wr.cell? ⟨b9, idx * 7 + i, none⟩ = some u := fun i u hu => by
                  have h1 := hc9 _ _ (flatE_get encSd_len Wc.said idx i _ _ hs hu)
                  rw [add_pl, Nat.zero_add] at h1
                  exact (hby.cell (p := ⟨b9, idx * 7 + i, none⟩) hb9).trans h1
                obtain ⟨sc, sn, skey, sval, stime, strust, sback⟩ := s
                have y0 := hk9 0 _ rfl
                have y1 := hk9 1 _ rfl
                have y2 := hk9 2 _ rfl
                have y3 := hk9 3 _ rfl
                have y4 := hk9 4 _ rfl
                have y5 := hk9 5 _ rfl
                have y6 := hk9 6 _ rfl
                simp only [Nat.add_zero] at y0
                clear hk9 hc9
                have hbf := hbt.2.1
                have hj0 : (0 : Int) ≤ j := by omega
                have hm7 : IntKind.i64.wrap (7 * (j : Int)) = 7 * j := wrapK _ (by omega) (by omega)
                have hm8 : IntKind.i64.wrap ((x.frm : Int) + 7 * j) = x.frm + 7 * j := wrapK _ (by omega) (by omega)
                have hm9 : ((x.frm : Int) + 7 * j) % ns = idx := by rw [← hidx]; simp
                have hid0 : (0 : Int) ≤ idx := by omega
                have hid1 : (idx : Int) < ns := by omega
                have hns1 : ((ns : Int) = 0) = False := by simp only [eq_iff_iff, iff_false]; omega
                have hba := (Below.refl wr.heap.size wr).alloc (Nat.le_refl _) (.cells #[.int .i64 sc, .int .i64 sn, .string skey, .string sval, .int .i64 stime, .int .i64 strust, .int .i64 sback] 38)
                have hror : ∀ r, u14.ownBlock = some r → wo.heap.size ≤ r := fun r e => (ownBlock_lt hrow e).1
                have hlh : (heard Wc.said x).length = mh := hH
                clear hmh2
                go_wp2_with (at_builtin; go_loud (refine wpList_append_lies _ rfl _ _ _ rfl wo.heap.size 38 i2 _ 7 72 Try.underlying26 hi2 hz0 hz1 hz2 rfl (by omega) u14 j (flatE encSd ((heard Wc.said x).take j)) rfl (hrow.alloc _) ⟨wr.heap.size, 0, none⟩ 1 1 (encSd ⟨sc, sn, skey, sval, stime, strust, sback⟩) rfl rfl (seven_new wr ⟨sc, sn, skey, sval, stime, strust, sback⟩ _) (by simp [encSd, Value.oneCell']) (by omega) (by unfold maxLen; omega) (by omega) (by simp; omega) (wr.heap.size + 1) (by simp) ?_); intro gg cap5 w12 hown12 hgrow12 hat12 hlt12)
                go_roundw
                case rel =>
                  refine ⟨j + 1, by omega, by go_num, ?_, (hby.trans (hba.mono (by omega))).grown hgrow12 (by simp; omega) hror⟩
                  rw [hstep, flatE_append]
                  simpa [flatE] using hown12
                case measure => simp [intOf]; omega
              · obtain rfl : j = mh := by omega
                have hcond : (m6 ≤ j) ∨ (j < m6 ∧ ns = 0) := by
                  by_cases e : ns = 0
                  · by_cases e2 : j < m6
                    · exact .inr ⟨e2, e⟩
                    · exact .inl (by omega)
                  · rw [if_neg e] at hmh2
                    exact .inl (by omega)
                have hLst : Lst 7 encSd wr u14 (heard Wc.said x) := by
                  rw [List.take_of_length_le (by omega)] at hrow
                  exact Lst_of_own encSd_len hrow (by rw [hH])
                rcases hcond with hc | ⟨hc, hc2⟩
                · clear hmh2
                  have hq1 : ((j : Int) < m6) = False := by simp only [eq_iff_iff, iff_false]; omega
                  go_wp2_with fail
                  refine (HTK.out wr _ hby hLst).mono ?_
                  rintro e w9 ⟨⟨nn, rfl⟩, F', hF'⟩
                  go_wp2_with fail
                  go_roundw
                  case rel => exact ⟨k + 1, F', by omega, by go_num, hF'⟩
                  case measure => simp [intOf]; omega
                · subst hc2
                  have hj0 : j = 0 := by rw [hmh2, if_pos rfl]
                  subst hj0
                  clear hmh2
                  have hq1 : ((0 : Int) < m6) = True := by simp only [eq_iff_iff, iff_true]; omega
                  go_wp2_with fail
                  refine (HTK.out wr _ hby hLst).mono ?_
                  rintro e w9 ⟨⟨nn, rfl⟩, F', hF'⟩
                  go_wp2_with fail
                  go_roundw
                  case rel => exact ⟨k + 1, F', by omega, by go_num, hF'⟩
                  case measure => simp [intOf]; omega
        · obtain rfl : k = na := by omega
          have hkk : ((k : Int) < k) = False := by simp
          have HWD := Lib.hid hW
          clear hW
          go_wp2_with fail
          refine bodyPost_ret (v := .tuple #[.slice (some ⟨gp, 0, none⟩) 3 cp, u9, .bool true]) (by simp [results, Try.results10, go_sem]) rfl ?_
          have := HWD.out
          rw [List.take_of_length_le (by rw [HNA.out]; exact Nat.le_refl _)] at this
          exact ⟨_, _, _, _, rfl, this⟩
end Go.Proofs.Ytngigogaiheckaa
