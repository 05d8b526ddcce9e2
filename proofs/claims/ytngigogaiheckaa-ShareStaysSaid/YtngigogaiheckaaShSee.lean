/- What a picture shows: plain facts for the walk of show. -/
import Derived.Test.YtngigogaiheckaaShWorld
namespace Go.Proofs.Ytngigogaiheckaa

/-- does a statement count? -/
def counts (L : List Sd) (s : Sd) : Bool := !(decide (s.key.size = 0) || backed L s)
/-- those of a key that count -/
def byF (L pre : List Sd) (k : ByteArray) : List Sd := pre.filter fun s => counts L s && decide (s.key = k)
theorem byF_nil (L : List Sd) (k : ByteArray) : byF L [] k = [] := rfl
theorem byF_all (L : List Sd) (k : ByteArray) : byF L L k = grp L k := by
  unfold byF grp live
  rw [List.filter_filter]
  refine List.filter_congr fun s _ => ?_
  unfold counts
  exact Bool.and_comm _ _
theorem byF_dead {L pre : List Sd} {s : Sd} (h : counts L s = false) (k : ByteArray) : byF L (pre ++ [s]) k = byF L pre k := by
  unfold byF
  rw [List.filter_append]
  simp [h]
theorem byF_live {L pre : List Sd} {s : Sd} (h : counts L s = true) (k : ByteArray) : byF L (pre ++ [s]) k = if k = s.key then byF L pre k ++ [s] else byF L pre k := by
  unfold byF
  rw [List.filter_append]
  by_cases e : k = s.key
  · rw [if_pos e, e]
    simp [h]
  · rw [if_neg e]
    simp [h, Ne.symm e]
theorem byF_len (L pre : List Sd) (k : ByteArray) : (byF L pre k).length ≤ pre.length := List.length_filter_le _ _
theorem mem_byF {L pre : List Sd} {k : ByteArray} {s : Sd} (h : s ∈ byF L pre k) : s ∈ pre := (List.mem_filter.1 h).1
/-- the keys that were met -/
structure KeysAt (L pre : List Sd) (ks : List ByteArray) : Prop where
  nodup : ks.Nodup
  mem : ∀ k, k ∈ ks ↔ byF L pre k ≠ []
theorem KeysAt.nil (L : List Sd) : KeysAt L [] [] := ⟨List.nodup_nil, fun k => by simp [byF_nil]⟩
theorem KeysAt.dead {L pre : List Sd} {ks : List ByteArray} (h : KeysAt L pre ks) {s : Sd} (hs : counts L s = false) : KeysAt L (pre ++ [s]) ks := ⟨h.nodup, fun k => by rw [byF_dead hs]; exact h.mem k⟩
theorem KeysAt.old {L pre : List Sd} {ks : List ByteArray} (h : KeysAt L pre ks) {s : Sd} (hs : counts L s = true) (hk : byF L pre s.key ≠ []) : KeysAt L (pre ++ [s]) ks := ⟨h.nodup, fun k => by
  rw [byF_live hs, h.mem k]
  split
  · rename_i e
    subst e
    simp [hk]
  · rfl⟩
theorem KeysAt.new {L pre : List Sd} {ks : List ByteArray} (h : KeysAt L pre ks) {s : Sd} (hs : counts L s = true) (hk : byF L pre s.key = []) : KeysAt L (pre ++ [s]) (ks ++ [s.key]) := by
  have hn : s.key ∉ ks := fun hm => (h.mem _).1 hm hk
  refine ⟨List.nodup_append.2 ⟨h.nodup, by simp, fun a ha b hb e => ?_⟩, fun k => ?_⟩
  · simp at hb
    subst hb
    subst e
    exact hn ha
  · rw [byF_live hs, List.mem_append, List.mem_singleton, h.mem k]
    split
    · rename_i e
      simp [e]
    · rename_i e
      simp [e]
theorem KeysAt.len {L pre : List Sd} {ks : List ByteArray} (h : KeysAt L pre ks) : ks.length ≤ pre.length := by
  have := nodup_len (l := ks) (m := pre.map (·.key)) h.nodup fun k hk => by
    have := (h.mem k).1 hk
    obtain ⟨s, hs⟩ := List.exists_mem_of_ne_nil _ this
    have h2 := List.mem_filter.1 hs
    simp at h2
    exact List.mem_map.2 ⟨s, h2.1, h2.2.2⟩
  simpa using this

/-! ### which one counts most -/
theorem cmp_neg (a b : Sd) : cmpSd b a = -cmpSd a b := by
  unfold cmpSd
  split <;> split <;> try omega
theorem cmp_self (a : Sd) : cmpSd a a = 0 := by
  unfold cmpSd
  simp
theorem cmp_trans {a b c : Sd} (h1 : cmpSd a b ≤ 0) (h2 : cmpSd b c ≤ 0) : cmpSd a c ≤ 0 := by
  unfold cmpSd at *
  split at h1 <;> split at h2 <;> split <;> try omega
theorem best_one (s : Sd) : Best [s] s := ⟨by simp, fun x hx => by simp at hx; rw [hx, cmp_self]; omega⟩
theorem best_keep {l : List Sd} {m s : Sd} (h : Best l m) (hs : ¬ cmpSd s m < 0) : Best (l ++ [s]) m := by
  refine ⟨List.mem_append.2 (.inl h.1), fun x hx => ?_⟩
  rcases List.mem_append.1 hx with hx | hx
  · exact h.2 x hx
  · simp at hx
    subst hx
    rw [cmp_neg]
    omega
theorem best_new {l : List Sd} {m s : Sd} (h : Best l m) (hs : cmpSd s m < 0) : Best (l ++ [s]) s := by
  refine ⟨by simp, fun x hx => ?_⟩
  rcases List.mem_append.1 hx with hx | hx
  · exact cmp_trans (Int.le_of_lt hs) (h.2 x hx)
  · simp at hx
    subst hx
    rw [cmp_self]
    omega

/-! ### values -/
/-- the values that were met -/
structure ValsAt (pre : List Sd) (vs : List ByteArray) : Prop where
  nodup : vs.Nodup
  mem : ∀ v, v ∈ vs ↔ ∃ s, s ∈ pre ∧ s.val = v
theorem ValsAt.nil : ValsAt [] [] := ⟨List.nodup_nil, fun v => by simp⟩
theorem ValsAt.old {pre : List Sd} {vs : List ByteArray} (h : ValsAt pre vs) {s : Sd} (hs : s.val ∈ vs) : ValsAt (pre ++ [s]) vs := ⟨h.nodup, fun v => by
  rw [h.mem v]
  constructor
  · rintro ⟨t, ht, e⟩
    exact ⟨t, List.mem_append.2 (.inl ht), e⟩
  · rintro ⟨t, ht, e⟩
    rcases List.mem_append.1 ht with ht | ht
    · exact ⟨t, ht, e⟩
    · simp at ht
      subst ht
      subst e
      exact (h.mem _).1 hs⟩
theorem ValsAt.new {pre : List Sd} {vs : List ByteArray} (h : ValsAt pre vs) {s : Sd} (hs : s.val ∉ vs) : ValsAt (pre ++ [s]) (vs ++ [s.val]) := by
  refine ⟨List.nodup_append.2 ⟨h.nodup, by simp, fun a ha b hb e => ?_⟩, fun v => ?_⟩
  · simp at hb
    subst hb
    subst e
    exact hs ha
  · rw [List.mem_append, List.mem_singleton, h.mem v]
    constructor
    · rintro (⟨t, ht, e⟩ | e)
      · exact ⟨t, List.mem_append.2 (.inl ht), e⟩
      · exact ⟨s, by simp, e.symm⟩
    · rintro ⟨t, ht, e⟩
      rcases List.mem_append.1 ht with ht | ht
      · exact .inl ⟨t, ht, e⟩
      · simp at ht
        subst ht
        exact .inr e.symm
theorem ValsAt.len {pre : List Sd} {vs : List ByteArray} (h : ValsAt pre vs) : vs.length = (valsOf pre).length := by
  have h1 : ∀ v, v ∈ vs ↔ v ∈ valsOf pre := fun v => by
    rw [h.mem v]
    unfold valsOf
    rw [mem_once, List.mem_map]
  have h2 : (valsOf pre).Nodup := nodup_once _
  exact Nat.le_antisymm (nodup_len h.nodup fun v hv => (h1 v).1 hv) (nodup_len h2 fun v hv => (h1 v).2 hv)
theorem ValsAt.le {pre : List Sd} {vs : List ByteArray} (h : ValsAt pre vs) : vs.length ≤ pre.length := by
  have := nodup_len (l := vs) (m := pre.map (·.val)) h.nodup fun v hv => by
    obtain ⟨s, hs, e⟩ := (h.mem v).1 hv
    exact List.mem_map.2 ⟨s, hs, e⟩
  simpa using this

/-! ### all that is shown -/
/-- what is shown of the first of some keys -/
structure OutAt (L : List Sd) (ks : List ByteArray) (out : List (Sd × Int)) : Prop where
  keys : out.map (·.1.key) = ks
  each : ∀ x, x ∈ out → Best (grp L x.1.key) x.1 ∧ x.2 = ((valsOf (grp L x.1.key)).length : Int) - 1
theorem OutAt.nil (L : List Sd) : OutAt L [] [] := ⟨rfl, fun x hx => by simp at hx⟩
theorem OutAt.snoc {L : List Sd} {ks : List ByteArray} {out : List (Sd × Int)} (h : OutAt L ks out) {k : ByteArray} {m : Sd} {vs : List ByteArray} (hb : Best (grp L k) m) (hv : ValsAt (grp L k) vs) : OutAt L (ks ++ [k]) (out ++ [(m, (vs.length : Int) - 1)]) := by
  have hk : m.key = k := (mem_grp.1 hb.1).2
  refine ⟨by simp [h.keys, hk], fun x hx => ?_⟩
  rcases List.mem_append.1 hx with hx | hx
  · exact h.each x hx
  · simp at hx
    subst hx
    dsimp only
    rw [hk]
    exact ⟨hb, by rw [hv.len]⟩
theorem shows_of {L : List Sd} {ks ks' : List ByteArray} {out : List (Sd × Int)} (hk : KeysAt L L ks) (hp : ∀ k, k ∈ ks' ↔ k ∈ ks) (hs : ks'.Pairwise fun a b => Lib.compareBytes a.data.toList b.data.toList < 0) (ho : OutAt L ks' out) : Shows L out := by
  refine ⟨?_, ho.each, fun s hs' => ?_⟩
  · have := hs
    rw [← ho.keys, List.pairwise_map] at this
    exact this
  · have h1 : s.key ∈ ks' := (hp _).2 ((hk.mem _).2 (fun e => by
      have : s ∈ grp L s.key := mem_grp.2 ⟨hs', rfl⟩
      rw [← byF_all, e] at this
      simp at this))
    rw [← ho.keys] at h1
    obtain ⟨x, hx, e⟩ := List.mem_map.1 h1
    exact ⟨x, hx, e⟩
end Go.Proofs.Ytngigogaiheckaa
