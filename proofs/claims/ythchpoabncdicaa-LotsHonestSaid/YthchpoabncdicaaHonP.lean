/- Honest villages, in plain words: nobody draws or trades better by telling another liking; conditions: up to four villages. -/
import Derived.Test.YthchpoabncdicaaTtcQ
namespace Go.Proofs.Ythchpoabncdicaa
open Go.RowKit

/-- The villages, one of them telling a liking of its own choice. -/
def lieV (vs : List Vil) (who : Nat) (L : List Int) : List Vil := vs.set who { (vs.getD who ⟨0, 0, []⟩) with likes := L }
theorem lieV_len (vs : List Vil) (who : Nat) (L : List Int) : (lieV vs who L).length = vs.length := by simp [lieV]
theorem lieV_other {vs : List Vil} {who : Nat} {L : List Int} {v : Nat} (h : v ≠ who) : (lieV vs who L).getD v ⟨0, 0, []⟩ = vs.getD v ⟨0, 0, []⟩ := by
  simp only [lieV, List.getD_eq_getElem?_getD, List.getElem?_set_ne (Ne.symm h)]
theorem lieV_who {vs : List Vil} {who : Nat} {L : List Int} (h : who < vs.length) : ((lieV vs who L).getD who ⟨0, 0, []⟩).likes = L := by
  simp [lieV, h]
theorem lieV_likes {vs : List Vil} {who n : Nat} {L : List Int} (h : ∀ v ∈ vs, PermOf n v.likes) (hL : PermOf n L) : ∀ v ∈ lieV vs who L, PermOf n v.likes := by
  intro v hv
  rcases List.mem_or_eq_of_mem_set hv with hv | hv
  · exact h v hv
  · subst hv; exact hL

theorem foldl_lie {vs : List Vil} {who : Nat} {L : List Int} : ∀ (order : List Int) (s : List Int × List Int), (∀ u ∈ order, u.toNat ≠ who) → order.foldl (drawStep (lieV vs who L)) s = order.foldl (drawStep vs) s
  | [], _, _ => rfl
  | u :: t, s, h => by
    have e : drawStep (lieV vs who L) s u = drawStep vs s u := by
      unfold drawStep
      rw [lieV_other (h u (by simp))]
    rw [List.foldl_cons, List.foldl_cons, e]
    exact foldl_lie t _ fun x hx => h x (by simp [hx])

theorem draw_more (vs : List Vil) : ∀ (order : List Int) (s : List Int × List Int), (order.foldl (drawStep vs) s).2.length ≤ s.2.length + order.length
  | [], s => by simp
  | u :: t, s => by
    have h := draw_more vs t (drawStep vs s u)
    have h2 : (drawStep vs s u).2.length ≤ s.2.length + 1 := by
      unfold drawStep
      split <;> simp
    rw [List.foldl_cons, List.length_cons]
    omega
theorem draw_honest {vs : List Vil} {n : Nat} {order L : List Int} {who : Nat} (hv : vs.length = n) (hlk : ∀ v ∈ vs, PermOf n v.likes) (hL : PermOf n L) (ho : PermOf n order) (hw : who < n) :
    rk vs who ((drawF vs n order).getD who 0) ≤ rk vs who ((drawF (lieV vs who L) n order).getD who 0) := by
  have hm : (who : Int) ∈ order := (ho.mem _).2 ⟨by omega, by omega⟩
  obtain ⟨pre, post, rfl⟩ := List.append_of_mem hm
  have hnd := ho.nodup
  have hpos : ∀ u ∈ pre ++ (who : Int) :: post, 0 ≤ u := fun u hu => ((ho.mem u).1 hu).1
  have hpre : ∀ u ∈ pre, u.toNat ≠ who := fun u hu e => by
    have h1 := hpos u (by simp [hu])
    have : u = (who : Int) := by omega
    subst this
    exact (List.nodup_append.1 hnd).2.2 (who : Int) hu (who : Int) (List.mem_cons_self ..) rfl
  have hpost : (who : Int) ∉ post := (List.nodup_cons.1 (List.nodup_append.1 hnd).2.1).1
  have hpp : ∀ u ∈ post, 0 ≤ u := fun u hu => hpos u (by simp [hu])
  have hlen : ((pre.foldl (drawStep vs) (List.replicate n 0, [])).1).length = n := by
    have := drawSt_len vs n pre (List.replicate n 0, [])
    simpa using this
  rw [drawF, drawF, drawSt, drawSt, List.foldl_append, List.foldl_append, foldl_lie pre _ hpre, List.foldl_cons, List.foldl_cons]
  rw [draw_keep vs post _ who hpp hpost, draw_keep (lieV vs who L) post _ who hpp hpost]
  have hfree : (pre.foldl (drawStep vs) (List.replicate n 0, [])).2.length < n := by
    have h1 := draw_more vs pre (List.replicate n 0, [])
    have h2 := ho.len
    simp at h1 h2
    omega
  generalize pre.foldl (drawStep vs) (List.replicate n 0, []) = s at *
  have hwl : who < vs.length := by omega
  have e1 : (vs.getD who ⟨0, 0, []⟩).likes = vs[who].likes := by simp [hwl]
  have hpw := hlk _ (List.getElem_mem hwl)
  have f1 := find_some (l := (vs.getD who ⟨0, 0, []⟩).likes) (t := s.2) (by rw [e1]; exact hpw.nodup) (by rw [e1, hpw.len]; exact hfree)
  have f2 := find_some (l := ((lieV vs who L).getD who ⟨0, 0, []⟩).likes) (t := s.2) (by rw [lieV_who hwl]; exact hL.nodup) (by rw [lieV_who hwl, hL.len]; exact hfree)
  obtain ⟨a, ha⟩ := f1
  obtain ⟨b, hb⟩ := f2
  have hbm := List.mem_of_find?_eq_some hb
  rw [lieV_who hwl] at hbm
  have hbf := List.find?_some hb
  have h3 := first_le (x := b) (by rw [e1]; exact hpw.nodup) ha (by rw [e1, hpw.mem, ← hL.mem]; exact hbm) hbf
  have g1 : (drawStep vs s (who : Int)).1.getD who 0 = a := by
    unfold drawStep
    rw [Int.toNat_natCast, ha]
    simp [hlen, hw]
  have g2 : (drawStep (lieV vs who L) s (who : Int)).1.getD who 0 = b := by
    unfold drawStep
    rw [Int.toNat_natCast, hb]
    simp [hlen, hw]
  rw [g1, g2]
  exact h3.2

theorem trade_honest {vs : List Vil} {first L : List Int} {who : Nat} (h4 : first.length ≤ 4) (hv : vs.length = first.length) (hlk : ∀ v ∈ vs, PermOf first.length v.likes) (hL : PermOf first.length L) (hp : PermOf first.length first) (hw : who < first.length) :
    rk vs who ((tradeF vs first).getD who 0) ≤ rk vs who ((tradeF (lieV vs who L) first).getD who 0) := by
  obtain ⟨p, r, ht, _, hg⟩ := trade_ttc h4 hv hp hlk
  obtain ⟨q, s, ht2, _, hg2⟩ := trade_ttc (vs := lieV vs who L) h4 (by rw [lieV_len, hv]) hp (lieV_likes hlk hL)
  have h := ht.honest ht2 (rkF_inj hv hp hlk) hw (fun v hvl hne => by
    funext u
    simp only [rkF, rk, lieV_other hne])
  rw [hg who hw, hg2 who hw]
  have hwl : who < vs.length := by omega
  have hpw := hlk _ (List.getElem_mem hwl)
  have nn : ∀ k, k < first.length → 0 ≤ rk vs who (first.getD k 0) := fun k hk => by
    rw [rk_at hwl, placeOf_nonneg, hpw.mem, ← hp.mem, List.getD_eq_getElem?_getD, List.getElem?_eq_getElem hk]
    exact List.getElem_mem hk
  have a1 := nn _ (ht.lt who hw)
  have a2 := nn _ (ht2.lt who hw)
  simp only [rkF] at h
  omega

end Go.Proofs.Ythchpoabncdicaa
